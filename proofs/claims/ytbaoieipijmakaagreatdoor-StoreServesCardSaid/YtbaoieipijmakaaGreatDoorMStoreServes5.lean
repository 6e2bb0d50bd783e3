/-
  It is proved what the functions that the law StoreServes reaches compute, part 5. There are no further conditions than those that each theorem names.
-/
import Derived.Test.YtbaoieipijmakaaGreatDoorMStoreServes4
set_option linter.unusedVariables false
set_option linter.unusedSimpArgs false
namespace Go.Proofs.YtbaoieipijmakaaGreatDoor
open Go.HL
theorem undDev:A80 PP 23=true:=by kernel_rfl
theorem neDev{L:A4}(a b c d a' b' c' d':Int){k:ShV (.lf .bool)->HP}(hk:k (!decide ((a,b,c,d)=(a',b',c',d'))) L):
  smP PP (binOp .neq 23 (.agg #[.i a,.i b,.i c,.i d]) (.agg #[.i a',.i b',.i c',.i d'])) (.lf .bool) k L:=by
 refine Db6 (r:=(a==a'&&(b==b'&&(c==c'&&(d==d'&&true))))) undDev (by kernel_rfl) ?_;have e:decide ((a,b,c,d)=(a',b',c',d'))=(a==a'&&(b==b'&&(c==c'&&(d==d'&&true)))):=by
  rw[D85];simp
 rw[e]at hk;exact hk
def Bu0(x:Av2)(d:Dev):Prop:=(((d.c.B:Int),(d.c.P:Int),(d.c.S:Int),(d.c.W:Int))=(x.1,x.2.1,x.2.2.1,x.2.2.2.1))/\(1<=x.2.2.2.2.1/\x.2.2.2.2.1<=64/\1<=x.2.2.2.2.2.1/\x.2.2.2.2.2.1<=8)/\Dn3 x=true
instance (x:Av2) (d:Dev):Decidable (Bu0 x d):=by unfold Bu0;infer_instance
def Ag9(x:Av2)(d:Dev)(now:Int):Option Sto×Int:=
 if Bu0 x d then(if d.down=true then(none,11)else match Bf1 (Ar9 x d) d now with
  |none=>(none,2)
  |some s=>(some s,0))else(none,30)
theorem Ct4{x:Av2}{d:Dev}(h:Bu0 x d):ScOk (Ar9 x d):=by
 obtain⟨h1,h2,h3⟩:=h;unfold Dn3 S2 at h3;simp only[Dv4,Dy0]at h3;obtain⟨⟨⟨⟨a,b⟩,c⟩,e⟩,f⟩:=h3;exact⟨⟨h2.1,h2.2.1⟩,⟨h2.2.2.1,h2.2.2.2⟩,a,b⟩
def OpenK(x:Av2)(m:Nat)(d:Dev)(now:Int)(A:A4)(r:Value)(L':A4):Prop:=
 (∃e,Ag9 x d now=(none,e)/\e≠0/\r= .t #[.q none,.i e]/\L'=A)\/
 (∃s p g,Ag9 x d now=(some s,0)/\r= .t #[.p p.n,.i 0]/\p.m=m/\L'=SL p s g/\SX p s g/\H4 s (R7 d).length)
def Da5(m:Nat)(nb:Option Addr)(nk nr nq ng ni:Nat)(sc:SC)(ep:Int):List Value:=
  [.i sc.c.B,.i sc.c.P,.i sc.c.S,.i sc.c.W,.i sc.sets,.i sc.ways,.i sc.small,.i sc.ghost,.i sc.rate,.i sc.burst,.i sc.seed,
   .p m,.q nb,.p nk,.map (some nr),.q none,.i ep,.slice none 0 0,.b false,
   .p nq,.p ng,.p ni]
theorem Cg4(L:A4)(x:Av2)(now:Int):Reads PP 36 #[.agg (ki11 x),.q none,.i now] L (.t #[.q none,.i 1]):=by
 unfold Reads;refine(c36 x none now).c ?_;exact ifT rfl (.of ⟨rfl,rfl⟩)
theorem Bd4(m:Nat)(d:Dev)(A:A4)(h:FH m d A)(ok:P6 d)(bR:d.torn.length<=999)(x:Av2)(now:Int):
  CallF PP 36 #[.agg (ki11 x),.p m,.i now] A (OpenK x m d now A):=by
 refine(c36 x (some m.z) now).c ?_;have hP:=ok.c.p;have hB:=ok.c.b;refine ifF rfl ?_;have bad: ∀{L J:A4},L.Perm (A++J)-> ¬Bu0 x d->HL.Ends (OpenK x m d now A) (.t #[.q none,.i 30]) L:=fun{L J} hp hn=>.drop (A:=A) (J:=J) (.inl ⟨30,by unfold Ag9;rw[Dq4 hn],by decide,rfl,rfl⟩) hp;by_cases rD:1<=x.2.2.2.2.1/\x.2.2.2.2.1<=64/\1<=x.2.2.2.2.2.1/\x.2.2.2.2.2.1<=8
 ·obtain⟨sets,sQ⟩: ∃k:Nat,x.2.2.2.2.1=k:=⟨x.2.2.2.2.1.toNat,by omega⟩;have nH:=Dl9 sets x.2.2.2.2.2.1 (by omega) (by omega) rD.2.2.1 rD.2.2.2;rw[<-sQ]at nH;refine G5 (A:=[]) (R:=A) nH (Dq8 _) ?_;rintro _ Ai ⟨ni,rfl,hAi⟩;refine⟨_,Dq8 _,(some ni.z,0,()),rfl,?_⟩;have aL:(Ai++A).Perm (A++Ai):=Du8;generalize Ai++A=L1 at aL;refine W2 (fun _ L'=>Bu0 x d/\L'=L1) ?_ ?_
  ·rintro _ _ ⟨nU,rfl⟩;dsimp only;have cT:=Ct4 nU;obtain⟨sc,gC⟩: ∃sc,sc=Ar9 x d:=⟨_,rfl⟩;cases aK:d.down with
   |true=>
    refine G5 (Ci7 m d A h aK) aL ?_;rintro _ _ ⟨rfl,cM⟩;rw[cM];refine⟨_,Dq8 _,((⟨none,0,0⟩,⟨none,0,0⟩,0,()),11,()),rfl,ifN (show¬((11:Int)=0) by decide) ?_⟩;exact .drop (A:=A) (J:=Ai) (.inl ⟨11,by unfold Ag9;rw[Dq5 nU,Dq5 aK],by decide,rfl,rfl⟩) (Dq8 _)
   |false=>
    have rI:Ag9 x d now=(match Bf1 sc d now with
      |none=>(none,2)
      |some s=>(some s,0)):=by unfold Ag9;rw[Dq5 nU,Dq4 (by rw[aK];decide),gC]
    refine G5 (Cz8 m d A h ok aK) aL ?_;rintro _ _ ⟨lv,hs,aN,vv,vseg,rfl,rfl,own,aA,bL,vown⟩;refine⟨_,Dq8 _,((lv,vv,Bg1 (H0 d),()),0,()),rfl,ifP rfl ?_⟩;dsimp only;have aH:((aN++(U4 hs++(vseg++A)))++Ai).Perm (U4 hs++(aN++(vseg++(A++Ai)))):=pc fun z=>by simp only[B4];omega
    generalize (aN++(U4 hs++(vseg++A)))++Ai=L2 at aH;refine G5 (A:=[]) (R:=L2) (C78 x.2.2.2.2.2.2.2.2.1 x.2.2.2.2.2.2.2.2.2.1 now 0) (Dq8 _) ?_;rintro _ _ ⟨nk,rfl,rfl⟩;refine⟨(nk,Bc4 (Al7 x.2.2.2.2.2.2.2.2.1 x.2.2.2.2.2.2.2.2.2.1 now 0))::L2,Dq8 _,(some nk.z,()),rfl,?_⟩;refine G5 (A:=[]) (R:=(nk,Bc4 (Al7 x.2.2.2.2.2.2.2.2.1 x.2.2.2.2.2.2.2.2.2.1 now 0))::L2) (C06 x.2.2.2.2.2.2.1) (Dq8 _) ?_;rintro _ Aq ⟨nq,rfl,ed⟩;refine⟨Aq++((nk,Bc4 (Al7 x.2.2.2.2.2.2.2.2.1 x.2.2.2.2.2.2.2.2.2.1 now 0))::L2),Dq8 _,(some nq.z,()),rfl,?_⟩;refine G5 (A:=[]) (R:=Aq++((nk,Bc4 (Al7 x.2.2.2.2.2.2.2.2.1 x.2.2.2.2.2.2.2.2.2.1 now 0))::L2)) (Dn0 x.2.2.2.2.2.2.2.1) (Dq8 _) ?_;rintro _ _ ⟨ng,go,rfl,rfl,fV⟩;refine⟨(ng,go)::(Aq++((nk,Bc4 (Al7 x.2.2.2.2.2.2.2.2.1 x.2.2.2.2.2.2.2.2.2.1 now 0))::L2)),Dq8 _,(some ng.z,()),rfl,C4 fun n3 _=>C4 fun n4 _=>?_⟩;have iF:=cT.sm;have gW:=cT.gs;have esm:Aa2 x.2.2.2.2.2.2.1 0=sc.small:=by rw[gC];show Aa2 (Ar9 x d).small 0=_;unfold Aa2;split<;>omega
    have egs:Ad3 (Aa2 x.2.2.2.2.2.2.2.1 0) 64=sc.ghost:=by rw[gC];show Ad3 (Aa2 (Ar9 x d).ghost 0) 64=_;unfold Aa2 Ad3;split<;>split<;>omega
    rw[esm]at ed;rw[egs]at fV;obtain⟨F,hF⟩: ∃F:A4,F=aN++(vseg++(A++(Ai++((nk,Bc4 (Al7 sc.rate sc.burst now 0))::(Aq++[(ng,go)]))))):=⟨_,rfl⟩;obtain⟨so,sL⟩: ∃so:Nat×Obj,so=(n4,Obj.cells (Da5 m none nk n3 nq ng ni sc (Bg1 (H0 d))).toArray 89):=⟨_,rfl⟩;have uV:((d.c.B:Int),(d.c.P:Int),(d.c.S:Int),(d.c.W:Int))=(x.1,x.2.1,x.2.2.1,x.2.2.2.1):=nU.1;simp only[Dx0]at uV;have eso:(n4,Obj.cells #[.i x.1,.i x.2.1,.i x.2.2.1,.i x.2.2.2.1,.i x.2.2.2.2.1,.i x.2.2.2.2.2.1,.i x.2.2.2.2.2.2.1,.i x.2.2.2.2.2.2.2.1,.i x.2.2.2.2.2.2.2.2.1,.i x.2.2.2.2.2.2.2.2.2.1,.i x.2.2.2.2.2.2.2.2.2.2.1,.p m,.q none,.p nk,.map (some n3),.q none,.i (Bg1 (H0 d)),.slice none 0 0,.b false,.p nq,.p ng,.p ni] 89)=so:=by
     rw[sL,gC,<-uV.1,<-uV.2.1,<-uV.2.2.1,<-uV.2.2.2];rfl
    rw[eso];have rQ:hs.length<=16:=by
     have h1:=congrArg List.length bL;rw[Dr1]at h1;have h2:=(O7 epK (A69 d d.c.B)).length_eq;have h3:=Ay0 d d.c.B;unfold H0 at h1;omega
    have hlv:=own.sl.els_len HE.enc_len (by decide);have bV:(hs.map HE.b).Nodup:=by
     have h1:=Al1 d;unfold A63 at h1;rw[<-bL,Dv2]at h1;exact h1
    have l14: ∀{L:A4},so∈L->C9 ⟨n4,14,none⟩ [.map (some n3)] L:=fun hm=>by rw[sL]at hm;exact ldC hm rfl
    refine G7 (fun z' z L'=> ∃(i:Nat) (ns:List RN) (uv:SlV) (useg:A4) (es:Array MapEntry) (ck:Nat) (J:A4),z=(uv,(i:Int),())/\z'=hs.length-i/\i<=hs.length/\ns.map RN.r=(hs.take i).map (fun q=>Bo0 q.dat)/\(∀y∈ns,y.Ok)/\Mp (Value.i) es (Y7 ns)/\Own uv 1 B74 (ivs .i64 ((hs.take i).map HE.b)) useg/\L'.Perm (so::((n3,Obj.map es ck)::(useg++(rns ns++(U4 (hs.drop i)++(F++J))))))) hs.length
     ⟨0,[],⟨none,0,0⟩,[],#[],0,[],rfl,rfl,by omega,rfl,by simp,rfl,F6,(pc fun z=>by have:=pcn aH z;rw[hF,gC];simp only[D06,show rns []=[]from rfl,show(Ar9 x d).rate=x.2.2.2.2.2.2.2.2.1 from rfl,show(Ar9 x d).burst=x.2.2.2.2.2.2.2.2.2.1 from rfl,B4,C5,D5]at*;omega)⟩ ?_
    rintro z' z L3 ⟨i,ns,uv,useg,es,ck,J,rfl,rfl,hi,tQ,tR,oK,cA,aZ⟩;dsimp only;have sR: ∀y∈aN,y∈L3:=fun y hy=>aZ.symm.subset (by rw[hF];simp[hy]);have hso3:so∈L3:=aZ.symm.subset (by simp);refine B6 (fun(hO:(i:Int)<lv.len)=>?_) (fun(aS: ¬(i:Int)<lv.len)=>?_)
    ·have hJ:i<hs.length:=by omega
     refine W5 HE.enc_len (by decide) (own.sl.mono sR) (n:=i) rfl hJ fun a ha=>?_;have lZ:hs.drop i=hs[i]::hs.drop (i+1):=Dv1 hJ;have dZ:hs.take (i+1)=hs.take i++[hs[i]]:=Ds4 hJ;have jK:hs[i].b∉(hs.take i).map HE.b:=by
      have h1:=bV;rw[<-Dw1 i hs,lZ,Ds2,Ds3,Dx3]at h1;exact fun hm=>h1.2.2 _ hm _ (by simp) rfl
     have sW:=aA _ (Dr7 hJ);generalize hs[i]=q at ha lZ dZ jK sW;refine A6 (sh:=Z5) (q.b,q.ep,q.v,()) ha ?_;have xB:=cA.sl.len;rw[Dt8,N1,Dr1,Ds0]at xB;refine Am5 Bj4 Cg3 cA (Y:=so::((n3,Obj.map es ck)::(rns ns++(U4 (hs.drop i)++(F++J))))) (ws:=[.i q.b]) (pc fun z=>by have:=pcn aZ z;simp only[B4,C5]at*;omega) rfl rfl (by omega) fun uv' useg' bZ xE=>?_;refine A6 (some n3) (l14 (by simp)) (C4 fun n7 _=>?_);obtain⟨y,hy⟩: ∃y:RN,y=⟨Bo0 q.dat,n7,q.v,q.seg⟩:=⟨_,rfl⟩;have eyo:(n7,Obj.cells #[Value.i q.b,.i q.ep,.i 0,.slice q.v.a q.v.len q.v.cap] 156)=y.o:=by rw[hy];rfl
     rw[eyo];refine Ao3 mapR (r:=n3) (es:=es) (clock:=ck) (m:=Y7 ns) (Y:=y.o::(so::(useg'++(rns ns++(U4 (hs.drop i)++(F++J)))))) (pc fun z=>by simp only[B4,C5];omega) oK q.b (.p n7) fun es' ck' L4 tW dB=>?_;refine D6 (by omega) ⟨hs.length-(i+1),by omega,i+1,ns++[y],uv',useg',es',ck',J,rfl,rfl,by omega,?_,?_,?_,?_,?_⟩
     ·rw[dZ,Ds2,Ds2,tQ,hy];rfl
     ·intro w hw;rcases Dr5.1 hw with hw|hw
      ·exact tR w hw
      ·rw[Dr2.1 hw,hy];exact sW
     ·rw[A33 _ _ _ (by rw[A96,tQ,Dv2];exact jK)]at tW;have:Y7 (ns++[y])=Y7 ns++[(q.b,.p n7)]:=by unfold Y7;rw[Ds2,hy];rfl
      rw[this];exact tW
     ·rw[dZ,Ds2,Ae2];exact xE
     ·refine pc fun z=>?_;have:=pcn dB z;have e1:y.objs=y.o::q.seg:=by rw[hy];rfl
      rw[lZ]at this;have e2:U4 (q::hs.drop (i+1))=q.seg++U4 (hs.drop (i+1)):=rfl;rw[e2]at this;rw[Ci3,As8,e1];simp only[B4,C5]at*;omega
    ·obtain rfl:i=hs.length:=by omega
     rw[Ds9]at tQ cA;rw[D90]at aZ;have oF:(hs.map fun q=>Bo0 q.dat)=U6 d:=by unfold U6;rw[<-bL,Dv2];rfl
     rw[oF]at tQ;have wA:hs.map HE.b=(U6 d).map Reg.b:=by rw[<-oF,Dv2];rfl
     rw[wA]at cA;have eZ:=cA.sl.len;rw[Dt8,N1]at eZ;have sG:((U6 d).map Reg.b).length<=16:=by rw[<-wA,Dr1];exact rQ
     refine G5 (B99 m d A h ok) (R:=so::((n3,Obj.map es ck)::(useg++(rns ns++(aN++(vseg++(Ai++((nk,Bc4 (Al7 sc.rate sc.burst now 0))::(Aq++((ng,go)::J)))))))))) (pc fun z=>by have:=pcn aZ z;rw[hF]at this;simp only[show U4 []=[]from rfl,B4,C5,D5]at*;omega) ?_;rintro _ _ ⟨sv,sseg,rfl,rfl,sown⟩;refine⟨_,Dq8 _,(sv,()),rfl,?_⟩;refine S8 (Dp0 _ sv (Aw9 d) (sown.sl.mono fun y hy=>by simp[hy]) uv ((U6 d).map Reg.b) (cA.sl.mono fun y hy=>by simp[hy]) (by omega)) ?_;intro rv L5 _ hK;unfold A68 at hK;cases jK:Ah1 (Aw9 d) ((U6 d).map Reg.b)with
     |none=>
      rw[jK]at hK;obtain⟨rfl,rfl⟩:=hK;refine⟨(none,2,()),rfl,?_⟩;have lJ:Ag9 x d now=(none,2):=by rw[rI];unfold Bf1;rw[jK];rfl
      refine st1 (n:=n4) (k:=12) (Da5 m none nk n3 nq ng ni sc (Bg1 (H0 d))) (cs:=Da5 m none nk n3 nq ng ni sc (Bg1 (H0 d))) (T:=89) (Y:=sseg++(A++((n3,Obj.map es ck)::(useg++(rns ns++(aN++(vseg++(Ai++((nk,Bc4 (Al7 sc.rate sc.burst now 0))::(Aq++((ng,go)::J))))))))))) (pc fun z=>by rw[<-sL];simp only[B4,C5];omega) (by simp[Da5]) rfl fun L6 iT=>?_;refine ifN (show¬((2:Int)=0) by decide) ?_;rw[<-sL]at iT;exact .drop (A:=A) (J:=so::(sseg++((n3,Obj.map es ck)::(useg++(rns ns++(aN++(vseg++(Ai++((nk,Bc4 (Al7 sc.rate sc.burst now 0))::(Aq++((ng,go)::J))))))))))) (.inl ⟨2,lJ,by decide,rfl,rfl⟩) (pc fun z=>by have:=pcn iT z;simp only[B4,C5]at*;omega)
     |some rr=>
      rw[jK]at hK;obtain⟨nb,Ab,rfl,rfl,hAb,-⟩:=hK;refine⟨(some nb.z,0,()),rfl,?_⟩;obtain⟨r1,r2,r3,r4⟩:=B85 jK;obtain⟨s0,dH⟩: ∃s0,s0=Bv3 sc d now rr.1:=⟨_,rfl⟩;have lJ:Ag9 x d now=(some (Ac7 (R7 d) s0),0):=by rw[rI];unfold Bf1;rw[jK,dH];rfl
      obtain⟨p,hp⟩: ∃p:SP,p=⟨n4,m,nb,nk,n3,nq,ng,ni⟩:=⟨_,rfl⟩;obtain⟨g,hg⟩: ∃g:SG,g=⟨ns,none,es,ck,⟨none,0,0⟩,[],A,Ab,Aq,Ai,go⟩:=⟨_,rfl⟩;have dm:d.c=sc.c:=by rw[gC];rfl
      have hX:SX p s0 g:=by
       subst hp;subst hg;subst dH;refine⟨dm,h,?_,ed,fV,?_,?_,tQ,rfl,?_,F6⟩
       ·have e:(Bv3 sc d now rr.1).us=rr.2:=by rw[r1];show(U6 d).map Reg.b++[]=_;simp
        rw[e];exact hAb
       ·have e:sc.sets.toNat=sets:=by rw[gC];show x.2.2.2.2.1.toNat=sets;omega
        show IX ni sc.ways (List.replicate sc.sets.toNat []) Ai;rw[e,gC];exact hAi
       ·show Mp _ es (Y7 (ns++[]));rw[Dr3];exact oK
       ·intro y hy;have:y∈ns:=by unfold SG.all at hy;simpa using hy
        exact tR y this
      have aP:stO p s0 g=(n4,Obj.cells (Da5 m (some nb.z) nk n3 nq ng ni sc (Bg1 (H0 d))).toArray 89):=by
       subst hp;subst hg;subst dH;rfl
      refine st1 (n:=n4) (k:=12) (Da5 m (some nb.z) nk n3 nq ng ni sc (Bg1 (H0 d))) (cs:=Da5 m none nk n3 nq ng ni sc (Bg1 (H0 d))) (T:=89) (Y:=Ab++(sseg++(A++((n3,Obj.map es ck)::(useg++(rns ns++(aN++(vseg++(Ai++((nk,Bc4 (Al7 sc.rate sc.burst now 0))::(Aq++((ng,go)::J)))))))))))) (pc fun z=>by rw[<-sL];simp only[B4,C5];omega) (by simp[Da5]) rfl fun L6 iT=>?_;rw[<-aP]at iT;have iT:L6.Perm (SL p s0 g++(vseg++(sseg++(useg++(aN++J))))):=pc fun z=>by
       have:=pcn iT z;have e2:kO p s0=(nk,Bc4 (Al7 sc.rate sc.burst now 0)):=by rw[hp,dH];rfl
       have e3:mO p g=(n3,Obj.map es ck):=by rw[hp,hg];rfl
       have e4:gO p g=(ng,go):=by rw[hp,hg];rfl
       simp only[SL,e2,e3,e4,B4,C5,D5];simp only[hg,show rns (none:Option RN).toList=[]from rfl,B4,C5,D5]at*;omega
      refine ifP rfl ?_;have kK:SOk s0 0:=by rw[dH];exact Cg0 ok dm aK bR (by rw[gC];exact cT) jK
      have wF:=vown.sl.els_len LE.enc_len (by decide);have hvle:=Bg6 ok;refine G7 (fun z' z L'=> ∃(i:Nat) (g':SG),z=((i:Int),())/\z'=(R7 d).length-i/\i<=(R7 d).length/\SX p (Ac7 ((R7 d).take i) s0) g'/\L'.Perm (SL p (Ac7 ((R7 d).take i) s0) g'++(vseg++(sseg++(useg++(aN++J)))))) (R7 d).length ⟨0,g,rfl,rfl,by omega,hX,iT⟩ ?_;rintro z' z L7 ⟨i,g',rfl,rfl,hi,X',jS⟩;dsimp only;refine B6 (fun(hO:(i:Int)<vv.len)=>?_) (fun(aS: ¬(i:Int)<vv.len)=>?_)
      ·have hJ:i<(R7 d).length:=by omega
       have dZ:(R7 d).take (i+1)=(R7 d).take i++[(R7 d)[i]]:=Ds4 hJ;refine W5 LE.enc_len (by decide) (vown.sl.mono fun y hy=>jS.symm.subset (by simp[hy])) (n:=i) rfl hJ fun a ha=>?_;have oN:=Bg7 ((R7 d).take i) kK fun y hy=>Cm8 y (D25 hy);have jX:((R7 d)[i]).1.size<=1000000:=by
        have:=(Bg5 (Dr7 hJ)).fetch.2;rw[<-this,Bq6];have:=(Bs7 d ((R7 d)[i]).2).1;omega
       generalize (R7 d)[i]=y at ha dZ jX;refine A6 (sh:=Z6) y ha ?_;have yF:Value.p n4= .p p.n:=by rw[hp]
       rw[yF];refine G5 (B29 p _ g' X' oN.1.wy.1 y.1 jX (oN.1.row _).len (Dt1 oN.1.pl (by rw[Ds0];omega)) y.2) jS ?_;rintro _ _ ⟨g2,mU,X2,rfl⟩;rw[Dr3]at mU;rw[mU];have jW:Ac7 ((R7 d).take (i+1)) s0=(Ac7 ((R7 d).take i) s0).list y.1 y.2:=by rw[dZ];unfold Ac7;rw[Ec3];rfl
       refine⟨_,Dq8 _,(),rfl,D6 (by omega) ⟨(R7 d).length-(i+1),by omega,i+1,g2,rfl,rfl,by omega,by rw[jW];exact X2,by rw[jW]⟩⟩
      ·obtain rfl:i=(R7 d).length:=by omega
       rw[Ds9]at X' jS;have oN:=Bg7 (R7 d) kK Cm8;refine .drop (A:=SL p (Ac7 (R7 d) s0) g') (J:=vseg++(sseg++(useg++(aN++J)))) (.inr ⟨_,p,g',lJ,by rw[hp],by rw[hp],rfl,X',⟨oN.1.upto (by omega),fun _=>by rw[oN.2.1,dH];exact Dv6 _⟩⟩) jS
  ·intro j1 bP;refine B5 (Ae9 ⟨Ai,aL⟩ h) ((d.c.B,d.c.P,d.c.S,d.c.W,()),()) rfl ?_;refine neDev _ _ _ _ _ _ _ _ ?_;refine G1 (fun aE=>bad aL fun hc=>?_) (fun aE=>?_)
   ·rw[show decide (((d.c.B:Int),(d.c.P:Int),(d.c.S:Int),(d.c.W:Int))=(x.1,x.2.1,x.2.2.1,x.2.2.2.1))=true from Dt2 hc.1]at aE;cases aE
   ·have lX:(((d.c.B:Int),(d.c.P:Int),(d.c.S:Int),(d.c.W:Int))=(x.1,x.2.1,x.2.2.1,x.2.2.2.1)):=by
     by_cases hh:(((d.c.B:Int),(d.c.P:Int),(d.c.S:Int),(d.c.W:Int))=(x.1,x.2.1,x.2.2.1,x.2.2.2.1))
     ·exact hh
     ·rw[show decide (((d.c.B:Int),(d.c.P:Int),(d.c.S:Int),(d.c.W:Int))=(x.1,x.2.1,x.2.2.1,x.2.2.2.1))=false from Ds7 hh]at aE;cases aE
    have hq:=lX;simp only[Dx0]at hq;refine ifP rfl ?_;refine B5 (fit_rd L1 x (by omega)) (Dn3 x,()) rfl ?_;exact G1 (fun hf=>bP _ _ ⟨⟨lX,rD,hf⟩,rfl⟩) (fun hf=>bad aL fun hc=>by have h9:=hc.2.2;rw[show Dn3 x=false from hf]at h9;cases h9)
 ·refine B5 (C41 A x.2.2.2.2.1 x.2.2.2.2.2.1 (by omega)) (none,30,()) rfl ?_;have hn: ¬Bu0 x d:=fun hc=>rD hc.2.1;refine W2 (fun _ _=>False) (fun _ _ hf=>hf.elim) fun j1 _=>?_;refine B5 (Ae9 ⟨[],by simp⟩ h) ((d.c.B,d.c.P,d.c.S,d.c.W,()),()) rfl ?_;refine neDev _ _ _ _ _ _ _ _ ?_;exact G1 (fun _=>bad (J:=[]) (by simp) hn) (fun _=>ifN (show¬((30:Int)=0) by decide) (bad (J:=[]) (by simp) hn))
theorem cls_le{n p m:Int}(hm:Ce3 m)(h:n<=m):cls n p<=m:=by
 unfold Ce3 at hm;simp only[cls,Bl2]
 repeat' split
 all_goals omega
theorem cls_in{n p:Int}(h:cls n p≠0):Ce3 (cls n p):=by
 unfold Ce3;simp only[cls,Bl2]at h⊢
 repeat' split
 all_goals first|omega|(exfalso;rename_i h1 _ _ _;simp_all)
theorem Cn7{b:List UInt8}(h:(T9 b).2.2=0):(T9 b).1.length+(T9 b).2.1.length+12=b.length:=by
 obtain⟨-,q2,-,q4⟩:=V7 (b:=b) (a:=0) (Dv6 _);obtain⟨-,w2,-,w4⟩:=V7 (b:=b) (a:=(F8 b 0).2.1) q2;have hg:=(Aj3 b (F8 b (F8 b 0).2.1).2.1 4).2.2.2;unfold T9 at h⊢;split at h
 ·rename_i h1;exact absurd h h1
 ·rename_i h1;rw[Dq4 h1];split at h
  ·rename_i h2;exact absurd h h2
  ·rename_i h2;rw[Dq4 h2];split at h
   ·rename_i h3;exact absurd h h3
   ·rename_i h3;rw[Dq4 h3];split at h
    ·cases h
    ·rename_i h4;rw[Dq4 h4];split at h
     ·cases h
     ·rename_i h5;rw[Dq4 h5];have e1:=q4 (Dt6.1 h1);have e2:=w4 (Dt6.1 h2);have e3:=hg (Dt6.1 h3);simp only;omega
theorem Bb4{r:Nat}: ∀{l:List (List UInt8)},(∀x∈l,x.length<=r)->l.flatten.length<=l.length*r
 |[],_=>by simp
 |x::t,h=>by
  have h1:=Bb4 (l:=t) fun y hy=>h y (by simp[hy]);have h2:=h x (by simp);rw[D55,Dr4,Dr8,D03];omega
theorem Dh7{d:Dev}(ok:P6 d){b p:Int}{l:List UInt8}(h:(H2 d b p).1=l)(h64:64<=l.length):l.length=d.c.S:=by
 have hP:=ok.c.p;unfold H2 at h;split at h
 ·rw[<-h]at h64;exact absurd h64 (show¬64<=([]:List UInt8).length by decide)
 ·split at h
  ·rw[<-h]at h64;exact absurd h64 (show¬64<=([]:List UInt8).length by decide)
  ·rename_i k hk;split at h
   ·rw[<-h];unfold blk;simp
   ·rw[<-h]at h64⊢;simp only[Dt0]at h64⊢;cases hq:k.pages[p.toNat]? with
    |none=>rw[hq]at h64;exact absurd h64 (show¬64<=([]:List UInt8).length by decide)
    |some pg=>exact(ok.pg k (Dx2 hk)).2 pg (Dx2 hq)
theorem C17{d:Dev}(ok:P6 d){b pg:Int}:(K8 d b pg).2.1.length<=d.c.S-16:=by
 unfold K8;split
 ·split
  ·rename_i h;obtain⟨a1,-,a3,-,-⟩:=An5 h;rw[Dh7 ok rfl a1.1]at a3;exact a3
  ·simp
 ·simp
theorem Bo8{d:Dev}(ok:P6 d){b pg:Int}: ∀{n:Nat} {l:List (List UInt8)},M4 d b pg n=some l-> ∀x∈l,x.length<=d.c.S-16
 |0,l,h=>by obtain rfl:=Dq9 h;simp
 |n+1,l,h=>by
  rw[M4]at h;split at h
  ·rename_i l' bZ;split at h
   ·obtain rfl:=Dq9 h;intro x hx;rcases Dr5.1 hx with hx|hx
    ·exact Bo8 ok bZ x hx
    ·rw[Dr2.1 hx];exact C17 ok
   ·cases h
  ·cases h
theorem Ak7{d:Dev}(ok:P6 d){p:It}(h:(A9 d p).2.2=0): ∃k pg,D7 d p.1=some k/\k.pages[p.2.1.toNat]?=some pg/\(E0 pg).2.2=0/\(E0 pg).1.1=2/\((A9 d p).1.length+(A9 d p).2.1.length+12:Int)<=(E0 pg).1.2.2.1*(d.c.S-16:Int):=by
 have hS:=ok.c.s;unfold A9 at h⊢;split at h
 ·rename_i h0;exact absurd h h0
 ·rename_i h0;rw[Dq4 h0];split at h
  ·rename_i h1;rw[Dq5 h1];split at h
   ·rename_i l hl;obtain⟨hp,hh⟩:=h1;obtain⟨r1,r2,r3⟩:=A30 hp;obtain⟨-,r4,r5,-,-⟩:=An5 r2;rw[r3]at hh hl;have hC:=(An0 ok hl).1;have fM:=Bb4 (Bo8 ok hl);rw[hC]at fM;have hj:=Cn7 h;have hf:G9 d p.1 p.2.1=0:=by rw[<-Ao8 ok];exact r1
    obtain⟨-,f1,f2,f3,f4⟩:=Ad0 hf;have hi:p.1.toNat<d.bs.length:=by omega
    obtain⟨pg,aY⟩: ∃pg,pg=(H2 d p.1 p.2.1).1:=⟨_,rfl⟩;have dA:=aY;unfold H2 at dA;rw[Dq4 (by simpa using hf),Dr9 hi]at dA;dsimp only at dA;rw[<-aY]at r2 hh hl fM r4;have tG:1<=(E0 pg).1.2.2.1:=by
     have:=Ac9 r4;omega
    split at dA
    ·rw[dA]at r2;exact absurd r2 (An9 _)
    ·have aW:=(ok.pg d.bs[p.1.toNat] (Dr7 hi)).1;refine⟨d.bs[p.1.toNat],pg,?_,?_,r2,hh.1,?_⟩
     ·unfold D7;rw[Dq5 f1,Dr9 hi]
     ·rw[dA];show _=some ((d.bs[p.1.toNat]).pages.getD p.2.1.toNat []);rw[Dt0,Dr9 (by omega)];rfl
     ·have e1:(((E0 pg).1.2.2.1.toNat*(d.c.S-16):Nat):Int)=(E0 pg).1.2.2.1*(d.c.S-16:Int):=by
       rw[D36,D17 (by omega),D98 (by omega)];rfl
      rw[<-e1];omega
   ·cases h
  ·cases h
theorem Af6{key val:List UInt8}{c:Cf}(h:(J5 key val c).2=0):C72 c.2.1 (J5 key val c).1.length:=by
 unfold J5 at h⊢;split at h
 ·cases h
 ·rename_i h1;rw[Dq4 h1];split at h
  ·cases h
  ·rename_i h2;rw[Dq4 h2];split at h
   ·cases h
   ·rename_i h3;rw[Dq4 h3];have hc:Ce3 (F9 key.length val.length c):=by
     unfold F9 at h3⊢;split at h3
     ·exact absurd rfl h3
     ·rename_i h4;rw[Dq4 h4];exact cls_in h3
    have bH:0<=F9 key.length val.length c:=by unfold Ce3 at hc;omega
    have bS:=(Aa1 h3).2.2.2.2.2.2.2.1;show C72 c.2.1 ((Y4 _ _ _).length:Nat);unfold Y4;rw[Dr1,D16,D17 bH];exact⟨hc,by omega⟩
theorem B76{key val:List UInt8}{c:Cf}{m:Int}(hm:Ce3 m)(h:(key.length+val.length+12:Int)<=m*B7 c.2.2.1):((J5 key val c).1.length:Int)<=m:=by
 have qE:1<=m:=by unfold Ce3 at hm;omega
 unfold J5;split
 ·show((0:Nat):Int)<=m;omega
 ·split
  ·show((0:Nat):Int)<=m;omega
  ·split
   ·show((0:Nat):Int)<=m;omega
   ·rename_i h3;obtain⟨-,-,-,-,h0,h1,-⟩:=Aa1 h3;have hr:=V2 h0;show((Y4 _ _ _).length:Int)<=m;unfold Y4;rw[Dr1,D16,D17 (by omega)];unfold F9 at h3⊢;split at h3
    ·exact absurd rfl h3
    ·rename_i h4;rw[Dq4 h4];refine cls_le hm (Int.lt_add_one_iff.1 (Eg6 (by omega) ?_));rw[Dw3];omega
section
variable {d:Dev}
theorem Di8(h0:0<=d.bytes)(h1:d.bytes+d.c.S<=4611686018427387904)(b p:Int)(data:List UInt8):d.bytes<=(prog d b p data).2.bytes/\(prog d b p data).2.bytes<=d.bytes+d.c.S:=by
 unfold prog;split
 ·exact⟨Du5 _,by simp only;omega⟩
 ·split
  ·exact⟨Du5 _,by simp only;omega⟩
  ·split
   ·exact⟨Du5 _,by simp only;omega⟩
   ·split
    ·exact⟨Du5 _,by simp only;omega⟩
    ·split
     ·exact⟨Du5 _,by simp only;omega⟩
     ·have e:(W6 (H9 d)).2.bytes=d.bytes+d.c.S:=by
       rw[(Av3 (H9 d)).2.2.2.1];exact C1 (by omega) (by omega)
      unfold Ap3;split
      ·simp only[e];omega
      ·simp only[e];omega
theorem Be7(h0:0<=d.bytes)(h1:d.bytes+d.c.S<=4611686018427387904)(b:Int)(h:Hd)(p:List UInt8):d.bytes<=(M9 d b h p).2.bytes/\(M9 d b h p).2.bytes<=d.bytes+d.c.S:=by
 unfold M9;split
 ·exact⟨Du5 _,by simp only;omega⟩
 ·exact Di8 h0 h1 ..
end
theorem Cu9(b ep at' kind n:Int): ∀(l:List (List UInt8)) {d:Dev} (i:Nat),0<=d.bytes->d.bytes+l.length*(d.c.S:Int)<=4611686018427387904->d.bytes<=(W8 b ep at' kind n d i l).2.bytes/\(W8 b ep at' kind n d i l).2.bytes<=d.bytes+l.length*(d.c.S:Int)
 |[],d,i,h0,h1=>by
  show d.bytes<=d.bytes/\d.bytes<=d.bytes+((0:Nat):Int)*(d.c.S:Int);simp
 |p::r,d,i,h0,h1=>by
  have e:(((p::r).length:Nat):Int)*(d.c.S:Int)=r.length*(d.c.S:Int)+d.c.S:=by rw[Dr8,Eb6,Dw3];simp
  have hr:0<=(r.length:Int)*(d.c.S:Int):=Dx8 (by omega) (by omega);rw[e]at h1⊢;have h2:=Be7 h0 (by omega) b (kind,i,n,ep,at'+i,()) p;have hc:=Am9 d b (kind,i,n,ep,at'+i,()) p;unfold W8;split
  ·have h3:=Cu9 b ep at' kind n r (d:=(M9 d b (kind,i,n,ep,at'+i,()) p).2) (i+1) (by omega) (by rw[hc];omega);rw[hc]at h3;omega
  ·omega
theorem Dp2{d:Dev}(b ep at' kind:Int)(l:List (List UInt8))(h0:0<=d.bytes)(h1:d.bytes+l.length*(d.c.S:Int)<=4611686018427387904):d.bytes<=(Ah3 d b ep at' kind l).2.bytes/\(Ah3 d b ep at' kind l).2.bytes<=d.bytes+l.length*(d.c.S:Int):=by
 have hr:0<=(l.length:Int)*(d.c.S:Int):=Dx8 (by omega) (by omega);unfold Ah3;split
 ·exact⟨Du5 _,by simp only;omega⟩
 ·exact Cu9 b ep at' kind _ l 0 h0 h1
theorem Cz1{d:Dev}(b ep at':Int)(l:List It)(h0:0<=d.bytes)(h1:d.bytes+d.c.S<=4611686018427387904):d.bytes<=(T2 d b ep at' l).2.bytes/\(T2 d b ep at' l).2.bytes<=d.bytes+d.c.S:=by
 unfold T2;split
 ·exact Be7 h0 h1 ..
 ·exact⟨Du5 _,by simp only;omega⟩
theorem Cr8(d:Dev)(b:Int):(E7 d b).2.bytes=d.bytes:=by
 unfold E7;split
 ·rfl
 ·split
  ·rfl
  ·split
   ·rfl
   ·have e:=(Av3 d).2.2.2.1;unfold Ai6;split<;>exact e
structure SBk(s:Sto):Prop where
 db:DB s.d
 rs: ∀r∈s.rs,Y5 s.d r.b r.l
 op: ∀o,s.op=some o->Y5 s.d o.b o.l/\ ∀x∈o.l,0<=x.2.1/\x.2.1<o.nx
def HB(s:Sto):Prop:=0<=s.d.bytes/\s.d.bytes+s.bk.tokens<=4611686018427387904
structure By(s s':Sto):Prop where
 a:s.d.bytes<=s'.d.bytes
 b:s'.d.bytes+s'.bk.tokens<=s.d.bytes+s.bk.tokens
 k:s'.bk.last=s.bk.last/\s'.bk.rate=s.bk.rate/\s'.bk.burst=s.bk.burst
theorem By.refl(s:Sto):By s s:=⟨Du5 _,Du5 _,rfl,rfl,rfl⟩
theorem By.trans{a b c:Sto}(h:By a b)(k:By b c):By a c:=⟨D21 h.a k.a,D21 k.b h.b,k.k.1.trans h.k.1,k.k.2.1.trans h.k.2.1,k.k.2.2.trans h.k.2.2⟩
theorem By.hb{s s':Sto}(h:By s s')(hb:HB s):HB s':=by
 obtain⟨h0,h1⟩:=hb;have:=h.a;have:=h.b;exact⟨by omega,by omega⟩
theorem By.congr{s s1 s2:Sto}(h:By s s1)(h1:s2.d=s1.d)(h2:s2.bk=s1.bk):By s s2:=⟨by rw[h1];exact h.a,by rw[h1,h2];exact h.b,by rw[h2];exact h.k⟩
structure BR(s s':Sto):Prop where
 sb:SBk s'
 by':By s s'
theorem SBk.br{s:Sto}(h:SBk s):BR s s:=⟨h,.refl s⟩
theorem BR.trans{a b c:Sto}(h:BR a b)(k:BR b c):BR a c:=⟨k.sb,h.by'.trans k.by'⟩
theorem SBk.congr{s s':Sto}(h:SBk s)(h1:s'.d=s.d)(h2:s'.rs=s.rs)(h3:s'.op=s.op):SBk s':=⟨by rw[h1];exact h.db,by rw[h1,h2];exact h.rs,by rw[h1,h3];exact h.op⟩
theorem BR.congr{s s1 s2:Sto}(h:BR s s1)(h1:s2.d=s1.d)(h2:s2.rs=s1.rs)(h3:s2.op=s1.op)(h4:s2.bk=s1.bk):BR s s2:=⟨h.sb.congr h1 h2 h3,h.by'.congr h1 h4⟩
theorem Y5.app{d:Dev}{b:Int}{l l':List It}(h:Y5 d b l)(h':Y5 d b l'):Y5 d b (l++l'):=fun k hk x hx=>by
 rcases Dr5.1 hx with hx|hx
 ·exact h k hk x hx
 ·exact h' k hk x hx
section
variable {s:Sto} {M:Nat}
theorem An2{n:Int}(h:s.pays n=true):n*(s.sc.c.S:Int)<=s.bk.tokens:=by
 unfold Sto.pays Sto.cost at h;simpa using h
theorem Bp2{n:Int}(hn:0<=n)(h:n*(s.sc.c.S:Int)<=s.bk.tokens):(s.pay n).bk.tokens=s.bk.tokens-n*(s.sc.c.S:Int)/\(s.pay n).bk.last=s.bk.last/\(s.pay n).bk.rate=s.bk.rate/\(s.pay n).bk.burst=s.bk.burst:=by
 have h0:0<=n*(s.sc.c.S:Int):=Dx8 hn (by omega);unfold Sto.pay Sto.cost Af0;rw[Dq5 ⟨h0,h⟩];exact⟨rfl,rfl,rfl,rfl⟩
theorem SOk.opne(ok:SOk s M){o r:Reg}(ho:s.op=some o)(hr:r∈s.rs):r.b≠o.b:=fun e=>by
 have bV:=ok.use.1;unfold Sto.us at bV;rw[ho]at bV;exact(Dx3.1 bV).2.2 r.b (Du6 hr) o.b (by simp) e
theorem SBk.write(h:SBk s)(ok:SOk s M)(hd:s.down=false)(hb:HB s){kind:Int}(hk:kind=2\/kind=3)(l:List (List UInt8))(hc:kind=2->C72 s.sc.c.P l.length)(hp:l.length*(s.sc.c.S:Int)<=s.bk.tokens):
  BR s (s.write kind l).1/\ ∀b' l',Y5 s.d b' l'->(∀o,s.op=some o->b'≠o.b)->Y5 (s.write kind l).1.d b' l':=by
 unfold Sto.write;split
 ·exact⟨h.br,fun b' l' hl _=>hl⟩
 ·rename_i o ho;obtain⟨o1,o2⟩:=h.op o ho;obtain⟨q1,q2,q3⟩:=appR_B h.db o.b o.ep (at':=o.nx) (kind:=kind) (by omega) (by have:=ok.op o ho;omega) l (by rw[ok.cfg];exact hc);obtain⟨-,aE⟩:=Bk5 ok.dv (by rw[<-ok.dn];exact hd) o.b o.ep o.nx kind l;obtain⟨eM,dF⟩:=hb;have hq:=Dp2 (d:=s.d) o.b o.ep o.nx kind l eM (by rw[ok.cfg];omega);rw[ok.cfg]at hq;obtain⟨p1,p2,p3,p4⟩:=Bp2 (s:=s) (n:=(l.length:Int)) (by omega) hp;dsimp only;generalize Ah3 s.d o.b o.ep o.nx kind l=q at q1 q2 q3 aE hq;have eA: ∀r∈s.rs,Y5 q.2 r.b r.l:=fun r hr=>q2 r.b r.l (h.rs r hr) fun e=>absurd e (ok.opne ho hr);have bM:Y5 q.2 o.b o.l:=q2 o.b o.l o1 fun _=>o2;have oZ:By s ((s.pay l.length).dev q.2):=⟨hq.1,by show q.2.bytes+(s.pay l.length).bk.tokens<=_;rw[p1];omega,p2,p3,p4⟩;by_cases h0:q.1=0
  ·rw[Dq4 (by simpa using h0)];refine⟨⟨⟨q1,eA,fun o' bU=>?_⟩,oZ.congr rfl rfl⟩,fun b' l' hl hx=>q2 b' l' hl fun e=>absurd e (hx o ho)⟩;obtain rfl:=Dq9 bU;obtain⟨jE,nI,iI⟩:=aE h0;have fK:1<=l.length:=by cases l with|nil=>exact absurd rfl jE|cons a b=>simp
   refine⟨bM.app (l':=[(kind,o.nx,(l.length:Int),())]) ?_,fun x hx=>?_⟩
   ·rcases hk with rfl|rfl
    ·exact q3 h0
    ·exact fun k _ x hx h2=>by
      rw[Dr2.1 hx]at h2;exact absurd (show(3:Int)=2 from h2) (by decide)
   ·show 0<=x.2.1/\x.2.1<o.nx+l.length;rcases Dr5.1 hx with hx|hx
    ·have:=o2 x hx;omega
    ·rw[Dr2.1 hx];simp only;omega
  ·rw[Dq5 (by simpa using h0)];exact⟨⟨⟨q1,eA,fun o' bU=>by
    have:s.op=some o':=bU;rw[ho]at this;rw[<-Dq9 this];exact⟨bM,o2⟩⟩,oZ.congr rfl rfl⟩,fun b' l' hl hx=>q2 b' l' hl fun e=>absurd e (hx o ho)⟩
theorem SBk.seals(h:SBk s)(ok:SOk s M)(hb:HB s)(hp:s.sealN*(s.sc.c.S:Int)<=s.bk.tokens):BR s s.seals.1/\s.seals.1.bk.tokens=s.bk.tokens-s.sealN*(s.sc.c.S:Int):=by
 unfold Sto.seals;unfold Sto.sealN at hp⊢;split
 ·exact⟨h.br,by simp⟩
 ·rename_i o ho;rw[ho]at hp;simp only at hp;obtain⟨o1,o2⟩:=h.op o ho;obtain⟨eM,dF⟩:=hb;obtain⟨q1,q2⟩:=Dg8 h.db o.b o.ep o.nx o.l o1;have hq:=Cz1 (d:=s.d) o.b o.ep o.nx o.l eM (by rw[ok.cfg];omega);rw[ok.cfg]at hq;obtain⟨p1,p2,p3,p4⟩:=Bp2 (s:=s) (n:=1) (by decide) hp;dsimp only;generalize T2 s.d o.b o.ep o.nx o.l=q at q1 q2 hq;refine⟨⟨⟨q1,fun r hr=>?_,fun o' bU=>by cases bU⟩,⟨hq.1,by show q.2.bytes+(s.pay 1).bk.tokens<=_;rw[p1];omega,p2,p3,p4⟩⟩,?_⟩
  ·rcases Dr5.1 hr with hr|hr
   ·exact q2 r.b r.l (h.rs r hr) fun e=>absurd e (ok.opne ho hr)
   ·rw[Dr2.1 hr];exact q2 o.b o.l o1 fun _=>o2
  ·show(s.pay 1).bk.tokens=_;rw[p1]
theorem SBk.begins(h:SBk s)(ok:SOk s M)(hb:HB s)(bM:s.op=none){b:Int}(fY:b∉s.us)(hp:(s.sc.c.S:Int)<=s.bk.tokens):BR s (s.begins b).1:=by
 obtain⟨eM,dF⟩:=hb;obtain⟨q1,q2⟩:=Dj9 h.db b (s.epoch+1);have hq:=Be7 (d:=s.d) eM (by rw[ok.cfg];omega) b (1,0,1,s.epoch+1,0,()) [];rw[ok.cfg]at hq;have hq:s.d.bytes<=(T3 s.d b (s.epoch+1)).2.bytes/\(T3 s.d b (s.epoch+1)).2.bytes<=s.d.bytes+s.sc.c.S:=hq;obtain⟨p1,p2,p3,p4⟩:=Bp2 (s:=s) (n:=1) (by decide) (by omega);unfold Sto.begins;dsimp only;generalize T3 s.d b (s.epoch+1)=q at q1 q2 hq;have eA: ∀r∈s.rs,Y5 q.2 r.b r.l:=fun r hr=>q2 r.b r.l (h.rs r hr) fun e=>absurd (e▸(show r.b∈s.us by unfold Sto.us;exact Ds8 _ (Du6 hr))) fY;have oZ:By s ((s.pay 1).dev q.2):=⟨hq.1,by show q.2.bytes+(s.pay 1).bk.tokens<=_;rw[p1];omega,p2,p3,p4⟩;split
 ·exact⟨⟨q1,eA,fun o' bU=>by
   have:s.op=some o':=bU;rw[bM]at this;cases this⟩,oZ.congr rfl rfl⟩
 ·exact⟨⟨q1,eA,fun o' bU=>by
   obtain rfl:=Dq9 bU;exact⟨fun k _ x hx=>(by cases hx),fun x hx=>(by cases hx)⟩⟩,oZ.congr rfl rfl⟩
theorem SBk.erase(h:SBk s)(ok:SOk s M)(hd:s.down=false){b:Int}(hg:F5 s.ss b=true):BR s (s.erase b).1:=by
 obtain⟨kb,hk,bC⟩: ∃kb,D7 s.d b=some kb/\kb.bad=false:=by
  obtain⟨h0,hi,bG⟩:=K5 hg;have eV:b.toNat<s.d.bs.length:=by rw[<-ok.ssl];exact hi
  obtain⟨x,hx,-,mM⟩:=ok.ssd hd b.toNat _ (Dr9 eV);rw[Dr9 hi]at hx;refine⟨s.d.bs[b.toNat],?_,?_⟩
  ·unfold D7;rw[Dq5 h0,Dr9 eV]
  ·rw[<-mM,<-Dq9 hx];exact bG
 obtain⟨q1,q2⟩:=C67 h.db ok.dv (by rw[<-ok.dn];exact hd) hk bC;have hq:=Cr8 s.d b;unfold Sto.erase;dsimp only;generalize E7 s.d b=q at q1 q2 hq;have oZ:By s (s.dev q.2):=⟨by show s.d.bytes<=q.2.bytes;omega,by show q.2.bytes+s.bk.tokens<=_;omega,rfl,rfl,rfl⟩;split
 ·exact⟨⟨q1,fun r hr=>q2 _ _ (h.rs r hr),fun o ho=>⟨q2 _ _ (h.op o ho).1,(h.op o ho).2⟩⟩,oZ.congr rfl rfl⟩
 ·exact⟨⟨q1,fun r hr=>q2 _ _ (h.rs r (Dw5.1 hr).1),fun o ho=>⟨q2 _ _ (h.op o ho).1,(h.op o ho).2⟩⟩,oZ.congr rfl rfl⟩
theorem SBk.move(h:SBk s)(ok:SOk s M)(hd:s.down=false)(hb:HB s){b ep:Int}{x:It}(h2:x.1=2)(hT:Y5 s.d b [x]){beside:Int}(dW:0<=beside):
  BR s (s.move (b,x.2.1,ep,()) x.2.2.1 beside).1/\ ∀b' l',Y5 s.d b' l'->(∀o,s.op=some o->b'≠o.b)->Y5 (s.move (b,x.2.1,ep,()) x.2.2.1 beside).1.d b' l':=by
 have hS:=ok.S;unfold Sto.move;dsimp only;split
 ·exact⟨h.br,fun b' l' hl _=>hl⟩
 ·rename_i hf;rw[Du4]at hf;split
  ·exact⟨h.br.congr rfl rfl rfl rfl,fun b' l' hl _=>hl⟩
  ·rename_i hc;rw[Du4,Du4]at hc;split
   ·exact⟨h.br,fun b' l' hl _=>hl⟩
   ·rename_i aR;obtain⟨k,pg,f1,f2,f3,f4,f5⟩:=Ak7 ok.dv (p:=(b,x.2.1,ep,())) (Dt6.1 hf.1);have bS:(E0 pg).1.2.2.1<=x.2.2.1:=hT k f1 x (by simp) h2 pg f2 f3;have bN:=((h.db b k f1).pg _ pg f2 f3).1 f4;have hZ:B7 (J8 s.sc.c).2.2.1=(s.d.c.S-16:Int):=by
     show B7 (s.sc.c.S:Int)=_;unfold B7;rw[Dq5 (by omega),ok.cfg]
    have hC:=B76 (c:=J8 s.sc.c) bN.1 (by rw[hZ];exact f5);have sX:=An2 (s:=s) (n:=x.2.2.1+beside) (by simpa using hc.2.2);have bE:((J5 (A9 s.d (b,x.2.1,ep,())).1 (A9 s.d (b,x.2.1,ep,())).2.1 (J8 s.sc.c)).1.length:Int)*(s.sc.c.S:Int)<=s.bk.tokens:=D21 (D08 (by omega) (by omega)) sX;have hw:=h.write ok hd hb (kind:=2) (.inl rfl) _ (fun _=>Af6 (Dt6.1 aR)) bE;split
    ·exact⟨hw.1.congr rfl rfl rfl rfl,hw.2⟩
    ·exact hw
theorem SBk.moves{b ep beside:Int}(dW:0<=beside): ∀(l:List It) {s:Sto} {M:Nat},SBk s->SOk s M->s.down=false->HB s->Y5 s.d b l->(∀o,s.op=some o->b≠o.b)->BR s (Sto.moves b ep beside l s).1
 |[],s,M,h,ok,hd,hb,hT,ho=>h.br
 |x::r,s,M,h,ok,hd,hb,hT,ho=>by
  have mI:Y5 s.d b r:=fun k hk y hy=>hT k hk y (Dr6 _ hy);unfold Sto.moves;split
  ·exact SBk.moves dW r h ok hd hb mI ho
  ·rename_i hx;have h1:=ok.move hd (b,x.2.1,ep,()) x.2.2.1 beside;obtain⟨h2,h3⟩:=h.move ok hd hb (ep:=ep) (Dt6.1 hx) (fun k hk y hy=>hT k hk y (by rw[Dr2.1 hy];simp)) dW;dsimp only;split
   ·exact h2
   ·rename_i h0;refine h2.trans (SBk.moves dW r h2.sb h1.1 (h1.2.1 (by simpa using h0)) (h2.by'.hb hb) (h3 b r mI ho) fun o' bU e=>?_);have:=h1.2.2.ob;rw[bU]at this;cases hq:s.op with
    |none=>rw[hq]at this;cases this
    |some o2=>
     rw[hq]at this;exact ho o2 hq (e.trans (Dq9 this))
theorem SBk.reclaim(h:SBk s)(ok:SOk s M)(hd:s.down=false)(hb:HB s){r:Reg}{t:List Reg}(hr:s.rs=r::t){beside:Int}(dW:0<=beside):BR s (s.reclaim r beside).1:=by
 have eG:r∈s.rs:=by rw[hr];simp
 obtain⟨h1,h2,mv⟩:=SOk.moves (b:=r.b) (ep:=r.ep) (beside:=beside) r.l ok hd;have h3:=SBk.moves (b:=r.b) (ep:=r.ep) dW r.l h ok hd hb (h.rs r eG) fun o ho=>ok.opne ho eG;unfold Sto.reclaim;dsimp only;split
 ·exact h3
 ·rename_i h0;have hc:=h1.cutp r.b;have hg:F5 (Sto.moves r.b r.ep beside r.l s).1.ss r.b=true:=by
   rw[mv.ss];exact ok.use.2 r.b (by unfold Sto.us;exact Ds8 _ (Du6 eG))
  exact(h3.congr (s2:={(Sto.moves r.b r.ep beside r.l s).1 with pend:=(Sto.moves r.b r.ep beside r.l s).1.pend.filter fun p=> !decide (p.1=r.b)}) rfl rfl rfl rfl).trans (SBk.erase (s:={(Sto.moves r.b r.ep beside r.l s).1 with pend:=(Sto.moves r.b r.ep beside r.l s).1.pend.filter fun p=> !decide (p.1=r.b)}) (h3.sb.congr rfl rfl rfl) hc (h2 (by simpa using h0)) hg)
theorem SBk.frees{n:Int}(hn:0<=n): ∀(j:Nat) {s:Sto} {M:Nat},SBk s->SOk s M->s.down=false->HB s->BR s (Sto.frees n j s).1
 |0,s,M,h,ok,hd,hb=>h.br
 |j+1,s,M,h,ok,hd,hb=>by
  unfold Sto.frees;split
  ·split
   ·exact h.br
   ·rename_i r t hr;have h1:=ok.reclaim hd hr n;have h2:=h.reclaim ok hd hb hr hn;dsimp only;split
    ·exact h2
    ·rename_i h0;exact h2.trans (SBk.frees hn j h2.sb h1.1 (h1.2.1 (by simpa using h0)).1 (h2.by'.hb hb))
  ·exact h.br
theorem SBk.more(h:SBk s)(ok:SOk s M)(hd:s.down=false)(hb:HB s){n:Int}(hn:0<=n):BR s (s.more n).1:=by
 have hS:=ok.S;unfold Sto.more;split
 ·exact h.br
 rename_i bE;have bE:=An2 (s:=s) (n:=n+1+s.sealN) (by simpa using bE);rw[Dw3,Dw3]at bE;have rK:0<=n*(s.sc.c.S:Int):=Dx8 hn (by omega);split
 ·exact h.br
 rename_i bX;split
 ·split
  ·exact h.br
  ·rename_i r t hr;exact h.reclaim ok hd hb hr hn
 rename_i bB;obtain⟨s1,s2,s3,s4,s5,s6,s7⟩:=ok.seals hd;obtain⟨w1,w2⟩:=h.seals ok hb (by omega);dsimp only;generalize s.seals=w at s1 s2 s3 s4 s5 s6 s7 w1 w2;split
 ·exact w1
 rename_i h0;have eF:=s2 (by simpa using h0);have bQ:w.1.free≠0:=by
  unfold Sto.free at bB⊢;rw[s5,s4];exact bB
 obtain⟨p1,p2⟩:=Aa7 bQ;obtain⟨z,hz,z1,z2,z3,z4,z5,z6⟩:=s1.picks eF s3 bQ;have gA:BR w.1 z.1:=by
  rw[hz];split
  ·exact SBk.erase w1.sb s1 eF (D8 p1).1
  ·exact w1.sb.br
 rw[<-hz];clear hz;generalize E2 w.1.ss w.1.us=pk at z6 p1 p2;have gM:=w1.trans gA;split
 ·exact gM
 rename_i cY;obtain⟨y1,y2,y3,y4,y5⟩:=z6 (by simpa using cY);split
 ·exact gM
 rename_i cO;obtain⟨f1,f2⟩:=y5 cO;have iB:=SBk.begins gA.sb z1 (gM.by'.hb hb) z2 (D8 f1).2 (by rw[z3,z5,s7,w2];omega);have aA:=z1.begins y1 z2 (by rw[z4,s6];omega) f1;split
 ·exact gM.trans iB
 rename_i dY;exact gM.trans (iB.trans (SBk.frees hn _ iB.sb aA.1 (aA.2 (by simpa using dY)).1 (iB.by'.hb (gM.by'.hb hb))))
theorem SBk.room{n:Int}(hn:0<=n): ∀(j:Nat) {s:Sto} {M:Nat},SBk s->SOk s M->s.down=false->HB s->BR s (Sto.room n j s).1/\((Sto.room n j s).2=0->n*((Sto.room n j s).1.sc.c.S:Int)<=(Sto.room n j s).1.bk.tokens)
 |0,s,M,h,ok,hd,hb=>⟨h.br,fun h=>absurd (show(13:Int)=0 from h) (by decide)⟩
 |j+1,s,M,h,ok,hd,hb=>by
  rw[M3];split
  ·split
   ·rename_i hp;exact⟨h.br,fun _=>An2 hp⟩
   ·exact⟨h.br,fun h=>absurd (show(13:Int)=0 from h) (by decide)⟩
  ·have h1:=ok.more hd hn;have h2:=h.more ok hd hb hn;split
   ·rename_i h0;exact⟨h2,fun h=>absurd h h0⟩
   ·rename_i h0;have h3:=(h1.2.1 (by simpa using h0)).1;obtain⟨a1,a2⟩:=SBk.room hn j h2.sb h1.1 h3 (h2.by'.hb hb);exact⟨h2.trans a1,a2⟩
theorem SBk.adm(h:SBk s)(ok:SOk s M)(hd:s.down=false)(hb:HB s)(key:ByteArray)(val:List UInt8):BR s (s.adm key val).1:=by
 unfold Sto.adm;dsimp only;split
 ·exact h.br
 ·rename_i aR;obtain⟨h1,hp⟩:BR s (s.roomy (J5 key.data.toList val (J8 s.sc.c)).1.length).1/\((s.roomy (J5 key.data.toList val (J8 s.sc.c)).1.length).2=0->_):=SBk.room (by omega) _ h ok hd hb;obtain⟨h2,h3,h4⟩:=ok.roomy hd (n:=((J5 key.data.toList val (J8 s.sc.c)).1.length:Int)) (by omega);split
  ·exact h1
  ·rename_i h0;have h0:=Dt6.1 h0;have h5:=(h1.sb.write h2 (h3 h0).1 (h1.by'.hb hb) (kind:=2) (.inl rfl) _ (fun _=>by rw[h4];exact Af6 (Dt6.1 aR)) (hp h0)).1;split
   ·exact h1.trans (h5.congr rfl rfl rfl rfl)
   ·exact h1.trans h5
theorem SBk.forget(h:SBk s)(key:ByteArray):BR s (s.forget key).1:=by
 unfold Sto.forget;dsimp only;split<;>exact h.br.congr rfl rfl rfl rfl
theorem SBk.trim: ∀(j:Nat) {s:Sto} {M:Nat},SBk s->SOk s M->s.down=false->HB s->BR s (Sto.trim j s).1
 |0,s,M,h,ok,hd,hb=>h.br
 |j+1,s,M,h,ok,hd,hb=>by
  unfold Sto.trim;split
  ·cases hq:s.q with
   |nil=>exact h.br
   |cons y r=>
    dsimp only;have fS:=ok.qs;have eH:=ok.ql;rw[hq]at fS eH;have h1:SOk {s with q:=r} M:=ok.setq (fun e he=>fS e (Dr6 _ he)) (by simp at eH;omega);have b0:BR s {s with q:=r}:=h.br.congr rfl rfl rfl rfl;have hw:SOk (if y.2.2>0 then({s with q:=r}:Sto).adm y.1 y.2.1 else({s with q:=r},8)).1 (M+1)/\BR s (if y.2.2>0 then({s with q:=r}:Sto).adm y.1 y.2.1 else({s with q:=r},8)).1/\((if y.2.2>0 then({s with q:=r}:Sto).adm y.1 y.2.1 else({s with q:=r},8)).2≠11->(if y.2.2>0 then({s with q:=r}:Sto).adm y.1 y.2.1 else({s with q:=r},8)).1.down=false)/\(if y.2.2>0 then({s with q:=r}:Sto).adm y.1 y.2.1 else({s with q:=r},8)).1.sc=s.sc:=by
     split
     ·have ha:=h1.adm hd y.1 y.2.1;exact⟨ha.1,b0.trans (b0.sb.adm h1 hd (b0.by'.hb hb) _ _),fun hn=>(R4 _ _ _ hn).trans hd,ha.2⟩
     ·exact⟨h1.upto (by omega),b0,fun _=>hd,rfl⟩
    generalize (if y.2.2>0 then({s with q:=r}:Sto).adm y.1 y.2.1 else({s with q:=r},8))=w at hw;obtain⟨k1,k2,k3,k4⟩:=hw;split
    ·rename_i h0;exact k2.trans (SBk.trim j k2.sb k1 (k3 (by rw[h0];decide)) (k2.by'.hb hb))
    ·split
     ·exact k2
     ·rename_i h0 h11;have k5:BR s {w.1 with gh:=Bh8 s.sc.ghost w.1.gh (s.hash y.1)}:=k2.congr rfl rfl rfl rfl;refine k5.trans (SBk.trim j k5.sb (k1.setgh (gh:=Bh8 s.sc.ghost w.1.gh (s.hash y.1)) ?_) (k3 h11) (k5.by'.hb hb));have h6:=k1.gl;have h7:=k1.gs;rw[k4]at h6 h7⊢;exact Aa5 h7.1 h6 _
  ·exact h.br
theorem SBk.putYoung(h:SBk s)(ok:SOk s M)(hd:s.down=false)(hb:HB s)(hq:s.q.length<=65536){key:ByteArray}{val:List UInt8}(hk:1<=key.size/\key.size<=255)(hv:val.length<=65536):BR s (s.putYoung key val).1:=by
 have h1:=(ok.putYoung hd hq hk hv).1;have b0:BR s {s with q:=P1 s.q key++[(key,val,0)]}:=h.br.congr rfl rfl rfl rfl;unfold Sto.putYoung;exact b0.trans (SBk.trim _ b0.sb h1 hd (b0.by'.hb hb))
theorem SBk.put(h:SBk s)(iv:H4 s M)(hb:HB s)(key:ByteArray)(val:List UInt8):BR s (s.put key val).1:=by
 unfold Sto.put;split
 ·exact h.br
 ·rename_i ha;obtain⟨hd,hk⟩:=T0 (s:=s) (key:=key) (by simpa using ha);split
  ·exact h.br
  ·rename_i hv;obtain⟨f1,f2,f3,f4,f5⟩:=iv.ok.forget key;have dN:(s.forget key).1.q.length<=65536:=by rw[f4];exact Dt1 (P5 _ _) (iv.q hd)
   have bI:(s.forget key).1.down=false:=f2.trans hd;have h1:=h.forget key;dsimp only;generalize (s.forget key).1=s1 at f1 f2 f3 f4 f5 dN bI h1;have dF:=h1.by'.hb hb;split
   ·exact h1
   ·split
    ·have hg:SOk {s1 with gh:=s1.gh.erase ((s.hash key:Nat):Int)} (M+1):=f1.setgh (by have h1:=f1.gl;have h2:(s1.gh.erase ((s.hash key:Nat):Int)).length<=s1.gh.length:=D00;omega);have b0:BR s {s1 with gh:=s1.gh.erase ((s.hash key:Nat):Int)}:=h1.congr rfl rfl rfl rfl;have eM:=b0.by'.hb hb;have a0:=b0.trans (b0.sb.adm hg bI eM key val);obtain⟨a1,a2⟩:=hg.adm bI key val;have a3:=Ad2 {s1 with gh:=s1.gh.erase ((s.hash key:Nat):Int)} key val;have a4:=R4 {s1 with gh:=s1.gh.erase ((s.hash key:Nat):Int)} key val;generalize ({s1 with gh:=s1.gh.erase ((s.hash key:Nat):Int)}:Sto).adm key val=w at a0 a1 a2 a3 a4;have eI:w.1.q.length<=65536:=by rw[a3.1];exact dN
     split
     ·exact a0
     ·rename_i hw;rw[Du4]at hw;exact a0.trans (a0.sb.putYoung a1 ((a4 hw.2).trans bI) (a0.by'.hb hb) eI hk (by omega))
    ·exact h1.trans (h1.sb.putYoung f1 bI dF dN hk (by omega))
theorem SBk.get(h:SBk s)(key:ByteArray):BR s (s.get key).1:=by
 unfold Sto.get;split
 ·exact h.br
 ·split
  ·exact h.br.congr rfl rfl rfl rfl
  ·split
   ·exact h.br
   ·exact h.br.congr rfl rfl rfl rfl
theorem SBk.delete(h:SBk s)(key:ByteArray):BR s (s.delete key).1:=by
 unfold Sto.delete;split
 ·exact h.br
 ·exact h.forget key
theorem SBk.flushes: ∀(j:Nat) {s:Sto} {M:Nat},SBk s->H4 s M->s.down=false->HB s->BR s (Sto.flushes j s).1
 |0,s,M,h,iv,hd,hb=>h.br
 |j+1,s,M,h,iv,hd,hb=>by
  unfold Sto.flushes;split
  ·exact h.br
  ·obtain⟨a1,a2,a3⟩:=iv.ok.roomy hd (n:=1) (by decide);obtain⟨a4,a5⟩:BR s (s.roomy 1).1/\((s.roomy 1).2=0->_):=SBk.room (n:=1) (by decide) _ h iv.ok hd hb;have aq:(s.roomy 1).1.q=s.q:=(A13 1 (s.mu+1) s).1;dsimp only;generalize hw:s.roomy 1=w at a1 a2 a3 a4 aq;have a5:w.2=0->1*(w.1.sc.c.S:Int)<=w.1.bk.tokens:=by rw[<-hw];exact a5
   split
   ·exact a4
   ·rename_i h0;have h0:=Dt6.1 h0;obtain⟨b1,b2⟩:=a2 h0;split
    ·exact a4
    ·split
     ·exact a4
     ·have w2:=(a4.sb.write a1 b1 (a4.by'.hb hb) (kind:=3) (.inr rfl) [(M7 (w.1.pend.take (min w.1.pend.length (B7 w.1.sc.c.S/6).toNat))).1] (fun h=>absurd (show(3:Int)=2 from h) (by decide)) (a5 h0)).1;obtain⟨c1,c2⟩:=a1.write b1 3 [(M7 (w.1.pend.take (min w.1.pend.length (B7 w.1.sc.c.S/6).toNat))).1];have cq:=Am6 w.1 3 [(M7 (w.1.pend.take (min w.1.pend.length (B7 w.1.sc.c.S/6).toNat))).1];generalize w.1.write 3 [(M7 (w.1.pend.take (min w.1.pend.length (B7 w.1.sc.c.S/6).toNat))).1]=z at w2 c1 c2 cq;split
      ·exact a4.trans w2
      ·rename_i h1;have h1:z.2.2=0:=by simpa using h1
       have i4:H4 {z.1 with pend:=z.1.pend.drop (min w.1.pend.length (B7 w.1.sc.c.S/6).toNat)} M:=⟨{c1 with dv:=c1.dv,pl:=by show(z.1.pend.drop _).length<=M;rw[Ds6];have:=c1.pl;omega},fun _=>by show z.1.q.length<=65536;rw[cq.1,aq];exact iv.q hd⟩;have b5:BR s {z.1 with pend:=z.1.pend.drop (min w.1.pend.length (B7 w.1.sc.c.S/6).toNat)}:=(a4.trans w2).congr rfl rfl rfl rfl;exact b5.trans (SBk.flushes j b5.sb i4 (c2 h1) (b5.by'.hb hb))
theorem SBk.flush(h:SBk s)(iv:H4 s M)(hb:HB s):BR s s.flush.1:=by
 unfold Sto.flush;split
 ·exact h.br
 ·rename_i hd;exact SBk.flushes _ h iv (by simpa using hd) hb
end
theorem B09(n r:Nat)(b:List UInt8):(Y4 n r b).flatten=b.take (n*r):=by
 induction n with
 |zero=>simp[Y4]
 |succ n ih=>rw[A62,List.flatten_append,ih,D03,Nat.one_mul,List.take_add];simp
theorem Bt5{p:List UInt8}(n:Nat)(q:List UInt8)(hn:n<4294967296):V5 (p++(N4 n 4++q)) p.length 4=((n:Int),0):=by
 have h:=Bd2 (b:=p++(N4 n 4++q)) (a:=p.length) (w:=4) (by decide) (by decide) (by rw[Dr4,Dr4,Q1];omega);refine h.trans ?_;rw[List.drop_left,D30 (Q1 n 4),Ap7 4 n (by show n<4294967296;omega)]
theorem B20{p l q:List UInt8}(hl:l.length<=65536):F8 (p++(N4 l.length 4++(l++q))) p.length=(l,p.length+4+l.length,0):=by
 have hg:=Bt5 (p:=p) l.length (l++q) (by omega);unfold F8;rw[hg,Dq4 (by simp),Dq4 (by simp only;omega),Dq4 (by rw[Dr4,Dr4,Dr4,Q1];simp only;omega)];simp only[Dr0];have:(p++(N4 l.length 4++(l++q))).drop (p.length+4)=l++q:=by
  rw[<-Dw6,List.drop_left,D29 (Q1 _ _)]
 rw[this,List.take_left]
theorem C38{key val:List UInt8}(h1:1<=key.length)(h2:key.length<=255)(h3:val.length<=65536):T9 (Bj3 key val)=(key,val,0):=by
 have hb:=Bj1 key val;have hc:0<=G3 (Ao0 key val)/\G3 (Ao0 key val)<4294967296:=Q8 0 _;have e1:Bj3 key val=[]++(N4 key.length 4++(key++(N4 val.length 4++(val++N4 (G3 (Ao0 key val)).toNat 4)))):=by simp[Bj3,Ao0]
 have e2:Bj3 key val=(N4 key.length 4++key)++(N4 val.length 4++(val++N4 (G3 (Ao0 key val)).toNat 4)):=by simp[Bj3,Ao0]
 have e3:Bj3 key val=Ao0 key val++(N4 (G3 (Ao0 key val)).toNat 4++[]):=by simp[Bj3]
 have t1:F8 (Bj3 key val) 0=(key,4+key.length,0):=by
  rw[e1];have:=B20 (p:=[]) (l:=key) (q:=N4 val.length 4++(val++N4 (G3 (Ao0 key val)).toNat 4)) (by omega);simpa using this
 have t2:F8 (Bj3 key val) (4+key.length)=(val,4+key.length+4+val.length,0):=by
  rw[e2];have:=B20 (p:=N4 key.length 4++key) (l:=val) (q:=N4 (G3 (Ao0 key val)).toNat 4) h3;rw[Dr4,Q1]at this;exact this
 have bS:4+key.length+4+val.length=(Ao0 key val).length:=by omega
 have t3:V5 (Bj3 key val) ((4+key.length+4+val.length:Nat):Int) 4=(G3 (Ao0 key val),0):=by
  rw[bS,e3];have:=Bt5 (p:=Ao0 key val) (G3 (Ao0 key val)).toNat [] (by omega);rw[this,D17 hc.1]
 unfold T9;rw[t1];simp only;rw[t2];simp only;rw[t3];simp only;have bW:(Bj3 key val).take (4+key.length+4+val.length)=Ao0 key val:=by rw[bS,e3,List.take_left]
 rw[bW,Dq4 (by simp),Dq4 (by simp),Dq4 (by simp),Dq4 (by rw[Bj2];omega),Dq4 (by simp)]
theorem Do4{key val:List UInt8}{c:Cf}(h:(J5 key val c).2=0):1<=key.length/\key.length<=255/\val.length<=65536/\F9 key.length val.length c≠0/\(J5 key val c).1=Y4 (F9 key.length val.length c).toNat (B7 c.2.2.1).toNat (Bj3 key val)/\((J5 key val c).1).flatten=Bj3 key val:=by
 unfold J5 at h⊢;split at h
 ·exact absurd h (by simp)
 ·rename_i h1;split at h
  ·exact absurd h (by simp)
  ·rename_i h2;split at h
   ·exact absurd h (by simp)
   ·rename_i h3;rw[Dq4 h1,Dq4 h2,Dq4 h3];refine⟨by omega,by omega,by omega,h3,rfl,?_⟩;obtain⟨_,_,_,_,pT,nI,ch,_,sH,_⟩:=Aa1 h3;have bn:=V2 pT;simp only;rw[B09,Dw9];rw[Bj2];generalize F9 (key.length:Int) (val.length:Int) c=N at*;generalize B7 c.2.2.1=R at*;obtain⟨n,rfl⟩: ∃n:Nat,N=n:=⟨N.toNat,by omega⟩;obtain⟨r,rfl⟩: ∃n:Nat,R=n:=⟨R.toNat,by omega⟩;rw[Dr0,Dr0];have:(((n*r:Nat)):Int)=(n:Int)*(r:Int):=D36 n r;omega
theorem tear0{d:Dev}(h:d.after=0):(W6 (H9 d)).1=false/\(W6 (H9 d)).2.after=0:=by
 have e:(H9 d).after=0:=h;unfold W6;rw[Dq5 e];exact⟨rfl,e⟩
theorem Ck0{d:Dev}(dv:P6 d)(aK:d.down=false){b:Int}{k:Blk}(hk:D7 d b=some k)(bC:k.bad=false){h:Hd}{pl:List UInt8}(he:Y3 h=0)(aW:pl.length<=d.c.S-16)(hn:(k.next:Int)=h.2.2.2.2.1)(hp:h.2.2.2.2.1<d.c.P):
  ((M9 d b h pl).1=11\/((M9 d b h pl).1=0/\A71 d (M9 d b h pl).2 b k (k.put k.next (S7 h pl d.c.S))))/\(d.after=0->(M9 d b h pl).1=0/\(M9 d b h pl).2.after=0):=by
 have hS:=dv.c.s;obtain⟨h0,hi,e⟩:=U9 hk;have hC:=Aq8 (h:=h) (p:=pl) (S:=d.c.S) (by omega) aW;have gL:Ak6 h pl d.c.S=(S7 h pl d.c.S,0):=by
  rcases Au0 h pl (d.c.S:Int)with⟨-,S,vN,-,-,-,gL⟩|⟨aE,-⟩
  ·obtain rfl:d.c.S=S:=by omega
   exact gL
  ·exact absurd (by rw[Co9 (by omega) he aW]) aE
 have hc:=Bx5 d b.toNat k.next k (S7 h pl d.c.S);have sZ:M9 d b h pl=Ap3 d b.toNat k.next k (S7 h pl d.c.S):=by
  unfold M9;rw[gL];dsimp only;rw[Dq4 (by simp)];have hf:G9 d b h.2.2.2.2.1=0:=by
   unfold G9;rw[Dq4 (by rw[aK];decide),Dq4 (by omega),Dq4 (by omega)]
  unfold prog;rw[Dq4 (by simpa using hf),Dq4 (by simpa using hC),Dr9 hi,e];dsimp only;rw[Dq4 (by rw[bC];decide),Dq4 (by simpa using hn),<-hn,Dr0]
 rw[sZ];unfold Ap3 at hc⊢;cases ht:(W6 (H9 d)).1 with
 |true=>
  rw[Dq5 rfl];exact⟨.inl rfl,fun ha=>by rw[(tear0 ha).1]at ht;cases ht⟩
 |false=>
  rw[ht,Dq4 (by decide)]at hc;rw[Dq4 (by decide)];exact⟨.inr ⟨rfl,hc,hk,rfl⟩,fun ha=>⟨rfl,(tear0 ha).2⟩⟩
structure WrB(d d':Dev)(b:Int)(k k':Blk)(f:Nat)(l:List (List UInt8))(mk:Nat->Hd):Prop where
 c:d'.c=d.c
 ok:P6 d'
 up:d'.down=false
 own:D7 d' b=some k'
 ne: ∀x,x≠b->D7 d' x=D7 d x
 bad:k'.bad=false
 next:k'.next=f+l.length
 old: ∀q:Nat,q<f\/f+l.length<=q->k'.pages[q]?=k.pages[q]?
 new: ∀(j:Nat) (hj:j<l.length),k'.pages[f+j]?=some (S7 (mk j) l[j] d.c.S)
theorem Az4{b ep kind n:Int}{f:Nat}(tZ:1<=kind/\kind<=4)(bX:1<=ep/\ep<=1073741824)(hn:n<=16): ∀(l:List (List UInt8)) {d:Dev} {k:Blk} (i:Nat),P6 d->d.down=false->D7 d b=some k->k.bad=false->k.next=f+i->(∀p∈l,p.length<=d.c.S-16)->(i:Int)+l.length=n->(f:Int)+n<=d.c.P->
  ((W8 b ep f kind n d i l).1=11\/((W8 b ep f kind n d i l).1=0/\ ∃k',WrB d (W8 b ep f kind n d i l).2 b k k' (f+i) l fun j=>(kind,((i+j:Nat):Int),n,ep,((f+i+j:Nat):Int),())))/\(d.after=0->(W8 b ep f kind n d i l).1=0/\(W8 b ep f kind n d i l).2.after=0)
 |[],d,k,i,dv,aK,hk,bC,gT,hl,hi,hf=>⟨.inr ⟨rfl,k,rfl,dv,aK,hk,fun x _=>rfl,bC,gT,fun q _=>rfl,fun j hj=>absurd hj (by simp)⟩,fun ha=>⟨rfl,ha⟩⟩
 |p::r,d,k,i,dv,aK,hk,bC,gT,hl,hi,hf=>by
  have hP:=dv.c.p;rw[Dr8]at hi;have he:Y3 (kind,(i:Int),n,ep,(f:Int)+(i:Int),())=0:=by
   unfold Y3;rw[Dq4 (by simp only;omega),Dq4 (by simp only;omega)]
  obtain⟨h1,h2⟩:=Ck0 dv aK hk bC (h:=(kind,(i:Int),n,ep,(f:Int)+(i:Int),())) (pl:=p) he (hl p (by simp)) (by simp only;omega) (by simp only;omega);have aP:=(Ay1 dv aK b (kind,(i:Int),n,ep,(f:Int)+(i:Int),()) p).1;unfold W8;generalize M9 d b (kind,(i:Int),n,ep,(f:Int)+(i:Int),()) p=q at h1 h2 aP;rcases h1 with h1|⟨h1,t⟩
  ·rw[Dq4 (by rw[h1];decide)];exact⟨.inl h1,fun ha=>by rw[(h2 ha).1]at h1;cases h1⟩
  ·rw[Dq5 h1];have iE:q.2.down=false:=by rw[aP.dn,h1];rfl
   have eJ:(k.put k.next (S7 (kind,(i:Int),n,ep,(f:Int)+(i:Int),()) p d.c.S)).next=f+(i+1):=by unfold Blk.put;simp only;omega
   obtain⟨g1,g2⟩:=Az4 tZ bX hn r (b:=b) (f:=f) (i+1) aP.ok iE t.own bC eJ (fun y hy=>by rw[t.c];exact hl y (by simp[hy])) (by omega) (by rw[t.c];exact hf);refine⟨g1.imp id fun⟨g0,k',w⟩=>⟨g0,k',w.c.trans t.c,w.ok,w.up,w.own,fun x hx=>(w.ne x hx).trans (t.ne hx),w.bad,?_,fun q hq=>?_,fun j hj=>?_⟩,fun ha=>g2 (h2 ha).2⟩
   ·rw[w.next,Dr8];omega
   ·rw[Dr8]at hq;rw[w.old q (by omega)];unfold Blk.put;simp only;rw[D96 (by omega)]
   ·have dD:=(dv.pg k (by obtain⟨_,eV,e⟩:=U9 hk;rw[<-e];exact Dr7 eV)).1;cases j with
    |zero=>
     rw[w.old (f+i+0) (by omega)];unfold Blk.put;simp only[gT,D47,List.getElem_cons_zero];rw[D94 (by omega)];rfl
    |succ j=>
     have:=w.new j (by simpa using hj);rw[t.c]at this;rw[show f+i+(j+1)=f+(i+1)+j by omega,this];simp only[List.getElem_cons_succ];congr 4<;>omega
theorem Ao9{d:Dev}(aK:d.down=false){b q:Int}{k:Blk}(hk:D7 d b=some k)(bC:k.bad=false)(hq:0<=q/\q<d.c.P):H2 d b q=(k.pages.getD q.toNat [],0):=by
 obtain⟨h0,hi,e⟩:=U9 hk;have hf:G9 d b q=0:=by
  unfold G9;rw[Dq4 (by rw[aK];decide),Dq4 (by omega),Dq4 (by omega)]
 unfold H2;rw[Dq4 (by simpa using hf),Dr9 hi,e];dsimp only;rw[Dq4 (by rw[bC];decide)]
theorem A29{d d':Dev}{b pg:Int}: ∀{n:Nat},(∀i:Nat,i<n->H2 d b (pg+i)=H2 d' b (pg+i))->M4 d b pg n=M4 d' b pg n
 |0,_=>rfl
 |n+1,h=>by
  have e:K8 d b (pg+n)=K8 d' b (pg+n):=by unfold K8;rw[h n (by omega)]
  unfold M4;rw[A29 fun i hi=>h i (by omega),e]
theorem Bb5{d d':Dev}{p:It}(h0:H2 d p.1 0=H2 d' p.1 0)(h1:H2 d p.1 p.2.1=H2 d' p.1 p.2.1)(h: ∀i:Nat,(i:Int)<(E0 (H2 d' p.1 p.2.1).1).1.2.2.1->(E0 (H2 d' p.1 p.2.1).1).2.2=0->H2 d p.1 (p.2.1+i)=H2 d' p.1 (p.2.1+i)):A9 d p=A9 d' p:=by
 have e:K8 d p.1 p.2.1=K8 d' p.1 p.2.1:=by unfold K8;rw[h1]
 unfold A9;rw[h0,e];split
 ·rfl
 ·split
  ·rename_i hc;obtain⟨-,r2,r3⟩:=A30 hc.1;rw[r3,A29 fun i hi=>h i (by omega) r2]
  ·rfl
theorem A18{d d':Dev}(hc:d'.c=d.c)(hl:d'.bs.length=d.bs.length)(hd:d'.down=d.down){b:Int}(hb:D7 d' b=D7 d b)(q:Int):H2 d' b q=H2 d b q:=by
 have hf:G9 d' b q=G9 d b q:=by unfold G9;rw[hc,hl,hd]
 unfold H2;rw[hf,hc];split
 ·rfl
 ·rename_i h0;have:=(Ad0 (Dt6.1 h0)).2.1;unfold D7 at hb;rw[Dq5 this,Dq5 this]at hb;rw[hb]
theorem A56{d d':Dev}(hc:d'.c=d.c)(hl:d'.bs.length=d.bs.length)(hd:d'.down=d.down){p:It}(hb:D7 d' p.1=D7 d p.1):A9 d' p=A9 d p:=Bb5 (A18 hc hl hd hb _) (A18 hc hl hd hb _) fun i _ _=>A18 hc hl hd hb _
theorem B70{d:Dev}(dv:P6 d){p:It}(h:(A9 d p).2.2=0):d.down=false/\ ∃k pg,D7 d p.1=some k/\k.bad=false/\(0<=p.2.1/\p.2.1<d.c.P)/\k.pages[p.2.1.toNat]?=some pg/\(E0 pg).2.2=0/\Aw0 p (E0 pg).1/\ ∃l,M4 d p.1 p.2.1 (E0 pg).1.2.2.1.toNat=some l:=by
 unfold A9 at h;split at h
 ·rename_i h0;exact absurd h h0
 ·rename_i h0;split at h
  ·rename_i h1;split at h
   ·rename_i l hl;obtain⟨hp,hh⟩:=h1;obtain⟨r1,r2,r3⟩:=A30 hp;rw[r3]at hh hl;have hf:G9 d p.1 p.2.1=0:=by rw[<-Ao8 dv];exact r1
    obtain⟨f0,f1,f2,f3,f4⟩:=Ad0 hf;have hi:p.1.toNat<d.bs.length:=by omega
    obtain⟨pg,aY⟩: ∃pg,pg=(H2 d p.1 p.2.1).1:=⟨_,rfl⟩;have dA:=aY;unfold H2 at dA;rw[Dq4 (by simpa using hf),Dr9 hi]at dA;dsimp only at dA;rw[<-aY]at r2 hh hl;split at dA
    ·rw[dA]at r2;exact absurd r2 (An9 _)
    ·rename_i hb;have aW:=(dv.pg d.bs[p.1.toNat] (Dr7 hi)).1;refine⟨f0,d.bs[p.1.toNat],pg,?_,by simpa using hb,⟨f3,f4⟩,?_,r2,hh,l,hl⟩
     ·unfold D7;rw[Dq5 f1,Dr9 hi]
     ·rw[dA];show _=some ((d.bs[p.1.toNat]).pages.getD p.2.1.toNat []);rw[Dt0,Dr9 (by omega)];rfl
   ·cases h
  ·cases h
theorem Cr3{d d':Dev}{b:Int}{k k':Blk}{f:Nat}{l:List (List UInt8)}{ep:Int}(w:WrB d d' b k k' f l fun j=>(2,((0+j:Nat):Int),(l.length:Int),ep,((f+j:Nat):Int),()))(bX:1<=ep/\ep<=1073741824)(hl:1<=l.length/\l.length<=16)(hs: ∀p∈l,p.length<=d.c.S-16)(hP:f+l.length<=d.c.P):
  A9 d' (b,(f:Int),ep,())=T9 l.flatten:=by
 have hS:=w.ok.c.s;have dw:=w.ok.c.p;rw[w.c]at hS dw;have tG: ∀(j:Nat) (hj:j<l.length),H2 d' b ((f:Int)+j)=(S7 (2,((0+j:Nat):Int),(l.length:Int),ep,((f+j:Nat):Int),()) l[j] d.c.S,0)/\E0 (S7 (2,((0+j:Nat):Int),(l.length:Int),ep,((f+j:Nat):Int),()) l[j] d.c.S)=((2,((0+j:Nat):Int),(l.length:Int),ep,((f+j:Nat):Int),()),l[j],0):=fun j hj=>by
  have he:Y3 (2,((0+j:Nat):Int),(l.length:Int),ep,((f+j:Nat):Int),())=0:=by
   unfold Y3;rw[Dq4 (by simp only;omega),Dq4 (by simp only;omega)]
  refine⟨?_,(An3 he l[j] hS (hs _ (Dr7 hj))).1⟩;rw[Ao9 w.up w.own w.bad ⟨by omega,by rw[w.c];omega⟩,show((f:Int)+j).toNat=f+j by omega,Dt0,w.new j hj];rfl
 have lE: ∀(j:Nat) (hj:j<l.length),K8 d' b ((f:Int)+j)=((2,((0+j:Nat):Int),(l.length:Int),ep,((f+j:Nat):Int),()),l[j],0):=fun j hj=>by
  obtain⟨a1,a2⟩:=tG j hj;unfold K8;rw[a1];dsimp only;rw[Dq5 rfl,a2,Dq5 rfl]
 have nF: ∀m:Nat,m<=l.length->M4 d' b f m=some (l.take m):=fun m=>by
  induction m with
  |zero=>intro _;rfl
  |succ m ih=>
   intro hm;unfold M4;rw[ih (by omega),lE m (by omega)];dsimp only;rw[Dq5 rfl,Ds4 (by omega)]
 have h0:=lE 0 (by omega);simp only[Ec2,Dz6,D47]at h0;unfold A9;rw[Dq4 (by rw[Ao9 w.up w.own w.bad ⟨by omega,by rw[w.c];omega⟩];simp)];dsimp only;rw[h0];dsimp only;rw[Dq5 ⟨rfl,rfl,rfl,rfl,rfl⟩,Dr0,nF _ (Dq6 _),Ds9]
structure OpB(k:Blk)(nx ep:Int):Prop where
 good:k.bad=false
 next:(k.next:Int)=nx
 pg: ∀(q:Nat) pg,k.pages[q]?=some pg->(E0 pg).2.2=0->(q:Int)<nx/\(E0 pg).1.2.2.2.1=ep/\((E0 pg).1.1=2->(E0 pg).1.2.1=0->(q:Int)+(E0 pg).1.2.2.1<=nx)
theorem Au4{d d':Dev}{b:Int}{k k':Blk}{f:Nat}{l:List (List UInt8)}{mk:Nat->Hd}(w:WrB d d' b k k' f l mk)(hl:d'.bs.length=d.bs.length)(dv:P6 d)(hd:d.down=false)(hk:D7 d b=some k){ep:Int}(ho:OpB k f ep)(he: ∀j,j<l.length->Y3 (mk j)=0/\(mk j).2.2.2.1=ep)(hs: ∀p∈l,p.length<=d.c.S-16)
  {p:It} (hp:p.1=b->p.2.2.1=ep->p.2.1<f) (h:(A9 d' p).2.2=0):A9 d p=A9 d' p:=by
 have hS:=dv.c.s;by_cases hb:p.1=b
 ·obtain⟨-,k2,pg,a1,a2,a3,a4,a5,a6,l2,a7⟩:=B70 w.ok h;rw[hb,w.own]at a1;obtain rfl:=Dq9 a1;have yF: ∀(q:Nat) pg,k'.pages[q]?=some pg->(E0 pg).2.2=0->f<=q-> ∃j,j<l.length/\q=f+j/\(E0 pg).1=mk j:=fun q pg hq ok aS=>by
   rcases Dw8 q (f+l.length)with hO|jY
   ·obtain⟨j,rfl⟩: ∃j,q=f+j:=⟨q-f,by omega⟩;have hj:j<l.length:=by omega
    rw[w.new j hj]at hq;refine⟨j,hj,rfl,?_⟩;rw[<-Dq9 hq,(An3 (he j hj).1 l[j] hS (hs _ (Dr7 hj))).1]
   ·rw[w.old q (.inr jY)]at hq;have:=(ho.pg q pg hq ok).1;omega
  have fF:p.2.1<f:=Dy3 fun aS=>by
   obtain⟨j,hj,-,hm⟩:=yF p.2.1.toNat pg a4 a5 (by omega);have:p.2.2.1=ep:=by rw[<-a6.2.2.1,hm];exact(he j hj).2
   exact aS (hp hb this)
  have a4':=a4;rw[w.old _ (.inl (by omega))]at a4';obtain⟨b1,b2,b3⟩:=ho.pg _ pg a4' a5;have b3:=b3 a6.1 a6.2.1;have iG: ∀q:Int,0<=q->q<f->q<d.c.P->H2 d p.1 q=H2 d' p.1 q:=fun q q0 q1 q2=>by
   rw[hb,Ao9 hd hk ho.good ⟨q0,q2⟩,Ao9 w.up w.own w.bad ⟨q0,by rw[w.c];exact q2⟩,Dt0,Dt0,w.old _ (.inl (by omega))]
  rw[w.c]at a3;have hf:(H2 d' p.1 p.2.1).1=pg:=by
   rw[hb,Ao9 w.up w.own w.bad ⟨a3.1,by rw[w.c];exact a3.2⟩,Dt0,a4];rfl
  have hPf:(f:Int)<=d.c.P:=by
   have:=(dv.nx k (by obtain⟨_,hi,e⟩:=U9 hk;rw[<-e];exact Dr7 hi)).1;have:=ho.next;omega
  refine Bb5 (iG 0 (by omega) (by omega) (by have:=dv.c.p;omega)) (iG _ a3.1 fF a3.2) fun i hi _=>?_;rw[hf]at hi;exact iG _ (by omega) (by omega) (by omega)
 ·exact(A56 w.c hl (w.up.trans hd.symm) (w.ne _ hb)).symm
theorem OpB.wr{d d':Dev}{b:Int}{k k':Blk}{f:Nat}{l:List (List UInt8)}{mk:Nat->Hd}(w:WrB d d' b k k' f l mk)(hS:64<=d.c.S/\d.c.S<=512){ep:Int}(ho:OpB k f ep)(he: ∀j,j<l.length->Y3 (mk j)=0/\(mk j).2.2.2.1=ep/\((mk j).1=2->(mk j).2.1=0->(j:Int)+(mk j).2.2.1<=l.length))(hs: ∀p∈l,p.length<=d.c.S-16):OpB k' ((f:Int)+l.length) ep:=by
 refine⟨w.bad,by rw[w.next];omega,fun q pg hq ok=>?_⟩;rcases Dw8 q f with hO|aS
 ·rw[w.old q (.inl hO)]at hq;obtain⟨a1,a2,a3⟩:=ho.pg q pg hq ok;exact⟨by omega,a2,fun h1 h2=>by have:=a3 h1 h2;omega⟩
 ·rcases Dw8 q (f+l.length)with lQ|jY
  ·obtain⟨j,rfl⟩: ∃j,q=f+j:=⟨q-f,by omega⟩;have hj:j<l.length:=by omega
   rw[w.new j hj]at hq;obtain⟨e1,e2,e3⟩:=he j hj;rw[<-Dq9 hq,(An3 e1 l[j] hS (hs _ (Dr7 hj))).1];exact⟨by omega,e2,fun h1 h2=>by have:=e3 h1 h2;show((f+j:Nat):Int)+(mk j).2.2.1<=_;omega⟩
  ·rw[w.old q (.inr jY)]at hq;have:=(ho.pg q pg hq ok).1;omega
def Reg.be(r:Reg):Int×Int:=(r.b,r.ep)
def Sto.ue(s:Sto):List (Int×Int):=s.rs.map Reg.be++(s.op.map Reg.be).toList
theorem Bl9(s:Sto):fs s.ue=s.us:=by
 unfold fs Sto.ue Sto.us;rw[Ds2,Dv2];cases s.op<;>rfl
def TN(d:Dev)(k:Int):Prop:=(d.torn.length:Int)+(if d.down=true then 0 else 1)<=k+1
theorem TN.st{d d':Dev}{e k:Int}(h:TN d k)(hd:d.down=false)(st:DSt d d' e):TN d' k:=by
 have h1:=st.tn;unfold TN at*;rw[hd]at h;simp only[Dx5,if_false]at h;split at h1<;>rename_i hq<;>simp only[hq,if_true,Dx5,if_false]<;>omega
theorem TN.er{d d':Dev}{b e k:Int}(h:TN d k)(hd:d.down=false)(st:ESt d d' b e):TN d' k:=by
 unfold TN at*;rw[hd]at h;simp only[Dx5,if_false]at h;rw[st.tn];split<;>omega
structure WS(s:Sto)(k:Int):Prop where
 di:DI s.d s.ue k
 ep: ∀u∈s.ue,u.2<=s.epoch
 dr: ∀x,K6 s.d x->(bat s.ss x).dirty=decide (x∉fs s.ue/\P4 s.d x≠0)
 tn:TN s.d k
def WD(d:Dev)(k E:Int):Prop:=(∃us,DI d us (k+1)/\ ∀u∈us,u.2<=E+1)/\SPd d (2+k)/\TN d k
def WR(s:Sto)(k:Int):Prop:=(s.down=false->WS s k)/\(s.down=true->WD s.d k s.epoch)
theorem DI.wd{d:Dev}{us:List (Int×Int)}{k E:Int}(h:DI d us k)(he: ∀u∈us,u.2<=E)(t:TN d k):WD d k E:=⟨⟨us,h.mono (by omega),fun u hu=>by have:=he u hu;omega⟩,h.sp,t⟩
theorem WS.wr{s:Sto}{k:Int}(h:WS s k):WR s k:=⟨fun _=>h,fun _=>h.di.wd h.ep h.tn⟩
section
variable {s s':Sto} {k:Int} {M:Nat}
theorem WS.congr(h:WS s k)(h1:s'.d=s.d)(h2:s'.ue=s.ue)(h3:s'.epoch=s.epoch)(h4:s'.ss=s.ss):WS s' k:=⟨by rw[h1,h2];exact h.di,by rw[h2,h3];exact h.ep,by rw[h1,h2,h4];exact h.dr,by rw[h1];exact h.tn⟩
theorem WR.congr(h:WR s k)(h1:s'.d=s.d)(h2:s'.ue=s.ue)(h3:s'.epoch=s.epoch)(h4:s'.ss=s.ss)(h5:s'.down=s.down):WR s' k:=⟨fun hd=>(h.1 (h5▸hd)).congr h1 h2 h3 h4,fun hd=>by rw[h1,h3];exact h.2 (h5▸hd)⟩
theorem Ay7{d:Dev}{x:Int}{b:Blk}(h:D7 d x=some b):K6 d x↔b.bad=false:=by
 unfold K6;rw[h];simp
theorem Ay6{d d':Dev}{x:Int}(h:D7 d' x=D7 d x):K6 d' x↔K6 d x:=by unfold K6;rw[h]
theorem A32{d d':Dev}{x:Int}(h:D7 d' x=D7 d x):P4 d' x=P4 d x:=by unfold P4;rw[h]
theorem WS.step(h:WS s k)(h1:DI s'.d s.ue k/\Fx s.ue s.d s'.d)(h2:s'.ue=s.ue)(h3:s'.epoch=s.epoch)(h4:s'.ss=s.ss)(h5:TN s'.d k):WS s' k:=by
 refine⟨by rw[h2];exact h1.1,by rw[h2,h3];exact h.ep,fun x hx=>?_,h5⟩;rw[h2,h4];by_cases hm:x∈fs s.ue
 ·rw[h.dr x (h.di.good hm)];simp[hm]
 ·have e:=h1.2 x hm;rw[h.dr x ((Ay6 e).1 hx),A32 e]
theorem SOk.gd(ok:SOk s M)(hd:s.down=false)(x:Int):(F5 s.ss x=true↔K6 s.d x)/\(K6 s.d x->(bat s.ss x).wear=O0 s.d x):=by
 by_cases hx:0<=x
 ·cases hk:s.d.bs[x.toNat]? with
  |none=>
   have fQ:s.ss[x.toNat]?=none:=by
    rw[List.getElem?_eq_none_iff]at hk⊢;rw[ok.ssl];exact hk
   have hb:D7 s.d x=none:=by unfold D7;rw[Dq5 hx,hk]
   have tT: ¬K6 s.d x:=fun⟨b,dE,_⟩=>by rw[hb]at dE;cases dE
   refine⟨⟨fun hg=>?_,fun hg=>absurd hg tT⟩,fun hg=>absurd hg tT⟩;unfold F5 at hg;rw[fQ]at hg;simp at hg
  |some b=>
   obtain⟨y,hy,hw,cO⟩:=ok.ssd hd x.toNat b hk;have hb:D7 s.d x=some b:=by unfold D7;rw[Dq5 hx,hk]
   refine⟨?_,fun _=>?_⟩
   ·rw[Ay7 hb];unfold F5;rw[hy];simp[hx,cO]
   ·unfold bat O0;rw[hy,hb];exact hw
 ·have hb:D7 s.d x=none:=by unfold D7;rw[Dq4 hx]
  have tT: ¬K6 s.d x:=fun⟨b,dE,_⟩=>by rw[hb]at dE;cases dE
  refine⟨⟨fun hg=>?_,fun hg=>absurd hg tT⟩,fun hg=>absurd hg tT⟩;unfold F5 at hg;simp[hx]at hg
theorem WS.cost(h:WS s k)(ok:SOk s M)(hd:s.down=false){x:Int}(hg:K6 s.d x):Ab6 (bat s.ss x)=P9 s.d (fs s.ue) x:=by
 have hw:=(ok.gd hd x).2 hg;have dT:=h.dr x hg;obtain⟨b,hb,-⟩:=hg;rw[Af7 hb];unfold Ab6;rw[dT,hw];have e1:O0 s.d x=b.wear:=by unfold O0;rw[hb];rfl
 have e2:P4 s.d x=b.next:=by unfold P4;rw[hb];rfl
 rw[e1,e2];unfold nz;by_cases hm:x∈fs s.ue
 ·simp[hm]
 ·by_cases hn:b.next=0
  ·simp[hm,hn]
  ·simp[hm,hn]
theorem WS.write(h:WS s k)(ok:SOk s M)(hd:s.down=false)(kind:Int)(l:List (List UInt8)):WS (s.write kind l).1 k:=by
 unfold Sto.write;split
 ·exact h
 ·rename_i o ho;have hb:o.b∈fs s.ue:=by rw[Bl9];unfold Sto.us;rw[ho];simp
  have h1:=h.di.app hb o.ep (ok.op o ho).1 kind l;have h2:=h.tn.st (by rw[<-ok.dn];exact hd) (Bk5 ok.dv (by rw[<-ok.dn];exact hd) o.b o.ep o.nx kind l).1;dsimp only;generalize Ah3 s.d o.b o.ep o.nx kind l=q at h1 h2;split
  ·exact h.step (s':=((s.pay l.length).dev q.2).met q.1) h1 rfl rfl rfl h2
  ·refine h.step (s':={(s.pay l.length).dev q.2 with op:=some (o.grown kind l.length)}) h1 ?_ rfl rfl h2;show s.rs.map Reg.be++[_]=s.rs.map Reg.be++(s.op.map Reg.be).toList;rw[ho];rfl
theorem WS.seals(h:WS s k)(ok:SOk s M)(hd:s.down=false):WS s.seals.1 k/\s.seals.1.ue=s.ue:=by
 unfold Sto.seals;split
 ·exact⟨h,rfl⟩
 ·rename_i o ho;have hb:o.b∈fs s.ue:=by rw[Bl9];unfold Sto.us;rw[ho];simp
  have h1:=h.di.sealD hb o.ep (ok.op o ho).1 o.l;have h2:=h.tn.st (by rw[<-ok.dn];exact hd) (Bd7 ok.dv (by rw[<-ok.dn];exact hd) o.b o.ep o.nx o.l);dsimp only;generalize T2 s.d o.b o.ep o.nx o.l=q at h1 h2;have hu:(({(s.pay 1).dev q.2 with op:=none,rs:=s.rs++[o]}:Sto).met q.1).ue=s.ue:=by
   show(s.rs++[o]).map Reg.be++[]=s.rs.map Reg.be++(s.op.map Reg.be).toList;rw[ho];simp
  exact⟨h.step h1 hu rfl rfl h2,hu⟩
theorem WS.begins(h:WS s k)(ok:SOk s M)(hd:s.down=false)(bM:s.op=none){b:Int}(hb:N6 s.ss s.us b=true)(bN:(bat s.ss b).dirty=false)(hm: ∀f,K6 s.d f->f∉fs s.ue->P9 s.d (fs s.ue) b<=P9 s.d (fs s.ue) f):WR (s.begins b).1 k:=by
 obtain⟨hg,fY⟩:=D8 hb;obtain⟨kb,hk,bC⟩:=(ok.gd hd b).1.1 hg;rw[<-Bl9]at fY;have h1:=h.di.opn2 ok.dv hk bC fY (ep:=s.epoch+1) (fun u hu=>by have:=h.ep u hu;omega) hm;have ht:=h.tn.st (by rw[<-ok.dn];exact hd) (Bf2 ok.dv (by rw[<-ok.dn];exact hd) b (s.epoch+1));unfold Sto.begins;dsimp only;generalize T3 s.d b (s.epoch+1)=q at h1 ht;rcases h1 with⟨e1,e2⟩|⟨e1,e2,e3⟩|⟨e1,e2,e3⟩
 ·rw[Dq5 e2];exact(h.congr (s':=(((s.pay 1).dev q.2).met q.1)) e1 rfl rfl rfl).wr
 ·rw[Dq4 (by simpa using e1)];refine WS.wr ?_;have hu:({(s.pay 1).dev q.2 with epoch:=s.epoch+1,op:=some ⟨b,s.epoch+1,1,[]⟩}:Sto).ue=s.ue++[(b,s.epoch+1)]:=by
   show s.rs.map Reg.be++[_]=s.rs.map Reg.be++(s.op.map Reg.be).toList++[_];rw[bM];simp;rfl
  refine⟨by rw[hu];exact e2,fun u fP=>?_,fun x hx=>?_,ht⟩
  ·rw[hu]at fP;show u.2<=s.epoch+1;rcases Dr5.1 fP with fP|fP
   ·have:=h.ep u fP;omega
   ·rw[Dr2.1 fP];exact Du5 _
  ·rw[hu];show(bat s.ss x).dirty=decide (x∉fs (s.ue++[(b,s.epoch+1)])/\P4 q.2 x≠0);have hf:fs (s.ue++[(b,s.epoch+1)])=fs s.ue++[b]:=by simp[fs]
   rw[hf];by_cases e:x=b
   ·rw[e,bN];simp
   ·have e4:=e3 x e;rw[h.dr x ((Ay6 e4).1 hx),A32 e4];refine decide_eq_decide.2 ⟨fun⟨q1,q2⟩=>⟨fun hm=>?_,q2⟩,fun⟨q1,q2⟩=>⟨fun hm=>q1 (Ds8 _ hm),q2⟩⟩;rcases Dr5.1 hm with hm|hm
    ·exact q1 hm
    ·exact e (Dr2.1 hm)
 ·rw[Dq5 (by rw[e1];decide)];refine⟨fun aK=>?_,fun _=>⟨e2,e3 _ h.di.sp,ht⟩⟩;have:(s.down||decide (q.1=11))=false:=aK;rw[e1]at this;simp at this
theorem Cs6{d':Dev}{us us':List (Int×Int)}{b:Int}{kb kb':Blk}(t:A71 s.d d' b kb kb')(dT: ∀x,K6 s.d x->(bat s.ss x).dirty=decide (x∉fs us/\P4 s.d x≠0))(hO:b.toNat<s.ss.length)(hn:kb'.next=0)(hm: ∀x,x≠b->(x∈fs us↔x∈fs us'))(bad:Bool):
  ∀x,K6 d' x->(bat (Ad4 s.ss b (R5 bad)) x).dirty=decide (x∉fs us'/\P4 d' x≠0):=fun x hx=>by
 have eM:=(U9 t.at').1;by_cases e:x=b
 ·rw[e,Av1 _ hO];have:P4 d' b=0:=by unfold P4;rw[t.own];show((kb'.next:Nat):Int)=0;rw[hn];rfl
  rw[this];simp[R5]
 ·have mN:=hx;obtain⟨y,hy,-⟩:=mN;have gJ:=(U9 hy).1;have e4:=t.ne e;rw[Al2 _ eM gJ e,dT x ((Ay6 e4).1 hx),A32 e4];rw[D81,hm x e]
theorem Bi9(b:Int):(s.erase b).1.epoch=s.epoch:=by
 unfold Sto.erase;dsimp only;split<;>rfl
theorem Bi7(b:Int)(e:(E7 s.d b).1≠11):(s.erase b).1.ue=(s.rs.filter fun r=> !decide (r.b=b)).map Reg.be++(s.op.map Reg.be).toList/\(s.erase b).1.d=(E7 s.d b).2/\(s.erase b).1.epoch=s.epoch/\(s.erase b).1.ss=(if F5 s.ss b=true then Ad4 s.ss b (R5 (decide ((E7 s.d b).1=10)))else s.ss):=by
 unfold Sto.erase;dsimp only;rw[Dq4 e];exact⟨rfl,rfl,rfl,rfl⟩
theorem Ay9(b:Int)(e:(E7 s.d b).1=11):(s.erase b).1.d=(E7 s.d b).2/\(s.erase b).1.down=true/\(s.erase b).2=11:=by
 unfold Sto.erase;dsimp only;rw[Dq5 e];refine⟨rfl,?_,rfl⟩;show(s.down||decide ((11:Int)=11))=true;simp
theorem WS.wash(h:WS s k)(ok:SOk s M)(hd:s.down=false){b:Int}(hb:N6 s.ss s.us b=true)(dK:(bat s.ss b).dirty=true):
  WR (s.erase b).1 k/\((s.erase b).2=0->WS (s.erase b).1 k/\(s.erase b).1.ue=s.ue/\ ∀x,K6 (s.erase b).1.d x->K6 s.d x/\P9 (s.erase b).1.d (fs s.ue) x=P9 s.d (fs s.ue) x):=by
 obtain⟨hg,fY⟩:=D8 hb;have iK:=(ok.gd hd b).1.1 hg;have dT:=h.dr b iK;obtain⟨kb,hk,bC⟩:=iK;obtain⟨-,hO,-⟩:=K5 hg;rw[<-Bl9]at fY;have hP:4<=s.d.c.P:=ok.dv.c.p.1;have hz:nz kb=1:=by
  rw[dK]at dT;have h2:=(Dv5 dT.symm).2;have e2:P4 s.d b=kb.next:=by unfold P4;rw[hk];rfl
  rw[e2]at h2;unfold nz;rw[Dq5 (by omega)]
 have wI:U5 kb=none:=by
  have:=h.di.fr b fY;unfold U7 at this;rw[hk]at this;exact this
 have ht:=h.tn.er (by rw[<-ok.dn];exact hd) (Ar1 ok.dv (by rw[<-ok.dn];exact hd) b);obtain⟨kb',t,hc⟩:=Ai5 ok.dv (by rw[<-ok.dn];exact hd) hk bC;rcases hc with⟨e1,n,rfl⟩|⟨e1,rfl,-⟩
 ·obtain⟨a1,a2,a3⟩:=Ay9 b e1;obtain⟨b1,b2,b3,b4⟩:=Bm2 hP kb n;have h1:=(h.di.wash t fY bC (b1.elim id fun q=>q.trans wI) (by rw[b2,b3,hz])).1;exact⟨⟨fun hx=>(by rw[a2]at hx;cases hx),fun _=>(by rw[a1,Bi9];exact h1.wd h.ep ht)⟩,fun hx=>(by rw[a3]at hx;cases hx)⟩
 ·obtain⟨a1,a2,a3,a4⟩:=Bi7 b e1;obtain⟨b1,b2,b3⟩:=Ba9 hP kb;obtain⟨h1,h2⟩:=h.di.wash t fY bC b1 (by rw[b2,b3,hz];omega);have hu:(s.erase b).1.ue=s.ue:=by
   rw[a1];unfold Sto.ue;congr 2;rw[Dz9];intro r hr;have:r.b≠b:=fun e=>fY (by rw[Bl9,<-e];unfold Sto.us;exact Ds8 _ (Du6 hr));simp[this]
  have hw:WS (s.erase b).1 k:=by
   refine⟨by rw[a2,hu];exact h1,by rw[hu,a3];exact h.ep,?_,by rw[a2];exact ht⟩;rw[a2,hu,a4,Dq5 hg];exact Cs6 t h.dr hO rfl (fun x _=>Iff.rfl) _
  exact⟨hw.wr,fun _=>⟨hw,hu,by rw[a2];exact h2⟩⟩
theorem WS.oldest(h:WS s k)(ok:SOk s M)(hd:s.down=false){r:Reg}{t:List Reg}(hr:s.rs=r::t):WR (s.erase r.b).1 k:=by
 have mZ:s.ue=r.be::(t.map Reg.be++(s.op.map Reg.be).toList):=by unfold Sto.ue;rw[hr];rfl
 have fY:r.b∈fs s.ue:=by rw[mZ];simp[fs,Reg.be]
 have iK:=h.di.good fY;have hg:=(ok.gd hd r.b).1.2 iK;obtain⟨kb,hk,bC⟩:=iK;obtain⟨-,hO,-⟩:=K5 hg;have hP:4<=s.d.c.P:=ok.dv.c.p.1;have dK:=h.di;rw[mZ]at dK;have ht:=h.tn.er (by rw[<-ok.dn];exact hd) (Ar1 ok.dv (by rw[<-ok.dn];exact hd) r.b);obtain⟨kb',st,hc⟩:=Ai5 ok.dv (by rw[<-ok.dn];exact hd) hk bC;rcases hc with⟨e1,n,rfl⟩|⟨e1,rfl,-⟩
 ·obtain⟨a1,a2,a3⟩:=Ay9 r.b e1;obtain⟨b1,b2,b3,b4⟩:=Bm2 hP kb n;refine⟨fun hx=>(by rw[a2]at hx;cases hx),fun _=>?_⟩;rw[a1,Bi9];have bX: ∀u∈t.map Reg.be++(s.op.map Reg.be).toList,u.2<=s.epoch:=fun u hu=>h.ep u (by rw[mZ];exact Dr6 _ hu);rcases b1 with b1|b1
  ·exact(dK.drop (u:=r.be) st b1 (by rw[b2,b3])).wd bX ht
  ·exact(h.di.frame st b3 b4 b1 fY).wd h.ep ht
 ·obtain⟨a1,a2,a3,a4⟩:=Bi7 r.b e1;obtain⟨b1,b2,b3⟩:=Ba9 hP kb;have h1:=dK.drop (u:=r.be) st b1 (by rw[b2,b3];omega);have bV:=dK.nd;have bV:r.b∉fs (t.map Reg.be++(s.op.map Reg.be).toList):=(Dv9.1 bV).1;have hu:(s.erase r.b).1.ue=t.map Reg.be++(s.op.map Reg.be).toList:=by
   rw[a1,hr,D66];simp only[decide_true,Bool.not_true,Dx5,if_false];congr 2;rw[Dz9];intro x hx;have:x.b≠r.b:=fun e=>bV (by rw[<-e];exact Dt4.2 ⟨x.be,Ds8 _ (Du6 hx),rfl⟩);simp[this]
  refine WS.wr ⟨by rw[a2,hu];exact h1,fun u fP=>?_,?_,by rw[a2];exact ht⟩
  ·rw[hu]at fP;rw[a3];exact h.ep u (by rw[mZ];exact Dr6 _ fP)
  ·rw[a2,hu,a4,Dq5 hg];refine Cs6 st h.dr hO rfl (fun x hx=>?_) _;rw[mZ];simp[fs,Reg.be,hx]
theorem WS.move(h:WS s k)(ok:SOk s M)(hd:s.down=false)(p:It)(n beside:Int):WS (s.move p n beside).1 k:=by
 unfold Sto.move;dsimp only;split
 ·exact h
 ·split
  ·exact h.congr rfl rfl rfl rfl
  ·split
   ·exact h
   ·have:=h.write ok hd 2 (J5 (A9 s.d p).1 (A9 s.d p).2.1 (J8 s.sc.c)).1;split
    ·exact this.congr rfl rfl rfl rfl
    ·exact this
theorem WS.moves{b ep beside:Int}: ∀(l:List It) {s:Sto} {M:Nat},WS s k->SOk s M->s.down=false->WS (Sto.moves b ep beside l s).1 k
 |[],s,M,h,ok,hd=>h
 |x::r,s,M,h,ok,hd=>by
  unfold Sto.moves;split
  ·exact WS.moves r h ok hd
  ·have h1:=ok.move hd (b,x.2.1,ep,()) x.2.2.1 beside;have h2:=h.move ok hd (b,x.2.1,ep,()) x.2.2.1 beside;dsimp only;split
   ·exact h2
   ·rename_i h0;exact WS.moves r h2 h1.1 (h1.2.1 (by simpa using h0))
theorem WS.reclaim(h:WS s k)(ok:SOk s M)(hd:s.down=false){r:Reg}{t:List Reg}(hr:s.rs=r::t)(beside:Int):WR (s.reclaim r beside).1 k:=by
 obtain⟨h1,h2,mv⟩:=SOk.moves (b:=r.b) (ep:=r.ep) (beside:=beside) r.l ok hd;have h3:=WS.moves (b:=r.b) (ep:=r.ep) (beside:=beside) r.l h ok hd;unfold Sto.reclaim;dsimp only;split
 ·exact h3.wr
 ·rename_i h0;exact WS.oldest (s:={(Sto.moves r.b r.ep beside r.l s).1 with pend:=(Sto.moves r.b r.ep beside r.l s).1.pend.filter fun p=> !decide (p.1=r.b)}) (h3.congr rfl rfl rfl rfl) (h1.cutp r.b) (h2 (by simpa using h0)) (mv.rs.trans hr)
theorem WS.frees{n:Int}: ∀(j:Nat) {s:Sto} {M:Nat},WS s k->SOk s M->s.down=false->WR (Sto.frees n j s).1 k
 |0,s,M,h,ok,hd=>h.wr
 |j+1,s,M,h,ok,hd=>by
  unfold Sto.frees;split
  ·split
   ·exact h.wr
   ·rename_i r t hr;have h1:=ok.reclaim hd hr n;have h2:=h.reclaim ok hd hr n;dsimp only;split
    ·exact h2
    ·rename_i h0;have h3:=(h1.2.1 (by simpa using h0)).1;exact WS.frees j (h2.1 h3) h1.1 h3
  ·exact h.wr
theorem WS.more(h:WS s k)(ok:SOk s M)(hd:s.down=false)(n:Int):WR (s.more n).1 k:=by
 unfold Sto.more;split
 ·exact h.wr
 split
 ·exact h.wr
 rename_i bX;split
 ·split
  ·exact h.wr
  ·rename_i r t hr;exact h.reclaim ok hd hr n
 rename_i bB;obtain⟨s1,s2,s3,s4,s5,s6,s7⟩:=ok.seals hd;obtain⟨w1,w2⟩:=h.seals ok hd;dsimp only;generalize s.seals=w at s1 s2 s3 s4 s5 s6 s7 w1 w2;split
 ·exact w1.wr
 rename_i h0;have eF:=s2 (by simpa using h0);have bQ:w.1.free≠0:=by
  unfold Sto.free at bB⊢;rw[s5,s4];exact bB
 obtain⟨p1,p2⟩:=Aa7 bQ;have nE: ∀f,K6 w.1.d f->f∉fs w.1.ue->P9 w.1.d (fs w.1.ue) (E2 w.1.ss w.1.us).2.2<=P9 w.1.d (fs w.1.ue) f:=fun f hf fD=>by
  obtain⟨q1,q2,-⟩:=Bb9 w.1.ss w.1.us;have de:=(s1.gd eF f).1.2 hf;obtain⟨c1,c2,-⟩:=K5 de;have dj:N6 w.1.ss w.1.us f=true:=by
   rw[Bl9]at fD;unfold N6;rw[de];simp[fD]
  cases hp:(E2 w.1.ss w.1.us).1 with
  |false=>
   have:=q1 hp f.toNat c2;rw[D17 c1,dj]at this;cases this
  |true=>
   have h3:=(q2 hp).2.2 f.toNat c2;rw[D17 c1]at h3;rw[<-w1.cost s1 eF hf,<-w1.cost s1 eF ((s1.gd eF _).1.1 (D8 p1).1)];exact h3 dj
 obtain⟨z,hz,z1,z2,z3,z4,z5,z6⟩:=s1.picks eF s3 bQ;have gA:WR z.1 k/\(z.2=0->z.1.ue=w.1.ue/\ ∀x,K6 z.1.d x->K6 w.1.d x/\P9 z.1.d (fs w.1.ue) x=P9 w.1.d (fs w.1.ue) x):=by
  rw[hz,p2];rw[p2]at hz;cases dK:(bat w.1.ss (E2 w.1.ss w.1.us).2.2).dirty with
  |false=>
   rw[Dq4 (by decide)];exact⟨w1.wr,fun _=>⟨rfl,fun x hx=>⟨hx,rfl⟩⟩⟩
  |true=>
   rw[Dq5 rfl];have:=w1.wash s1 eF p1 dK;exact⟨this.1,fun h0=>(this.2 h0).2⟩
 rw[<-hz];clear hz;generalize E2 w.1.ss w.1.us=pk at z6 nE p1 p2;split
 ·exact gA.1
 rename_i cY;have cY:z.2=0:=by simpa using cY
 obtain⟨y1,y2,y3,y4,y5⟩:=z6 cY;obtain⟨g1,g2⟩:=gA.2 cY;have kP:=gA.1.1 y1;split
 ·exact gA.1
 rename_i cO;obtain⟨f1,f2⟩:=y5 cO;have bN:(bat z.1.ss pk.2.2).dirty=false:=by
  unfold Ag4 at f2;rw[f1]at f2;unfold bat;cases hq:z.1.ss[pk.2.2.toNat]? with
  |none=>rfl
  |some x=>rw[hq]at f2;simpa using f2
 have uI:=(z1.gd y1 _).1.1 (D8 f1).1;have hm: ∀f,K6 z.1.d f->f∉fs z.1.ue->P9 z.1.d (fs z.1.ue) pk.2.2<=P9 z.1.d (fs z.1.ue) f:=fun f hf fD=>by
  rw[g1]at fD⊢;rw[(g2 _ uI).2,(g2 f hf).2];exact nE f (g2 f hf).1 fD
 have hb:=kP.begins z1 y1 z2 f1 bN hm;have aA:=z1.begins y1 z2 (by rw[z4,s6];omega) f1;split
 ·exact hb
 rename_i dY;have hy:=(aA.2 (by simpa using dY)).1;exact WS.frees _ (hb.1 hy) aA.1 hy
theorem WS.room{n:Int}(hn:0<=n): ∀(j:Nat) {s:Sto} {M:Nat},WS s k->SOk s M->s.down=false->WR (Sto.room n j s).1 k
 |0,s,M,h,ok,hd=>h.wr
 |j+1,s,M,h,ok,hd=>by
  rw[M3];split
  ·split<;>exact h.wr
  ·have h1:=ok.more hd hn;have h2:=h.more ok hd n;split
   ·exact h2
   ·rename_i h0;have h3:=(h1.2.1 (by simpa using h0)).1;exact WS.room hn j (h2.1 h3) h1.1 h3
theorem WS.adm(h:WS s k)(ok:SOk s M)(hd:s.down=false)(key:ByteArray)(val:List UInt8):WR (s.adm key val).1 k:=by
 unfold Sto.adm;dsimp only;split
 ·exact h.wr
 ·have h1:WR (s.roomy (J5 key.data.toList val (J8 s.sc.c)).1.length).1 k:=WS.room (by omega) _ h ok hd;obtain⟨h2,h3,-⟩:=ok.roomy hd (n:=((J5 key.data.toList val (J8 s.sc.c)).1.length:Int)) (by omega);split
  ·exact h1
  ·rename_i h0;have h4:=(h3 (by simpa using h0)).1;have h5:=(h1.1 h4).write h2 h4 2 (J5 key.data.toList val (J8 s.sc.c)).1;split
   ·refine WS.wr ?_;exact h5.congr rfl rfl rfl rfl
   ·exact h5.wr
theorem WR.forget(h:WR s k)(key:ByteArray):WR (s.forget key).1 k:=by
 unfold Sto.forget;dsimp only;split<;>exact h.congr rfl rfl rfl rfl rfl
theorem WS.trim: ∀(j:Nat) {s:Sto} {M:Nat},WS s k->SOk s M->s.down=false->WR (Sto.trim j s).1 k
 |0,s,M,h,ok,hd=>h.wr
 |j+1,s,M,h,ok,hd=>by
  unfold Sto.trim;split
  ·cases hq:s.q with
   |nil=>exact h.wr
   |cons y r=>
    dsimp only;have fS:=ok.qs;have eH:=ok.ql;rw[hq]at fS eH;have h1:SOk {s with q:=r} M:=ok.setq (fun e he=>fS e (Dr6 _ he)) (by simp at eH;omega);have w0:WS {s with q:=r} k:=h.congr rfl rfl rfl rfl;have hw:SOk (if y.2.2>0 then({s with q:=r}:Sto).adm y.1 y.2.1 else({s with q:=r},8)).1 (M+1)/\WR (if y.2.2>0 then({s with q:=r}:Sto).adm y.1 y.2.1 else({s with q:=r},8)).1 k/\((if y.2.2>0 then({s with q:=r}:Sto).adm y.1 y.2.1 else({s with q:=r},8)).2≠11->(if y.2.2>0 then({s with q:=r}:Sto).adm y.1 y.2.1 else({s with q:=r},8)).1.down=false)/\(if y.2.2>0 then({s with q:=r}:Sto).adm y.1 y.2.1 else({s with q:=r},8)).1.sc=s.sc:=by
     split
     ·have ha:=h1.adm hd y.1 y.2.1;exact⟨ha.1,w0.adm h1 hd _ _,fun hn=>(R4 _ _ _ hn).trans hd,ha.2⟩
     ·exact⟨h1.upto (by omega),w0.wr,fun _=>hd,rfl⟩
    generalize (if y.2.2>0 then({s with q:=r}:Sto).adm y.1 y.2.1 else({s with q:=r},8))=w at hw;obtain⟨k1,k2,k3,k4⟩:=hw;split
    ·rename_i h0;have h5:=k3 (by rw[h0];decide);exact WS.trim j (k2.1 h5) k1 h5
    ·split
     ·exact k2
     ·rename_i h0 h11;have h5:=k3 h11;refine WS.trim j ((k2.1 h5).congr rfl rfl rfl rfl) (k1.setgh (gh:=Bh8 s.sc.ghost w.1.gh (s.hash y.1)) ?_) h5;have h6:=k1.gl;have h7:=k1.gs;rw[k4]at h6 h7⊢;exact Aa5 h7.1 h6 _
  ·exact h.wr
theorem WS.putYoung(h:WS s k)(ok:SOk s M)(hd:s.down=false)(hq:s.q.length<=65536){key:ByteArray}{val:List UInt8}(hk:1<=key.size/\key.size<=255)(hv:val.length<=65536):WR (s.putYoung key val).1 k:=by
 have h1:=(ok.putYoung hd hq hk hv).1;unfold Sto.putYoung;exact WS.trim _ (h.congr rfl rfl rfl rfl) h1 hd
theorem WR.put(h:WR s k)(iv:H4 s M)(key:ByteArray)(val:List UInt8):WR (s.put key val).1 k:=by
 unfold Sto.put;split
 ·exact h
 ·rename_i ha;obtain⟨hd,hk⟩:=T0 (s:=s) (key:=key) (by simpa using ha);split
  ·exact h
  ·rename_i hv;obtain⟨f1,f2,f3,f4,f5⟩:=iv.ok.forget key;have dN:(s.forget key).1.q.length<=65536:=by rw[f4];exact Dt1 (P5 _ _) (iv.q hd)
   have bI:(s.forget key).1.down=false:=f2.trans hd;have h1:=(h.forget key).1 bI;dsimp only;generalize (s.forget key).1=s1 at f1 f2 f3 f4 f5 dN bI h1;split
   ·exact h1.wr
   ·split
    ·have hg:SOk {s1 with gh:=s1.gh.erase ((s.hash key:Nat):Int)} (M+1):=f1.setgh (by have h1:=f1.gl;have h2:(s1.gh.erase ((s.hash key:Nat):Int)).length<=s1.gh.length:=D00;omega);have w0:WS {s1 with gh:=s1.gh.erase ((s.hash key:Nat):Int)} k:=h1.congr rfl rfl rfl rfl;have a0:=w0.adm hg bI key val;obtain⟨a1,a2⟩:=hg.adm bI key val;have a3:=Ad2 {s1 with gh:=s1.gh.erase ((s.hash key:Nat):Int)} key val;have a4:=R4 {s1 with gh:=s1.gh.erase ((s.hash key:Nat):Int)} key val;generalize ({s1 with gh:=s1.gh.erase ((s.hash key:Nat):Int)}:Sto).adm key val=w at a0 a1 a2 a3 a4;have eI:w.1.q.length<=65536:=by rw[a3.1];exact dN
     split
     ·exact a0
     ·rename_i hw;rw[Du4]at hw;have h5:=(a4 hw.2).trans bI;exact(a0.1 h5).putYoung a1 h5 eI hk (by omega)
    ·exact h1.putYoung f1 bI dN hk (by omega)
theorem WR.get(h:WR s k)(key:ByteArray):WR (s.get key).1 k:=by
 unfold Sto.get;split
 ·exact h
 ·split
  ·exact h.congr rfl rfl rfl rfl rfl
  ·split
   ·exact h
   ·exact h.congr rfl rfl rfl rfl rfl
theorem WR.delete(h:WR s k)(key:ByteArray):WR (s.delete key).1 k:=by
 unfold Sto.delete;split
 ·exact h
 ·exact h.forget key
theorem WR.tick(h:WR s k)(now:Int):WR (s.tick now) k:=by
 unfold Sto.tick;split
 ·exact h
 ·exact h.congr rfl rfl rfl rfl rfl
theorem WS.flushes: ∀(j:Nat) {s:Sto} {M:Nat},WS s k->H4 s M->s.down=false->WR (Sto.flushes j s).1 k
 |0,s,M,h,iv,hd=>h.wr
 |j+1,s,M,h,iv,hd=>by
  unfold Sto.flushes;split
  ·exact h.wr
  ·obtain⟨a1,a2,a3⟩:=iv.ok.roomy hd (n:=1) (by decide);have a4:WR (s.roomy 1).1 k:=WS.room (by decide) _ h iv.ok hd;have aq:(s.roomy 1).1.q=s.q:=(A13 1 (s.mu+1) s).1;dsimp only;generalize s.roomy 1=w at a1 a2 a3 a4 aq;split
   ·exact a4
   ·rename_i h0;obtain⟨b1,b2⟩:=a2 (by simpa using h0);have w1:=a4.1 b1;split
    ·exact a4
    ·split
     ·exact a4
     ·have w2:=w1.write a1 b1 3 [(M7 (w.1.pend.take (min w.1.pend.length (B7 w.1.sc.c.S/6).toNat))).1];obtain⟨c1,c2⟩:=a1.write b1 3 [(M7 (w.1.pend.take (min w.1.pend.length (B7 w.1.sc.c.S/6).toNat))).1];have cq:=Am6 w.1 3 [(M7 (w.1.pend.take (min w.1.pend.length (B7 w.1.sc.c.S/6).toNat))).1];generalize w.1.write 3 [(M7 (w.1.pend.take (min w.1.pend.length (B7 w.1.sc.c.S/6).toNat))).1]=z at w2 c1 c2 cq;split
      ·exact w2.wr
      ·rename_i h1;have h1:z.2.2=0:=by simpa using h1
       have i4:H4 {z.1 with pend:=z.1.pend.drop (min w.1.pend.length (B7 w.1.sc.c.S/6).toNat)} M:=⟨{c1 with dv:=c1.dv,pl:=by show(z.1.pend.drop _).length<=M;rw[Ds6];have:=c1.pl;omega},fun _=>by show z.1.q.length<=65536;rw[cq.1,aq];exact iv.q hd⟩;exact WS.flushes j (w2.congr rfl rfl rfl rfl) i4 (c2 h1)
theorem WR.flush(h:WR s k)(iv:H4 s M):WR s.flush.1 k:=by
 unfold Sto.flush;split
 ·exact h
 ·rename_i hd;have hd:s.down=false:=by simpa using hd
  exact WS.flushes _ (h.1 hd) iv hd
end
theorem Cm6{E:Int}: ∀(l:List HD) (a:Int),a<=E->(∀h∈l,h.2.1<=E)->l.foldl (fun a h=>Aa2 a h.2.1) a<=E
 |[],a,h0,_=>h0
 |x::r,a,h0,h=>by
  have hx:=h x (by simp);rw[D02];exact Cm6 r _ (by unfold Aa2;split<;>omega) fun y hy=>h y (by simp[hy])
theorem B13(ss:List BS)(n x:Int):F5 (Ad4 ss n Ac3) x=F5 ss x:=by
 unfold F5 Ad4;rw[Dy7];cases ss[x.toNat]? with
 |none=>rfl
 |some y=>
  simp only[Ed1,D04];split<;>simp[Ac3]
theorem Bc0: ∀(l:List Int) {ss:List BS} {us:List Int},(us++l).Nodup->(∀x∈l,F5 ss x=true)-> ∃r,Au9 ss us l=some r/\ ∀x,0<=x->(bat r.1 x).dirty=(decide (x∉l)&&(bat ss x).dirty)
 |[],ss,us,_,_=>⟨(ss,us),rfl,fun x _=>by simp⟩
 |n::t,ss,us,hn,hg=>by
  have uJ:=hg n (by simp);obtain⟨h0,hO,-⟩:=K5 uJ;have yD:n∉us:=fun hm=>(Dx3.1 hn).2.2 n hm n (by simp) rfl;have hf:N6 ss us n=true:=by unfold N6;rw[uJ];simp[yD]
  obtain⟨r,h1,h2⟩:=Bc0 t (ss:=Ad4 ss n Ac3) (us:=us++[n]) (by rw[Ds5];exact hn) fun x hx=>by rw[B13];exact hg x (by simp[hx])
  refine⟨r,?_,fun x hx=>?_⟩
  ·unfold Au9;rw[Dq5 hf];exact h1
  ·rw[h2 x hx];by_cases e:x=n
   ·rw[e,Av1 _ hO];simp[Ac3]
   ·rw[Al2 _ h0 hx e];simp[e]
theorem Ba2: ∀(l:List LE) (s:Sto),(Ac7 l s).d=s.d/\(Ac7 l s).ue=s.ue/\(Ac7 l s).epoch=s.epoch/\(Ac7 l s).ss=s.ss/\(Ac7 l s).sc=s.sc/\(Ac7 l s).down=s.down/\(Ac7 l s).bk=s.bk
 |[],s=>⟨rfl,rfl,rfl,rfl,rfl,rfl,rfl⟩
 |x::r,s=>Ba2 r (s.list x.1 x.2)
theorem B46{d:Dev}{us:List (Int×Int)}{k:Int}(h:DI d us k)(ok:P6 d)(aK:d.down=false)(ht:TN d k){x:Av2}(hx:Bu0 x d)(now:Int):
  ∃s,Ag9 x d now=(some s,0)/\WS s k/\s.sc=Ar9 x d/\s.down=false/\s.d=d/\s.bk=Al7 (Ar9 x d).rate (Ar9 x d).burst now 0/\ ∀E,0<=E->(∀u∈us,u.2<=E)->s.epoch<=E:=by
 have cA:=Dm6 h ok aK;have hB:=ok.c.b;have hW:=ok.c.w;have wA:(U6 d).map Reg.b=fs us:=by
  rw[<-cA];unfold U6 fs;rw[Dv2,Dv2];rfl
 have aT:(Aw9 d).length=d.c.B:=by unfold Aw9;rw[Dr1,ok.len]
 have zK:Bu2 (Aw9 d)=true:=by
  unfold Bu2 Aw9;rw[List.all_map,Dy1];intro b hb;have:=ok.nx b hb;simp only[Function.comp,Dy0];omega
 have vE: ∀y,K6 d y->F5 (Aw9 d) y=true/\(bat (Aw9 d) y).dirty=decide (P4 d y≠0):=fun y ⟨b,hb,mF⟩=>by
  obtain⟨h0,hi,e⟩:=U9 hb;have hs:(Aw9 d)[y.toNat]?=some ⟨b.wear,b.bad,decide (b.next≠0)⟩:=by
   unfold Aw9;rw[Du3,Dr9 hi,e];rfl
  have hn:P4 d y=b.next:=by unfold P4;rw[hb];rfl
  constructor
  ·unfold F5;rw[hs];simp[h0,mF]
  ·unfold bat;rw[hs,hn];show decide (b.next≠0)=_;exact decide_eq_decide.2 (by omega)
 obtain⟨r,hr,iG⟩:=Bc0 (fs us) (ss:=Aw9 d) (us:=[]) (by simpa using h.nd) fun y hy=>(vE y (h.good hy)).1;have jK:Ah1 (Aw9 d) ((U6 d).map Reg.b)=some r:=by
  unfold Ah1;rw[Dq5 ⟨by omega,by omega,zK⟩,wA];exact hr
 obtain⟨k1,k2,k3,k4,k5,k6,k7⟩:=Ba2 (R7 d) (Bv3 (Ar9 x d) d now r.1);have mZ:(Bv3 (Ar9 x d) d now r.1).ue=us:=by
  show(U6 d).map Reg.be++[]=us;rw[Dr3,<-cA];unfold U6;rw[Dv2];rfl
 refine⟨Ac7 (R7 d) (Bv3 (Ar9 x d) d now r.1),?_,WS.congr (s:=Bv3 (Ar9 x d) d now r.1) ⟨by rw[mZ];exact h,fun u hu=>?_,fun y hy=>?_,ht⟩ k1 k2 k3 k4,k5,k6,k1,k7,fun E hE hu=>?_⟩
 ·unfold Ag9;rw[Dq5 hx,Dq4 (by rw[aK];decide)];unfold Bf1;rw[jK];rfl
 ·rw[mZ,<-cA]at hu;obtain⟨y,hy,rfl⟩:=Dt4.1 hu;exact(By9 (H0 d) 0).2 y hy
 ·rw[mZ];show(bat r.1 y).dirty=_;have h0:0<=y:=by
   obtain⟨b,hb,-⟩:=hy;exact(U9 hb).1
  rw[iG y h0,(vE y hy).2,<-Bool.decide_and];rfl
 ·rw[k3];refine Cm6 (H0 d) 0 hE fun y hy=>?_;exact hu (y.1,y.2.1) (by rw[<-cA];exact Du6 (f:=fun x:HD=>(x.1,x.2.1)) hy)
theorem C82{d:Dev}(ok:P6 d)(j:Nat)(hj:j<d.c.B):Ar8 d j=false↔K6 d j:=by
 have hi:j<d.bs.length:=by rw[ok.len];exact hj
 have hb:D7 d (j:Int)=some d.bs[j]:=by unfold D7;rw[Dq5 (by omega),Dr0,Dr9 hi]
 rw[Ay7 hb];unfold Ar8;rw[hb];rfl
theorem Cq2{c:Cfg}(hc:Cv7 c):DI (fresh c) [] 0/\TN (fresh c) 0:=by
 have hP:=hc.p;have fF: ∀x k,D7 (fresh c) x=some k->k=⟨List.replicate c.P (blk c.S),0,0,false⟩:=fun x k h=>by
  obtain⟨h0,hi,e⟩:=U9 h;have hm:k∈(fresh c).bs:=by rw[<-e];exact Dr7 hi
  exact Dv8 hm
 have oY: ∀x,K6 (fresh c) x->P9 (fresh c) [] x=0:=fun x ⟨k,hk,_⟩=>by
  rw[Af7 hk,fF x k hk];rfl
 refine⟨⟨by simp,fun x _=>?_,.nil,by simp[fs],Du5 0,⟨by simp[fs],fun f g hf _ hg _=>?_,by simp[fs]⟩⟩,show((0:Nat):Int)+1<=0+1 by decide⟩
 ·unfold U7;cases hk:D7 (fresh c) x with
  |none=>rfl
  |some k=>
   rw[fF x k hk];show U5 _=none;unfold U5;rw[Dq4 (show¬(false=true) by decide)];simp only;rw[Dt0,D20,Dq5 (by omega)];exact Bh7 _
 ·rw[show fs ([]:List (Int×Int))=[]from rfl,oY f hf,oY g hg];decide
theorem WR.armed{s:Sto}{k:Int}(h:WR s k)(n keep:Int):WR (s.dev (arm s.d n keep)) k:=by
 unfold arm;split
 ·exact h
 ·rename_i aK;have e: ∀x,D7 {s.d with after:=n.toNat,keep:=keep} x=D7 s.d x:=fun x=>rfl;refine⟨fun hd=>?_,fun hd=>?_⟩
  ·have w:=h.1 hd;exact⟨w.di.congr rfl,w.ep,fun x hx=>w.dr x ((Ay6 (e x)).1 hx),w.tn⟩
  ·obtain⟨⟨us,w1,we⟩,w2,w3⟩:=h.2 hd;exact⟨⟨us,w1.congr rfl,we⟩,w2.congr rfl,w3⟩
theorem WR.restarted{s:Sto}{k:Int}(h:WR s k):(∃us,DI (U3 s.d) us (k+1)/\ ∀u∈us,u.2<=s.epoch+1)/\TN (U3 s.d) (k+1):=by
 cases hd:s.down with
 |false=>
  have w:=h.1 hd;refine⟨⟨s.ue,(w.di.mono (by omega)).congr rfl,fun u hu=>by have:=w.ep u hu;omega⟩,?_⟩;have:=w.tn;unfold TN at*;show(s.d.torn.length:Int)+1<=_;split at this<;>omega
 |true=>
  obtain⟨⟨us,w1,we⟩,w2,w3⟩:=h.2 hd;refine⟨⟨us,w1.congr rfl,we⟩,?_⟩;unfold TN at*;show(s.d.torn.length:Int)+1<=_;split at w3<;>omega
def Bh5(s:Sto)(K:ByteArray)(p:It):Bool:=decide ((A9 s.d p).2.2=0/\Ak2 (A9 s.d p).1=K)
def plc(s:Sto)(K:ByteArray):List It:=(J4 (J6 s.ix (s.hash K)) (s.hash K)).filter (Bh5 s K)
instance instMemB (K:ByteArray) (l:List ByteArray):Decidable (K∈l):=decidable_of_iff (l.any (fun k=>decide (K=k))=true) (by simp)
def W7(s:Sto)(K:ByteArray):Nat:=(plc s K).length+if K∈s.q.map Prod.fst then 1 else 0
theorem Ap4(s:Sto)(K:ByteArray):s.place K=(plc s K).head?:=by
 unfold Sto.place plc;rw[List.head?_filter];rfl
theorem Aq4{ss:List (List C3)}{k:Nat}(hl:isi ss k<ss.length)(row:List C3)(k2:Nat):J6 (iset ss k row) k2=if isi ss k2=isi ss k then row else J6 ss k2:=by
 have e:isi (iset ss k row) k2=isi ss k2:=by unfold isi;rw[Ak4]
 unfold J6;rw[e];unfold iset;rw[Dt0,D38,Dt0];by_cases h:isi ss k2=isi ss k
 ·rw[Dq5 h,Dq5 h.symm,Dq5 hl];rfl
 ·rw[Dq4 h,Dq4 (fun q=>h q.symm)]
theorem A43{ss:List (List C3)}{k:Nat}{x:C3}(h:x∈J6 ss k): ∃row∈ss,x∈row:=by
 unfold J6 at h;rw[Dt0]at h;cases hr:ss[isi ss k]? with
 |none=>rw[hr]at h;cases h
 |some row=>rw[hr]at h;exact⟨row,Dx2 hr,h⟩
theorem Br5{l:List C3}{k:Nat}{p:It}(h:p∈J4 l k): ∃x∈l,x.pl=p/\x.nm=inm k p:=by
 unfold J4 at h;obtain⟨x,hx,rfl⟩:=Dt4.1 h;obtain⟨h1,h2⟩:=Dw5.1 hx;refine⟨x,h1,rfl,?_⟩;unfold C3.nm inm C3.pl;rw[Dv5 h2]
theorem Aa3{l l':List C3}(h:l'.Sublist l)(k:Nat):(J4 l' k).Sublist (J4 l k):=(h.filter _).map _
def FSx(s s':Sto):Prop:= ∀row∈s.ix,∀x∈row,(A9 s'.d x.pl).2.2=0->A9 s.d x.pl=A9 s'.d x.pl
theorem FSx.refl(s:Sto):FSx s s:=fun _ _ _ _ _=>rfl
section
variable {s s':Sto} {M:Nat}
theorem FSx.hit(h:FSx s s'){k:Nat}{p:It}(hp:p∈J4 (J6 s.ix k) k){K:ByteArray}(hk:Bh5 s' K p=true):Bh5 s K p=true:=by
 obtain⟨x,hx,rfl,-⟩:=Br5 hp;obtain⟨row,hr,hx⟩:=A43 hx;unfold Bh5 at hk⊢;have hk:=Dv5 hk;have:=h row hr x hx hk.1;rw[this];exact Dt2 hk
theorem Cr2{α:Type}{p q:α->Bool}: ∀{l:List α},(∀x∈l,q x=true->p x=true)->(l.filter q).length<=(l.filter p).length
 |[],_=>Dq6 _
 |a::r,h=>by
  have ih:=Cr2 (p:=p) (q:=q) (l:=r) fun x hx=>h x (Dr6 _ hx);rw[D66,D66];cases hq:q a with
  |true=>rw[h a (by simp) hq];simp;omega
  |false=>
   simp only[Dx5,if_false];split
   ·simp;omega
   ·exact ih
theorem plc_le(cT:s'.sc=s.sc)(hr: ∀k,(J6 s'.ix k).Sublist (J6 s.ix k))(hf:FSx s s')(K:ByteArray):(plc s' K).length<=(plc s K).length:=by
 have hh:s'.hash K=s.hash K:=by unfold Sto.hash;rw[cT]
 unfold plc;rw[hh];exact Dt1 (((Aa3 (hr _) _).filter _).length_le) (Cr2 fun p hp hk=>hf.hit hp hk)
theorem FSx.cnt(hf:FSx s s')(cT:s'.sc=s.sc)(hr: ∀k,(J6 s'.ix k).Sublist (J6 s.ix k))(hq:s'.q=s.q)(K:ByteArray):W7 s' K<=W7 s K:=by
 have:=plc_le cT hr hf K;unfold W7;rw[hq];omega
structure KI(s:Sto):Prop where
 sb:SBk s
 op: ∀o,s.op=some o->(∃k,D7 s.d o.b=some k/\OpB k o.nx o.ep)/\o.nx<s.sc.c.P/\(o.l.length:Int)+1<=o.nx/\(∀x∈o.l,0<=x.1/\x.1<=255)/\1<=o.ep/\o.ep<=s.epoch
 ix: ∀row∈s.ix,∀x∈row,x.e<=s.epoch/\ ∀o,s.op=some o->x.b=o.b->x.e=o.ep->x.p<o.nx
 uq:(s.q.map Prod.fst).Nodup
 pl: ∀K,W7 s K<=1
 fit:3*((s.sc.c.P:Int)-2)<=s.sc.c.S-16
theorem KI.congr(h:KI s)(h1:s'.d=s.d)(h2:s'.rs=s.rs)(h3:s'.op=s.op)(h4:s'.ix=s.ix)(h5:s'.epoch=s.epoch)(h6:s'.q=s.q)(h7:s'.sc=s.sc):KI s':=by
 refine⟨h.sb.congr h1 h2 h3,by rw[h1,h3,h5,h7];exact h.op,by rw[h3,h4,h5];exact h.ix,by rw[h6];exact h.uq,fun K=>Dt1 (FSx.cnt (s:=s) (fun row hr x hx _=>by rw[h1]) h7 (fun k=>by rw[h4];exact D01 _) h6 K) (h.pl K),by rw[h7];exact h.fit⟩
theorem KI.write(h:KI s)(ok:SOk s M)(hd:s.down=false)(hb:HB s){kind:Int}(hk:kind=2\/kind=3){l:List (List UInt8)}(hl:1<=l.length/\l.length<=8)(hs: ∀p∈l,p.length<=s.sc.c.S-16)(hc:kind=2->C72 s.sc.c.P l.length)(hf:s.fits l.length=true)(hp:l.length*(s.sc.c.S:Int)<=s.bk.tokens):
  ((s.write kind l).2.2=11\/((s.write kind l).2.2=0/\KI (s.write kind l).1/\FSx s (s.write kind l).1/\(∃o,s.op=some o/\(s.write kind l).2.1=(o.b,o.nx,o.ep,())/\(s.write kind l).1.op=some (o.grown kind l.length))/\(kind=2->A9 (s.write kind l).1.d (s.write kind l).2.1=T9 l.flatten)))/\
  (s.d.after=0->(s.write kind l).2.2=0/\(s.write kind l).1.d.after=0):=by
 have gR:=(h.sb.write ok hd hb hk l hc hp).1.sb;have hS:=ok.S;have hP:=ok.P;unfold Sto.fits at hf;cases ho:s.op with
 |none=>rw[ho]at hf;cases hf
 |some o=>
  rw[ho]at hf;have hf:o.nx+l.length<s.sc.c.P:=Dv5 hf;obtain⟨⟨k,bC,bM⟩,o1,o2,o3,o4,o5⟩:=h.op o ho;have hoo:=ok.op o ho;have bX:=ok.ep;obtain⟨f,fN⟩: ∃f:Nat,o.nx=f:=⟨o.nx.toNat,by omega⟩;have dU:s.d.down=false:=by rw[<-ok.dn];exact hd
  have lR:=Az0;rw[fN]at bM;have dI:=Az4 (b:=o.b) (ep:=o.ep) (kind:=kind) (n:=l.length) (f:=f) (by omega) (by omega) (by omega) l (d:=s.d) 0 ok.dv dU bC bM.good (by have:=bM.next;omega) (by rw[ok.cfg];exact hs) (by omega) (by rw[ok.cfg];omega);have aP:=(Bk5 ok.dv dU o.b o.ep o.nx kind l).1;have iD:Ah3 s.d o.b o.ep o.nx kind l=W8 o.b o.ep f kind l.length s.d 0 l:=by
   unfold Ah3;rw[Dq4 (by intro e;rw[e]at hl;simp at hl),fN]
  rw[iD]at aP;have hw:s.write kind l=(if(W8 o.b o.ep f kind l.length s.d 0 l).1≠0 then(((s.pay l.length).dev (W8 o.b o.ep f kind l.length s.d 0 l).2).met (W8 o.b o.ep f kind l.length s.d 0 l).1,(o.b,o.nx,o.ep,()),(W8 o.b o.ep f kind l.length s.d 0 l).1)else({(s.pay l.length).dev (W8 o.b o.ep f kind l.length s.d 0 l).2 with op:=some (o.grown kind l.length)},(o.b,o.nx,o.ep,()),0)):=by
   unfold Sto.write;rw[ho];dsimp only;rw[iD]
  obtain⟨g1,g2⟩:=dI;rw[hw]at gR⊢;generalize W8 o.b o.ep f kind l.length s.d 0 l=q at g1 g2 aP gR;refine⟨?_,fun ha=>?_⟩
  ·rcases g1 with g1|⟨g0,k',w⟩
   ·left;rw[Dq5 (by rw[g1];decide)];exact g1
   ·right;rw[Dq4 (by simpa using g0)]at gR⊢;have vN:64<=s.d.c.S/\s.d.c.S<=512:=by rw[ok.cfg];exact hS
    have aJ: ∀p∈l,p.length<=s.d.c.S-16:=by rw[ok.cfg];exact hs
    have oL: ∀j,j<l.length->Y3 (kind,((0+j:Nat):Int),(l.length:Int),o.ep,((f+0+j:Nat):Int),())=0:=fun j hj=>by
     unfold Y3;rw[Dq4 (by simp only;omega),Dq4 (by simp only;omega)]
    have iH:=OpB.wr w vN (ep:=o.ep) (by simpa using bM) (fun j hj=>⟨oL j hj,rfl,fun _ h0=>by simp only at h0;simp only;omega⟩) aJ;have gF:FSx s {(s.pay l.length).dev q.2 with op:=some (o.grown kind l.length)}:=fun row hr x hx gJ=>Au4 w aP.ln ok.dv dU bC (ep:=o.ep) (by simpa using bM) (fun j hj=>⟨oL j hj,rfl⟩) aJ (fun e1 e2=>by
     have:=(h.ix row hr x hx).2 o ho e1 e2;show x.p<((f+0:Nat):Int);omega) gJ
    refine⟨rfl,⟨gR,fun o' bU=>?_,fun row hr x hx=>?_,h.uq,fun K=>Dt1 (gF.cnt rfl (fun k=>D01 _) rfl K) (h.pl K),h.fit⟩,gF,⟨o,rfl,rfl,rfl⟩,fun h2=>?_⟩
    ·obtain rfl:=Dq9 bU;refine⟨⟨k',w.own,?_⟩,hf,?_,fun x hx=>?_,o4,o5⟩
     ·show OpB k' (o.nx+l.length) o.ep;rw[fN];simpa using iH
     ·show((o.l++[_]).length:Int)+1<=o.nx+l.length;rw[Dr4,D42];omega
     ·rcases Dr5.1 hx with hx|hx
      ·exact o3 x hx
      ·rw[Dr2.1 hx];simp only;omega
    ·obtain⟨x1,x2⟩:=h.ix row hr x hx;refine⟨x1,fun o' bU e1 e2=>?_⟩;obtain rfl:=Dq9 bU;have:=x2 o ho e1 e2;show x.p<o.nx+l.length;omega
    ·subst h2;have nZ:WrB s.d q.2 o.b k k' f l fun j=>(2,((0+j:Nat):Int),(l.length:Int),o.ep,((f+j:Nat):Int),()):=by simpa using w
     have:=Cr3 nZ ⟨o4,by omega⟩ ⟨hl.1,by omega⟩ aJ (by rw[ok.cfg];omega);show A9 q.2 (o.b,o.nx,o.ep,())=_;rw[fN];exact this
  ·obtain⟨a1,a2⟩:=g2 ha;rw[Dq4 (by simpa using a1)];exact⟨rfl,a2⟩
theorem B91(b ep kind:Int)(f:Nat)(d:Dev)(p:List UInt8):W8 b ep f kind (([p]:List (List UInt8)).length:Nat) d 0 [p]=M9 d b (kind,0,1,ep,f,()) p:=by
 unfold W8;simp only[D42,Ec2,Dz6,Int.natCast_one];unfold W8;split
 ·rename_i h;exact Prod.ext h.symm rfl
 ·rfl
theorem KI.seals(h:KI s)(ok:SOk s M)(hd:s.down=false)(hb:HB s)(hp:s.sealN*(s.sc.c.S:Int)<=s.bk.tokens):
  (s.seals.2=11\/(s.seals.2=0/\KI s.seals.1/\FSx s s.seals.1/\s.seals.1.op=none/\s.seals.1.ix=s.ix/\s.seals.1.q=s.q/\s.seals.1.gh=s.gh))/\(s.d.after=0->s.seals.2=0/\s.seals.1.d.after=0):=by
 have gR:=(h.sb.seals ok hb hp).1.sb;have hS:=ok.S;have hP:=ok.P;cases ho:s.op with
 |none=>
  have hw:s.seals=(s,0):=by unfold Sto.seals;rw[ho]
  rw[hw];exact⟨.inr ⟨rfl,h,.refl s,ho,rfl,rfl,rfl⟩,fun ha=>⟨rfl,ha⟩⟩
 |some o=>
  obtain⟨⟨k,bC,bM⟩,o1,o2,o3,o4,o5⟩:=h.op o ho;have hg:=ok.it o (.inr ho);have bX:=ok.ep;obtain⟨f,fN⟩: ∃f:Nat,o.nx=f:=⟨o.nx.toNat,by omega⟩;have dU:s.d.down=false:=by rw[<-ok.dn];exact hd
  rw[fN]at bM;have dC:inB (o.l.flatMap itB):=fun n hn=>by
   obtain⟨x,hx,hn⟩:=Dw7.1 hn;have g1:=o3 x hx;have g2:=hg.2 x hx;unfold itB at hn;simp only[Dt5,Eb7,or_false]at hn;rcases hn with rfl|rfl|rfl
   ·exact g1
   ·exact g2.1
   ·exact g2.2
  have hC:=Aj4 o.l;have dJ:=h.fit;have dI:=Az4 (b:=o.b) (ep:=o.ep) (kind:=4) (n:=(([J7 o.l]:List (List UInt8)).length:Nat)) (f:=f) (by omega) (by omega) (by simp) [J7 o.l] (d:=s.d) 0 ok.dv dU bC bM.good (by have:=bM.next;omega) (by rw[ok.cfg];intro p hp;rw[Dr2.1 hp];omega) (by simp) (by rw[ok.cfg];simp;omega);have aP:=Bd7 ok.dv dU o.b o.ep o.nx o.l;have iD:T2 s.d o.b o.ep o.nx o.l=W8 o.b o.ep f 4 (([J7 o.l]:List (List UInt8)).length:Nat) s.d 0 [J7 o.l]:=by
   rw[B91];unfold T2;rw[Dq5 dC,fN]
  rw[iD]at aP;have hw:s.seals=(({(s.pay 1).dev (W8 o.b o.ep f 4 (([J7 o.l]:List (List UInt8)).length:Nat) s.d 0 [J7 o.l]).2 with op:=none,rs:=s.rs++[o]}).met (W8 o.b o.ep f 4 (([J7 o.l]:List (List UInt8)).length:Nat) s.d 0 [J7 o.l]).1,(W8 o.b o.ep f 4 (([J7 o.l]:List (List UInt8)).length:Nat) s.d 0 [J7 o.l]).1):=by
   unfold Sto.seals;rw[ho];dsimp only;rw[iD]
  obtain⟨g1,g2⟩:=dI;rw[hw]at gR⊢;generalize W8 o.b o.ep f 4 (([J7 o.l]:List (List UInt8)).length:Nat) s.d 0 [J7 o.l]=q at g1 g2 aP gR;refine⟨?_,fun ha=>g2 ha⟩;rcases g1 with g1|⟨g0,k',w⟩
  ·exact .inl g1
  ·right;have vN:64<=s.d.c.S/\s.d.c.S<=512:=by rw[ok.cfg];exact hS
   have gF:FSx s (({(s.pay 1).dev q.2 with op:=none,rs:=s.rs++[o]}:Sto).met q.1):=fun row hr x hx gJ=>Au4 w aP.ln ok.dv dU bC (ep:=o.ep) (by simpa using bM) (fun j hj=>⟨by
    have:j=0:=by simpa using hj
    subst this;unfold Y3;rw[Dq4 (by simp only;omega),Dq4 (by simp;omega)],rfl⟩) (by rw[ok.cfg];intro p hp;rw[Dr2.1 hp];omega) (fun e1 e2=>by
     have:=(h.ix row hr x hx).2 o ho e1 e2;show x.p<((f+0:Nat):Int);omega) gJ
   exact⟨g0,⟨gR,fun o' bU=>(by cases bU),fun row hr x hx=>⟨(h.ix row hr x hx).1,fun o' bU=>(by cases bU)⟩,h.uq,fun K=>Dt1 (gF.cnt rfl (fun k=>D01 _) rfl K) (h.pl K),h.fit⟩,gF,rfl,rfl,rfl,rfl⟩
theorem KI.begins(h:KI s)(ok:SOk s M)(hd:s.down=false)(hb:HB s)(bM:s.op=none){b:Int}(fY:b∉s.us){k:Blk}(bC:D7 s.d b=some k)(hg:k.bad=false)(hn:k.next=0)(bX:s.epoch<1073741824)(hp:(s.sc.c.S:Int)<=s.bk.tokens):
  ((s.begins b).2=11\/((s.begins b).2=0/\KI (s.begins b).1/\FSx s (s.begins b).1/\(s.begins b).1.op=some ⟨b,s.epoch+1,1,[]⟩/\(s.begins b).1.ix=s.ix/\(s.begins b).1.q=s.q/\(s.begins b).1.gh=s.gh))/\(s.d.after=0->(s.begins b).2=0/\(s.begins b).1.d.after=0):=by
 have gR:=(h.sb.begins ok hb bM fY hp).sb;have hS:=ok.S;have hP:=ok.P;have he0:=ok.ep;have dU:s.d.down=false:=by rw[<-ok.dn];exact hd
 have bF: ∀(q:Nat) pg,k.pages[q]?=some pg->(E0 pg).2.2≠0:=fun q pg hq=>(h.sb.db b k bC).bl q pg (by omega) hq;have ho:OpB k ((0:Nat):Int) (s.epoch+1):=⟨hg,by omega,fun q pg hq h0=>absurd h0 (bF q pg hq)⟩;have dI:=Az4 (b:=b) (ep:=s.epoch+1) (kind:=1) (n:=(([[]]:List (List UInt8)).length:Nat)) (f:=0) (by omega) (by omega) (by simp) [[]] (d:=s.d) 0 ok.dv dU bC hg (by omega) (by simp) (by simp) (by rw[ok.cfg];simp;omega);have aP:=Bf2 ok.dv dU b (s.epoch+1);have iD:T3 s.d b (s.epoch+1)=W8 b (s.epoch+1) ((0:Nat):Int) 1 (([[]]:List (List UInt8)).length:Nat) s.d 0 [[]]:=by
  rw[B91];rfl
 rw[iD]at aP;have hw:s.begins b=(if(W8 b (s.epoch+1) ((0:Nat):Int) 1 (([[]]:List (List UInt8)).length:Nat) s.d 0 [[]]).1≠0 then(((s.pay 1).dev (W8 b (s.epoch+1) ((0:Nat):Int) 1 (([[]]:List (List UInt8)).length:Nat) s.d 0 [[]]).2).met (W8 b (s.epoch+1) ((0:Nat):Int) 1 (([[]]:List (List UInt8)).length:Nat) s.d 0 [[]]).1,(W8 b (s.epoch+1) ((0:Nat):Int) 1 (([[]]:List (List UInt8)).length:Nat) s.d 0 [[]]).1)else({(s.pay 1).dev (W8 b (s.epoch+1) ((0:Nat):Int) 1 (([[]]:List (List UInt8)).length:Nat) s.d 0 [[]]).2 with epoch:=s.epoch+1,op:=some ⟨b,s.epoch+1,1,[]⟩},0)):=by
  unfold Sto.begins;dsimp only;rw[iD]
 obtain⟨g1,g2⟩:=dI;rw[hw]at gR⊢;generalize W8 b (s.epoch+1) ((0:Nat):Int) 1 (([[]]:List (List UInt8)).length:Nat) s.d 0 [[]]=q at g1 g2 aP gR;refine⟨?_,fun ha=>?_⟩
 ·rcases g1 with g1|⟨g0,k',w⟩
  ·left;rw[Dq5 (by rw[g1];decide)];exact g1
  ·right;rw[Dq4 (by simpa using g0)]at gR⊢;have vN:64<=s.d.c.S/\s.d.c.S<=512:=by rw[ok.cfg];exact hS
   have oL: ∀j,j<([[]]:List (List UInt8)).length->Y3 (1,((0+j:Nat):Int),(([[]]:List (List UInt8)).length:Int),s.epoch+1,((0+0+j:Nat):Int),())=0:=fun j hj=>by
    have:j=0:=by simpa using hj
    subst this;unfold Y3;rw[Dq4 (by simp),Dq4 (by simp;omega)]
   have iH:=OpB.wr w vN ho (fun j hj=>⟨oL j hj,rfl,fun h1=>absurd (show(1:Int)=2 from h1) (by decide)⟩) (by simp);have gF:FSx s {(s.pay 1).dev q.2 with epoch:=s.epoch+1,op:=some ⟨b,s.epoch+1,1,[]⟩}:=fun row hr x hx gJ=>Au4 w aP.ln ok.dv dU bC ho (fun j hj=>⟨oL j hj,rfl⟩) (by simp) (fun e1 e2=>by
    have:=(h.ix row hr x hx).1;have e2:x.e=s.epoch+1:=e2;omega) gJ
   refine⟨rfl,⟨gR,fun o' bU=>?_,fun row hr x hx=>?_,h.uq,fun K=>Dt1 (gF.cnt rfl (fun k=>D01 _) rfl K) (h.pl K),h.fit⟩,gF,rfl,rfl,rfl,rfl⟩
   ·obtain rfl:=Dq9 bU;exact⟨⟨k',w.own,by simpa using iH⟩,by show(1:Int)<s.sc.c.P;omega,by simp,by simp,by show(1:Int)<=s.epoch+1;omega,Du5 _⟩
   ·have x1:=(h.ix row hr x hx).1;refine⟨by show x.e<=s.epoch+1;omega,fun o' bU e1 e2=>?_⟩;obtain rfl:=Dq9 bU;have e2:x.e=s.epoch+1:=e2;omega
 ·obtain⟨a1,a2⟩:=g2 ha;rw[Dq4 (by simpa using a1)];exact⟨rfl,a2⟩
theorem KI.erase(h:KI s)(ok:SOk s M)(hd:s.down=false){b:Int}(hg:F5 s.ss b=true)(aE: ∀o,s.op=some o->o.b≠b):
  ((s.erase b).2=11\/((s.erase b).2=0/\KI (s.erase b).1/\FSx s (s.erase b).1/\(s.erase b).1.op=s.op/\(s.erase b).1.ix=s.ix/\(s.erase b).1.q=s.q/\(s.erase b).1.gh=s.gh/\(∃k',D7 (s.erase b).1.d b=some k'/\k'.next=0)))/\(s.d.after=0->(s.erase b).2=0/\(s.erase b).1.d.after=0):=by
 have gR:=(h.sb.erase ok hd hg).sb;have dU:s.d.down=false:=by rw[<-ok.dn];exact hd
 obtain⟨k,hk,bC⟩:=(ok.gd hd b).1.1 hg;obtain⟨k',t,hc⟩:=Ai5 ok.dv dU hk bC;have aP:=Ar1 ok.dv dU b;have zU:s.d.after=0->(E7 s.d b).1≠11/\(E7 s.d b).2.after=0:=fun ha=>by
  have oC:W6 s.d=(false,s.d):=by unfold W6;rw[Dq5 ha]
  unfold E7;split
  ·rename_i hf;refine⟨?_,ha⟩;show G9 s.d b 0≠11;unfold G9;rw[Dq4 (by rw[dU];decide)]
   repeat' split
   all_goals decide
  ·split
   ·exact⟨show(2:Int)≠11 by decide,ha⟩
   ·split
    ·exact⟨show(10:Int)≠11 by decide,ha⟩
    ·unfold Ai6;rw[oC];simp only[Dx5,if_false];refine⟨?_,ha⟩;split<;>decide
 have hw:(E7 s.d b).1≠11->(s.erase b).2=0/\(s.erase b).1.d=(E7 s.d b).2/\(s.erase b).1.op=s.op/\(s.erase b).1.ix=s.ix/\(s.erase b).1.q=s.q/\(s.erase b).1.gh=s.gh/\(s.erase b).1.sc=s.sc/\(s.erase b).1.epoch=s.epoch:=fun he=>by
  unfold Sto.erase;dsimp only;rw[Dq4 he];exact⟨rfl,rfl,rfl,rfl,rfl,rfl,rfl,rfl⟩
 refine⟨?_,fun ha=>?_⟩
 ·rcases hc with⟨e1,-⟩|⟨e1,rfl,-⟩
  ·exact .inl (Ay9 b e1).2.2
  ·right;obtain⟨w1,w2,w3,w4,w5,w6,w7,w8⟩:=hw e1;have iE:(E7 s.d b).2.down=s.d.down:=by rw[aP.dn,dU];exact Ds7 e1
   have gF:FSx s (s.erase b).1:=fun row hr x hx gJ=>by
    rw[w2]at gJ⊢;by_cases hb:x.pl.1=b
    ·obtain⟨-,k2,pg,a1,-,-,a4,a5,-⟩:=B70 aP.ok gJ;rw[hb,t.own]at a1;rw[<-Dq9 a1]at a4;exact absurd a5 ((PgB.fresh 0 k s.d.c).bl _ pg (Dv6 _) a4)
    ·exact(A56 t.c aP.ln iE (t.ne hb)).symm
   refine⟨w1,⟨gR,fun o ho=>?_,fun row hr x hx=>?_,by rw[w5];exact h.uq,fun K=>Dt1 (gF.cnt w7 (fun k=>by rw[w4];exact D01 _) w5 K) (h.pl K),by rw[w7];exact h.fit⟩,gF,w3,w4,w5,w6,_,by rw[w2];exact t.own,rfl⟩
   ·rw[w3]at ho;obtain⟨⟨k2,b1,b2⟩,b3⟩:=h.op o ho;rw[w7,w8];exact⟨⟨k2,by rw[w2,t.ne (aE o ho)];exact b1,b2⟩,b3⟩
   ·rw[w4]at hr;rw[w3,w8];exact h.ix row hr x hx
 ·obtain⟨a1,a2⟩:=zU ha;obtain⟨w1,w2,-⟩:=hw a1;exact⟨w1,by rw[w2];exact a2⟩
end
theorem Cn5(K:ByteArray):Ak2 K.data.toList=K:=by unfold Ak2;simp
section
variable {s:Sto} {M:Nat}
theorem KI.ixsub(h:KI s){ix':List (List C3)}(hr: ∀k,(J6 ix' k).Sublist (J6 s.ix k))(hm: ∀row∈ix',∀x∈row,∃row∈s.ix,x∈row):KI {s with ix:=ix'}:=by
 refine⟨h.sb.congr rfl rfl rfl,h.op,fun row aM x hx=>?_,h.uq,fun K=>Dt1 (FSx.cnt (s:=s) (s':={s with ix:=ix'}) (fun _ _ _ _ _=>rfl) rfl hr rfl K) (h.pl K),h.fit⟩;obtain⟨row2,h2,mN⟩:=hm row aM x hx;exact h.ix row2 h2 x mN
theorem W3(l:List C3)(nm:Al8):(E9 l nm).Sublist l:=D43 ..
theorem B53{ix:List (List C3)}{k:Nat}(hl:isi ix k<ix.length){row':List C3}(h:row'.Sublist (J6 ix k)):(∀k2,(J6 (iset ix k row') k2).Sublist (J6 ix k2))/\ ∀row∈iset ix k row',∀x∈row,∃row∈ix,x∈row:=by
 refine⟨fun k2=>?_,fun row hr x hx=>?_⟩
 ·rw[Aq4 hl];split
  ·rename_i e;have:J6 ix k2=J6 ix k:=by unfold J6;rw[e]
   rw[this];exact h
  ·exact D01 _
 ·rcases Ak1 hr with hr|rfl
  ·exact⟨row,hr,hx⟩
  ·exact A43 (h.subset hx)
theorem KI.ixdrop(h:KI s)(ok:SOk s M)(k:Nat)(p:It):KI (s.ixdrop k p):=by
 obtain⟨h1,h2⟩:=B53 (ok.isi k) (W3 (J6 s.ix k) (inm k p));exact h.ixsub h1 h2
theorem Bb6{ways:Int}{l:List C3}(g:Aj1 ways l){k:Nat}{p:It}:p∉J4 (E9 l (inm k p)) k:=fun hp=>by
 obtain⟨x,hx,-,e⟩:=Br5 hp;have:=Du6 (f:=C3.nm) hx;rw[e]at this;exact A57 g (inm k p) this
theorem B41{s':Sto}(cT:s'.sc=s.sc)(hd:s'.d=s.d){key:ByteArray}(hl:isi s.ix (s.hash key)<s.ix.length){sub:List C3}(hs:sub.Sublist (J6 s.ix (s.hash key))){q:It}{f:Int}(fU:s'.ix=iset s.ix (s.hash key) (sub++[Bl1 (s.hash key) q f]))(hq:(A9 s.d q).2.2=0/\Ak2 (A9 s.d q).1=key)(K:ByteArray):
  (K≠key->(plc s' K).length<=(plc s K).length)/\plc s' key=(J4 sub (s.hash key)).filter (Bh5 s key)++[q]:=by
 have hh: ∀K,s'.hash K=s.hash K:=fun K=>by unfold Sto.hash;rw[cT]
 have hk: ∀K,Bh5 s' K=Bh5 s K:=fun K=>by unfold Bh5;rw[hd]
 have e:(Bl1 (s.hash key) q f).pl=q:=rfl;refine⟨fun aE=>?_,?_⟩
 ·unfold plc;rw[hh,hk,fU,Aq4 hl];split
  ·rename_i e2;have aM:J6 s.ix (s.hash K)=J6 s.ix (s.hash key):=by unfold J6;rw[e2]
   have eI:Bh5 s K q=false:=by unfold Bh5;exact Ds7 fun hh=>aE (hh.2.symm.trans hq.2)
   rw[aM,An6,Dz8,Dr4];have h1:=((Aa3 hs (s.hash K)).filter (Bh5 s K)).length_le;have h2:((if(Bl1 (s.hash key) q f).part=R9 (s.hash K)then[(Bl1 (s.hash key) q f).pl]else[]).filter (Bh5 s K)).length=0:=by
    split
    ·rw[e,D66,eI];rfl
    ·rfl
   omega
  ·exact Dq6 _
 ·have eI:Bh5 s key q=true:=by unfold Bh5;exact Dt2 hq
  unfold plc;rw[hh,hk,fU,Aq4 hl,Dq5 rfl,An6,Dz8,Dq5 (show(Bl1 (s.hash key) q f).part=R9 (s.hash key)from rfl),e,D66,eI];rfl
theorem cnt0{key:ByteArray}(h:W7 s key=0):plc s key=[]/\key∉s.q.map Prod.fst:=by
 unfold W7 at h;constructor
 ·exact D13.1 (by omega)
 ·intro hm;rw[Dq5 hm]at h;omega
theorem KI.listed(h:KI s)(ok:SOk s M){key:ByteArray}{q:It}(hq:(A9 s.d q).2.2=0/\Ak2 (A9 s.d q).1=key)(h0:W7 s key=0)(fU:q.2.2.1<=s.epoch/\ ∀o,s.op=some o->q.1=o.b->q.2.2.1=o.ep->q.2.1<o.nx):KI (s.list key q)/\plc (s.list key q) key=[q]/\ ∀K,K≠key->W7 (s.list key q) K<=W7 s K:=by
 obtain⟨c1,c2⟩:=cnt0 h0;have hl:=ok.isi (s.hash key);obtain⟨sub,aV,eJ⟩: ∃sub:List C3,sub.Sublist (J6 s.ix (s.hash key))/\Bz6 (J6 s.ix (s.hash key)) s.sc.ways (s.hash key) q=sub++[Bl1 (s.hash key) q 0]:=by
  refine⟨_,?_,rfl⟩;split
  ·exact(List.drop_sublist _ _).trans (W3 _ _)
  ·exact W3 _ _
 have uB:(s.list key q).ix=iset s.ix (s.hash key) (sub++[Bl1 (s.hash key) q 0]):=by
  show Cv9 s.ix s.sc.ways (s.hash key) q=_;unfold Cv9;rw[eJ]
 have eC:=fun K=>B41 (s:=s) (s':=s.list key q) rfl rfl hl aV uB hq K;have tO:plc (s.list key q) key=[q]:=by
  rw[(eC key).2];have:(J4 sub (s.hash key)).filter (Bh5 s key)=[]:=by
   have:=((Aa3 aV (s.hash key)).filter (Bh5 s key)).length_le;have e:((J4 (J6 s.ix (s.hash key)) (s.hash key)).filter (Bh5 s key)).length=0:=by
    show(plc s key).length=0;rw[c1];rfl
   exact D13.1 (by omega)
  rw[this];rfl
 refine⟨⟨h.sb.congr rfl rfl rfl,h.op,fun row hr x hx=>?_,h.uq,fun K=>?_,h.fit⟩,tO,fun K e=>by
  have h1:=(eC K).1 e;unfold W7;show(plc (s.list key q) K).length+(if K∈s.q.map Prod.fst then 1 else 0)<=_;omega⟩
 ·rw[uB]at hr;rcases Ak1 hr with hr|rfl
  ·exact h.ix row hr x hx
  ·rcases Dr5.1 hx with hx|hx
   ·obtain⟨row2,h2,mN⟩:=A43 (aV.subset hx);exact h.ix row2 h2 x mN
   ·rw[Dr2.1 hx];exact fU
 ·by_cases e:K=key
  ·rw[e];unfold W7;rw[tO];show 1+(if key∈s.q.map Prod.fst then 1 else 0)<=1;rw[Dq4 c2];exact Dq6 _
  ·have h1:=(eC K).1 e;have h2:=h.pl K;unfold W7 at h2⊢;show(plc (s.list key q) K).length+(if K∈s.q.map Prod.fst then 1 else 0)<=1;omega
theorem KI.moved(h:KI s)(ok:SOk s M){key:ByteArray}{p q:It}(hp: ∀p'∈plc s key,p'=p)(hy:key∉s.q.map Prod.fst)(hq:(A9 s.d q).2.2=0/\Ak2 (A9 s.d q).1=key)(fU:q.2.2.1<=s.epoch/\ ∀o,s.op=some o->q.1=o.b->q.2.2.1=o.ep->q.2.1<o.nx):KI {s with ix:=Aq7 s.ix (s.hash key) p q}/\ ∀K,K≠key->W7 {s with ix:=Aq7 s.ix (s.hash key) p q} K<=W7 s K:=by
 have hl:=ok.isi (s.hash key);unfold Aq7;cases hf:Q6 s.ix (s.hash key) p with
 |none=>exact⟨h.congr rfl rfl rfl rfl rfl rfl rfl,fun K _=>Dq6 _⟩
 |some x=>
  dsimp only;have aV:(E9 (E9 (J6 s.ix (s.hash key)) (inm (s.hash key) p)) (inm (s.hash key) q)).Sublist (J6 s.ix (s.hash key)):=(W3 _ _).trans (W3 _ _);have jG:(J4 (E9 (E9 (J6 s.ix (s.hash key)) (inm (s.hash key) p)) (inm (s.hash key) q)) (s.hash key)).filter (Bh5 s key)=[]:=by
   rw[Eg7];intro p' dO hk;have h1:p'∈plc s key:=Dw5.2 ⟨(Aa3 aV _).subset dO,hk⟩;rw[hp p' h1]at dO;exact Bb6 (ok.ixi.row hl) ((Aa3 (W3 _ _) _).subset dO)
  have eC:=fun K=>B41 (s:=s) (s':={s with ix:=iset s.ix (s.hash key) (E9 (E9 (J6 s.ix (s.hash key)) (inm (s.hash key) p)) (inm (s.hash key) q)++[Bl1 (s.hash key) q (Aa2 (x.freq-1) 0)])}) rfl rfl hl aV rfl hq K;refine⟨⟨h.sb.congr rfl rfl rfl,h.op,fun row hr x hx=>?_,h.uq,fun K=>?_,h.fit⟩,fun K e=>by
   have h1:=(eC K).1 e;unfold W7;show(plc _ K).length+(if K∈s.q.map Prod.fst then 1 else 0)<=_;omega⟩
  ·rcases Ak1 hr with hr|rfl
   ·exact h.ix row hr x hx
   ·rcases Dr5.1 hx with hx|hx
    ·obtain⟨row2,h2,mN⟩:=A43 (aV.subset hx);exact h.ix row2 h2 x mN
    ·rw[Dr2.1 hx];exact fU
  ·by_cases e:K=key
   ·rw[e];unfold W7;rw[(eC key).2,jG];show 1+(if key∈s.q.map Prod.fst then 1 else 0)<=1;rw[Dq4 hy];exact Dq6 _
   ·have h1:=(eC K).1 e;have h2:=h.pl K;unfold W7 at h2⊢;show(plc _ K).length+(if K∈s.q.map Prod.fst then 1 else 0)<=1;omega
theorem Cp8(l:List C3)(nm:Al8):(Ah0 l nm).map (fun x=>(x.part,x.pl))=l.map fun x=>(x.part,x.pl):=by
 unfold Ah0;split
 ·rename_i j hj;apply D51;intro i;rw[Du3,Du3,Dy7];cases l[i]? with
  |none=>rfl
  |some x=>
   simp only[Ed1,D04];split<;>rfl
 ·rfl
theorem Ba7(l:List C3)(k:Nat):J4 l k=((l.map fun x=>(x.part,x.pl)).filter fun y=>decide (y.1=R9 k)).map Prod.snd:=by
 unfold J4;rw[D64,Dv2];rfl
theorem KI.hit(h:KI s)(ok:SOk s M)(k:Nat)(nm:Al8):KI {s with ix:=iset s.ix k (Ah0 (J6 s.ix k) nm)}:=by
 have hl:=ok.isi k;have aM: ∀k2 k3,J4 (J6 (iset s.ix k (Ah0 (J6 s.ix k) nm)) k2) k3=J4 (J6 s.ix k2) k3:=fun k2 k3=>by
  rw[Aq4 hl];split
  ·rename_i e;have:J6 s.ix k2=J6 s.ix k:=by unfold J6;rw[e]
   rw[this,Ba7,Cp8,<-Ba7]
  ·rfl
 refine⟨h.sb.congr rfl rfl rfl,h.op,fun row hr x hx=>?_,h.uq,fun K=>?_,h.fit⟩
 ·rcases Ak1 hr with hr|rfl
  ·exact h.ix row hr x hx
  ·have:(x.part,x.pl)∈(Ah0 (J6 s.ix k) nm).map fun x=>(x.part,x.pl):=Du6 (f:=fun x:C3=>(x.part,x.pl)) hx;rw[Cp8]at this;obtain⟨y,hy,he⟩:=Dt4.1 this;obtain⟨row2,h2,mN⟩:=A43 hy;have:=h.ix row2 h2 y mN;have he:y.pl=x.pl:=congrArg Prod.snd he;unfold C3.pl at he;simp only[Dx0]at he;rw[he.1,he.2.1,he.2.2.1]at this;exact this
 ·have:=h.pl K;unfold W7 plc at this⊢;show((J4 (J6 (iset s.ix k (Ah0 (J6 s.ix k) nm)) (s.hash K)) (s.hash K)).filter (Bh5 s K)).length+_<=1;rw[aM];exact this
theorem KI.setq(h:KI s){q:List QD}(hn:(q.map Prod.fst).Nodup)(hq: ∀K,K∈q.map Prod.fst->K∈s.q.map Prod.fst\/(plc s K).length=0):KI {s with q:=q}:=by
 refine⟨h.sb.congr rfl rfl rfl,h.op,h.ix,hn,fun K=>?_,h.fit⟩;have h1:=h.pl K;unfold W7 at h1⊢;show(plc s K).length+(if K∈q.map Prod.fst then 1 else 0)<=1;split
 ·rename_i hm;rcases hq K hm with h2|h2
  ·rw[Dq5 h2]at h1;exact h1
  ·omega
 ·split at h1<;>omega
theorem Bj5(l:List QD)(k:ByteArray):(P1 l k).Sublist l:=D43 ..
theorem Cc8{l:List QD}(h:(l.map Prod.fst).Nodup)(k:ByteArray):k∉(P1 l k).map Prod.fst:=by
 induction l with
 |nil=>simp[P1]
 |cons a r ih=>
  rw[Ds3,Dv9]at h;unfold P1;rw[List.eraseP_cons];by_cases e:k=a.1
  ·rw[Dt2 e];simp only[cond_true,if_true];rw[e];exact h.1
  ·rw[Ds7 e];simp only[cond_false,Dx5,if_false,Ds3,Dt5,Du4];exact⟨e,ih h.2⟩
theorem KI.forget(h:KI s)(ok:SOk s M)(key:ByteArray):KI (s.forget key).1/\W7 (s.forget key).1 key=0:=by
 have h1:KI {s with q:=P1 s.q key}:=h.setq (((Bj5 s.q key).map _).nodup h.uq) fun K hK=>.inl (((Bj5 s.q key).map _).subset hK);have ok1:SOk {s with q:=P1 s.q key} M:=ok.setq (fun e he=>ok.qs e (A61 _ _ e he)) (Dt1 (P5 _ _) ok.ql);have hg:=Cc8 h.uq key;unfold Sto.forget;dsimp only;cases hp:({s with q:=P1 s.q key}:Sto).place key with
 |none=>
  refine⟨h1,?_⟩;rw[Ap4,List.head?_eq_none_iff]at hp;unfold W7;rw[hp];show 0+(if key∈(P1 s.q key).map Prod.fst then 1 else 0)=0;rw[Dq4 hg]
 |some p=>
  have h2:=h1.ixdrop ok1 (s.hash key) p;refine⟨h2.congr rfl rfl rfl rfl rfl rfl rfl,?_⟩;rw[Ap4]at hp;have hc:=h1.pl key;unfold W7 at hc;have aW:plc {s with q:=P1 s.q key} key=[p]:=by
   cases hq:plc {s with q:=P1 s.q key} key with
   |nil=>rw[hq]at hp;cases hp
   |cons a r=>
    rw[hq]at hp hc;obtain rfl:a=p:=Dq9 hp;have:r.length=0:=by simp only[Dr8]at hc;omega
    rw[D13.1 this]
  have hl:=ok1.isi (s.hash key);have hz:plc (({s with q:=P1 s.q key}:Sto).ixdrop (s.hash key) p) key=[]:=by
   unfold plc;rw[Eg7];intro p' dO hk;have dO:p'∈J4 (J6 (iset s.ix (s.hash key) (E9 (J6 s.ix (s.hash key)) (inm (s.hash key) p))) (s.hash key)) (s.hash key):=dO;rw[Aq4 hl,Dq5 rfl]at dO;have hm:p'∈plc {s with q:=P1 s.q key} key:=Dw5.2 ⟨(Aa3 (W3 _ _) _).subset dO,hk⟩;rw[aW,Dr2]at hm;rw[hm]at dO;exact Bb6 (ok1.ixi.row hl) dO
  unfold W7;show(plc (({s with q:=P1 s.q key}:Sto).ixdrop (s.hash key) p) key).length+(if key∈(P1 s.q key).map Prod.fst then 1 else 0)=0;rw[hz,Dq4 hg];rfl
end
structure GKI(s:Sto)(w:Sto×Int):Prop where
 ki:w.2≠11->KI w.1
 le:w.2≠11-> ∀K,W7 w.1 K<=W7 s K
 af:s.d.after=0->w.2≠11/\w.1.d.after=0
theorem KI.gk{s:Sto}(h:KI s){e:Int}(he:e≠11):GKI s (s,e):=⟨fun _=>h,fun _ K=>Dq6 _,fun ha=>⟨he,ha⟩⟩
theorem GKI.then{s s1:Sto}{e:Int}{w:Sto×Int}(h:GKI s (s1,e))(he:e≠11)(k:GKI s1 w):GKI s w:=⟨k.ki,fun hw K=>Dt1 (k.le hw K) (h.le he K),fun ha=>k.af (h.af ha).2⟩
section
variable {s:Sto} {M:Nat} {k:Int}
theorem B03{n m:Int}(h:s.fits n=true)(hm:m<=n):s.fits m=true:=by
 unfold Sto.fits at h⊢;cases ho:s.op with
 |none=>rw[ho]at h;exact h
 |some o=>
  rw[ho]at h;have h:=Dv5 h;exact Dt2 (by omega)
theorem Ar5{key val:List UInt8}{c:Cf}(h:(J5 key val c).2=0):(1<=(J5 key val c).1.length/\(J5 key val c).1.length<=8)/\(∀p∈(J5 key val c).1,(p.length:Int)<=B7 c.2.2.1)/\T9 (J5 key val c).1.flatten=(key,val,0):=by
 have bN:=(Af6 h).1;obtain⟨c1,c2,c3,c4,c5,c6⟩:=Do4 h;obtain⟨-,-,-,-,r0,-⟩:=Aa1 c4;have hr:=V2 r0;refine⟨by unfold Ce3 at bN;omega,fun p hp=>?_,by rw[c6];exact C38 c1 c2 c3⟩;rw[c5]at hp;unfold Y4 at hp;obtain⟨i,-,rfl⟩:=Dt4.1 hp;rw[Ds0];omega
theorem A14(ok:SOk s M):B7 (J8 s.sc.c).2.2.1=((s.sc.c.S-16:Nat):Int):=by
 have hS:=ok.S;show B7 (s.sc.c.S:Int)=_;unfold B7;rw[Dq5 (by omega)];omega
theorem GKI.move(h:KI s)(ok:SOk s M)(hd:s.down=false)(hb:HB s){b ep:Int}{x:It}(h2:x.1=2)(hT:Y5 s.d b [x]){beside:Int}(dW:0<=beside):GKI s (s.move (b,x.2.1,ep,()) x.2.2.1 beside):=by
 have hS:=ok.S;unfold Sto.move;dsimp only;split
 ·exact h.gk (by decide)
 ·rename_i hf;rw[Du4]at hf;obtain⟨nR,jI⟩:=hf;have nR:=Dt6.1 nR;have jI:=Dt6.1 jI;split
  ·have hx:=h.ixdrop ok (s.hash (Ak2 (A9 s.d (b,x.2.1,ep,())).1)) (b,x.2.1,ep,());refine⟨fun _=>hx,fun _ K=>?_,fun ha=>⟨show(0:Int)≠11 by decide,ha⟩⟩;exact FSx.cnt (s:=s) (s':=s.ixdrop (s.hash (Ak2 (A9 s.d (b,x.2.1,ep,())).1)) (b,x.2.1,ep,())) (fun _ _ _ _ _=>rfl) rfl (B53 (ok.isi _) (W3 _ _)).1 rfl K
  ·rename_i hc;rw[Du4,Du4]at hc;split
   ·exact h.gk (Cs9 _ _ _)
   ·rename_i aR;have aR:=Dt6.1 aR;obtain⟨kb,pg,f1,f2,f3,f4,f5⟩:=Ak7 ok.dv (p:=(b,x.2.1,ep,())) nR;have bS:(E0 pg).1.2.2.1<=x.2.2.1:=hT kb f1 x (by simp) h2 pg f2 f3;have bN:=((h.sb.db b kb f1).pg _ pg f2 f3).1 f4;have hZ:=A14 ok;have hC:=B76 (c:=J8 s.sc.c) bN.1 (by rw[hZ,<-ok.cfg];have:=ok.dv.c.s;rw[D98 (by omega)];exact f5);have sX:=An2 (s:=s) (n:=x.2.2.1+beside) (by simpa using hc.2.2);have bE:((J5 (A9 s.d (b,x.2.1,ep,())).1 (A9 s.d (b,x.2.1,ep,())).2.1 (J8 s.sc.c)).1.length:Int)*(s.sc.c.S:Int)<=s.bk.tokens:=D21 (D08 (by omega) (by omega)) sX;obtain⟨c1,c2,c3⟩:=Ar5 aR;have dJ:=B03 (s:=s) (n:=x.2.2.1+beside) (m:=((J5 (A9 s.d (b,x.2.1,ep,())).1 (A9 s.d (b,x.2.1,ep,())).2.1 (J8 s.sc.c)).1.length:Int)) (by simpa using hc.2.1) (by omega);obtain⟨g1,g2⟩:=h.write ok hd hb (kind:=2) (.inl rfl) c1 (fun p hp=>by have:=c2 p hp;rw[hZ]at this;omega) (fun _=>Af6 aR) dJ bE;have dS:=Mv.write s 2 (J5 (A9 s.d (b,x.2.1,ep,())).1 (A9 s.d (b,x.2.1,ep,())).2.1 (J8 s.sc.c)).1;have kR:=(ok.write hd 2 (J5 (A9 s.d (b,x.2.1,ep,())).1 (A9 s.d (b,x.2.1,ep,())).2.1 (J8 s.sc.c)).1).1;have fU:(s.write 2 (J5 (A9 s.d (b,x.2.1,ep,())).1 (A9 s.d (b,x.2.1,ep,())).2.1 (J8 s.sc.c)).1).1.ix=s.ix:=by
     unfold Sto.write;split
     ·rfl
     ·dsimp only;split<;>rfl
    generalize s.write 2 (J5 (A9 s.d (b,x.2.1,ep,())).1 (A9 s.d (b,x.2.1,ep,())).2.1 (J8 s.sc.c)).1=w at g1 g2 dS kR fU;have nL: ∀K,w.1.hash K=s.hash K:=fun K=>by unfold Sto.hash;rw[dS.sc]
    rcases g1 with g1|⟨g0,gk,gf,⟨o,go,gq,gop⟩,gr⟩
    ·rw[Dq4 (by rw[g1];decide)];exact⟨fun hh=>absurd g1 hh,fun hh=>absurd g1 hh,fun ha=>absurd g1 (by rw[(g2 ha).1];decide)⟩
    ·rw[Dq5 g0];have gr:=gr rfl;rw[c3]at gr;obtain⟨key,rM⟩: ∃key,key=Ak2 (A9 s.d (b,x.2.1,ep,())).1:=⟨_,rfl⟩;rw[<-rM]at jI⊢;have bY:(b,x.2.1,ep,())∈plc s key:=Dw5.2 ⟨jI,Dt2 ⟨nR,rM.symm⟩⟩;have aW:=h.pl key;have lS:(plc s key).length=1/\key∉s.q.map Prod.fst:=by
      have:=Eg5 bY;unfold W7 at aW;split at aW
      ·omega
      ·rename_i hn;exact⟨by omega,hn⟩
     have aB: ∀p'∈plc s key,p'=(b,x.2.1,ep,()):=fun p' dO=>by
      obtain⟨a,ha⟩:=List.length_eq_one_iff.1 lS.1;rw[ha,Dr2]at dO bY;rw[dO,bY]
     have aV: ∀p'∈plc w.1 key,p'∈plc s key:=fun p' dO=>by
      unfold plc at dO⊢;rw[nL,fU]at dO;obtain⟨a1,a2⟩:=Dw5.1 dO;exact Dw5.2 ⟨a1,gf.hit a1 a2⟩
     have bX:=(h.op o go).2.2.2.2.2;have fK:=c1.1;have hm:=KI.moved gk kR (key:=key) (p:=(b,x.2.1,ep,())) (q:=w.2.1) (fun p' dO=>aB p' (aV p' dO)) (by rw[dS.q];exact lS.2) ⟨by rw[gr],by rw[gr];exact rM.symm⟩ ⟨by rw[gq,dS.epoch];exact bX,fun o' bU _ _=>by
      rw[gop]at bU;rw[<-Dq9 bU,gq];show o.nx<o.nx+_;omega⟩
     rw[nL]at hm;refine⟨fun _=>hm.1,fun _ K=>?_,fun ha=>⟨show(0:Int)≠11 by decide,(g2 ha).2⟩⟩;by_cases e:K=key
     ·have h3:=hm.1.pl key;rw[e];have:W7 s key=1:=by unfold W7;rw[lS.1,Dq4 lS.2]
      rw[this];exact h3
     ·refine Dt1 (hm.2 K e) (gf.cnt dS.sc (fun k=>by rw[fU];exact D01 _) dS.q K)
theorem GKI.moves{b ep beside:Int}(dW:0<=beside): ∀(l:List It) {s:Sto} {M:Nat},KI s->SOk s M->s.down=false->HB s->Y5 s.d b l->(∀o,s.op=some o->b≠o.b)->GKI s (Sto.moves b ep beside l s)
 |[],s,M,h,ok,hd,hb,hT,ho=>h.gk (by decide)
 |x::r,s,M,h,ok,hd,hb,hT,ho=>by
  have mI:Y5 s.d b r:=fun k hk y hy=>hT k hk y (Dr6 _ hy);unfold Sto.moves;split
  ·exact GKI.moves dW r h ok hd hb mI ho
  ·rename_i hx;have iZ:Y5 s.d b [x]:=fun k hk y hy=>hT k hk y (by rw[Dr2.1 hy];simp);have h1:=ok.move hd (b,x.2.1,ep,()) x.2.2.1 beside;obtain⟨h2,h3⟩:=h.sb.move ok hd hb (ep:=ep) (Dt6.1 hx) iZ dW;have h4:=GKI.move h ok hd hb (ep:=ep) (Dt6.1 hx) iZ dW;dsimp only;generalize s.move (b,x.2.1,ep,()) x.2.2.1 beside=w at h1 h2 h3 h4;split
   ·exact h4
   ·rename_i h0;have h0:w.2=0:=by simpa using h0
    have aE:w.2≠11:=by rw[h0];decide
    refine GKI.then (s1:=w.1) (e:=w.2) h4 aE (GKI.moves dW r (h4.ki aE) h1.1 (h1.2.1 h0) (h2.by'.hb hb) (h3 b r mI ho) fun o' bU e=>?_);have:=h1.2.2.ob;rw[bU]at this;cases hq:s.op with
    |none=>rw[hq]at this;cases this
    |some o2=>
     rw[hq]at this;exact ho o2 hq (e.trans (Dq9 this))
theorem KI.gkf{w:Sto×Int}(h:w.2=11\/(w.2=0/\KI w.1/\FSx s w.1))(cT:w.2=0->w.1.sc=s.sc)(fU:w.2=0->w.1.ix=s.ix)(hq:w.2=0->w.1.q=s.q)(ha:s.d.after=0->w.2=0/\w.1.d.after=0):GKI s w:=by
 refine⟨fun hn=>(h.resolve_left hn).2.1,fun hn K=>?_,fun h0=>⟨by rw[(ha h0).1];decide,(ha h0).2⟩⟩;obtain⟨h0,-,hf⟩:=h.resolve_left hn;exact hf.cnt (cT h0) (fun k=>by rw[fU h0];exact D01 _) (hq h0) K
theorem GKI.erase(h:KI s)(ok:SOk s M)(hd:s.down=false){b:Int}(hg:F5 s.ss b=true)(aE: ∀o,s.op=some o->o.b≠b):GKI s (s.erase b):=by
 obtain⟨g1,g2⟩:=h.erase ok hd hg aE;have cT:(s.erase b).1.sc=s.sc:=(Bi8 s b).2.2;rcases g1 with g1|⟨g0,gk,gf,g3,g4,g5,-⟩
 ·exact KI.gkf (.inl g1) (fun _=>cT) (fun h0=>by rw[h0]at g1;cases g1) (fun h0=>by rw[h0]at g1;cases g1) g2
 ·exact KI.gkf (.inr ⟨g0,gk,gf⟩) (fun _=>cT) (fun _=>g4) (fun _=>g5) g2
theorem GKI.reclaim(h:KI s)(ok:SOk s M)(hd:s.down=false)(hb:HB s){r:Reg}{t:List Reg}(hr:s.rs=r::t){beside:Int}(dW:0<=beside):GKI s (s.reclaim r beside):=by
 have eG:r∈s.rs:=by rw[hr];simp
 obtain⟨h1,h2,mv⟩:=SOk.moves (b:=r.b) (ep:=r.ep) (beside:=beside) r.l ok hd;have h3:=GKI.moves (b:=r.b) (ep:=r.ep) dW r.l h ok hd hb (h.sb.rs r eG) fun o ho=>ok.opne ho eG;unfold Sto.reclaim;dsimp only;generalize Sto.moves r.b r.ep beside r.l s=w at h1 h2 mv h3;split
 ·exact h3
 ·rename_i h0;have h0:w.2=0:=by simpa using h0
  have aE:w.2≠11:=by rw[h0];decide
  have hc:=h1.cutp r.b;have hg:F5 w.1.ss r.b=true:=by
   rw[mv.ss];exact ok.use.2 r.b (by unfold Sto.us;exact Ds8 _ (Du6 eG))
  have hk:KI {w.1 with pend:=w.1.pend.filter fun p=> !decide (p.1=r.b)}:=(h3.ki aE).congr rfl rfl rfl rfl rfl rfl rfl;have iH: ∀o,({w.1 with pend:=w.1.pend.filter fun p=> !decide (p.1=r.b)}:Sto).op=some o->o.b≠r.b:=fun o ho e=>by
   have h4:=mv.ob;have ho:w.1.op=some o:=ho;rw[ho]at h4;cases hq:s.op with
   |none=>rw[hq]at h4;cases h4
   |some o2=>
    rw[hq]at h4;exact ok.opne hq eG (e.symm.trans (Dq9 h4))
  have h5:=GKI.erase hk hc (h2 h0) hg iH;refine⟨h5.ki,fun hn K=>Dt1 (h5.le hn K) (h3.le aE K),fun ha=>h5.af (h3.af ha).2⟩
theorem GKI.frees{n:Int}(hn:0<=n): ∀(j:Nat) {s:Sto} {M:Nat},KI s->SOk s M->s.down=false->HB s->GKI s (Sto.frees n j s)
 |0,s,M,h,ok,hd,hb=>h.gk (by decide)
 |j+1,s,M,h,ok,hd,hb=>by
  unfold Sto.frees;split
  ·split
   ·exact h.gk (by decide)
   ·rename_i r t hr;have h1:=ok.reclaim hd hr n;have h2:=h.sb.reclaim ok hd hb hr hn;have h3:=GKI.reclaim h ok hd hb hr hn;dsimp only;generalize s.reclaim r n=w at h1 h2 h3;split
    ·exact h3
    ·rename_i h0;have h0:w.2=0:=by simpa using h0
     have aE:w.2≠11:=by rw[h0];decide
     exact GKI.then (s1:=w.1) (e:=w.2) h3 aE (GKI.frees hn j (h3.ki aE) h1.1 (h1.2.1 h0).1 (h2.by'.hb hb))
  ·exact h.gk (by decide)
theorem GKI.more(h:KI s)(ws:WS s k)(ok:SOk s M)(hd:s.down=false)(hb:HB s){n:Int}(hn:0<=n):GKI s (s.more n):=by
 have hS:=ok.S;unfold Sto.more;split
 ·exact h.gk (by decide)
 rename_i bE;have bE:=An2 (s:=s) (n:=n+1+s.sealN) (by simpa using bE);rw[Dw3,Dw3]at bE;have rK:0<=n*(s.sc.c.S:Int):=Dx8 hn (by omega);split
 ·exact h.gk (by decide)
 rename_i bX;split
 ·split
  ·exact h.gk (by decide)
  ·rename_i r t hr;exact GKI.reclaim h ok hd hb hr hn
 rename_i bB;obtain⟨s1,s2,s3,s4,s5,s6,s7⟩:=ok.seals hd;obtain⟨w1,w2⟩:=h.sb.seals ok hb (by omega);obtain⟨g1,g2⟩:=h.seals ok hd hb (by omega);have gB:=(ws.seals ok hd).1;have gW:GKI s s.seals:=by
  rcases g1 with g1|⟨g0,gk,gf,g3,g4,g5,-⟩
  ·exact KI.gkf (.inl g1) (fun _=>s7) (fun h0=>by rw[h0]at g1;cases g1) (fun h0=>by rw[h0]at g1;cases g1) g2
  ·exact KI.gkf (.inr ⟨g0,gk,gf⟩) (fun _=>s7) (fun _=>g4) (fun _=>g5) g2
 dsimp only;generalize s.seals=w at s1 s2 s3 s4 s5 s6 s7 w1 w2 gW gB;split
 ·exact gW
 rename_i h0;have h0:w.2=0:=by simpa using h0
 have aE:w.2≠11:=by rw[h0];decide
 have eF:=s2 h0;have qH:=gW.ki aE;have bQ:w.1.free≠0:=by
  unfold Sto.free at bB⊢;rw[s5,s4];exact bB
 obtain⟨p1,p2⟩:=Aa7 bQ;have aY:=(D8 p1).1;have rE:=(D8 p1).2;obtain⟨z,hz,z1,z2,z3,z4,z5,z6⟩:=s1.picks eF s3 bQ;have gA:BR w.1 z.1:=by
  rw[hz];split
  ·exact SBk.erase w1.sb s1 eF aY
  ·exact w1.sb.br
 have wT:GKI w.1 z/\(z.2=0-> ∃kb,D7 z.1.d (E2 w.1.ss w.1.us).2.2=some kb/\kb.next=0):=by
  rw[hz,p2];cases dK:(bat w.1.ss (E2 w.1.ss w.1.us).2.2).dirty with
  |false=>
   rw[Dq4 (by decide)];refine⟨qH.gk (by decide),fun _=>?_⟩;have iK:=(s1.gd eF _).1.1 aY;have dT:=gB.dr _ iK;rw[dK]at dT;obtain⟨kb,bC,-⟩:=iK;refine⟨kb,bC,Dy3 fun rK=>?_⟩;have gT:P4 w.1.d (E2 w.1.ss w.1.us).2.2=kb.next:=by unfold P4;rw[bC];rfl
   have:=D24 dT.symm;exact this ⟨by rw[Bl9];exact rE,by rw[gT];omega⟩
  |true=>
   rw[Dq5 rfl];refine⟨GKI.erase qH s1 eF aY (fun o ho=>by rw[s3]at ho;cases ho),fun he=>?_⟩;rcases(qH.erase s1 eF aY (fun o ho=>by rw[s3]at ho;cases ho)).1 with e1|⟨-,-,-,-,-,-,-,e2⟩
   ·rw[he]at e1;cases e1
   ·exact e2
 rw[<-hz];clear hz;generalize E2 w.1.ss w.1.us=pk at z6 p1 p2 wT rE;have gM:=w1.trans gA;have rR:GKI s z:=GKI.then (s1:=w.1) (e:=w.2) gW aE wT.1;split
 ·exact rR
 rename_i cY;have cY:z.2=0:=by simpa using cY
 have mX:z.2≠11:=by rw[cY];decide
 have yV:GKI s (z.1,0):=⟨fun _=>rR.ki mX,fun _=>rR.le mX,fun ha=>⟨show(0:Int)≠11 by decide,(rR.af ha).2⟩⟩;obtain⟨y1,y2,y3,y4,y5⟩:=z6 cY;split
 ·exact yV
 rename_i cO;obtain⟨f1,f2⟩:=y5 cO;obtain⟨kb,bC,yO⟩:=wT.2 cY;have yQ:kb.bad=false:=(Ay7 bC).1 ((z1.gd y1 _).1.1 (D8 f1).1);have dW:=SBk.begins gA.sb z1 (gM.by'.hb hb) z2 (D8 f1).2 (by rw[z3,z5,s7,w2];omega);obtain⟨b1,b2⟩:=(rR.ki mX).begins z1 y1 (gM.by'.hb hb) z2 (D8 f1).2 bC yQ yO (by rw[z4,s6];omega) (by rw[z3,z5,s7,w2];omega);have aA:=z1.begins y1 z2 (by rw[z4,s6];omega) f1;have cT:(z.1.begins pk.2.2).1.sc=z.1.sc:=(Bk2 z.1 pk.2.2).2.2;have df:GKI z.1 (z.1.begins pk.2.2):=by
  rcases b1 with b1|⟨c0,ck,cf,c3,c4,c5,-⟩
  ·exact KI.gkf (.inl b1) (fun _=>cT) (fun h0=>by rw[h0]at b1;cases b1) (fun h0=>by rw[h0]at b1;cases b1) b2
  ·exact KI.gkf (.inr ⟨c0,ck,cf⟩) (fun _=>cT) (fun _=>c4) (fun _=>c5) b2
 generalize z.1.begins pk.2.2=y at dW aA df;have yW:GKI s y:=GKI.then (s1:=z.1) (e:=z.2) rR mX df;split
 ·exact yW
 rename_i dY;have dY:y.2=0:=by simpa using dY
 have sA:y.2≠11:=by rw[dY];decide
 exact GKI.then (s1:=y.1) (e:=y.2) yW sA (GKI.frees hn _ (yW.ki sA) aA.1 (aA.2 dY).1 (dW.by'.hb (gM.by'.hb hb)))
theorem GKI.room{n:Int}(hn:0<=n): ∀(j:Nat) {s:Sto} {M:Nat},KI s->WS s k->SOk s M->s.down=false->HB s->GKI s (Sto.room n j s)
 |0,s,M,h,ws,ok,hd,hb=>h.gk (by decide)
 |j+1,s,M,h,ws,ok,hd,hb=>by
  rw[M3];split
  ·split<;>exact h.gk (by decide)
  ·have h1:=ok.more hd hn;have h2:=h.sb.more ok hd hb hn;have h3:=GKI.more h ws ok hd hb hn;have h4:=ws.more ok hd n;generalize s.more n=w at h1 h2 h3 h4;split
   ·exact h3
   ·rename_i h0;have h0:w.2=0:=by simpa using h0
    have aE:w.2≠11:=by rw[h0];decide
    have aK:=(h1.2.1 h0).1;exact GKI.then (s1:=w.1) (e:=w.2) h3 aE (GKI.room hn j (h3.ki aE) (h4.1 aK) h1.1 aK (h2.by'.hb hb))
end
section
variable {s:Sto} {M:Nat} {k:Int}
theorem Cw6(s:Sto)(kind:Int)(l:List (List UInt8)):(s.write kind l).1.ix=s.ix:=by
 unfold Sto.write;split
 ·rfl
 ·dsimp only;split<;>rfl
def Dp8(s:Sto)(key:ByteArray)(val:List UInt8):Prop:= ∃q,plc s key=[q]/\A9 s.d q=(key.data.toList,val,0)
theorem KI.adm(h:KI s)(ws:WS s k)(ok:SOk s M)(hd:s.down=false)(hb:HB s){key:ByteArray}{val:List UInt8}(h0:W7 s key=0):
  ((s.adm key val).2=11\/((s.adm key val).2≠11/\KI (s.adm key val).1/\((s.adm key val).2=0->Dp8 (s.adm key val).1 key val)/\((s.adm key val).2≠0->W7 (s.adm key val).1 key=0)))/\(s.d.after=0->(s.adm key val).2≠11/\(s.adm key val).1.d.after=0):=by
 unfold Sto.adm;dsimp only;split
 ·exact⟨.inr ⟨Cs9 _ _ _,h,fun h1=>by contradiction,fun _=>h0⟩,fun ha=>⟨Cs9 _ _ _,ha⟩⟩
 ·rename_i aR;have aR:=Dt6.1 aR;obtain⟨c1,c2,c3⟩:=Ar5 aR;obtain⟨g1,hp⟩:BR s (s.roomy (J5 key.data.toList val (J8 s.sc.c)).1.length).1/\((s.roomy (J5 key.data.toList val (J8 s.sc.c)).1.length).2=0->((J5 key.data.toList val (J8 s.sc.c)).1.length:Int)*((s.roomy (J5 key.data.toList val (J8 s.sc.c)).1.length).1.sc.c.S:Int)<=(s.roomy (J5 key.data.toList val (J8 s.sc.c)).1.length).1.bk.tokens):=SBk.room (by omega) _ h.sb ok hd hb;have g2:GKI s (s.roomy (J5 key.data.toList val (J8 s.sc.c)).1.length):=GKI.room (by omega) _ h ws ok hd hb;obtain⟨r2,r3,r4⟩:=ok.roomy hd (n:=((J5 key.data.toList val (J8 s.sc.c)).1.length:Int)) (by omega);have hZ:=A14 ok;generalize s.roomy (J5 key.data.toList val (J8 s.sc.c)).1.length=w at g1 hp g2 r2 r3 r4;split
  ·rename_i hw;refine⟨?_,g2.af⟩;by_cases e:w.2=11
   ·exact .inl e
   ·exact .inr ⟨e,g2.ki e,fun h1=>absurd h1 hw,fun _=>by have:=g2.le e key;omega⟩
  ·rename_i hw;have hw:=Dt6.1 hw;have aE:w.2≠11:=by rw[hw];decide
   obtain⟨r5,r6⟩:=r3 hw;have hk:=g2.ki aE;have hcn:W7 w.1 key=0:=by have:=g2.le aE key;omega
   obtain⟨w1,w2⟩:=hk.write r2 r5 (g1.by'.hb hb) (kind:=2) (.inl rfl) c1 (fun p hp=>by have:=c2 p hp;rw[hZ]at this;rw[r4];omega) (fun _=>by rw[r4];exact Af6 aR) r6 (hp hw);have dS:=Mv.write w.1 2 (J5 key.data.toList val (J8 s.sc.c)).1;have fU:=Cw6 w.1 2 (J5 key.data.toList val (J8 s.sc.c)).1;have kR:=(r2.write r5 2 (J5 key.data.toList val (J8 s.sc.c)).1).1;generalize w.1.write 2 (J5 key.data.toList val (J8 s.sc.c)).1=z at w1 w2 dS fU kR;rcases w1 with w1|⟨z0,zk,zf,⟨o,go,gq,gop⟩,gr⟩
   ·rw[Dq4 (by rw[w1];decide)];exact⟨.inl w1,fun ha=>absurd w1 (by rw[(w2 (g2.af ha).2).1];decide)⟩
   ·rw[Dq5 z0];have gr:=gr rfl;rw[c3]at gr;have cY:W7 z.1 key=0:=by
     have:=zf.cnt dS.sc (fun k=>by rw[fU];exact D01 _) dS.q key;omega
    obtain⟨l1,l2,-⟩:=zk.listed kR (key:=key) (q:=z.2.1) ⟨by rw[gr],by rw[gr];exact Cn5 key⟩ cY ⟨by rw[gq,dS.epoch];exact(hk.op o go).2.2.2.2.2,fun o' bU _ _=>by
     rw[gop]at bU;rw[<-Dq9 bU,gq];show o.nx<o.nx+_;have:=c1.1;omega⟩
    exact⟨.inr ⟨show(0:Int)≠11 by decide,l1,fun _=>⟨z.2.1,l2,gr⟩,fun h1=>absurd rfl h1⟩,fun ha=>⟨show(0:Int)≠11 by decide,(w2 (g2.af ha).2).2⟩⟩
theorem KI.pop(h:KI s){y:QD}{r:List QD}(hq:s.q=y::r):KI {s with q:=r}/\W7 {s with q:=r} y.1=0:=by
 have hn:=h.uq;rw[hq,Ds3,Dv9]at hn;have h1:KI {s with q:=r}:=h.setq hn.2 fun K hK=>.inl (by rw[hq];exact Dr6 _ hK);refine⟨h1,?_⟩;have hp:=h.pl y.1;unfold W7 at hp⊢;rw[Dq5 (by rw[hq];simp)]at hp;show(plc s y.1).length+(if y.1∈r.map Prod.fst then 1 else 0)=0;rw[Dq4 hn.1];omega
def De3(s:Sto)(w:Sto):Prop:= ∀(l:List QD) (key:ByteArray) (val:List UInt8),s.q=l++[(key,val,0)]->(∃l',w.q=l'++[(key,val,0)])\/(W7 w key=0/\s.sc.small<key.size+val.length)
theorem Cx2{s:Sto}(hq:s.q=[])(hs:0<=s.sc.small): ∀j,Sto.trim j s=(s,0)
 |0=>rfl
 |j+1=>by
  unfold Sto.trim;rw[Dq4 (by rw[hq];show¬(((0:Nat):Int)>s.sc.small);omega)]
theorem KI.trim: ∀(j:Nat) {s:Sto} {M:Nat},KI s->WS s k->SOk s M->s.down=false->HB s->((Sto.trim j s).2=11\/((Sto.trim j s).2=0/\KI (Sto.trim j s).1/\De3 s (Sto.trim j s).1))/\(s.d.after=0->(Sto.trim j s).2≠11/\(Sto.trim j s).1.d.after=0)
 |0,s,M,h,ws,ok,hd,hb=>⟨.inr ⟨rfl,h,fun l key val hq=>.inl ⟨l,hq⟩⟩,fun ha=>⟨show(0:Int)≠11 by decide,ha⟩⟩
 |j+1,s,M,h,ws,ok,hd,hb=>by
  unfold Sto.trim;split
  ·rename_i gI;cases hq:s.q with
   |nil=>rw[hq]at gI;exact absurd gI (by have:=ok.sm;show¬(((0:Nat):Int)>s.sc.small);omega)
   |cons y r=>
    dsimp only;have fS:=ok.qs;have eH:=ok.ql;rw[hq]at fS eH;obtain⟨p1,p2⟩:=h.pop hq;have ok1:SOk {s with q:=r} M:=ok.setq (fun e he=>fS e (Dr6 _ he)) (by simp at eH;omega);have ws1:WS {s with q:=r} k:=ws.congr rfl rfl rfl rfl;have b0:BR s {s with q:=r}:=h.sb.br.congr rfl rfl rfl rfl;have dY: ∀l key val,s.q=l++[(key,val,0)]->(l=[]/\y=(key,val,0)/\r=[])\/ ∃l2,r=l2++[(key,val,0)]:=fun l key val hl=>by
     rw[hq]at hl;cases l with
     |nil=>simp only[Ds1,D28]at hl;exact .inl ⟨rfl,hl.1,hl.2⟩
     |cons a l2=>simp only[Dt7,D28]at hl;exact .inr ⟨l2,hl.2⟩
    have next: ∀(t:Sto) (N:Nat),KI t->WS t k->SOk t N->t.down=false->HB t->t.q=r->t.sc=s.sc->(y.2.2=0->W7 t y.1=0)->(s.d.after=0->t.d.after=0)->((Sto.trim j t).2=11\/((Sto.trim j t).2=0/\KI (Sto.trim j t).1/\De3 s (Sto.trim j t).1))/\(s.d.after=0->(Sto.trim j t).2≠11/\(Sto.trim j t).1.d.after=0):=fun t N tk tw tok td tb tq tsc tc ta=>by
     obtain⟨i1,i2⟩:=KI.trim j tk tw tok td tb;refine⟨i1.imp id fun⟨i0,ik,it⟩=>⟨i0,ik,fun l key val hl=>?_⟩,fun ha=>i2 (ta ha)⟩;rcases dY l key val hl with⟨rfl,e1,e2⟩|⟨l2,gK⟩
     ·right;have e3:Sto.trim j t=(t,0):=Cx2 (by rw[tq,e2]) (by rw[tsc];exact ok.sm.1) j;rw[e3];refine⟨by rw[e1]at tc;exact tc rfl,?_⟩;rw[hq,e1,e2]at gI;have:(Bv6 [((key,val,0):QD)]:Int)=key.size+val.length:=by unfold Bv6;simp
      rw[this]at gI;exact gI
     ·have:=it l2 key val (by rw[tq];exact gK);rw[tsc]at this;exact this
    by_cases hf:y.2.2>0
    ·rw[Dq5 hf];obtain⟨a1,a2⟩:=p1.adm ws1 ok1 hd (b0.by'.hb hb) (val:=y.2.1) p2;have a3:=ok1.adm hd y.1 y.2.1;have a4:=Ad2 {s with q:=r} y.1 y.2.1;have a5:=ws1.adm ok1 hd y.1 y.2.1;have a6:=b0.sb.adm ok1 hd (b0.by'.hb hb) y.1 y.2.1;have a7:=R4 {s with q:=r} y.1 y.2.1;generalize ({s with q:=r}:Sto).adm y.1 y.2.1=w at a1 a2 a3 a4 a5 a6 a7;by_cases e:w.2=11
     ·rw[Dq4 (by rw[e];decide),Dq5 e];exact⟨.inl e,fun ha=>absurd e (a2 ha).1⟩
     ·obtain⟨-,wk,-,-⟩:=a1.resolve_left e;have wd:w.1.down=false:=(a7 e).trans hd;have ww:=a5.1 wd;have wb:=(b0.trans a6).by'.hb hb;have wsc:w.1.sc=s.sc:=a3.2;split
      ·exact next w.1 _ wk ww a3.1 wd wb a4.1 wsc (fun h0=>by omega) fun ha=>(a2 ha).2
      ·refine next {w.1 with gh:=Bh8 s.sc.ghost w.1.gh (s.hash y.1)} _ (wk.congr rfl rfl rfl rfl rfl rfl rfl) (ww.congr rfl rfl rfl rfl) (a3.1.setgh (gh:=Bh8 s.sc.ghost w.1.gh (s.hash y.1)) ?_) wd wb a4.1 wsc (fun h0=>by omega) fun ha=>(a2 ha).2
       have h6:=a3.1.gl;have h7:=a3.1.gs;rw[wsc]at h6 h7⊢;exact Aa5 h7.1 h6 _
    ·rw[Dq4 hf];dsimp only;rw[Dq4 (show¬((8:Int)=0) by decide),Dq4 (show¬((8:Int)=11) by decide)];refine next {s with q:=r,gh:=Bh8 s.sc.ghost s.gh (s.hash y.1)} M (p1.congr rfl rfl rfl rfl rfl rfl rfl) (ws.congr rfl rfl rfl rfl) (ok1.setgh (gh:=Bh8 s.sc.ghost s.gh (s.hash y.1)) (Aa5 ok.gs.1 ok.gl _)) hd hb rfl rfl (fun _=>p2) fun ha=>ha
  ·exact⟨.inr ⟨rfl,h,fun l key val hq=>.inl ⟨l,hq⟩⟩,fun ha=>⟨show(0:Int)≠11 by decide,ha⟩⟩
def C85(w:Sto)(key:ByteArray)(val:List UInt8):Prop:= ∃l',w.q=l'++[(key,val,0)]
theorem KI.putYoung(h:KI s)(ws:WS s k)(ok:SOk s M)(hd:s.down=false)(hb:HB s)(hq:s.q.length<=65536){key:ByteArray}{val:List UInt8}(hk:1<=key.size/\key.size<=255)(hv:val.length<=65536)(h0:W7 s key=0):
  ((s.putYoung key val).2=11\/((s.putYoung key val).2=0/\KI (s.putYoung key val).1/\(C85 (s.putYoung key val).1 key val\/(W7 (s.putYoung key val).1 key=0/\s.sc.small<key.size+val.length))))/\(s.d.after=0->(s.putYoung key val).2≠11/\(s.putYoung key val).1.d.after=0):=by
 obtain⟨c1,c2⟩:=cnt0 h0;have ok1:=(ok.putYoung hd hq hk hv).1;have b0:BR s {s with q:=P1 s.q key++[(key,val,0)]}:=h.sb.br.congr rfl rfl rfl rfl;have aV:=(Bj5 s.q key).map Prod.fst;have k1:KI {s with q:=P1 s.q key++[(key,val,0)]}:=h.setq (by
  rw[Ds2,Dx3];exact⟨aV.nodup h.uq,by simp,fun a ha b dE=>by
   rw[Dz5,Dr2]at dE;rw[dE];exact fun e=>c2 (by have e:a=key:=e;rw[<-e];exact aV.subset ha)⟩) fun K hK=>by
  rw[Ds2,Dr5]at hK;rcases hK with hK|hK
  ·exact .inl (aV.subset hK)
  ·rw[Dz5,Dr2]at hK;exact .inr (by rw[hK,c1];rfl)
 obtain⟨t1,t2⟩:=KI.trim (s.q.length+2) k1 (ws.congr rfl rfl rfl rfl) ok1 hd (b0.by'.hb hb);unfold Sto.putYoung;refine⟨t1.imp id fun⟨a0,a1,a2⟩=>⟨a0,a1,?_⟩,t2⟩;exact a2 (P1 s.q key) key val rfl
theorem KI.put(h:KI s)(ws:WS s k)(iv:H4 s M)(hd:s.down=false)(hb:HB s){key:ByteArray}{val:List UInt8}(hk:1<=key.size/\key.size<=255)(hv:val.length<=65536):
  (s.put key val).2=11\/((s.put key val).2=14/\KI (s.put key val).1/\W7 (s.put key val).1 key=0)\/((s.put key val).2=0/\KI (s.put key val).1/\(C85 (s.put key val).1 key val\/Dp8 (s.put key val).1 key val\/(W7 (s.put key val).1 key=0/\s.sc.small<key.size+val.length))):=by
 have ha:s.asked key=0:=by unfold Sto.asked;rw[Dq4 (by rw[hd];decide),Dq4 (by omega)]
 unfold Sto.put;rw[Dq4 (by simpa using ha),Dq4 (by omega)];obtain⟨f1,f2,f3,f4,f5⟩:=iv.ok.forget key;have dN:(s.forget key).1.q.length<=65536:=by rw[f4];exact Dt1 (P5 _ _) (iv.q hd)
 have bI:(s.forget key).1.down=false:=f2.trans hd;obtain⟨k1,k2⟩:=h.forget iv.ok key;have w1:=(ws.wr.forget key).1 bI;have b1:=h.sb.forget key;dsimp only;generalize (s.forget key).1=s1 at f1 f2 f3 f4 f5 dN bI k1 k2 w1 b1;have dF:=b1.by'.hb hb;have done: ∀{t:Sto} {N:Nat},KI t->WS t k->SOk t N->t.down=false->HB t->t.q.length<=65536->W7 t key=0->t.sc=s.sc->(t.putYoung key val).2=11\/((t.putYoung key val).2=14/\KI (t.putYoung key val).1/\W7 (t.putYoung key val).1 key=0)\/((t.putYoung key val).2=0/\KI (t.putYoung key val).1/\(C85 (t.putYoung key val).1 key val\/Dp8 (t.putYoung key val).1 key val\/(W7 (t.putYoung key val).1 key=0/\s.sc.small<key.size+val.length))):=fun tk tw tok td tb tq tc tsc=>by
  rcases(tk.putYoung tw tok td tb tq hk hv tc).1 with e|⟨e0,e1,e2⟩
  ·exact .inl e
  ·rw[tsc]at e2;exact .inr (.inr ⟨e0,e1,e2.imp id .inr⟩)
 split
 ·exact .inr (.inl ⟨rfl,k1,k2⟩)
 ·split
  ·have hg:SOk {s1 with gh:=s1.gh.erase ((s.hash key:Nat):Int)} (M+1):=f1.setgh (by have h1:=f1.gl;have h2:(s1.gh.erase ((s.hash key:Nat):Int)).length<=s1.gh.length:=D00;omega);have kg:KI {s1 with gh:=s1.gh.erase ((s.hash key:Nat):Int)}:=k1.congr rfl rfl rfl rfl rfl rfl rfl;have wg:WS {s1 with gh:=s1.gh.erase ((s.hash key:Nat):Int)} k:=w1.congr rfl rfl rfl rfl;have bg:BR s {s1 with gh:=s1.gh.erase ((s.hash key:Nat):Int)}:=b1.congr rfl rfl rfl rfl;have cg:W7 {s1 with gh:=s1.gh.erase ((s.hash key:Nat):Int)} key=0:=k2;obtain⟨a1,a2⟩:=kg.adm wg hg bI (bg.by'.hb hb) (val:=val) cg;obtain⟨a3,a4⟩:=hg.adm bI key val;have a5:=Ad2 {s1 with gh:=s1.gh.erase ((s.hash key:Nat):Int)} key val;have a6:=R4 {s1 with gh:=s1.gh.erase ((s.hash key:Nat):Int)} key val;have a7:=wg.adm hg bI key val;have a8:=bg.trans (bg.sb.adm hg bI (bg.by'.hb hb) key val);generalize ({s1 with gh:=s1.gh.erase ((s.hash key:Nat):Int)}:Sto).adm key val=w at a1 a2 a3 a4 a5 a6 a7 a8;have eI:w.1.q.length<=65536:=by rw[a5.1];exact dN
   by_cases e:w.2=11
   ·rw[Dq5 (.inr e)];exact .inl e
   ·obtain⟨-,wk,wm,wc⟩:=a1.resolve_left e;split
    ·rename_i hw;have h0:=hw.resolve_right e;exact .inr (.inr ⟨h0,wk,.inr (.inl (wm h0))⟩)
    ·rename_i hw;rw[Du4]at hw;have wd:=(a6 hw.2).trans bI;exact done wk (a7.1 wd) a3 wd (a8.by'.hb hb) eI (wc hw.1) (a4.trans f3)
  ·exact done k1 w1 f1 bI dF dN k2 f3
theorem KI.get(h:KI s)(ok:SOk s M)(key:ByteArray):KI (s.get key).1:=by
 unfold Sto.get;split
 ·exact h
 ·split
  ·have hm:(Ar4 s.q key).map Prod.fst=s.q.map Prod.fst:=by
    unfold Ar4;rw[Dv2];refine D97 fun e _=>?_;simp only[Function.comp];split<;>rfl
   exact h.setq (by rw[hm];exact h.uq) fun K hK=>.inl (by rw[hm]at hK;exact hK)
  ·split
   ·exact h
   ·exact h.hit ok _ _
theorem KI.delete(h:KI s)(ok:SOk s M)(key:ByteArray):KI (s.delete key).1:=by
 unfold Sto.delete;split
 ·exact h
 ·exact(h.forget ok key).1
theorem KI.flushes: ∀(j:Nat) {s:Sto} {M:Nat},KI s->WS s k->H4 s M->s.down=false->HB s->(Sto.flushes j s).2=11\/KI (Sto.flushes j s).1
 |0,s,M,h,ws,iv,hd,hb=>.inr h
 |j+1,s,M,h,ws,iv,hd,hb=>by
  unfold Sto.flushes;split
  ·exact .inr h
  ·obtain⟨a1,a2,a3⟩:=iv.ok.roomy hd (n:=1) (by decide);obtain⟨a4,a5⟩:BR s (s.roomy 1).1/\((s.roomy 1).2=0->_):=SBk.room (n:=1) (by decide) _ h.sb iv.ok hd hb;have a6:GKI s (s.roomy 1):=GKI.room (by decide) _ h ws iv.ok hd hb;have a7:WR (s.roomy 1).1 k:=WS.room (by decide) _ ws iv.ok hd;have aq:(s.roomy 1).1.q=s.q:=(A13 1 (s.mu+1) s).1;dsimp only;generalize hw:s.roomy 1=w at a1 a2 a3 a4 a6 a7 aq;have a5:w.2=0->1*(w.1.sc.c.S:Int)<=w.1.bk.tokens:=by rw[<-hw];exact a5
   split
   ·by_cases e:w.2=11
    ·exact .inl e
    ·exact .inr (a6.ki e)
   ·rename_i h0;have h0:=Dt6.1 h0;have aE:w.2≠11:=by rw[h0];decide
    obtain⟨b1,b2⟩:=a2 h0;have wk:=a6.ki aE;split
    ·exact .inr wk
    ·rename_i hn;split
     ·exact .inr wk
     ·rename_i dc;have hC:(M7 (w.1.pend.take (min w.1.pend.length (B7 w.1.sc.c.S/6).toNat))).1.length<=w.1.sc.c.S-16:=by
       have hS:=a1.S;have hr:B7 w.1.sc.c.S=((w.1.sc.c.S-16:Nat):Int):=A14 a1;have bC: ∀x:It,(kb x).length=6:=fun x=>by unfold kb;simp[Q1]
       have aB: ∀l:List It,(l.flatMap kb).length=6*l.length:=fun l=>by
        induction l with
        |nil=>rfl
        |cons a t ih=>rw[Du1,Dr4,bC,ih,Dr8];omega
       unfold M7;split
       ·simp only;rw[aB,Ds0,hr];omega
       ·simp
      obtain⟨w2,-⟩:=wk.write a1 b1 (a4.by'.hb hb) (kind:=3) (.inr rfl) (l:=[(M7 (w.1.pend.take (min w.1.pend.length (B7 w.1.sc.c.S/6).toNat))).1]) ⟨by simp,by simp⟩ (fun p hp=>by rw[Dr2.1 hp];exact hC) (fun h=>absurd (show(3:Int)=2 from h) (by decide)) b2 (a5 h0);have w3:=(a4.sb.write a1 b1 (a4.by'.hb hb) (kind:=3) (.inr rfl) [(M7 (w.1.pend.take (min w.1.pend.length (B7 w.1.sc.c.S/6).toNat))).1] (fun h=>absurd (show(3:Int)=2 from h) (by decide)) (a5 h0)).1;have w4:=(a7.1 b1).write a1 b1 3 [(M7 (w.1.pend.take (min w.1.pend.length (B7 w.1.sc.c.S/6).toNat))).1];obtain⟨c1,c2⟩:=a1.write b1 3 [(M7 (w.1.pend.take (min w.1.pend.length (B7 w.1.sc.c.S/6).toNat))).1];have cq:=Am6 w.1 3 [(M7 (w.1.pend.take (min w.1.pend.length (B7 w.1.sc.c.S/6).toNat))).1];generalize w.1.write 3 [(M7 (w.1.pend.take (min w.1.pend.length (B7 w.1.sc.c.S/6).toNat))).1]=z at w2 w3 w4 c1 c2 cq;split
      ·rename_i h1;rcases w2 with w2|⟨z0,-⟩
       ·exact .inl w2
       ·exact absurd z0 h1
      ·rename_i h1;have h1:z.2.2=0:=by simpa using h1
       rcases w2 with w2|⟨z0,zk,-⟩
       ·rw[h1]at w2;cases w2
       ·have i4:H4 {z.1 with pend:=z.1.pend.drop (min w.1.pend.length (B7 w.1.sc.c.S/6).toNat)} M:=⟨{c1 with dv:=c1.dv,pl:=by show(z.1.pend.drop _).length<=M;rw[Ds6];have:=c1.pl;omega},fun _=>by show z.1.q.length<=65536;rw[cq.1,aq];exact iv.q hd⟩;have b5:BR s {z.1 with pend:=z.1.pend.drop (min w.1.pend.length (B7 w.1.sc.c.S/6).toNat)}:=(a4.trans w3).congr rfl rfl rfl rfl;exact KI.flushes j (zk.congr rfl rfl rfl rfl rfl rfl rfl) (w4.congr rfl rfl rfl rfl) i4 (c2 h1) (b5.by'.hb hb)
end
structure Fn(s:Sto)(Q:Int->Prop):Prop where
 af:s.d.after=0
 al: ∀x:Int,0<=x->x<s.ss.length->F5 s.ss x=true
 wr: ∀x,Q x->F5 s.ss x=true->(bat s.ss x).wear+1<s.sc.c.W
theorem B88{q:Nat->Bool}: ∀{k:Nat},(∀i,i<k->q i=true)->bct q k=k
 |0,_=>rfl
 |k+1,h=>by unfold bct;rw[B88 fun i hi=>h i (by omega),h k (by omega)];rfl
section
variable {s:Sto} {M:Nat} {k:Int}
theorem Fn.all{Q:Int->Prop}(f:Fn s Q):V0 s.ss=s.ss.length:=B88 fun i hi=>f.al i (by omega) (by omega)
theorem Fn.free{Q:Int->Prop}(f:Fn s Q)(ok:SOk s M):s.free=s.ss.length-s.us.length:=by
 unfold Sto.free;rw[Cd3 ok.use,f.all]
theorem Fn.mono{Q Q':Int->Prop}(f:Fn s Q)(h: ∀x,Q' x->Q x):Fn s Q':=⟨f.af,f.al,fun x hx=>f.wr x (h x hx)⟩
theorem Fn.keep{Q:Int->Prop}(f:Fn s Q){s':Sto}(h1:s'.ss=s.ss)(h2:s'.sc=s.sc)(h3:s'.d.after=0):Fn s' Q:=⟨h3,by rw[h1];exact f.al,by rw[h1,h2];exact f.wr⟩
theorem Fn.erase{Q:Int->Prop}(f:Fn s Q)(h:KI s)(ok:SOk s M)(hd:s.down=false){b:Int}(hg:F5 s.ss b=true)(aE: ∀o,s.op=some o->o.b≠b)(hw:(bat s.ss b).wear+1<s.sc.c.W):
  (s.erase b).2=0/\(s.erase b).1.ss=Ad4 s.ss b (R5 false)/\Fn (s.erase b).1 (fun x=>x≠b/\Q x)/\(s.erase b).1.badAt b=false:=by
 have dU:s.d.down=false:=by rw[<-ok.dn];exact hd
 obtain⟨e0,ea⟩:=(h.erase ok hd hg aE).2 f.af;obtain⟨kb,hk,bC⟩:=(ok.gd hd b).1.1 hg;obtain⟨k',t,hc⟩:=Ai5 ok.dv dU hk bC;obtain⟨h0,hO,-⟩:=K5 hg;rcases hc with⟨e1,-⟩|⟨e1,rfl,e2⟩
 ·rw[(Ay9 b e1).2.2]at e0;cases e0
 ·have kD:=(ok.gd hd b).2 ⟨kb,hk,bC⟩;have an:O0 s.d b=kb.wear:=by unfold O0;rw[hk];rfl
  have qB:(kb.fresh s.d.c).bad=false:=by
   unfold Blk.fresh;simp only[Ea2];rw[ok.cfg];omega
  have xM:(E7 s.d b).1=0:=by rw[e2,qB];rfl
  obtain⟨u1,u2,u3,u4⟩:=Bi7 b e1;have fQ:(s.erase b).1.ss=Ad4 s.ss b (R5 false):=by
   rw[u4,Dq5 hg,xM];rfl
  have cT:(s.erase b).1.sc=s.sc:=(Bi8 s b).2.2;refine⟨e0,fQ,⟨ea,fun x gJ vX=>?_,fun x ⟨mM,hq⟩ rS=>?_⟩,?_⟩
  ·rw[fQ]at vX⊢;rw[Al0]at vX;by_cases e:x=b
   ·rw[e];obtain⟨y,-,hy⟩:=Aw8 (R5 false) hg;rw[hy];rfl
   ·rw[Ar7 _ h0 e];exact f.al x gJ vX
  ·rw[fQ]at rS⊢;rw[Ar7 _ h0 mM]at rS;rw[Al2 _ h0 (Ac4 rS).1 mM,cT];exact f.wr x hq rS
  ·unfold Sto.badAt;rw[u2];have jU:=t.own;unfold D7 at jU;rw[Dq5 h0]at jU;rw[jU];exact qB
theorem At7{b ep n:Int}: ∀(l:List It) {s:Sto},s.fits n=false->(∀x∈l,0<=x.2.2.1)->(Sto.moves b ep n l s).2=0/\ ∃ix',(Sto.moves b ep n l s).1={s with ix:=ix'}
 |[],s,_,_=>⟨rfl,s.ix,rfl⟩
 |x::r,s,hf,hl=>by
  have hr: ∀y∈r,0<=y.2.2.1:=fun y hy=>hl y (Dr6 _ hy);have hm:(s.move (b,x.2.1,ep,()) x.2.2.1 n).2=0/\ ∃ix',(s.move (b,x.2.1,ep,()) x.2.2.1 n).1={s with ix:=ix'}:=by
   unfold Sto.move;dsimp only;split
   ·exact⟨rfl,s.ix,rfl⟩
   ·have jI:s.fits (x.2.2.1+n)=false:=by
     cases hq:s.fits (x.2.2.1+n)with
     |false=>rfl
     |true=>rw[B03 hq (by have:=hl x (by simp);omega)]at hf;cases hf
    rw[Dq5 (.inr (.inl jI))];exact⟨rfl,_,rfl⟩
  unfold Sto.moves;split
  ·exact At7 r hf hr
  ·dsimp only;obtain⟨m1,ix',m2⟩:=hm;rw[Dq4 (by simpa using m1),m2];obtain⟨a1,ix2,a2⟩:=At7 r (b:=b) (ep:=ep) (s:={s with ix:=ix'}) hf hr;exact⟨a1,ix2,a2⟩
theorem cls_ne{n p m:Int}(hm:Ce3 m)(hp:m+2<=p)(h1:1<=n)(h:n<=m):cls n p≠0:=by
 unfold Ce3 at hm;unfold cls;rw[Dq4 (by omega)];simp only[Bl2]
 repeat' split
 all_goals omega
theorem C37{b:List UInt8}(h:(T9 b).2.2=0):(1<=(T9 b).1.length/\(T9 b).1.length<=255)/\(T9 b).2.1.length<=65536:=by
 obtain⟨-,q2,-,-⟩:=V7 (b:=b) (a:=0) (Dv6 _);obtain⟨-,-,w3,-⟩:=V7 (b:=b) (a:=(F8 b 0).2.1) q2;unfold T9 at h⊢;split at h
 ·rename_i h1;exact absurd h h1
 ·rename_i h1;rw[Dq4 h1];split at h
  ·rename_i h2;exact absurd h h2
  ·rename_i h2;rw[Dq4 h2];split at h
   ·rename_i h3;exact absurd h h3
   ·rename_i h3;rw[Dq4 h3];split at h
    ·cases h
    ·rename_i h4;rw[Dq4 h4];split at h
     ·cases h
     ·rename_i h5;rw[Dq4 h5];exact⟨by simp only;omega,w3⟩
theorem Bs8{d:Dev}{p:It}(h:(A9 d p).2.2=0):1<=(A9 d p).1.length/\(A9 d p).1.length<=255/\(A9 d p).2.1.length<=65536:=by
 unfold A9 at h⊢;split at h
 ·rename_i h0;exact absurd h h0
 ·rename_i h0;rw[Dq4 h0];split at h
  ·rename_i h1;rw[Dq5 h1];split at h
   ·have:=C37 h;exact⟨this.1.1,this.1.2,this.2⟩
   ·cases h
  ·cases h
theorem Cw4(s:Sto)(kind:Int)(l:List (List UInt8))(hp:l.length*(s.sc.c.S:Int)<=s.bk.tokens):s.bk.tokens-l.length*(s.sc.c.S:Int)<=(s.write kind l).1.bk.tokens:=by
 have h0:0<=(l.length:Int)*(s.sc.c.S:Int):=Dx8 (by omega) (by omega);have:=(Bp2 (s:=s) (n:=(l.length:Int)) (by omega) hp).1;unfold Sto.write;split
 ·show _<=s.bk.tokens;omega
 ·dsimp only;split
  ·show _<=(s.pay l.length).bk.tokens;omega
  ·show _<=(s.pay l.length).bk.tokens;omega
theorem Bf6{b ep n:Int}(hn:0<=n): ∀(l:List It) {s:Sto} {M:Nat},KI s->SOk s M->s.down=false->HB s->Y5 s.d b l->(∀o,s.op=some o->b≠o.b)->s.d.after=0->s.fits n=true->n*(s.sc.c.S:Int)<=s.bk.tokens->
  (Sto.moves b ep n l s).2=0/\(Sto.moves b ep n l s).1.fits n=true/\n*((Sto.moves b ep n l s).1.sc.c.S:Int)<=(Sto.moves b ep n l s).1.bk.tokens
 |[],s,M,h,ok,hd,hb,hT,ho,ha,hf,ht=>⟨rfl,hf,ht⟩
 |x::r,s,M,h,ok,hd,hb,hT,ho,ha,hf,ht=>by
  have mI:Y5 s.d b r:=fun k hk y hy=>hT k hk y (Dr6 _ hy);unfold Sto.moves;split
  ·exact Bf6 hn r h ok hd hb mI ho ha hf ht
  ·rename_i hx;have hx:=Dt6.1 hx;have iZ:Y5 s.d b [x]:=fun k hk y hy=>hT k hk y (by rw[Dr2.1 hy];simp);have h1:=ok.move hd (b,x.2.1,ep,()) x.2.2.1 n;obtain⟨h2,h3⟩:=h.sb.move ok hd hb (ep:=ep) hx iZ hn;have h4:=GKI.move h ok hd hb (ep:=ep) hx iZ hn;have h5:(s.move (b,x.2.1,ep,()) x.2.2.1 n).2=0/\(s.move (b,x.2.1,ep,()) x.2.2.1 n).1.fits n=true/\n*((s.move (b,x.2.1,ep,()) x.2.2.1 n).1.sc.c.S:Int)<=(s.move (b,x.2.1,ep,()) x.2.2.1 n).1.bk.tokens:=by
    unfold Sto.move;dsimp only;split
    ·exact⟨rfl,hf,ht⟩
    ·rename_i fN;rw[Du4]at fN;have nR:=Dt6.1 fN.1;split
     ·exact⟨rfl,hf,ht⟩
     ·rename_i hc;rw[Du4,Du4]at hc;have hS:=ok.S;obtain⟨kb,pg,f1,f2,f3,f4,f5⟩:=Ak7 ok.dv (p:=(b,x.2.1,ep,())) nR;have bS:(E0 pg).1.2.2.1<=x.2.2.1:=iZ kb f1 x (by simp) hx pg f2 f3;have bN:=((h.sb.db b kb f1).pg _ pg f2 f3).1 f4;have hZ:=A14 ok;have f6:((A9 s.d (b,x.2.1,ep,())).1.length+(A9 s.d (b,x.2.1,ep,())).2.1.length+12:Int)<=(E0 pg).1.2.2.1*B7 (J8 s.sc.c).2.2.1:=by
       rw[hZ,<-ok.cfg];have:=ok.dv.c.s;rw[D98 (by omega)];exact f5
      have hC:=B76 (c:=J8 s.sc.c) bN.1 f6;have aR:(J5 (A9 s.d (b,x.2.1,ep,())).1 (A9 s.d (b,x.2.1,ep,())).2.1 (J8 s.sc.c)).2=0:=by
       obtain⟨j1,j2,j3⟩:=Bs8 nR;have hp:F9 (A9 s.d (b,x.2.1,ep,())).1.length (A9 s.d (b,x.2.1,ep,())).2.1.length (J8 s.sc.c)≠0:=by
        unfold F9;rw[Dq4 (by rw[hZ];omega)];have hP:(J8 s.sc.c).2.1=(s.d.c.P:Int):=by rw[ok.cfg];rfl
        rw[hP];refine cls_ne (m:=(E0 pg).1.2.2.1) bN.1 bN.2 (Int.le_ediv_of_mul_le (by rw[hZ];omega) (by rw[hZ];omega)) (Int.lt_add_one_iff.1 (Eg6 (by rw[hZ];omega) ?_));rw[Dw3];omega
       unfold J5;rw[Dq4 (by omega),Dq4 (by omega),Dq4 hp]
      rw[Dq4 (by simpa using aR)];obtain⟨c1,c2,c3⟩:=Ar5 aR;have sX:=An2 (s:=s) (n:=x.2.2.1+n) (by simpa using hc.2.2);rw[Dw3]at sX;have hmul:=D08 (c:=(s.sc.c.S:Int)) (show((J5 (A9 s.d (b,x.2.1,ep,())).1 (A9 s.d (b,x.2.1,ep,())).2.1 (J8 s.sc.c)).1.length:Int)<=x.2.2.1 by omega) (by omega);have rK:0<=n*(s.sc.c.S:Int):=Dx8 hn (by omega);have jH:s.fits (x.2.2.1+n)=true:=by simpa using hc.2.1
      obtain⟨g1,g2⟩:=h.write ok hd hb (kind:=2) (.inl rfl) c1 (fun p hp=>by have:=c2 p hp;rw[hZ]at this;omega) (fun _=>Af6 aR) (B03 jH (by omega)) (by omega);have nY:=Cw4 s 2 (J5 (A9 s.d (b,x.2.1,ep,())).1 (A9 s.d (b,x.2.1,ep,())).2.1 (J8 s.sc.c)).1 (by omega);have cT:=Bc8 s 2 (J5 (A9 s.d (b,x.2.1,ep,())).1 (A9 s.d (b,x.2.1,ep,())).2.1 (J8 s.sc.c)).1;have g2:=(g2 ha).1;generalize s.write 2 (J5 (A9 s.d (b,x.2.1,ep,())).1 (A9 s.d (b,x.2.1,ep,())).2.1 (J8 s.sc.c)).1=w at g1 g2 nY cT;rw[Dq5 g2];rcases g1 with g1|⟨-,-,-,⟨o,go,-,gop⟩,-⟩
      ·rw[g2]at g1;cases g1
      ·refine⟨rfl,?_,?_⟩
       ·unfold Sto.fits at jH⊢;rw[go]at jH;have jH:=Dv5 jH;show(match w.1.op with|none=>false|some o=>decide (o.nx+n<w.1.sc.c.P))=true;rw[gop,cT];refine Dt2 ?_;show o.nx+_+n<_;omega
       ·show n*(w.1.sc.c.S:Int)<=w.1.bk.tokens;rw[cT];omega
   dsimp only;generalize s.move (b,x.2.1,ep,()) x.2.2.1 n=w at h1 h2 h3 h4 h5;obtain⟨e0,e1,e2⟩:=h5;have aE:w.2≠11:=by rw[e0];decide
   rw[Dq4 (by simpa using e0)];refine Bf6 hn r (h4.ki aE) h1.1 (h1.2.1 e0) (h2.by'.hb hb) (h3 b r mI ho) (fun o' bU e=>?_) (h4.af ha).2 e1 e2;have:=h1.2.2.ob;rw[bU]at this;cases hq:s.op with
   |none=>rw[hq]at this;cases this
   |some o2=>
    rw[hq]at this;exact ho o2 hq (e.trans (Dq9 this))
end
def Qz(s:Sto)(x:Int):Prop:=0<=x/\(x∈s.us\/(bat s.ss x).dirty=true)
def Qr(s:Sto)(x:Int):Prop:=x∈s.rs.map Reg.b
section
variable {s:Sto} {M:Nat} {k:Int}
theorem Bj0(s:Sto)(b:Int):(s.erase b).1.bk=s.bk/\(s.erase b).1.op=s.op/\(s.erase b).1.epoch=s.epoch/\(s.erase b).1.sc=s.sc:=by
 unfold Sto.erase;dsimp only;split<;>exact⟨rfl,rfl,rfl,rfl⟩
theorem Bo2(h:KI s)(ok:SOk s M)(hd:s.down=false)(hb:HB s){r:Reg}{t:List Reg}(hr:s.rs=r::t){n:Int}(hn:0<=n)(f:Fn s (Qz s))(hf:s.fits n=false):
  (s.reclaim r n).2=0/\Fn (s.reclaim r n).1 (Qz (s.reclaim r n).1)/\(s.reclaim r n).1.bk=s.bk/\(s.reclaim r n).1.op=s.op/\(s.reclaim r n).1.epoch=s.epoch/\(s.reclaim r n).1.sc=s.sc/\(s.reclaim r n).1.ss.length=s.ss.length:=by
 have eG:r∈s.rs:=by rw[hr];simp
 obtain⟨h1,h2,mv⟩:=SOk.moves (b:=r.b) (ep:=r.ep) (beside:=n) r.l ok hd;have h3:=GKI.moves (b:=r.b) (ep:=r.ep) hn r.l h ok hd hb (h.sb.rs r eG) fun o ho=>ok.opne ho eG;obtain⟨m1,ix',m2⟩:=At7 (b:=r.b) (ep:=r.ep) (n:=n) r.l hf fun x hx=>((ok.it r (.inl eG)).2 x hx).2.1;unfold Sto.reclaim;dsimp only;generalize Sto.moves r.b r.ep n r.l s=w at h1 h2 mv h3 m1 m2;rw[Dq4 (by simpa using m1)];have aE:w.2≠11:=by rw[m1];decide
 obtain⟨s2,aJ⟩: ∃s2:Sto,s2={w.1 with pend:=w.1.pend.filter fun p=> !decide (p.1=r.b)}:=⟨_,rfl⟩;have hc:SOk s2 M:=by rw[aJ];exact h1.cutp r.b
 have hk:KI s2:=by rw[aJ];exact(h3.ki aE).congr rfl rfl rfl rfl rfl rfl rfl
 have e1:s2.ss=s.ss:=by rw[aJ];exact mv.ss
 have e2:s2.op=s.op:=by rw[aJ,m2]
 have e3:s2.rs=s.rs:=by rw[aJ];exact mv.rs
 have e4:s2.bk=s.bk:=by rw[aJ,m2]
 have e5:s2.epoch=s.epoch:=by rw[aJ];exact mv.epoch
 have e6:s2.sc=s.sc:=by rw[aJ];exact mv.sc
 have e7:s2.d=s.d:=by rw[aJ,m2]
 have e8:s2.us=s.us:=by unfold Sto.us;rw[e2,e3]
 have fE:s2.down=false:=by rw[aJ];exact h2 m1
 rw[<-aJ];have fY:r.b∈s2.us:=by rw[e8];unfold Sto.us;exact Ds8 _ (Du6 eG)
 have hg:F5 s2.ss r.b=true:=hc.use.2 r.b fY;have iH: ∀o,s2.op=some o->o.b≠r.b:=fun o ho e=>ok.opne (by rw[<-e2];exact ho) eG e.symm;have f2:Fn s2 (Qz s2):=(f.keep e1 e6 (by rw[e7];exact f.af)).mono fun x hx=>by
  unfold Qz at hx⊢;rw[e8,e1]at hx;exact hx
 obtain⟨a1,a2,a3,-⟩:=f2.erase hk hc fE hg iH (f2.wr r.b ⟨(Ac4 hg).1,.inl fY⟩ hg);obtain⟨b1,b2,b3,b4⟩:=Bj0 s2 r.b;have cA:=((hc.erase fE iH).2.1 a1).2.1;refine⟨a1,a3.mono fun x hx=>?_,b1.trans e4,b2.trans e2,b3.trans e5,b4.trans e6,by rw[a2,Al0,e1]⟩;obtain⟨x0,hx⟩:=hx;rcases hx with hx|hx
 ·rw[cA]at hx;obtain⟨i1,i2⟩:=Cn8.1 hx;exact⟨i2,x0,.inl i1⟩
 ·rw[a2]at hx;by_cases e:x=r.b
  ·rw[e,Av1 _ (K5 hg).2.1]at hx;cases hx
  ·rw[Al2 _ (Ac4 hg).1 x0 e]at hx;exact⟨e,x0,.inr hx⟩
theorem B63{n:Int}(hn:0<=n): ∀(j:Nat) {s:Sto} {M:Nat},KI s->SOk s M->s.down=false->HB s->Fn s (Qr s)->s.fits n=true->n*(s.sc.c.S:Int)<=s.bk.tokens->(Sto.frees n j s).2=0/\(Sto.frees n j s).1.fits n=true/\n*((Sto.frees n j s).1.sc.c.S:Int)<=(Sto.frees n j s).1.bk.tokens
 |0,s,M,h,ok,hd,hb,f,hf,ht=>⟨rfl,hf,ht⟩
 |j+1,s,M,h,ok,hd,hb,f,hf,ht=>by
  unfold Sto.frees;split
  ·split
   ·exact⟨rfl,hf,ht⟩
   ·rename_i r t hr;have eG:r∈s.rs:=by rw[hr];simp
    have h1:=ok.reclaim hd hr n;have h2:=h.sb.reclaim ok hd hb hr hn;have h3:=GKI.reclaim h ok hd hb hr hn;have h4:(s.reclaim r n).2=0/\(s.reclaim r n).1.fits n=true/\n*((s.reclaim r n).1.sc.c.S:Int)<=(s.reclaim r n).1.bk.tokens/\Fn (s.reclaim r n).1 (Qr (s.reclaim r n).1):=by
     obtain⟨g1,g2,mv⟩:=SOk.moves (b:=r.b) (ep:=r.ep) (beside:=n) r.l ok hd;have g3:=GKI.moves (b:=r.b) (ep:=r.ep) hn r.l h ok hd hb (h.sb.rs r eG) fun o ho=>ok.opne ho eG;obtain⟨m1,m2,m3⟩:=Bf6 (b:=r.b) (ep:=r.ep) hn r.l h ok hd hb (h.sb.rs r eG) (fun o ho=>ok.opne ho eG) f.af hf ht;unfold Sto.reclaim;dsimp only;generalize Sto.moves r.b r.ep n r.l s=w at g1 g2 mv g3 m1 m2 m3;rw[Dq4 (by simpa using m1)];have aE:w.2≠11:=by rw[m1];decide
     obtain⟨s2,aJ⟩: ∃s2:Sto,s2={w.1 with pend:=w.1.pend.filter fun p=> !decide (p.1=r.b)}:=⟨_,rfl⟩;have hc:SOk s2 M:=by rw[aJ];exact g1.cutp r.b
     have hk:KI s2:=by rw[aJ];exact(g3.ki aE).congr rfl rfl rfl rfl rfl rfl rfl
     have e1:s2.ss=s.ss:=by rw[aJ];exact mv.ss
     have e3:s2.rs=s.rs:=by rw[aJ];exact mv.rs
     have e6:s2.sc=s.sc:=by rw[aJ];exact mv.sc
     have e7:s2.d.after=0:=by rw[aJ];exact(g3.af f.af).2
     have fE:s2.down=false:=by rw[aJ];exact g2 m1
     have dh:s2.fits n=true:=by rw[aJ];exact m2
     have bW:n*(s2.sc.c.S:Int)<=s2.bk.tokens:=by rw[aJ];exact m3
     rw[<-aJ];have fY:r.b∈s2.us:=by unfold Sto.us;rw[e3];exact Ds8 _ (Du6 eG)
     have hg:F5 s2.ss r.b=true:=hc.use.2 r.b fY;have iH: ∀o,s2.op=some o->o.b≠r.b:=fun o ho e=>hc.opne ho (show r∈s2.rs by rw[e3];exact eG) e.symm;have f2:Fn s2 (Qr s2):=(f.keep e1 e6 e7).mono fun x hx=>by unfold Qr at hx⊢;rw[e3]at hx;exact hx
     obtain⟨a1,a2,a3,-⟩:=f2.erase hk hc fE hg iH (f2.wr r.b (by unfold Qr;rw[e3];exact Du6 eG) hg);obtain⟨b1,b2,b3,b4⟩:=Bj0 s2 r.b;refine⟨a1,?_,by rw[b1,b4];exact bW,a3.mono fun x hx=>?_⟩
     ·unfold Sto.fits at dh⊢;rw[b2,b4];exact dh
     ·obtain⟨q,hq,rfl⟩:=Dt4.1 hx;have eI:q∈s2.rs/\q.b≠r.b:=by
       unfold Sto.erase at hq;dsimp only at hq;split at hq
       ·rename_i e11;unfold Sto.erase at a1;dsimp only at a1;rw[Dq5 e11]at a1;cases a1
       ·have:=Dw5.1 hq;exact⟨this.1,by simpa using this.2⟩
      exact⟨eI.2,Du6 eI.1⟩
    dsimp only;obtain⟨e0,e1,e2,e3⟩:=h4;generalize s.reclaim r n=w at h1 h2 h3 e0 e1 e2 e3;rw[Dq4 (by simpa using e0)];exact B63 hn j (h3.ki (by rw[e0];decide)) h1.1 (h1.2.1 e0).1 (h2.by'.hb hb) e3 e1 e2
  ·exact⟨rfl,hf,ht⟩
theorem Cl7(h:KI s)(ws:WS s k)(ok:SOk s M)(hd:s.down=false)(hb:HB s){n:Int}(hn:0<=n)(f:Fn s (Qz s))(bB:s.free≠0)(ht:(n+2)*(s.sc.c.S:Int)<=s.bk.tokens)(bX:s.epoch<1073741824)(rJ:1+n<s.sc.c.P):
  (s.more n).2=0/\(s.more n).1.fits n=true/\n*((s.more n).1.sc.c.S:Int)<=(s.more n).1.bk.tokens:=by
 have hS:=ok.S;have aT:0<=s.sealN/\s.sealN<=1:=by unfold Sto.sealN;split<;>decide
 have hsS:s.sealN*(s.sc.c.S:Int)<=1*(s.sc.c.S:Int):=D08 aT.2 (by omega);have dH:0<=s.sealN*(s.sc.c.S:Int):=Dx8 aT.1 (by omega);have rK:0<=n*(s.sc.c.S:Int):=Dx8 hn (by omega);rw[Dw3]at ht;have bE:s.pays (n+1+s.sealN)=true:=by
  unfold Sto.pays Sto.cost;refine Dt2 ?_;rw[Dw3,Dw3];omega
 unfold Sto.more;rw[Dq4 (by rw[bE];decide),Dq4 (by omega),Dq4 bB];obtain⟨s1,s2,s3,s4,s5,s6,s7⟩:=ok.seals hd;obtain⟨w1,w2⟩:=h.sb.seals ok hb (by omega);obtain⟨g1,g2⟩:=h.seals ok hd hb (by omega);have gB:=(ws.seals ok hd).1;obtain⟨h0,zV⟩:=g2 f.af;dsimp only;generalize s.seals=w at s1 s2 s3 s4 s5 s6 s7 w1 w2 g1 gB h0 zV;rw[Dq4 (by simpa using h0)];have eF:=s2 h0;obtain⟨-,qH,-⟩:=g1.resolve_left (by rw[h0];decide);have bQ:w.1.free≠0:=by
  unfold Sto.free at bB⊢;rw[s5,s4];exact bB
 have fw:Fn w.1 (Qz w.1):=(f.keep s5 s7 zV).mono fun x hx=>by
  unfold Qz at hx⊢;rw[s4,s5]at hx;exact hx
 obtain⟨p1,p2⟩:=Aa7 bQ;have aY:=(D8 p1).1;have rE:=(D8 p1).2;obtain⟨z,hz,z1,z2,z3,z4,z5,z6⟩:=s1.picks eF s3 bQ;have gA:BR w.1 z.1:=by
  rw[hz];split
  ·exact SBk.erase w1.sb s1 eF aY
  ·exact w1.sb.br
 have ah:z.2=0/\ ¬((E2 w.1.ss w.1.us).2.1.dirty=true/\z.1.badAt (E2 w.1.ss w.1.us).2.2=true)/\KI z.1/\z.1.d.after=0/\z.1.ss.length=w.1.ss.length/\(∀x,x∈w.1.us->Fn z.1 (fun y=>y∈w.1.us))/\(∀x:Int,0<=x->x<z.1.ss.length->F5 z.1.ss x=true)/\(∀x∈w.1.us,F5 z.1.ss x=true->(bat z.1.ss x).wear+1<z.1.sc.c.W)/\(∀r∈z.1.rs,r∈w.1.rs)/\ ∃kb,D7 z.1.d (E2 w.1.ss w.1.us).2.2=some kb/\kb.next=0:=by
  rw[hz,p2];cases dK:(bat w.1.ss (E2 w.1.ss w.1.us).2.2).dirty with
  |false=>
   rw[Dq4 (by decide)];refine⟨rfl,fun hh=>absurd hh.1 (by decide),qH,zV,rfl,fun x _=>fw.mono fun y hy=>⟨(Ac4 (s1.use.2 y hy)).1,.inl hy⟩,fw.al,fun x hx hg=>fw.wr x ⟨(Ac4 hg).1,.inl hx⟩ hg,fun r hr=>hr,?_⟩;have iK:=(s1.gd eF _).1.1 aY;have dT:=gB.dr _ iK;rw[dK]at dT;obtain⟨kb,bC,-⟩:=iK;refine⟨kb,bC,Dy3 fun rK=>?_⟩;have gT:P4 w.1.d (E2 w.1.ss w.1.us).2.2=kb.next:=by unfold P4;rw[bC];rfl
   exact(D24 dT.symm) ⟨by rw[Bl9];exact rE,by rw[gT];omega⟩
  |true=>
   rw[Dq5 rfl];have bM: ∀o,w.1.op=some o->o.b≠(E2 w.1.ss w.1.us).2.2:=fun o ho=>by rw[s3]at ho;cases ho
   obtain⟨a1,a2,a3,a4⟩:=fw.erase qH s1 eF aY bM (fw.wr _ ⟨(Ac4 aY).1,.inr dK⟩ aY);obtain⟨b1,b2⟩:=qH.erase s1 eF aY bM;obtain⟨-,b3,-,-,-,-,-,b4⟩:=b1.resolve_left (by rw[a1];decide);have hq: ∀y,y∈w.1.us->y≠(E2 w.1.ss w.1.us).2.2/\Qz w.1 y:=fun y hy=>⟨fun e=>rE (e▸hy),(Ac4 (s1.use.2 y hy)).1,.inl hy⟩;refine⟨a1,fun hh=>by rw[a4]at hh;exact absurd hh.2 (by decide),b3,a3.af,by rw[a2,Al0],fun x _=>a3.mono hq,a3.al,fun x hx hg=>a3.wr x (hq x hx) hg,fun r hr=>?_,b4⟩;unfold Sto.erase at hr;dsimp only at hr;split at hr
   ·exact hr
   ·exact(Dw5.1 hr).1
 rw[<-hz];clear hz;generalize E2 w.1.ss w.1.us=pk at z6 p1 p2 ah rE;obtain⟨cY,cO,hkz,hza,-,-,cE,nY,eA,kb,bC,yO⟩:=ah;have gM:=w1.trans gA;rw[Dq4 (by simpa using cY),Dq4 cO];obtain⟨y1,y2,y3,y4,y5⟩:=z6 cY;obtain⟨f1,f2⟩:=y5 cO;have yQ:kb.bad=false:=(Ay7 bC).1 ((z1.gd y1 _).1.1 (D8 f1).1);have ag:(z.1.sc.c.S:Int)<=z.1.bk.tokens:=by rw[z3,z5,s7,w2];omega
 have dW:=SBk.begins gA.sb z1 (gM.by'.hb hb) z2 (D8 f1).2 ag;obtain⟨b1,b2⟩:=hkz.begins z1 y1 (gM.by'.hb hb) z2 (D8 f1).2 bC yQ yO (by rw[z4,s6];omega) ag;have aA:=z1.begins y1 z2 (by rw[z4,s6];omega) f1;obtain⟨dY,ai⟩:=b2 hza;obtain⟨-,da,-,rZ,-⟩:=b1.resolve_left (by rw[dY];decide);have cT:(z.1.begins pk.2.2).1.sc=z.1.sc:=(Bk2 z.1 pk.2.2).2.2;have fQ:(z.1.begins pk.2.2).1.ss=z.1.ss/\(z.1.begins pk.2.2).1.rs=z.1.rs/\(z.1.begins pk.2.2).1.bk=(z.1.pay 1).bk:=by
  unfold Sto.begins;dsimp only;split<;>exact⟨rfl,rfl,rfl⟩
 have rY:(z.1.begins pk.2.2).1.bk.tokens=z.1.bk.tokens-1*(z.1.sc.c.S:Int):=by rw[fQ.2.2];exact(Bp2 (s:=z.1) (n:=1) (by decide) (by omega)).1
 generalize z.1.begins pk.2.2=y at dW aA dY ai da rZ cT fQ rY;rw[Dq4 (by simpa using dY)];have fy:Fn y.1 (Qr y.1):=⟨ai,by rw[fQ.1];exact cE,fun x hx hg=>by
  rw[fQ.1,cT]at*;refine nY x ?_ hg;unfold Qr at hx;rw[fQ.2.1]at hx;obtain⟨r,hr,rfl⟩:=Dt4.1 hx;unfold Sto.us;exact Ds8 _ (Du6 (eA r hr))⟩
 refine B63 hn _ da aA.1 (aA.2 dY).1 (dW.by'.hb (gM.by'.hb hb)) fy ?_ ?_
 ·unfold Sto.fits;rw[rZ,cT,z5,s7];exact Dt2 rJ
 ·rw[rY,cT,z3,z5,s7,w2];omega
theorem Be0{n:Int}(hf:s.fits n=true)(ht:n*(s.sc.c.S:Int)<=s.bk.tokens)(j:Nat):Sto.room n (j+1) s=(s,0):=by
 rw[M3,Dq5 hf,Dq5];unfold Sto.pays Sto.cost;exact Dt2 ht
theorem Dh5(h:KI s)(ws:WS s k)(ok:SOk s M)(hd:s.down=false)(hb:HB s){n:Int}(hn:0<=n)(f:Fn s (Qz s))(ht:(n+2)*(s.sc.c.S:Int)<=s.bk.tokens)(bX:s.epoch<1073741824)(rJ:1+n<s.sc.c.P)(j:Nat):(Sto.room n (j+3) s).2=0:=by
 have hS:=ok.S;have htn:n*(s.sc.c.S:Int)<=s.bk.tokens:=D21 (D08 (by omega) (by omega)) ht;cases dJ:s.fits n with
 |true=>rw[Be0 dJ htn]
 |false=>
  rw[M3,Dq4 (by rw[dJ];decide)];by_cases bB:s.free=0
  ·have cA:=f.free ok;have gK:=ok.dv.c.b;have dD:=ok.dv.len;have sI:=ok.ssl;cases hr:s.rs with
   |nil=>
    have:s.us.length<=1:=by
     unfold Sto.us;rw[hr];cases s.op<;>simp
    omega
   |cons r t=>
    obtain⟨a1,a2,a3,a4,a5,a6,a7⟩:=Bo2 h ok hd hb hr hn f dJ;have hm:s.more n=s.reclaim r n:=by
     have aT:0<=s.sealN/\s.sealN<=1:=by unfold Sto.sealN;split<;>decide
     have hsS:s.sealN*(s.sc.c.S:Int)<=1*(s.sc.c.S:Int):=D08 aT.2 (by omega);have bE:s.pays (n+1+s.sealN)=true:=by
      unfold Sto.pays Sto.cost;refine Dt2 ?_;rw[Dw3]at ht;rw[Dw3,Dw3];omega
     unfold Sto.more;rw[Dq4 (by rw[bE];decide),Dq4 (by omega),Dq5 bB,hr]
    rw[hm];have h1:=ok.reclaim hd hr n;have h2:=h.sb.reclaim ok hd hb hr hn;have h3:=GKI.reclaim h ok hd hb hr hn;have h4:=ws.reclaim ok hd hr n;generalize s.reclaim r n=w at a1 a2 a3 a4 a5 a6 a7 h1 h2 h3 h4;rw[Dq4 (by simpa using a1)];obtain⟨b1,b2,-⟩:=h1.2.1 a1;have uO:w.1.fits n=false:=by
     unfold Sto.fits at dJ⊢;rw[a4,a6];exact dJ
    have qL:w.1.free≠0:=by rw[a2.free h1.1,a7];omega
    rw[M3,Dq4 (by rw[uO];decide)];obtain⟨c1,c2,c3⟩:=Cl7 (h3.ki (by rw[a1];decide)) (h4.1 b1) h1.1 b1 (h2.by'.hb hb) hn a2 qL (by rw[a3,a6];exact ht) (by rw[a5];exact bX) (by rw[a6];exact rJ);rw[Dq4 (by simpa using c1),Be0 c2 c3]
  ·obtain⟨c1,c2,c3⟩:=Cl7 h ws ok hd hb hn f bB ht bX rJ;rw[Dq4 (by simpa using c1),Be0 c2 c3]
theorem adm_ok(h:KI s)(ws:WS s k)(ok:SOk s M)(hd:s.down=false)(hb:HB s){key:ByteArray}{val:List UInt8}(hk:1<=key.size/\key.size<=255)(hv:val.length<=65536)(aY:F9 key.size val.length (J8 s.sc.c)≠0)(f:Fn s (Qz s))(ht:10*(s.sc.c.S:Int)<=s.bk.tokens)(bX:s.epoch<1073741824):(s.adm key val).2=0:=by
 have aC:=A87 key;have hS:=ok.S;have aR:(J5 key.data.toList val (J8 s.sc.c)).2=0:=by
  unfold J5;rw[Dq4 (by omega),Dq4 (by omega),Dq4 (by rw[aC];exact aY)]
 obtain⟨c1,c2,c3⟩:=Ar5 aR;have bN:=(Af6 aR).2;have hZ:(s.roomy (J5 key.data.toList val (J8 s.sc.c)).1.length).2=0:=by
  obtain⟨j,hj⟩: ∃j,s.mu+1=j+3:=⟨s.mu-2,by unfold Sto.mu;omega⟩;unfold Sto.roomy;rw[hj];refine Dh5 h ws ok hd hb (by omega) f (D21 (D08 (by omega) (by omega)) ht) bX ?_ j;have:(J8 s.sc.c).2.1=(s.sc.c.P:Int):=rfl;omega
 unfold Sto.adm;dsimp only;rw[Dq4 (by simpa using aR)];obtain⟨g1,hp⟩:BR s (s.roomy (J5 key.data.toList val (J8 s.sc.c)).1.length).1/\((s.roomy (J5 key.data.toList val (J8 s.sc.c)).1.length).2=0->((J5 key.data.toList val (J8 s.sc.c)).1.length:Int)*((s.roomy (J5 key.data.toList val (J8 s.sc.c)).1.length).1.sc.c.S:Int)<=(s.roomy (J5 key.data.toList val (J8 s.sc.c)).1.length).1.bk.tokens):=SBk.room (by omega) _ h.sb ok hd hb;have g2:GKI s (s.roomy (J5 key.data.toList val (J8 s.sc.c)).1.length):=GKI.room (by omega) _ h ws ok hd hb;obtain⟨r2,r3,r4⟩:=ok.roomy hd (n:=((J5 key.data.toList val (J8 s.sc.c)).1.length:Int)) (by omega);have oG:=A14 ok;generalize s.roomy (J5 key.data.toList val (J8 s.sc.c)).1.length=w at g1 hp g2 r2 r3 r4 hZ;rw[Dq4 (by simpa using hZ)];obtain⟨r5,r6⟩:=r3 hZ;have w2:=((g2.ki (by rw[hZ];decide)).write r2 r5 (g1.by'.hb hb) (kind:=2) (.inl rfl) c1 (fun p hp=>by have:=c2 p hp;rw[oG]at this;rw[r4];omega) (fun _=>by rw[r4];exact Af6 aR) r6 (hp hZ)).2 (g2.af f.af).2;rw[Dq5 w2.1]
end
def exC:Cfg:=⟨4,8,64,1000⟩
def exX:Av2:=(4,8,64,1000,4,4,12,8,1000,4000,0,())
def kA:ByteArray:=ByteArray.mk #[97]
def kB:ByteArray:=ByteArray.mk #[98]
def kC:ByteArray:=ByteArray.mk #[99]
def v5:List UInt8:=[49,50,51,52,53]
def v1:List UInt8:=[49]
def exD:Dev:=fresh exC
def exS0:Sto:=Bv3 (Ar9 exX exD) exD 0 (List.replicate 4 ⟨0,false,false⟩)
def Dc8:Sto:=exS0.tick 9
def Dc7:Sto:=(Dc8.put kA v5).1
def Dc6:Sto:=(Dc7.put kB v5).1
def Ce2:Sto:=(Dc6.put kC v1).1
def Dn7:Sto:=(Ce2.put kA v1).1
def Dc5:Sto:=(Dn7.get kA).1
def Cr6:Sto:=(Dc5.delete kA).1
def Dn6:Sto:=Cr6.flush.1
def Bv5:Sto:=(Dn6.get kA).1
theorem ex0:Ag9 exX exD 0=(some exS0,0):=by kernel_rfl
theorem ex2:(Dc8.put kA v5).2=0:=by kernel_rfl
theorem ex3:(Dc7.put kB v5).2=0:=by kernel_rfl
theorem ex4:(Dc6.put kC v1).2=0:=by kernel_rfl
theorem ex4g:Ce2.ghosted kA=true:=by kernel_rfl
theorem ex4h:Ce2.has kB=1:=by kernel_rfl
theorem ex5:(Ce2.put kA v1).2=0:=by kernel_rfl
theorem ex6:(Dn7.get kA).2=([49],0):=by kernel_rfl
theorem ex7:(Dc5.delete kA).2=(true,0):=by kernel_rfl
theorem ex7p:Cr6.pend.length=1:=by kernel_rfl
theorem ex8:Cr6.flush.2=0:=by kernel_rfl
theorem ex9:(Dn6.get kA).2.2=8:=by kernel_rfl
theorem ex9q:Bv5.q.length=2:=by kernel_rfl
theorem ex9l:ilen Bv5.ix=0:=by kernel_rfl
theorem ex9t:Bv5.bk.tokens=3808:=by kernel_rfl
theorem exd7:Cr6.down=false:=by kernel_rfl
theorem exd9:Bv5.down=false:=by kernel_rfl
theorem Bd8{L:A4}{b:Nat}{l:List UInt8}{T:TypeId}{fz:Nat×Nat}(cap:Nat)(hc:l.length<=cap)(hm:(b,Obj.cells (bvs l).toArray T fz)∈L):BSl L ⟨some b.z,l.length,cap⟩ l:=
 ⟨by rw[E5];simp,hc,.inr ⟨_,rfl,.blk hm fun i v hv=>by simpa using hv⟩⟩
theorem Cx7:PP.underlying 27=some (.slice 5):=by kernel_rfl
theorem Cx6:PP.underlying 5=some (.int .u8):=by kernel_rfl
section
variable (L:A4) (key:ByteArray)
theorem Ca2:Reads PP 27 #[.q none] L (.i 1):=by
 unfold Reads;refine(c27 none).c ?_;exact ifT rfl (.of ⟨rfl,rfl⟩)
theorem As4:Reads PP 37 #[] L (.agg #[.i 4,.i 8,.i 64,.i 1000,.i 4,.i 4,.i 12,.i 8,.i 1000,.i 4000,.i 0]):=by
 unfold Reads;refine c37.c ?_;exact .of ⟨rfl,rfl⟩
end
def zO(n:Nat)(c:Array Value):Nat×Obj:=(n,Obj.cells c 5 (c.size,c.size+1))
theorem exe2:(Dc8.put kA v5).1=Dc7:=by unfold Dc7;exact rfl
theorem exe3:(Dc7.put kB v5).1=Dc6:=by unfold Dc6;exact rfl
theorem exe4:(Dc6.put kC v1).1=Ce2:=by unfold Ce2;exact rfl
theorem exe5:(Ce2.put kA v1).1=Dn7:=by unfold Dn7;exact rfl
theorem exe6:(Dn7.get kA).1=Dc5:=by unfold Dc5;exact rfl
theorem exe7:(Dc5.delete kA).1=Cr6:=by unfold Cr6;exact rfl
theorem exe8:Cr6.flush.1=Dn6:=by unfold Dn6;exact rfl
theorem exe9:(Dn6.get kA).1=Bv5:=by unfold Bv5;exact rfl
theorem Dc2{p:SP}{s:Sto}{g:SG}{R:A4}:Has (SL p s g++R) (SL p s g):=⟨R,Dq8 _⟩
theorem Cf9(L:A4)(hT:Tab L):Reads PP 10 #[] L (.b true):=by
 unfold Reads;refine c10.c ?_;refine B5 (As4 L) (exX,()) rfl ?_;refine G5 (A:=[]) (R:=L) (Db5 (4,8,64,1000,())) (Dq8 _) ?_;rintro _ A0 (⟨hn,-,-⟩|⟨-,m,rfl,pG⟩)
 ·exact absurd (by decide) hn
 have pG:FH m exD A0:=pG;refine⟨A0++L,Dq8 _,(some m.z,0,()),rfl,?_⟩;refine B5 (As4 _) (exX,()) rfl ?_;have okD:P6 exD:=B61 (Ct3 (c:=(4,8,64,1000,())) (by decide));refine G5 (R:=L) (Bd4 m exD A0 pG okD (by decide) exX 0) (Dq8 _) ?_;rintro _ _ (⟨e,he,-,-,-⟩|⟨s,p,g,he,rfl,-,rfl,X0,I0⟩)
 ·rw[ex0]at he;cases he
 rw[ex0]at he;injection he with zD _;obtain rfl:=Dq9 zD;refine⟨SL p exS0 g++L,Dq8 _,(some p.n.z,0,()),rfl,?_⟩;refine B5 (As4 _) (exX,()) rfl (B5 (Cg4 _ exX 0) (none,1,()) rfl ?_);have wF:=Bg6 okD;have I1:H4 Dc8 4096:=(H4.tick (I0.upto wF) 9).1;have I2:H4 Dc7 104096:=(I1.put kA v5).1;have I3:H4 Dc6 204096:=(I2.put kB v5).1;have I4:H4 Ce2 304096:=(I3.put kC v1).1;have I5:H4 Dn7 404096:=(I4.put kA v1).1;have I6:H4 Dc5 404096:=(I5.get kA).1;have I7:H4 Cr6 404097:=(I6.delete kA).1;have I8:H4 Dn6 404097:=I7.flush.1;have I9:H4 Bv5 404097:=(I8.get kA).1;refine W2 (fun _ L'=>L'=SL p exS0 g++L) ?_ ?_
 ·rintro _ _ rfl;refine G5 (B22 p exS0 g X0 I0.ok.bk 9) (R:=L) (Dq8 _) ?_;rintro _ _ ⟨g1,eX,X1,rfl⟩;rw[Dr3]at eX;rw[eX];have X1:SX p Dc8 g1:=X1;refine⟨SL p Dc8 g1++L,Dq8 _,(),rfl,?_⟩;refine C4 fun n1 _=>Bg2 Cx7 Cx6 ?_;obtain⟨c1,dV⟩: ∃c1:Nat×Obj,c1=zO n1 #[.int .u8 49,.int .u8 50,.int .u8 51,.int .u8 52,.int .u8 53]:=⟨_,rfl⟩;have dF: ∀{Y:A4},BSl (c1::Y) ⟨some n1.z,5,5⟩ v5:=Bd8 (l:=v5) 5 (by decide) (by rw[dV];exact Dq7);refine Au8 (As2 p Dc8 g1 X1 I1 (by decide) (c1::L) hT.cons kA ⟨some n1.z,5,5⟩ v5 dF) (by rw[dV];unfold zO;exact pc fun z=>by simp only[B4,C5];omega) ?_;rintro _ _ ⟨g2,rfl,X2,rfl⟩;rw[exe2]at X2⊢;refine⟨((Dc8.put kA v5).2,()),rfl,C4 fun n2 _=>Bg2 Cx7 Cx6 ?_⟩;obtain⟨c2,cK⟩: ∃c2:Nat×Obj,c2=zO n2 #[.int .u8 49,.int .u8 50,.int .u8 51,.int .u8 52,.int .u8 53]:=⟨_,rfl⟩;have dE: ∀{Y:A4},BSl (c2::Y) ⟨some n2.z,5,5⟩ v5:=Bd8 (l:=v5) 5 (by decide) (by rw[cK];exact Dq7);refine Au8 (As2 p Dc7 g2 X2 I2 (by decide) (c2::(c1::L)) hT.cons.cons kB ⟨some n2.z,5,5⟩ v5 dE) (by rw[cK];unfold zO;exact pc fun z=>by simp only[B4,C5];omega) ?_;rintro _ _ ⟨g3,rfl,X3,rfl⟩;rw[exe3]at X3⊢;refine⟨((Dc7.put kB v5).2,()),rfl,C4 fun n3 _=>Bg2 Cx7 Cx6 ?_⟩;obtain⟨c3,rV⟩: ∃c3:Nat×Obj,c3=zO n3 #[.int .u8 49]:=⟨_,rfl⟩;have vG: ∀{Y:A4},BSl (c3::Y) ⟨some n3.z,1,1⟩ v1:=Bd8 (l:=v1) 1 (by decide) (by rw[rV];exact Dq7);refine Au8 (As2 p Dc6 g3 X3 I3 (by decide) (c3::(c2::(c1::L))) hT.cons.cons.cons kC ⟨some n3.z,1,1⟩ v1 vG) (by rw[rV];unfold zO;exact pc fun z=>by simp only[B4,C5];omega) ?_;rintro _ _ ⟨g4,rfl,X4,rfl⟩;rw[exe4]at X4⊢;refine⟨((Dc6.put kC v1).2,()),rfl,?_⟩;refine B5 (Reads.has Dc2 (A05 p Ce2 g4 X4 kA)) (true,()) (congrArg Value.b ex4g) ?_;refine B5 (Reads.has Dc2 (Bd5 p Ce2 g4 X4 I4.ok kB)) (1,()) (congrArg (Value.i) ex4h) ?_;refine C4 fun n4 _=>Bg2 Cx7 Cx6 ?_;obtain⟨c4,vA⟩: ∃c4:Nat×Obj,c4=zO n4 #[.int .u8 49]:=⟨_,rfl⟩;have zQ: ∀{Y:A4},BSl (c4::Y) ⟨some n4.z,1,1⟩ v1:=Bd8 (l:=v1) 1 (by decide) (by rw[vA];exact Dq7);obtain⟨R,hR⟩: ∃R,R=c4::(c3::(c2::(c1::L))):=⟨_,rfl⟩;have dt:Tab R:=by rw[hR];exact hT.cons.cons.cons.cons
  refine Au8 (As2 p Ce2 g4 X4 I4 (by decide) R dt kA ⟨some n4.z,1,1⟩ v1 (by rw[hR];exact zQ)) (by rw[hR,vA];unfold zO;exact pc fun z=>by simp only[B4,C5];omega) ?_;rintro _ _ ⟨g5,rfl,X5,rfl⟩;rw[exe5]at X5⊢;refine⟨((Ce2.put kA v1).2,()),rfl,?_⟩;refine G5 (Bw7 p Dn7 g5 X5 I5.ok kA) (R:=R) (Dq8 _) ?_;rintro _ _ ⟨g6,u6,sg6,dz,X6,own6,rfl⟩;rw[Dr3]at dz;rw[dz];rw[exe6]at X6⊢;rw[ex6]at own6⊢;refine⟨SL p Dc5 g6++(sg6++R),pc fun z=>by simp only[B4];omega,(u6,0,()),rfl,?_⟩;refine G5 (A94 p Dc5 g6 X6 I6.ok (by decide) kA) (R:=sg6++R) (Dq8 _) ?_;rintro _ _ ⟨g7,dy,X7,rfl⟩;rw[Dr3]at dy;rw[dy];rw[exe7]at X7⊢;rw[ex7];refine⟨SL p Cr6 g7++(sg6++R),Dq8 _,(true,0,()),rfl,?_⟩;refine G5 (A03 X7 (Dt1 I7.ok.pl (by decide))) (R:=sg6++R) (Dq8 _) ?_;rintro _ _ ⟨u7,sg7,rfl,rfl,own7⟩;have hu7:u7.len=1:=by
   have:=own7.sl.els_len E3 (by decide);rw[exd7,Dq4 (by decide),ex7p]at this;exact this
  refine⟨SL p Cr6 g7++(sg7++(sg6++R)),pc fun z=>by simp only[B4];omega,(u7,()),rfl,?_⟩;obtain⟨R2,wO⟩: ∃R2,R2=sg7++(sg6++R):=⟨_,rfl⟩;rw[<-wO];have zW:Tab R2:=by rw[wO];exact dt.mono fun y hy=>by simp[hy]
  refine Au8 (Bm7 p Cr6 g7 X7 I7.ok (by decide) R2 zW) (Dq8 _) ?_;rintro _ _ ⟨g8,rfl,X8,rfl⟩;rw[exe8]at X8⊢;rw[ex8];refine⟨(0,()),rfl,?_⟩;refine G5 (Bw7 p Dn6 g8 X8 I8.ok kA) (R:=R2) (Dq8 _) ?_;rintro _ _ ⟨g9,u9,sg9,dx,X9,own9,rfl⟩;rw[Dr3]at dx;rw[dx];rw[exe9]at X9⊢;rw[ex9];obtain⟨L9,vO⟩: ∃L9,L9=SL p Bv5 g9++(sg9++R2):=⟨_,rfl⟩;have xX:L9.Perm (SL p Bv5 g9++(sg9++R2)):=by rw[vO]
  refine⟨L9,pc fun z=>by rw[vO];simp only[B4];omega,(u9,8,()),rfl,?_⟩;refine ifP ex2 (ifP ex3 (ifP ex4 (ifT rfl (ifP rfl (ifP ex5 ?_)))));refine Bv0 (l:=[49]) (own6.sl.mono fun y hy=>xX.symm.subset (by rw[wO];simp[hy])) ?_;refine ifP rfl (ifP rfl (ifT rfl (ifP rfl (ifP (show(u7.len:Int)=1 by rw[hu7];rfl) (ifP rfl ?_)))));have wL:Bv5.down=false:=exd9;have h9:Has L9 (SL p Bv5 g9):=⟨_,xX⟩;refine G5 (A03 X9 (Dt1 I9.ok.pl (by decide))) xX ?_;rintro _ _ ⟨u10,sg10,rfl,rfl,own10⟩;have xH:u10.len=0:=by
   have:=own10.sl.els_len E3 (by decide);rw[wL,Dq4 (by decide),show Bv5.pend.length=0 by kernel_rfl]at this;exact this
  obtain⟨L10,pF⟩: ∃L10,L10=SL p Bv5 g9++(sg10++(sg9++R2)):=⟨_,rfl⟩;have tJ:L10.Perm (SL p Bv5 g9++(sg10++(sg9++R2))):=by rw[pF]
  have h10:Has L10 (SL p Bv5 g9):=⟨_,tJ⟩;refine⟨L10,pc fun z=>by rw[pF];simp only[B4];omega,(u10,()),rfl,?_⟩;refine ifP (show(u10.len:Int)=0 by rw[xH];rfl) (ifP rfl ?_);refine B5 (Ca2 L10) (1,()) rfl (ifP rfl ?_);refine B5 (Reads.has h10 (Cf5 X9)) (2,()) (by rw[Dq4 (by rw[wL];decide),ex9q];rfl) (ifP rfl ?_);refine B5 (Reads.has h10 (Df9 X9)) (0,()) (by rw[Dq4 (by rw[wL];decide),ex9l];rfl) (ifP rfl ?_);refine B5 (Reads.has h10 (A90 X9)) (3808,()) (by rw[Dq4 (by rw[wL];decide),ex9t];rfl) ?_;refine .drop (A:=L) (J:=SL p Bv5 g9++(sg10++(sg9++(sg7++(sg6++(c4::(c3::(c2::[c1])))))))) ⟨rfl,rfl⟩ (pc fun z=>by have:=pcn tJ z;rw[wO,hR]at this;simp only[B4,C5,D5]at*;omega)
 ·intro j1 bP;exact ifP rfl (ifP rfl (ifP rfl (bP _ _ rfl)))
abbrev Bv7:=Int×ByteArray×(SlV×List UInt8)×Int×Int×Unit
def Ch8(x:Bv7):List Value:=[.i x.1,.w x.2.1,.slice x.2.2.1.1.a x.2.2.1.1.len x.2.2.1.1.cap,.i x.2.2.2.1,.i x.2.2.2.2.1]
theorem Ch7(x:Bv7):(Ch8 x).length=5:=rfl
structure A83(L:A4)(v:SlV)(l:List Bv7):Prop where
 sl:Sl L v 5 (l.flatMap Ch8)
 val: ∀x∈l,BSl L x.2.2.1.1 x.2.2.1.2
 rng: ∀x∈l,x.2.2.2.1<=9223372036854775807
theorem A83.mono{L R:A4}{v:SlV}{l:List Bv7}(h:A83 L v l)(hs: ∀p∈L,p∈R):A83 R v l:=⟨h.sl.mono hs,fun x hx=>Sl.mono (h.val x hx) hs,h.rng⟩
theorem A83.len{L:A4}{v:SlV}{l:List Bv7}(h:A83 L v l):v.len=l.length:=h.sl.els_len Ch7 (by decide)
def fewD(l:List Bv7)(most bytes:Int):Prop:=l.length<=most/\ ∀x∈l,x.2.1.size<=bytes/\x.2.2.1.2.length<=bytes
theorem few_cl(L:A4)(v:SlV)(l:List Bv7)(h:A83 L v l)(most bytes:Int)(hm:most<=1000):
  CallF PP 9 #[.slice v.a v.len v.cap,.i most,.i bytes] L fun r L'=>L'=L/\ ∃b:Bool,r= .b b/\(b=true->fewD l most bytes):=by
 refine(c9 v most bytes).c ?_;have hC:=h.len;refine W2 (fun _ L'=>L'=L/\ ∃i:Nat,i<=l.length/\((i:Int)<l.length->(i:Int)>most)/\ ∀x∈l.take i,x.2.1.size<=bytes/\x.2.2.1.2.length<=bytes) ?_ ?_
 ·rintro _ _ ⟨rfl,i,hi,h1,h2⟩;refine .of ⟨rfl,decide ((v.len:Int)<=most),rfl,fun hb=>?_⟩;have hb:=Dv5 hb;have:i=l.length:=by omega
  rw[this,Ds9]at h2;exact⟨by omega,h2⟩
 ·intro j1 bP;refine G7 (fun z' z L'=> ∃i:Nat,z=((i:Int),())/\z'=l.length-i/\i<=l.length/\L'=L/\ ∀x∈l.take i,x.2.1.size<=bytes/\x.2.2.1.2.length<=bytes) l.length ⟨0,rfl,rfl,by omega,rfl,by simp⟩ ?_;rintro z' z L1 ⟨i,rfl,rfl,hi,eX,hx⟩;rw[eX];dsimp only;refine W2 (fun _ L'=>L'=L/\i<l.length/\(i:Int)<=most) ?_ ?_
  ·rintro _ _ ⟨rfl,hJ,gL⟩;have kI:l[i]∈l:=Dr7 hJ;have fG:=h.val l[i] kI;have bW:l.take (i+1)=l.take i++[l[i]]:=Ds4 hJ;refine W5 Ch7 (by decide) h.sl rfl hJ fun a ha=>?_;generalize l[i]=y at ha fG bW;refine A6 y.2.1 (ha.one 1 rfl) (B6 (fun _=>.of ⟨rfl,false,rfl,fun hb=>by cases hb⟩) fun hk=>?_);refine A6 y.2.2.1.1 (ha.one 2 rfl) (B6 (fun _=>.of ⟨rfl,false,rfl,fun hb=>by cases hb⟩) fun hv=>?_);have cR:=fG.len;refine D6 (by omega) ⟨l.length-(i+1),by omega,i+1,rfl,rfl,by omega,rfl,?_⟩;rw[bW];intro q hq;rcases Dr5.1 hq with hq|hq
   ·exact hx q hq
   ·rw[Dr2.1 hq];exact⟨by omega,by omega⟩
  ·intro j2 fB;refine B6 (fun(hO:(i:Int)<v.len)=>?_) (fun(aS: ¬(i:Int)<v.len)=>bP _ _ ⟨rfl,i,hi,fun hq=>by omega,hx⟩);exact B6 (fun(bS:(i:Int)<=most)=>fB _ _ ⟨rfl,by omega,bS⟩) (fun(yY: ¬(i:Int)<=most)=>bP _ _ ⟨rfl,i,hi,fun _=>by omega,hx⟩)
def Al4(x:Av2)(s:Sto)(a:Bv7)(now:Int):Sto:=
 if a.1=0 then(s.put a.2.1 a.2.2.1.2).1 else if a.1=1 then(s.get a.2.1).1 else if a.1=2 then(s.delete a.2.1).1 else if a.1=3 then s.flush.1 else if a.1=4 then s.tick now else
 if a.1=5 then s.dev (arm s.d a.2.2.2.1 a.2.2.2.2.1)else if a.1=6 then(Ag9 x (U3 s.d) now).1.getD s else s
structure Dq0(x:Av2)(p:SP)(s:Sto)(g:SG)(M:Nat)(k:Int):Prop where
 X:SX p s g
 iv:H4 s M
 wr:WR s k
 cfg:Bu0 x s.d
 sc:s.sc=Ar9 x s.d
abbrev scV(x:Av2):Value:=.agg (ki11 x)
theorem B80{x:Av2}{d d':Dev}(h:Bu0 x d)(e:d'.c=d.c):Bu0 x d':=by unfold Bu0 at*;rw[e];exact h
theorem scOf_c(x:Av2){d d':Dev}(e:d'.c=d.c):Ar9 x d'=Ar9 x d:=by unfold Ar9;rw[e]
theorem Cu5(d:Dev)(n k:Int):(arm d n k).c=d.c/\(arm d n k).bs=d.bs/\(arm d n k).down=d.down/\(arm d n k).torn=d.torn/\(arm d n k).bytes=d.bytes:=by unfold arm;split<;>exact⟨rfl,rfl,rfl,rfl,rfl⟩
theorem H4.armed{s:Sto}{M:Nat}(h:H4 s M){n:Int}(hn:n<=9223372036854775807)(k:Int):H4 (s.dev (arm s.d n k)) M:=by
 obtain⟨e1,e2,e3,e4,-⟩:=Cu5 s.d n k;have ok:=h.ok;refine⟨{ok with dv:=arm_ok ok.dv hn,dn:=?_,few:=?_,cfg:=?_,ssl:=?_,ssd:=?_},h.q⟩
 ·exact ok.dn.trans e3.symm
 ·show(arm s.d n k).torn.length+(if(arm s.d n k).down=true then 0 else 1)<=1000;rw[e3,e4];exact ok.few
 ·exact e1.trans ok.cfg
 ·show s.ss.length=(arm s.d n k).bs.length;rw[e2];exact ok.ssl
 ·show s.down=false-> ∀(i:Nat) b,(arm s.d n k).bs[i]?=some b->_;rw[e2];exact ok.ssd
def SLr(p:SP)(s:Sto)(g:SG):A4:=stO p s g::(kO p s::(mO p g::(gO p g::(g.Ab++(rns g.ns++(rns g.on.toList++(g.pseg++(g.Aq++g.Ai))))))))
theorem A66(p:SP)(s:Sto)(g:SG)(R:A4):(SL p s g++R).Perm (g.Ad++(SLr p s g++R)):=by unfold SL SLr;exact pc fun z=>by simp only[B4,C5];omega
theorem Dh3{x:Av2}{p:SP}{s:Sto}{g:SG}{M:Nat}{k:Int}(h:Dq0 x p s g M k)(hM:M<=800000000)(hk:k<=900)(R:A4)(hT:Tab R)(a:Bv7)(hu:BSl R a.2.2.1.1 a.2.2.1.2)(hn:a.2.2.2.1<=9223372036854775807)(now:Int):
  CallF PP 11 #[scV x,.p p.n,.p p.m,.agg #[.i a.1,.w a.2.1,.slice a.2.2.1.1.a a.2.2.1.1.len a.2.2.1.1.cap,.i a.2.2.2.1,.i a.2.2.2.2.1],.i now] (SL p s g++R)
  fun r L'=> ∃p' g' J,r= .p p'.n/\p'.m=p.m/\L'.Perm (SL p' (Al4 x s a now) g'++(R++J))/\Dq0 x p' (Al4 x s a now) g' (M+100000) (k+if a.1=6 then 1 else 0):=by
 refine(c11 x (some p.n.z) (some p.m.z) (a.1,a.2.1,a.2.2.1.1,a.2.2.2.1,a.2.2.2.2.1,()) now).c ?_;have mk: ∀{s':Sto} {g':SG},SX p s' g'->H4 s' (M+100000)->WR s' k->s'.sc=s.sc->Dq0 x p s' g' (M+100000) k:=fun X' i w e=>by
  have hc:=X'.cfg.trans ((congrArg SC.c e).trans h.X.cfg.symm);exact⟨X',i,w,B80 h.cfg hc,by rw[e,h.sc,scOf_c x hc]⟩
 unfold Al4;refine B6 (fun(h0:a.1=0)=>?_) (fun(h0: ¬a.1=0)=>?_)
 ·rw[Dq5 h0,Dq4 (show¬a.1=6 by omega),Dz6];refine Au8 (As2 p s g h.X h.iv (by omega) R hT a.2.1 a.2.2.1.1 a.2.2.1.2 hu) (Dq8 _) ?_;rintro _ _ ⟨g2,rfl,X2,rfl⟩;have i2:=h.iv.put a.2.1 a.2.2.1.2;exact⟨((s.put a.2.1 a.2.2.1.2).2,()),rfl,.of ⟨p,g2,[],rfl,rfl,by simp,mk X2 i2.1 (h.wr.put h.iv _ _) i2.2⟩⟩
 rw[Dq4 h0];refine B6 (fun(h1:a.1=1)=>?_) (fun(h1: ¬a.1=1)=>?_)
 ·rw[Dq5 h1,Dq4 (show¬a.1=6 by omega),Dz6];refine G5 (Bw7 p s g h.X h.iv.ok a.2.1) (R:=R) (Dq8 _) ?_;rintro _ _ ⟨g2,u,sg,rfl,X2,-,rfl⟩;have i2:=h.iv.get a.2.1;exact⟨_,Dq8 _,(u,(s.get a.2.1).2.2,()),rfl,.of ⟨p,g2,sg,rfl,rfl,pc fun z=>by simp only[B4,D5];omega,mk X2 (i2.1.upto (by omega)) (h.wr.get _) i2.2⟩⟩
 rw[Dq4 h1];refine B6 (fun(h2:a.1=2)=>?_) (fun(h2: ¬a.1=2)=>?_)
 ·rw[Dq5 h2,Dq4 (show¬a.1=6 by omega),Dz6];refine G5 (A94 p s g h.X h.iv.ok (by omega) a.2.1) (R:=R) (Dq8 _) ?_;rintro _ _ ⟨g2,rfl,X2,rfl⟩;have i2:=h.iv.delete a.2.1;exact⟨_,Dq8 _,((s.delete a.2.1).2.1,(s.delete a.2.1).2.2,()),rfl,.of ⟨p,g2,[],rfl,rfl,pc fun z=>by simp only[B4,D5];omega,mk X2 (i2.1.upto (by omega)) (h.wr.delete _) i2.2⟩⟩
 rw[Dq4 h2];refine B6 (fun(h3:a.1=3)=>?_) (fun(h3: ¬a.1=3)=>?_)
 ·rw[Dq5 h3,Dq4 (show¬a.1=6 by omega),Dz6];refine Au8 (Bm7 p s g h.X h.iv.ok (by omega) R hT) (Dq8 _) ?_;rintro _ _ ⟨g2,rfl,X2,rfl⟩;have i2:=h.iv.flush;exact⟨(s.flush.2,()),rfl,.of ⟨p,g2,[],rfl,rfl,by simp,mk X2 (i2.1.upto (by omega)) (h.wr.flush h.iv) i2.2⟩⟩
 rw[Dq4 h3];refine B6 (fun(h4:a.1=4)=>?_) (fun(h4: ¬a.1=4)=>?_)
 ·rw[Dq5 h4,Dq4 (show¬a.1=6 by omega),Dz6];refine G5 (B22 p s g h.X h.iv.ok.bk now) (R:=R) (Dq8 _) ?_;rintro _ _ ⟨g2,rfl,X2,rfl⟩;have i2:=h.iv.tick now;exact⟨_,Dq8 _,(),rfl,.of ⟨p,g2,[],rfl,rfl,pc fun z=>by simp only[B4,D5];omega,mk X2 (i2.1.upto (by omega)) (h.wr.tick _) i2.2⟩⟩
 rw[Dq4 h4];refine B6 (fun(h5:a.1=5)=>?_) (fun(h5: ¬a.1=5)=>?_)
 ·rw[Dq5 h5,Dq4 (show¬a.1=6 by omega),Dz6];refine G5 (Dd8 p.m s.d g.Ad h.X.dev a.2.2.2.1 a.2.2.2.2.1) (R:=SLr p s g++R) (A66 p s g R) ?_;rintro _ A' ⟨rfl,cM⟩;have X2:SX p (s.dev (arm s.d a.2.2.2.1 a.2.2.2.2.1)) {g with Ad:=A'}:=⟨(Cu5 s.d _ _).1.trans h.X.cfg,cM,h.X.blk,h.X.que,h.X.gho,h.X.idx,h.X.mp,h.X.rs,h.X.op,h.X.ok,h.X.pd⟩;exact⟨_,Dq8 _,(),rfl,.of ⟨p,{g with Ad:=A'},[],rfl,rfl,by rw[Dr3];exact(A66 p (s.dev (arm s.d a.2.2.2.1 a.2.2.2.2.1)) {g with Ad:=A'} R).symm,mk X2 ((h.iv.armed hn _).upto (by omega)) (h.wr.armed _ _) rfl⟩⟩
 rw[Dq4 h5];refine B6 (fun(h6:a.1=6)=>?_) (fun(h6: ¬a.1=6)=>?_)
 ·rw[Dq5 h6,Dq5 h6];refine G5 (Ca7 p.m s.d g.Ad h.X.dev) (R:=SLr p s g++R) (A66 p s g R) ?_;rintro _ A' ⟨rfl,cM⟩;refine⟨_,Dq8 _,(),rfl,?_⟩;have okr:=As9 h.iv.ok.dv;obtain⟨⟨us,w1,-⟩,w2⟩:=h.wr.restarted;have hc:Bu0 x (U3 s.d):=B80 h.cfg rfl;obtain⟨s2,e1,e2,e3,e4,e5,-⟩:=B46 w1 okr rfl w2 hc now;have bR:(U3 s.d).torn.length<=999:=by
   unfold TN at w2;rw[show(U3 s.d).down=false from rfl,Dq4 (by decide)]at w2;omega
  refine G5 (Bd4 p.m (U3 s.d) A' cM okr bR x now) (R:=SLr p s g++R) (Dq8 _) ?_;rintro _ _ (⟨e,he,aE,-,-⟩|⟨s3,p3,g3,he,rfl,hm,rfl,X3,I3⟩)
  ·rw[e1]at he;exact absurd (congrArg Prod.snd he).symm aE
  ·rw[e1]at he;obtain rfl:s2=s3:=Dq9 (congrArg Prod.fst he);rw[e1];refine⟨_,Dq8 _,(some p3.n.z,0,()),rfl,ifP rfl (.of ⟨p3,g3,SLr p s g,rfl,hm,pc fun z=>by simp only[B4,D67];omega,X3,?_,e2.wr,?_,?_⟩)⟩
   ·exact I3.upto (by have:=Bg6 okr;omega)
   ·show Bu0 x s2.d;rw[e5];exact hc
   ·show s2.sc=Ar9 x s2.d;rw[e3,e5]
 rw[Dq4 h6,Dq4 h6,Dz6];refine G5 (B27 p s g h.X h.iv.ok a.2.1) (R:=R) (Dq8 _) ?_;rintro _ _ ⟨u,sg,rfl,-,rfl⟩;exact⟨_,Dq8 _,(u,(s.peek a.2.1).2,()),rfl,.of ⟨p,g,sg,rfl,rfl,pc fun z=>by simp only[B4];omega,mk h.X (h.iv.upto (by omega)) h.wr rfl⟩⟩
theorem Df8(x:Av2):CallF PP 8 #[scV x] [] fun r L'=>(∃J,r= .t #[.q none,.q none]/\L'=J)\/(∃p s g J,r= .t #[.p p.n,.p p.m]/\L'.Perm (SL p s g++J)/\Dq0 x p s g 4096 0/\s.down=false/\s.bk=Al7 x.2.2.2.2.2.2.2.2.1 x.2.2.2.2.2.2.2.2.2.1 0 0/\s.d.bytes=0/\(s.d.c.B:Int)=x.1/\Ag9 x (fresh (cfg (x.1,x.2.1,x.2.2.1,x.2.2.2.1,()))) 0=(some s,0)/\s.d=fresh (cfg (x.1,x.2.1,x.2.2.1,x.2.2.2.1,()))):=by
 refine(c8 x).c ?_;refine Au8 (Db5 (x.1,x.2.1,x.2.2.1,x.2.2.2.1,())) (Dq8 _) ?_;rintro _ A0 (⟨-,rfl,rfl⟩|⟨hr,m,rfl,pG⟩)
 ·exact⟨(none,30,()),rfl,ifN (by decide) (.of (.inl ⟨[],rfl,rfl⟩))⟩
 refine⟨(some m.z,0,()),rfl,ifP rfl ?_⟩;have nS:=Ct3 hr;have okD:=B61 nS;obtain⟨w1,w2⟩:=Cq2 nS;refine Au8 (Bd4 m _ A0 pG okD (by show(0:Nat)<=999;decide) x 0) (Dq8 _) ?_;rintro _ _ (⟨e,he,aE,rfl,rfl⟩|⟨s3,p3,g3,he,rfl,hm,rfl,X3,I3⟩)
 ·exact⟨(none,e,()),rfl,ifN aE (.of (.inl ⟨_,rfl,rfl⟩))⟩
 ·have hc:Bu0 x (fresh (cfg (x.1,x.2.1,x.2.2.1,x.2.2.2.1,()))):=Dy3 fun hn=>by
   unfold Ag9 at he;rw[Dq4 hn]at he;cases he
  obtain⟨s2,e1,e2,e3,e4,e5,e6,-⟩:=B46 w1 okD rfl w2 hc 0;rw[e1]at he;obtain rfl:s2=s3:=Dq9 (congrArg Prod.fst he);refine⟨(some p3.n.z,0,()),rfl,ifP rfl (.of (.inr ⟨p3,s2,g3,[],?_,by simp,⟨X3,I3.upto (Bg6 okD),e2.wr,by rw[e5];exact hc,by rw[e3,e5]⟩,e4,e6,by rw[e5];rfl,by rw[e5];have:=hc.1;simp only[Dx0]at this;exact this.1,e1,e5⟩))⟩;rw[hm]
abbrev saWf(W:World)(x:Bv7):Prop:=S0 .i64 x.1/\x.2.1.size<=maxLen/\C86 W (fun b=>[bv b]) (fun _=>True) 1 x.2.2.1/\S0 .i64 x.2.2.2.1/\S0 .i64 x.2.2.2.2.1/\True
theorem Cz5{W:World}{a:SlV}{l:List Bv7}(w:C86 W Ch8 (saWf W) 5 (a,l)):A83 (Cd6 W) a l:=⟨w.sl,fun x hx=>(w.all x hx).2.2.1.bytes,fun x hx=>(Bl5 (w.all x hx).2.2.2.1).2⟩
abbrev RCfg:=(Int×Int×Int×Int×Unit)×Int×Int×Int×Int×Int×Int×Int×Unit
def scR(a0:RCfg):Av2:=(a0.1.1,a0.1.2.1,a0.1.2.2.1,a0.1.2.2.2.1,a0.2.1,a0.2.2.1,a0.2.2.2.1,a0.2.2.2.2.1,a0.2.2.2.2.2.1,a0.2.2.2.2.2.2.1,a0.2.2.2.2.2.2.2.1,())
abbrev scWf(a0:RCfg):Prop:=(S0 .i64 a0.1.1/\S0 .i64 a0.1.2.1/\S0 .i64 a0.1.2.2.1/\S0 .i64 a0.1.2.2.2.1/\True)/\S0 .i64 a0.2.1/\S0 .i64 a0.2.2.1/\S0 .i64 a0.2.2.2.1/\S0 .i64 a0.2.2.2.2.1/\S0 .i64 a0.2.2.2.2.2.1/\S0 .i64 a0.2.2.2.2.2.2.1/\S0 .i64 a0.2.2.2.2.2.2.2.1/\True
theorem Db3{d:Dev}(oW:DB d){x:Av2}{now:Int}{s:Sto}(h:Ag9 x d now=(some s,0)):SBk s:=by
 unfold Ag9 at h;split at h
 ·split at h
  ·cases h
  ·cases hs:Bf1 (Ar9 x d) d now with
   |none=>rw[hs]at h;cases h
   |some s2=>
    rw[hs]at h;obtain rfl:s2=s:=Dq9 (congrArg Prod.fst h);unfold Bf1 at hs;cases hr:Ah1 (Aw9 d) ((U6 d).map Reg.b)with
    |none=>rw[hr]at hs;cases hs
    |some r=>
     rw[hr]at hs;have hs:=Dq9 hs;have hk: ∀(l:List LE) (s:Sto),SBk s->SBk (Ac7 l s):=fun l=>by
      induction l with
      |nil=>exact fun s h=>h
      |cons y t ih=>exact fun s h=>ih (s.list y.1 y.2) (h.congr rfl rfl rfl)
     rw[<-hs];refine hk _ _ ⟨oW,fun q hq=>?_,fun o ho=>by cases ho⟩;obtain⟨y,hy,rfl⟩:=Dt4.1 (show q∈(H0 d).map Bo0 from hq);exact Da0 oW hy
 ·cases h
theorem Cq3(c:Cfg):DB (fresh c):=fun x k h=>by
 obtain⟨h0,hi,e⟩:=U9 h;have hm:k∈(fresh c).bs:=by rw[<-e];exact Dr7 hi
 have hk:k=⟨List.replicate c.P (blk c.S),0,0,false⟩:=Dv8 hm;have hp: ∀(q:Nat) pg,k.pages[q]?=some pg->(E0 pg).2.2≠0:=fun q pg aY=>by
  rw[hk]at aY;have:pg∈List.replicate c.P (blk c.S):=Dx2 aY;rw[Dv8 this];exact An9 _
 exact⟨fun q pg aY ok=>absurd ok (hp q pg aY),fun q pg _ aY=>hp q pg aY⟩
theorem Dh4{x:Av2}{s:Sto}{a:Bv7}{now:Int}(h6:a.1≠6)(hd:(Al4 x s a now).down=false):s.down=false:=by
 cases hs:s.down with
 |false=>rfl
 |true=>
  have ha: ∀key,s.asked key≠0:=fun key=>by unfold Sto.asked;rw[Dq5 hs];decide
  have:(Al4 x s a now).down=true:=by
   unfold Al4
   repeat' split
   ·unfold Sto.put;rw[Dq5 (ha _)];exact hs
   ·unfold Sto.get;rw[Dq5 (ha _)];exact hs
   ·unfold Sto.delete;rw[Dq5 (ha _)];exact hs
   ·unfold Sto.flush;rw[Dq5 hs];exact hs
   ·unfold Sto.tick;rw[Dq5 hs];exact hs
   ·exact hs
   ·exact hs
  rw[this]at hd;cases hd
theorem sAct_B{x:Av2}{s:Sto}{M:Nat}{a:Bv7}{now:Int}(iv:H4 s M)(h:SBk s)(hb:HB s)(h4:a.1≠4)(h6:a.1≠6):BR s (Al4 x s a now):=by
 unfold Al4;split
 ·exact h.put iv hb _ _
 split
 ·exact h.get _
 split
 ·exact h.delete _
 split
 ·exact h.flush iv hb
 split
 ·obtain⟨e1,e2,e3,e4,e5⟩:=Cu5 s.d a.2.2.2.1 a.2.2.2.2.1;refine⟨⟨h.db.congr e2 e1,fun r hr=>(h.rs r hr).congr e2,fun o ho=>⟨(h.op o ho).1.congr e2,(h.op o ho).2⟩⟩,?_,?_,rfl,rfl,rfl⟩
  ·show s.d.bytes<=(arm s.d a.2.2.2.1 a.2.2.2.2.1).bytes;rw[e5];exact Du5 _
  ·show(arm s.d a.2.2.2.1 a.2.2.2.2.1).bytes+s.bk.tokens<=_;rw[e5];exact Du5 _
 ·exact h.br
section
variable {c:Av2} {s:Sto} {now:Int} {ts bs:List Int}
end
section
variable {s:Sto} {M:Nat} {k:Int}
theorem Cl5(s:Sto)(p:It)(n beside:Int):(s.move p n beside).1.epoch=s.epoch:=by
 unfold Sto.move;dsimp only;split
 ·rfl
 ·split
  ·rfl
  ·split
   ·rfl
   ·have:=(Mv.write s 2 (J5 (A9 s.d p).1 (A9 s.d p).2.1 (J8 s.sc.c)).1).epoch;split<;>exact this
theorem Ay3(b ep beside:Int): ∀(l:List It) (s:Sto),(Sto.moves b ep beside l s).1.epoch=s.epoch
 |[],s=>rfl
 |x::r,s=>by
  unfold Sto.moves;split
  ·exact Ay3 b ep beside r s
  ·dsimp only;split
   ·exact Cl5 ..
   ·exact(Ay3 b ep beside r _).trans (Cl5 ..)
theorem At0(s:Sto)(r:Reg)(n:Int):(s.reclaim r n).1.epoch=s.epoch:=by
 unfold Sto.reclaim;dsimp only;split
 ·exact Ay3 ..
 ·rw[Bi9];exact Ay3 ..
theorem B64(n:Int): ∀(j:Nat) (s:Sto),(Sto.frees n j s).1.epoch=s.epoch
 |0,s=>rfl
 |j+1,s=>by
  unfold Sto.frees;split
  ·split
   ·rfl
   ·dsimp only;split
    ·exact At0 ..
    ·exact(B64 n j _).trans (At0 ..)
  ·rfl
theorem Cw5(s:Sto)(kind:Int)(l:List (List UInt8))(h0:(s.write kind l).2.2=0):(s.write kind l).1.op=s.op.map fun o=>o.grown kind l.length:=by
 unfold Sto.write at h0⊢;split
 ·rename_i ho;rw[ho];rfl
 ·rename_i o ho;rw[ho]at h0;dsimp only at h0⊢;split
  ·rename_i h1;rw[Dq5 h1]at h0;exact absurd h0 h1
  ·rw[ho];rfl
theorem Cl4(h:SBk s)(ok:SOk s M){b ep:Int}{x:It}(h2:x.1=2)(hT:Y5 s.d b [x]){beside:Int}(hf:s.fits beside=true)(h0:(s.move (b,x.2.1,ep,()) x.2.2.1 beside).2=0):(s.move (b,x.2.1,ep,()) x.2.2.1 beside).1.fits beside=true:=by
 unfold Sto.move at h0⊢;dsimp only at h0⊢;split
 ·exact hf
 ·rename_i fN;rw[Dq4 fN]at h0;rw[Du4]at fN;have nR:=Dt6.1 fN.1;split
  ·exact hf
  ·rename_i hc;rw[Dq4 hc]at h0;rw[Du4,Du4]at hc;split
   ·exact hf
   ·rename_i aR;rw[Dq4 aR]at h0;have hS:=ok.S;obtain⟨kb,pg,f1,f2,f3,f4,f5⟩:=Ak7 ok.dv (p:=(b,x.2.1,ep,())) nR;have bS:(E0 pg).1.2.2.1<=x.2.2.1:=hT kb f1 x (by simp) h2 pg f2 f3;have bN:=((h.db b kb f1).pg _ pg f2 f3).1 f4;have hC:=B76 (c:=J8 s.sc.c) bN.1 (by rw[A14 ok,<-ok.cfg];have:=ok.dv.c.s;rw[D98 (by omega)];exact f5);have jH:s.fits (x.2.2.1+beside)=true:=by simpa using hc.2.1
    have bM:=Cw5 s 2 (J5 (A9 s.d (b,x.2.1,ep,())).1 (A9 s.d (b,x.2.1,ep,())).2.1 (J8 s.sc.c)).1;have cT:=Bc8 s 2 (J5 (A9 s.d (b,x.2.1,ep,())).1 (A9 s.d (b,x.2.1,ep,())).2.1 (J8 s.sc.c)).1;generalize s.write 2 (J5 (A9 s.d (b,x.2.1,ep,())).1 (A9 s.d (b,x.2.1,ep,())).2.1 (J8 s.sc.c)).1=w at h0 bM cT;split
    ·rename_i hw;unfold Sto.fits at jH⊢;show(match w.1.op with|none=>false|some o=>decide (o.nx+beside<w.1.sc.c.P))=true;rw[bM hw,cT];cases ho:s.op with
     |none=>rw[ho]at jH;cases jH
     |some o=>
      rw[ho]at jH;have jH:=Dv5 jH;refine Dt2 ?_;show o.nx+_+beside<_;omega
    ·rename_i hw;rw[Dq4 hw]at h0;exact absurd h0 hw
theorem At6{b ep beside:Int}(dW:0<=beside): ∀(l:List It) {s:Sto} {M:Nat},SBk s->SOk s M->s.down=false->HB s->Y5 s.d b l->(∀o,s.op=some o->b≠o.b)->s.fits beside=true->(Sto.moves b ep beside l s).2=0->(Sto.moves b ep beside l s).1.fits beside=true
 |[],s,M,h,ok,hd,hb,hT,ho,hf,h0=>hf
 |x::r,s,M,h,ok,hd,hb,hT,ho,hf,h0=>by
  have mI:Y5 s.d b r:=fun k hk y hy=>hT k hk y (Dr6 _ hy);unfold Sto.moves at h0⊢;split
  ·rename_i hx;rw[Dq5 hx]at h0;exact At6 dW r h ok hd hb mI ho hf h0
  ·rename_i hx;rw[Dq4 hx]at h0;have hx:=Dt6.1 hx;have iZ:Y5 s.d b [x]:=fun k hk y hy=>hT k hk y (by rw[Dr2.1 hy];simp);have h1:=ok.move hd (b,x.2.1,ep,()) x.2.2.1 beside;obtain⟨h2,h3⟩:=h.move ok hd hb (ep:=ep) hx iZ dW;have h4:=Cl4 h ok (ep:=ep) hx iZ hf;dsimp only at h0⊢;generalize s.move (b,x.2.1,ep,()) x.2.2.1 beside=w at h1 h2 h3 h4 h0;split
   ·rename_i hw;rw[Dq5 hw]at h0;exact absurd h0 hw
   ·rename_i hw;rw[Dq4 hw]at h0;have hw:=Dt6.1 hw;refine At6 dW r h2.sb h1.1 (h1.2.1 hw) (h2.by'.hb hb) (h3 b r mI ho) (fun o' bU e=>?_) (h4 hw) h0;have:=h1.2.2.ob;rw[bU]at this;cases hq:s.op with
    |none=>rw[hq]at this;cases this
    |some o2=>
     rw[hq]at this;exact ho o2 hq (e.trans (Dq9 this))
theorem Bo1(h:SBk s)(ok:SOk s M)(hd:s.down=false)(hb:HB s){r:Reg}{t:List Reg}(hr:s.rs=r::t){beside:Int}(dW:0<=beside)(hf:s.fits beside=true)(h0:(s.reclaim r beside).2=0):(s.reclaim r beside).1.fits beside=true:=by
 have eG:r∈s.rs:=by rw[hr];simp
 have h3:=At6 (b:=r.b) (ep:=r.ep) dW r.l h ok hd hb (h.rs r eG) (fun o ho=>ok.opne ho eG) hf;unfold Sto.reclaim at h0⊢;dsimp only at h0⊢;split
 ·rename_i hw;rw[Dq5 hw]at h0;exact absurd h0 hw
 ·rename_i hw;have:=h3 (Dt6.1 hw);unfold Sto.fits at this⊢;obtain⟨-,b2,-,b4⟩:=Bj0 {(Sto.moves r.b r.ep beside r.l s).1 with pend:=(Sto.moves r.b r.ep beside r.l s).1.pend.filter fun p=> !decide (p.1=r.b)} r.b;rw[b2,b4];exact this
theorem Bb1{n:Int}(hn:0<=n): ∀(j:Nat) {s:Sto} {M:Nat},SBk s->SOk s M->s.down=false->HB s->s.fits n=true->(Sto.frees n j s).2=0->(Sto.frees n j s).1.fits n=true
 |0,s,M,h,ok,hd,hb,hf,h0=>hf
 |j+1,s,M,h,ok,hd,hb,hf,h0=>by
  unfold Sto.frees at h0⊢;split
  ·rename_i bQ;rw[Dq5 bQ]at h0;split
   ·exact hf
   ·rename_i r t hr;rw[hr]at h0;have h1:=ok.reclaim hd hr n;have h2:=h.reclaim ok hd hb hr hn;have h3:=Bo1 h ok hd hb hr hn hf;dsimp only at h0⊢;generalize s.reclaim r n=w at h1 h2 h3 h0;split
    ·rename_i hw;rw[Dq5 hw]at h0;exact absurd h0 hw
    ·rename_i hw;rw[Dq4 hw]at h0;have hw:=Dt6.1 hw;exact Bb1 hn j h2.sb h1.1 (h1.2.1 hw).1 (h2.by'.hb hb) (h3 hw) h0
  ·exact hf
theorem Dk8(h:SBk s)(ok:SOk s M)(hd:s.down=false)(hb:HB s){n:Int}(hn:0<=n)(rJ:1+n<s.sc.c.P):(s.more n).1.epoch=s.epoch\/((s.more n).1.epoch=s.epoch+1/\((s.more n).2=0->(s.more n).1.fits n=true)):=by
 have hS:=ok.S;unfold Sto.more;split
 ·exact .inl rfl
 rename_i bE;have bE:=An2 (s:=s) (n:=n+1+s.sealN) (by simpa using bE);rw[Dw3,Dw3]at bE;have rK:0<=n*(s.sc.c.S:Int):=Dx8 hn (by omega);split
 ·exact .inl rfl
 rename_i bX;split
 ·split
  ·exact .inl rfl
  ·exact .inl (At0 ..)
 rename_i bB;obtain⟨s1,s2,s3,s4,s5,s6,s7⟩:=ok.seals hd;obtain⟨w1,w2⟩:=h.seals ok hb (by omega);dsimp only;generalize s.seals=w at s1 s2 s3 s4 s5 s6 s7 w1 w2;split
 ·exact .inl s6
 rename_i h0;have eF:=s2 (by simpa using h0);have bQ:w.1.free≠0:=by
  unfold Sto.free at bB⊢;rw[s5,s4];exact bB
 obtain⟨p1,p2⟩:=Aa7 bQ;obtain⟨z,hz,z1,z2,z3,z4,z5,z6⟩:=s1.picks eF s3 bQ;have gA:BR w.1 z.1:=by
  rw[hz];split
  ·exact SBk.erase w1.sb s1 eF (D8 p1).1
  ·exact w1.sb.br
 rw[<-hz];clear hz;generalize E2 w.1.ss w.1.us=pk at z6 p1 p2;have gM:=w1.trans gA;have vU:z.1.epoch=s.epoch:=z4.trans s6;split
 ·exact .inl vU
 rename_i cY;obtain⟨y1,y2,y3,y4,y5⟩:=z6 (by simpa using cY);split
 ·exact .inl vU
 rename_i cO;obtain⟨f1,f2⟩:=y5 cO;have iB:=SBk.begins gA.sb z1 (gM.by'.hb hb) z2 (D8 f1).2 (by rw[z3,z5,s7,w2];omega);have aA:=z1.begins y1 z2 (by rw[z4,s6];omega) f1;have hy:((z.1.begins pk.2.2).2≠0->(z.1.begins pk.2.2).1.epoch=z.1.epoch)/\((z.1.begins pk.2.2).2=0->(z.1.begins pk.2.2).1.epoch=z.1.epoch+1/\(z.1.begins pk.2.2).1.fits n=true):=by
  unfold Sto.begins;dsimp only;split
  ·rename_i h1;exact⟨fun _=>rfl,fun h2=>absurd h2 h1⟩
  ·refine⟨fun h2=>absurd rfl h2,fun _=>⟨rfl,?_⟩⟩;have hp:z.1.sc=s.sc:=z5.trans s7;show decide ((1:Int)+n<z.1.sc.c.P)=true;rw[hp];exact Dt2 rJ
 generalize z.1.begins pk.2.2=y at iB aA hy;split
 ·rename_i dY;exact .inl ((hy.1 dY).trans vU)
 rename_i dY;have dY:=Dt6.1 dY;obtain⟨e1,e2⟩:=hy.2 dY;refine .inr ⟨by rw[B64,e1,vU],fun h3=>Bb1 hn _ iB.sb aA.1 (aA.2 dY).1 (iB.by'.hb (gM.by'.hb hb)) e2 h3⟩
theorem Bx2{n:Int}(hn:0<=n): ∀(j:Nat) {s:Sto} {M:Nat},SBk s->SOk s M->s.down=false->HB s->1+n<s.sc.c.P->(Sto.room n j s).1.epoch<=s.epoch+1
 |0,s,M,h,ok,hd,hb,hP=>by show s.epoch<=_;omega
 |j+1,s,M,h,ok,hd,hb,hP=>by
  rw[M3];split
  ·split<;>(show s.epoch<=_;omega)
  ·have h1:=ok.more hd hn;have h2:=h.more ok hd hb hn;have h3:=Dk8 h ok hd hb hn hP;generalize s.more n=w at h1 h2 h3;split
   ·rcases h3 with h3|⟨h3,-⟩<;>omega
   ·rename_i h0;have h0:=Dt6.1 h0;rcases h3 with h3|⟨h3,h4⟩
    ·have:=Bx2 hn j h2.sb h1.1 (h1.2.1 h0).1 (h2.by'.hb hb) (by rw[h1.2.2];exact hP);omega
    ·have hf:=h4 h0;cases j with
     |zero=>show w.1.epoch<=_;omega
     |succ j=>
      rw[M3,Dq5 hf];split<;>(show w.1.epoch<=_;omega)
theorem De2(h:SBk s)(ok:SOk s M)(hd:s.down=false)(hb:HB s)(key:ByteArray)(val:List UInt8):(s.adm key val).1.epoch<=s.epoch+1:=by
 unfold Sto.adm;dsimp only;split
 ·show s.epoch<=_;omega
 ·rename_i aR;have bN:=(Af6 (Dt6.1 aR)).2;have hP:(J8 s.sc.c).2.1=(s.sc.c.P:Int):=rfl;have h1:(s.roomy (J5 key.data.toList val (J8 s.sc.c)).1.length).1.epoch<=s.epoch+1:=Bx2 (by omega) _ h ok hd hb (by omega);split
  ·exact h1
  ·have:=(Mv.write (s.roomy (J5 key.data.toList val (J8 s.sc.c)).1.length).1 2 (J5 key.data.toList val (J8 s.sc.c)).1).epoch;split
   ·show((s.roomy (J5 key.data.toList val (J8 s.sc.c)).1.length).1.write 2 (J5 key.data.toList val (J8 s.sc.c)).1).1.epoch<=_;omega
   ·rw[this];exact h1
theorem Bw1: ∀(j:Nat) {s:Sto} {M:Nat},SBk s->SOk s M->s.down=false->HB s->(Sto.trim j s).1.epoch<=s.epoch+j
 |0,s,M,h,ok,hd,hb=>by show s.epoch<=_;omega
 |j+1,s,M,h,ok,hd,hb=>by
  unfold Sto.trim;split
  ·cases hq:s.q with
   |nil=>show s.epoch<=_;omega
   |cons y r=>
    dsimp only;have fS:=ok.qs;have eH:=ok.ql;rw[hq]at fS eH;have h1:SOk {s with q:=r} M:=ok.setq (fun e he=>fS e (Dr6 _ he)) (by simp at eH;omega);have b0:BR s {s with q:=r}:=h.br.congr rfl rfl rfl rfl;have hw:SOk (if y.2.2>0 then({s with q:=r}:Sto).adm y.1 y.2.1 else({s with q:=r},8)).1 (M+1)/\BR s (if y.2.2>0 then({s with q:=r}:Sto).adm y.1 y.2.1 else({s with q:=r},8)).1/\((if y.2.2>0 then({s with q:=r}:Sto).adm y.1 y.2.1 else({s with q:=r},8)).2≠11->(if y.2.2>0 then({s with q:=r}:Sto).adm y.1 y.2.1 else({s with q:=r},8)).1.down=false)/\(if y.2.2>0 then({s with q:=r}:Sto).adm y.1 y.2.1 else({s with q:=r},8)).1.sc=s.sc/\(if y.2.2>0 then({s with q:=r}:Sto).adm y.1 y.2.1 else({s with q:=r},8)).1.epoch<=s.epoch+1:=by
     split
     ·have ha:=h1.adm hd y.1 y.2.1;exact⟨ha.1,b0.trans (b0.sb.adm h1 hd (b0.by'.hb hb) _ _),fun hn=>(R4 _ _ _ hn).trans hd,ha.2,De2 b0.sb h1 hd (b0.by'.hb hb) _ _⟩
     ·exact⟨h1.upto (by omega),b0,fun _=>hd,rfl,by show s.epoch<=_;omega⟩
    generalize (if y.2.2>0 then({s with q:=r}:Sto).adm y.1 y.2.1 else({s with q:=r},8))=w at hw;obtain⟨k1,k2,k3,k4,k5⟩:=hw;split
    ·rename_i h0;have:=Bw1 j k2.sb k1 (k3 (by rw[h0];decide)) (k2.by'.hb hb);omega
    ·split
     ·omega
     ·rename_i h0 h11;have key: ∀t:Sto,t={w.1 with gh:=Bh8 s.sc.ghost w.1.gh (s.hash y.1)}->(Sto.trim j t).1.epoch<=s.epoch+((j+1:Nat):Int):=fun t ht=>by
       have k6:BR s t:=by rw[ht];exact k2.congr rfl rfl rfl rfl
       have k7:SOk t (M+1):=by
        rw[ht];refine k1.setgh (gh:=Bh8 s.sc.ghost w.1.gh (s.hash y.1)) ?_;have h6:=k1.gl;have h7:=k1.gs;rw[k4]at h6 h7⊢;exact Aa5 h7.1 h6 _
       have e:t.epoch=w.1.epoch:=by rw[ht]
       have:=Bw1 j k6.sb k7 (by rw[ht];exact k3 h11) (k6.by'.hb hb);omega
      exact key _ rfl
  ·show s.epoch<=_;omega
theorem A25(h:SBk s)(ok:SOk s M)(hd:s.down=false)(hb:HB s)(hq:s.q.length<=65536){key:ByteArray}{val:List UInt8}(hk:1<=key.size/\key.size<=255)(hv:val.length<=65536):(s.putYoung key val).1.epoch<=s.epoch+65538:=by
 have h1:=(ok.putYoung hd hq hk hv).1;have b0:BR s {s with q:=P1 s.q key++[(key,val,0)]}:=h.br.congr rfl rfl rfl rfl;have:=Bw1 (s.q.length+2) b0.sb h1 hd (b0.by'.hb hb);unfold Sto.putYoung;have e:({s with q:=P1 s.q key++[(key,val,0)]}:Sto).epoch=s.epoch:=rfl;omega
theorem Bs0(s:Sto)(key:ByteArray):(s.forget key).1.epoch=s.epoch:=by
 unfold Sto.forget;dsimp only;split<;>rfl
theorem Da7(h:SBk s)(iv:H4 s M)(hb:HB s)(key:ByteArray)(val:List UInt8):(s.put key val).1.epoch<=s.epoch+65540/\((s.put key val).2=11->(s.put key val).1.down=true):=by
 unfold Sto.put;split
 ·rename_i ha;refine⟨by show s.epoch<=_;omega,fun h11=>?_⟩;have h11:s.asked key=11:=h11;unfold Sto.asked at h11;split at h11
  ·assumption
  ·split at h11<;>cases h11
 ·rename_i ha;obtain⟨hd,hk⟩:=T0 (s:=s) (key:=key) (by simpa using ha);split
  ·exact⟨by show s.epoch<=_;omega,fun h=>absurd (show(4:Int)=11 from h) (by decide)⟩
  ·rename_i hv;obtain⟨f1,f2,f3,f4,f5⟩:=iv.ok.forget key;have dN:(s.forget key).1.q.length<=65536:=by rw[f4];exact Dt1 (P5 _ _) (iv.q hd)
   have bI:(s.forget key).1.down=false:=f2.trans hd;have h1:=h.forget key;have he:=Bs0 s key;dsimp only;generalize (s.forget key).1=s1 at f1 f2 f3 f4 f5 dN bI h1 he;have dF:=h1.by'.hb hb;split
   ·exact⟨by show s1.epoch<=_;omega,fun h=>absurd (show(14:Int)=11 from h) (by decide)⟩
   ·split
    ·have hg:SOk {s1 with gh:=s1.gh.erase ((s.hash key:Nat):Int)} (M+1):=f1.setgh (by have h1:=f1.gl;have h2:(s1.gh.erase ((s.hash key:Nat):Int)).length<=s1.gh.length:=D00;omega);have b0:BR s {s1 with gh:=s1.gh.erase ((s.hash key:Nat):Int)}:=h1.congr rfl rfl rfl rfl;have eM:=b0.by'.hb hb;have a0:=b0.trans (b0.sb.adm hg bI eM key val);have a1:=De2 b0.sb hg bI eM key val;obtain⟨a2,a3⟩:=hg.adm bI key val;have a4:=Ad2 {s1 with gh:=s1.gh.erase ((s.hash key:Nat):Int)} key val;have a5:=R4 {s1 with gh:=s1.gh.erase ((s.hash key:Nat):Int)} key val;have a6:=B92 {s1 with gh:=s1.gh.erase ((s.hash key:Nat):Int)} key val;have e1:({s1 with gh:=s1.gh.erase ((s.hash key:Nat):Int)}:Sto).epoch=s1.epoch:=rfl;generalize ({s1 with gh:=s1.gh.erase ((s.hash key:Nat):Int)}:Sto).adm key val=w at a0 a1 a2 a3 a4 a5 a6;have eI:w.1.q.length<=65536:=by rw[a4.1];exact dN
     split
     ·exact⟨by omega,a6⟩
     ·rename_i hw;rw[Du4]at hw;have wd:=(a5 hw.2).trans bI;have:=A25 a0.sb a2 wd (a0.by'.hb hb) eI hk (val:=val) (by omega);exact⟨by omega,Az8 _ _⟩
    ·have:=A25 h1.sb f1 bI dF dN hk (val:=val) (by omega);exact⟨by omega,Az8 _ _⟩
theorem Bb3: ∀(j:Nat) {s:Sto} {M:Nat},SBk s->H4 s M->s.down=false->HB s->((Sto.flushes j s).1.epoch=s.epoch\/8*(Sto.flushes j s).1.epoch<=8*s.epoch+s.pend.length+8)/\((Sto.flushes j s).2=11->(Sto.flushes j s).1.down=true)
 |0,s,M,h,iv,hd,hb=>⟨.inl rfl,fun h=>absurd (show(0:Int)=11 from h) (by decide)⟩
 |j+1,s,M,h,iv,hd,hb=>by
  unfold Sto.flushes;split
  ·exact⟨.inl rfl,fun h=>absurd (show(0:Int)=11 from h) (by decide)⟩
  ·rename_i p0 r0 tE;have bH:1<=s.pend.length:=by rw[tE];simp
   obtain⟨a1,a2,a3⟩:=iv.ok.roomy hd (n:=1) (by decide);have dw:=iv.ok.P;obtain⟨a4,a5⟩:BR s (s.roomy 1).1/\((s.roomy 1).2=0->_):=SBk.room (n:=1) (by decide) _ h iv.ok hd hb;have a6:(s.roomy 1).1.epoch<=s.epoch+1:=Bx2 (n:=1) (by decide) _ h iv.ok hd hb (by omega);have a7:(s.roomy 1).2=11->(s.roomy 1).1.down=true:=Bd9 1 (s.mu+1) s;have a8:(s.roomy 1).1.pend.length<=s.pend.length:=Ci2 1 (s.mu+1) s;have aq:(s.roomy 1).1.q=s.q:=(A13 1 (s.mu+1) s).1;dsimp only;generalize hw:s.roomy 1=w at a1 a2 a3 a4 a6 a7 a8 aq;have a5:w.2=0->1*(w.1.sc.c.S:Int)<=w.1.bk.tokens:=by rw[<-hw];exact a5
   split
   ·exact⟨.inr (by omega),a7⟩
   ·rename_i h0;have h0:=Dt6.1 h0;obtain⟨b1,b2⟩:=a2 h0;split
    ·exact⟨.inr (by show 8*w.1.epoch<=_;omega),fun h=>absurd (show(0:Int)=11 from h) (by decide)⟩
    ·rename_i hn;split
     ·rename_i hk;refine⟨.inr (by show 8*w.1.epoch<=_;omega),fun h11=>?_⟩;have h11:(M7 (w.1.pend.take (min w.1.pend.length (B7 w.1.sc.c.S/6).toNat))).2=11:=h11;unfold M7 at h11;split at h11<;>cases h11
     ·have w2:=(a4.sb.write a1 b1 (a4.by'.hb hb) (kind:=3) (.inr rfl) [(M7 (w.1.pend.take (min w.1.pend.length (B7 w.1.sc.c.S/6).toNat))).1] (fun h=>absurd (show(3:Int)=2 from h) (by decide)) (a5 h0)).1;have w3:=(Mv.write w.1 3 [(M7 (w.1.pend.take (min w.1.pend.length (B7 w.1.sc.c.S/6).toNat))).1]);have w4:=Bc7 w.1 3 [(M7 (w.1.pend.take (min w.1.pend.length (B7 w.1.sc.c.S/6).toNat))).1];obtain⟨c1,c2⟩:=a1.write b1 3 [(M7 (w.1.pend.take (min w.1.pend.length (B7 w.1.sc.c.S/6).toNat))).1];have cq:=Am6 w.1 3 [(M7 (w.1.pend.take (min w.1.pend.length (B7 w.1.sc.c.S/6).toNat))).1];have hZ:48<=B7 w.1.sc.c.S:=by
       have:=A14 a1;have h2:B7 w.1.sc.c.S=((w.1.sc.c.S-16:Nat):Int):=this;have:=a1.S;omega
      generalize w.1.write 3 [(M7 (w.1.pend.take (min w.1.pend.length (B7 w.1.sc.c.S/6).toNat))).1]=z at w2 w3 w4 c1 c2 cq;have ze:=w3.epoch;have zp:=w3.pend;split
      ·exact⟨.inr (by show 8*z.1.epoch<=_;omega),w4⟩
      ·rename_i h1;have h1:z.2.2=0:=by simpa using h1
       obtain⟨n,mP⟩: ∃n,n=min w.1.pend.length (B7 w.1.sc.c.S/6).toNat:=⟨_,rfl⟩;rw[<-mP];have key: ∀t:Sto,t={z.1 with pend:=z.1.pend.drop n}->((Sto.flushes j t).1.epoch=s.epoch\/8*(Sto.flushes j t).1.epoch<=8*s.epoch+s.pend.length+8)/\((Sto.flushes j t).2=11->(Sto.flushes j t).1.down=true):=fun t ht=>by
        have i4:H4 t M:=by
         rw[ht];exact⟨{c1 with dv:=c1.dv,pl:=by show(z.1.pend.drop _).length<=M;rw[Ds6];have:=c1.pl;omega},fun _=>by show z.1.q.length<=65536;rw[cq.1,aq];exact iv.q hd⟩
        have b5:BR s t:=by rw[ht];exact(a4.trans w2).congr rfl rfl rfl rfl
        have e1:t.epoch=w.1.epoch:=by rw[ht];exact ze
        have e2:t.pend=w.1.pend.drop n:=by rw[ht];show z.1.pend.drop n=_;rw[zp]
        have e3:t.pend.length=w.1.pend.length-n:=by rw[e2];exact Ds6
        obtain⟨ih1,ih2⟩:=Bb3 j b5.sb i4 (by rw[ht];exact c2 h1) (b5.by'.hb hb);refine⟨.inr ?_,ih2⟩;rw[e1,e3]at ih1;rcases ih1 with ih1|ih1
        ·omega
        ·by_cases bR:w.1.pend.length<=(B7 w.1.sc.c.S/6).toNat
         ·have fM:Sto.flushes j t=(t,0):=by
           cases j with
           |zero=>rfl
           |succ j=>
            unfold Sto.flushes;rw[e2,mP,Dx1 bR,D90]
          rw[fM];show 8*t.epoch<=_;omega
         ·omega
       exact key _ rfl
theorem C63(h:SBk s)(iv:H4 s M)(hb:HB s):8*s.flush.1.epoch<=8*s.epoch+M+8/\(s.flush.2=11->s.flush.1.down=true):=by
 have aW:=iv.ok.pl;unfold Sto.flush;split
 ·rename_i hd;exact⟨by show 8*s.epoch<=_;omega,fun _=>hd⟩
 ·rename_i hd;obtain⟨h1,h2⟩:=Bb3 (s.pend.length+1) h iv (by simpa using hd) hb;exact⟨by rcases h1 with h1|h1<;>omega,h2⟩
end
section
variable {s:Sto} {M:Nat} {k:Int}
theorem KI.armed(h:KI s)(n keep:Int):KI (s.dev (arm s.d n keep)):=by
 obtain⟨e1,e2,e3,e4,e5⟩:=Cu5 s.d n keep;have hb: ∀x,D7 (arm s.d n keep) x=D7 s.d x:=fun x=>by unfold D7;rw[e2]
 have hf:FSx s (s.dev (arm s.d n keep)):=fun row hr x hx _=>(A56 e1 (by rw[e2]) e3 (hb _)).symm;refine⟨⟨h.sb.db.congr e2 e1,fun r hr=>(h.sb.rs r hr).congr e2,fun o ho=>⟨(h.sb.op o ho).1.congr e2,(h.sb.op o ho).2⟩⟩,fun o ho=>?_,h.ix,h.uq,fun K=>Dt1 (hf.cnt rfl (fun k=>D01 _) rfl K) (h.pl K),h.fit⟩;obtain⟨⟨kb,h1,h2⟩,h3⟩:=h.op o ho;exact⟨⟨kb,(hb o.b).trans h1,h2⟩,h3⟩
theorem Cm9{d:Dev}: ∀(l:List LE) {s:Sto} {M:Nat},(∀x∈l,B94 d x)->(l.Pairwise fun x y=>x.1≠y.1)->KI s->SOk s M->s.d=d->s.op=none->(∀x∈l,x.2.2.2.1<=s.epoch)->(∀x∈l,W7 s x.1=0)->KI (Ac7 l s)
 |[],s,M,_,_,h,_,_,_,_,_=>h
 |x::r,s,M,hl,hp,h,ok,hd,ho,he,hc=>by
  have hx:=hl x (by simp);obtain⟨p1,p2⟩:=Dy6.1 hp;obtain⟨a1,-,a3⟩:=h.listed ok (key:=x.1) (q:=x.2) (by rw[hd];exact hx.fetch) (hc x (by simp)) ⟨he x (by simp),fun o bU=>by rw[ho]at bU;cases bU⟩;have ok2:=ok.list x.1 x.2 (by have:=hx.page;exact Bd3 (by omega));exact Cm9 r (fun y hy=>hl y (Dr6 _ hy)) p2 a1 ok2 hd ho (fun y hy=>he y (Dr6 _ hy)) fun y hy=>by
   have h1:=a3 y.1 (fun e=>p1 y hy e.symm);have h2:=hc y (Dr6 _ hy);show W7 (s.list x.1 x.2) y.1=0;omega
theorem Db2{d:Dev}(dv:P6 d)(aK:d.down=false)(bR:d.torn.length<=999)(oW:DB d){x:Av2}(hx:Bu0 x d){now:Int}{s:Sto}(h:Ag9 x d now=(some s,0)):KI s:=by
 have hS:=dv.c.s;unfold Ag9 at h;rw[Dq5 hx,Dq4 (by rw[aK];decide)]at h;cases hs:Bf1 (Ar9 x d) d now with
 |none=>rw[hs]at h;cases h
 |some s2=>
  rw[hs]at h;obtain rfl:s2=s:=Dq9 (congrArg Prod.fst h);unfold Bf1 at hs;cases hr:Ah1 (Aw9 d) ((U6 d).map Reg.b)with
  |none=>rw[hr]at hs;cases hs
  |some r=>
   rw[hr]at hs;rw[<-Dq9 hs];have aA:=Cg0 (now:=now) dv (sc:=Ar9 x d) rfl aK bR (Ct4 hx) hr;have aM: ∀k2,J6 (Bv3 (Ar9 x d) d now r.1).ix k2=[]:=fun k2=>by
    show(List.replicate _ []).getD _ []=[];rw[Dt0,D20];split<;>rfl
   have nT: ∀K,W7 (Bv3 (Ar9 x d) d now r.1) K=0:=fun K=>by
    unfold W7 plc;rw[aM];rfl
   have gR:SBk (Bv3 (Ar9 x d) d now r.1):=⟨oW,fun q hq=>by
    obtain⟨y,hy,rfl⟩:=Dt4.1 (show q∈(H0 d).map Bo0 from hq);exact Da0 oW hy,fun o ho=>by cases ho⟩
   have kJ:KI (Bv3 (Ar9 x d) d now r.1):=by
    refine⟨gR,fun o ho=>(by cases ho),fun row hrw y hy=>?_,D32,fun K=>by rw[nT K];decide,?_⟩
    ·have:row=[]:=Dv8 hrw;rw[this]at hy;cases hy
    ·have h3:=hx.2.2;have h1:=hx.1;simp only[Dx0]at h1;unfold Dn3 at h3;simp only[Dv4,Dy0]at h3;have h4:=h3.2;rw[<-h1.2.1,<-h1.2.2.1]at h4;unfold B7 at h4;rw[Dq5 (by omega)]at h4;exact h4
   refine Cm9 (R7 d) (fun y hy=>Bg5 hy) ((C31 d).imp fun h=>h.2) kJ aA rfl rfl (fun y hy=>?_) fun y _=>nT y.1;obtain⟨i,hi,-,e2,-⟩:=Dm7 (Bg5 hy);have:=(By9 (H0 d) 0).2 _ (Dr7 hi);rw[e2]at this;exact this
structure LI(s:Sto)(i:Nat):Prop where
 ki:s.down=false->KI s
 sb:SBk s
 h0:0<=s.d.bytes
 hb:s.d.bytes+s.bk.tokens<=(i+1)*2147483648
 ep:s.epoch<=i*2000000
theorem LI.HB{i:Nat}(h:LI s i)(hi:i<=1000):HB s:=⟨h.h0,by have:=h.hb;omega⟩
theorem LI.act{c:Av2}{p:SP}{g:SG}{i:Nat}(h:LI s i)(hi:i<=200)(hl:Dq0 c p s g M k)(hM:M<=15999992)(hk:k<=900){a:Bv7}(hv:a.2.2.1.2.length<=700){now:Int}{p':SP}{g':SG}{M':Nat}{k':Int}(bZ:Dq0 c p' (Al4 c s a now) g' M' k'):LI (Al4 c s a now) (i+1):=by
 have hb:=h.HB (by omega);have hh:=h.hb;have h0:=h.h0;have bX:=h.ep;have aA:=bZ.iv.ok.bk;by_cases h6:a.1=6
 ·obtain⟨⟨us,w1,we⟩,w2⟩:=hl.wr.restarted;obtain⟨s2,e1,e2,e3,e4,e5,e6,e7⟩:=B46 w1 (As9 hl.iv.ok.dv) rfl w2 (B80 hl.cfg rfl) now;have es:Al4 c s a now=s2:=by
   unfold Al4;rw[Dq4 (by omega),Dq4 (by omega),Dq4 (by omega),Dq4 (by omega),Dq4 (by omega),Dq4 (by omega),Dq5 h6,e1];rfl
  rw[es];have oW:DB (U3 s.d):=h.sb.db.congr (d':=U3 s.d) rfl rfl;have et:s2.bk.tokens=0:=by
   rw[e6];show cut 0 (cut _ 1073741824)=0;exact Dd3 _ _ (by decide) (Ad1 _ _ (by decide)).1
  have bR:(U3 s.d).torn.length<=999:=by
   unfold TN at w2;rw[show(U3 s.d).down=false from rfl,Dq4 (by decide)]at w2;omega
  have zN:s2.d.bytes=s.d.bytes:=by rw[e5];rfl
  have bW:=hl.iv.ok.bk.t0;have he0:=hl.iv.ok.ep;have h7:=e7 (s.epoch+1) (by omega) we;refine⟨fun _=>Db2 (As9 hl.iv.ok.dv) rfl bR oW (B80 hl.cfg rfl) e1,Db3 oW e1,by omega,by rw[zN,et];omega,by omega⟩
 by_cases h4:a.1=4
 ·have es:Al4 c s a now=s.tick now:=by
   unfold Al4;rw[Dq4 (by omega),Dq4 (by omega),Dq4 (by omega),Dq4 (by omega),Dq5 h4]
  rw[es]at aA⊢;have ht:=aA.t1;have mF:=aA.b1;unfold Sto.tick at ht mF⊢;split
  ·exact⟨h.ki,h.sb,h0,by omega,by omega⟩
  ·rename_i hd;rw[Dq4 hd]at ht mF;refine⟨fun _=>(h.ki (by simpa using hd)).congr rfl rfl rfl rfl rfl rfl rfl,h.sb.congr rfl rfl rfl,h0,?_,by show s.epoch<=_;omega⟩;have bW:=hl.iv.ok.bk.t0;have ht:(Ag5 s.bk now).tokens<=(Ag5 s.bk now).burst:=ht;have mF:(Ag5 s.bk now).burst<=1073741824:=mF;show s.d.bytes+(Ag5 s.bk now).tokens<=_;omega
 ·obtain⟨b1,b2⟩:=sAct_B (x:=c) (now:=now) hl.iv h.sb hb h4 h6;have iE:=fun hd=>Dh4 (x:=c) (s:=s) (a:=a) (now:=now) h6 hd;have ba:=b2.a;have bb:=b2.b;have fin:KI (Al4 c s a now)\/(Al4 c s a now).down=true->(Al4 c s a now).epoch<=s.epoch+2000000->LI (Al4 c s a now) (i+1):=fun kJ he=>⟨fun hd=>kJ.resolve_right (by rw[hd];decide),b1,by omega,by omega,by omega⟩;cases hd:s.down with
  |true=>
   have ha: ∀key,s.asked key≠0:=fun key=>by unfold Sto.asked;rw[Dq5 hd];decide
   have aK:(Al4 c s a now).down=true:=by
    cases hq:(Al4 c s a now).down with
    |true=>rfl
    |false=>rw[iE hq]at hd;cases hd
   refine fin (.inr aK) ?_;unfold Al4
   repeat' split
   ·unfold Sto.put;rw[Dq5 (ha _)];show s.epoch<=_;omega
   ·unfold Sto.get;rw[Dq5 (ha _)];show s.epoch<=_;omega
   ·unfold Sto.delete;rw[Dq5 (ha _)];show s.epoch<=_;omega
   ·unfold Sto.flush;rw[Dq5 hd];show s.epoch<=_;omega
   ·show s.epoch<=_;omega
   ·show s.epoch<=_;omega
  |false=>
   have kJ:=h.ki hd;have ws:=hl.wr.1 hd;by_cases k0:a.1=0
   ·have es:Al4 c s a now=(s.put a.2.1 a.2.2.1.2).1:=by unfold Al4;rw[Dq5 k0]
    obtain⟨p1,p2⟩:=Da7 h.sb hl.iv hb a.2.1 a.2.2.1.2;refine fin ?_ (by rw[es];omega);rw[es];by_cases hk:1<=a.2.1.size/\a.2.1.size<=255
    ·rcases kJ.put ws hl.iv hd hb hk (val:=a.2.2.1.2) (by omega)with e|⟨-,e,-⟩|⟨-,e,-⟩
     ·exact .inr (p2 e)
     ·exact .inl e
     ·exact .inl e
    ·left;unfold Sto.put;rw[Dq5]
     ·exact kJ
     ·unfold Sto.asked;rw[Dq4 (by rw[hd];decide),Dq5 (by omega)];decide
   by_cases k1:a.1=1
   ·have es:Al4 c s a now=(s.get a.2.1).1:=by unfold Al4;rw[Dq4 k0,Dq5 k1]
    refine fin (.inl (by rw[es];exact kJ.get hl.iv.ok _)) ?_;rw[es];unfold Sto.get;split
    ·show s.epoch<=_;omega
    ·split
     ·show s.epoch<=_;omega
     ·split<;>(show s.epoch<=_;omega)
   by_cases k2:a.1=2
   ·have es:Al4 c s a now=(s.delete a.2.1).1:=by unfold Al4;rw[Dq4 k0,Dq4 k1,Dq5 k2]
    refine fin (.inl (by rw[es];exact kJ.delete hl.iv.ok _)) ?_;rw[es];unfold Sto.delete;split
    ·show s.epoch<=_;omega
    ·show(s.forget a.2.1).1.epoch<=_;rw[Bs0];omega
   by_cases k3:a.1=3
   ·have es:Al4 c s a now=s.flush.1:=by unfold Al4;rw[Dq4 k0,Dq4 k1,Dq4 k2,Dq5 k3]
    obtain⟨f1,f2⟩:=C63 h.sb hl.iv hb;refine fin ?_ (by rw[es];omega);rw[es];have fM:s.flush=Sto.flushes (s.pend.length+1) s:=by unfold Sto.flush;rw[Dq4 (by rw[hd];decide)]
    rcases KI.flushes (s.pend.length+1) kJ ws hl.iv hd hb with e|e
    ·exact .inr (f2 (by rw[fM];exact e))
    ·exact .inl (by rw[fM];exact e)
   by_cases k5:a.1=5
   ·have es:Al4 c s a now=s.dev (arm s.d a.2.2.2.1 a.2.2.2.2.1):=by unfold Al4;rw[Dq4 k0,Dq4 k1,Dq4 k2,Dq4 k3,Dq4 h4,Dq5 k5]
    exact fin (.inl (by rw[es];exact kJ.armed _ _)) (by rw[es];show s.epoch<=_;omega)
   ·have es:Al4 c s a now=s:=by unfold Al4;rw[Dq4 k0,Dq4 k1,Dq4 k2,Dq4 k3,Dq4 h4,Dq4 k5,Dq4 h6]
    exact fin (.inl (by rw[es];exact kJ)) (by rw[es];omega)
theorem Az3{key:ByteArray}(hd:s.down=false)(hk:1<=key.size/\key.size<=255):s.asked key=0:=by
 unfold Sto.asked;rw[Dq4 (by rw[hd];decide),Dq4 (by omega)]
theorem Ak8{q:List QD}{key:ByteArray}(h:key∉q.map Prod.fst):T4 q key=none:=by
 unfold T4;rw[D18];intro e he hk;exact h (by rw[Dv5 hk];exact Du6 he)
theorem A06{key:ByteArray}(hd:s.down=false)(hk:1<=key.size/\key.size<=255)(h:W7 s key=0):s.has key=0/\s.peek key=([],8):=by
 obtain⟨c1,c2⟩:=cnt0 h;have ha:=Az3 hd hk;have hp:s.place key=none:=by rw[Ap4,c1];rfl
 constructor
 ·unfold Sto.has;rw[Dq4 (by simpa using ha),Ak8 c2,hp];rfl
 ·unfold Sto.peek;rw[Dq4 (by simpa using ha),Ak8 c2,hp]
theorem A07{key:ByteArray}{val:List UInt8}(h:KI s)(hd:s.down=false)(hk:1<=key.size/\key.size<=255)(hm:Dp8 s key val):s.has key=2/\s.peek key=(val,0):=by
 obtain⟨q,hq,hv⟩:=hm;have ha:=Az3 hd hk;have hp:s.place key=some q:=by rw[Ap4,hq];rfl
 have hc:=h.pl key;unfold W7 at hc;rw[hq]at hc;have hy:key∉s.q.map Prod.fst:=fun hm=>by
  rw[Dq5 hm]at hc;simp at hc
 constructor
 ·unfold Sto.has;rw[Dq4 (by simpa using ha),Ak8 hy,hp];rfl
 ·unfold Sto.peek;rw[Dq4 (by simpa using ha),Ak8 hy,hp];dsimp only;rw[hv]
theorem Bm9{key:ByteArray}{val:List UInt8}(h:KI s)(hd:s.down=false)(hk:1<=key.size/\key.size<=255)(hm:C85 s key val):s.peek key=(val,0):=by
 obtain⟨l,hl⟩:=hm;have ha:=Az3 hd hk;have hn:=h.uq;rw[hl,Ds2,Dx3]at hn;have hf:T4 s.q key=some (key,val,0):=by
  unfold T4;rw[hl,Ed0];have:l.find? (fun e=>decide (key=e.1))=none:=by
   rw[D18];intro e he hk;exact hn.2.2 e.1 (Du6 he) key (by simp) (Dv5 hk).symm
  rw[this];simp
 unfold Sto.peek;rw[Dq4 (by simpa using ha),hf]
theorem C12(h:KI s)(ws:WS s k)(iv:H4 s M)(hd:s.down=false)(hb:HB s){key:ByteArray}{val:List UInt8}(hk:1<=key.size/\key.size<=255)(hv:val.length<=65536)(hg:((s.hash key:Nat):Int)∈s.gh)(f:Fn s (Qz s))(ht:10*(s.sc.c.S:Int)<=s.bk.tokens)(bX:s.epoch<1073741824):
  (s.put key val).2=14\/Dp8 (s.put key val).1 key val:=by
 have ha:=Az3 hd hk;obtain⟨f1,f2,f3,f4,f5⟩:=iv.ok.forget key;have bI:(s.forget key).1.down=false:=f2.trans hd;obtain⟨k1,k2⟩:=h.forget iv.ok key;have w1:=(ws.wr.forget key).1 bI;have b1:=h.sb.forget key;have dM:(s.forget key).1.ss=s.ss/\(s.forget key).1.us=s.us/\(s.forget key).1.d=s.d/\(s.forget key).1.bk=s.bk/\(s.forget key).1.epoch=s.epoch:=by
  unfold Sto.forget;dsimp only;split<;>exact⟨rfl,rfl,rfl,rfl,rfl⟩
 unfold Sto.put;rw[Dq4 (by simpa using ha),Dq4 (by omega)];dsimp only;generalize (s.forget key).1=s1 at f1 f2 f3 f4 f5 bI k1 k2 w1 b1 dM;obtain⟨e1,e2,e3,e4,e5⟩:=dM;split
 ·exact .inl rfl
 ·rename_i aY;right;rw[Dq5 (by rw[f5];exact hg)];obtain⟨s2,aJ⟩: ∃s2:Sto,s2={s1 with gh:=s1.gh.erase ((s.hash key:Nat):Int)}:=⟨_,rfl⟩;have aA:SOk s2 (M+1):=by rw[aJ];exact f1.setgh (by have h1:=f1.gl;have h2:(s1.gh.erase ((s.hash key:Nat):Int)).length<=s1.gh.length:=D00;omega)
  have kg:KI s2:=by rw[aJ];exact k1.congr rfl rfl rfl rfl rfl rfl rfl
  have wg:WS s2 k:=by rw[aJ];exact w1.congr rfl rfl rfl rfl
  have bg:BR s s2:=by rw[aJ];exact b1.congr rfl rfl rfl rfl
  have cg:W7 s2 key=0:=by rw[aJ];exact k2
  have dk:s2.down=false:=by rw[aJ];exact bI
  have g1:s2.ss=s.ss:=by rw[aJ];exact e1
  have g2:s2.us=s.us:=by rw[aJ];exact e2
  have g3:s2.d=s.d:=by rw[aJ];exact e3
  have g4:s2.bk=s.bk:=by rw[aJ];exact e4
  have g5:s2.epoch=s.epoch:=by rw[aJ];exact e5
  have g6:s2.sc=s.sc:=by rw[aJ];exact f3
  have iB:=bg.by'.hb hb;have fg:Fn s2 (Qz s2):=(f.keep g1 g6 (by rw[g3];exact f.af)).mono fun x hx=>by
   unfold Qz at hx⊢;rw[g1,g2]at hx;exact hx
  have hz:=adm_ok kg wg aA dk iB (val:=val) hk hv (by rw[g6];exact aY) fg (by rw[g4,g6];exact ht) (by rw[g5];exact bX);have hm:=(kg.adm wg aA dk iB (val:=val) cg).1;rw[<-aJ];rw[Dq5 (.inl hz)];rcases hm with hm|⟨-,-,hm,-⟩
  ·rw[hz]at hm;cases hm
  ·exact hm hz
end
theorem put_dn{s:Sto}{M:Nat}(iv:H4 s M)(key:ByteArray)(val:List UInt8)(h:(s.put key val).2≠11):(s.put key val).1.down=s.down:=by
 unfold Sto.put at h⊢;split
 ·rfl
 ·rename_i ha;rw[Dq4 ha]at h;obtain⟨hd,hk⟩:=T0 (s:=s) (key:=key) (by simpa using ha);split
  ·rfl
  ·rename_i hv;rw[Dq4 hv]at h;obtain⟨f1,f2,f3,f4,f5⟩:=iv.ok.forget key;have dN:(s.forget key).1.q.length<=65536:=by rw[f4];exact Dt1 (P5 _ _) (iv.q hd)
   have bI:(s.forget key).1.down=false:=f2.trans hd;have young: ∀{t:Sto} {N:Nat},SOk t N->t.down=false->t.q.length<=65536->(t.putYoung key val).2≠11->(t.putYoung key val).1.down=s.down:=fun tok td tq hn=>by
    have h1:=(tok.putYoung td tq hk (val:=val) (by omega)).1;unfold Sto.putYoung at hn⊢;rw[hd];exact(SOk.trim _ h1 td).2.2 hn
   dsimp only at h⊢;generalize (s.forget key).1=s1 at f1 f2 f3 f4 f5 dN bI h;split
   ·exact f2
   ·rename_i hp;rw[Dq4 hp]at h;split
    ·rename_i hg;rw[Dq5 hg]at h;have gX:SOk {s1 with gh:=s1.gh.erase ((s.hash key:Nat):Int)} (M+1):=f1.setgh (by have h1:=f1.gl;have h2:(s1.gh.erase ((s.hash key:Nat):Int)).length<=s1.gh.length:=D00;omega);have a2:=(gX.adm bI key val).1;have a3:=Ad2 {s1 with gh:=s1.gh.erase ((s.hash key:Nat):Int)} key val;have a4:=R4 {s1 with gh:=s1.gh.erase ((s.hash key:Nat):Int)} key val;generalize ({s1 with gh:=s1.gh.erase ((s.hash key:Nat):Int)}:Sto).adm key val=w at a2 a3 a4 h;split
     ·rename_i hw;rw[Dq5 hw]at h;exact(a4 h).trans f2
     ·rename_i hw;rw[Dq4 hw]at h;rw[Du4]at hw;exact young a2 ((a4 hw.2).trans bI) (by rw[a3.1];exact dN) h
    ·rename_i hg;rw[Dq4 hg]at h;exact young f1 bI dN h
theorem serves{s:Sto}{M:Nat}{k:Int}(h:s.down=false->KI s)(wr:WR s k)(iv:H4 s M)(sb:SBk s)(hb:HB s){key:ByteArray}{val:List UInt8}(hk:1<=key.size/\key.size<=255)(hv:val.length<=65536)(iv2:SOk (s.put key val).1 (M+100000)):
  ((s.put key val).2=11/\(s.put key val).1.d.down=true/\(s.put key val).1.has key=0)\/((s.put key val).2=14/\(s.put key val).1.has key=0)\/
  ((s.put key val).2=0/\s.down=false/\((s.put key val).1.peek key=(val,0)\/((s.put key val).1.peek key=([],8)/\s.sc.small<key.size+val.length))/\(Dp8 (s.put key val).1 key val->(s.put key val).1.has key=2)):=by
 have bF: ∀t:Sto,t.down=true->t.has key=0:=fun t ht=>by
  unfold Sto.has;rw[Dq5];unfold Sto.asked;rw[Dq5 ht];decide
 have iE:=(Da7 sb iv hb key val).2;have aK:=put_dn iv key val;have h11:(s.put key val).2=11->((s.put key val).2=11/\(s.put key val).1.d.down=true/\(s.put key val).1.has key=0):=fun e=>⟨e,by rw[<-iv2.dn];exact iE e,bF _ (iE e)⟩;cases hd:s.down with
 |true=>
  left;refine h11 ?_;unfold Sto.put;have:s.asked key=11:=by unfold Sto.asked;rw[Dq5 hd]
  rw[Dq5 (by rw[this];decide)];exact this
 |false=>
  rcases(h hd).put (wr.1 hd) iv hd hb hk hv with e|⟨e,e2,e3⟩|⟨e,e2,e3⟩
  ·exact .inl (h11 e)
  ·have fE:=(aK (by rw[e];decide)).trans hd;exact .inr (.inl ⟨e,(A06 fE hk e3).1⟩)
  ·have fE:=(aK (by rw[e];decide)).trans hd;refine .inr (.inr ⟨e,rfl,?_,fun hm=>(A07 e2 fE hk hm).1⟩);rcases e3 with e3|e3|⟨e3,e4⟩
   ·exact .inl (Bm9 e2 fE hk e3)
   ·exact .inl (A07 e2 fE hk e3).2
   ·exact .inr ⟨(A06 fE hk e3).2,e4⟩
theorem A39(L:A4)(hT:Tab L)(c:Av2)(v:SlV)(l:List Bv7)(h:A83 L v l)(key:ByteArray)(u:SlV)(val:List UInt8)(hu:BSl L u val):Reads PP 3 #[scV c,.slice v.a v.len v.cap,.w key,.slice u.a u.len u.cap] L (.b true):=by
 unfold Reads;refine(c3 c v key u).c ?_;have fin: ∀{L2 J:A4},L2.Perm (L++J)->cl PP 10 #[] [.lf .bool] (fun r=>HL.Ends (fun v' L'=>v'= .b true/\L'=L) (.b r.1)) L2:=fun{L2 J} hp=>
  B5 (Cf9 L2 (hT.mono fun y hy=>hp.symm.subset (by simp[hy]))) (true,()) rfl (.drop (A:=L) (J:=J) ⟨rfl,rfl⟩ hp)
 have cR:=h.len;have eZ:=hu.len;refine G5 (A:=[]) (R:=L) (Df8 c) (Dq8 _) ?_;rintro _ J1 (⟨-,rfl,-⟩|⟨p,s,g,J0,rfl,bD,jE,wM,kK,eM,-,wC,zB⟩)
 ·refine⟨_,Dq8 _,(none,none,()),rfl,?_⟩;exact W2 (fun _ _=>False) (fun _ _ hf=>hf.elim) fun j hj=>ifT rfl (fin (J:=J1) Du8)
 refine⟨SL p s g++(L++J0),(bD.append_right L).trans (pc fun z=>by simp only[B4];omega),(some p.n.z,some p.m.z,()),rfl,?_⟩;have wI:A83 (SL p s g++(L++J0)) v l:=h.mono fun y hy=>by simp[hy]
 have fin0:cl PP 10 #[] [.lf .bool] (fun r=>HL.Ends (fun v' L'=>v'= .b true/\L'=L) (.b r.1)) (SL p s g++(L++J0)):=fin (J:=SL p s g++J0) (pc fun z=>by simp only[B4];omega);refine W2 (fun _ L'=>L'=SL p s g++(L++J0)/\fewD l 150 700/\(1<=key.size/\key.size<=255)/\u.len<=700) ?_ ?_;rotate_left
 ·intro j hj;refine ifF rfl (S8 (few_cl _ v l wI 150 700 (by decide)) ?_);rintro _ _-⟨rfl,b,rfl,hb⟩;refine⟨(b,()),rfl,G1 (fun(e:b=true)=>?_) fun _=>fin0⟩;exact B6 (fun _=>fin0) fun(h1: ¬(key.size:Int)>255)=>B6 (fun _=>fin0) fun(h2: ¬(key.size:Int)<1)=>B6 (fun _=>fin0) fun(h3: ¬(u.len:Int)>700)=>hj _ _ ⟨rfl,hb e,⟨by omega,by omega⟩,by omega⟩
 rintro _ _ ⟨rfl,⟨bR,lW⟩,jX,cA⟩;obtain⟨m,hm⟩: ∃m,m=p.m:=⟨_,rfl⟩;have hmm:=hm;have mJ:LI s 0:=by
  have dvF:P6 (fresh (cfg (c.1,c.2.1,c.2.2.1,c.2.2.2.1,()))):=by rw[<-zB];exact jE.iv.ok.dv
  have cfF:Bu0 c (fresh (cfg (c.1,c.2.1,c.2.2.1,c.2.2.2.1,()))):=by rw[<-zB];exact jE.cfg
  have nS:Cv7 (cfg (c.1,c.2.1,c.2.2.1,c.2.2.2.1,())):=dvF.c;obtain⟨w1,w2⟩:=Cq2 nS;obtain⟨s2,e1,-,-,-,-,-,e7⟩:=B46 w1 dvF rfl w2 cfF 0;rw[wC]at e1;obtain rfl:s=s2:=Dq9 (congrArg Prod.fst e1);have bW:s.bk.tokens=0:=by
   rw[kK];show cut 0 (cut _ 1073741824)=0;exact Dd3 _ _ (by decide) (Ad1 _ _ (by decide)).1
  exact⟨fun _=>Db2 dvF rfl (by show(0:Nat)<=999;decide) (Cq3 _) cfF wC,Db3 (Cq3 _) wC,by omega,by rw[eM,bW];decide,by have:=e7 0 (by decide) (by simp);omega⟩
 refine G7 (fun z' z L'=> ∃(i:Nat) (now k:Int) (p:SP) (s:Sto) (g:SG) (J:A4),z=(some p.n.z,now,(i:Int),())/\z'=l.length-i/\i<=l.length/\L'.Perm (SL p s g++(L++J))/\p.m=m/\0<=k/\k<=i/\Dq0 c p s g (4096+i*100000) k/\LI s i) l.length
  ⟨0,0,0,p,s,g,J0,rfl,rfl,by omega,Dq8 _,hm.symm,by omega,by omega,by simpa using jE,mJ⟩ ?_
 rw[<-hm];clear mJ bD jE wI fin0 hm hmm wM kK eM wC zB;rintro z' z L1 ⟨i,now,k,p,s,g,J,rfl,rfl,hi,hp,hm,kK,kJ,hl,mJ⟩;dsimp only;refine B6 (fun(hO:(i:Int)<v.len)=>?_) (fun(aS: ¬(i:Int)<v.len)=>?_)
 ·have hJ:i<l.length:=by omega
  have wH:A83 L1 v l:=h.mono fun y hy=>hp.symm.subset (by simp[hy]);have bY:=Dr7 hJ;obtain⟨y,hy⟩: ∃y,y=l[i]:=⟨_,rfl⟩;have fF: ∀{K:Addr->HP},(∀a,C9 a (Ch8 y) L1->K a L1)->elp v.a v.len (i:Int) 5 K L1:=fun{K} hK=>W5 Ch7 (by decide) wH.sl rfl hJ (by rw[<-hy];exact hK);rw[<-hy]at bY;have hyu:=h.val y bY;have hn:=h.rng y bY;have hfy:=(lW y bY).2;refine W2 (fun w L'=>L'=L1) ?_ ?_;rotate_left
  ·intro j hj;refine fF fun a ha=>?_;exact A6 y.1 ha.hd (B6 (fun _=>A6 y.2.2.2.1 (ha.one 3 rfl) (hj _ _ rfl)) fun _=>hj _ _ rfl)
  rintro⟨now2,_⟩ L' wP;rw[wP];clear wP;refine fF fun a ha=>?_;refine A6 (y.1,y.2.1,y.2.2.1.1,y.2.2.2.1,y.2.2.2.2.1,()) ha ?_;dsimp only;have vK:=Dh3 hl (by omega) (by omega) (L++J) (hT.mono fun q hq=>by simp[hq]) y (hyu.mono fun q hq=>by simp[hq]) hn now2;rw[hm]at vK;refine Au8 vK hp ?_;rintro _ L2 ⟨p2,g2,J2,rfl,eR,aH,gK⟩;refine⟨(some p2.n.z,()),rfl,ifF rfl ?_⟩;have zX:=mJ.act (by omega) hl (by omega) (by omega) (by omega) gK;refine D6 (by omega) ⟨l.length-(i+1),by omega,i+1,now2,_,p2,_,g2,J++J2,rfl,rfl,by omega,aH.trans (pc fun z=>by simp only[B4];omega),eR,?_,?_,by rw[show 4096+(i+1)*100000=4096+i*100000+100000 by omega];exact gK,zX⟩
  ·split<;>omega
  ·split<;>omega
 have hS:=hl.iv.ok.dv.c.s;have rU:=hl.cfg.1;simp only[Dx0]at rU;have uU:FH m s.d g.Ad:=by rw[<-hm];exact hl.X.dev
 refine G5 (Dd8 m s.d g.Ad uU 0 0) (R:=SLr p s g++(L++J)) (hp.trans (A66 p s g _)) ?_;rintro _ A' ⟨rfl,cM⟩;obtain⟨s1,bK⟩: ∃s1,s1=s.dev (arm s.d 0 0):=⟨_,rfl⟩;obtain⟨g1,eE⟩: ∃g1:SG,g1={g with Ad:=A'}:=⟨_,rfl⟩;obtain⟨r1,r2,r3,r4,r5⟩:=Cu5 s.d 0 0;have X1:SX p s1 g1:=by
  rw[bK,eE];exact⟨r1.trans hl.X.cfg,by rw[hm];exact cM,hl.X.blk,hl.X.que,hl.X.gho,hl.X.idx,hl.X.mp,hl.X.rs,hl.X.op,hl.X.ok,hl.X.pd⟩
 have iv1:H4 s1 (4096+i*100000):=by rw[bK];exact hl.iv.armed (by decide) 0
 have wr1:WR s1 k:=by rw[bK];exact hl.wr.armed 0 0
 have ki1:s1.down=false->KI s1:=fun hd=>by rw[bK]at hd⊢;exact(mJ.ki hd).armed 0 0
 have bI:s1.d=arm s.d 0 0:=by rw[bK];rfl
 have ec1:s1.d.c=s.d.c:=by rw[bI];exact r1
 have esc:s1.sc=Ar9 c s.d:=by rw[bK];exact hl.sc
 have sb1:SBk s1:=by
  rw[bK];exact⟨mJ.sb.db.congr r2 r1,fun r hr=>(mJ.sb.rs r hr).congr r2,fun o ho=>⟨(mJ.sb.op o ho).1.congr r2,(mJ.sb.op o ho).2⟩⟩
 have dF:HB s1:=by
  have:=mJ.HB (by omega);unfold HB at this⊢;rw[bI,r5];have e:s1.bk=s.bk:=by rw[bK];rfl
  rw[e];exact this
 have ep1:s1.epoch<1073741824:=by
  have:=mJ.ep;have e:s1.epoch=s.epoch:=by rw[bK];rfl
  omega
 have hpL:(A'++(SLr p s g++(L++J))).Perm (SL p s1 g1++(L++J)):=by
  rw[bK,eE];exact(A66 p (s.dev (arm s.d 0 0)) {g with Ad:=A'} (L++J)).symm
 have oV:FH m s1.d g1.Ad:=by rw[<-hm];exact X1.dev
 refine⟨SL p s1 g1++(L++J),hpL,(),rfl,?_⟩;have uE:Has (SL p s1 g1++(L++J)) (SL p s1 g1):=⟨_,Dq8 _⟩;have uF:Has (SL p s1 g1++(L++J)) g1.Ad:=⟨_,A66 p s1 g1 _⟩;refine B5 (Reads.has uE (A05 p s1 g1 X1 key)) (s1.ghosted key,()) rfl ?_;refine B5 (Reads.has uE (A90 X1)) ((if s1.down=true then 0 else s1.bk.tokens),()) rfl ?_;have hBr:=iv1.ok.dv.c.b;have hWr:=iv1.ok.dv.c.w;have hB1:(s1.d.c.B:Int)=c.1:=by rw[ec1];exact rU.1
 have hW1:(s1.d.c.W:Int)=c.2.2.2.1:=by rw[ec1];exact rU.2.2.2
 have hS1:(s1.d.c.S:Int)=c.2.2.1:=by rw[ec1];exact rU.2.2.1
 have nY: ∀b:Int,0<=O0 s1.d b/\O0 s1.d b<=1048576:=fun b=>by
  unfold O0;cases hb:D7 s1.d b with
  |none=>simp
  |some kb=>
   obtain⟨_,eV,e⟩:=U9 hb;have:=(iv1.ok.dv.nx kb (by rw[<-e];exact Dr7 eV)).2.1;simp only[Ec8];omega
 refine G7 (fun z' z L'=> ∃(bd:Bool) (b:Nat),z=(bd,(b:Int),())/\z'=s1.d.c.B-b/\b<=s1.d.c.B/\L'=SL p s1 g1++(L++J)/\(bd=false-> ∀j:Nat,j<b->Ar8 s1.d j=false/\O0 s1.d j+1<s1.d.c.W)) s1.d.c.B ⟨false,0,rfl,rfl,by omega,rfl,fun _ j hj=>by omega⟩ ?_;rintro z' z L3 ⟨bd,b,rfl,rfl,hb,qY,cO⟩;rw[qY];dsimp only;refine B6 (fun(lQ:(b:Int)<c.1)=>?_) (fun(jY: ¬(b:Int)<c.1)=>?_)
 ·refine G1 (fun(e:bd=true)=>D6 (by omega) ⟨s1.d.c.B-(b+1),by omega,true,b+1,rfl,rfl,by omega,rfl,fun e=>by cases e⟩) (fun(e:bd=false)=>?_);refine B5 (Reads.has uF (Cu3 m s1.d g1.Ad oV iv1.ok.dv b)) (Ar8 s1.d b,()) rfl ?_;refine G1 (fun _=>D6 (by omega) ⟨s1.d.c.B-(b+1),by omega,true,b+1,rfl,rfl,by omega,rfl,fun e=>by cases e⟩) (fun(e2:Ar8 s1.d b=false)=>?_);refine B5 (Reads.has uF (Ce6 m s1.d g1.Ad oV iv1.ok.dv b)) (O0 s1.d b,()) rfl ?_;have hw:=nY b;refine D6 (by omega) (D6 (by omega) ⟨s1.d.c.B-(b+1),by omega,_,b+1,rfl,rfl,by omega,rfl,fun e3 j hj=>?_⟩);rcases Dw8 j b with fB|fB
  ·exact cO e j fB
  ·obtain rfl:j=b:=by omega
   have:=D24 e3;exact⟨e2,by omega⟩
 have wN:b=s1.d.c.B:=by omega
 have wY:val.length<=700:=by omega
 have iv2:=(iv1.put key val).1;have bf:=serves ki1 wr1 iv1 sb1 dF jX (val:=val) (by omega) iv2.ok;have oM:s1.ghosted key=true->bd=false->(if s1.down=true then 0 else s1.bk.tokens)≥10*c.2.2.1->(s1.put key val).2=0->Dp8 (s1.put key val).1 key val:=fun hg eM ht he=>by
  unfold Sto.ghosted at hg;split at hg
  ·rename_i ha;have aK:=(T0 ha).1;rw[Dq4 (by rw[aK];decide)]at ht;have zU:s1.d.after=0:=by
    rw[bI];unfold arm;rw[Dq4 (by rw[<-r3,<-bI,<-iv1.ok.dn,aK];decide)];rfl
   have eW: ∀x:Int,0<=x->x<s1.ss.length->K6 s1.d x/\O0 s1.d x+1<s1.d.c.W:=fun x h0 h1=>by
    obtain⟨j,rfl⟩: ∃j:Nat,x=j:=⟨x.toNat,by omega⟩;have hjB:j<s1.d.c.B:=by have:=iv1.ok.ssl;have:=iv1.ok.dv.len;omega
    obtain⟨q1,q2⟩:=cO eM j (by omega);exact⟨(C82 iv1.ok.dv j hjB).1 q1,q2⟩
   have fn:Fn s1 (Qz s1):=⟨zU,fun x h0 h1=>(iv1.ok.gd aK x).1.2 (eW x h0 h1).1,fun x _ rS=>by
    obtain⟨h0,eV,-⟩:=K5 rS;have:=eW x h0 (by omega);rw[(iv1.ok.gd aK x).2 this.1,<-iv1.ok.cfg];exact this.2⟩
   rcases C12 (ki1 aK) (wr1.1 aK) iv1 aK dF jX (val:=val) (by omega) (Dv5 hg) fn (by rw[<-iv1.ok.cfg,hS1];exact ht) ep1 with e|e
   ·rw[he]at e;cases e
   ·exact e
  ·cases hg
 refine Au8 (As2 p s1 g1 X1 iv1 (by omega) (L++J) (hT.mono fun q hq=>by simp[hq]) key u val (hu.mono fun q hq=>by simp[hq])) (Dq8 _) ?_;rintro _ _ ⟨g2,rfl,X2,rfl⟩;generalize hw:s1.put key val=w at bf oM X2 iv2;have iF:s1.sc.small=c.2.2.2.2.2.2.1:=by rw[esc];rfl
 have uD: ∀{J2:A4},Has (J2++(SL p w.1 g2++(L++J))) (SL p w.1 g2):=fun{J2}=>⟨J2++(L++J),pc fun z=>by simp only[B4];omega⟩;have oR:Has (SL p w.1 g2++(L++J)) (SL p w.1 g2):=⟨_,Dq8 _⟩;have fin2: ∀{J2:A4},cl PP 10 #[] [.lf .bool] (fun r=>HL.Ends (fun v' L'=>v'= .b true/\L'=L) (.b r.1)) (J2++(SL p w.1 g2++(L++J))):=fun{J2}=>fin (J:=J2++(SL p w.1 g2++J)) (pc fun z=>by simp only[B4];omega);have fin3:cl PP 10 #[] [.lf .bool] (fun r=>HL.Ends (fun v' L'=>v'= .b true/\L'=L) (.b r.1)) (SL p w.1 g2++(L++J)):=fin2 (J2:=[]);refine⟨(w.2,()),rfl,?_⟩;rcases bf with⟨e1,e2,e3⟩|⟨e1,e3⟩|⟨e1,e2,e3,e4⟩
 ·have eF:FH m w.1.d g2.Ad:=by rw[<-hm];exact X2.dev
  refine ifN (show¬(w.2=0) by omega) (ifP e1 ?_);refine B5 (Reads.has ⟨_,A66 p w.1 g2 _⟩ (B07 m w.1.d g2.Ad eF)) (w.1.d.down,()) rfl (ifT e2 ?_);exact B5 (Reads.has oR (Bd5 p w.1 g2 X2 iv2.ok key)) (w.1.has key,()) rfl (ifP e3 fin3)
 ·refine ifN (show¬(w.2=0) by omega) (ifN (show¬(w.2=11) by omega) (ifP e1 ?_));exact B5 (Reads.has oR (Bd5 p w.1 g2 X2 iv2.ok key)) (w.1.has key,()) rfl (ifP e3 fin3)
 refine ifP e1 (G5 (B27 p w.1 g2 X2 iv2.ok key) (R:=L++J) (Dq8 _) ?_);rintro _ _ ⟨pu,psg,rfl,pown,rfl⟩;refine⟨psg++(SL p w.1 g2++(L++J)),pc fun z=>by simp only[B4];omega,(pu,(w.1.peek key).2,()),rfl,?_⟩;have aW:=pown.sl.len;rw[E5,Dt8]at aW;refine W2 (fun _ L'=>L'=psg++(SL p w.1 g2++(L++J))) ?_ ?_
 ·rintro _ _ rfl;refine W2 (fun _ L'=>L'=psg++(SL p w.1 g2++(L++J))) ?_ ?_
  ·rintro _ _ rfl;dsimp only;rcases e3 with e3|⟨e3,-⟩
   ·rw[e3]at pown⊢;refine ifP rfl (B5 (Dh1 _ pu u val (pown.sl.left) (hu.mono fun q hq=>by simp[hq])) (true,()) rfl (ifT rfl fin2))
   ·rw[e3]at aW⊢;exact ifN (show¬((8:Int)=0) by decide) (ifP rfl (ifP (show(pu.len:Int)=0 by rw[aW];rfl) fin2))
  ·intro j4 uA;refine D6 (by omega) ?_;refine B6 (fun(bS:(key.size:Int)+u.len<=c.2.2.2.2.2.2.1)=>?_) fun _=>uA _ _ rfl;rcases e3 with e3|⟨-,e5⟩
   ·exact ifP (by rw[e3]) (uA _ _ rfl)
   ·rw[iF]at e5;omega
 ·intro j3 nM;refine G1 (fun(hg:s1.ghosted key=true)=>?_) fun _=>nM _ _ rfl;refine G1 (fun _=>nM _ _ rfl) fun(eM:bd=false)=>?_;refine D6 (by omega) (B6 (fun(ht:(if s1.down=true then 0 else s1.bk.tokens)≥10*c.2.2.1)=>?_) fun _=>nM _ _ rfl);exact B5 (Reads.has uD (Bd5 p w.1 g2 X2 iv2.ok key)) (w.1.has key,()) rfl (ifP (e4 (oM hg eM ht e1)) (nM _ _ rfl))
theorem Ci1(W:World)(hT:Tab (Cd6 W))(a0:RCfg)(w0:scWf a0)(a1:SlV)(l1:List Bv7)(w1:C86 W Ch8 (saWf W) 5 (a1,l1))(a2:ByteArray)(w2:a2.size<=maxLen)(a3:SlV)(l3:List UInt8)(w3:C86 W (fun b=>[bv b]) (fun _=>True) 1 (a3,l3)):
  Reads PP 3 #[.agg #[.i a0.1.1,.i a0.1.2.1,.i a0.1.2.2.1,.i a0.1.2.2.2.1,.i a0.2.1,.i a0.2.2.1,.i a0.2.2.2.1,.i a0.2.2.2.2.1,.i a0.2.2.2.2.2.1,.i a0.2.2.2.2.2.2.1,.i a0.2.2.2.2.2.2.2.1],.slice a1.a a1.len a1.cap,.w a2,.slice a3.a a3.len a3.cap] (Cd6 W) (.b true):=
 A39 _ hT (scR a0) a1 l1 (Cz5 w1) a2 a3 l3 w3.bytes
end Go.Proofs.YtbaoieipijmakaaGreatDoor
