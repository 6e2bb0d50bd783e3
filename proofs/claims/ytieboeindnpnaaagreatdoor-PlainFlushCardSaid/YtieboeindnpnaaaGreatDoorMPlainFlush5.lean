/-
  It is proved what the functions that the law PlainFlush reaches compute, part 5. There are no further conditions than those that each theorem names.
-/
import Derived.Test.YtieboeindnpnaaaGreatDoorMPlainFlush4
set_option linter.defProp false
set_option linter.unusedVariables false
set_option linter.unusedSimpArgs false
namespace Go.Proofs.YtieboeindnpnaaaGreatDoor
open Go.HL
variable{s s':B0}{P Q:B0->Prop}{w:B0×Int}{L R seg:B1}{v:B6}{d d':B8}{z:Bool}{K key:ByteArray}{c:Cf}{o r:E2}{k':G6}{h:HD}{B b beside e e0 ep k kind m n now:Int}{p q x:It}{E':It->Prop}{y:LE}{us:List (Int×Int)}{ix ss:List (List C8)}{row':List C8}{t:List E2}{pend':List It}{val:List UInt8}{M a f i j nx:Nat}
def V6(d:B8):List BS:=d.bs.map fun k=>⟨k.wear,k.bad,decide (k.next≠0)⟩
def Bd1(m:Nat)(d:B8)(A:B1)(h:FH m d A)(ok:G3 d):CallF PP 71 #[.p m] A fun r L'=> ∃(v:B6) (seg:B1),r= .slice v.a v.len v.cap/\L'=seg++A/\C5 v 3 236 ((V6 d).flatMap Ae) seg:=by
 refine(c71 (some m.z)).c ?_;have rS: ∀{L J:B1},L.Perm (J++A)->Mq L A:=fun{L J} hp=>⟨J,hp.trans OT⟩;have hB:=ok.c.b;have hC:=ok.len;refine C4 (Va ⟨[],by simp⟩ h) ((d.c.B,d.c.P,d.c.S,d.c.W,()),()) rfl ?_;dsimp only;refine G1 (fun z' z L'=> ∃(i:Nat) (v:B6) (seg:B1),z=(v,(i:Int),())/\z'=d.c.B-i/\i<=d.c.B/\L'.Perm (seg++A)/\C5 v 3 236 (((V6 d).take i).flatMap Ae) seg) d.c.B ⟨0,⟨none,0,0⟩,[],rfl,rfl,by omega,NH _,O5⟩ ?_;rintro z' z L1 ⟨i,v,seg,rfl,rfl,hi,hp,own⟩;dsimp only;have aO:(V6 d).length=d.c.B:=by unfold V6;rw[NL,hC]
 refine D6 (fun(hO:(i:Int)<d.c.B)=>?_) (fun(aM: ¬(i:Int)<d.c.B)=>?_)
 ·have hJ:i<d.bs.length:=by omega
  have gP:E7 d (i:Int)=some d.bs[i]:=by unfold E7;rw[NE (by omega),NK,NV hJ]
  refine C4 (Reads.has (rS hp) (Az0 m d A h ok i)) (Mr d i,()) rfl ?_;refine C4 (Reads.has (rS hp) (Av7 m d A h ok i)) (Kz d i,()) rfl ?_;refine C4 (Reads.has (rS hp) (Bu5 m d A h ok i)) (Ch d i,()) rfl ?_;dsimp only;have e1:Mr d i=(d.bs[i].wear:Int):=by unfold Mr;rw[gP];rfl
  have e2:Kz d i=d.bs[i].bad:=by unfold Kz;rw[gP];rfl
  have e3:Ch d i=(d.bs[i].next:Int):=by unfold Ch;rw[gP];rfl
  rw[e1,e2,e3];have bY:=own.sl.els_len Bs (by decide);rw[NW]at bY;have wB:((d.bs[i].next:Int) !=0)=decide (d.bs[i].next≠0):=by
   by_cases hn:d.bs[i].next=0
   ·simp[hn]
   ·simp[hn]
  rw[wB];refine Iv Ap7 JY own hp (ws:=Ae ⟨d.bs[i].wear,d.bs[i].bad,decide (d.bs[i].next≠0)⟩) rfl rfl (by omega) fun v' seg' bQ own'=>?_;refine H3 (by omega) ⟨d.c.B-(i+1),by omega,i+1,v',seg',rfl,rfl,by omega,NH _,?_⟩;rw[OB (by omega),OD,PU];have:(V6 d)[i]'(by omega)=⟨d.bs[i].wear,d.bs[i].bad,decide (d.bs[i].next≠0)⟩:=by unfold V6;rw[QG]
  rw[this];exact own'
 ·obtain rfl:i=d.c.B:=by omega
  rw[show d.c.B=(V6 d).length from aO.symm,OE]at own;exact .drop (A:=seg++A) (J:=[]) ⟨v,seg,rfl,rfl,own⟩ (by simpa using hp)
abbrev W7:=Int×Int×Int×Int×Int×Int×Int×Int×Int×Int×Int×Unit
def Bj(n most:Int):Bool:=decide (0<=n/\n<=most)
def Pi(L:B1)(n most:Int):Reads PP 120 #[.i n,.i most] L (.b (Bj n most)):=by
 unfold Reads;refine(c120 n most).c ?_;unfold Bj;refine D6 (fun(h:n≥0)=>.of ⟨?_,rfl⟩) (fun(h: ¬n≥0)=>.of ⟨?_,rfl⟩)
 ·congr 1;exact decide_eq_decide.2 ⟨fun hm=>⟨h,hm⟩,fun hm=>hm.2⟩
 ·congr 1;exact(OF fun hh=>h hh.1).symm
def Nx(c:W7):Bool:=Bj c.2.2.2.2.2.2.1 65536&&Bj c.2.2.2.2.2.2.2.1 64&&Bj c.2.2.2.2.2.2.2.2.1 1048576&&Bj c.2.2.2.2.2.2.2.2.2.1 1073741824&&decide (3*(c.2.1-2)<=E0 c.2.2.1)
def Cj5(L:B1)(c:W7)(hP:0<=c.2.1/\c.2.1<=1000):Reads PP 65 #[.agg (ki11 c)] L (.b (Nx c)):=by
 unfold Reads;refine(c65 c).c ?_;unfold Nx;have no: ∀{b:Bool},b=false->(Value.b false=Value.b b/\L=L):=fun hb=>⟨by rw[hb],rfl⟩;refine C4 (Pi L c.2.2.2.2.2.2.1 65536) (Bj c.2.2.2.2.2.2.1 65536,()) rfl ?_;refine M0 (fun(h1:Bj c.2.2.2.2.2.2.1 65536=true)=>?_) (fun(h1:Bj c.2.2.2.2.2.2.1 65536=false)=>?_)
 ·refine C4 (Pi L c.2.2.2.2.2.2.2.1 64) (Bj c.2.2.2.2.2.2.2.1 64,()) rfl (C4 (Pi L c.2.2.2.2.2.2.2.2.1 1048576) (Bj c.2.2.2.2.2.2.2.2.1 1048576,()) rfl ?_);refine M0 (fun(h3:Bj c.2.2.2.2.2.2.2.2.1 1048576=true)=>?_) (fun(h3:Bj c.2.2.2.2.2.2.2.2.1 1048576=false)=>?_)
  ·refine C4 (Pi L c.2.2.2.2.2.2.2.2.2.1 1073741824) (Bj c.2.2.2.2.2.2.2.2.2.1 1073741824,()) rfl ?_;refine M0 (fun(h2:Bj c.2.2.2.2.2.2.2.1 64=true)=>?_) (fun(h2:Bj c.2.2.2.2.2.2.2.1 64=false)=>.of (no (by rw[h2];simp)));refine M0 (fun(h4:Bj c.2.2.2.2.2.2.2.2.2.1 1073741824=true)=>?_) (fun(h4:Bj c.2.2.2.2.2.2.2.2.2.1 1073741824=false)=>.of (no (by rw[h4];simp)));refine H3 (by omega) (H3 (by omega) (C4 (Pu L c.2.2.1) (E0 c.2.2.1,()) rfl (.of ⟨?_,rfl⟩)));rw[h1,h2,h3,h4];simp
  ·exact M0 (fun _=>.of (no (by rw[h3];simp))) (fun _=>.of (no (by rw[h3];simp)))
 ·refine C4 (Pi L c.2.2.2.2.2.2.2.2.1 1048576) (Bj c.2.2.2.2.2.2.2.2.1 1048576,()) rfl ?_;refine M0 (fun _=>?_) (fun _=>.of (no (by rw[h1];simp)));exact C4 (Pi L c.2.2.2.2.2.2.2.2.2.1 1073741824) (Bj c.2.2.2.2.2.2.2.2.2.1 1073741824,()) rfl (.of (no (by rw[h1];simp)))
def Q6(x:W7)(d:B8):SC:=⟨d.c,x.2.2.2.2.1,x.2.2.2.2.2.1,x.2.2.2.2.2.2.1,x.2.2.2.2.2.2.2.1,x.2.2.2.2.2.2.2.2.1,x.2.2.2.2.2.2.2.2.2.1,x.2.2.2.2.2.2.2.2.2.2.1⟩
def Kh(h:HD):E2:=⟨h.1,h.2.1,0,h.2.2⟩
def V7(d:B8):List E2:=(G4 d).map Kh
def Cr(sc:SC)(d:B8)(now:Int)(ss:List BS):B0:=⟨sc,d,ss,V7 d,none,Ff sc.rate sc.burst now 0,Bn (G4 d),[],false,[],[],List.replicate sc.sets.toNat []⟩
def T8(l:List LE)(s:B0):B0:=l.foldl (fun s x=>s.list x.1 x.2) s
def Gq(sc:SC)(d:B8)(now:Int):Option B0:=(Bx (V6 d) ((V7 d).map E2.b)).map fun r=>T8 (M2 d) (Cr sc d now r.1)
theorem At7: ∀(l:List Int) {ss:List BS} {us:List Int} {r:List BS×List Int},Iu ss us->Gy ss us l=some r->r.2=us++l/\Iu r.1 r.2/\r.1.map (fun x=>(x.wear,x.bad))=ss.map (fun x=>(x.wear,x.bad))
 |[],ss,us,r,h,hr=>by
  obtain rfl:=NI hr;exact⟨by simp,h,rfl⟩
 |n::t,ss,us,r,h,hr=>by
  unfold Gy at hr;split at hr
  ·rename_i hf;obtain⟨h1,h2⟩:=Di hf;obtain⟨h3,h4,h5⟩:=El h1;have hm:(O7 ss n Fw).map (fun x=>(x.wear,x.bad))=ss.map (fun x=>(x.wear,x.bad)):=by
    apply UL;intro i;unfold O7;rw[OU,OU,RE];cases ss[i]? with
    |none=>rfl
    |some x=>
     simp only[RO,YE];by_cases e:n.toNat=i<;>simp[e,Fw]
   have hg: ∀x,I6 (O7 ss n Fw) x=I6 ss x:=fun x=>by
    unfold I6;have:=congrArg (fun l=>l[x.toNat]?) hm;simp only[OU]at this;cases h6:(O7 ss n Fw)[x.toNat]? with
    |none=>rw[h6]at this;cases h7:ss[x.toNat]? with
     |none=>rfl
     |some y=>rw[h7]at this;cases this
    |some y=>rw[h6]at this;cases h7:ss[x.toNat]? with
     |none=>rw[h7]at this;cases this
     |some z=>rw[h7]at this;simp at this;simp[this.2]
   have hb:Iu (O7 ss n Fw) (us++[n]):=by
    have:=At1 h hf;exact⟨this.1,fun x hx=>by rw[hg];exact this.2 x hx⟩
   obtain⟨a1,a2,a3⟩:=At7 t hb hr;exact⟨by rw[a1];simp,a2,a3.trans hm⟩
  ·cases hr
def At8{ss:List BS}{l:List Int}{r:List BS×List Int}(h:Bx ss l=some r):r.2=l/\Iu r.1 r.2/\r.1.map (fun x=>(x.wear,x.bad))=ss.map (fun x=>(x.wear,x.bad))/\Mf ss=true:=by
 unfold Bx at h;split at h
 ·rename_i hc;obtain⟨a1,a2,a3⟩:=At7 l ⟨SJ,fun x hx=>by cases hx⟩ h;exact⟨by simpa using a1,a2,a3,hc.2.2⟩
 ·cases h
def Xw(hh:h∈G4 d):(Kh h).Good/\0<=h.2.1/\h.2.1<=1073741824:=by
 have h1:=(Ih Hp (Ay d d.c.B)).subset hh;obtain⟨b,hb,hr⟩:=Sq h1;obtain⟨e1,e2,e3,e4⟩:=Jf hr;refine⟨⟨?_,fun x hx=>?_⟩,e2⟩
 ·have:=DD h.2.2 1 (fun x hx=>by have:=e3 x hx;unfold Hj at this;omega) e4 (by decide);show h.2.2.length<=256;omega
 ·have:=e3 x hx;unfold Hj at this;omega
theorem Ae4: ∀(l:List HD) (a:Int),0<=a->a<=1073741824->(∀h∈l,0<=h.2.1/\h.2.1<=1073741824)->0<=l.foldl (fun a h=>L9 a h.2.1) a/\l.foldl (fun a h=>L9 a h.2.1) a<=1073741824
 |[],a,h0,h1,_=>⟨h0,h1⟩
 |x::r,a,h0,h1,h=>by
  have hx:=h x (by simp);rw[RU];exact Ae4 r _ (by unfold L9;split<;>omega) (by unfold L9;split<;>omega) fun y hy=>h y (by simp[hy])
structure Aw6(sc:SC):Prop where
 st:1<=sc.sets/\sc.sets<=64
 wy:1<=sc.ways/\sc.ways<=8
 sm:0<=sc.small/\sc.small<=65536
 gs:0<=sc.ghost/\sc.ghost<=64
def AL{sc:SC}{r:List BS×List Int}(ok:G3 d)(hc:d.c=sc.c)(hd:d.down=false)(bN:d.torn.length<=999)(k:Aw6 sc)(hr:Bx (V6 d) ((V7 d).map E2.b)=some r):B9 (Cr sc d now r.1) 0:=by
 obtain⟨r1,r2,r3,r4⟩:=At8 hr;have cL:(Cr sc d now r.1).us=r.2:=by
  rw[r1];show(V7 d).map E2.b++[]=_;simp
 have hl:r.1.length=d.bs.length:=by
  have:=congrArg List.length r3;simp only[NL]at this;rw[this];unfold V6;rw[NL]
 have lY: ∀(i:Nat) k,d.bs[i]?=some k-> ∃x,r.1[i]?=some x/\x.wear=k.wear/\x.bad=k.bad:=fun i k hk=>by
  have:=congrArg (fun l=>l[i]?) r3;simp only[OU]at this;unfold V6 at this;rw[OU,hk]at this;cases h6:r.1[i]? with
  |none=>rw[h6]at this;cases this
  |some x=>rw[h6]at this;simp at this;exact⟨x,rfl,this.1,this.2⟩
 refine⟨ok,hd.symm,?_,hc,Cq7 _ _ _ _,?_,?_,?_,k.wy,k.sm,k.gs,?_,fun o ho=>(by cases ho),?_,by rw[cL];exact r2,hl,fun _=>lY,?_,?_,fun e he=>(by cases he),by simp[Cr],by simp[Cr],fun p hp=>(by cases hp),fun o ho=>(by cases ho)⟩
 ·show d.torn.length+(if d.down=true then 0 else 1)<=1000;split<;>omega
 ·intro row aD;have:row=[]:=PW aD;subst this;exact⟨by show((([]:List C8).length:Nat):Int)<=sc.ways;have:=k.wy;simp;omega,by simp,by simp⟩
 ·show 1<=(List.replicate sc.sets.toNat []).length;rw[PE];have:=k.st;omega
 ·intro row aD x hx;have:row=[]:=PW aD;subst this;cases hx
 ·show((([]:List Int).length:Nat):Int)<=sc.ghost;have:=k.gs;simp;omega
 ·intro q hq;rcases hq with hq|hq
  ·obtain⟨h,hh,rfl⟩:=NY.1 (show q∈(G4 d).map Kh from hq);exact(Xw hh).1
  ·cases hq
 ·intro x hx;obtain⟨i,hi,rfl⟩:=TM (show x∈r.1 from hx);have eZ:i<d.bs.length:=by omega
  obtain⟨y,hy,hw,-⟩:=lY i _ (NV eZ);rw[NV hi]at hy;obtain rfl:=NI hy;have h1:=ok.nx _ (NO eZ);have h2:=ok.c.w;rw[hw];omega
 ·exact Ae4 (G4 d) 0 (by decide) (by decide) fun h hh=>(Xw hh).2
theorem EJ: ∀(l:List LE) {s:B0} {M:Nat},B9 s M->(∀x∈l,Q4 .i64 x.2.2.1/\x.2.2.2.1<=s.epoch)->B9 (T8 l s) (M+l.length)/\(T8 l s).q=s.q/\(T8 l s).down=s.down
 |[],s,M,h,_=>⟨h,rfl,rfl⟩
 |x::r,s,M,h,hw=>by
  have h1:=h.list x.1 x.2 (hw x (by simp));have h2:=EJ r h1 fun y hy=>hw y (by simp[hy]);exact⟨h2.1.upto (by simp;omega),h2.2.1,h2.2.2⟩
theorem KS(kind:Int): ∀(l:List HD),(∀h∈l,h.2.2.length<=256)->(Dr kind l).length<=l.length*256
 |[],_=>by simp[Dr]
 |x::r,h=>by
  have h1:=h x (by simp);have h2:=KS kind r fun y hy=>h y (by simp[hy]);have h3:=RS (fun y:It=>decide (y.1=kind)) x.2.2;have e:Dr kind (x::r)=((x.2.2.filter fun y=>decide (y.1=kind)).map fun y=>(x,y))++Dr kind r:=rfl;rw[e,NR,NL,NU];omega
def EI(ok:G3 d):(M2 d).length<=4096:=by
 have h1:(M2 d).length<=(Gd d (G4 d)).length:=RS ..;have h2:(Gd d (G4 d)).length<=(Dr 2 (G4 d)).length:=WB ..;have h3:=KS 2 (G4 d) fun h hh=>(Xw hh).1.1;have h4:=(Ih Hp (Ay d d.c.B)).length_eq;have h5:=Wl d d.c.B;have h6:=ok.c.b;have h7:(G4 d).length<=16:=by unfold G4;omega
 omega
def Af1: ∀x∈M2 d,Q4 .i64 x.2.2.1/\x.2.2.2.1<=Bn (G4 d):=fun x hx=>by
 have:=(Tr hx).page;refine⟨Kd (by omega),?_⟩;obtain⟨h,hh,-,e⟩:=(Tr hx).held;rw[<-e];exact(To (G4 d) 0).2 h hh
def Az6:Jn PP 23=true:=by kernel_rfl
def Ac6(a b c d a' b' c' d':Int){k:F7 (.lf .bool)->HP}(hk:k (!decide ((a,b,c,d)=(a',b',c',d'))) L):
  Y8 PP (binOp .neq 23 (.agg #[.i a,.i b,.i c,.i d]) (.agg #[.i a',.i b',.i c',.i d'])) (.lf .bool) k L:=by
 refine Ac5 (r:=(a==a'&&(b==b'&&(c==c'&&(d==d'&&true))))) Az6 (by kernel_rfl) ?_;have e:decide ((a,b,c,d)=(a',b',c',d'))=(a==a'&&(b==b'&&(c==c'&&(d==d'&&true)))):=by
  rw[UT];simp
 rw[e]at hk;exact hk
def Dh(x:W7)(d:B8):Prop:=(((d.c.B:Int),(d.c.P:Int),(d.c.S:Int),(d.c.W:Int))=(x.1,x.2.1,x.2.2.1,x.2.2.2.1))/\(1<=x.2.2.2.2.1/\x.2.2.2.2.1<=64/\1<=x.2.2.2.2.2.1/\x.2.2.2.2.2.1<=8)/\Nx x=true
instance (x:W7) (d:B8):Decidable (Dh x d):=by unfold Dh;infer_instance
def Bu(x:W7)(d:B8)(now:Int):Option B0×Int:=
 if Dh x d then(if d.down=true then(none,11)else match Gq (Q6 x d) d now with
  |none=>(none,2)
  |some s=>(some s,0))else(none,30)
def GQ{x:W7}(h:Dh x d):Aw6 (Q6 x d):=by
 obtain⟨h1,h2,h3⟩:=h;unfold Nx Bj at h3;simp only[PO,QR]at h3;obtain⟨⟨⟨⟨a,b⟩,c⟩,e⟩,f⟩:=h3;exact⟨⟨h2.1,h2.2.1⟩,⟨h2.2.2.1,h2.2.2.2⟩,a,b⟩
def Aw9(x:W7)(m:Nat)(d:B8)(now:Int)(A:B1)(r:Value)(L':B1):Prop:=
 (∃e,Bu x d now=(none,e)/\e≠0/\r= .t #[.q none,.i e]/\L'=A)\/
 (∃s p g,Bu x d now=(some s,0)/\r= .t #[.p p.n,.i 0]/\p.m=m/\L'=SL p s g/\SX p s g/\M5 s (M2 d).length)
def Lm(m:Nat)(nb:Option Addr)(nk nr nq ng ni:Nat)(sc:SC)(ep:Int):List Value:=
  [.i sc.c.B,.i sc.c.P,.i sc.c.S,.i sc.c.W,.i sc.sets,.i sc.ways,.i sc.small,.i sc.ghost,.i sc.rate,.i sc.burst,.i sc.seed,
   .p m,.q nb,.p nk,.map (some nr),.q none,.i ep,.slice none 0 0,.b false,
   .p nq,.p ng,.p ni]
def AQ(m:Nat)(d:B8)(A:B1)(h:FH m d A)(ok:G3 d)(bN:d.torn.length<=999)(x:W7)(now:Int):
  CallF PP 21 #[.agg (ki11 x),.p m,.i now] A (Aw9 x m d now A):=by
 refine(c21 x (some m.z) now).c ?_;have hP:=ok.c.p;have hB:=ok.c.b;refine D8 rfl ?_;have bad: ∀{L J:B1},L.Perm (A++J)-> ¬Dh x d->HL.Ends (Aw9 x m d now A) (.t #[.q none,.i 30]) L:=fun{L J} hp hn=>.drop (A:=A) (J:=J) (.inl ⟨30,by unfold Bu;rw[ND hn],by decide,rfl,rfl⟩) hp;by_cases sC:1<=x.2.2.2.2.1/\x.2.2.2.2.1<=64/\1<=x.2.2.2.2.2.1/\x.2.2.2.2.2.1<=8
 ·obtain⟨sets,tO⟩: ∃k:Nat,x.2.2.2.2.1=k:=⟨x.2.2.2.2.1.toNat,by omega⟩;have oI:=Cc1 sets x.2.2.2.2.2.1 (by omega) (by omega) sC.2.2.1 sC.2.2.2;rw[<-tO]at oI;refine H0 (A:=[]) (R:=A) oI (NH _) ?_;rintro _ Ai ⟨ni,rfl,hAi⟩;refine⟨_,NH _,(some ni.z,0,()),rfl,?_⟩;have aH:(Ai++A).Perm (A++Ai):=OT;generalize Ai++A=L1 at aH;refine V9 (fun _ L'=>Dh x d/\L'=L1) ?_ ?_
  ·rintro _ _ ⟨oT,rfl⟩;dsimp only;have dO:=GQ oT;obtain⟨sc,gD⟩: ∃sc,sc=Q6 x d:=⟨_,rfl⟩;cases aG:d.down with
   |true=>
    refine H0 (Bl3 m d A h aG) aH ?_;rintro _ _ ⟨rfl,cU⟩;rw[cU];refine⟨_,NH _,((⟨none,0,0⟩,⟨none,0,0⟩,0,()),11,()),rfl,Bp (show¬((11:Int)=0) by decide) ?_⟩;exact .drop (A:=A) (J:=Ai) (.inl ⟨11,by unfold Bu;rw[NE oT,NE aG],by decide,rfl,rfl⟩) (NH _)
   |false=>
    have sH:Bu x d now=(match Gq sc d now with
      |none=>(none,2)
      |some s=>(some s,0)):=by unfold Bu;rw[NE oT,ND (by rw[aG];decide),gD]
    refine H0 (Bl4 m d A h ok aG) aH ?_;rintro _ _ ⟨lv,hs,aN,vv,vseg,rfl,rfl,own,aC,bR,vown⟩;refine⟨_,NH _,((lv,vv,Bn (G4 d),()),0,()),rfl,Ew rfl ?_⟩;dsimp only;have hY:((aN++(U1 hs++(vseg++A)))++Ai).Perm (U1 hs++(aN++(vseg++(A++Ai)))):=pc fun z=>by simp only[C3];omega
    generalize (aN++(U1 hs++(vseg++A)))++Ai=L2 at hY;refine H0 (A:=[]) (R:=L2) (Cq4 x.2.2.2.2.2.2.2.2.1 x.2.2.2.2.2.2.2.2.2.1 now 0) (NH _) ?_;rintro _ _ ⟨nk,rfl,rfl⟩;refine⟨(nk,Ca (Ff x.2.2.2.2.2.2.2.2.1 x.2.2.2.2.2.2.2.2.2.1 now 0))::L2,NH _,(some nk.z,()),rfl,?_⟩;refine H0 (A:=[]) (R:=(nk,Ca (Ff x.2.2.2.2.2.2.2.2.1 x.2.2.2.2.2.2.2.2.2.1 now 0))::L2) (Bn6 x.2.2.2.2.2.2.1) (NH _) ?_;rintro _ Aq ⟨nq,rfl,ei⟩;refine⟨Aq++((nk,Ca (Ff x.2.2.2.2.2.2.2.2.1 x.2.2.2.2.2.2.2.2.2.1 now 0))::L2),NH _,(some nq.z,()),rfl,?_⟩;refine H0 (A:=[]) (R:=Aq++((nk,Ca (Ff x.2.2.2.2.2.2.2.2.1 x.2.2.2.2.2.2.2.2.2.1 now 0))::L2)) (Cg7 x.2.2.2.2.2.2.2.1) (NH _) ?_;rintro _ _ ⟨ng,go,rfl,rfl,lK⟩;refine⟨(ng,go)::(Aq++((nk,Ca (Ff x.2.2.2.2.2.2.2.2.1 x.2.2.2.2.2.2.2.2.2.1 now 0))::L2)),NH _,(some ng.z,()),rfl,C9 fun n3 _=>C9 fun n4 _=>?_⟩;have iZ:=dO.sm;have iG:=dO.gs;have esm:L9 x.2.2.2.2.2.2.1 0=sc.small:=by rw[gD];show L9 (Q6 x d).small 0=_;unfold L9;split<;>omega
    have egs:N8 (L9 x.2.2.2.2.2.2.2.1 0) 64=sc.ghost:=by rw[gD];show N8 (L9 (Q6 x d).ghost 0) 64=_;unfold L9 N8;split<;>split<;>omega
    rw[esm]at ei;rw[egs]at lK;obtain⟨F,hF⟩: ∃F:B1,F=aN++(vseg++(A++(Ai++((nk,Ca (Ff sc.rate sc.burst now 0))::(Aq++[(ng,go)]))))):=⟨_,rfl⟩;obtain⟨so,qM⟩: ∃so:Nat×Obj,so=(n4,Obj.cells (Lm m none nk n3 nq ng ni sc (Bn (G4 d))).toArray 88):=⟨_,rfl⟩;have vR:((d.c.B:Int),(d.c.P:Int),(d.c.S:Int),(d.c.W:Int))=(x.1,x.2.1,x.2.2.1,x.2.2.2.1):=oT.1;simp only[QC]at vR;have eso:(n4,Obj.cells #[.i x.1,.i x.2.1,.i x.2.2.1,.i x.2.2.2.1,.i x.2.2.2.2.1,.i x.2.2.2.2.2.1,.i x.2.2.2.2.2.2.1,.i x.2.2.2.2.2.2.2.1,.i x.2.2.2.2.2.2.2.2.1,.i x.2.2.2.2.2.2.2.2.2.1,.i x.2.2.2.2.2.2.2.2.2.2.1,.p m,.q none,.p nk,.map (some n3),.q none,.i (Bn (G4 d)),.slice none 0 0,.b false,.p nq,.p ng,.p ni] 88)=so:=by
     rw[qM,gD,<-vR.1,<-vR.2.1,<-vR.2.2.1,<-vR.2.2.2];rfl
    rw[eso];have sL:hs.length<=16:=by
     have h1:=congrArg List.length bR;rw[NL]at h1;have h2:=(Ih Hp (Ay d d.c.B)).length_eq;have h3:=Wl d d.c.B;unfold G4 at h1;omega
    have oK:=own.sl.els_len HE.enc_len (by decide);have aZ:(hs.map HE.b).Nodup:=by
     have h1:=Zd d;unfold Ar at h1;rw[<-bR,OO]at h1;exact h1
    have l14: ∀{L:B1},so∈L->C0 ⟨n4,14,none⟩ [.map (some n3)] L:=fun hm=>by rw[qM]at hm;exact Gt hm rfl
    refine G1 (fun z' z L'=> ∃(i:Nat) (ns:List RN) (uv:B6) (useg:B1) (es:Array MapEntry) (ck:Nat) (J:B1),z=(uv,(i:Int),())/\z'=hs.length-i/\i<=hs.length/\ns.map RN.r=(hs.take i).map (fun q=>Kh q.dat)/\(∀y∈ns,y.Ok)/\Mp (Value.i) es (Y9 ns)/\C5 uv 1 Ga (O6 .i64 ((hs.take i).map HE.b)) useg/\L'.Perm (so::((n3,Obj.map es ck)::(useg++(D1 ns++(U1 (hs.drop i)++(F++J))))))) hs.length
     ⟨0,[],⟨none,0,0⟩,[],#[],0,[],rfl,rfl,by omega,rfl,by simp,rfl,O5,(pc fun z=>by have:=E8 hY z;rw[hF,gD];simp only[RY,show D1 []=[]from rfl,show(Q6 x d).rate=x.2.2.2.2.2.2.2.2.1 from rfl,show(Q6 x d).burst=x.2.2.2.2.2.2.2.2.2.1 from rfl,C3,D0,E5]at*;omega)⟩ ?_
    rintro z' z L3 ⟨i,ns,uv,useg,es,ck,J,rfl,rfl,hi,uO,uP,pE,cL,aW⟩;dsimp only;have tP: ∀y∈aN,y∈L3:=fun y hy=>aW.symm.subset (by rw[hF];simp[hy]);have hso3:so∈L3:=aW.symm.subset (by simp);refine D6 (fun(hO:(i:Int)<lv.len)=>?_) (fun(aM: ¬(i:Int)<lv.len)=>?_)
    ·have hJ:i<hs.length:=by omega
     refine Bd HE.enc_len (by decide) (own.sl.mono tP) (n:=i) rfl hJ fun a ha=>?_;have nD:hs.drop i=hs[i]::hs.drop (i+1):=OZ hJ;have eF:hs.take (i+1)=hs.take i++[hs[i]]:=OB hJ;have jX:hs[i].b∉(hs.take i).map HE.b:=by
      have h1:=aZ;rw[<-PR i hs,nD,NQ,NS,QA]at h1;exact fun hm=>h1.2.2 _ hm _ (by simp) rfl
     have tW:=aC _ (NO hJ);generalize hs[i]=q at ha nD eF jX tW;refine B5 (sh:=Z5) (q.b,q.ep,q.v,()) ha ?_;have xV:=cL.sl.len;rw[OS,Hi,NL,NW]at xV;refine Iv Yr AO cL (Y:=so::((n3,Obj.map es ck)::(D1 ns++(U1 (hs.drop i)++(F++J))))) (ws:=[.i q.b]) (pc fun z=>by have:=E8 aW z;simp only[C3,D0]at*;omega) rfl rfl (by omega) fun uv' useg' bQ xY=>?_;refine B5 (some n3) (l14 (by simp)) (C9 fun n7 _=>?_);obtain⟨y,hy⟩: ∃y:RN,y=⟨Kh q.dat,n7,q.v,q.seg⟩:=⟨_,rfl⟩;have eyo:(n7,Obj.cells #[Value.i q.b,.i q.ep,.i 0,.slice q.v.a q.v.len q.v.cap] 133)=y.o:=by rw[hy];rfl
     rw[eyo];refine Pf Xi (r:=n3) (es:=es) (clock:=ck) (m:=Y9 ns) (Y:=y.o::(so::(useg'++(D1 ns++(U1 (hs.drop i)++(F++J)))))) (pc fun z=>by simp only[C3,D0];omega) pE q.b (.p n7) fun es' ck' L4 uV bU=>?_;refine H3 (by omega) ⟨hs.length-(i+1),by omega,i+1,ns++[y],uv',useg',es',ck',J,rfl,rfl,by omega,?_,?_,?_,?_,?_⟩
     ·rw[eF,NQ,NQ,uO,hy];rfl
     ·intro w hw;rcases NJ.1 hw with hw|hw
      ·exact uP w hw
      ·rw[NM.1 hw,hy];exact tW
     ·rw[DT _ _ _ (by rw[MF,uO,OO];exact jX)]at uV;have:Y9 (ns++[y])=Y9 ns++[(q.b,.p n7)]:=by unfold Y9;rw[NQ,hy];rfl
      rw[this];exact uV
     ·rw[eF,NQ,Tx];exact xY
     ·refine pc fun z=>?_;have:=E8 bU z;have e1:y.objs=y.o::q.seg:=by rw[hy];rfl
      rw[nD]at this;have e2:U1 (q::hs.drop (i+1))=q.seg++U1 (hs.drop (i+1)):=rfl;rw[e2]at this;rw[ME,Pr,e1];simp only[C3,D0]at*;omega
    ·obtain rfl:i=hs.length:=by omega
     rw[OE]at uO cL;rw[XO]at aW;have bK:(hs.map fun q=>Kh q.dat)=V7 d:=by unfold V7;rw[<-bR,OO];rfl
     rw[bK]at uO;have qH:hs.map HE.b=(V7 d).map E2.b:=by rw[<-bK,OO];rfl
     rw[qH]at cL;have fI:=cL.sl.len;rw[OS,Hi]at fI;have tG:((V7 d).map E2.b).length<=16:=by rw[<-qH,NL];exact sL
     refine H0 (Bd1 m d A h ok) (R:=so::((n3,Obj.map es ck)::(useg++(D1 ns++(aN++(vseg++(Ai++((nk,Ca (Ff sc.rate sc.burst now 0))::(Aq++((ng,go)::J)))))))))) (pc fun z=>by have:=E8 aW z;rw[hF]at this;simp only[show U1 []=[]from rfl,C3,D0,E5]at*;omega) ?_;rintro _ _ ⟨sv,sseg,rfl,rfl,sown⟩;refine⟨_,NH _,(sv,()),rfl,?_⟩;refine O1 (Cq3 _ sv (V6 d) (sown.sl.mono fun y hy=>by simp[hy]) uv ((V7 d).map E2.b) (cL.sl.mono fun y hy=>by simp[hy]) (by omega)) ?_;intro rv L5 _ hK;unfold Jc at hK;cases jX:Bx (V6 d) ((V7 d).map E2.b)with
     |none=>
      rw[jX]at hK;obtain⟨rfl,rfl⟩:=hK;refine⟨(none,2,()),rfl,?_⟩;have mN:Bu x d now=(none,2):=by rw[sH];unfold Gq;rw[jX];rfl
      refine Sd (n:=n4) (k:=12) (Lm m none nk n3 nq ng ni sc (Bn (G4 d))) (cs:=Lm m none nk n3 nq ng ni sc (Bn (G4 d))) (T:=88) (Y:=sseg++(A++((n3,Obj.map es ck)::(useg++(D1 ns++(aN++(vseg++(Ai++((nk,Ca (Ff sc.rate sc.burst now 0))::(Aq++((ng,go)::J))))))))))) (pc fun z=>by rw[<-qM];simp only[C3,D0];omega) (by simp[Lm]) rfl fun L6 jC=>?_;refine Bp (show¬((2:Int)=0) by decide) ?_;rw[<-qM]at jC;exact .drop (A:=A) (J:=so::(sseg++((n3,Obj.map es ck)::(useg++(D1 ns++(aN++(vseg++(Ai++((nk,Ca (Ff sc.rate sc.burst now 0))::(Aq++((ng,go)::J))))))))))) (.inl ⟨2,mN,by decide,rfl,rfl⟩) (pc fun z=>by have:=E8 jC z;simp only[C3,D0]at*;omega)
     |some rr=>
      rw[jX]at hK;obtain⟨nb,Ab,rfl,rfl,hAb,-⟩:=hK;refine⟨(some nb.z,0,()),rfl,?_⟩;obtain⟨r1,r2,r3,r4⟩:=At8 jX;obtain⟨s0,cG⟩: ∃s0,s0=Cr sc d now rr.1:=⟨_,rfl⟩;have mN:Bu x d now=(some (T8 (M2 d) s0),0):=by rw[sH];unfold Gq;rw[jX,cG];rfl
      obtain⟨p,hp⟩: ∃p:SP,p=⟨n4,m,nb,nk,n3,nq,ng,ni⟩:=⟨_,rfl⟩;obtain⟨g,hg⟩: ∃g:SG,g=⟨ns,none,es,ck,⟨none,0,0⟩,[],A,Ab,Aq,Ai,go⟩:=⟨_,rfl⟩;have dx:d.c=sc.c:=by rw[gD];rfl
      have hX:SX p s0 g:=by
       subst hp;subst hg;subst cG;refine⟨dx,h,?_,ei,lK,?_,?_,uO,rfl,?_,O5⟩
       ·have e:(Cr sc d now rr.1).us=rr.2:=by rw[r1];show(V7 d).map E2.b++[]=_;simp
        rw[e];exact hAb
       ·have e:sc.sets.toNat=sets:=by rw[gD];show x.2.2.2.2.1.toNat=sets;omega
        show IX ni sc.ways (List.replicate sc.sets.toNat []) Ai;rw[e,gD];exact hAi
       ·show Mp _ es (Y9 (ns++[]));rw[NP];exact pE
       ·intro y hy;have:y∈ns:=by unfold SG.all at hy;simpa using hy
        exact uP y this
      have aO:F5 p s0 g=(n4,Obj.cells (Lm m (some nb.z) nk n3 nq ng ni sc (Bn (G4 d))).toArray 88):=by
       subst hp;subst hg;subst cG;rfl
      refine Sd (n:=n4) (k:=12) (Lm m (some nb.z) nk n3 nq ng ni sc (Bn (G4 d))) (cs:=Lm m none nk n3 nq ng ni sc (Bn (G4 d))) (T:=88) (Y:=Ab++(sseg++(A++((n3,Obj.map es ck)::(useg++(D1 ns++(aN++(vseg++(Ai++((nk,Ca (Ff sc.rate sc.burst now 0))::(Aq++((ng,go)::J)))))))))))) (pc fun z=>by rw[<-qM];simp only[C3,D0];omega) (by simp[Lm]) rfl fun L6 jC=>?_;rw[<-aO]at jC;have jC:L6.Perm (SL p s0 g++(vseg++(sseg++(useg++(aN++J))))):=pc fun z=>by
       have:=E8 jC z;have e2:kO p s0=(nk,Ca (Ff sc.rate sc.burst now 0)):=by rw[hp,cG];rfl
       have e3:mO p g=(n3,Obj.map es ck):=by rw[hp,hg];rfl
       have e4:gO p g=(ng,go):=by rw[hp,hg];rfl
       simp only[SL,e2,e3,e4,C3,D0,E5];simp only[hg,show D1 (none:Option RN).toList=[]from rfl,C3,D0,E5]at*;omega
      refine Ew rfl ?_;have pM:B9 s0 0:=by rw[cG];exact AL ok dx aG bN (by rw[gD];exact dO) jX
      have df: ∀x∈M2 d,Q4 .i64 x.2.2.1/\x.2.2.2.1<=s0.epoch:=by rw[cG];exact Af1
      have xB:=vown.sl.els_len LE.enc_len (by decide);have hvle:=EI ok;refine G1 (fun z' z L'=> ∃(i:Nat) (g':SG),z=((i:Int),())/\z'=(M2 d).length-i/\i<=(M2 d).length/\SX p (T8 ((M2 d).take i) s0) g'/\L'.Perm (SL p (T8 ((M2 d).take i) s0) g'++(vseg++(sseg++(useg++(aN++J)))))) (M2 d).length ⟨0,g,rfl,rfl,by omega,hX,jC⟩ ?_;rintro z' z L7 ⟨i,g',rfl,rfl,hi,X',kG⟩;dsimp only;refine D6 (fun(hO:(i:Int)<vv.len)=>?_) (fun(aM: ¬(i:Int)<vv.len)=>?_)
      ·have hJ:i<(M2 d).length:=by omega
       have eF:(M2 d).take (i+1)=(M2 d).take i++[(M2 d)[i]]:=OB hJ;refine Bd LE.enc_len (by decide) (vown.sl.mono fun y hy=>kG.symm.subset (by simp[hy])) (n:=i) rfl hJ fun a ha=>?_;have pG:=EJ ((M2 d).take i) pM fun y hy=>df y (RP hy);have nS:((M2 d)[i]).1.size<=1000000:=by
        have:=(Tr (NO hJ)).fetch.2;rw[<-this,Ag8];have:=(An9 d ((M2 d)[i]).2).1;omega
       generalize (M2 d)[i]=y at ha eF nS;refine B5 (sh:=Z6) y ha ?_;have yX:Value.p n4= .p p.n:=by rw[hp]
       rw[yX];refine H0 (KG p _ g' X' pG.1.wy.1 y.1 nS (pG.1.row _).len (OK pG.1.pl (by rw[NW];omega)) y.2) kG ?_;rintro _ _ ⟨g2,nY,X2,rfl⟩;rw[NP]at nY;rw[nY];have kN:T8 ((M2 d).take (i+1)) s0=(T8 ((M2 d).take i) s0).list y.1 y.2:=by rw[eF];unfold T8;rw[XR];rfl
       refine⟨_,NH _,(),rfl,H3 (by omega) ⟨(M2 d).length-(i+1),by omega,i+1,g2,rfl,rfl,by omega,by rw[kN];exact X2,by rw[kN]⟩⟩
      ·obtain rfl:i=(M2 d).length:=by omega
       rw[OE]at X' kG;have pG:=EJ (M2 d) pM df;refine .drop (A:=SL p (T8 (M2 d) s0) g') (J:=vseg++(sseg++(useg++(aN++J)))) (.inr ⟨_,p,g',mN,by rw[hp],by rw[hp],rfl,X',⟨pG.1.upto (by omega),fun _=>by rw[pG.2.1,cG];exact PQ _⟩⟩) kG
  ·intro j1 eP;refine C4 (Va ⟨Ai,aH⟩ h) ((d.c.B,d.c.P,d.c.S,d.c.W,()),()) rfl ?_;refine Ac6 _ _ _ _ _ _ _ _ ?_;refine M0 (fun hZ=>bad aH fun hc=>?_) (fun hZ=>?_)
   ·rw[show decide (((d.c.B:Int),(d.c.P:Int),(d.c.S:Int),(d.c.W:Int))=(x.1,x.2.1,x.2.2.1,x.2.2.2.1))=true from OH hc.1]at hZ;cases hZ
   ·have nB:(((d.c.B:Int),(d.c.P:Int),(d.c.S:Int),(d.c.W:Int))=(x.1,x.2.1,x.2.2.1,x.2.2.2.1)):=by
     by_cases hh:(((d.c.B:Int),(d.c.P:Int),(d.c.S:Int),(d.c.W:Int))=(x.1,x.2.1,x.2.2.1,x.2.2.2.1))
     ·exact hh
     ·rw[show decide (((d.c.B:Int),(d.c.P:Int),(d.c.S:Int),(d.c.W:Int))=(x.1,x.2.1,x.2.2.1,x.2.2.2.1))=false from OF hh]at hZ;cases hZ
    have hq:=nB;simp only[QC]at hq;refine Ew rfl ?_;refine C4 (Cj5 L1 x (by omega)) (Nx x,()) rfl ?_;exact M0 (fun hf=>eP _ _ ⟨⟨nB,sC,hf⟩,rfl⟩) (fun hf=>bad aH fun hc=>by have h9:=hc.2.2;rw[show Nx x=false from hf]at h9;cases h9)
 ·refine C4 (Cc2 A x.2.2.2.2.1 x.2.2.2.2.2.1 (by omega)) (none,30,()) rfl ?_;have hn: ¬Dh x d:=fun hc=>sC hc.2.1;refine V9 (fun _ _=>False) (fun _ _ hf=>hf.elim) fun j1 _=>?_;refine C4 (Va ⟨[],by simp⟩ h) ((d.c.B,d.c.P,d.c.S,d.c.W,()),()) rfl ?_;refine Ac6 _ _ _ _ _ _ _ _ ?_;exact M0 (fun _=>bad (J:=[]) (by simp) hn) (fun _=>Bp (show¬((30:Int)=0) by decide) (bad (J:=[]) (by simp) hn))
def Co5{p:Int}(hm:Hq m)(h:n<=m):H9 n p<=m:=by
 unfold Hq at hm;simp only[H9,Dg]
 repeat' split
 all_goals omega
def Co6{p:Int}(h:H9 n p≠0):Hq (H9 n p):=by
 unfold Hq;simp only[H9,Dg]at h⊢
 repeat' split
 all_goals first|omega|(exfalso;rename_i h1 _ _ _;simp_all)
def Ah1{b:List UInt8}(h:(V2 b).2.2=0):(V2 b).1.length+(V2 b).2.1.length+12=b.length/\1<=(V2 b).1.length/\(V2 b).1.length<=255/\(V2 b).2.1.length<=65536:=by
 obtain⟨-,q2,-,q4⟩:=Oy (b:=b) (a:=0) (PQ _);obtain⟨-,w2,w3,w4⟩:=Oy (b:=b) (a:=(H5 b 0).2.1) q2;have hg:=(Pd b (H5 b (H5 b 0).2.1).2.1 4).2.2.2;unfold V2 at h⊢;split at h
 ·rename_i h1;exact absurd h h1
 ·rename_i h1;rw[ND h1];split at h
  ·rename_i h2;exact absurd h h2
  ·rename_i h2;rw[ND h2];split at h
   ·rename_i h3;exact absurd h h3
   ·rename_i h3;rw[ND h3];split at h
    ·cases h
    ·rename_i h4;rw[ND h4];split at h
     ·cases h
     ·rename_i h5;rw[ND h5];have e1:=q4 (PA.1 h1);have e2:=w4 (PA.1 h2);have e3:=hg (PA.1 h3);simp only;exact⟨by omega,by omega,by omega,w3⟩
theorem Am1{r:Nat}: ∀{l:List (List UInt8)},(∀x∈l,x.length<=r)->l.flatten.length<=l.length*r
 |[],_=>by simp
 |x::t,h=>by
  have h1:=Am1 (l:=t) fun y hy=>h y (by simp[hy]);have h2:=h x (by simp);rw[UP,NR,NU,RV];omega
def Bl5(ok:G3 d){p:Int}{l:List UInt8}(h:(I5 d b p).1=l)(h64:64<=l.length):l.length=d.c.S:=by
 have hP:=ok.c.p;unfold I5 at h;split at h
 ·rw[<-h]at h64;exact absurd h64 (show¬64<=([]:List UInt8).length by decide)
 ·split at h
  ·rw[<-h]at h64;exact absurd h64 (show¬64<=([]:List UInt8).length by decide)
  ·rename_i k hk;split at h
   ·rw[<-h];unfold blk;simp
   ·rw[<-h]at h64⊢;simp only[NX]at h64⊢;cases hq:k.pages[p.toNat]? with
    |none=>rw[hq]at h64;exact absurd h64 (show¬64<=([]:List UInt8).length by decide)
    |some pg=>exact(ok.pg k (QI hk)).2 pg (QI hq)
def Br6(ok:G3 d){pg:Int}:(R6 d b pg).2.1.length<=d.c.S-16:=by
 unfold R6;split
 ·split
  ·rename_i h;obtain⟨a1,-,a3,-,-⟩:=Lv h;rw[Bl5 ok rfl a1.1]at a3;exact a3
  ·simp
 ·simp
theorem Aa5{d:B8}(ok:G3 d){b pg:Int}: ∀{n:Nat} {l:List (List UInt8)},Al d b pg n=some l-> ∀x∈l,x.length<=d.c.S-16
 |0,l,h=>by obtain rfl:=NI h;simp
 |n+1,l,h=>by
  rw[Al]at h;split at h
  ·rename_i l' bQ;split at h
   ·obtain rfl:=NI h;intro x hx;rcases NJ.1 hx with hx|hx
    ·exact Aa5 ok bQ x hx
    ·rw[NM.1 hx];exact Br6 ok
   ·cases h
  ·cases h
def Ao0(ok:G3 d)(h:(C7 d p).2.2=0): ∃k pg,E7 d p.1=some k/\k.pages[p.2.1.toNat]?=some pg/\(C1 pg).2.2=0/\(C1 pg).1.1=2/\((C7 d p).1.length+(C7 d p).2.1.length+12:Int)<=(C1 pg).1.2.2.1*(d.c.S-16:Int):=by
 have hS:=ok.c.s;unfold C7 at h⊢;split at h
 ·rename_i h0;exact absurd h h0
 ·rename_i h0;rw[ND h0];split at h
  ·rename_i h1;rw[NE h1];split at h
   ·rename_i l hl;obtain⟨hp,hh⟩:=h1;obtain⟨r1,r2,r3⟩:=CL hp;obtain⟨-,r4,r5,-,-⟩:=Lv r2;rw[r3]at hh hl;have hC:=(CK ok hl).1;have fA:=Am1 (Aa5 ok hl);rw[hC]at fA;have hj:=(Ah1 h).1;have hf:H6 d p.1 p.2.1=0:=by rw[<-Wk ok];exact r1
    obtain⟨-,f1,f2,f3,f4⟩:=Js hf;have hi:p.1.toNat<d.bs.length:=by omega
    obtain⟨pg,bI⟩: ∃pg,pg=(I5 d p.1 p.2.1).1:=⟨_,rfl⟩;have dE:=bI;unfold I5 at dE;rw[ND (by simpa using hf),NV hi]at dE;dsimp only at dE;rw[<-bI]at r2 hh hl fA r4;have mK:1<=(C1 pg).1.2.2.1:=by
     have:=Ik r4;omega
    split at dE
    ·rw[dE]at r2;exact absurd r2 (Oi _)
    ·have aQ:=(ok.pg d.bs[p.1.toNat] (NO hi)).1;refine⟨d.bs[p.1.toNat],pg,?_,?_,r2,hh.1,?_⟩
     ·unfold E7;rw[NE f1,NV hi]
     ·rw[dE];show _=some ((d.bs[p.1.toNat]).pages.getD p.2.1.toNat []);rw[NX,NV (by omega)];rfl
     ·have e1:(((C1 pg).1.2.2.1.toNat*(d.c.S-16):Nat):Int)=(C1 pg).1.2.2.1*(d.c.S-16:Int):=by
       rw[TD,TJ (by omega),Int.natCast_sub (by omega)];rfl
      rw[<-e1];omega
   ·cases h
  ·cases h
def Uz{key:List UInt8}(h:(F8 key val c).2=0):Ju c.2.1 (F8 key val c).1.length:=by
 unfold F8 at h⊢;split at h
 ·cases h
 ·rename_i h1;rw[ND h1];split at h
  ·cases h
  ·rename_i h2;rw[ND h2];split at h
   ·cases h
   ·rename_i h3;rw[ND h3];have hc:Hq (Q3 key.length val.length c):=by
     unfold Q3 at h3⊢;split at h3
     ·exact absurd rfl h3
     ·rename_i h4;rw[ND h4];exact Co6 h3
    have bF:0<=Q3 key.length val.length c:=by unfold Hq at hc;omega
    have bV:=(Py h3).2.2.2.2.2.2.2.1;show Ju c.2.1 ((Ek _ _ _).length:Nat);unfold Ek;rw[NL,SW,TJ bF];exact⟨hc,by omega⟩
def Ar4{key:List UInt8}(hm:Hq m)(h:(key.length+val.length+12:Int)<=m*E0 c.2.2.1):((F8 key val c).1.length:Int)<=m:=by
 have qY:1<=m:=by unfold Hq at hm;omega
 unfold F8;split
 ·show((0:Nat):Int)<=m;omega
 ·split
  ·show((0:Nat):Int)<=m;omega
  ·split
   ·show((0:Nat):Int)<=m;omega
   ·rename_i h3;obtain⟨-,-,-,-,h0,h1,-⟩:=Py h3;have hr:=Nd h0;show((Ek _ _ _).length:Int)<=m;unfold Ek;rw[NL,SW,TJ (by omega)];unfold Q3 at h3⊢;split at h3
    ·exact absurd rfl h3
    ·rename_i h4;rw[ND h4];refine Co5 hm (Int.lt_add_one_iff.1 (ZF (by omega) ?_));rw[UB];omega
structure F4(s:B0):Prop where
 db:DB s.d
 rs: ∀r∈s.rs,N6 r.ep s.d r.b r.l
 op: ∀o,s.op=some o->N6 o.ep s.d o.b o.l/\ ∀x∈o.l,0<=x.2.1/\x.2.1<o.nx
def F4.congr(h:F4 s)(h1:s'.d=s.d)(h2:s'.rs=s.rs)(h3:s'.op=s.op):F4 s':=⟨by rw[h1];exact h.db,by rw[h1,h2];exact h.rs,by rw[h1,h3];exact h.op⟩
def N6.app{l l':List It}(h:N6 e d b l)(h':N6 e d b l'):N6 e d b (l++l'):=fun k hk x hx=>by
 rcases NJ.1 hx with hx|hx
 ·exact h k hk x hx
 ·exact h' k hk x hx
section
variable {s:B0} {M:Nat}
def B9.opne(ok:B9 s M)(ho:s.op=some o)(hr:r∈s.rs):r.b≠o.b:=fun e=>by
 have aZ:=ok.use.1;unfold B0.us at aZ;rw[ho]at aZ;exact(QA.1 aZ).2.2 r.b (OQ hr) o.b (by simp) e
def B9.kills(ok:B9 s M){n:Nat}(h:(K9 (s.pend.take n)).2=0):((([(K9 (s.pend.take n)).1]:List (List UInt8)).length:Nat):Int)=1/\ ∀p∈[(K9 (s.pend.take n)).1],∀y∈(V1 p).1,y.2.2.1<=s.epoch:=⟨rfl,fun p hp y hy=>by
 rw[NM.1 hp,Ag5 h]at hy;exact ok.pe y (RP hy)⟩
def F4.write(h:F4 s)(ok:B9 s M)(hd:s.down=false)(hk:kind=2\/kind=3)(l:List (List UInt8))(hc:kind=2->Ju s.sc.c.P l.length)(h3:kind=3->(l.length:Int)=1/\ ∀p∈l,∀y∈(V1 p).1,y.2.2.1<=s.epoch):
  F4 (s.write kind l).1/\ ∀e b' l',N6 e s.d b' l'->(∀o,s.op=some o->b'≠o.b)->N6 e (s.write kind l).1.d b' l':=by
 unfold B0.write;split
 ·exact⟨h,fun _ b' l' hl _=>hl⟩
 ·rename_i o ho;obtain⟨o1,o2⟩:=h.op o ho;obtain⟨q1,q2,q3⟩:=Cs8 h.db o.b o.ep (at':=o.nx) (kind:=kind) (by omega) (by have:=ok.op o ho;omega) l (by rw[ok.cfg];exact hc) (by rw[ok.oe o ho];exact h3);obtain⟨-,hZ⟩:=Zl ok.dv (by rw[<-ok.dn];exact hd) o.b o.ep o.nx kind l;dsimp only;generalize S1 s.d o.b o.ep o.nx kind l=q at q1 q2 q3 hZ;have cK: ∀r∈s.rs,N6 r.ep q.2 r.b r.l:=fun r hr=>q2 _ r.b r.l (h.rs r hr) fun e=>absurd e (ok.opne ho hr);have bG:N6 o.ep q.2 o.b o.l:=q2 _ o.b o.l o1 fun _=>o2;by_cases h0:q.1=0
  ·rw[ND (by simpa using h0)];refine⟨⟨q1,cK,fun o' bH=>?_⟩,fun _ b' l' hl hx=>q2 _ b' l' hl fun e=>absurd e (hx o ho)⟩;obtain rfl:=NI bH;obtain⟨jH,oJ,iQ⟩:=hZ h0;have fF:1<=l.length:=by cases l with|nil=>exact absurd rfl jH|cons a b=>simp
   refine⟨bG.app (l':=[(kind,o.nx,(l.length:Int),())]) (q3 h0),fun x hx=>?_⟩;show 0<=x.2.1/\x.2.1<o.nx+l.length;rcases NJ.1 hx with hx|hx
   ·have:=o2 x hx;omega
   ·rw[NM.1 hx];simp only;omega
  ·rw[NE (by simpa using h0)];exact⟨⟨q1,cK,fun o' bH=>by
    have:s.op=some o':=bH;rw[ho]at this;rw[<-NI this];exact⟨bG,o2⟩⟩,fun _ b' l' hl hx=>q2 _ b' l' hl fun e=>absurd e (hx o ho)⟩
def F4.seals(h:F4 s)(ok:B9 s M):F4 s.seals.1:=by
 unfold B0.seals;split
 ·exact h
 ·rename_i o ho;obtain⟨o1,o2⟩:=h.op o ho;obtain⟨q1,q2⟩:=Bh1 h.db o.b o.ep o.nx o.l o1;dsimp only;generalize U7 s.d o.b o.ep o.nx o.l=q at q1 q2;refine⟨q1,fun r hr=>?_,fun o' bH=>by cases bH⟩;rcases NJ.1 hr with hr|hr
  ·exact q2 _ r.b r.l (h.rs r hr) fun e=>absurd e (ok.opne ho hr)
  ·rw[NM.1 hr];exact q2 _ o.b o.l o1 fun _=>o2
def F4.begins(h:F4 s)(bG:s.op=none)(iT:b∉s.us):F4 (s.begins b).1:=by
 obtain⟨q1,q2⟩:=Bt3 h.db b (s.epoch+1);unfold B0.begins;dsimp only;generalize U9 s.d b (s.epoch+1)=q at q1 q2;have cK: ∀r∈s.rs,N6 r.ep q.2 r.b r.l:=fun r hr=>q2 _ r.b r.l (h.rs r hr) fun e=>absurd (e▸(show r.b∈s.us by unfold B0.us;exact OA _ (OQ hr))) iT;split
 ·exact⟨q1,cK,fun o' bH=>by
   have:s.op=some o':=bH;rw[bG]at this;cases this⟩
 ·exact⟨q1,cK,fun o' bH=>by
   obtain rfl:=NI bH;exact⟨fun k _ x hx=>(by cases hx),fun x hx=>(by cases hx)⟩⟩
def F4.erase(h:F4 s)(ok:B9 s M)(hd:s.down=false)(hg:I6 s.ss b=true):F4 (s.erase b).1:=by
 obtain⟨kb,hk,bD⟩: ∃kb,E7 s.d b=some kb/\kb.bad=false:=by
  obtain⟨h0,hi,bL⟩:=El hg;have eZ:b.toNat<s.d.bs.length:=by rw[<-ok.ssl];exact hi
  obtain⟨x,hx,-,sX⟩:=ok.ssd hd b.toNat _ (NV eZ);rw[NV hi]at hx;refine⟨s.d.bs[b.toNat],?_,?_⟩
  ·unfold E7;rw[NE h0,NV eZ]
  ·rw[<-sX,<-NI hx];exact bL
 obtain⟨q1,q2⟩:=Cl2 h.db ok.dv (by rw[<-ok.dn];exact hd) hk bD;unfold B0.erase;dsimp only;generalize M3 s.d b=q at q1 q2;split
 ·exact⟨q1,fun r hr=>q2 _ _ _ (h.rs r hr),fun o ho=>⟨q2 _ _ _ (h.op o ho).1,(h.op o ho).2⟩⟩
 ·exact⟨q1,fun r hr=>q2 _ _ _ (h.rs r (OI.1 hr).1),fun o ho=>⟨q2 _ _ _ (h.op o ho).1,(h.op o ho).2⟩⟩
def F4.move(h:F4 s)(ok:B9 s M)(hd:s.down=false)(h2:x.1=2)(hT:N6 e0 s.d b [x])(iU:0<=beside):
  F4 (s.move (b,x.2.1,ep,()) x.2.2.1 beside).1/\ ∀e b' l',N6 e s.d b' l'->(∀o,s.op=some o->b'≠o.b)->N6 e (s.move (b,x.2.1,ep,()) x.2.2.1 beside).1.d b' l':=by
 have hS:=ok.S;unfold B0.move;dsimp only;split
 ·exact⟨h,fun _ b' l' hl _=>hl⟩
 ·rename_i hf;rw[PS]at hf;split
  ·exact⟨h.congr rfl rfl rfl,fun _ b' l' hl _=>hl⟩
  ·rename_i hc;rw[PS,PS]at hc;split
   ·exact⟨h,fun _ b' l' hl _=>hl⟩
   ·rename_i cE;obtain⟨k,pg,f1,f2,f3,f4,f5⟩:=Ao0 ok.dv (p:=(b,x.2.1,ep,())) (PA.1 hf.1);have bV:(C1 pg).1.2.2.1<=x.2.2.1:=(hT k f1 x (by simp) pg f2 f3).1 h2;have cI:=((h.db b k f1).pg _ pg f2 f3).1 f4;have aK:E0 (H2 s.sc.c).2.2.1=(s.d.c.S-16:Int):=by
     show E0 (s.sc.c.S:Int)=_;unfold E0;rw[NE (by omega),ok.cfg]
    have hC:=Ar4 (c:=H2 s.sc.c) cI.1 (by rw[aK];exact f5);have hw:=h.write ok hd (kind:=2) (.inl rfl) _ (fun _=>Uz (PA.1 cE)) (fun h=>absurd (show(2:Int)=3 from h) (by decide));split
    ·exact⟨hw.1.congr rfl rfl rfl,hw.2⟩
    ·exact hw
theorem F4.moves{e0 b ep beside:Int}(iU:0<=beside): ∀(l:List It) {s:B0} {M:Nat},F4 s->B9 s M->s.down=false->N6 e0 s.d b l->(∀o,s.op=some o->b≠o.b)->F4 (B0.moves b ep beside l s).1
 |[],s,M,h,ok,hd,hT,ho=>h
 |x::r,s,M,h,ok,hd,hT,ho=>by
  have wF:N6 e0 s.d b r:=fun k hk y hy=>hT k hk y (NN _ hy);unfold B0.moves;split
  ·exact F4.moves iU r h ok hd wF ho
  ·rename_i hx;have h1:=ok.move hd (b,x.2.1,ep,()) x.2.2.1 beside;obtain⟨h2,h3⟩:=h.move ok hd (ep:=ep) (PA.1 hx) (fun k hk y hy=>hT k hk y (by rw[NM.1 hy];simp)) iU;dsimp only;split
   ·exact h2
   ·rename_i h0;refine F4.moves iU r h2 h1.1 (h1.2.1 (by simpa using h0)) (h3 _ b r wF ho) fun o' bH e=>?_;have:=h1.2.2.ob;rw[bH]at this;cases hq:s.op with
    |none=>rw[hq]at this;cases this
    |some o2=>
     rw[hq]at this;exact ho o2 hq (e.trans (NI this))
def F4.reclaim(h:F4 s)(ok:B9 s M)(hd:s.down=false)(hr:s.rs=r::t)(iU:0<=beside):F4 (s.reclaim r beside).1:=by
 have lA:r∈s.rs:=by rw[hr];simp
 obtain⟨h1,h2,mv⟩:=B9.moves (b:=r.b) (ep:=r.ep) (beside:=beside) r.l ok hd;have h3:=F4.moves (b:=r.b) (ep:=r.ep) iU r.l h ok hd (h.rs r lA) fun o ho=>ok.opne ho lA;unfold B0.reclaim;dsimp only;split
 ·exact h3
 ·rename_i h0;have hc:=h1.cutp r.b;have hg:I6 (B0.moves r.b r.ep beside r.l s).1.ss r.b=true:=by
   rw[mv.ss];exact ok.use.2 r.b (by unfold B0.us;exact OA _ (OQ lA))
  exact F4.erase (s:={(B0.moves r.b r.ep beside r.l s).1 with pend:=(B0.moves r.b r.ep beside r.l s).1.pend.filter fun p=> !decide (p.1=r.b)}) (h3.congr rfl rfl rfl) hc (h2 (by simpa using h0)) hg
theorem F4.frees{n:Int}(hn:0<=n): ∀(j:Nat) {s:B0} {M:Nat},F4 s->B9 s M->s.down=false->F4 (B0.frees n j s).1
 |0,s,M,h,ok,hd=>h
 |j+1,s,M,h,ok,hd=>by
  unfold B0.frees;split
  ·split
   ·exact h
   ·rename_i r t hr;have h1:=ok.reclaim hd hr n;have h2:=h.reclaim ok hd hr hn;dsimp only;split
    ·exact h2
    ·rename_i h0;exact F4.frees hn j h2 h1.1 (h1.2.1 (by simpa using h0)).1
  ·exact h
def F4.more(h:F4 s)(ok:B9 s M)(hd:s.down=false)(hn:0<=n):F4 (s.more n).1:=by
 have hS:=ok.S;unfold B0.more;split
 ·exact h
 split
 ·exact h
 rename_i bS;split
 ·split
  ·exact h
  ·rename_i r t hr;exact h.reclaim ok hd hr hn
 rename_i dG;obtain⟨s1,s2,s3,s4,s5,s6,s7⟩:=ok.seals hd;have w1:=h.seals ok;dsimp only;generalize s.seals=w at s1 s2 s3 s4 s5 s6 s7 w1;split
 ·exact w1
 rename_i h0;have jK:=s2 (by simpa using h0);have cD:w.1.free≠0:=by
  unfold B0.free at dG⊢;rw[s5,s4];exact dG
 obtain⟨p1,p2⟩:=Ta cD;obtain⟨z,hz,z1,z2,z3,z4,z5,z6⟩:=s1.picks jK s3 cD;have nP:F4 z.1:=by
  rw[hz];split
  ·exact F4.erase w1 s1 jK (Di p1).1
  ·exact w1
 rw[<-hz];clear hz;generalize G5 w.1.ss w.1.us=pk at z6 p1 p2;split
 ·exact nP
 rename_i dT;obtain⟨y1,y2,y3,y4,y5⟩:=z6 (by simpa using dT);split
 ·exact nP
 rename_i eE;obtain⟨f1,f2⟩:=y5 eE;have pX:=F4.begins nP z2 (Di f1).2;have aC:=z1.begins y1 z2 (by rw[z4,s6];omega) f1;split
 ·exact pX
 rename_i kV;exact F4.frees hn _ pX aC.1 (aC.2 (by simpa using kV)).1
theorem F4.room{n:Int}(hn:0<=n): ∀(j:Nat) {s:B0} {M:Nat},F4 s->B9 s M->s.down=false->F4 (B0.room n j s).1
 |0,s,M,h,ok,hd=>h
 |j+1,s,M,h,ok,hd=>by
  rw[Je];split
  ·split<;>exact h
  ·have h1:=ok.more hd hn;have h2:=h.more ok hd hn;split
   ·exact h2
   ·rename_i h0;exact F4.room hn j h2 h1.1 (h1.2.1 (by simpa using h0)).1
def F4.adm(h:F4 s)(ok:B9 s M)(hd:s.down=false)(key:ByteArray)(val:List UInt8):F4 (s.adm key val).1:=by
 unfold B0.adm;dsimp only;split
 ·exact h
 ·rename_i cE;have h1:F4 (s.roomy (F8 key.data.toList val (H2 s.sc.c)).1.length).1:=F4.room (by omega) _ h ok hd;obtain⟨h2,h3,h4⟩:=ok.roomy hd (n:=((F8 key.data.toList val (H2 s.sc.c)).1.length:Int)) (by omega);split
  ·exact h1
  ·rename_i h0;have h0:=PA.1 h0;have h5:=(h1.write h2 (h3 h0).1 (kind:=2) (.inl rfl) _ (fun _=>by rw[h4];exact Uz (PA.1 cE)) (fun h=>absurd (show(2:Int)=3 from h) (by decide))).1;split
   ·exact h5.congr rfl rfl rfl
   ·exact h5
def F4.forget(h:F4 s)(key:ByteArray):F4 (s.forget key).1:=by
 unfold B0.forget;dsimp only;split<;>exact h.congr rfl rfl rfl
theorem F4.trim: ∀(j:Nat) {s:B0} {M:Nat},F4 s->B9 s M->s.down=false->F4 (B0.trim j s).1
 |0,s,M,h,ok,hd=>h
 |j+1,s,M,h,ok,hd=>by
  unfold B0.trim;split
  ·cases hq:s.q with
   |nil=>exact h
   |cons y r=>
    dsimp only;have gZ:=ok.qs;have fC:=ok.ql;rw[hq]at gZ fC;have h1:B9 {s with q:=r} M:=ok.setq (fun e he=>gZ e (NN _ he)) (by simp at fC;omega);have b0:F4 {s with q:=r}:=h.congr rfl rfl rfl;have hw:B9 (if y.2.2>0 then({s with q:=r}:B0).adm y.1 y.2.1 else({s with q:=r},8)).1 (M+1)/\F4 (if y.2.2>0 then({s with q:=r}:B0).adm y.1 y.2.1 else({s with q:=r},8)).1/\((if y.2.2>0 then({s with q:=r}:B0).adm y.1 y.2.1 else({s with q:=r},8)).2≠11->(if y.2.2>0 then({s with q:=r}:B0).adm y.1 y.2.1 else({s with q:=r},8)).1.down=false)/\(if y.2.2>0 then({s with q:=r}:B0).adm y.1 y.2.1 else({s with q:=r},8)).1.sc=s.sc:=by
     split
     ·have ha:=h1.adm hd y.1 y.2.1;exact⟨ha.1,b0.adm h1 hd _ _,fun hn=>(Jw _ _ _ hn).trans hd,ha.2⟩
     ·exact⟨h1.upto (by omega),b0,fun _=>hd,rfl⟩
    generalize (if y.2.2>0 then({s with q:=r}:B0).adm y.1 y.2.1 else({s with q:=r},8))=w at hw;obtain⟨k1,k2,k3,k4⟩:=hw;split
    ·rename_i h0;exact F4.trim j k2 k1 (k3 (by rw[h0];decide))
    ·split
     ·exact k2
     ·rename_i h0 h11;have k5:F4 {w.1 with gh:=Dz s.sc.ghost w.1.gh (s.hash y.1)}:=k2.congr rfl rfl rfl;refine F4.trim j k5 (k1.setgh (gh:=Dz s.sc.ghost w.1.gh (s.hash y.1)) ?_) (k3 h11);have h6:=k1.gl;have h7:=k1.gs;rw[k4]at h6 h7⊢;exact Pp h7.1 h6 _
  ·exact h
def F4.putYoung(h:F4 s)(ok:B9 s M)(hd:s.down=false)(hq:s.q.length<=65536)(hk:1<=key.size/\key.size<=255)(hv:val.length<=65536):F4 (s.putYoung key val).1:=by
 have h1:=(ok.putYoung hd hq hk hv).1;have b0:F4 {s with q:=P7 s.q key++[(key,val,0)]}:=h.congr rfl rfl rfl;unfold B0.putYoung;exact F4.trim _ b0 h1 hd
def F4.put(h:F4 s)(iv:M5 s M)(key:ByteArray)(val:List UInt8):F4 (s.put key val).1:=by
 unfold B0.put;split
 ·exact h
 ·rename_i ha;obtain⟨hd,hk⟩:=Mj (s:=s) (key:=key) (by simpa using ha);split
  ·exact h
  ·rename_i hv;obtain⟨f1,f2,f3,f4,f5⟩:=iv.ok.forget key;have fK:(s.forget key).1.q.length<=65536:=by rw[f4];exact OK (Iq _ _) (iv.q hd)
   have dB:(s.forget key).1.down=false:=f2.trans hd;have h1:=h.forget key;dsimp only;generalize (s.forget key).1=s1 at f1 f2 f3 f4 f5 fK dB h1;split
   ·exact h1
   ·split
    ·have hg:B9 {s1 with gh:=s1.gh.erase ((s.hash key:Nat):Int)} (M+1):=f1.setgh (by have h1:=f1.gl;have h2:(s1.gh.erase ((s.hash key:Nat):Int)).length<=s1.gh.length:=TK;omega);have b0:F4 {s1 with gh:=s1.gh.erase ((s.hash key:Nat):Int)}:=h1.congr rfl rfl rfl;have a0:=b0.adm hg dB key val;obtain⟨a1,a2⟩:=hg.adm dB key val;have a3:=Ol {s1 with gh:=s1.gh.erase ((s.hash key:Nat):Int)} key val;have a4:=Jw {s1 with gh:=s1.gh.erase ((s.hash key:Nat):Int)} key val;generalize ({s1 with gh:=s1.gh.erase ((s.hash key:Nat):Int)}:B0).adm key val=w at a0 a1 a2 a3 a4;have gK:w.1.q.length<=65536:=by rw[a3.1];exact fK
     split
     ·exact a0
     ·rename_i hw;rw[PS]at hw;exact a0.putYoung a1 ((a4 hw.2).trans dB) gK hk (by omega)
    ·exact h1.putYoung f1 dB fK hk (by omega)
def F4.get(h:F4 s)(key:ByteArray):F4 (s.get key).1:=by
 unfold B0.get;split
 ·exact h
 ·split
  ·exact h.congr rfl rfl rfl
  ·split
   ·exact h
   ·exact h.congr rfl rfl rfl
def F4.delete(h:F4 s)(key:ByteArray):F4 (s.delete key).1:=by
 unfold B0.delete;split
 ·exact h
 ·exact h.forget key
theorem F4.flushes: ∀(j:Nat) {s:B0} {M:Nat},F4 s->M5 s M->s.down=false->F4 (B0.flushes j s).1
 |0,s,M,h,iv,hd=>h
 |j+1,s,M,h,iv,hd=>by
  unfold B0.flushes;split
  ·exact h
  ·obtain⟨a1,a2,a3⟩:=iv.ok.roomy hd (n:=1) (by decide);have a4:F4 (s.roomy 1).1:=F4.room (n:=1) (by decide) _ h iv.ok hd;have aq:(s.roomy 1).1.q=s.q:=(Nc 1 (s.mu+1) s).1;dsimp only;generalize s.roomy 1=w at a1 a2 a3 a4 aq;split
   ·exact a4
   ·rename_i h0;have h0:=PA.1 h0;obtain⟨b1,b2⟩:=a2 h0;split
    ·exact a4
    ·split
     ·exact a4
     ·rename_i pJ;have w2:=(a4.write a1 b1 (kind:=3) (.inr rfl) [(K9 (w.1.pend.take (min w.1.pend.length (E0 w.1.sc.c.S/6).toNat))).1] (fun h=>absurd (show(3:Int)=2 from h) (by decide)) (fun _=>a1.kills (PA.1 pJ))).1;obtain⟨c1,c2⟩:=a1.write b1 3 [(K9 (w.1.pend.take (min w.1.pend.length (E0 w.1.sc.c.S/6).toNat))).1];have cq:=Oz w.1 3 [(K9 (w.1.pend.take (min w.1.pend.length (E0 w.1.sc.c.S/6).toNat))).1];generalize w.1.write 3 [(K9 (w.1.pend.take (min w.1.pend.length (E0 w.1.sc.c.S/6).toNat))).1]=z at w2 c1 c2 cq;split
      ·exact w2
      ·rename_i h1;have h1:z.2.2=0:=by simpa using h1
       have i4:M5 {z.1 with pend:=z.1.pend.drop (min w.1.pend.length (E0 w.1.sc.c.S/6).toNat)} M:=⟨c1.dropp _,fun _=>by show z.1.q.length<=65536;rw[cq.1,aq];exact iv.q hd⟩;have b5:F4 {z.1 with pend:=z.1.pend.drop (min w.1.pend.length (E0 w.1.sc.c.S/6).toNat)}:=w2.congr rfl rfl rfl;exact F4.flushes j b5 i4 (c2 h1)
def F4.flush(h:F4 s)(iv:M5 s M):F4 s.flush.1:=by
 unfold B0.flush;split
 ·exact h
 ·rename_i hd;exact F4.flushes _ h iv (by simpa using hd)
end
def Co9(n r:Nat)(b:List UInt8):(Ek n r b).flatten=b.take (n*r):=by
 induction n with
 |zero=>simp[Ek]
 |succ n ih=>rw[As1,List.flatten_append,ih,RV,Nat.one_mul,List.take_add];simp
def Aq7{p:List UInt8}(n:Nat)(q:List UInt8)(hn:n<4294967296):J5 (p++(E4 n 4++q)) p.length 4=((n:Int),0):=by
 have h:=Ru (b:=p++(E4 n 4++q)) (a:=p.length) (w:=4) (by decide) (by decide) (by rw[NR,NR,Df];omega);refine h.trans ?_;rw[List.drop_left,SR (Df n 4),Pz 4 n (by show n<4294967296;omega)]
def JA{p l q:List UInt8}(hl:l.length<=65536):H5 (p++(E4 l.length 4++(l++q))) p.length=(l,p.length+4+l.length,0):=by
 have hg:=Aq7 (p:=p) l.length (l++q) (by omega);unfold H5;rw[hg,ND (by simp),ND (by simp only;omega),ND (by rw[NR,NR,NR,Df];simp only;omega)];simp only[NK];have:(p++(E4 l.length 4++(l++q))).drop (p.length+4)=l++q:=by
  rw[<-QB,List.drop_left,TG (Df _ _)]
 rw[this,List.take_left]
def Ca5{key:List UInt8}(h1:1<=key.length)(h2:key.length<=255)(h3:val.length<=65536):V2 (Cm key val)=(key,val,0):=by
 have hb:=GE key val;have hc:0<=K0 (T0 key val)/\K0 (T0 key val)<4294967296:=Oc 0 _;have e1:Cm key val=[]++(E4 key.length 4++(key++(E4 val.length 4++(val++E4 (K0 (T0 key val)).toNat 4)))):=by simp[Cm,T0]
 have e2:Cm key val=(E4 key.length 4++key)++(E4 val.length 4++(val++E4 (K0 (T0 key val)).toNat 4)):=by simp[Cm,T0]
 have e3:Cm key val=T0 key val++(E4 (K0 (T0 key val)).toNat 4++[]):=by simp[Cm]
 have t1:H5 (Cm key val) 0=(key,4+key.length,0):=by
  rw[e1];have:=JA (p:=[]) (l:=key) (q:=E4 val.length 4++(val++E4 (K0 (T0 key val)).toNat 4)) (by omega);simpa using this
 have t2:H5 (Cm key val) (4+key.length)=(val,4+key.length+4+val.length,0):=by
  rw[e2];have:=JA (p:=E4 key.length 4++key) (l:=val) (q:=E4 (K0 (T0 key val)).toNat 4) h3;rw[NR,Df]at this;exact this
 have bV:4+key.length+4+val.length=(T0 key val).length:=by omega
 have t3:J5 (Cm key val) ((4+key.length+4+val.length:Nat):Int) 4=(K0 (T0 key val),0):=by
  rw[bV,e3];have:=Aq7 (p:=T0 key val) (K0 (T0 key val)).toNat [] (by omega);rw[this,TJ hc.1]
 unfold V2;rw[t1];simp only;rw[t2];simp only;rw[t3];simp only;have cF:(Cm key val).take (4+key.length+4+val.length)=T0 key val:=by rw[bV,e3,List.take_left]
 rw[cF,ND (by simp),ND (by simp),ND (by simp),ND (by rw[GF];omega),ND (by simp)]
def Cn7{key:List UInt8}(h:(F8 key val c).2=0):1<=key.length/\key.length<=255/\val.length<=65536/\Q3 key.length val.length c≠0/\(F8 key val c).1=Ek (Q3 key.length val.length c).toNat (E0 c.2.2.1).toNat (Cm key val)/\((F8 key val c).1).flatten=Cm key val:=by
 unfold F8 at h⊢;split at h
 ·exact absurd h (by simp)
 ·rename_i h1;split at h
  ·exact absurd h (by simp)
  ·rename_i h2;split at h
   ·exact absurd h (by simp)
   ·rename_i h3;rw[ND h1,ND h2,ND h3];refine⟨by omega,by omega,by omega,h3,rfl,?_⟩;obtain⟨_,_,_,_,gY,oJ,cv,_,tI,_⟩:=Py h3;have tT:=Nd gY;simp only;rw[Co9,PZ];rw[GF];generalize Q3 (key.length:Int) (val.length:Int) c=N at*;generalize E0 c.2.2.1=R at*;obtain⟨n,rfl⟩: ∃n:Nat,N=n:=⟨N.toNat,by omega⟩;obtain⟨r,rfl⟩: ∃n:Nat,R=n:=⟨R.toNat,by omega⟩;rw[NK,NK];have:(((n*r:Nat)):Int)=(n:Int)*(r:Int):=TD n r;omega
def Bp8(dv:G3 d)(aG:d.down=false){k:G6}(hk:E7 d b=some k)(bD:k.bad=false){h:Hd}{pl:List UInt8}(he:J7 h=0)(aQ:pl.length<=d.c.S-16)(hn:(k.next:Int)=h.2.2.2.2.1)(hp:h.2.2.2.2.1<d.c.P):
  (O4 d b h pl).1=11\/((O4 d b h pl).1=0/\En d (O4 d b h pl).2 b k (k.put k.next (I9 h pl d.c.S))):=by
 have hS:=dv.c.s;obtain⟨h0,hi,e⟩:=W2 hk;have hC:=Uj (h:=h) (p:=pl) (S:=d.c.S) (by omega) aQ;have gM:O9 h pl d.c.S=(I9 h pl d.c.S,0):=by
  rcases EW h pl (d.c.S:Int)with⟨-,S,wH,-,-,-,gM⟩|⟨hZ,-⟩
  ·obtain rfl:d.c.S=S:=by omega
   exact gM
  ·exact absurd (by rw[EV (by omega) he aQ]) hZ
 have hc:=CD d b.toNat k.next k (I9 h pl d.c.S);have tY:O4 d b h pl=Gn d b.toNat k.next k (I9 h pl d.c.S):=by
  unfold O4;rw[gM];dsimp only;rw[ND (by simp)];have hf:H6 d b h.2.2.2.2.1=0:=by
   unfold H6;rw[ND (by rw[aG];decide),ND (by omega),ND (by omega)]
  unfold prog;rw[ND (by simpa using hf),ND (by simpa using hC),NV hi,e];dsimp only;rw[ND (by rw[bD];decide),ND (by simpa using hn),<-hn,NK]
 rw[tY];unfold Gn at hc⊢;cases ht:(N1 (Y0 d)).1 with
 |true=>
  rw[NE rfl];exact .inl rfl
 |false=>
  rw[ht,ND (by decide)]at hc;rw[ND (by decide)];exact .inr ⟨rfl,hc,hk,rfl⟩
structure Jx(d d':B8)(b:Int)(k k':G6)(f:Nat)(l:List (List UInt8))(mk:Nat->Hd):Prop where
 c:d'.c=d.c
 ok:G3 d'
 up:d'.down=false
 own:E7 d' b=some k'
 ne: ∀x,x≠b->E7 d' x=E7 d x
 bad:k'.bad=false
 next:k'.next=f+l.length
 old: ∀q:Nat,q<f\/f+l.length<=q->k'.pages[q]?=k.pages[q]?
 new: ∀(j:Nat) (hj:j<l.length),k'.pages[f+j]?=some (I9 (mk j) l[j] d.c.S)
theorem Zm{b ep kind n:Int}{f:Nat}(mT:1<=kind/\kind<=4)(bS:1<=ep/\ep<=1073741824)(hn:n<=16): ∀(l:List (List UInt8)) {d:B8} {k:G6} (i:Nat),G3 d->d.down=false->E7 d b=some k->k.bad=false->k.next=f+i->(∀p∈l,p.length<=d.c.S-16)->(i:Int)+l.length=n->(f:Int)+n<=d.c.P->
  (N2 b ep f kind n d i l).1=11\/((N2 b ep f kind n d i l).1=0/\ ∃k',Jx d (N2 b ep f kind n d i l).2 b k k' (f+i) l fun j=>(kind,((i+j:Nat):Int),n,ep,((f+i+j:Nat):Int),()))
 |[],d,k,i,dv,aG,hk,bD,gL,hl,hi,hf=>.inr ⟨rfl,k,rfl,dv,aG,hk,fun x _=>rfl,bD,gL,fun q _=>rfl,fun j hj=>absurd hj (by simp)⟩
 |p::r,d,k,i,dv,aG,hk,bD,gL,hl,hi,hf=>by
  have hP:=dv.c.p;rw[NU]at hi;have he:J7 (kind,(i:Int),n,ep,(f:Int)+(i:Int),())=0:=by
   unfold J7;rw[ND (by simp only;omega),ND (by simp only;omega)]
  have h1:=Bp8 dv aG hk bD (h:=(kind,(i:Int),n,ep,(f:Int)+(i:Int),())) (pl:=p) he (hl p (by simp)) (by simp only;omega) (by simp only;omega);have aO:=(Wq dv aG b (kind,(i:Int),n,ep,(f:Int)+(i:Int),()) p).1;unfold N2;generalize O4 d b (kind,(i:Int),n,ep,(f:Int)+(i:Int),()) p=q at h1 aO;rcases h1 with h1|⟨h1,t⟩
  ·rw[ND (by rw[h1];decide)];exact .inl h1
  ·rw[NE h1];have kY:q.2.down=false:=by rw[aO.dn,h1];rfl
   have dQ:(k.put k.next (I9 (kind,(i:Int),n,ep,(f:Int)+(i:Int),()) p d.c.S)).next=f+(i+1):=by unfold G6.put;simp only;omega
   have g1:=Zm mT bS hn r (b:=b) (f:=f) (i+1) aO.ok kY t.own bD dQ (fun y hy=>by rw[t.c];exact hl y (by simp[hy])) (by omega) (by rw[t.c];exact hf);refine g1.imp id fun⟨g0,k',w⟩=>⟨g0,k',w.c.trans t.c,w.ok,w.up,w.own,fun x hx=>(w.ne x hx).trans (t.ne hx),w.bad,?_,fun q hq=>?_,fun j hj=>?_⟩
   ·rw[w.next,NU];omega
   ·rw[NU]at hq;rw[w.old q (by omega)];unfold G6.put;simp only;rw[WG (by omega)]
   ·have dI:=(dv.pg k (by obtain⟨_,eZ,e⟩:=W2 hk;rw[<-e];exact NO eZ)).1;cases j with
    |zero=>
     rw[w.old (f+i+0) (by omega)];unfold G6.put;simp only[gL,QU,List.getElem_cons_zero];rw[WE (by omega)];rfl
    |succ j=>
     have:=w.new j (by simpa using hj);rw[t.c]at this;rw[show f+i+(j+1)=f+(i+1)+j by omega,this];simp only[List.getElem_cons_succ];congr 4<;>omega
def Ki(aG:d.down=false){q:Int}{k:G6}(hk:E7 d b=some k)(bD:k.bad=false)(hq:0<=q/\q<d.c.P):I5 d b q=(k.pages.getD q.toNat [],0):=by
 obtain⟨h0,hi,e⟩:=W2 hk;have hf:H6 d b q=0:=by
  unfold H6;rw[ND (by rw[aG];decide),ND (by omega),ND (by omega)]
 unfold I5;rw[ND (by simpa using hf),NV hi,e];dsimp only;rw[ND (by rw[bD];decide)]
theorem Aa4{d d':B8}{b pg:Int}: ∀{n:Nat},(∀i:Nat,i<n->I5 d b (pg+i)=I5 d' b (pg+i))->Al d b pg n=Al d' b pg n
 |0,_=>rfl
 |n+1,h=>by
  have e:R6 d b (pg+n)=R6 d' b (pg+n):=by unfold R6;rw[h n (by omega)]
  unfold Al;rw[Aa4 fun i hi=>h i (by omega),e]
def FS(h0:I5 d p.1 0=I5 d' p.1 0)(h1:I5 d p.1 p.2.1=I5 d' p.1 p.2.1)(h: ∀i:Nat,(i:Int)<(C1 (I5 d' p.1 p.2.1).1).1.2.2.1->(C1 (I5 d' p.1 p.2.1).1).2.2=0->I5 d p.1 (p.2.1+i)=I5 d' p.1 (p.2.1+i)):C7 d p=C7 d' p:=by
 have e:R6 d p.1 p.2.1=R6 d' p.1 p.2.1:=by unfold R6;rw[h1]
 unfold C7;rw[h0,e];split
 ·rfl
 ·split
  ·rename_i hc;obtain⟨-,r2,r3⟩:=CL hc.1;rw[r3,Aa4 fun i hi=>h i (by omega) r2]
  ·rfl
def Sp(hc:d'.c=d.c)(hl:d'.bs.length=d.bs.length)(hd:d'.down=d.down)(hb:E7 d' b=E7 d b)(q:Int):I5 d' b q=I5 d b q:=by
 have hf:H6 d' b q=H6 d b q:=by unfold H6;rw[hc,hl,hd]
 unfold I5;rw[hf,hc];split
 ·rfl
 ·rename_i h0;have:=(Js (PA.1 h0)).2.1;unfold E7 at hb;rw[NE this,NE this]at hb;rw[hb]
def Yi(hc:d'.c=d.c)(hl:d'.bs.length=d.bs.length)(hd:d'.down=d.down)(hb:E7 d' p.1=E7 d p.1):C7 d' p=C7 d p:=FS (Sp hc hl hd hb _) (Sp hc hl hd hb _) fun i _ _=>Sp hc hl hd hb _
def An8(dv:G3 d)(h:(C7 d p).2.2=0):d.down=false/\ ∃k pg,E7 d p.1=some k/\k.bad=false/\(0<=p.2.1/\p.2.1<d.c.P)/\k.pages[p.2.1.toNat]?=some pg/\(C1 pg).2.2=0/\Lz p (C1 pg).1/\ ∃l,Al d p.1 p.2.1 (C1 pg).1.2.2.1.toNat=some l:=by
 unfold C7 at h;split at h
 ·rename_i h0;exact absurd h h0
 ·rename_i h0;split at h
  ·rename_i h1;split at h
   ·rename_i l hl;obtain⟨hp,hh⟩:=h1;obtain⟨r1,r2,r3⟩:=CL hp;rw[r3]at hh hl;have hf:H6 d p.1 p.2.1=0:=by rw[<-Wk dv];exact r1
    obtain⟨f0,f1,f2,f3,f4⟩:=Js hf;have hi:p.1.toNat<d.bs.length:=by omega
    obtain⟨pg,bI⟩: ∃pg,pg=(I5 d p.1 p.2.1).1:=⟨_,rfl⟩;have dE:=bI;unfold I5 at dE;rw[ND (by simpa using hf),NV hi]at dE;dsimp only at dE;rw[<-bI]at r2 hh hl;split at dE
    ·rw[dE]at r2;exact absurd r2 (Oi _)
    ·rename_i hb;have aQ:=(dv.pg d.bs[p.1.toNat] (NO hi)).1;refine⟨f0,d.bs[p.1.toNat],pg,?_,by simpa using hb,⟨f3,f4⟩,?_,r2,hh,l,hl⟩
     ·unfold E7;rw[NE f1,NV hi]
     ·rw[dE];show _=some ((d.bs[p.1.toNat]).pages.getD p.2.1.toNat []);rw[NX,NV (by omega)];rfl
   ·cases h
  ·cases h
def Ck1{k:G6}{l:List (List UInt8)}(w:Jx d d' b k k' f l fun j=>(2,((0+j:Nat):Int),(l.length:Int),ep,((f+j:Nat):Int),()))(bS:1<=ep/\ep<=1073741824)(hl:1<=l.length/\l.length<=16)(hs: ∀p∈l,p.length<=d.c.S-16)(hP:f+l.length<=d.c.P):
  C7 d' (b,(f:Int),ep,())=V2 l.flatten:=by
 have hS:=w.ok.c.s;have hPP:=w.ok.c.p;rw[w.c]at hS hPP;have mK: ∀(j:Nat) (hj:j<l.length),I5 d' b ((f:Int)+j)=(I9 (2,((0+j:Nat):Int),(l.length:Int),ep,((f+j:Nat):Int),()) l[j] d.c.S,0)/\C1 (I9 (2,((0+j:Nat):Int),(l.length:Int),ep,((f+j:Nat):Int),()) l[j] d.c.S)=((2,((0+j:Nat):Int),(l.length:Int),ep,((f+j:Nat):Int),()),l[j],0):=fun j hj=>by
  have he:J7 (2,((0+j:Nat):Int),(l.length:Int),ep,((f+j:Nat):Int),())=0:=by
   unfold J7;rw[ND (by simp only;omega),ND (by simp only;omega)]
  refine⟨?_,(Jh he l[j] hS (hs _ (NO hj))).1⟩;rw[Ki w.up w.own w.bad ⟨by omega,by rw[w.c];omega⟩,show((f:Int)+j).toNat=f+j by omega,NX,w.new j hj];rfl
 have mI: ∀(j:Nat) (hj:j<l.length),R6 d' b ((f:Int)+j)=((2,((0+j:Nat):Int),(l.length:Int),ep,((f+j:Nat):Int),()),l[j],0):=fun j hj=>by
  obtain⟨a1,a2⟩:=mK j hj;unfold R6;rw[a1];dsimp only;rw[NE rfl,a2,NE rfl]
 have oG: ∀m:Nat,m<=l.length->Al d' b f m=some (l.take m):=fun m=>by
  induction m with
  |zero=>intro _;rfl
  |succ m ih=>
   intro hm;unfold Al;rw[ih (by omega),mI m (by omega)];dsimp only;rw[NE rfl,OB (by omega)]
 have h0:=mI 0 (by omega);simp only[XP,XQ,QU]at h0;unfold C7;rw[ND (by rw[Ki w.up w.own w.bad ⟨by omega,by rw[w.c];omega⟩];simp)];dsimp only;rw[h0];dsimp only;rw[NE ⟨rfl,rfl,rfl,rfl,rfl⟩,NK,oG _ (NF _),OE]
structure Lc(k:G6)(nx ep:Int):Prop where
 good:k.bad=false
 next:(k.next:Int)=nx
 pg: ∀(q:Nat) pg,k.pages[q]?=some pg->(C1 pg).2.2=0->(q:Int)<nx/\(C1 pg).1.2.2.2.1=ep/\((C1 pg).1.1=2->(C1 pg).1.2.1=0->(q:Int)+(C1 pg).1.2.2.1<=nx)
def FU{k:G6}{l:List (List UInt8)}{mk:Nat->Hd}(w:Jx d d' b k k' f l mk)(hl:d'.bs.length=d.bs.length)(dv:G3 d)(hd:d.down=false)(hk:E7 d b=some k)(ho:Lc k f ep)(he: ∀j,j<l.length->J7 (mk j)=0/\(mk j).2.2.2.1=ep)(hs: ∀p∈l,p.length<=d.c.S-16)
   (hp:p.1=b->p.2.2.1=ep->p.2.1<f) (h:(C7 d' p).2.2=0):C7 d p=C7 d' p:=by
 have hS:=dv.c.s;by_cases hb:p.1=b
 ·obtain⟨-,k2,pg,a1,a2,a3,a4,a5,a6,l2,a7⟩:=An8 w.ok h;rw[hb,w.own]at a1;obtain rfl:=NI a1;have yX: ∀(q:Nat) pg,k'.pages[q]?=some pg->(C1 pg).2.2=0->f<=q-> ∃j,j<l.length/\q=f+j/\(C1 pg).1=mk j:=fun q pg hq ok aM=>by
   rcases PY q (f+l.length)with hO|mW
   ·obtain⟨j,rfl⟩: ∃j,q=f+j:=⟨q-f,by omega⟩;have hj:j<l.length:=by omega
    rw[w.new j hj]at hq;refine⟨j,hj,rfl,?_⟩;rw[<-NI hq,(Jh (he j hj).1 l[j] hS (hs _ (NO hj))).1]
   ·rw[w.old q (.inr mW)]at hq;have:=(ho.pg q pg hq ok).1;omega
  have gP:p.2.1<f:=QQ fun aM=>by
   obtain⟨j,hj,-,hm⟩:=yX p.2.1.toNat pg a4 a5 (by omega);have:p.2.2.1=ep:=by rw[<-a6.2.2.1,hm];exact(he j hj).2
   exact aM (hp hb this)
  have a4':=a4;rw[w.old _ (.inl (by omega))]at a4';obtain⟨b1,b2,b3⟩:=ho.pg _ pg a4' a5;have b3:=b3 a6.1 a6.2.1;have eN: ∀q:Int,0<=q->q<f->q<d.c.P->I5 d p.1 q=I5 d' p.1 q:=fun q q0 q1 q2=>by
   rw[hb,Ki hd hk ho.good ⟨q0,q2⟩,Ki w.up w.own w.bad ⟨q0,by rw[w.c];exact q2⟩,NX,NX,w.old _ (.inl (by omega))]
  rw[w.c]at a3;have hf:(I5 d' p.1 p.2.1).1=pg:=by
   rw[hb,Ki w.up w.own w.bad ⟨a3.1,by rw[w.c];exact a3.2⟩,NX,a4];rfl
  have hPf:(f:Int)<=d.c.P:=by
   have:=(dv.nx k (by obtain⟨_,hi,e⟩:=W2 hk;rw[<-e];exact NO hi)).1;have:=ho.next;omega
  refine FS (eN 0 (by omega) (by omega) (by have:=dv.c.p;omega)) (eN _ a3.1 gP a3.2) fun i hi _=>?_;rw[hf]at hi;exact eN _ (by omega) (by omega) (by omega)
 ·exact(Yi w.c hl (w.up.trans hd.symm) (w.ne _ hb)).symm
def Lc.wr{k:G6}{l:List (List UInt8)}{mk:Nat->Hd}(w:Jx d d' b k k' f l mk)(hS:64<=d.c.S/\d.c.S<=512)(ho:Lc k f ep)(he: ∀j,j<l.length->J7 (mk j)=0/\(mk j).2.2.2.1=ep/\((mk j).1=2->(mk j).2.1=0->(j:Int)+(mk j).2.2.1<=l.length))(hs: ∀p∈l,p.length<=d.c.S-16):Lc k' ((f:Int)+l.length) ep:=by
 refine⟨w.bad,by rw[w.next];omega,fun q pg hq ok=>?_⟩;rcases PY q f with hO|aM
 ·rw[w.old q (.inl hO)]at hq;obtain⟨a1,a2,a3⟩:=ho.pg q pg hq ok;exact⟨by omega,a2,fun h1 h2=>by have:=a3 h1 h2;omega⟩
 ·rcases PY q (f+l.length)with jG|mW
  ·obtain⟨j,rfl⟩: ∃j,q=f+j:=⟨q-f,by omega⟩;have hj:j<l.length:=by omega
   rw[w.new j hj]at hq;obtain⟨e1,e2,e3⟩:=he j hj;rw[<-NI hq,(Jh e1 l[j] hS (hs _ (NO hj))).1];exact⟨by omega,e2,fun h1 h2=>by have:=e3 h1 h2;show((f+j:Nat):Int)+(mk j).2.2.1<=_;omega⟩
  ·rw[w.old q (.inr mW)]at hq;have:=(ho.pg q pg hq ok).1;omega
def E2.be(r:E2):Int×Int:=(r.b,r.ep)
def B0.ue(s:B0):List (Int×Int):=s.rs.map E2.be++(s.op.map E2.be).toList
def Pg(s:B0):fs s.ue=s.us:=by
 unfold fs B0.ue B0.us;rw[NQ,OO];cases s.op<;>rfl
def TN(d:B8)(k:Int):Prop:=(d.torn.length:Int)+(if d.down=true then 0 else 1)<=k+1
def TN.st(h:TN d k)(hd:d.down=false)(st:Gh d d' e):TN d' k:=by
 have h1:=st.tn;unfold TN at*;rw[hd]at h;simp only[QN,if_false]at h;split at h1<;>rename_i hq<;>simp only[hq,if_true,QN,if_false]<;>omega
def TN.er(h:TN d k)(hd:d.down=false)(st:HN d d' b e):TN d' k:=by
 unfold TN at*;rw[hd]at h;simp only[QN,if_false]at h;rw[st.tn];split<;>omega
structure WS(s:B0)(k:Int):Prop where
 di:DI s.d s.ue
 ep: ∀u∈s.ue,u.2<=s.epoch
 dr: ∀x,Ey s.d x->(Q0 s.ss x).dirty=decide (x∉fs s.ue/\Ch s.d x≠0)
 tn:TN s.d k
def WD(d:B8)(k E:Int):Prop:=(∃us,DI d us/\ ∀u∈us,u.2<=E+1)/\TN d k
def WR(s:B0)(k:Int):Prop:=(s.down=false->WS s k)/\(s.down=true->WD s.d k s.epoch)
def DI.wd{E:Int}(h:DI d us)(he: ∀u∈us,u.2<=E)(t:TN d k):WD d k E:=⟨⟨us,h,fun u hu=>by have:=he u hu;omega⟩,t⟩
def WS.wr(h:WS s k):WR s k:=⟨fun _=>h,fun _=>h.di.wd h.ep h.tn⟩
section
variable {s s':B0} {k:Int} {M:Nat}
def WS.congr(h:WS s k)(h1:s'.d=s.d)(h2:s'.ue=s.ue)(h3:s'.epoch=s.epoch)(h4:s'.ss=s.ss):WS s' k:=⟨by rw[h1,h2];exact h.di,by rw[h2,h3];exact h.ep,by rw[h1,h2,h4];exact h.dr,by rw[h1];exact h.tn⟩
def WR.congr(h:WR s k)(h1:s'.d=s.d)(h2:s'.ue=s.ue)(h3:s'.epoch=s.epoch)(h4:s'.ss=s.ss)(h5:s'.down=s.down):WR s' k:=⟨fun hd=>(h.1 (h5▸hd)).congr h1 h2 h3 h4,fun hd=>by rw[h1,h3];exact h.2 (h5▸hd)⟩
def Ak1{x:Int}{b:G6}(h:E7 d x=some b):Ey d x↔b.bad=false:=by
 unfold Ey;rw[h];simp
def Yb{x:Int}(h:E7 d' x=E7 d x):Ey d' x↔Ey d x:=by unfold Ey;rw[h]
def DS{x:Int}(h:E7 d' x=E7 d x):Ch d' x=Ch d x:=by unfold Ch;rw[h]
def WS.step(h:WS s k)(h1:DI s'.d s.ue/\Fx s.ue s.d s'.d)(h2:s'.ue=s.ue)(h3:s'.epoch=s.epoch)(h4:s'.ss=s.ss)(h5:TN s'.d k):WS s' k:=by
 refine⟨by rw[h2];exact h1.1,by rw[h2,h3];exact h.ep,fun x hx=>?_,h5⟩;rw[h2,h4];by_cases hm:x∈fs s.ue
 ·rw[h.dr x (h.di.good hm)];simp[hm]
 ·have e:=h1.2 x hm;rw[h.dr x ((Yb e).1 hx),DS e]
def B9.gd(ok:B9 s M)(hd:s.down=false)(x:Int):(I6 s.ss x=true↔Ey s.d x)/\(Ey s.d x->(Q0 s.ss x).wear=Mr s.d x):=by
 by_cases hx:0<=x
 ·cases hk:s.d.bs[x.toNat]? with
  |none=>
   have nQ:s.ss[x.toNat]?=none:=by
    rw[List.getElem?_eq_none_iff]at hk⊢;rw[ok.ssl];exact hk
   have hb:E7 s.d x=none:=by unfold E7;rw[NE hx,hk]
   have uR: ¬Ey s.d x:=fun⟨b,cZ,_⟩=>by rw[hb]at cZ;cases cZ
   refine⟨⟨fun hg=>?_,fun hg=>absurd hg uR⟩,fun hg=>absurd hg uR⟩;unfold I6 at hg;rw[nQ]at hg;simp at hg
  |some b=>
   obtain⟨y,hy,hw,eE⟩:=ok.ssd hd x.toNat b hk;have hb:E7 s.d x=some b:=by unfold E7;rw[NE hx,hk]
   refine⟨?_,fun _=>?_⟩
   ·rw[Ak1 hb];unfold I6;rw[hy];simp[hx,eE]
   ·unfold Q0 Mr;rw[hy,hb];exact hw
 ·have hb:E7 s.d x=none:=by unfold E7;rw[ND hx]
  have uR: ¬Ey s.d x:=fun⟨b,cZ,_⟩=>by rw[hb]at cZ;cases cZ
  refine⟨⟨fun hg=>?_,fun hg=>absurd hg uR⟩,fun hg=>absurd hg uR⟩;unfold I6 at hg;simp[hx]at hg
def WS.write(h:WS s k)(ok:B9 s M)(hd:s.down=false)(kind:Int)(l:List (List UInt8)):WS (s.write kind l).1 k:=by
 unfold B0.write;split
 ·exact h
 ·rename_i o ho;have hb:o.b∈fs s.ue:=by rw[Pg];unfold B0.us;rw[ho];simp
  have h1:=h.di.app hb o.ep (ok.op o ho).1 kind l;have h2:=h.tn.st (by rw[<-ok.dn];exact hd) (Zl ok.dv (by rw[<-ok.dn];exact hd) o.b o.ep o.nx kind l).1;dsimp only;generalize S1 s.d o.b o.ep o.nx kind l=q at h1 h2;split
  ·exact h.step (s':=((s.pay l.length).dev q.2).met q.1) h1 rfl rfl rfl h2
  ·refine h.step (s':={(s.pay l.length).dev q.2 with op:=some (o.grown kind l.length)}) h1 ?_ rfl rfl h2;show s.rs.map E2.be++[_]=s.rs.map E2.be++(s.op.map E2.be).toList;rw[ho];rfl
def WS.seals(h:WS s k)(ok:B9 s M)(hd:s.down=false):WS s.seals.1 k/\s.seals.1.ue=s.ue:=by
 unfold B0.seals;split
 ·exact⟨h,rfl⟩
 ·rename_i o ho;have hb:o.b∈fs s.ue:=by rw[Pg];unfold B0.us;rw[ho];simp
  have h1:=h.di.sealD hb o.ep (ok.op o ho).1 o.l;have h2:=h.tn.st (by rw[<-ok.dn];exact hd) (AW ok.dv (by rw[<-ok.dn];exact hd) o.b o.ep o.nx o.l);dsimp only;generalize U7 s.d o.b o.ep o.nx o.l=q at h1 h2;have hu:(({(s.pay 1).dev q.2 with op:=none,rs:=s.rs++[o]}:B0).met q.1).ue=s.ue:=by
   show(s.rs++[o]).map E2.be++[]=s.rs.map E2.be++(s.op.map E2.be).toList;rw[ho];simp
  exact⟨h.step h1 hu rfl rfl h2,hu⟩
def WS.begins(h:WS s k)(ok:B9 s M)(hd:s.down=false)(bG:s.op=none)(hb:O2 s.ss s.us b=true)(cI:(Q0 s.ss b).dirty=false):WR (s.begins b).1 k:=by
 obtain⟨hg,iT⟩:=Di hb;obtain⟨kb,hk,bD⟩:=(ok.gd hd b).1.1 hg;rw[<-Pg]at iT;have h1:=h.di.opn2 ok.dv hk bD iT (ep:=s.epoch+1) (fun u hu=>by have:=h.ep u hu;omega);have ht:=h.tn.st (by rw[<-ok.dn];exact hd) (DH ok.dv (by rw[<-ok.dn];exact hd) b (s.epoch+1));unfold B0.begins;dsimp only;generalize U9 s.d b (s.epoch+1)=q at h1 ht;rcases h1 with⟨e1,e2⟩|⟨e1,e2,e3⟩|⟨e1,e2⟩
 ·rw[NE e2];exact(h.congr (s':=(((s.pay 1).dev q.2).met q.1)) e1 rfl rfl rfl).wr
 ·rw[ND (by simpa using e1)];refine WS.wr ?_;have hu:({(s.pay 1).dev q.2 with epoch:=s.epoch+1,op:=some ⟨b,s.epoch+1,1,[]⟩}:B0).ue=s.ue++[(b,s.epoch+1)]:=by
   show s.rs.map E2.be++[_]=s.rs.map E2.be++(s.op.map E2.be).toList++[_];rw[bG];simp;rfl
  refine⟨by rw[hu];exact e2,fun u gU=>?_,fun x hx=>?_,ht⟩
  ·rw[hu]at gU;show u.2<=s.epoch+1;rcases NJ.1 gU with gU|gU
   ·have:=h.ep u gU;omega
   ·rw[NM.1 gU];exact QJ _
  ·rw[hu];show(Q0 s.ss x).dirty=decide (x∉fs (s.ue++[(b,s.epoch+1)])/\Ch q.2 x≠0);have hf:fs (s.ue++[(b,s.epoch+1)])=fs s.ue++[b]:=by simp[fs]
   rw[hf];by_cases e:x=b
   ·rw[e,cI];simp
   ·have e4:=e3 x e;rw[h.dr x ((Yb e4).1 hx),DS e4];refine decide_eq_decide.2 ⟨fun⟨q1,q2⟩=>⟨fun hm=>?_,q2⟩,fun⟨q1,q2⟩=>⟨fun hm=>q1 (OA _ hm),q2⟩⟩;rcases NJ.1 hm with hm|hm
    ·exact q1 hm
    ·exact e (NM.1 hm)
 ·rw[NE (by rw[e1];decide)];refine⟨fun aG=>?_,fun _=>⟨e2,ht⟩⟩;have:(s.down||decide (q.1=11))=false:=aG;rw[e1]at this;simp at this
def Aq3{us':List (Int×Int)}{kb kb':G6}(t:En s.d d' b kb kb')(fY: ∀x,Ey s.d x->(Q0 s.ss x).dirty=decide (x∉fs us/\Ch s.d x≠0))(hO:b.toNat<s.ss.length)(hn:kb'.next=0)(hm: ∀x,x≠b->(x∈fs us↔x∈fs us'))(bad:Bool):
  ∀x,Ey d' x->(Q0 (O7 s.ss b (Cl bad)) x).dirty=decide (x∉fs us'/\Ch d' x≠0):=fun x hx=>by
 have iV:=(W2 t.at').1;by_cases e:x=b
 ·rw[e,Av6 _ hO];have:Ch d' b=0:=by unfold Ch;rw[t.own];show((kb'.next:Nat):Int)=0;rw[hn];rfl
  rw[this];simp[Cl]
 ·have gQ:=hx;obtain⟨y,hy,-⟩:=gQ;have gB:=(W2 hy).1;have e4:=t.ne e;rw[Av5 _ iV gB e,fY x ((Yb e4).1 hx),DS e4];rw[UR,hm x e]
def Ao8(b:Int):(s.erase b).1.epoch=s.epoch:=by
 unfold B0.erase;dsimp only;split<;>rfl
def Ao3(b:Int)(e:(M3 s.d b).1≠11):(s.erase b).1.ue=(s.rs.filter fun r=> !decide (r.b=b)).map E2.be++(s.op.map E2.be).toList/\(s.erase b).1.d=(M3 s.d b).2/\(s.erase b).1.epoch=s.epoch/\(s.erase b).1.ss=(if I6 s.ss b=true then O7 s.ss b (Cl (decide ((M3 s.d b).1=10)))else s.ss):=by
 unfold B0.erase;dsimp only;rw[ND e];exact⟨rfl,rfl,rfl,rfl⟩
def FZ(b:Int)(e:(M3 s.d b).1=11):(s.erase b).1.d=(M3 s.d b).2/\(s.erase b).1.down=true/\(s.erase b).2=11:=by
 unfold B0.erase;dsimp only;rw[NE e];refine⟨rfl,?_,rfl⟩;show(s.down||decide ((11:Int)=11))=true;simp
def WS.wash(h:WS s k)(ok:B9 s M)(hd:s.down=false)(hb:O2 s.ss s.us b=true)(eD:(Q0 s.ss b).dirty=true):
  WR (s.erase b).1 k:=by
 obtain⟨hg,iT⟩:=Di hb;have lL:=(ok.gd hd b).1.1 hg;obtain⟨kb,hk,bD⟩:=lL;obtain⟨-,hO,-⟩:=El hg;rw[<-Pg]at iT;have hP:4<=s.d.c.P:=ok.dv.c.p.1;have xD:V3 kb=none:=by
  have:=h.di.fr b iT;unfold Db at this;rw[hk]at this;exact this
 have ht:=h.tn.er (by rw[<-ok.dn];exact hd) (Yn ok.dv (by rw[<-ok.dn];exact hd) b);obtain⟨kb',t,hc⟩:=Ym ok.dv (by rw[<-ok.dn];exact hd) hk bD;rcases hc with⟨e1,n,rfl⟩|⟨e1,rfl,-⟩
 ·obtain⟨a1,a2,a3⟩:=FZ b e1;have h1:=h.di.wash t iT ((IV hP kb n).elim id fun q=>q.trans xD);exact⟨fun hx=>(by rw[a2]at hx;cases hx),fun _=>(by rw[a1,Ao8];exact h1.wd h.ep ht)⟩
 ·obtain⟨a1,a2,a3,a4⟩:=Ao3 b e1;have h1:=h.di.wash t iT (Ak2 hP kb);have hu:(s.erase b).1.ue=s.ue:=by
   rw[a1];unfold B0.ue;congr 2;rw[RA];intro r hr;have:r.b≠b:=fun e=>iT (by rw[Pg,<-e];unfold B0.us;exact OA _ (OQ hr));simp[this]
  refine WS.wr ⟨by rw[a2,hu];exact h1,by rw[hu,a3];exact h.ep,?_,by rw[a2];exact ht⟩;rw[a2,hu,a4,NE hg];exact Aq3 t h.dr hO rfl (fun x _=>Iff.rfl) _
def WS.oldest(h:WS s k)(ok:B9 s M)(hd:s.down=false)(hr:s.rs=r::t):WR (s.erase r.b).1 k:=by
 have kZ:s.ue=r.be::(t.map E2.be++(s.op.map E2.be).toList):=by unfold B0.ue;rw[hr];rfl
 have iT:r.b∈fs s.ue:=by rw[kZ];simp[fs,E2.be]
 have lL:=h.di.good iT;have hg:=(ok.gd hd r.b).1.2 lL;obtain⟨kb,hk,bD⟩:=lL;obtain⟨-,hO,-⟩:=El hg;have hP:4<=s.d.c.P:=ok.dv.c.p.1;have eD:=h.di;rw[kZ]at eD;have ht:=h.tn.er (by rw[<-ok.dn];exact hd) (Yn ok.dv (by rw[<-ok.dn];exact hd) r.b);obtain⟨kb',st,hc⟩:=Ym ok.dv (by rw[<-ok.dn];exact hd) hk bD;rcases hc with⟨e1,n,rfl⟩|⟨e1,rfl,-⟩
 ·obtain⟨a1,a2,a3⟩:=FZ r.b e1;have b1:=IV hP kb n;refine⟨fun hx=>(by rw[a2]at hx;cases hx),fun _=>?_⟩;rw[a1,Ao8];have bS: ∀u∈t.map E2.be++(s.op.map E2.be).toList,u.2<=s.epoch:=fun u hu=>h.ep u (by rw[kZ];exact NN _ hu);rcases b1 with b1|b1
  ·exact(eD.drop (u:=r.be) st b1).wd bS ht
  ·exact(h.di.frame st b1).wd h.ep ht
 ·obtain⟨a1,a2,a3,a4⟩:=Ao3 r.b e1;have h1:=eD.drop (u:=r.be) st (Ak2 hP kb);have aZ:=eD.nd;have aZ:r.b∉fs (t.map E2.be++(s.op.map E2.be).toList):=(OW.1 aZ).1;have hu:(s.erase r.b).1.ue=t.map E2.be++(s.op.map E2.be).toList:=by
   rw[a1,hr,QS];simp only[decide_true,Bool.not_true,QN,if_false];congr 2;rw[RA];intro x hx;have:x.b≠r.b:=fun e=>aZ (by rw[<-e];exact NY.2 ⟨x.be,OA _ (OQ hx),rfl⟩);simp[this]
  refine WS.wr ⟨by rw[a2,hu];exact h1,fun u gU=>?_,?_,by rw[a2];exact ht⟩
  ·rw[hu]at gU;rw[a3];exact h.ep u (by rw[kZ];exact NN _ gU)
  ·rw[a2,hu,a4,NE hg];refine Aq3 st h.dr hO rfl (fun x hx=>?_) _;rw[kZ];simp[fs,E2.be,hx]
def WS.move(h:WS s k)(ok:B9 s M)(hd:s.down=false)(p:It)(n beside:Int):WS (s.move p n beside).1 k:=by
 unfold B0.move;dsimp only;split
 ·exact h
 ·split
  ·exact h.congr rfl rfl rfl rfl
  ·split
   ·exact h
   ·have:=h.write ok hd 2 (F8 (C7 s.d p).1 (C7 s.d p).2.1 (H2 s.sc.c)).1;split
    ·exact this.congr rfl rfl rfl rfl
    ·exact this
theorem WS.moves{b ep beside:Int}: ∀(l:List It) {s:B0} {M:Nat},WS s k->B9 s M->s.down=false->WS (B0.moves b ep beside l s).1 k
 |[],s,M,h,ok,hd=>h
 |x::r,s,M,h,ok,hd=>by
  unfold B0.moves;split
  ·exact WS.moves r h ok hd
  ·have h1:=ok.move hd (b,x.2.1,ep,()) x.2.2.1 beside;have h2:=h.move ok hd (b,x.2.1,ep,()) x.2.2.1 beside;dsimp only;split
   ·exact h2
   ·rename_i h0;exact WS.moves r h2 h1.1 (h1.2.1 (by simpa using h0))
def WS.reclaim(h:WS s k)(ok:B9 s M)(hd:s.down=false)(hr:s.rs=r::t)(beside:Int):WR (s.reclaim r beside).1 k:=by
 obtain⟨h1,h2,mv⟩:=B9.moves (b:=r.b) (ep:=r.ep) (beside:=beside) r.l ok hd;have h3:=WS.moves (b:=r.b) (ep:=r.ep) (beside:=beside) r.l h ok hd;unfold B0.reclaim;dsimp only;split
 ·exact h3.wr
 ·rename_i h0;exact WS.oldest (s:={(B0.moves r.b r.ep beside r.l s).1 with pend:=(B0.moves r.b r.ep beside r.l s).1.pend.filter fun p=> !decide (p.1=r.b)}) (h3.congr rfl rfl rfl rfl) (h1.cutp r.b) (h2 (by simpa using h0)) (mv.rs.trans hr)
theorem WS.frees{n:Int}: ∀(j:Nat) {s:B0} {M:Nat},WS s k->B9 s M->s.down=false->WR (B0.frees n j s).1 k
 |0,s,M,h,ok,hd=>h.wr
 |j+1,s,M,h,ok,hd=>by
  unfold B0.frees;split
  ·split
   ·exact h.wr
   ·rename_i r t hr;have h1:=ok.reclaim hd hr n;have h2:=h.reclaim ok hd hr n;dsimp only;split
    ·exact h2
    ·rename_i h0;have h3:=(h1.2.1 (by simpa using h0)).1;exact WS.frees j (h2.1 h3) h1.1 h3
  ·exact h.wr
def WS.more(h:WS s k)(ok:B9 s M)(hd:s.down=false)(n:Int):WR (s.more n).1 k:=by
 unfold B0.more;split
 ·exact h.wr
 split
 ·exact h.wr
 rename_i bS;split
 ·split
  ·exact h.wr
  ·rename_i r t hr;exact h.reclaim ok hd hr n
 rename_i dG;obtain⟨s1,s2,s3,s4,s5,s6,s7⟩:=ok.seals hd;obtain⟨w1,w2⟩:=h.seals ok hd;dsimp only;generalize s.seals=w at s1 s2 s3 s4 s5 s6 s7 w1 w2;split
 ·exact w1.wr
 rename_i h0;have jK:=s2 (by simpa using h0);have cD:w.1.free≠0:=by
  unfold B0.free at dG⊢;rw[s5,s4];exact dG
 obtain⟨p1,p2⟩:=Ta cD;obtain⟨z,hz,z1,z2,z3,z4,z5,z6⟩:=s1.picks jK s3 cD;have nP:WR z.1 k:=by
  rw[hz,p2];split
  ·rename_i eD;exact w1.wash s1 jK p1 eD
  ·exact w1.wr
 rw[<-hz];clear hz;generalize G5 w.1.ss w.1.us=pk at z6 p1 p2;split
 ·exact nP
 rename_i dT;have dT:z.2=0:=by simpa using dT
 obtain⟨y1,y2,y3,y4,y5⟩:=z6 dT;have lP:=nP.1 y1;split
 ·exact nP
 rename_i eE;obtain⟨f1,f2⟩:=y5 eE;have cI:(Q0 z.1.ss pk.2.2).dirty=false:=by
  unfold Hs at f2;rw[f1]at f2;unfold Q0;cases hq:z.1.ss[pk.2.2.toNat]? with
  |none=>rfl
  |some x=>rw[hq]at f2;simpa using f2
 have hb:=lP.begins z1 y1 z2 f1 cI;have aC:=z1.begins y1 z2 (by rw[z4,s6];omega) f1;split
 ·exact hb
 rename_i kV;have hy:=(aC.2 (by simpa using kV)).1;exact WS.frees _ (hb.1 hy) aC.1 hy
theorem WS.room{n:Int}(hn:0<=n): ∀(j:Nat) {s:B0} {M:Nat},WS s k->B9 s M->s.down=false->WR (B0.room n j s).1 k
 |0,s,M,h,ok,hd=>h.wr
 |j+1,s,M,h,ok,hd=>by
  rw[Je];split
  ·split<;>exact h.wr
  ·have h1:=ok.more hd hn;have h2:=h.more ok hd n;split
   ·exact h2
   ·rename_i h0;have h3:=(h1.2.1 (by simpa using h0)).1;exact WS.room hn j (h2.1 h3) h1.1 h3
def WS.adm(h:WS s k)(ok:B9 s M)(hd:s.down=false)(key:ByteArray)(val:List UInt8):WR (s.adm key val).1 k:=by
 unfold B0.adm;dsimp only;split
 ·exact h.wr
 ·have h1:WR (s.roomy (F8 key.data.toList val (H2 s.sc.c)).1.length).1 k:=WS.room (by omega) _ h ok hd;obtain⟨h2,h3,-⟩:=ok.roomy hd (n:=((F8 key.data.toList val (H2 s.sc.c)).1.length:Int)) (by omega);split
  ·exact h1
  ·rename_i h0;have h4:=(h3 (by simpa using h0)).1;have h5:=(h1.1 h4).write h2 h4 2 (F8 key.data.toList val (H2 s.sc.c)).1;split
   ·refine WS.wr ?_;exact h5.congr rfl rfl rfl rfl
   ·exact h5.wr
def WR.forget(h:WR s k)(key:ByteArray):WR (s.forget key).1 k:=by
 unfold B0.forget;dsimp only;split<;>exact h.congr rfl rfl rfl rfl rfl
theorem WS.trim: ∀(j:Nat) {s:B0} {M:Nat},WS s k->B9 s M->s.down=false->WR (B0.trim j s).1 k
 |0,s,M,h,ok,hd=>h.wr
 |j+1,s,M,h,ok,hd=>by
  unfold B0.trim;split
  ·cases hq:s.q with
   |nil=>exact h.wr
   |cons y r=>
    dsimp only;have gZ:=ok.qs;have fC:=ok.ql;rw[hq]at gZ fC;have h1:B9 {s with q:=r} M:=ok.setq (fun e he=>gZ e (NN _ he)) (by simp at fC;omega);have w0:WS {s with q:=r} k:=h.congr rfl rfl rfl rfl;have hw:B9 (if y.2.2>0 then({s with q:=r}:B0).adm y.1 y.2.1 else({s with q:=r},8)).1 (M+1)/\WR (if y.2.2>0 then({s with q:=r}:B0).adm y.1 y.2.1 else({s with q:=r},8)).1 k/\((if y.2.2>0 then({s with q:=r}:B0).adm y.1 y.2.1 else({s with q:=r},8)).2≠11->(if y.2.2>0 then({s with q:=r}:B0).adm y.1 y.2.1 else({s with q:=r},8)).1.down=false)/\(if y.2.2>0 then({s with q:=r}:B0).adm y.1 y.2.1 else({s with q:=r},8)).1.sc=s.sc:=by
     split
     ·have ha:=h1.adm hd y.1 y.2.1;exact⟨ha.1,w0.adm h1 hd _ _,fun hn=>(Jw _ _ _ hn).trans hd,ha.2⟩
     ·exact⟨h1.upto (by omega),w0.wr,fun _=>hd,rfl⟩
    generalize (if y.2.2>0 then({s with q:=r}:B0).adm y.1 y.2.1 else({s with q:=r},8))=w at hw;obtain⟨k1,k2,k3,k4⟩:=hw;split
    ·rename_i h0;have h5:=k3 (by rw[h0];decide);exact WS.trim j (k2.1 h5) k1 h5
    ·split
     ·exact k2
     ·rename_i h0 h11;have h5:=k3 h11;refine WS.trim j ((k2.1 h5).congr rfl rfl rfl rfl) (k1.setgh (gh:=Dz s.sc.ghost w.1.gh (s.hash y.1)) ?_) h5;have h6:=k1.gl;have h7:=k1.gs;rw[k4]at h6 h7⊢;exact Pp h7.1 h6 _
  ·exact h.wr
def WS.putYoung(h:WS s k)(ok:B9 s M)(hd:s.down=false)(hq:s.q.length<=65536)(hk:1<=key.size/\key.size<=255)(hv:val.length<=65536):WR (s.putYoung key val).1 k:=by
 have h1:=(ok.putYoung hd hq hk hv).1;unfold B0.putYoung;exact WS.trim _ (h.congr rfl rfl rfl rfl) h1 hd
def WR.put(h:WR s k)(iv:M5 s M)(key:ByteArray)(val:List UInt8):WR (s.put key val).1 k:=by
 unfold B0.put;split
 ·exact h
 ·rename_i ha;obtain⟨hd,hk⟩:=Mj (s:=s) (key:=key) (by simpa using ha);split
  ·exact h
  ·rename_i hv;obtain⟨f1,f2,f3,f4,f5⟩:=iv.ok.forget key;have fK:(s.forget key).1.q.length<=65536:=by rw[f4];exact OK (Iq _ _) (iv.q hd)
   have dB:(s.forget key).1.down=false:=f2.trans hd;have h1:=(h.forget key).1 dB;dsimp only;generalize (s.forget key).1=s1 at f1 f2 f3 f4 f5 fK dB h1;split
   ·exact h1.wr
   ·split
    ·have hg:B9 {s1 with gh:=s1.gh.erase ((s.hash key:Nat):Int)} (M+1):=f1.setgh (by have h1:=f1.gl;have h2:(s1.gh.erase ((s.hash key:Nat):Int)).length<=s1.gh.length:=TK;omega);have w0:WS {s1 with gh:=s1.gh.erase ((s.hash key:Nat):Int)} k:=h1.congr rfl rfl rfl rfl;have a0:=w0.adm hg dB key val;obtain⟨a1,a2⟩:=hg.adm dB key val;have a3:=Ol {s1 with gh:=s1.gh.erase ((s.hash key:Nat):Int)} key val;have a4:=Jw {s1 with gh:=s1.gh.erase ((s.hash key:Nat):Int)} key val;generalize ({s1 with gh:=s1.gh.erase ((s.hash key:Nat):Int)}:B0).adm key val=w at a0 a1 a2 a3 a4;have gK:w.1.q.length<=65536:=by rw[a3.1];exact fK
     split
     ·exact a0
     ·rename_i hw;rw[PS]at hw;have h5:=(a4 hw.2).trans dB;exact(a0.1 h5).putYoung a1 h5 gK hk (by omega)
    ·exact h1.putYoung f1 dB fK hk (by omega)
def WR.get(h:WR s k)(key:ByteArray):WR (s.get key).1 k:=by
 unfold B0.get;split
 ·exact h
 ·split
  ·exact h.congr rfl rfl rfl rfl rfl
  ·split
   ·exact h
   ·exact h.congr rfl rfl rfl rfl rfl
def WR.delete(h:WR s k)(key:ByteArray):WR (s.delete key).1 k:=by
 unfold B0.delete;split
 ·exact h
 ·exact h.forget key
def WR.tick(h:WR s k)(now:Int):WR (s.tick now) k:=by
 unfold B0.tick;split
 ·exact h
 ·exact h.congr rfl rfl rfl rfl rfl
theorem WS.flushes: ∀(j:Nat) {s:B0} {M:Nat},WS s k->M5 s M->s.down=false->WR (B0.flushes j s).1 k
 |0,s,M,h,iv,hd=>h.wr
 |j+1,s,M,h,iv,hd=>by
  unfold B0.flushes;split
  ·exact h.wr
  ·obtain⟨a1,a2,a3⟩:=iv.ok.roomy hd (n:=1) (by decide);have a4:WR (s.roomy 1).1 k:=WS.room (by decide) _ h iv.ok hd;have aq:(s.roomy 1).1.q=s.q:=(Nc 1 (s.mu+1) s).1;dsimp only;generalize s.roomy 1=w at a1 a2 a3 a4 aq;split
   ·exact a4
   ·rename_i h0;obtain⟨b1,b2⟩:=a2 (by simpa using h0);have w1:=a4.1 b1;split
    ·exact a4
    ·split
     ·exact a4
     ·have w2:=w1.write a1 b1 3 [(K9 (w.1.pend.take (min w.1.pend.length (E0 w.1.sc.c.S/6).toNat))).1];obtain⟨c1,c2⟩:=a1.write b1 3 [(K9 (w.1.pend.take (min w.1.pend.length (E0 w.1.sc.c.S/6).toNat))).1];have cq:=Oz w.1 3 [(K9 (w.1.pend.take (min w.1.pend.length (E0 w.1.sc.c.S/6).toNat))).1];generalize w.1.write 3 [(K9 (w.1.pend.take (min w.1.pend.length (E0 w.1.sc.c.S/6).toNat))).1]=z at w2 c1 c2 cq;split
      ·exact w2.wr
      ·rename_i h1;have h1:z.2.2=0:=by simpa using h1
       have i4:M5 {z.1 with pend:=z.1.pend.drop (min w.1.pend.length (E0 w.1.sc.c.S/6).toNat)} M:=⟨c1.dropp _,fun _=>by show z.1.q.length<=65536;rw[cq.1,aq];exact iv.q hd⟩;exact WS.flushes j (w2.congr rfl rfl rfl rfl) i4 (c2 h1)
def WR.flush(h:WR s k)(iv:M5 s M):WR s.flush.1 k:=by
 unfold B0.flush;split
 ·exact h
 ·rename_i hd;have hd:s.down=false:=by simpa using hd
  exact WS.flushes _ (h.1 hd) iv hd
end
theorem Ae5{E:Int}: ∀(l:List HD) (a:Int),a<=E->(∀h∈l,h.2.1<=E)->l.foldl (fun a h=>L9 a h.2.1) a<=E
 |[],a,h0,_=>h0
 |x::r,a,h0,h=>by
  have hx:=h x (by simp);rw[RU];exact Ae5 r _ (by unfold L9;split<;>omega) fun y hy=>h y (by simp[hy])
def Cr0(ss:List BS)(n x:Int):I6 (O7 ss n Fw) x=I6 ss x:=by
 unfold I6 O7;rw[RE];cases ss[x.toNat]? with
 |none=>rfl
 |some y=>
  simp only[YE,RO];split<;>simp[Fw]
theorem At6: ∀(l:List Int) {ss:List BS} {us:List Int},(us++l).Nodup->(∀x∈l,I6 ss x=true)-> ∃r,Gy ss us l=some r/\ ∀x,0<=x->(Q0 r.1 x).dirty=(decide (x∉l)&&(Q0 ss x).dirty)
 |[],ss,us,_,_=>⟨(ss,us),rfl,fun x _=>by simp⟩
 |n::t,ss,us,hn,hg=>by
  have mV:=hg n (by simp);obtain⟨h0,hO,-⟩:=El mV;have yV:n∉us:=fun hm=>(QA.1 hn).2.2 n hm n (by simp) rfl;have hf:O2 ss us n=true:=by unfold O2;rw[mV];simp[yV]
  obtain⟨r,h1,h2⟩:=At6 t (ss:=O7 ss n Fw) (us:=us++[n]) (by rw[NZ];exact hn) fun x hx=>by rw[Cr0];exact hg x (by simp[hx])
  refine⟨r,?_,fun x hx=>?_⟩
  ·unfold Gy;rw[NE hf];exact h1
  ·rw[h2 x hx];by_cases e:x=n
   ·rw[e,Av6 _ hO];simp[Fw]
   ·rw[Av5 _ h0 hx e];simp[e]
theorem EK: ∀(l:List LE) (s:B0),(T8 l s).d=s.d/\(T8 l s).ue=s.ue/\(T8 l s).epoch=s.epoch/\(T8 l s).ss=s.ss/\(T8 l s).sc=s.sc/\(T8 l s).down=s.down/\(T8 l s).bk=s.bk
 |[],s=>⟨rfl,rfl,rfl,rfl,rfl,rfl,rfl⟩
 |x::r,s=>EK r (s.list x.1 x.2)
def Xa(h:DI d us)(ok:G3 d)(aG:d.down=false)(ht:TN d k){x:W7}(hx:Dh x d)(now:Int):
  ∃s,Bu x d now=(some s,0)/\WS s k/\s.sc=Q6 x d/\s.down=false/\s.d=d/\s.bk=Ff (Q6 x d).rate (Q6 x d).burst now 0/\ ∀E,0<=E->(∀u∈us,u.2<=E)->s.epoch<=E:=by
 have cL:=Xv h ok aG;have hB:=ok.c.b;have hW:=ok.c.w;have qH:(V7 d).map E2.b=fs us:=by
  rw[<-cL];unfold V7 fs;rw[OO,OO];rfl
 have aU:(V6 d).length=d.c.B:=by unfold V6;rw[NL,ok.len]
 have ab:Mf (V6 d)=true:=by
  unfold Mf V6;rw[List.all_map,QM];intro b hb;have:=ok.nx b hb;simp only[Function.comp,QR];omega
 have vZ: ∀y,Ey d y->I6 (V6 d) y=true/\(Q0 (V6 d) y).dirty=decide (Ch d y≠0):=fun y ⟨b,hb,sT⟩=>by
  obtain⟨h0,hi,e⟩:=W2 hb;have hs:(V6 d)[y.toNat]?=some ⟨b.wear,b.bad,decide (b.next≠0)⟩:=by
   unfold V6;rw[OU,NV hi,e];rfl
  have hn:Ch d y=b.next:=by unfold Ch;rw[hb];rfl
  constructor
  ·unfold I6;rw[hs];simp[h0,sT]
  ·unfold Q0;rw[hs,hn];show decide (b.next≠0)=_;exact decide_eq_decide.2 (by omega)
 obtain⟨r,hr,eN⟩:=At6 (fs us) (ss:=V6 d) (us:=[]) (by simpa using h.nd) fun y hy=>(vZ y (h.good hy)).1;have jX:Bx (V6 d) ((V7 d).map E2.b)=some r:=by
  unfold Bx;rw[NE ⟨by omega,by omega,ab⟩,qH];exact hr
 obtain⟨k1,k2,k3,k4,k5,k6,k7⟩:=EK (M2 d) (Cr (Q6 x d) d now r.1);have kZ:(Cr (Q6 x d) d now r.1).ue=us:=by
  show(V7 d).map E2.be++[]=us;rw[NP,<-cL];unfold V7;rw[OO];rfl
 refine⟨T8 (M2 d) (Cr (Q6 x d) d now r.1),?_,WS.congr (s:=Cr (Q6 x d) d now r.1) ⟨by rw[kZ];exact h,fun u hu=>?_,fun y hy=>?_,ht⟩ k1 k2 k3 k4,k5,k6,k1,k7,fun E hE hu=>?_⟩
 ·unfold Bu;rw[NE hx,ND (by rw[aG];decide)];unfold Gq;rw[jX];rfl
 ·rw[kZ,<-cL]at hu;obtain⟨y,hy,rfl⟩:=NY.1 hu;exact(To (G4 d) 0).2 y hy
 ·rw[kZ];show(Q0 r.1 y).dirty=_;have h0:0<=y:=by
   obtain⟨b,hb,-⟩:=hy;exact(W2 hb).1
  rw[eN y h0,(vZ y hy).2,<-Bool.decide_and];rfl
 ·rw[k3];refine Ae5 (G4 d) 0 hE fun y hy=>?_;exact hu (y.1,y.2.1) (by rw[<-cL];exact OQ (f:=fun x:HD=>(x.1,x.2.1)) hy)
def Cg9{c:Bh}(hc:Zs c):DI (fresh c) []/\TN (fresh c) 0:=by
 have hP:=hc.p;have gP: ∀x k,E7 (fresh c) x=some k->k=⟨List.replicate c.P (blk c.S),0,0,false⟩:=fun x k h=>by
  obtain⟨h0,hi,e⟩:=W2 h;have hm:k∈(fresh c).bs:=by rw[<-e];exact NO hi
  exact PW hm
 refine⟨⟨by simp,fun x _=>?_,.nil,by simp[fs]⟩,show((0:Nat):Int)+1<=0+1 by decide⟩
 ·unfold Db;cases hk:E7 (fresh c) x with
  |none=>rfl
  |some k=>
   rw[gP x k hk];show V3 _=none;unfold V3;rw[ND (show¬(false=true) by decide)];simp only;rw[NX,SE,NE (by omega)];exact Xy _
def WR.armed(h:WR s k)(n keep:Int):WR (s.dev (T3 s.d n keep)) k:=by
 unfold T3;split
 ·exact h
 ·rename_i aG;have e: ∀x,E7 {s.d with after:=n.toNat,keep:=keep} x=E7 s.d x:=fun x=>rfl;refine⟨fun hd=>?_,fun hd=>?_⟩
  ·have w:=h.1 hd;exact⟨w.di.congr rfl,w.ep,fun x hx=>w.dr x ((Yb (e x)).1 hx),w.tn⟩
  ·obtain⟨⟨us,w1,we⟩,w3⟩:=h.2 hd;exact⟨⟨us,w1.congr rfl,we⟩,w3⟩
def WR.restarted(h:WR s k):(∃us,DI (Fm s.d) us/\ ∀u∈us,u.2<=s.epoch+1)/\TN (Fm s.d) (k+1):=by
 cases hd:s.down with
 |false=>
  have w:=h.1 hd;refine⟨⟨s.ue,w.di.congr rfl,fun u hu=>by have:=w.ep u hu;omega⟩,?_⟩;have:=w.tn;unfold TN at*;show(s.d.torn.length:Int)+1<=_;split at this<;>omega
 |true=>
  obtain⟨⟨us,w1,we⟩,w3⟩:=h.2 hd;refine⟨⟨us,w1.congr rfl,we⟩,?_⟩;unfold TN at*;show(s.d.torn.length:Int)+1<=_;split at w3<;>omega
def La(ps:List (List UInt8))(q:Nat)(h:Hd):Prop:= ∃p,ps[q]?=some p/\(C1 p).2.2=0/\(C1 p).1=h
def P4(ps:List (List UInt8))(ep:Int):List It->Nat->Nat->Prop
 |[],a,b=>a=b
 |x::r,a,b=>(x.1=2\/x.1=3)/\x.2.1=(a:Int)/\1<=x.2.2.1/\(∀i:Nat,(i:Int)<x.2.2.1->La ps (a+i) (x.1,(i:Int),x.2.2.1,ep,((a+i:Nat):Int),()))/\P4 ps ep r (a+x.2.2.1.toNat) b
structure Ge(ps:List (List UInt8))(ep:Int)(l:List It)(nx:Nat)(z:Bool):Prop where
 hd: ∃p,ps[0]?=some p/\(C1 p).2.2=0/\(C1 p).1=Aa ep/\(C1 p).2.1=[]
 ch:P4 ps ep l 1 nx
 tl: ∀(q:Nat) p,nx<=q->ps[q]?=some p->(C1 p).2.2=0->z=true/\q=nx/\(C1 p).1.1=4/\(C1 p).2.1=N3 l
 len:ps.length<=16
section
variable {ps ps':List (List UInt8)} {ep:Int}
theorem P4.le: ∀{l:List It} {a b:Nat},P4 ps ep l a b->a+l.length<=b
 |[],a,b,h=>by have h:a=b:=h;simp[h]
 |x::r,a,b,h=>by
  obtain⟨-,-,h3,-,h5⟩:=h;have:=P4.le h5;rw[NU];omega
theorem P4.congr: ∀{l:List It} {a b:Nat},P4 ps ep l a b->(∀q,q<b->ps'[q]?=ps[q]?)->P4 ps' ep l a b
 |[],a,b,h,_=>h
 |x::r,a,b,h,he=>by
  obtain⟨h1,h2,h3,h4,h5⟩:=h;refine⟨h1,h2,h3,fun i hi=>?_,P4.congr h5 he⟩;obtain⟨p,p1,p2⟩:=h4 i hi;have:=P4.le h5;exact⟨p,by rw[he _ (by omega)];exact p1,p2⟩
theorem P4.snoc: ∀{l:List It} {a b:Nat} {x:It},P4 ps ep l a b->(x.1=2\/x.1=3)->x.2.1=(b:Int)->1<=x.2.2.1->(∀i:Nat,(i:Int)<x.2.2.1->La ps (b+i) (x.1,(i:Int),x.2.2.1,ep,((b+i:Nat):Int),()))->P4 ps ep (l++[x]) a (b+x.2.2.1.toNat)
 |[],a,b,x,h,h1,h2,h3,h4=>by
  have h:a=b:=h;rw[h];exact⟨h1,h2,h3,h4,rfl⟩
 |y::r,a,b,x,h,h1,h2,h3,h4=>by
  obtain⟨g1,g2,g3,g4,g5⟩:=h;exact⟨g1,g2,g3,g4,P4.snoc g5 h1 h2 h3 h4⟩
theorem P4.mem: ∀{l:List It} {a b:Nat},P4 ps ep l a b-> ∀x∈l,(x.1=2\/x.1=3)/\ ∃c:Nat,x.2.1=(c:Int)/\a<=c/\1<=x.2.2.1/\(c:Int)+x.2.2.1<=b/\ ∀i:Nat,(i:Int)<x.2.2.1->La ps (c+i) (x.1,(i:Int),x.2.2.1,ep,((c+i:Nat):Int),())
 |[],a,b,h,x,hx=>by cases hx
 |y::r,a,b,h,x,hx=>by
  obtain⟨g1,g2,g3,g4,g5⟩:=h;have bV:=P4.le g5;rcases OC.1 hx with rfl|hx
  ·exact⟨g1,a,g2,NF _,g3,by omega,g4⟩
  ·obtain⟨h1,c,h2,h3,h4,h5,h6⟩:=P4.mem g5 x hx;exact⟨h1,c,h2,by omega,h4,h5,h6⟩
theorem P4.last: ∀{l:List It} {a b:Nat},P4 ps ep l a b->a<b-> ∃h,La ps (b-1) h
 |[],a,b,h,hO=>by have h:a=b:=h;omega
 |y::r,a,b,h,hO=>by
  obtain⟨g1,g2,g3,g4,g5⟩:=h;by_cases hc:a+y.2.2.1.toNat<b
  ·exact P4.last g5 hc
  ·have:=P4.le g5;have:=g4 (y.2.2.1.toNat-1) (by omega);exact⟨_,by rw[show b-1=a+(y.2.2.1.toNat-1) by omega];exact this⟩
def La.says{q:Nat}{h:Hd}(s:La ps q h)(hq:q<16):(T6 ps q h).isSome=true:=by
 obtain⟨b,hb,h0,h1⟩:=s;unfold T6;rw[NE (by omega),NK,hb];dsimp only;rw[NE ⟨h0,h1⟩];rfl
def Ci2(h1:x.1=2\/x.1=3)(h2:x.2.1=(a:Int))(h3:1<=x.2.2.1)(h4: ∀i:Nat,(i:Int)<x.2.2.1->La ps (a+i) (x.1,(i:Int),x.2.2.1,ep,((a+i:Nat):Int),()))(hb:(a:Int)+x.2.2.1<=16):Q9 ps ep a=some x:=by
 obtain⟨p,p1,p2,p3⟩:=h4 0 (by omega);rw[QU]at p1;unfold Q9;rw[p1];dsimp only;rw[p3,NE ⟨p2,h1⟩,NE]
 ·dsimp only;rw[<-h2]
 ·rw[QM];intro i hi;have hi:=QT.1 hi;dsimp only at hi⊢;have h5:=(h4 i (by omega)).says (by omega);rw[show(a:Int)+(i:Int)=((a+i:Nat):Int) by omega];exact h5
theorem Ap8{f:Nat->Option It}{last:Nat}: ∀(k p:Nat),(∀q,p<=q->q<=last->f q=none)->Ao f last k p=[]
 |0,p,h=>rfl
 |k+1,p,h=>by
  rw[Ao];split
  ·rename_i hp;rw[h p (NF _) hp];exact Ap8 k (p+1) fun q h1 h2=>h q (by omega) h2
  ·rfl
theorem P4.each{last:Nat}: ∀{l:List It} {a b k:Nat},P4 ps ep l a b->b<=last+1->b<=16->l.length<=k->(∀q,b<=q->q<=last->Q9 ps ep q=none)->Ao (Q9 ps ep) last k a=l
 |[],a,b,k,h,h1,h2,h3,h4=>by
  have h:a=b:=h;exact Ap8 k a fun q q1 q2=>h4 q (by omega) q2
 |x::r,a,b,k,h,h1,h2,h3,h4=>by
  obtain⟨g1,g2,g3,g4,g5⟩:=h;have bV:=P4.le g5;obtain⟨k,rfl⟩: ∃k',k=k'+1:=⟨k-1,by rw[NU]at h3;omega⟩;rw[Ao,NE (by omega),Ci2 g1 g2 g3 g4 (by omega)];dsimp only;rw[P4.each g5 h1 h2 (by rw[NU]at h3;omega) h4]
theorem Ag3{q:Nat}(hq:R7 (ps.getD q [])=false): ∀n,q<=n->q<=Ig ps n
 |0,h=>by omega
 |n+1,h=>by
  unfold Ig;split
  ·rename_i hb;have:q≠n+1:=fun e=>by rw[e,hb]at hq;cases hq
   exact Ag3 hq n (by omega)
  ·exact h
def Bh5{l l':List It}(cC:Ba (l.flatMap Bo)){q:Nat}(h:Ax (N3 l) q=some l'):l'=l:=by
 obtain⟨-,y,hy,-,rfl⟩:=Wa h;rw[(Si hy).2.2.2];have hl:=Pq l;have e:(N3 l).length/3=l.length:=by omega
 rw[e];refine UZ (by simp) fun j h1 h2=>?_;rw[QG,YA,QO];have hm:l[j]∈l:=NO h2;have hs:=LG (l.take j) l[j] (l.drop (j+1)) fun n hn=>cC n (OY.2 ⟨_,hm,hn⟩);rw[<-OZ h2,PR,NW,QF (by omega)]at hs;exact hs
def Ge.nx16{l:List It}(h:Ge ps ep l nx z):1<=nx/\nx<=ps.length:=by
 have h1:=P4.le h.ch;refine⟨by omega,?_⟩;rcases PY 1 nx with h2|h2
 ·obtain⟨_,p,hp,-⟩:=P4.last h.ch h2;have:=(PL.1 hp).1;omega
 ·obtain⟨p,hp,-⟩:=h.hd;have:=(PL.1 hp).1;omega
def Ge.scan{l:List It}(h:Ge ps ep l nx z):(P1 ps).1.1=ep/\(P1 ps).1.2.2=l/\(P1 ps).2=true:=by
 obtain⟨p0,q1,q2,q3,q4⟩:=h.hd;obtain⟨n1,n2⟩:=h.nx16;have hC:=h.len;have hZ:ps≠[]:=fun e=>by rw[e]at q1;cases q1
 have bS:N4 ps=ep:=by
  unfold N4;rw[NX,q1,UE,q3];rfl
 have cG:T6 ps 0 (1,0,1,N4 ps,0,())=some []:=by
  unfold T6;rw[bS,NE (by omega),show(0:Int).toNat=0 from rfl,q1];dsimp only;rw[NE ⟨q2,q3⟩,q4]
 have dV:nx<=J8 ps+1:=by
  have: ∃p,ps[nx-1]?=some p/\(C1 p).2.2=0:=by
   rcases PY 1 nx with h2|h2
   ·obtain⟨_,p,hp,h0,-⟩:=P4.last h.ch h2;exact⟨p,hp,h0⟩
   ·exact⟨p0,by rw[show nx-1=0 by omega];exact q1,q2⟩
  obtain⟨p,hp,h0⟩:=this;have:=Ag3 (ps:=ps) (q:=nx-1) (by rw[NX,hp];exact(Lv h0).2.2.2.2) (min ps.length 16-1) (by omega);unfold J8;omega
 have mX: ∀q,nx<=q->Q9 ps ep q=none:=fun q hq=>by
  unfold Q9;split
  ·rename_i b hb;refine ND fun hc=>?_;obtain⟨-,-,h4,-⟩:=h.tl q b hq hb hc.1;rcases hc.2 with h5|h5<;>rw[h4]at h5<;>cases h5
  ·rfl
 have cC:Ba (l.flatMap Bo):=fun n hn=>by
  obtain⟨x,hx,hn⟩:=OY.1 hn;obtain⟨h1,c,h2,h3,h4,h5,-⟩:=P4.mem h.ch x hx;unfold Bo at hn;simp only[OC,VS,or_false]at hn;rcases hn with rfl|rfl|rfl<;>omega
 have aU: ∀l',(if J8 ps>0 then Gl ps (N4 ps)else none)=some l'->l'=l:=fun l' bQ=>by
  split at bQ
  ·rename_i sP;unfold Gl at bQ;cases lX:T6 ps (J8 ps) (4,0,1,N4 ps,J8 ps,())with
   |none=>rw[lX]at bQ;cases bQ
   |some pl=>
    rw[lX]at bQ;have bQ:Ax pl (J8 ps)=some l':=bQ;unfold T6 at lX;split at lX
    ·rw[NK]at lX;split at lX
     ·rename_i b hb;split at lX
      ·rename_i hc;obtain rfl:=NI lX;have aM:nx<=J8 ps:=by
        rcases PY (J8 ps) nx with hO|aM
        ·have he:J8 ps=nx-1:=by omega
         obtain⟨hh,p,hp,h0,h1⟩:=P4.last h.ch (by omega);exfalso;obtain⟨x,hx,c,i,hi,jU,hs⟩: ∃x∈l,∃c i:Nat,(i:Int)<x.2.2.1/\c+i=nx-1/\La ps (c+i) (x.1,(i:Int),x.2.2.1,ep,((c+i:Nat):Int),()):=by
          have key: ∀{l:List It} {a b:Nat},P4 ps ep l a b->a<b-> ∃x∈l,∃c i:Nat,(i:Int)<x.2.2.1/\c+i=b-1/\La ps (c+i) (x.1,(i:Int),x.2.2.1,ep,((c+i:Nat):Int),()):=by
           intro l;induction l with
           |nil=>intro a b hh hO;have hh:a=b:=hh;omega
           |cons y r ih=>
            intro a b hh hO;obtain⟨g1,g2,g3,g4,g5⟩:=hh;by_cases hc:a+y.2.2.1.toNat<b
            ·obtain⟨x,hx,q⟩:=ih g5 hc;exact⟨x,NN _ hx,q⟩
            ·have:=P4.le g5;exact⟨y,by simp,a,y.2.2.1.toNat-1,by omega,by omega,g4 _ (by omega)⟩
          exact key h.ch (by omega)
         obtain⟨p',dC,h0',qA⟩:=hs;rw[jU,<-he,hb]at dC;rw[<-NI dC,hc.2]at qA;have h41:(4:Int)=x.1:=congrArg (fun t:Hd=>t.1) qA;have:=(P4.mem h.ch x hx).1;omega
        ·exact aM
       obtain⟨-,-,-,h5⟩:=h.tl _ b aM hb hc.1;rw[h5]at bQ;exact Bh5 cC bQ
      ·cases lX
     ·cases lX
    ·cases lX
  ·cases bQ
 cases hq:(if J8 ps>0 then Gl ps (N4 ps)else none)with
 |some l'=>
  rw[LB hZ cG hq];exact⟨bS,aU l' hq,rfl⟩
 |none=>
  rw[AY hZ cG hq];refine⟨bS,?_,rfl⟩;dsimp only;rw[bS];exact P4.each h.ch dV (by omega) (by have:=P4.le h.ch;omega) fun q q1 _=>mX q q1
end
def Tq(ok:G3 d)(aG:d.down=false){k:G6}(hk:E7 d b=some k)(bD:k.bad=false):(K7 d b).1=k.pages:=by
 have hP:=ok.c.p;obtain⟨h0,hi,e⟩:=W2 hk;have aQ:=(ok.pg k (by rw[<-e];exact NO hi)).1;have hf:H6 d b 0=0:=by
  unfold H6;rw[ND (by rw[aG];decide),ND (by omega),ND (by omega)]
 unfold K7;rw[ND (by simpa using hf)];refine UZ (by simp[aQ]) fun i h1 h2=>?_;rw[QG,YA,Ki aG hk bD ⟨by omega,by omega⟩];dsimp only;rw[NK,NX,NV h2];rfl
def Ge.reg(ok:G3 d)(aG:d.down=false){k:G6}(hk:E7 d b=some k)(bD:k.bad=false){l:List It}(h:Ge k.pages ep l nx z):W3 d b.toNat=some (b,ep,l):=by
 obtain⟨s1,s2,s3⟩:=h.scan;obtain⟨h0,-,-⟩:=W2 hk;have e:((b.toNat:Nat):Int)=b:=by omega
 unfold W3;rw[e,Tq ok aG hk bD,NE s3,s1,s2]
def So(hc:d'.c=d.c)(hl:d'.bs.length=d.bs.length)(hd:d'.down=d.down)(iV:0<=b)(hb:E7 d' b=E7 d b):W3 d' b.toNat=W3 d b.toNat:=by
 have e:((b.toNat:Nat):Int)=b:=by omega
 have hL:K7 d' b=K7 d b:=by
  have hf:H6 d' b 0=H6 d b 0:=by unfold H6;rw[hc,hl,hd]
  unfold K7;rw[hf,hc];simp only[Sp hc hl hd hb]
 unfold W3;rw[e,hL]
def By1(hc:d'.c=d.c)(hl:d'.bs.length=d.bs.length)(hd:d'.down=d.down)(hb:E7 d' b=E7 d b):K7 d' b=K7 d b:=by
 have hf:H6 d' b 0=H6 d b 0:=by unfold H6;rw[hc,hl,hd]
 unfold K7;rw[hf,hc];simp only[Sp hc hl hd hb]
theorem Fy{α β:Type}{f g:α->List β}: ∀{l:List α},(∀x∈l,f x=g x)->l.flatMap f=l.flatMap g
 |[],_=>rfl
 |a::r,h=>by rw[OL,OL,h a (by simp),Fy fun x hx=>h x (NN _ hx)]
theorem An4{α β:Type}{f g:α->Option β}: ∀{l:List α},(∀x∈l,f x=g x)->l.filterMap f=l.filterMap g
 |[],_=>rfl
 |a::r,h=>by rw[WC,WC,h a (by simp),An4 fun x hx=>h x (NN _ hx)]
def Ob(d:B8)(b ep:Int)(x:It):Option LE:=Az d ((b,ep,[]),x)
def Kq(d:B8)(b:Int)(x:It):List It:=Gu d ((b,0,[]),x)
def Dc(d:B8)(b ep:Int)(l:List It):List LE:=(l.filter fun x=>decide (x.1=2)).filterMap (Ob d b ep)
def Cz(d:B8)(b:Int)(l:List It):List It:=(l.filter fun x=>decide (x.1=3)).flatMap (Kq d b)
def Xx(r:E2):HD:=(r.b,r.ep,r.l)
theorem HC(d:B8): ∀R:List E2,Gd d (R.map Xx)=R.flatMap fun r=>Dc d r.b r.ep r.l
 |[]=>rfl
 |r::t=>by
  have ih:=HC d t;unfold Gd Dr at ih⊢;rw[NS,OL,WA,ih,OL];congr 1;unfold Dc;rw[List.filterMap_map];rfl
theorem HF(d:B8): ∀R:List E2,Ri d (R.map Xx)=R.flatMap fun r=>Cz d r.b r.l
 |[]=>rfl
 |r::t=>by
  have ih:=HF d t;unfold Ri Dr at ih⊢;rw[NS,OL,OD,ih,OL];congr 1;unfold Cz;rw[XV];rfl
def B0.regs(s:B0):List E2:=s.rs++s.op.toList
def B0.aL(s:B0):List LE:=s.regs.flatMap fun r=>Dc s.d r.b r.ep r.l
def B0.kL(s:B0):List It:=s.regs.flatMap fun r=>Cz s.d r.b r.l
def Cl6(h:Ob d b ep x=some y):y.2=(b,x.2.1,ep,())/\(C7 d y.2).2.2=0/\M8 (C7 d y.2).1=y.1:=by
 unfold Ob Az at h;split at h
 ·rename_i h0;obtain rfl:=NI h;exact⟨rfl,h0,rfl⟩
 ·cases h
def Ap3{l:List It}(h:y∈Dc d b ep l): ∃x∈l,x.1=2/\y.2=(b,x.2.1,ep,())/\(C7 d y.2).2.2=0/\M8 (C7 d y.2).1=y.1:=by
 unfold Dc at h;obtain⟨x,hx,he⟩:=UF.1 h;obtain⟨h1,h2⟩:=OI.1 hx;exact⟨x,h1,PF h2,Cl6 he⟩
def Mm(h:y∈s.aL): ∃r∈s.regs,∃x∈r.l,x.1=2/\y.2=(r.b,x.2.1,r.ep,())/\(C7 s.d y.2).2.2=0/\M8 (C7 s.d y.2).1=y.1:=by
 obtain⟨r,hr,hy⟩:=OY.1 h;obtain⟨x,hx,q⟩:=Ap3 hy;exact⟨r,hr,x,hx,q⟩
structure RI(s:B0):Prop where
 rs: ∀r∈s.rs,0<=r.b/\W3 s.d r.b.toNat=some (r.b,r.ep,r.l)
 op: ∀o,s.op=some o-> ∃k,E7 s.d o.b=some k/\k.bad=false/\Ge k.pages o.ep o.l o.nx.toNat false
def Cf3(ws:WS s k)(ri:RI s)(ok:G3 s.d)(aG:s.d.down=false):G4 s.d=s.regs.map Xx:=by
 have h1:=Xv ws.di ok aG;have h2:s.ue=s.regs.map E2.be:=by
  unfold B0.ue B0.regs;rw[NQ];cases s.op<;>rfl
 have eV: ∀r∈s.regs,0<=r.b/\W3 s.d r.b.toNat=some (r.b,r.ep,r.l):=fun r hr=>by
  rcases NJ.1 hr with hr|hr
  ·exact ri.rs r hr
  ·cases ho:s.op with
   |none=>rw[ho]at hr;cases hr
   |some o=>
    rw[ho]at hr;obtain rfl:r=o:=by simpa using hr
    obtain⟨k,k1,k2,k3⟩:=ri.op r ho;exact⟨(W2 k1).1,k3.reg ok aG k1 k2⟩
 have hC:=congrArg List.length h1;rw[h2,NL,NL]at hC;refine UZ (by rw[NL];exact hC) fun i i1 i2=>?_;rw[NL]at i2;rw[QG];have h3:((G4 s.d)[i].1,(G4 s.d)[i].2.1)=s.regs[i].be:=by
  have:=congrArg (fun l=>l[i]?) h1;rw[h2]at this;simpa[i1,i2]using this
 obtain⟨b,hb,hr⟩:=Um (NO i1);have dM:=(Jf hr).1;obtain⟨g0,g1⟩:=eV _ (NO i2);have e:(G4 s.d)[i].1=s.regs[i].b:=congrArg Prod.fst h3;have eb:s.regs[i].b.toNat=b:=by omega
 rw[eb,hr]at g1;exact NI g1
def Af2(ws:WS s k)(ri:RI s)(ok:G3 s.d)(aG:s.d.down=false):M2 s.d=Tt s.aL s.kL:=by
 unfold M2;rw[Cf3 ws ri ok aG,HC,HF];rfl
section
variable {d d':B8} {b:Int} {k k':G6}
def By2(e:C7 d' (Ed h x)=C7 d (Ed h x)):Az d' (h,x)=Az d (h,x):=by
 unfold Az;rw[show Ed (h,x).1 (h,x).2=Ed h x from rfl,e]
def Ap2{l:List It}(h: ∀x∈l,C7 d' (b,x.2.1,ep,())=C7 d (b,x.2.1,ep,())):Dc d' b ep l=Dc d b ep l:=by
 unfold Dc;exact An4 fun x hx=>By2 (h x (OI.1 hx).1)
def Qv(hc:d'.c=d.c)(hl:d'.bs.length=d.bs.length)(hd:d'.down=d.down)(hb:E7 d' b=E7 d b)(ep:Int)(l:List It):Dc d' b ep l=Dc d b ep l:=Ap2 fun x _=>Yi hc hl hd hb
def Qh(hc:d'.c=d.c)(hl:d'.bs.length=d.bs.length)(hd:d'.down=d.down)(hb:E7 d' b=E7 d b)(l:List It):Cz d' b l=Cz d b l:=by
 unfold Cz Kq Gu;dsimp only;rw[By1 hc hl hd hb]
theorem Ab3{ps ps':List (List UInt8)}{c:Nat}(hl:ps'.length=ps.length): ∀n:Nat,(∀i,i<n->ps'[c+i]?=ps[c+i]?)->T7 ps' c n=T7 ps c n
 |0,_=>rfl
 |n+1,h=>by
  unfold T7;rw[Ab3 hl n fun i hi=>h i (by omega),hl,NK,NX,NX,h n (by omega)]
def Ge.keep(ok:G3 d)(ok':G3 d')(aG:d.down=false)(kS:d'.down=false)(hc:d'.c=d.c)(hk:E7 d b=some k)(cA:E7 d' b=some k')(bD:k.bad=false)(rB:k'.bad=false){l:List It}(h:Ge k.pages ep l nx z)(hp: ∀q,q<nx->k'.pages[q]?=k.pages[q]?):
  Dc d' b ep l=Dc d b ep l/\Cz d' b l=Cz d b l:=by
 have aQ:=(ok.pg k (by obtain⟨_,hi,e⟩:=W2 hk;rw[<-e];exact NO hi)).1;have iA:=(ok'.pg k' (by obtain⟨_,hi,e⟩:=W2 cA;rw[<-e];exact NO hi)).1;have hP:=ok.c.p;obtain⟨n1,n2⟩:=h.nx16;have eN: ∀q:Int,0<=q->q<nx->I5 d b q=I5 d' b q:=fun q q0 q1=>by
  rw[Ki aG hk bD ⟨q0,by omega⟩,Ki kS cA rB ⟨q0,by rw[hc];omega⟩,NX,NX,hp _ (by omega)]
 refine⟨Ap2 fun x hx=>?_,?_⟩
 ·obtain⟨-,c,h2,h3,h4,h5,h6⟩:=P4.mem h.ch x hx;obtain⟨pg,p1,p2,p3⟩:=h6 0 (by omega);rw[QU]at p1;symm;refine FS (eN 0 (by omega) (by omega)) (eN _ (by rw[h2];omega) (by rw[h2];omega)) fun i hi _=>?_;have bI:(I5 d' b x.2.1).1=pg:=by
   rw[Ki kS cA rB ⟨by omega,by rw[hc];omega⟩,h2,NK,NX,hp _ (by omega),p1];rfl
  have hi:(i:Int)<(C1 (I5 d' b x.2.1).1).1.2.2.1:=hi;rw[bI,p3]at hi;have hi:(i:Int)<x.2.2.1:=hi;exact eN _ (by rw[h2];omega) (by rw[h2];omega)
 ·unfold Cz;refine Fy fun x hx=>?_;obtain⟨-,c,h2,h3,h4,h5,h6⟩:=P4.mem h.ch x (OI.1 hx).1;unfold Kq Gu Gp;rw[Tq ok aG hk bD,Tq ok' kS cA rB];dsimp only;rw[h2,Ab3 (by rw[aQ,iA,hc]) _ fun i hi=>hp _ (by omega)]
end
section
variable {d d':B8} {b:Int} {k k':G6} {f:Nat} {l:List (List UInt8)} {kind ep:Int}
def Ge.wr(w:Jx d d' b k k' f l (fun j=>(kind,((0+j:Nat):Int),(l.length:Int),ep,((f+j:Nat):Int),())))(ok:G3 d)(mT:kind=2\/kind=3)(hl:1<=l.length)(fA:f+l.length<=16)(rM:1<=f)(bS:1<=ep/\ep<=1073741824)(hs: ∀p∈l,p.length<=d.c.S-16){L:List It}(h:Ge k.pages ep L f false):
  Ge k'.pages ep (L++[(kind,(f:Int),(l.length:Int),())]) (f+l.length) false/\ ∀(j:Nat) (hj:j<l.length),∃pg,k'.pages[f+j]?=some pg/\C1 pg=((kind,((0+j:Nat):Int),(l.length:Int),ep,((f+j:Nat):Int),()),l[j],0):=by
 have hS:=ok.c.s;have hP:=ok.c.p;have mK: ∀(j:Nat) (hj:j<l.length),∃pg,k'.pages[f+j]?=some pg/\C1 pg=((kind,((0+j:Nat):Int),(l.length:Int),ep,((f+j:Nat):Int),()),l[j],0):=fun j hj=>by
  have he:J7 (kind,((0+j:Nat):Int),(l.length:Int),ep,((f+j:Nat):Int),())=0:=by
   unfold J7;rw[ND (by simp only;omega),ND (by simp only;omega)]
  exact⟨_,w.new j hj,(Jh he l[j] hS (hs _ (NO hj))).1⟩
 have aQ:=(w.ok.pg k' (by obtain⟨_,hi,e⟩:=W2 w.own;rw[<-e];exact NO hi)).1;rw[w.c]at aQ;refine⟨⟨?_,?_,fun q p hq hp h0=>?_,by omega⟩,mK⟩
 ·obtain⟨p,p1,p2⟩:=h.hd;exact⟨p,by rw[w.old 0 (.inl (by omega))];exact p1,p2⟩
 ·have:=(h.ch.congr (ps':=k'.pages) fun q hq=>w.old q (.inl hq)).snoc (x:=(kind,(f:Int),(l.length:Int),())) mT rfl (by simp only;omega) fun i hi=>by
   have hi:i<l.length:=by simp only at hi;omega
   obtain⟨pg,p1,p2⟩:=mK i hi;refine⟨pg,p1,by rw[p2],?_⟩;rw[p2];dsimp only;rw[QO]
  simpa using this
 ·rw[w.old q (.inr hq)]at hp;have:=(h.tl q p (by omega) hp h0).1;cases this
end
def Ck(s:B0)(K:ByteArray)(p:It):Bool:=decide ((C7 s.d p).2.2=0/\M8 (C7 s.d p).1=K)
def K6(s:B0)(K:ByteArray):List It:=(P0 (C6 s.ix (s.hash K)) (s.hash K)).filter (Ck s K)
instance instMemB (K:ByteArray) (l:List ByteArray):Decidable (K∈l):=decidable_of_iff (l.any (fun k=>decide (K=k))=true) (by simp)
def N9(s:B0)(K:ByteArray):Nat:=(K6 s K).length+if K∈s.q.map Prod.fst then 1 else 0
def Px(s:B0)(K:ByteArray):s.place K=(K6 s K).head?:=by
 unfold B0.place K6;rw[List.head?_filter];rfl
def Lu{k:Nat}(hl:isi ss k<ss.length)(row:List C8)(k2:Nat):C6 (iset ss k row) k2=if isi ss k2=isi ss k then row else C6 ss k2:=by
 have e:isi (iset ss k row) k2=isi ss k2:=by unfold isi;rw[Jm]
 unfold C6;rw[e];unfold iset;rw[NX,RX,NX];by_cases h:isi ss k2=isi ss k
 ·rw[NE h,NE h.symm,NE hl];rfl
 ·rw[ND h,ND (fun q=>h q.symm)]
def Uc{k:Nat}{x:C8}(h:x∈C6 ss k): ∃row∈ss,x∈row:=by
 unfold C6 at h;rw[NX]at h;cases hr:ss[isi ss k]? with
 |none=>rw[hr]at h;cases h
 |some row=>rw[hr]at h;exact⟨row,QI hr,h⟩
def EY{l:List C8}{k:Nat}(h:p∈P0 l k): ∃x∈l,x.pl=p/\x.nm=E1 k p:=by
 unfold P0 at h;obtain⟨x,hx,rfl⟩:=NY.1 h;obtain⟨h1,h2⟩:=OI.1 hx;refine⟨x,h1,rfl,?_⟩;unfold C8.nm E1 C8.pl;rw[PF h2]
def Qm{l l':List C8}(h:l'.Sublist l)(k:Nat):(P0 l' k).Sublist (P0 l k):=(h.filter _).map _
def Ce(s s':B0):Prop:= ∀row∈s.ix,∀x∈row,(C7 s'.d x.pl).2.2=0->C7 s.d x.pl=C7 s'.d x.pl
def Ce.refl(s:B0):Ce s s:=fun _ _ _ _ _=>rfl
section
variable {s s':B0} {M:Nat}
def Ce.hit(h:Ce s s'){k:Nat}(hp:p∈P0 (C6 s.ix k) k)(hk:Ck s' K p=true):Ck s K p=true:=by
 obtain⟨x,hx,rfl,-⟩:=EY hp;obtain⟨row,hr,hx⟩:=Uc hx;unfold Ck at hk⊢;have hk:=PF hk;have:=h row hr x hx hk.1;rw[this];exact OH hk
theorem An6{α:Type}{p q:α->Bool}: ∀{l:List α},(∀x∈l,q x=true->p x=true)->(l.filter q).length<=(l.filter p).length
 |[],_=>NF _
 |a::r,h=>by
  have ih:=An6 (p:=p) (q:=q) (l:=r) fun x hx=>h x (NN _ hx);rw[QS,QS];cases hq:q a with
  |true=>rw[h a (by simp) hq];simp;omega
  |false=>
   simp only[QN,if_false];split
   ·simp;omega
   ·exact ih
def Bq6(dO:s'.sc=s.sc)(hr: ∀k,(C6 s'.ix k).Sublist (C6 s.ix k))(hf:Ce s s')(K:ByteArray):(K6 s' K).length<=(K6 s K).length:=by
 have hh:s'.hash K=s.hash K:=by unfold B0.hash;rw[dO]
 unfold K6;rw[hh];exact OK (((Qm (hr _) _).filter _).length_le) (An6 fun p hp hk=>hf.hit hp hk)
def Ce.cnt(hf:Ce s s')(dO:s'.sc=s.sc)(hr: ∀k,(C6 s'.ix k).Sublist (C6 s.ix k))(hq:s'.q=s.q)(K:ByteArray):N9 s' K<=N9 s K:=by
 have:=Bq6 dO hr hf K;unfold N9;rw[hq];omega
structure KI(s:B0):Prop where
 sb:F4 s
 op: ∀o,s.op=some o->(∃k,E7 s.d o.b=some k/\Lc k o.nx o.ep)/\o.nx<s.sc.c.P/\(o.l.length:Int)+1<=o.nx/\(∀x∈o.l,0<=x.1/\x.1<=255)/\1<=o.ep/\o.ep<=s.epoch
 ix: ∀row∈s.ix,∀x∈row,x.e<=s.epoch/\ ∀o,s.op=some o->x.b=o.b->x.e=o.ep->x.p<o.nx
 uq:(s.q.map Prod.fst).Nodup
 pl: ∀K,N9 s K<=1
 fit:3*((s.sc.c.P:Int)-2)<=s.sc.c.S-16
def KI.congr(h:KI s)(h1:s'.d=s.d)(h2:s'.rs=s.rs)(h3:s'.op=s.op)(h4:s'.ix=s.ix)(h5:s'.epoch=s.epoch)(h6:s'.q=s.q)(h7:s'.sc=s.sc):KI s':=by
 refine⟨h.sb.congr h1 h2 h3,by rw[h1,h3,h5,h7];exact h.op,by rw[h3,h4,h5];exact h.ix,by rw[h6];exact h.uq,fun K=>OK (Ce.cnt (s:=s) (fun row hr x hx _=>by rw[h1]) h7 (fun k=>by rw[h4];exact RT _) h6 K) (h.pl K),by rw[h7];exact h.fit⟩
def Rq(s t:B0)(b:Int):Prop:=t.d.c=s.d.c/\t.d.bs.length=s.d.bs.length/\t.d.down=s.d.down/\ ∀x,x≠b->E7 t.d x=E7 s.d x
def Rl(s t:B0)(b:Int)(f:Nat)(l:List (List UInt8))(mk:Nat->Hd):Prop:=t.d.bs.length=s.d.bs.length/\ ∃k k',E7 s.d b=some k/\k.bad=false/\Jx s.d t.d b k k' f l mk
def KI.write(h:KI s)(ok:B9 s M)(hd:s.down=false)(hk:kind=2\/kind=3){l:List (List UInt8)}(hl:1<=l.length/\l.length<=8)(hs: ∀p∈l,p.length<=s.sc.c.S-16)(hc:kind=2->Ju s.sc.c.P l.length)(h3:kind=3->(l.length:Int)=1/\ ∀p∈l,∀y∈(V1 p).1,y.2.2.1<=s.epoch)(hf:s.fits l.length=true):
  (s.write kind l).2.2=11\/((s.write kind l).2.2=0/\KI (s.write kind l).1/\Ce s (s.write kind l).1/\(∃o,s.op=some o/\(s.write kind l).2.1=(o.b,o.nx,o.ep,())/\(s.write kind l).1.op=some (o.grown kind l.length)/\Rl s (s.write kind l).1 o.b o.nx.toNat l fun j=>(kind,((0+j:Nat):Int),(l.length:Int),o.ep,((o.nx.toNat+j:Nat):Int),()))/\(kind=2->C7 (s.write kind l).1.d (s.write kind l).2.1=V2 l.flatten)):=by
 have dL:=(h.sb.write ok hd hk l hc h3).1;have hS:=ok.S;have hP:=ok.P;unfold B0.fits at hf;cases ho:s.op with
 |none=>rw[ho]at hf;cases hf
 |some o=>
  rw[ho]at hf;have hf:o.nx+l.length<s.sc.c.P:=PF hf;obtain⟨⟨k,bD,bG⟩,o1,o2,o3,o4,o5⟩:=h.op o ho;have cr:=ok.op o ho;have bS:=ok.ep;obtain⟨f,jT⟩: ∃f:Nat,o.nx=f:=⟨o.nx.toNat,by omega⟩;have cO:s.d.down=false:=by rw[<-ok.dn];exact hd
  rw[jT]at bG;have dP:=Zm (b:=o.b) (ep:=o.ep) (kind:=kind) (n:=l.length) (f:=f) (by omega) (by omega) (by omega) l (d:=s.d) 0 ok.dv cO bD bG.good (by have:=bG.next;omega) (by rw[ok.cfg];exact hs) (by omega) (by rw[ok.cfg];omega);have aO:=(Zl ok.dv cO o.b o.ep o.nx kind l).1;have iL:S1 s.d o.b o.ep o.nx kind l=N2 o.b o.ep f kind l.length s.d 0 l:=by
   unfold S1;rw[ND (by intro e;rw[e]at hl;simp at hl),jT]
  rw[iL]at aO;have hw:s.write kind l=(if(N2 o.b o.ep f kind l.length s.d 0 l).1≠0 then(((s.pay l.length).dev (N2 o.b o.ep f kind l.length s.d 0 l).2).met (N2 o.b o.ep f kind l.length s.d 0 l).1,(o.b,o.nx,o.ep,()),(N2 o.b o.ep f kind l.length s.d 0 l).1)else({(s.pay l.length).dev (N2 o.b o.ep f kind l.length s.d 0 l).2 with op:=some (o.grown kind l.length)},(o.b,o.nx,o.ep,()),0)):=by
   unfold B0.write;rw[ho];dsimp only;rw[iL]
  have g1:=dP;rw[hw]at dL⊢;generalize N2 o.b o.ep f kind l.length s.d 0 l=q at g1 aO dL;rcases g1 with g1|⟨g0,k',w⟩
  ·left;rw[NE (by rw[g1];decide)];exact g1
  ·right;rw[ND (by simpa using g0)]at dL⊢;have wH:64<=s.d.c.S/\s.d.c.S<=512:=by rw[ok.cfg];exact hS
   have aP: ∀p∈l,p.length<=s.d.c.S-16:=by rw[ok.cfg];exact hs
   have pF: ∀j,j<l.length->J7 (kind,((0+j:Nat):Int),(l.length:Int),o.ep,((f+0+j:Nat):Int),())=0:=fun j hj=>by
    unfold J7;rw[ND (by simp only;omega),ND (by simp only;omega)]
   have kI:=Lc.wr w wH (ep:=o.ep) (by simpa using bG) (fun j hj=>⟨pF j hj,rfl,fun _ h0=>by simp only at h0;simp only;omega⟩) aP;have gN:Ce s {(s.pay l.length).dev q.2 with op:=some (o.grown kind l.length)}:=fun row hr x hx gB=>FU w aO.ln ok.dv cO bD (ep:=o.ep) (by simpa using bG) (fun j hj=>⟨pF j hj,rfl⟩) aP (fun e1 e2=>by
    have:=(h.ix row hr x hx).2 o ho e1 e2;show x.p<((f+0:Nat):Int);omega) gB
   refine⟨rfl,⟨dL,fun o' bH=>?_,fun row hr x hx=>?_,h.uq,fun K=>OK (gN.cnt rfl (fun k=>RT _) rfl K) (h.pl K),h.fit⟩,gN,⟨o,rfl,rfl,rfl,aO.ln,k,k',bD,bG.good,?_⟩,fun h2=>?_⟩
   ·obtain rfl:=NI bH;refine⟨⟨k',w.own,?_⟩,hf,?_,fun x hx=>?_,o4,o5⟩
    ·show Lc k' (o.nx+l.length) o.ep;rw[jT];simpa using kI
    ·show((o.l++[_]).length:Int)+1<=o.nx+l.length;rw[NR,SS];omega
    ·rcases NJ.1 hx with hx|hx
     ·exact o3 x hx
     ·rw[NM.1 hx];simp only;omega
   ·obtain⟨x1,x2⟩:=h.ix row hr x hx;refine⟨x1,fun o' bH e1 e2=>?_⟩;obtain rfl:=NI bH;have:=x2 o ho e1 e2;show x.p<o.nx+l.length;omega
   ·rw[show o.nx.toNat=f by omega];show Jx s.d q.2 o.b k k' f l _;simpa using w
   ·subst h2;have lU:Jx s.d q.2 o.b k k' f l fun j=>(2,((0+j:Nat):Int),(l.length:Int),o.ep,((f+j:Nat):Int),()):=by simpa using w
    have:=Ck1 lU ⟨o4,by omega⟩ ⟨hl.1,by omega⟩ aP (by rw[ok.cfg];omega);show C7 q.2 (o.b,o.nx,o.ep,())=_;rw[jT];exact this
def Aw1(b ep kind:Int)(f:Nat)(d:B8)(p:List UInt8):N2 b ep f kind (([p]:List (List UInt8)).length:Nat) d 0 [p]=O4 d b (kind,0,1,ep,f,()) p:=by
 unfold N2;simp only[SS,XP,XQ,Int.natCast_one];unfold N2;split
 ·rename_i h;exact Prod.ext h.symm rfl
 ·rfl
def KI.seals(h:KI s)(ok:B9 s M)(hd:s.down=false):
  s.seals.2=11\/(s.seals.2=0/\KI s.seals.1/\Ce s s.seals.1/\s.seals.1.op=none/\s.seals.1.ix=s.ix/\s.seals.1.q=s.q/\s.seals.1.gh=s.gh/\ ∀o,s.op=some o->s.seals.1.rs=s.rs++[o]/\Rl s s.seals.1 o.b o.nx.toNat [N3 o.l] fun j=>(4,((0+j:Nat):Int),1,o.ep,((o.nx.toNat+j:Nat):Int),())):=by
 have dL:=h.sb.seals ok;have hS:=ok.S;have hP:=ok.P;cases ho:s.op with
 |none=>
  have hw:s.seals=(s,0):=by unfold B0.seals;rw[ho]
  rw[hw];exact .inr ⟨rfl,h,.refl s,ho,rfl,rfl,rfl,fun o eO=>by cases eO⟩
 |some o=>
  obtain⟨⟨k,bD,bG⟩,o1,o2,o3,o4,o5⟩:=h.op o ho;have hg:=ok.it o (.inr ho);have bS:=ok.ep;obtain⟨f,jT⟩: ∃f:Nat,o.nx=f:=⟨o.nx.toNat,by omega⟩;have cO:s.d.down=false:=by rw[<-ok.dn];exact hd
  rw[jT]at bG;have cC:Ba (o.l.flatMap Bo):=fun n hn=>by
   obtain⟨x,hx,hn⟩:=OY.1 hn;have g1:=o3 x hx;have g2:=hg.2 x hx;unfold Bo at hn;simp only[OC,VS,or_false]at hn;rcases hn with rfl|rfl|rfl
   ·exact g1
   ·exact g2.1
   ·exact g2.2
  have hC:=Pq o.l;have cX:=h.fit;have dP:=Zm (b:=o.b) (ep:=o.ep) (kind:=4) (n:=(([N3 o.l]:List (List UInt8)).length:Nat)) (f:=f) (by omega) (by omega) (by simp) [N3 o.l] (d:=s.d) 0 ok.dv cO bD bG.good (by have:=bG.next;omega) (by rw[ok.cfg];intro p hp;rw[NM.1 hp];omega) (by simp) (by rw[ok.cfg];simp;omega);have aO:=AW ok.dv cO o.b o.ep o.nx o.l;have iL:U7 s.d o.b o.ep o.nx o.l=N2 o.b o.ep f 4 (([N3 o.l]:List (List UInt8)).length:Nat) s.d 0 [N3 o.l]:=by
   rw[Aw1];unfold U7;rw[NE cC,jT]
  rw[iL]at aO;have hw:s.seals=(({(s.pay 1).dev (N2 o.b o.ep f 4 (([N3 o.l]:List (List UInt8)).length:Nat) s.d 0 [N3 o.l]).2 with op:=none,rs:=s.rs++[o]}).met (N2 o.b o.ep f 4 (([N3 o.l]:List (List UInt8)).length:Nat) s.d 0 [N3 o.l]).1,(N2 o.b o.ep f 4 (([N3 o.l]:List (List UInt8)).length:Nat) s.d 0 [N3 o.l]).1):=by
   unfold B0.seals;rw[ho];dsimp only;rw[iL]
  have g1:=dP;rw[hw]at dL⊢;generalize N2 o.b o.ep f 4 (([N3 o.l]:List (List UInt8)).length:Nat) s.d 0 [N3 o.l]=q at g1 aO dL;rcases g1 with g1|⟨g0,k',w⟩
  ·exact .inl g1
  ·right;have wH:64<=s.d.c.S/\s.d.c.S<=512:=by rw[ok.cfg];exact hS
   have gN:Ce s (({(s.pay 1).dev q.2 with op:=none,rs:=s.rs++[o]}:B0).met q.1):=fun row hr x hx gB=>FU w aO.ln ok.dv cO bD (ep:=o.ep) (by simpa using bG) (fun j hj=>⟨by
    have:j=0:=by simpa using hj
    subst this;unfold J7;rw[ND (by simp only;omega),ND (by simp;omega)],rfl⟩) (by rw[ok.cfg];intro p hp;rw[NM.1 hp];omega) (fun e1 e2=>by
     have:=(h.ix row hr x hx).2 o ho e1 e2;show x.p<((f+0:Nat):Int);omega) gB
   exact⟨g0,⟨dL,fun o' bH=>(by cases bH),fun row hr x hx=>⟨(h.ix row hr x hx).1,fun o' bH=>(by cases bH)⟩,h.uq,fun K=>OK (gN.cnt rfl (fun k=>RT _) rfl K) (h.pl K),h.fit⟩,gN,rfl,rfl,rfl,rfl,fun o2 eO=>by
    obtain rfl:o=o2:=NI eO;refine⟨rfl,aO.ln,k,k',bD,bG.good,?_⟩;rw[show o.nx.toNat=f by omega];show Jx s.d q.2 o.b k k' f [N3 o.l] _;simpa using w⟩
def KI.begins(h:KI s)(ok:B9 s M)(hd:s.down=false)(bG:s.op=none)(iT:b∉s.us){k:G6}(bD:E7 s.d b=some k)(hg:k.bad=false)(hn:k.next=0)(bS:s.epoch<1073741824):
  (s.begins b).2=11\/((s.begins b).2=0/\KI (s.begins b).1/\Ce s (s.begins b).1/\(s.begins b).1.op=some ⟨b,s.epoch+1,1,[]⟩/\(s.begins b).1.ix=s.ix/\(s.begins b).1.q=s.q/\(s.begins b).1.gh=s.gh/\(s.begins b).1.rs=s.rs/\(s.begins b).1.epoch=s.epoch+1/\Rl s (s.begins b).1 b 0 [[]] fun j=>(1,((0+j:Nat):Int),1,s.epoch+1,((0+j:Nat):Int),())):=by
 have dL:=h.sb.begins bG iT;have hS:=ok.S;have hP:=ok.P;have he0:=ok.ep;have cO:s.d.down=false:=by rw[<-ok.dn];exact hd
 have aT: ∀(q:Nat) pg,k.pages[q]?=some pg->(C1 pg).2.2≠0:=fun q pg hq=>(h.sb.db b k bD).bl q pg (by omega) hq;have ho:Lc k ((0:Nat):Int) (s.epoch+1):=⟨hg,by omega,fun q pg hq h0=>absurd h0 (aT q pg hq)⟩;have dP:=Zm (b:=b) (ep:=s.epoch+1) (kind:=1) (n:=(([[]]:List (List UInt8)).length:Nat)) (f:=0) (by omega) (by omega) (by simp) [[]] (d:=s.d) 0 ok.dv cO bD hg (by omega) (by simp) (by simp) (by rw[ok.cfg];simp;omega);have aO:=DH ok.dv cO b (s.epoch+1);have iL:U9 s.d b (s.epoch+1)=N2 b (s.epoch+1) ((0:Nat):Int) 1 (([[]]:List (List UInt8)).length:Nat) s.d 0 [[]]:=by
  rw[Aw1];rfl
 rw[iL]at aO;have hw:s.begins b=(if(N2 b (s.epoch+1) ((0:Nat):Int) 1 (([[]]:List (List UInt8)).length:Nat) s.d 0 [[]]).1≠0 then(((s.pay 1).dev (N2 b (s.epoch+1) ((0:Nat):Int) 1 (([[]]:List (List UInt8)).length:Nat) s.d 0 [[]]).2).met (N2 b (s.epoch+1) ((0:Nat):Int) 1 (([[]]:List (List UInt8)).length:Nat) s.d 0 [[]]).1,(N2 b (s.epoch+1) ((0:Nat):Int) 1 (([[]]:List (List UInt8)).length:Nat) s.d 0 [[]]).1)else({(s.pay 1).dev (N2 b (s.epoch+1) ((0:Nat):Int) 1 (([[]]:List (List UInt8)).length:Nat) s.d 0 [[]]).2 with epoch:=s.epoch+1,op:=some ⟨b,s.epoch+1,1,[]⟩},0)):=by
  unfold B0.begins;dsimp only;rw[iL]
 have g1:=dP;rw[hw]at dL⊢;generalize N2 b (s.epoch+1) ((0:Nat):Int) 1 (([[]]:List (List UInt8)).length:Nat) s.d 0 [[]]=q at g1 aO dL;rcases g1 with g1|⟨g0,k',w⟩
 ·left;rw[NE (by rw[g1];decide)];exact g1
 ·right;rw[ND (by simpa using g0)]at dL⊢;have wH:64<=s.d.c.S/\s.d.c.S<=512:=by rw[ok.cfg];exact hS
  have pF: ∀j,j<([[]]:List (List UInt8)).length->J7 (1,((0+j:Nat):Int),(([[]]:List (List UInt8)).length:Int),s.epoch+1,((0+0+j:Nat):Int),())=0:=fun j hj=>by
   have:j=0:=by simpa using hj
   subst this;unfold J7;rw[ND (by simp),ND (by simp;omega)]
  have kI:=Lc.wr w wH ho (fun j hj=>⟨pF j hj,rfl,fun h1=>absurd (show(1:Int)=2 from h1) (by decide)⟩) (by simp);have gN:Ce s {(s.pay 1).dev q.2 with epoch:=s.epoch+1,op:=some ⟨b,s.epoch+1,1,[]⟩}:=fun row hr x hx gB=>FU w aO.ln ok.dv cO bD ho (fun j hj=>⟨pF j hj,rfl⟩) (by simp) (fun e1 e2=>by
   have:=(h.ix row hr x hx).1;have e2:x.e=s.epoch+1:=e2;omega) gB
  refine⟨rfl,⟨dL,fun o' bH=>?_,fun row hr x hx=>?_,h.uq,fun K=>OK (gN.cnt rfl (fun k=>RT _) rfl K) (h.pl K),h.fit⟩,gN,rfl,rfl,rfl,rfl,rfl,rfl,aO.ln,k,k',bD,hg,show Jx s.d q.2 b k k' 0 [[]] _ by simpa using w⟩
  ·obtain rfl:=NI bH;exact⟨⟨k',w.own,by simpa using kI⟩,by show(1:Int)<s.sc.c.P;omega,by simp,by simp,by show(1:Int)<=s.epoch+1;omega,QJ _⟩
  ·have x1:=(h.ix row hr x hx).1;refine⟨by show x.e<=s.epoch+1;omega,fun o' bH e1 e2=>?_⟩;obtain rfl:=NI bH;have e2:x.e=s.epoch+1:=e2;omega
def KI.erase(h:KI s)(ok:B9 s M)(hd:s.down=false)(hg:I6 s.ss b=true)(hZ: ∀o,s.op=some o->o.b≠b):
  (s.erase b).2=11\/((s.erase b).2=0/\KI (s.erase b).1/\Ce s (s.erase b).1/\(s.erase b).1.op=s.op/\(s.erase b).1.ix=s.ix/\(s.erase b).1.q=s.q/\(s.erase b).1.gh=s.gh/\Rq s (s.erase b).1 b/\(∃k',E7 (s.erase b).1.d b=some k'/\k'.next=0)):=by
 have dL:=h.sb.erase ok hd hg;have cO:s.d.down=false:=by rw[<-ok.dn];exact hd
 obtain⟨k,hk,bD⟩:=(ok.gd hd b).1.1 hg;obtain⟨k',t,hc⟩:=Ym ok.dv cO hk bD;have aO:=Yn ok.dv cO b;have hw:(M3 s.d b).1≠11->(s.erase b).2=0/\(s.erase b).1.d=(M3 s.d b).2/\(s.erase b).1.op=s.op/\(s.erase b).1.ix=s.ix/\(s.erase b).1.q=s.q/\(s.erase b).1.gh=s.gh/\(s.erase b).1.sc=s.sc/\(s.erase b).1.epoch=s.epoch:=fun he=>by
  unfold B0.erase;dsimp only;rw[ND he];exact⟨rfl,rfl,rfl,rfl,rfl,rfl,rfl,rfl⟩
 rcases hc with⟨e1,-⟩|⟨e1,rfl,-⟩
 ·exact .inl (FZ b e1).2.2
 ·right;obtain⟨w1,w2,w3,w4,w5,w6,w7,w8⟩:=hw e1;have kY:(M3 s.d b).2.down=s.d.down:=by rw[aO.dn,cO];exact OF e1
  have gN:Ce s (s.erase b).1:=fun row hr x hx gB=>by
   rw[w2]at gB⊢;by_cases hb:x.pl.1=b
   ·obtain⟨-,k2,pg,a1,-,-,a4,a5,-⟩:=An8 aO.ok gB;rw[hb,t.own]at a1;rw[<-NI a1]at a4;exact absurd a5 ((Hw.fresh 0 k s.d.c).bl _ pg (PQ _) a4)
   ·exact(Yi t.c aO.ln kY (t.ne hb)).symm
  refine⟨w1,⟨dL,fun o ho=>?_,fun row hr x hx=>?_,by rw[w5];exact h.uq,fun K=>OK (gN.cnt w7 (fun k=>by rw[w4];exact RT _) w5 K) (h.pl K),by rw[w7];exact h.fit⟩,gN,w3,w4,w5,w6,by unfold Rq;rw[w2];exact⟨t.c,aO.ln,kY,fun x hx=>t.ne hx⟩,_,by rw[w2];exact t.own,rfl⟩
  ·rw[w3]at ho;obtain⟨⟨k2,b1,b2⟩,b3⟩:=h.op o ho;rw[w7,w8];exact⟨⟨k2,by rw[w2,t.ne (hZ o ho)];exact b1,b2⟩,b3⟩
  ·rw[w4]at hr;rw[w3,w8];exact h.ix row hr x hx
end
def Ca3(K:ByteArray):M8 K.data.toList=K:=by unfold M8;simp
section
variable {s:B0} {M:Nat}
def KI.ixsub(h:KI s){ix':List (List C8)}(hr: ∀k,(C6 ix' k).Sublist (C6 s.ix k))(hm: ∀row∈ix',∀x∈row,∃row∈s.ix,x∈row):KI {s with ix:=ix'}:=by
 refine⟨h.sb.congr rfl rfl rfl,h.op,fun row aD x hx=>?_,h.uq,fun K=>OK (Ce.cnt (s:=s) (s':={s with ix:=ix'}) (fun _ _ _ _ _=>rfl) rfl hr rfl K) (h.pl K),h.fit⟩;obtain⟨row2,h2,gQ⟩:=hm row aD x hx;exact h.ix row2 h2 x gQ
def Lw(l:List C8)(nm:Dm):(I0 l nm).Sublist l:=UC ..
def Ai2{k:Nat}(hl:isi ix k<ix.length)(h:row'.Sublist (C6 ix k)):(∀k2,(C6 (iset ix k row') k2).Sublist (C6 ix k2))/\ ∀row∈iset ix k row',∀x∈row,∃row∈ix,x∈row:=by
 refine⟨fun k2=>?_,fun row hr x hx=>?_⟩
 ·rw[Lu hl];split
  ·rename_i e;have:C6 ix k2=C6 ix k:=by unfold C6;rw[e]
   rw[this];exact h
  ·exact RT _
 ·rcases Qc hr with hr|rfl
  ·exact⟨row,hr,hx⟩
  ·exact Uc (h.subset hx)
def KI.ixdrop(h:KI s)(ok:B9 s M)(k:Nat)(p:It):KI (s.ixdrop k p):=by
 obtain⟨h1,h2⟩:=Ai2 (ok.isi k) (Lw (C6 s.ix k) (E1 k p));exact h.ixsub h1 h2
def Ao6{ways:Int}{l:List C8}(g:Dn ways l){k:Nat}:p∉P0 (I0 l (E1 k p)) k:=fun hp=>by
 obtain⟨x,hx,-,e⟩:=EY hp;have:=OQ (f:=C8.nm) hx;rw[e]at this;exact Oa g (E1 k p) this
def Aa2(dO:s'.sc=s.sc)(hd:s'.d=s.d)(hl:isi s.ix (s.hash key)<s.ix.length){sub:List C8}(hs:sub.Sublist (C6 s.ix (s.hash key))){f:Int}(dK:s'.ix=iset s.ix (s.hash key) (sub++[W1 (s.hash key) q f]))(hq:(C7 s.d q).2.2=0/\M8 (C7 s.d q).1=key)(K:ByteArray):
  (K≠key->(K6 s' K).length<=(K6 s K).length)/\K6 s' key=(P0 sub (s.hash key)).filter (Ck s key)++[q]:=by
 have hh: ∀K,s'.hash K=s.hash K:=fun K=>by unfold B0.hash;rw[dO]
 have hk: ∀K,Ck s' K=Ck s K:=fun K=>by unfold Ck;rw[hd]
 have e:(W1 (s.hash key) q f).pl=q:=rfl;refine⟨fun hZ=>?_,?_⟩
 ·unfold K6;rw[hh,hk,dK,Lu hl];split
  ·rename_i e2;have aD:C6 s.ix (s.hash K)=C6 s.ix (s.hash key):=by unfold C6;rw[e2]
   have gK:Ck s K q=false:=by unfold Ck;exact OF fun hh=>hZ (hh.2.symm.trans hq.2)
   rw[aD,EX,QZ,NR];have h1:=((Qm hs (s.hash K)).filter (Ck s K)).length_le;have h2:((if(W1 (s.hash key) q f).part=P8 (s.hash K)then[(W1 (s.hash key) q f).pl]else[]).filter (Ck s K)).length=0:=by
    split
    ·rw[e,QS,gK];rfl
    ·rfl
   omega
  ·exact NF _
 ·have gK:Ck s key q=true:=by unfold Ck;exact OH hq
  unfold K6;rw[hh,hk,dK,Lu hl,NE rfl,EX,QZ,NE (show(W1 (s.hash key) q f).part=P8 (s.hash key)from rfl),e,QS,gK];rfl
def GP(h:N9 s key=0):K6 s key=[]/\key∉s.q.map Prod.fst:=by
 unfold N9 at h;constructor
 ·exact RG.1 (by omega)
 ·intro hm;rw[NE hm]at h;omega
def KI.listed(h:KI s)(ok:B9 s M)(hq:(C7 s.d q).2.2=0/\M8 (C7 s.d q).1=key)(h0:N9 s key=0)(dK:q.2.2.1<=s.epoch/\ ∀o,s.op=some o->q.1=o.b->q.2.2.1=o.ep->q.2.1<o.nx):KI (s.list key q)/\K6 (s.list key q) key=[q]/\ ∀K,K≠key->N9 (s.list key q) K<=N9 s K:=by
 obtain⟨c1,c2⟩:=GP h0;have hl:=ok.isi (s.hash key);obtain⟨sub,aJ,dQ⟩: ∃sub:List C8,sub.Sublist (C6 s.ix (s.hash key))/\Ii (C6 s.ix (s.hash key)) s.sc.ways (s.hash key) q=sub++[W1 (s.hash key) q 0]:=by
  refine⟨_,?_,rfl⟩;split
  ·exact(List.drop_sublist _ _).trans (Lw _ _)
  ·exact Lw _ _
 have vB:(s.list key q).ix=iset s.ix (s.hash key) (sub++[W1 (s.hash key) q 0]):=by
  show Da s.ix s.sc.ways (s.hash key) q=_;unfold Da;rw[dQ]
 have eI:=fun K=>Aa2 (s:=s) (s':=s.list key q) rfl rfl hl aJ vB hq K;have uL:K6 (s.list key q) key=[q]:=by
  rw[(eI key).2];have:(P0 sub (s.hash key)).filter (Ck s key)=[]:=by
   have:=((Qm aJ (s.hash key)).filter (Ck s key)).length_le;have e:((P0 (C6 s.ix (s.hash key)) (s.hash key)).filter (Ck s key)).length=0:=by
    show(K6 s key).length=0;rw[c1];rfl
   exact RG.1 (by omega)
  rw[this];rfl
 refine⟨⟨h.sb.congr rfl rfl rfl,h.op,fun row hr x hx=>?_,h.uq,fun K=>?_,h.fit⟩,uL,fun K e=>by
  have h1:=(eI K).1 e;unfold N9;show(K6 (s.list key q) K).length+(if K∈s.q.map Prod.fst then 1 else 0)<=_;omega⟩
 ·rw[vB]at hr;rcases Qc hr with hr|rfl
  ·exact h.ix row hr x hx
  ·rcases NJ.1 hx with hx|hx
   ·obtain⟨row2,h2,gQ⟩:=Uc (aJ.subset hx);exact h.ix row2 h2 x gQ
   ·rw[NM.1 hx];exact dK
 ·by_cases e:K=key
  ·rw[e];unfold N9;rw[uL];show 1+(if key∈s.q.map Prod.fst then 1 else 0)<=1;rw[ND c2];exact NF _
  ·have h1:=(eI K).1 e;have h2:=h.pl K;unfold N9 at h2⊢;show(K6 (s.list key q) K).length+(if K∈s.q.map Prod.fst then 1 else 0)<=1;omega
def KI.moved(h:KI s)(ok:B9 s M)(hp: ∀p'∈K6 s key,p'=p)(hy:key∉s.q.map Prod.fst)(hq:(C7 s.d q).2.2=0/\M8 (C7 s.d q).1=key)(dK:q.2.2.1<=s.epoch/\ ∀o,s.op=some o->q.1=o.b->q.2.2.1=o.ep->q.2.1<o.nx):KI {s with ix:=Cj s.ix (s.hash key) p q}/\ ∀K,K≠key->N9 {s with ix:=Cj s.ix (s.hash key) p q} K<=N9 s K:=by
 have hl:=ok.isi (s.hash key);unfold Cj;cases hf:P3 s.ix (s.hash key) p with
 |none=>exact⟨h.congr rfl rfl rfl rfl rfl rfl rfl,fun K _=>NF _⟩
 |some x=>
  dsimp only;have aJ:(I0 (I0 (C6 s.ix (s.hash key)) (E1 (s.hash key) p)) (E1 (s.hash key) q)).Sublist (C6 s.ix (s.hash key)):=(Lw _ _).trans (Lw _ _);have jS:(P0 (I0 (I0 (C6 s.ix (s.hash key)) (E1 (s.hash key) p)) (E1 (s.hash key) q)) (s.hash key)).filter (Ck s key)=[]:=by
   rw[ZG];intro p' dC hk;have h1:p'∈K6 s key:=OI.2 ⟨(Qm aJ _).subset dC,hk⟩;rw[hp p' h1]at dC;exact Ao6 (ok.ixi.row hl) ((Qm (Lw _ _) _).subset dC)
  have eI:=fun K=>Aa2 (s:=s) (s':={s with ix:=iset s.ix (s.hash key) (I0 (I0 (C6 s.ix (s.hash key)) (E1 (s.hash key) p)) (E1 (s.hash key) q)++[W1 (s.hash key) q (L9 (x.freq-1) 0)])}) rfl rfl hl aJ rfl hq K;refine⟨⟨h.sb.congr rfl rfl rfl,h.op,fun row hr x hx=>?_,h.uq,fun K=>?_,h.fit⟩,fun K e=>by
   have h1:=(eI K).1 e;unfold N9;show(K6 _ K).length+(if K∈s.q.map Prod.fst then 1 else 0)<=_;omega⟩
  ·rcases Qc hr with hr|rfl
   ·exact h.ix row hr x hx
   ·rcases NJ.1 hx with hx|hx
    ·obtain⟨row2,h2,gQ⟩:=Uc (aJ.subset hx);exact h.ix row2 h2 x gQ
    ·rw[NM.1 hx];exact dK
  ·by_cases e:K=key
   ·rw[e];unfold N9;rw[(eI key).2,jS];show 1+(if key∈s.q.map Prod.fst then 1 else 0)<=1;rw[ND hy];exact NF _
   ·have h1:=(eI K).1 e;have h2:=h.pl K;unfold N9 at h2⊢;show(K6 _ K).length+(if K∈s.q.map Prod.fst then 1 else 0)<=1;omega
def Ul(l:List C8)(nm:Dm):(Bv l nm).map (fun x=>(x.part,x.pl))=l.map fun x=>(x.part,x.pl):=by
 unfold Bv;split
 ·rename_i j hj;apply UL;intro i;rw[OU,OU,RE];cases l[i]? with
  |none=>rfl
  |some x=>
   simp only[YE,RO];split<;>rfl
 ·rfl
def Ai9(l:List C8)(k:Nat):P0 l k=((l.map fun x=>(x.part,x.pl)).filter fun y=>decide (y.1=P8 k)).map Prod.snd:=by
 unfold P0;rw[VA,OO];rfl
def KI.hit(h:KI s)(ok:B9 s M)(k:Nat)(nm:Dm):KI {s with ix:=iset s.ix k (Bv (C6 s.ix k) nm)}:=by
 have hl:=ok.isi k;have aD: ∀k2 k3,P0 (C6 (iset s.ix k (Bv (C6 s.ix k) nm)) k2) k3=P0 (C6 s.ix k2) k3:=fun k2 k3=>by
  rw[Lu hl];split
  ·rename_i e;have:C6 s.ix k2=C6 s.ix k:=by unfold C6;rw[e]
   rw[this,Ai9,Ul,<-Ai9]
  ·rfl
 refine⟨h.sb.congr rfl rfl rfl,h.op,fun row hr x hx=>?_,h.uq,fun K=>?_,h.fit⟩
 ·rcases Qc hr with hr|rfl
  ·exact h.ix row hr x hx
  ·have:(x.part,x.pl)∈(Bv (C6 s.ix k) nm).map fun x=>(x.part,x.pl):=OQ (f:=fun x:C8=>(x.part,x.pl)) hx;rw[Ul]at this;obtain⟨y,hy,he⟩:=NY.1 this;obtain⟨row2,h2,gQ⟩:=Uc hy;have:=h.ix row2 h2 y gQ;have he:y.pl=x.pl:=congrArg Prod.snd he;unfold C8.pl at he;simp only[QC]at he;rw[he.1,he.2.1,he.2.2.1]at this;exact this
 ·have:=h.pl K;unfold N9 K6 at this⊢;show((P0 (C6 (iset s.ix k (Bv (C6 s.ix k) nm)) (s.hash K)) (s.hash K)).filter (Ck s K)).length+_<=1;rw[aD];exact this
def KI.setq(h:KI s){q:List QD}(hn:(q.map Prod.fst).Nodup)(hq: ∀K,K∈q.map Prod.fst->K∈s.q.map Prod.fst\/(K6 s K).length=0):KI {s with q:=q}:=by
 refine⟨h.sb.congr rfl rfl rfl,h.op,h.ix,hn,fun K=>?_,h.fit⟩;have h1:=h.pl K;unfold N9 at h1⊢;show(K6 s K).length+(if K∈q.map Prod.fst then 1 else 0)<=1;split
 ·rename_i hm;rcases hq K hm with h2|h2
  ·rw[NE h2]at h1;exact h1
  ·omega
 ·split at h1<;>omega
def GM(l:List QD)(k:ByteArray):(P7 l k).Sublist l:=UC ..
def Cn3{l:List QD}(h:(l.map Prod.fst).Nodup)(k:ByteArray):k∉(P7 l k).map Prod.fst:=by
 induction l with
 |nil=>simp[P7]
 |cons a r ih=>
  rw[NS,OW]at h;unfold P7;rw[List.eraseP_cons];by_cases e:k=a.1
  ·rw[OH e];simp only[cond_true,if_true];rw[e];exact h.1
  ·rw[OF e];simp only[cond_false,QN,if_false,NS,OC,PS];exact⟨e,ih h.2⟩
def KI.forget(h:KI s)(ok:B9 s M)(key:ByteArray):KI (s.forget key).1/\N9 (s.forget key).1 key=0:=by
 have h1:KI {s with q:=P7 s.q key}:=h.setq (((GM s.q key).map _).nodup h.uq) fun K hK=>.inl (((GM s.q key).map _).subset hK);have ok1:B9 {s with q:=P7 s.q key} M:=ok.setq (fun e he=>ok.qs e (Yt _ _ e he)) (OK (Iq _ _) ok.ql);have hg:=Cn3 h.uq key;unfold B0.forget;dsimp only;cases hp:({s with q:=P7 s.q key}:B0).place key with
 |none=>
  refine⟨h1,?_⟩;rw[Px,List.head?_eq_none_iff]at hp;unfold N9;rw[hp];show 0+(if key∈(P7 s.q key).map Prod.fst then 1 else 0)=0;rw[ND hg]
 |some p=>
  have h2:=h1.ixdrop ok1 (s.hash key) p;refine⟨h2.congr rfl rfl rfl rfl rfl rfl rfl,?_⟩;rw[Px]at hp;have hc:=h1.pl key;unfold N9 at hc;have aQ:K6 {s with q:=P7 s.q key} key=[p]:=by
   cases hq:K6 {s with q:=P7 s.q key} key with
   |nil=>rw[hq]at hp;cases hp
   |cons a r=>
    rw[hq]at hp hc;obtain rfl:a=p:=NI hp;have:r.length=0:=by simp only[NU]at hc;omega
    rw[RG.1 this]
  have hl:=ok1.isi (s.hash key);have hz:K6 (({s with q:=P7 s.q key}:B0).ixdrop (s.hash key) p) key=[]:=by
   unfold K6;rw[ZG];intro p' dC hk;have dC:p'∈P0 (C6 (iset s.ix (s.hash key) (I0 (C6 s.ix (s.hash key)) (E1 (s.hash key) p))) (s.hash key)) (s.hash key):=dC;rw[Lu hl,NE rfl]at dC;have hm:p'∈K6 {s with q:=P7 s.q key} key:=OI.2 ⟨(Qm (Lw _ _) _).subset dC,hk⟩;rw[aQ,NM]at hm;rw[hm]at dC;exact Ao6 (ok1.ixi.row hl) dC
  unfold N9;show(K6 (({s with q:=P7 s.q key}:B0).ixdrop (s.hash key) p) key).length+(if key∈(P7 s.q key).map Prod.fst then 1 else 0)=0;rw[hz,ND hg];rfl
end
def Ag0(l:List LE)(K:ByteArray): ∀r:List LE,K8 (l++r) K=(K8 r K).or (K8 l K):=fun r=>by
 unfold K8;rw[XS,YC];cases r.reverse.find? fun x=>decide (x.1=K)<;>rfl
def Eu{l:List LE}(h:K8 l K=some p):(K,p)∈l:=by
 unfold K8 at h;obtain⟨y,hy,rfl⟩:=VQ.1 h;have h1:=List.find?_some hy;have h2:=List.mem_reverse.1 (UX hy);rw[<-PF h1];exact h2
structure LX(hs:ByteArray->Nat)(aL:List LE)(kL pend:List It)(ix:List (List C8))(E:It->Prop):Prop where
 a1: ∀j,∀x∈ix.getD j [],∃K,K8 aL K=some x.pl/\x.pl∉kL/\isi ix (hs K)=j/\x.part=P8 (hs K)
 a2: ∀K p,K8 aL K=some p->p∉kL->p∈pend\/E p\/ ∃x∈C6 ix (hs K),x.pl=p
 a3: ∀j,∀x∈ix.getD j [],x.pl∉pend
def Zp(aL:List LE):Prop:= ∀K K' p,K8 aL K=some p->K8 aL K'=some p->K=K'
section
variable {hs:ByteArray->Nat} {aL aL':List LE} {kL kL' pend pend':List It} {ix:List (List C8)} {E:It->Prop}
def LX.uniq(h:LX hs aL kL pend ix E)(h0:Zp aL){j':Nat}{x x':C8}(hx:x∈ix.getD j [])(bC:x'∈ix.getD j' [])(e:x.pl=x'.pl):j=j'/\x.nm=x'.nm:=by
 obtain⟨K,a1,-,a3,a4⟩:=h.a1 j x hx;obtain⟨K',b1,-,b3,b4⟩:=h.a1 j' x' bC;obtain rfl:=h0 K K' _ a1 (by rw[e];exact b1);refine⟨a3.symm.trans b3,?_⟩;unfold C8.pl at e;unfold C8.nm;simp only[QC]at e;rw[a4,b4,e.1,e.2.1,e.2.2.1]
def Xr{k:Nat}(hl:isi ix k<ix.length)(row:List C8)(j:Nat):(iset ix k row).getD j []=if j=isi ix k then row else ix.getD j []:=by
 unfold iset;rw[NX,RX,NX];by_cases h:j=isi ix k
 ·rw[NE h,NE h.symm,NE hl];rfl
 ·rw[ND h,ND (fun q=>h q.symm)]
def LX.row(h:LX hs aL kL pend ix E)(h0:Zp aL){k:Nat}(hl:isi ix k<ix.length)(O:Option LE)(ha:aL'=aL++O.toList)
  (hq: ∀y,O=some y->y.2∉kL/\isi ix (hs y.1)=isi ix k/\ ∃x∈row',x.pl=y.2)
  (hn: ∀x∈row',(∃x0∈C6 ix k,x0.pl=x.pl/\x0.part=x.part/\ ∀y,O=some y->K8 aL y.1≠some x0.pl)\/ ∃K,K8 aL' K=some x.pl/\x.pl∉kL/\isi ix (hs K)=isi ix k/\x.part=P8 (hs K))
  (iE: ∀x∈C6 ix k,(∃x'∈row',x'.pl=x.pl)\/x.pl∈pend'\/E x.pl\/ ∃y,O=some y/\K8 aL y.1=some x.pl)
  (hp: ∀p∈pend,p∈pend') (h3: ∀x∈row',x.pl∉pend') (h4: ∀p∈pend',p∈pend\/ ∃x∈C6 ix k,x.pl=p):LX hs aL' kL pend' (iset ix k row') E:=by
 have hi: ∀K,isi (iset ix k row') K=isi ix K:=fun K=>by unfold isi;rw[Jm]
 have key: ∀j x,x∈(iset ix k row').getD j []->(j=isi ix k/\x∈row')\/(j≠isi ix k/\x∈ix.getD j []):=fun j x hx=>by
  rw[Xr hl]at hx;split at hx
  ·exact .inl ⟨by assumption,hx⟩
  ·exact .inr ⟨by assumption,hx⟩
 have keep: ∀j x0,x0∈ix.getD j []->(∀y,O=some y->K8 aL y.1≠some x0.pl)-> ∃K,K8 aL' K=some x0.pl/\x0.pl∉kL/\isi ix (hs K)=j/\x0.part=P8 (hs K):=fun j x0 gB hy=>by
  obtain⟨K,e1,e2,e3,e4⟩:=h.a1 j x0 gB;refine⟨K,?_,e2,e3,e4⟩;rw[ha];cases O with
  |none=>simpa using e1
  |some y=>rw[RZ,Xm,ND fun e=>hy y rfl (by rw[<-e];exact e1)];exact e1
 have old: ∀K p,K8 aL K=some p->p∉kL->(∀y,O=some y->K≠y.1)->p∈pend'\/E p\/ ∃x∈C6 (iset ix k row') (hs K),x.pl=p:=fun K p hK bJ hy=>by
  rcases h.a2 K p hK bJ with h1|h1|⟨x,hx,rfl⟩
  ·exact .inl (hp p h1)
  ·exact .inr (.inl h1)
  ·rw[Lu hl];split
   ·rename_i e;rcases iE x (by unfold C6 at hx⊢;rw[<-e];exact hx)with h1|h1|h1|⟨y,h1,h2⟩
    ·exact .inr (.inr h1)
    ·exact .inl h1
    ·exact .inr (.inl h1)
    ·exact absurd (h0 _ _ _ hK h2) (hy y h1)
   ·exact .inr (.inr ⟨x,hx,rfl⟩)
 refine⟨fun j x hx=>?_,fun K p hK bJ=>?_,fun j x hx=>?_⟩
 ·rcases key j x hx with⟨rfl,gQ⟩|⟨hj,hx⟩
  ·rcases hn x gQ with⟨x0,c1,c2,c3,c4⟩|⟨K,c1,c2,c3,c4⟩
   ·obtain⟨K,e1,e2,e3,e4⟩:=keep (isi ix k) x0 c1 c4;rw[c2]at e1 e2;exact⟨K,e1,e2,(hi _).trans e3,c3.symm.trans e4⟩
   ·exact⟨K,c1,c2,(hi _).trans c3,c4⟩
  ·obtain⟨K,e1,e2,e3,e4⟩:=keep j x hx fun y hy e=>hj (by
    obtain⟨K,e1,-,e3,-⟩:=h.a1 j x hx;rw[<-e3,h0 _ _ _ e1 e];exact(hq y hy).2.1)
   exact⟨K,e1,e2,(hi _).trans e3,e4⟩
 ·rw[ha]at hK;cases O with
  |none=>exact old K p (by simpa using hK) bJ fun y hy=>by cases hy
  |some y=>
   rw[RZ,Xm]at hK;split at hK
   ·rename_i e;obtain⟨-,q2,q3⟩:=hq y rfl;rw[Lu hl,NE (by rw[e];exact q2),<-NI hK];exact .inr (.inr q3)
   ·rename_i e;exact old K p hK bJ fun z hz=>by rw[<-NI hz];exact e
 ·rcases key j x hx with⟨rfl,gQ⟩|⟨hj,hx⟩
  ·exact h3 x gQ
  ·intro hm;rcases h4 _ hm with h5|⟨x0,c1,c2⟩
   ·exact h.a3 j x hx h5
   ·exact hj (h.uniq h0 hx (j':=isi ix k) c1 c2.symm).1
def LX.kill(h:LX hs aL kL pend ix E){ks:List It}(h1: ∀p∈ks,p∈pend)(h2: ∀p∈pend',p∈pend)(h3: ∀p∈pend,p∈ks\/p∈pend'):LX hs aL (kL++ks) pend' ix E:=by
 refine⟨fun j x hx=>?_,fun K p hK hp=>?_,fun j x hx hm=>h.a3 j x hx (h2 _ hm)⟩
 ·obtain⟨K,e1,e2,e3⟩:=h.a1 j x hx;exact⟨K,e1,fun hm=>(NJ.1 hm).elim e2 fun hm=>h.a3 j x hx (h1 _ hm),e3⟩
 ·rw[NJ,PS]at hp;exact(h.a2 K p hK hp.1).imp_left fun hm=>(h3 p hm).resolve_left hp.2
def LX.cut(h:LX hs aL kL pend ix E){aR:List LE}(ha:aL=aR++aL')(hR: ∀y∈aR,y.2.1=b)(hL: ∀y∈aL',y.2.1≠b/\ ¬E y.2)(hk: ∀p∈kL',p∈kL)(eA: ∀y∈aL',y.2∈kL->y.2∈kL')(hx: ∀j,∀x∈ix.getD j [],x.pl.1≠b):LX hs aL' kL' (pend.filter fun p=> !decide (p.1=b)) ix E':=by
 refine⟨fun j x wR=>?_,fun K p hK hp=>?_,fun j x wR hm=>h.a3 j x wR (OI.1 hm).1⟩
 ·obtain⟨K,e1,e2,e3⟩:=h.a1 j x wR;refine⟨K,?_,fun hm=>e2 (hk _ hm),e3⟩;rw[ha,Ag0]at e1;cases hc:K8 aL' K with
  |some p=>rw[hc]at e1;exact e1
  |none=>
   rw[hc]at e1;exact absurd (hR _ (Eu (K:=K) e1)) (hx j x wR)
 ·have hm:=Eu hK;obtain⟨l1,l2⟩:=hL _ hm;rcases h.a2 K p (by rw[ha,Ag0,hK];rfl) fun dJ=>hp (eA _ hm dJ)with h1|h1|h1
  ·exact .inl (OI.2 ⟨h1,by simpa using l1⟩)
  ·exact absurd h1 l2
  ·exact .inr (.inr h1)
end
def He(s:B0)(p:It):Prop:=p.2.2.1<=s.epoch/\ ∀o,s.op=some o->p.1=o.b->p.2.2.1=o.ep->p.2.1<o.nx
def Iw(s:B0):Prop:=(s.regs.map E2.ep).Pairwise (fun a b=>a<b)/\ ∀r∈s.regs,r.ep<=s.epoch
structure LV(B:Int)(s:B0):Prop where
 ri:RI s
 lx:LX s.hash s.aL s.kL s.pend s.ix fun p=>p.1=B
 ol: ∀p,p∈s.kL\/p∈s.pend\/p∈s.aL.map Prod.snd->He s p
 so:Iw s
 nl:s.ix.length=s.sc.sets.toNat
section
variable {s t:B0} {M:Nat} {B:Int}
def Ha(s:B0):Zp s.aL:=fun K K' p h h'=>by
 obtain⟨-,-,-,-,-,-,-,e⟩:=Mm (Eu h);obtain⟨-,-,-,-,-,-,-,e'⟩:=Mm (Eu h');exact e.symm.trans e'
def LV.at'(h:LV B s){x:C8}(hx:x∈s.ix.getD j []):x.pl∈s.aL.map Prod.snd:=by
 obtain⟨K,e,-⟩:=h.lx.a1 j x hx;exact OQ (Eu e)
def RI.nn(ri:RI s)(hy:y∈s.aL):0<=y.2.1:=by
 obtain⟨r,hr,x,-,-,e,-⟩:=Mm hy;rw[e];rcases NJ.1 hr with hr|hr
 ·exact(ri.rs r hr).1
 ·obtain⟨k,k1,-⟩:=ri.op r (by simpa using hr);exact(W2 k1).1
def LV.to(h:LV (-1) s)(B:Int):LV B s:=by
 refine⟨h.ri,⟨h.lx.a1,fun K p hK hp=>?_,h.lx.a3⟩,h.ol,h.so,h.nl⟩;rcases h.lx.a2 K p hK hp with h1|h1|h1
 ·exact .inl h1
 ·have:=h.ri.nn (Eu hK);have h1:p.1= -1:=h1;have this:0<=p.1:=this;omega
 ·exact .inr (.inr h1)
def LV.congr(h:LV B s)(h1:t.d=s.d)(h2:t.rs=s.rs)(h3:t.op=s.op)(h4:t.ix=s.ix)(h5:t.pend=s.pend)(h6:t.epoch=s.epoch)(h7:t.sc=s.sc):LV B t:=by
 have e1:t.aL=s.aL:=by unfold B0.aL B0.regs;rw[h1,h2,h3]
 have e2:t.kL=s.kL:=by unfold B0.kL B0.regs;rw[h1,h2,h3]
 have e3:t.hash=s.hash:=by funext K;unfold B0.hash;rw[h7]
 have e4:He t=He s:=by funext p;unfold He;rw[h6,h3]
 refine⟨⟨by rw[h1,h2];exact h.ri.rs,by rw[h1,h3];exact h.ri.op⟩,by rw[e1,e2,e3,h4,h5];exact h.lx,by rw[e1,e2,e4,h5];exact h.ol,by unfold Iw B0.regs;rw[h2,h3,h6];exact h.so,by rw[h4,h7];exact h.nl⟩
def LV.row(h:LV B s)(ok:B9 s M){k:Nat}
  (hn: ∀x∈row',∃x0∈C6 s.ix k,x0.pl=x.pl/\x0.part=x.part) (iE: ∀x∈C6 s.ix k,(∃x'∈row',x'.pl=x.pl)\/x.pl∈pend'\/x.pl.1=B)
  (hp: ∀p∈s.pend,p∈pend') (h3: ∀x∈row',x.pl∉pend') (h4: ∀p∈pend',p∈s.pend\/ ∃x∈C6 s.ix k,x.pl=p):LV B {s with ix:=iset s.ix k row',pend:=pend'}:=by
 refine⟨⟨h.ri.rs,h.ri.op⟩,h.lx.row (Ha s) (ok.isi k) none (by simp;rfl) (fun y hy=>by cases hy) (fun x hx=>?_) (fun x hx=>?_) hp h3 h4,fun p hY=>?_,h.so,(Jm ..).trans h.nl⟩
 ·obtain⟨x0,c1,c2,c3⟩:=hn x hx;exact .inl ⟨x0,c1,c2,c3,fun y hy=>by cases hy⟩
 ·rcases iE x hx with c|c|c
  ·exact .inl c
  ·exact .inr (.inl c)
  ·exact .inr (.inr (.inl c))
 ·rcases hY with c|c|c
  ·exact h.ol p (.inl c)
  ·rcases h4 p c with c|⟨x,c1,rfl⟩
   ·exact h.ol p (.inr (.inl c))
   ·exact h.ol _ (.inr (.inr (h.at' (j:=isi s.ix k) c1)))
  ·exact h.ol p (.inr (.inr c))
def Uf{l:List C8}{nm:Dm}{x:C8}(hx:x∈l):x∈I0 l nm\/x.nm=nm:=by
 by_cases h:x.nm=nm
 ·exact .inr h
 ·exact .inl ((List.mem_eraseP_of_neg (by simpa using h)).2 hx)
def Qa{x:C8}{h:Nat}(e:x.nm=E1 h p):x.pl=p:=by
 unfold C8.nm E1 at e;simp only[QC]at e;unfold C8.pl;rw[e.2.1,e.2.2.1,e.2.2.2]
def LV.ixdrop(h:LV B s)(ok:B9 s M)(k:Nat)(hp:p.1=B):LV B (s.ixdrop k p):=by
 refine LV.congr (h.row ok (k:=k) (row':=I0 (C6 s.ix k) (E1 k p)) (pend':=s.pend) (fun x hx=>⟨x,Dy _ _ x hx,rfl,rfl⟩) (fun x hx=>?_) (fun p hp=>hp) (fun x hx=>h.lx.a3 (isi s.ix k) x (Dy _ _ x hx)) fun p hp=>.inl hp) rfl rfl rfl rfl rfl rfl rfl;rcases Uf (nm:=E1 k p) hx with c|c
 ·exact .inl ⟨x,c,rfl⟩
 ·exact .inr (.inr (by rw[Qa c];exact hp))
def LV.hit(h:LV B s)(ok:B9 s M)(k:Nat)(nm:Dm):LV B {s with ix:=iset s.ix k (Bv (C6 s.ix k) nm)}:=by
 have hm: ∀x:C8,∀l l':List C8,l'.map (fun x=>(x.part,x.pl))=l.map (fun x=>(x.part,x.pl))->x∈l'-> ∃y∈l,y.pl=x.pl/\y.part=x.part:=fun x l l' he hx=>by
  have:(x.part,x.pl)∈l'.map fun x=>(x.part,x.pl):=OQ (f:=fun x:C8=>(x.part,x.pl)) hx;rw[he]at this;obtain⟨y,hy,e⟩:=NY.1 this;exact⟨y,hy,congrArg Prod.snd e,congrArg Prod.fst e⟩
 refine LV.congr (h.row ok (k:=k) (row':=Bv (C6 s.ix k) nm) (pend':=s.pend) (fun x hx=>hm x _ _ (Ul _ _) hx) (fun x hx=>?_) (fun p hp=>hp) (fun x hx=>?_) fun p hp=>.inl hp) rfl rfl rfl rfl rfl rfl rfl
 ·obtain⟨y,c1,c2,-⟩:=hm x _ _ (Ul _ nm).symm hx;exact .inl ⟨y,c1,c2⟩
 ·obtain⟨y,c1,c2,-⟩:=hm x _ _ (Ul _ _) hx;rw[<-c2];exact h.lx.a3 (isi s.ix k) y c1
def LV.inplc(h:LV B s){x:C8}(hx:x∈s.ix.getD j []): ∃K,x.pl∈K6 s K/\K8 s.aL K=some x.pl:=by
 obtain⟨K,e1,-,e3,e4⟩:=h.lx.a1 j x hx;refine⟨K,OI.2 ⟨NY.2 ⟨x,OI.2 ⟨by unfold C6;rw[e3];exact hx,OH e4⟩,rfl⟩,?_⟩,e1⟩;obtain⟨-,-,-,-,-,-,f1,f2⟩:=Mm (Eu e1);exact OH ⟨f1,f2⟩
def LV.last(h:LV B s)(hp:p∈K6 s K):K8 s.aL K=some p/\p∉s.kL/\ ∃x∈C6 s.ix (s.hash K),x.pl=p/\x.nm=E1 (s.hash K) p:=by
 obtain⟨h1,h2⟩:=OI.1 hp;obtain⟨x,c1,c2,c3⟩:=EY h1;obtain⟨K',e1,e2,-⟩:=h.lx.a1 (isi s.ix (s.hash K)) x c1;rw[c2]at e1 e2;obtain⟨-,-,-,-,-,-,-,f2⟩:=Mm (Eu e1);obtain rfl:K'=K:=f2.symm.trans (PF h2).2;exact⟨e1,e2,x,c1,c2,c3⟩
def LV.forget(h:LV B s)(ok:B9 s M)(key:ByteArray):LV B (s.forget key).1:=by
 unfold B0.forget;dsimp only;have h1:LV B {s with q:=P7 s.q key}:=h.congr rfl rfl rfl rfl rfl rfl rfl;have ok1:B9 {s with q:=P7 s.q key} M:=ok.setq (fun e he=>ok.qs e (Yt _ _ e he)) (OK (Iq _ _) ok.ql);split
 ·exact h1
 ·rename_i p hp;rw[Px]at hp;obtain⟨e1,e2,x0,c1,c2,c3⟩:=h1.last (ZH hp);have hg:=ok1.ixi.row (ok1.isi (s.hash key));refine LV.congr (h1.row ok1 (k:=s.hash key) (row':=I0 (C6 s.ix (s.hash key)) (E1 (s.hash key) p)) (pend':=s.pend++[p]) (fun x hx=>⟨x,Dy _ _ x hx,rfl,rfl⟩) (fun x hx=>?_) (fun p hp=>OA _ hp) (fun x hx hm=>?_) fun q hq=>?_) rfl rfl rfl rfl rfl rfl rfl
  ·rcases Uf (nm:=E1 (s.hash key) p) hx with c|c
   ·exact .inl ⟨x,c,rfl⟩
   ·exact .inr (.inl (by rw[Qa c];simp))
  ·have gQ:x∈C6 s.ix (s.hash key):=Dy _ _ x hx;rcases NJ.1 hm with hm|hm
   ·exact h1.lx.a3 (isi s.ix (s.hash key)) x gQ hm
   ·have e:=(h1.lx.uniq (Ha _) (j:=isi s.ix (s.hash key)) (j':=isi s.ix (s.hash key)) gQ c1 ((NM.1 hm).trans c2.symm)).2;exact Oa hg (E1 (s.hash key) p) (NY.2 ⟨x,hx,by rw[e];exact c3⟩)
  ·exact(NJ.1 hq).imp id fun c=>⟨x0,c1,by rw[NM.1 c];exact c2⟩
structure Wr(s t:B0)(o:E2)(x:It):Prop where
 ri:RI t
 so:s.op=some o
 to:t.op=some {o with nx:=o.nx+x.2.2.1,l:=o.l++[x]}
 ps:1<=x.2.2.1
 aL:t.aL=s.aL++(if x.1=2 then(Ob t.d o.b o.ep x).toList else[])
 kL:t.kL=s.kL++(if x.1=3 then Kq t.d o.b x else[])
 mv:Mv s t
 ix:t.ix=s.ix
 at':x.2.1=o.nx
def RI.wr(ri:RI s)(h:KI s)(ok:B9 s M)(hd:s.down=false)(hk:kind=2\/kind=3){l:List (List UInt8)}(hl:1<=l.length)(hs: ∀p∈l,p.length<=s.sc.c.S-16)(ho:s.op=some o)(lW:t.op=some (o.grown kind l.length))(kt:KI t)(dF:Mv s t)(dK:t.ix=s.ix)
  (hw:Rl s t o.b o.nx.toNat l fun j=>(kind,((0+j:Nat):Int),(l.length:Int),o.ep,((o.nx.toNat+j:Nat):Int),())):
  Wr s t o (kind,o.nx,(l.length:Int),())/\(kind=3-> ∀p,l=[p]->Kq t.d o.b (kind,o.nx,(l.length:Int),())=(V1 p).1):=by
 obtain⟨fE,kb,kb',bD,sI,w⟩:=hw;have cO:s.d.down=false:=by rw[<-ok.dn];exact hd
 have cr:=ok.op o ho;have hP:=ok.P;have bS:=(h.op o ho).2.2.2.2;have jU:=ok.ep;have cX:=(kt.op _ lW).2.1;rw[dF.sc]at cX;have cX:o.nx+(l.length:Int)<s.sc.c.P:=cX;obtain⟨f,hf⟩: ∃f:Nat,f=o.nx.toNat:=⟨_,rfl⟩;have gL:o.nx=f:=by omega
 rw[<-hf]at w;obtain⟨k0,k1,k2,k3⟩:=ri.op o ho;obtain rfl:kb=k0:=by rw[bD]at k1;exact NI k1
 rw[<-hf]at k3;obtain⟨r1,rp⟩:=Ge.wr w ok.dv hk hl (by omega) (by omega) ⟨bS.1,by omega⟩ (by rw[ok.cfg];exact hs) k3;obtain⟨e1,e2⟩:=k3.keep ok.dv w.ok cO w.up w.c bD w.own sI w.bad fun q hq=>w.old q (.inl hq);have cK:t.rs=s.rs:=dF.rs;have hZ: ∀r∈s.rs,r.b≠o.b:=fun r hr=>ok.opne ho hr;have lV:t.d.down=s.d.down:=w.up.trans cO.symm;have vK: ∀r∈s.rs,Dc t.d r.b r.ep r.l=Dc s.d r.b r.ep r.l:=fun r hr=>Qv w.c fE lV (w.ne _ (hZ r hr)) _ _;have vA: ∀r∈s.rs,Cz t.d r.b r.l=Cz s.d r.b r.l:=fun r hr=>Qh w.c fE lV (w.ne _ (hZ r hr)) _;have lW:t.op=some {o with nx:=o.nx+(l.length:Int),l:=o.l++[(kind,o.nx,(l.length:Int),())]}:=lW;have uZ:Cz t.d o.b (o.l++[(kind,o.nx,(l.length:Int),())])=Cz s.d o.b o.l++(if kind=3 then Kq t.d o.b (kind,o.nx,(l.length:Int),())else[]):=by
  rw[<-e2];unfold Cz;rw[QZ,OD];congr 1;by_cases hc:kind=3
  ·rw[NE hc,QS,NE (by simpa using hc)];simp
  ·rw[ND hc,QS,ND (by simpa using hc)];simp
 have zU:Dc t.d o.b o.ep (o.l++[(kind,o.nx,(l.length:Int),())])=Dc s.d o.b o.ep o.l++(if kind=2 then(Ob t.d o.b o.ep (kind,o.nx,(l.length:Int),())).toList else[]):=by
  rw[<-e1];unfold Dc;rw[QZ,WA];congr 1;by_cases hc:kind=2
  ·rw[NE hc,QS,NE (by simpa using hc)];cases hq:Ob t.d o.b o.ep (kind,o.nx,(l.length:Int),())<;>simp[hq]
  ·rw[ND hc,QS,ND (by simpa using hc)];simp
 refine⟨⟨⟨fun r hr=>?_,fun o' bH=>?_⟩,ho,lW,by simp only;omega,?_,?_,dF,dK,rfl⟩,fun h3 p hp=>?_⟩
 ·rw[cK]at hr;obtain⟨b0,b1⟩:=ri.rs r hr;exact⟨b0,by rw[So w.c fE lV b0 (w.ne _ (hZ r hr))];exact b1⟩
 ·rw[lW]at bH;obtain rfl:=NI bH;refine⟨kb',w.own,w.bad,?_⟩;have:(o.nx+(l.length:Int)).toNat=f+l.length:=by omega
  dsimp only;rw[this,gL];exact r1
 ·unfold B0.aL B0.regs;rw[cK,lW,ho,OD,OD,Fy vK];simp only[RZ,PU];rw[zU,NZ]
 ·unfold B0.kL B0.regs;rw[cK,lW,ho,OD,OD,Fy vA];simp only[RZ,PU];rw[uZ,NZ]
 ·subst hp;obtain⟨pg,p1,p2⟩:=rp 0 (by simp);rw[QU]at p1;have kF:=(PL.1 p1).1;unfold Kq Gu Gp;rw[Tq w.ok w.up w.own w.bad];dsimp only;rw[gL,show((([p]:List (List UInt8)).length:Nat):Int).toNat=0+1 from rfl];unfold T7;unfold T7;dsimp only;rw[ND (by omega),NK,QU,NX,p1,UE,p2];simp
def Wr.hash(w:Wr s t o x):t.hash=s.hash:=by funext K;unfold B0.hash;rw[w.mv.sc]
def Wr.old(w:Wr s t o x)(h:He s p):He t p:=by
 have:=w.ps;refine⟨by rw[w.mv.epoch];exact h.1,fun o' bH e1 e2=>?_⟩;rw[w.to]at bH;obtain rfl:=NI bH;have:=h.2 o w.so e1 e2;show p.2.1<o.nx+x.2.2.1;omega
def Wr.srt(w:Wr s t o x)(h:Iw s):Iw t:=by
 unfold Iw B0.regs at h⊢;rw[w.so]at h;rw[w.to,w.mv.rs,w.mv.epoch];refine⟨by simpa using h.1,fun r hr=>?_⟩;rcases NJ.1 hr with hr|hr
 ·exact h.2 r (OA _ hr)
 ·have:=h.2 o (by simp);obtain rfl:r={o with nx:=o.nx+x.2.2.1,l:=o.l++[x]}:=by simpa using hr
  exact this
def Wr.fresh(w:Wr s t o x): ¬He s (o.b,o.nx,o.ep,()):=fun h=>by
 have:=h.2 o w.so rfl rfl;simp only at this;omega
def LV.put(h:LV B s)(ok:B9 s M)(w:Wr s t o x)(h2:x.1=2)(hq:q=(o.b,o.nx,o.ep,()))(hf:(C7 t.d q).2.2=0/\M8 (C7 t.d q).1=key){sub:List C8}{f:Int}
  (aJ: ∀x∈sub,x∈C6 s.ix (s.hash key)) (aT: ∀x∈sub,K8 s.aL key≠some x.pl) (iE: ∀x∈C6 s.ix (s.hash key),x∈sub\/x.pl∈pend'\/x.pl=q\/K8 s.aL key=some x.pl)
  (hp: ∀p∈s.pend,p∈pend') (h3: ∀x∈sub,x.pl∉pend') (h4: ∀p∈pend',p∈s.pend\/ ∃x∈C6 s.ix (s.hash key),x.pl=p):LV B {t with ix:=iset s.ix (s.hash key) (sub++[W1 (s.hash key) q f]),pend:=pend'}:=by
 have wX: ¬He s q:=by rw[hq];exact w.fresh
 have hZ: ∀x∈C6 s.ix (s.hash key),x.pl≠q:=fun x hx e=>wX (h.ol q (.inr (.inr (by rw[<-e];exact h.at' (j:=isi s.ix (s.hash key)) hx))));have kT:t.aL=s.aL++(some (key,q)).toList:=by
  rw[w.aL,NE h2];congr 2;unfold Ob Az Ed;dsimp only;rw[w.at',<-hq,NE hf.1,hf.2]
 have lG:t.kL=s.kL:=by rw[w.kL,ND (by rw[h2];decide),NP]
 have eW: ∀p∈pend',He s p:=fun p hp=>by
  rcases h4 p hp with c|⟨x,c1,rfl⟩
  ·exact h.ol p (.inr (.inl c))
  ·exact h.ol _ (.inr (.inr (h.at' (j:=isi s.ix (s.hash key)) c1)))
 refine⟨⟨w.ri.rs,w.ri.op⟩,?_,fun p hY=>?_,w.srt h.so,(Jm ..).trans (h.nl.trans (by rw[<-w.mv.sc]))⟩
 ·show LX t.hash t.aL t.kL pend' (iset s.ix (s.hash key) (sub++[W1 (s.hash key) q f])) _;rw[w.hash,lG];refine h.lx.row (Ha s) (ok.isi _) (some (key,q)) kT (fun y hy=>?_) (fun x hx=>?_) (fun x hx=>?_) hp (fun x hx hm=>?_) h4
  ·rw[<-NI hy];exact⟨fun hm=>wX (h.ol q (.inl hm)),rfl,W1 (s.hash key) q f,by simp,rfl⟩
  ·rcases NJ.1 hx with hx|hx
   ·exact .inl ⟨x,aJ x hx,rfl,rfl,fun y hy=>by rw[<-NI hy];exact aT x hx⟩
   ·rw[NM.1 hx];exact .inr ⟨key,by rw[kT,RZ,Xm,NE rfl];rfl,fun hm=>wX (h.ol q (.inl hm)),rfl,rfl⟩
  ·rcases iE x hx with c|c|c|c
   ·exact .inl ⟨x,OA _ c,rfl⟩
   ·exact .inr (.inl c)
   ·exact absurd c (hZ x hx)
   ·exact .inr (.inr (.inr ⟨_,rfl,c⟩))
  ·rcases NJ.1 hx with hx|hx
   ·exact h3 x hx hm
   ·rw[NM.1 hx]at hm;exact wX (eW q hm)
 ·show He t p;have hY:p∈t.kL\/p∈pend'\/p∈t.aL.map Prod.snd:=hY;rw[lG,kT]at hY;rcases hY with c|c|c
  ·exact w.old (h.ol p (.inl c))
  ·exact w.old (eW p c)
  ·rw[NQ,NJ]at c;rcases c with c|c
   ·exact w.old (h.ol p (.inr (.inr c)))
   ·obtain rfl:p=q:=by simpa using c
    rw[hq];refine⟨by rw[w.mv.epoch];exact Int.le_of_eq (ok.oe o w.so),fun o' bH _ _=>?_⟩;rw[w.to]at bH;obtain rfl:=NI bH;have:=w.ps;show o.nx<o.nx+x.2.2.1;omega
def LV.listed(h:LV B s)(ok:B9 s M)(w:Wr s t o x)(h2:x.1=2)(hq:q=(o.b,o.nx,o.ep,()))(hf:(C7 t.d q).2.2=0/\M8 (C7 t.d q).1=key)(h0:K6 s key=[]):LV B (t.list key q):=by
 have hl:=ok.isi (s.hash key);have hg:=(ok.ixi.row hl).erase (E1 (s.hash key) q);have aT: ∀x∈C6 s.ix (s.hash key),K8 s.aL key≠some x.pl:=fun x hx e=>by
  obtain⟨K,c1,c2⟩:=h.inplc (j:=isi s.ix (s.hash key)) hx;rw[Ha s _ _ _ c2 e,h0]at c1;cases c1
 obtain⟨row,aD⟩: ∃row,row=I0 (C6 s.ix (s.hash key)) (E1 (s.hash key) q):=⟨_,rfl⟩;have dL: ∀x∈row,x∈C6 s.ix (s.hash key):=fun x hx=>by rw[aD]at hx;exact Dy _ _ x hx
 have fD: ∀x∈C6 s.ix (s.hash key),x∈row\/x.pl=q:=fun x hx=>by
  rw[aD];exact(Uf hx).imp id Qa
 rw[<-aD]at hg;have kU:=fun x (hx:x∈C6 s.ix (s.hash key))=>h.lx.a3 (isi s.ix (s.hash key)) x hx;cases iS:U0 row s.sc.ways with
 |false=>
  refine LV.congr (h.put ok w h2 hq hf (sub:=row) (f:=0) (pend':=s.pend) dL (fun x hx=>aT x (dL x hx)) (fun x hx=>?_) (fun p hp=>hp) (fun x hx=>kU x (dL x hx)) fun p hp=>.inl hp) rfl rfl rfl ?_ ?_ rfl rfl
  ·exact(fD x hx).imp id fun c=>.inr (.inl c)
  ·show Da t.ix t.sc.ways (t.hash key) q=_;unfold Da Ii;rw[w.ix,w.hash,w.mv.sc,<-aD,iS];rfl
  ·show(if U0 (I0 (C6 t.ix (t.hash key)) (E1 (t.hash key) q)) t.sc.ways=true then _ else t.pend)=s.pend;rw[w.ix,w.hash,w.mv.sc,<-aD,iS,ND (by decide)];exact w.mv.pend
 |true=>
  obtain⟨g,r,hr⟩: ∃g r,row=g::r:=by
   cases row with
   |nil=>
    have:=ok.wy;unfold U0 at iS;simp at iS;omega
   |cons a b=>exact⟨a,b,rfl⟩
  rw[hr]at dL fD hg;have mV:=hg.nd;rw[NS,OW]at mV;refine LV.congr (h.put ok w h2 hq hf (sub:=r) (f:=0) (pend':=s.pend++[g.pl]) (fun x hx=>dL x (NN _ hx)) (fun x hx=>aT x (dL x (NN _ hx))) (fun x hx=>?_) (fun p hp=>OA _ hp) (fun x hx hm=>?_) fun p hp=>?_) rfl rfl rfl ?_ ?_ rfl rfl
  ·rcases fD x hx with c|c
   ·rcases OC.1 c with rfl|c
    ·exact .inr (.inl (by simp))
    ·exact .inl c
   ·exact .inr (.inr (.inl c))
  ·rcases NJ.1 hm with hm|hm
   ·exact kU x (dL x (NN _ hx)) hm
   ·have e:=(h.lx.uniq (Ha s) (j:=isi s.ix (s.hash key)) (j':=isi s.ix (s.hash key)) (dL x (NN _ hx)) (dL g (by simp)) (NM.1 hm)).2;exact mV.1 (NY.2 ⟨x,hx,e⟩)
  ·exact(NJ.1 hp).imp id fun c=>⟨g,dL g (by simp),(NM.1 c).symm⟩
  ·show Da t.ix t.sc.ways (t.hash key) q=_;unfold Da Ii;rw[w.ix,w.hash,w.mv.sc,<-aD,iS,hr];rfl
  ·show(if U0 (I0 (C6 t.ix (t.hash key)) (E1 (t.hash key) q)) t.sc.ways=true then t.pend++[(Jp (C6 t.ix (t.hash key)) t.sc.ways (t.hash key) q).pl]else t.pend)=s.pend++[g.pl];unfold Jp;rw[w.ix,w.hash,w.mv.sc,<-aD,iS,NE rfl,NE rfl,hr,w.mv.pend];rfl
def LV.moved(h:LV B s)(ok:B9 s M)(w:Wr s t o x)(h2:x.1=2)(hq:q=(o.b,o.nx,o.ep,()))(hf:(C7 t.d q).2.2=0/\M8 (C7 t.d q).1=key)(hp:p∈K6 s key):LV B {t with ix:=Cj t.ix (s.hash key) p q}:=by
 have hl:=ok.isi (s.hash key);have hg:=ok.ixi.row hl;obtain⟨e1,e2,x0,c1,c2,c3⟩:=h.last hp;obtain⟨y,hy⟩: ∃y,P3 s.ix (s.hash key) p=some y:=by
  cases hy:P3 s.ix (s.hash key) p with
  |some y=>exact⟨y,rfl⟩
  |none=>
   unfold P3 at hy;rw[RR]at hy;exact absurd (OH c3) (by simpa using hy x0 c1)
 have dL: ∀x∈I0 (I0 (C6 s.ix (s.hash key)) (E1 (s.hash key) p)) (E1 (s.hash key) q),x∈C6 s.ix (s.hash key):=fun x hx=>Dy _ _ x (Dy _ _ x hx);refine LV.congr (h.put ok w h2 hq hf (sub:=I0 (I0 (C6 s.ix (s.hash key)) (E1 (s.hash key) p)) (E1 (s.hash key) q)) (f:=L9 (y.freq-1) 0) (pend':=s.pend) dL (fun x hx e=>?_) (fun x hx=>?_) (fun p hp=>hp) (fun x hx=>h.lx.a3 (isi s.ix (s.hash key)) x (dL x hx)) fun p hp=>.inl hp) rfl rfl rfl ?_ w.mv.pend rfl rfl
 ·have e3:=(h.lx.uniq (Ha s) (j:=isi s.ix (s.hash key)) (j':=isi s.ix (s.hash key)) (dL x hx) c1 (by rw[c2];exact NI (e.symm.trans e1))).2;exact Oa hg (E1 (s.hash key) p) (NY.2 ⟨x,Dy _ _ x hx,e3.trans c3⟩)
 ·rcases Uf (nm:=E1 (s.hash key) p) hx with c|c
  ·exact(Uf c).imp id fun c=>.inr (.inl (Qa c))
  ·exact .inr (.inr (.inr (by rw[Qa c];exact e1)))
 ·show Cj t.ix (s.hash key) p q=_;unfold Cj;rw[w.ix,hy]
def LV.killed(h:LV B s)(w:Wr s t o x)(h3:x.1=3){n:Nat}(hk:Kq t.d o.b x=s.pend.take n):LV B {t with pend:=t.pend.drop n}:=by
 have kT:t.aL=s.aL:=by rw[w.aL,ND (by rw[h3];decide),NP]
 have lG:t.kL=s.kL++s.pend.take n:=by rw[w.kL,NE h3,hk]
 refine⟨⟨w.ri.rs,w.ri.op⟩,?_,fun p hp=>?_,w.srt h.so,by show t.ix.length=t.sc.sets.toNat;rw[w.ix,w.mv.sc];exact h.nl⟩
 ·show LX t.hash t.aL t.kL (t.pend.drop n) t.ix _;rw[w.hash,kT,lG,w.mv.pend,w.ix];exact h.lx.kill (fun p hp=>RP hp) (fun p hp=>SV hp) fun p hp=>by
   rw[<-PR n s.pend]at hp;exact NJ.1 hp
 ·have hp:p∈t.kL\/p∈t.pend.drop n\/p∈t.aL.map Prod.snd:=hp;refine w.old (h.ol p ?_);rw[lG,kT,w.mv.pend]at hp;rcases hp with c|c|c
  ·exact(NJ.1 c).imp id fun c=>.inl (RP c)
  ·exact .inr (.inl (SV c))
  ·exact .inr (.inr c)
end
section
variable {s t:B0} {M:Nat} {B k:Int}
def LV.same(h:LV B s)(ri:RI t)(e1:t.aL=s.aL)(e2:t.kL=s.kL)(dK:t.ix=s.ix)(hp:t.pend=s.pend)(dO:t.sc=s.sc)(ho: ∀p,He s p->He t p)(qM:Iw t):LV B t:=by
 have e3:t.hash=s.hash:=by funext K;unfold B0.hash;rw[dO]
 exact⟨ri,by rw[e1,e2,e3,dK,hp];exact h.lx,fun p hY=>ho p (h.ol p (by rw[e1,e2,hp]at hY;exact hY)),qM,by rw[dK,dO];exact h.nl⟩
def LV.seals(h:LV B s)(ok:B9 s M)(hd:s.down=false)(ki:KI s)(g: ∀o,s.op=some o->s.seals.1.rs=s.rs++[o]/\Rl s s.seals.1 o.b o.nx.toNat [N3 o.l] fun j=>(4,((0+j:Nat):Int),1,o.ep,((o.nx.toNat+j:Nat):Int),())):LV B s.seals.1:=by
 cases ho:s.op with
 |none=>
  have:s.seals=(s,0):=by unfold B0.seals;rw[ho]
  rw[this];exact h
 |some o=>
  obtain⟨cK,fE,kb,kb',bD,sI,w⟩:=g o ho;obtain⟨f1,f2,f3,f4,f5⟩:s.seals.1.op=none/\s.seals.1.ix=s.ix/\s.seals.1.pend=s.pend/\s.seals.1.epoch=s.epoch/\s.seals.1.sc=s.sc:=by
   unfold B0.seals;rw[ho];exact⟨rfl,rfl,rfl,rfl,rfl⟩
  generalize s.seals.1=t at*;have cO:s.d.down=false:=by rw[<-ok.dn];exact hd
  obtain⟨k0,k1,k2,k3⟩:=h.ri.op o ho;obtain rfl:kb=k0:=by rw[bD]at k1;exact NI k1
  obtain⟨f,hf⟩: ∃f:Nat,f=o.nx.toNat:=⟨_,rfl⟩;rw[<-hf]at w k3;have cr:=ok.op o ho;have hP:=ok.P;have hS:=ok.S;obtain⟨-,o2,-,-,o4,o5⟩:=ki.op o ho;have bS:=ok.ep;have aU:=Pq o.l;have cX:=ki.fit;have hZ: ∀r∈s.rs,r.b≠o.b:=fun r hr=>ok.opne ho hr;have lV:t.d.down=s.d.down:=w.up.trans cO.symm;obtain⟨e1,e2⟩:=k3.keep ok.dv w.ok cO w.up w.c bD w.own sI w.bad fun q hq=>w.old q (.inl hq);have yF:(N3 o.l).length<=s.d.c.S-16:=by
   have:=(ki.op o ho).2.2.1;rw[ok.cfg];omega
  have bI: ∀p,kb'.pages[f]?=some p->C1 p=((4,0,1,o.ep,(f:Int),()),N3 o.l,0):=fun p hp=>by
   have:=w.new 0 (by simp);rw[QU,hp]at this;rw[NI this];exact(Jh (by unfold J7;rw[ND (by simp only;omega),ND (by simp only;omega)]) _ (by rw[ok.cfg];exact hS) yF).1
  have hrg:Ge kb'.pages o.ep o.l f true:=by
   refine⟨?_,k3.ch.congr fun q hq=>w.old q (.inl hq),fun q p hq hp h0=>?_,?_⟩
   ·obtain⟨p,p1,p2⟩:=k3.hd;exact⟨p,by rw[w.old 0 (.inl (by have:=k3.nx16;omega))];exact p1,p2⟩
   ·by_cases ca:q=f
    ·rw[ca]at hp;rw[bI p hp];exact⟨rfl,ca,rfl,rfl⟩
    ·rw[w.old q (.inr (by simp;omega))]at hp;have:=(k3.tl q p hq hp h0).1;cases this
   ·have:=(w.ok.pg kb' (by obtain⟨_,hi,e⟩:=W2 w.own;rw[<-e];exact NO hi)).1;rw[w.c,ok.cfg]at this;omega
  have bK:t.regs=s.regs:=by unfold B0.regs;rw[cK,f1,ho];simp
  refine h.same ⟨fun r hr=>?_,fun o ho=>by rw[f1]at ho;cases ho⟩ ?_ ?_ f2 f3 f5 (fun p hp=>⟨by rw[f4];exact hp.1,fun o ho=>by rw[f1]at ho;cases ho⟩) (by unfold Iw;rw[bK,f4];exact h.so)
  ·rw[cK]at hr;rcases NJ.1 hr with hr|hr
   ·obtain⟨b0,b1⟩:=h.ri.rs r hr;exact⟨b0,by rw[So w.c fE lV b0 (w.ne _ (hZ r hr))];exact b1⟩
   ·rw[NM.1 hr];exact⟨(W2 bD).1,hrg.reg w.ok w.up w.own w.bad⟩
  ·unfold B0.aL;rw[bK];refine Fy fun r hr=>?_;unfold B0.regs at hr;rcases NJ.1 hr with hr|hr
   ·exact Qv w.c fE lV (w.ne _ (hZ r hr)) _ _
   ·rw[ho]at hr;obtain rfl:r=o:=by simpa using hr
    exact e1
  ·unfold B0.kL;rw[bK];refine Fy fun r hr=>?_;unfold B0.regs at hr;rcases NJ.1 hr with hr|hr
   ·exact Qh w.c fE lV (w.ne _ (hZ r hr)) _
   ·rw[ho]at hr;obtain rfl:r=o:=by simpa using hr
    exact e2
def LV.begins(h:LV B s)(ok:B9 s M)(hd:s.down=false)(ki:KI s)(bG:s.op=none)(iT:b∉s.us)(hn: ∀kb,E7 s.d b=some kb->kb.next=0)(lW:t.op=some ⟨b,s.epoch+1,1,[]⟩)(dK:t.ix=s.ix)(mJ:t.pend=s.pend)(dO:t.sc=s.sc)(bS:s.epoch<1073741824)
  (cK:t.rs=s.rs) (he:t.epoch=s.epoch+1) (hw:Rl s t b 0 [[]] fun j=>(1,((0+j:Nat):Int),1,s.epoch+1,((0+j:Nat):Int),())):LV B t:=by
 obtain⟨fE,kb,kb',bD,sI,w⟩:=hw;have cO:s.d.down=false:=by rw[<-ok.dn];exact hd
 have hP:=ok.P;have hS:=ok.S;have he0:=ok.ep;have lV:t.d.down=s.d.down:=w.up.trans cO.symm;have hZ: ∀r∈s.rs,r.b≠b:=fun r hr e=>iT (by unfold B0.us;rw[<-e];exact OA _ (OQ hr));have uZ:=hn kb bD;have bI: ∃p,kb'.pages[0]?=some p/\C1 p=(Aa (s.epoch+1),[],0):=by
  refine⟨_,w.new 0 (by simp),?_⟩;exact(Jh (h:=Aa (s.epoch+1)) (by unfold J7 Aa;rw[ND (by simp only;omega),ND (by simp only;omega)]) _ (by rw[ok.cfg];exact hS) (by simp)).1
 have bK:t.regs=s.regs++[⟨b,s.epoch+1,1,[]⟩]:=by unfold B0.regs;rw[cK,lW,bG];simp
 have tT:s.regs=s.rs:=by unfold B0.regs;rw[bG];simp
 refine h.same ⟨fun r hr=>?_,fun o ho=>?_⟩ ?_ ?_ dK mJ dO (fun p hp=>⟨by rw[he];have:=hp.1;omega,fun o ho e1 e2=>?_⟩) ?_
 ·rw[cK]at hr;obtain⟨b0,b1⟩:=h.ri.rs r hr;exact⟨b0,by rw[So w.c fE lV b0 (w.ne _ (hZ r hr))];exact b1⟩
 ·rw[lW]at ho;obtain rfl:=NI ho;obtain⟨p,p1,p2⟩:=bI;refine⟨kb',w.own,w.bad,⟨⟨p,p1,by rw[p2],by rw[p2],by rw[p2]⟩,rfl,fun q pg hq hp h0=>?_,?_⟩⟩
  ·have hq:1<=q:=hq;rw[w.old q (.inr (by simpa using hq))]at hp;exact absurd h0 ((ki.sb.db b kb bD).bl q pg (by omega) hp)
  ·have:=(w.ok.pg kb' (by obtain⟨_,hi,e⟩:=W2 w.own;rw[<-e];exact NO hi)).1;rw[w.c,ok.cfg]at this;omega
 ·unfold B0.aL;rw[bK,OD,PU];show _++[]=_;rw[NP];exact Fy fun r hr=>Qv w.c fE lV (w.ne _ (hZ r (by rw[<-tT];exact hr))) _ _
 ·unfold B0.kL;rw[bK,OD,PU];show _++[]=_;rw[NP];exact Fy fun r hr=>Qh w.c fE lV (w.ne _ (hZ r (by rw[<-tT];exact hr))) _
 ·rw[lW]at ho;obtain rfl:=NI ho;have e2:p.2.2.1=s.epoch+1:=e2;have:=hp.1;omega
 ·unfold Iw;rw[bK,he,NQ];refine⟨ZA.2 ⟨h.so.1,by simp,fun a ha c hc=>?_⟩,fun r hr=>?_⟩
  ·obtain⟨r,hr,rfl⟩:=NY.1 ha;have:=h.so.2 r hr;rw[show c=s.epoch+1 by simpa using hc];omega
  ·rcases NJ.1 hr with hr|hr
   ·have:=h.so.2 r hr;omega
   ·rw[NM.1 hr];exact QJ _
def Ao7(s:B0)(b:Int)(h0:(s.erase b).2=0):(s.erase b).1.rs=s.rs.filter (fun r=> !decide (r.b=b))/\(s.erase b).1.op=s.op/\(s.erase b).1.ix=s.ix/\(s.erase b).1.pend=s.pend/\(s.erase b).1.epoch=s.epoch/\(s.erase b).1.sc=s.sc:=by
 unfold B0.erase at h0⊢;dsimp only at h0⊢;split at h0
 ·cases h0
 ·rename_i h1;rw[ND h1];exact⟨rfl,rfl,rfl,rfl,rfl,rfl⟩
def RI.els(ri:RI s)(hE:Rq s t b)(cK: ∀r∈t.rs,r∈s.rs/\r.b≠b)(bG:t.op=s.op)(ho: ∀o,s.op=some o->o.b≠b):RI t:=by
 obtain⟨c1,c2,c3,c4⟩:=hE;refine⟨fun r hr=>?_,fun o h=>?_⟩
 ·obtain⟨r1,r2⟩:=cK r hr;obtain⟨b0,b1⟩:=ri.rs r r1;exact⟨b0,by rw[So c1 c2 c3 b0 (c4 _ r2)];exact b1⟩
 ·rw[bG]at h;rw[c4 _ (ho o h)];exact ri.op o h
def LV.wash(h:LV B s)(h0:(s.erase b).2=0)(hb:b∉s.us)(hE:Rq s (s.erase b).1 b):LV B (s.erase b).1:=by
 obtain⟨f1,f2,f3,f4,f5,f6⟩:=Ao7 s b h0;obtain⟨c1,c2,c3,c4⟩:=id hE;have hZ: ∀r∈s.regs,r.b≠b:=fun r hr e=>hb (by
  unfold B0.us;rcases NJ.1 hr with hr|hr
  ·rw[<-e];exact OA _ (OQ hr)
  ·cases ho:s.op with
   |none=>rw[ho]at hr;cases hr
   |some o=>
    rw[ho]at hr;obtain rfl:r=o:=by simpa using hr
    rw[<-e];simp)
 have cD:s.rs.filter (fun r=> !decide (r.b=b))=s.rs:=RA.2 fun r hr=>by simpa using hZ r (OA _ hr)
 rw[cD]at f1;generalize (s.erase b).1=t at*;have bK:t.regs=s.regs:=by unfold B0.regs;rw[f1,f2]
 refine h.same (h.ri.els hE (fun r hr=>by rw[f1]at hr;exact⟨hr,hZ r (OA _ hr)⟩) f2 fun o ho=>hZ o (OG _ (by rw[ho];simp))) ?_ ?_ f3 f4 f6 (fun p hp=>⟨by rw[f5];exact hp.1,by rw[f2];exact hp.2⟩) (by unfold Iw;rw[bK,f5];exact h.so)
 ·unfold B0.aL;rw[bK];exact Fy fun r hr=>Qv c1 c2 c3 (c4 _ (hZ r hr)) _ _
 ·unfold B0.kL;rw[bK];exact Fy fun r hr=>Qh c1 c2 c3 (c4 _ (hZ r hr)) _
def Ag7(ok:G3 d)(aG:d.down=false){l:List It}{k:G6}(hk:E7 d b=some k)(bD:k.bad=false)(hT:N6 e d b l)(hl: ∀x∈l,0<=x.2.1): ∀p∈Cz d b l,p.2.2.1<=e:=fun p hp=>by
 unfold Cz at hp;obtain⟨x,hx,hp⟩:=OY.1 hp;obtain⟨hx,h3⟩:=OI.1 hx;unfold Kq Gu Gp at hp;rw[Tq ok aG hk bD]at hp;dsimp only at hp;obtain⟨pl,aQ,hp⟩:=OY.1 hp;have gB:=hl x hx;have first: ∀(n:Nat) (l:List (List UInt8)),T7 k.pages x.2.1 n=some l->1<=n-> ∃pg,k.pages[x.2.1.toNat]?=some pg/\(C1 pg).2.2=0/\(n=1->l=[(C1 pg).2.1]):=fun n=>by
  induction n with
  |zero=>intro l _ h;omega
  |succ n ih=>
   intro l h _;unfold T7 at h;cases hg:T7 k.pages x.2.1 n with
   |none=>rw[hg]at h;cases h
   |some l'=>
    rw[hg]at h;dsimp only at h;split at h
    ·cases h
    ·rename_i hO;split at h
     ·rename_i h0;rcases VI n with rfl|hn
      ·have hi:x.2.1.toNat<k.pages.length:=by omega
       rw[QU,NX,NV hi]at h0 h;refine⟨_,NV hi,h0,fun _=>?_⟩;have:l'=[]:=(NI hg).symm;rw[<-NI h,this];rfl
      ·obtain⟨pg,q1,q2,-⟩:=ih l' hg hn;exact⟨pg,q1,q2,fun e=>by omega⟩
     ·cases h
 cases hg:T7 k.pages x.2.1 x.2.2.1.toNat with
 |none=>rw[hg]at aQ;cases aQ
 |some l'=>
  rw[hg]at aQ;have aQ:pl∈l':=aQ;rcases VI x.2.2.1.toNat with h0|h0
  ·rw[h0]at hg;have:l'=[]:=(NI hg).symm;rw[this]at aQ;cases aQ
  ·obtain⟨pg,q1,q2,q3⟩:=first _ _ hg h0
   obtain⟨n1,n2⟩:=((hT k hk x hx) pg q1 q2).2 (PF h3);rw[q3 (by omega),NM]at aQ;rw[aQ]at hp;exact n2 p hp
def LV.oldest{rest:List E2}(h:LV r.b s)(ok:B9 s M)(hd:s.down=false)(sb:F4 s)(hr:s.rs=r::rest)(bZ:s'={s with pend:=s.pend.filter fun p=> !decide (p.1=r.b)})(hz:(s'.erase r.b).2=0)(hE:Rq s' (s'.erase r.b).1 r.b)(aT: ∀j,∀x∈s.ix.getD j [],x.pl.1≠r.b):LV (-1) (s'.erase r.b).1:=by
 obtain⟨f1,f2,f3,f4,f5,f6⟩:=Ao7 s' r.b hz;generalize (s'.erase r.b).1=t at*;subst bZ;obtain⟨c1,c2,c3,c4⟩:=id hE;have lA:r∈s.rs:=by rw[hr];simp
 have pA:s.regs=r::(rest++s.op.toList):=by unfold B0.regs;rw[hr];rfl
 have aZ:=ok.use.1;have kZ:s.us=r.b::(rest++s.op.toList).map E2.b:=by
  unfold B0.us;rw[hr,NQ];cases s.op<;>rfl
 rw[kZ,OW]at aZ;have hZ: ∀u∈rest++s.op.toList,u.b≠r.b:=fun u hu e=>aZ.1 (by rw[<-e];exact OQ hu);have hO: ∀u∈rest++s.op.toList,r.ep<u.ep:=by
  have h1:=h.so.1;rw[pA,NS,QW]at h1;exact fun u hu=>h1.1 _ (OQ hu)
 have cK:t.rs=rest:=by
  rw[f1];show s.rs.filter _=rest;rw[hr,QS,ND (by simp)];exact RA.2 fun u hu=>by simpa using hZ u (OA _ hu)
 have bG:t.op=s.op:=f2;have bK:t.regs=rest++s.op.toList:=by unfold B0.regs;rw[cK,bG]
 have kT:s.aL=Dc s.d r.b r.ep r.l++t.aL:=by
  unfold B0.aL;rw[pA,bK,OL];congr 1;exact Fy fun u hu=>(Qv c1 c2 c3 (c4 _ (hZ u hu)) _ _).symm
 have lG:s.kL=Cz s.d r.b r.l++t.kL:=by
  unfold B0.kL;rw[pA,bK,OL];congr 1;exact Fy fun u hu=>(Qh c1 c2 c3 (c4 _ (hZ u hu)) _).symm
 have aX: ∀y∈t.aL,∃u∈rest++s.op.toList,y.2.1=u.b/\y.2.2.2.1=u.ep:=fun y hy=>by
  obtain⟨u,hu,x,-,-,e,-⟩:=Mm hy;exact⟨u,by rw[<-bK];exact hu,by rw[e],by rw[e]⟩
 have cO:s.d.down=false:=by rw[<-ok.dn];exact hd
 have zJ: ∀p∈Cz s.d r.b r.l,p.2.2.1<=r.ep:=by
  obtain⟨kb,k1,k2⟩:=(ok.gd hd r.b).1.1 (ok.use.2 r.b (by rw[kZ];simp));exact Ag7 ok.dv cO k1 k2 (sb.rs r lA) fun x hx=>((ok.it r (.inl lA)).2 x hx).1.1
 have hhs:t.hash=s.hash:=by funext K;unfold B0.hash;rw[f6]
 have ho: ∀p,(p∈t.kL\/p∈t.pend\/p∈t.aL.map Prod.snd)->He s p   :=fun p hp=>h.ol p (by
  rcases hp with c|c|c
  ·rw[lG];exact .inl (OG _ c)
  ·rw[f4]at c;exact .inr (.inl (OI.1 c).1)
  ·rw[kT,NQ];exact .inr (.inr (OG _ c)))
 refine⟨h.ri.els (s:=s) hE (fun u hu=>?_) f2 fun o ho=>hZ o (OG _ (by rw[ho];simp)),?_,fun p hp=>⟨?_,?_⟩,by unfold Iw;rw[bK,f5];have h1:=h.so;unfold Iw at h1;rw[pA,NS,QW]at h1;exact⟨h1.1.2,fun u hu=>h1.2 u (NN _ hu)⟩,by rw[f3,f6];exact h.nl⟩
 ·rw[cK]at hu;exact⟨by rw[hr];exact NN _ hu,hZ u (OA _ hu)⟩
 ·rw[hhs,f3,f4];refine h.lx.cut kT (fun y hy=>?_) (fun y hy=>?_) (fun p hp=>by rw[lG];exact OG _ hp) (fun y hy hk=>?_) aT
  ·obtain⟨x,-,-,e,-⟩:=Ap3 hy;rw[e]
  ·obtain⟨u,hu,e,-⟩:=aX y hy;rw[e];exact⟨hZ u hu,hZ u hu⟩
  ·rw[lG]at hk;rcases NJ.1 hk with hk|hk
   ·obtain⟨u,hu,-,e⟩:=aX y hy;have h1:=zJ _ hk;have h2:=hO u hu;omega
   ·exact hk
 ·rw[f5];exact(ho p hp).1
 ·rw[bG];exact(ho p hp).2
end
structure M6(P Q:B0->Prop)(s:B0)(w:B0×Int):Prop where
 ki:w.2≠11->KI w.1
 le:w.2≠11-> ∀K,N9 w.1 K<=N9 s K
 lv:w.2≠11->P s->Q w.1
def KI.gk(h:KI s)(he:e≠11):M6 P P s (s,e):=⟨fun _=>h,fun _ K=>NF _,fun _ h=>h⟩
def M6.then{s1:B0}{R:B0->Prop}(h:M6 P Q s (s1,e))(he:e≠11)(k:M6 Q R s1 w):M6 P R s w:=⟨k.ki,fun hw K=>OK (k.le hw K) (h.le he K),fun hw hv=>k.lv hw (h.lv he hv)⟩
def Ck0:(C7 d p).2.2=0->1<=(C7 d p).1.length/\(C7 d p).1.length<=255/\(C7 d p).2.1.length<=65536:=by
 unfold C7;split
 ·exact fun h=>absurd h (by assumption)
 ·split
  ·split
   ·exact fun h=>(Ah1 h).2
   ·exact fun h=>by cases h
  ·exact fun h=>by cases h
def Co4{p:Int}(h1:1<=n)(hm:Hq m)(h:n<=m)(hp:m+2<=p):H9 n p≠0:=by
 unfold Hq at hm;simp only[H9,Dg]
 repeat' split
 all_goals omega
def Cn6{key:List UInt8}(hm:Ju c.2.1 m)(hr:48<=E0 c.2.2.1)(h:(key.length+val.length+12:Int)<=m*E0 c.2.2.1)(hk:1<=key.length/\key.length<=255/\val.length<=65536):(F8 key val c).2=0:=by
 unfold F8;rw[ND (by omega),ND (by omega),ND];unfold Q3;rw[ND (by omega)];refine Co4 ?_ hm.1 (Int.lt_add_one_iff.1 (ZF (by omega) ?_)) hm.2
 ·exact Int.le_ediv_of_mul_le (by omega) (by omega)
 ·rw[UB];omega
def LV.gone(h:LV B s)(hp:p∈K6 s key){x:C8}(hx:x∈s.ix.getD j [])(e:x.pl=p):j=isi s.ix (s.hash key)/\x.nm=E1 (s.hash key) p:=by
 obtain⟨-,-,x0,c1,c2,c3⟩:=h.last hp;have:=h.lx.uniq (Ha s) hx (j':=isi s.ix (s.hash key)) c1 (e.trans c2.symm);exact⟨this.1,this.2.trans c3⟩
def Ax0(b ep:Int)(l:List It)(s t:B0):Prop:= ∀j,∀x∈t.ix.getD j [],x.pl.1=b->(∃j',∃y∈s.ix.getD j' [],y.pl=x.pl)/\ ∀z∈l,z.1=2->x.pl≠(b,z.2.1,ep,())
section
variable {s:B0} {M:Nat} {k:Int}
def Cj4(h:s.fits n=true)(hm:m<=n):s.fits m=true:=by
 unfold B0.fits at h⊢;cases ho:s.op with
 |none=>rw[ho]at h;exact h
 |some o=>
  rw[ho]at h;have h:=PF h;exact OH (by omega)
def Ar2{key:List UInt8}(h:(F8 key val c).2=0):(1<=(F8 key val c).1.length/\(F8 key val c).1.length<=8)/\(∀p∈(F8 key val c).1,(p.length:Int)<=E0 c.2.2.1)/\V2 (F8 key val c).1.flatten=(key,val,0):=by
 have cI:=(Uz h).1;obtain⟨c1,c2,c3,c4,c5,c6⟩:=Cn7 h;obtain⟨-,-,-,-,r0,-⟩:=Py c4;have hr:=Nd r0;refine⟨by unfold Hq at cI;omega,fun p hp=>?_,by rw[c6];exact Ca5 c1 c2 c3⟩;rw[c5]at hp;unfold Ek at hp;obtain⟨i,-,rfl⟩:=NY.1 hp;rw[NW];omega
def Wi(ok:B9 s M):E0 (H2 s.sc.c).2.2.1=((s.sc.c.S-16:Nat):Int):=by
 have hS:=ok.S;show E0 (s.sc.c.S:Int)=_;unfold E0;rw[NE (by omega)];omega
def M6.move(h:KI s)(ok:B9 s M)(hd:s.down=false)(h2:x.1=2)(hT:N6 e0 s.d b [x])(iU:0<=beside)(kI: ∀o,s.op=some o->b≠o.b):M6 (LV b) (LV b) s (s.move (b,x.2.1,ep,()) x.2.2.1 beside)/\((s.move (b,x.2.1,ep,()) x.2.2.1 beside).2=11\/((s.move (b,x.2.1,ep,()) x.2.2.1 beside).2=0/\(LV b s->Ax0 b ep [x] s (s.move (b,x.2.1,ep,()) x.2.2.1 beside).1))):=by
 have hS:=ok.S;unfold B0.move;dsimp only;split
 ·rename_i hf;refine⟨h.gk (by decide),.inr ⟨rfl,fun hv j y hy kA=>⟨⟨j,y,hy,rfl⟩,fun z hz _ e=>?_⟩⟩⟩;rw[NM.1 hz]at e;obtain⟨K,c1,-⟩:=hv.inplc hy;rw[e]at c1;obtain⟨d1,d2⟩:=OI.1 c1;obtain⟨d3,d4⟩:=PF d2;rw[d4]at hf;exact hf.elim (fun q=>q d3) fun q=>q d1
 ·rename_i hf;rw[PS]at hf;obtain⟨rM,kQ⟩:=hf;have rM:=PA.1 rM;have kQ:=PA.1 kQ;split
  ·have hx:=h.ixdrop ok (s.hash (M8 (C7 s.d (b,x.2.1,ep,())).1)) (b,x.2.1,ep,());have aX:(b,x.2.1,ep,())∈K6 s (M8 (C7 s.d (b,x.2.1,ep,())).1):=OI.2 ⟨kQ,OH ⟨rM,rfl⟩⟩;refine⟨⟨fun _=>hx,fun _ K=>?_,fun _ hv=>hv.ixdrop ok _ rfl⟩,.inr ⟨rfl,fun hv j y hy kA=>?_⟩⟩;rotate_left
   ·have hy:y∈(iset s.ix (s.hash (M8 (C7 s.d (b,x.2.1,ep,())).1)) (I0 (C6 s.ix (s.hash (M8 (C7 s.d (b,x.2.1,ep,())).1))) (E1 (s.hash (M8 (C7 s.d (b,x.2.1,ep,())).1)) (b,x.2.1,ep,())))).getD j []:=hy;rw[Xr (ok.isi _)]at hy;split at hy
    ·rename_i hj;have lR:=Dy _ _ y hy;refine⟨⟨_,y,lR,rfl⟩,fun z hz _ e=>?_⟩;rw[NM.1 hz]at e;exact Oa (ok.ixi.row (ok.isi _)) _ (NY.2 ⟨y,hy,(hv.gone aX (j:=isi s.ix (s.hash (M8 (C7 s.d (b,x.2.1,ep,())).1))) lR e).2⟩)
    ·rename_i hj;refine⟨⟨_,y,hy,rfl⟩,fun z hz _ e=>?_⟩;rw[NM.1 hz]at e;exact hj (hv.gone aX hy e).1
   exact Ce.cnt (s:=s) (s':=s.ixdrop (s.hash (M8 (C7 s.d (b,x.2.1,ep,())).1)) (b,x.2.1,ep,())) (fun _ _ _ _ _=>rfl) rfl (Ai2 (ok.isi _) (Lw _ _)).1 rfl K
  ·rename_i hc;rw[PS,PS]at hc;obtain⟨kb,pg,f1,f2,f3,f4,f5⟩:=Ao0 ok.dv (p:=(b,x.2.1,ep,())) rM;have cI:=((h.sb.db b kb f1).pg _ pg f2 f3).1 f4;have aK:=Wi ok;have cX:((C7 s.d (b,x.2.1,ep,())).1.length+(C7 s.d (b,x.2.1,ep,())).2.1.length+12:Int)<=(C1 pg).1.2.2.1*E0 (H2 s.sc.c).2.2.1:=by
    rw[aK,<-ok.cfg];have:=ok.dv.c.s;rw[Int.natCast_sub (by omega)];exact f5
   rw[ok.cfg]at cI;have cE:=Cn6 (c:=H2 s.sc.c) cI (by rw[aK];omega) cX (Ck0 rM);rw[ND (PA.2 cE)]
   ·have bV:(C1 pg).1.2.2.1<=x.2.2.1:=(hT kb f1 x (by simp) pg f2 f3).1 h2;have hC:=Ar4 (c:=H2 s.sc.c) cI.1 cX;obtain⟨c1,c2,c3⟩:=Ar2 cE;have cX:=Cj4 (s:=s) (n:=x.2.2.1+beside) (m:=((F8 (C7 s.d (b,x.2.1,ep,())).1 (C7 s.d (b,x.2.1,ep,())).2.1 (H2 s.sc.c)).1.length:Int)) (by simpa using hc.2.1) (by omega);have g1:=h.write ok hd (kind:=2) (.inl rfl) c1 (fun p hp=>by have:=c2 p hp;rw[aK]at this;omega) (fun _=>Uz cE) (fun h=>absurd (show(2:Int)=3 from h) (by decide)) cX;have dF:=Mv.write s 2 (F8 (C7 s.d (b,x.2.1,ep,())).1 (C7 s.d (b,x.2.1,ep,())).2.1 (H2 s.sc.c)).1;have lS:=(ok.write hd 2 (F8 (C7 s.d (b,x.2.1,ep,())).1 (C7 s.d (b,x.2.1,ep,())).2.1 (H2 s.sc.c)).1).1;have dK:(s.write 2 (F8 (C7 s.d (b,x.2.1,ep,())).1 (C7 s.d (b,x.2.1,ep,())).2.1 (H2 s.sc.c)).1).1.ix=s.ix:=by
     unfold B0.write;split
     ·rfl
     ·dsimp only;split<;>rfl
    generalize s.write 2 (F8 (C7 s.d (b,x.2.1,ep,())).1 (C7 s.d (b,x.2.1,ep,())).2.1 (H2 s.sc.c)).1=w at g1 dF lS dK;have kP: ∀K,w.1.hash K=s.hash K:=fun K=>by unfold B0.hash;rw[dF.sc]
    rcases g1 with g1|⟨g0,gk,gf,⟨o,go,gq,gop,gw⟩,gr⟩
    ·rw[ND (by rw[g1];decide)];exact⟨⟨fun hh=>absurd g1 hh,fun hh=>absurd g1 hh,fun hh=>absurd g1 hh⟩,.inl g1⟩
    ·rw[NE g0];have gr:=gr rfl;rw[c3]at gr;obtain⟨key,rA⟩: ∃key,key=M8 (C7 s.d (b,x.2.1,ep,())).1:=⟨_,rfl⟩;rw[<-rA]at kQ⊢;have aX:(b,x.2.1,ep,())∈K6 s key:=OI.2 ⟨kQ,OH ⟨rM,rA.symm⟩⟩;have aQ:=h.pl key;have mS:(K6 s key).length=1/\key∉s.q.map Prod.fst:=by
      have:=WI aX;unfold N9 at aQ;split at aQ
      ·omega
      ·rename_i hn;exact⟨by omega,hn⟩
     have aA: ∀p'∈K6 s key,p'=(b,x.2.1,ep,()):=fun p' dC=>by
      obtain⟨a,ha⟩:=List.length_eq_one_iff.1 mS.1;rw[ha,NM]at dC aX;rw[dC,aX]
     have aJ: ∀p'∈K6 w.1 key,p'∈K6 s key:=fun p' dC=>by
      unfold K6 at dC⊢;rw[kP,dK]at dC;obtain⟨a1,a2⟩:=OI.1 dC;exact OI.2 ⟨a1,gf.hit a1 a2⟩
     have bS:=(h.op o go).2.2.2.2.2;have fF:=c1.1;have hm:=KI.moved gk lS (key:=key) (p:=(b,x.2.1,ep,())) (q:=w.2.1) (fun p' dC=>aA p' (aJ p' dC)) (by rw[dF.q];exact mS.2) ⟨by rw[gr],by rw[gr];exact rA.symm⟩ ⟨by rw[gq,dF.epoch];exact bS,fun o' bH _ _=>by
      rw[gop]at bH;rw[<-NI bH,gq];show o.nx<o.nx+_;omega⟩
     rw[kP]at hm;have hfq:(C7 w.1.d w.2.1).2.2=0/\M8 (C7 w.1.d w.2.1).1=key:=⟨by rw[gr],by rw[gr];exact rA.symm⟩;refine⟨⟨fun _=>hm.1,fun _ K=>?_,fun _ hv=>hv.moved ok (hv.ri.wr h ok hd (.inl rfl) c1.1 (fun p hp=>by have:=c2 p hp;rw[aK]at this;omega) go gop gk dF dK gw).1 rfl gq hfq aX⟩,.inr ⟨rfl,fun hv j y hy kA=>?_⟩⟩;rotate_left
     ·have hy:y∈(Cj w.1.ix (s.hash key) (b,x.2.1,ep,()) w.2.1).getD j []:=hy;rw[dK]at hy;have eW:y∈s.ix.getD j []-> ¬(j=isi s.ix (s.hash key)/\y.nm=E1 (s.hash key) (b,x.2.1,ep,()))->(∃j',∃z∈s.ix.getD j' [],z.pl=y.pl)/\ ∀z∈[x],z.1=2->y.pl≠(b,z.2.1,ep,()):=fun hy hn=>⟨⟨j,y,hy,rfl⟩,fun z hz _ e=>by
       rw[NM.1 hz]at e;exact hn (hv.gone aX hy e)⟩
      unfold Cj at hy;split at hy
      ·rename_i uS;obtain⟨-,-,x0,c1,-,c3⟩:=hv.last aX;unfold P3 at uS;rw[RR]at uS;exact absurd (OH c3) (uS x0 c1)
      ·rw[Xr (ok.isi _)]at hy;split at hy
       ·rename_i hj;rcases NJ.1 hy with hy|hy
        ·have aw:=Dy _ _ y hy;refine eW (by rw[hj];exact Dy _ _ y aw) fun hn=>?_;exact Oa (ok.ixi.row (ok.isi (s.hash key))) _ (NY.2 ⟨y,aw,hn.2⟩)
        ·rw[NM.1 hy]at kA;have kA:w.2.1.1=b:=kA;rw[gq]at kA;exact absurd kA.symm (kI o go)
       ·rename_i hj;exact eW hy fun hn=>hj hn.1
     by_cases e:K=key
     ·have h3:=hm.1.pl key;rw[e];have:N9 s key=1:=by unfold N9;rw[mS.1,ND mS.2]
      rw[this];exact h3
     ·refine OK (hm.2 K e) (gf.cnt dF.sc (fun k=>by rw[dK];exact RT _) dF.q K)
theorem M6.moves{e0 b ep beside:Int}(iU:0<=beside): ∀(l:List It) {s:B0} {M:Nat},KI s->B9 s M->s.down=false->N6 e0 s.d b l->(∀o,s.op=some o->b≠o.b)->M6 (LV b) (LV b) s (B0.moves b ep beside l s)/\((B0.moves b ep beside l s).2=11\/((B0.moves b ep beside l s).2=0/\(LV b s->Ax0 b ep l s (B0.moves b ep beside l s).1)))
 |[],s,M,h,ok,hd,hT,ho=>⟨h.gk (by decide),.inr ⟨rfl,fun _ j x hx _=>⟨⟨j,x,hx,rfl⟩,fun z hz=>by cases hz⟩⟩⟩
 |x::r,s,M,h,ok,hd,hT,ho=>by
  have wF:N6 e0 s.d b r:=fun k hk y hy=>hT k hk y (NN _ hy);unfold B0.moves;split
  ·rename_i hx;obtain⟨a1,a2⟩:=M6.moves iU r h ok hd wF ho;exact⟨a1,a2.imp id fun⟨c1,c2⟩=>⟨c1,fun hv j y hy kA=>⟨(c2 hv j y hy kA).1,fun z hz h2=>(OC.1 hz).elim (fun e=>absurd (e▸h2) hx) fun hz=>(c2 hv j y hy kA).2 z hz h2⟩⟩⟩
  ·rename_i hx;have nM:N6 e0 s.d b [x]:=fun k hk y hy=>hT k hk y (by rw[NM.1 hy];simp);have h1:=ok.move hd (b,x.2.1,ep,()) x.2.2.1 beside;have h3:=(h.sb.move ok hd (ep:=ep) (PA.1 hx) nM iU).2;obtain⟨h4,h5⟩:=M6.move h ok hd (ep:=ep) (PA.1 hx) nM iU ho;dsimp only;generalize s.move (b,x.2.1,ep,()) x.2.2.1 beside=w at h1 h3 h4 h5;split
   ·rename_i h0;exact⟨h4,.inl (h5.resolve_right fun c=>h0 c.1)⟩
   ·rename_i h0;have h0:w.2=0:=by simpa using h0
    have hZ:w.2≠11:=by rw[h0];decide
    obtain⟨i1,i2⟩:=M6.moves (ep:=ep) iU r (h4.ki hZ) h1.1 (h1.2.1 h0) (h3 _ b r wF ho) fun o' bH e=>by
     have:=h1.2.2.ob;rw[bH]at this;cases hq:s.op with
     |none=>rw[hq]at this;cases this
     |some o2=>
      rw[hq]at this;exact ho o2 hq (e.trans (NI this))
    refine⟨M6.then (s1:=w.1) (e:=w.2) h4 hZ i1,i2.imp id fun⟨c1,c2⟩=>⟨c1,fun hv j y hy kA=>?_⟩⟩;obtain⟨⟨j',y',d1,d2⟩,d3⟩:=c2 (h4.lv hZ hv) j y hy kA;obtain⟨e1,e2⟩:=(h5.resolve_left hZ).2 hv j' y' d1 (by rw[d2];exact kA);rw[d2]at e1 e2;refine⟨e1,fun z hz wP=>?_⟩;rcases OC.1 hz with rfl|hz
    ·exact e2 z (by simp) wP
    ·exact d3 z hz wP
def KI.gkf(h:w.2=11\/(w.2=0/\KI w.1/\Ce s w.1))(dO:w.2=0->w.1.sc=s.sc)(dK:w.2=0->w.1.ix=s.ix)(hq:w.2=0->w.1.q=s.q)(hv:w.2=0->P s->Q w.1):M6 P Q s w:=by
 refine⟨fun hn=>(h.resolve_left hn).2.1,fun hn K=>?_,fun hn=>hv (h.resolve_left hn).1⟩;obtain⟨h0,-,hf⟩:=h.resolve_left hn;exact hf.cnt (dO h0) (fun k=>by rw[dK h0];exact RT _) (hq h0) K
def M6.erase(h:KI s)(ok:B9 s M)(hd:s.down=false)(hg:I6 s.ss b=true)(hZ: ∀o,s.op=some o->o.b≠b)(hv:(s.erase b).2=0->Rq s (s.erase b).1 b->P s->Q (s.erase b).1):M6 P Q s (s.erase b):=by
 have g1:=h.erase ok hd hg hZ;have dO:(s.erase b).1.sc=s.sc:=(FY s b).2.2;rcases g1 with g1|⟨g0,gk,gf,g3,g4,g5,-,g7,-⟩
 ·have hn:(s.erase b).2≠0:=by rw[g1];decide
  exact KI.gkf (.inl g1) (fun _=>dO) (fun h0=>absurd h0 hn) (fun h0=>absurd h0 hn) fun h0=>absurd h0 hn
 ·exact KI.gkf (.inr ⟨g0,gk,gf⟩) (fun _=>dO) (fun _=>g4) (fun _=>g5) fun h0=>hv h0 g7
def M6.reclaim(h:KI s)(ok:B9 s M)(hd:s.down=false)(hr:s.rs=r::t)(iU:0<=beside):M6 (LV (-1)) (LV (-1)) s (s.reclaim r beside):=by
 have lA:r∈s.rs:=by rw[hr];simp
 obtain⟨h1,h2,mv⟩:=B9.moves (b:=r.b) (ep:=r.ep) (beside:=beside) r.l ok hd;obtain⟨h3,h6⟩:=M6.moves (b:=r.b) (ep:=r.ep) iU r.l h ok hd (h.sb.rs r lA) fun o ho e=>ok.opne ho lA e;unfold B0.reclaim;dsimp only;generalize B0.moves r.b r.ep beside r.l s=w at h1 h2 mv h3 h6;split
 ·rename_i h0;have e:=h6.resolve_right fun c=>h0 c.1;exact⟨fun hn=>absurd e hn,fun hn=>absurd e hn,fun hn=>absurd e hn⟩
 ·rename_i h0;have h0:w.2=0:=by simpa using h0
  have hZ:w.2≠11:=by rw[h0];decide
  have hc:=h1.cutp r.b;have hg:I6 w.1.ss r.b=true:=by
   rw[mv.ss];exact ok.use.2 r.b (by unfold B0.us;exact OA _ (OQ lA))
  have hk:KI {w.1 with pend:=w.1.pend.filter fun p=> !decide (p.1=r.b)}:=(h3.ki hZ).congr rfl rfl rfl rfl rfl rfl rfl;have kI: ∀o,({w.1 with pend:=w.1.pend.filter fun p=> !decide (p.1=r.b)}:B0).op=some o->o.b≠r.b:=fun o ho e=>by
   have h4:=mv.ob;have ho:w.1.op=some o:=ho;rw[ho]at h4;cases hq:s.op with
   |none=>rw[hq]at h4;cases h4
   |some o2=>
    rw[hq]at h4;exact ok.opne hq lA (e.symm.trans (NI h4))
  have h5:=M6.erase (P:=fun _=>LV r.b w.1/\ ∀j,∀x∈w.1.ix.getD j [],x.pl.1≠r.b) (Q:=LV (-1)) hk hc (h2 h0) hg kI fun z hE hp=>hp.1.oldest h1 (h2 h0) (h3.ki hZ).sb (mv.rs.trans hr) rfl z hE hp.2;refine⟨h5.ki,fun hn K=>OK (h5.le hn K) (h3.le hZ K),fun hn hv=>h5.lv hn ⟨h3.lv hZ (hv.to r.b),fun j x hx e=>?_⟩⟩;obtain⟨⟨j',y,d1,d2⟩,d3⟩:=(h6.resolve_left hZ).2 (hv.to r.b) j x hx e;obtain⟨K,-,c2⟩:=hv.inplc d1;obtain⟨u,hu,z,hz,wP,e3,-⟩:=Mm (Eu c2);have e3:y.pl=(u.b,z.2.1,u.ep,()):=e3;have qH:u.b=r.b:=by rw[<-e,<-d2,e3]
  have hur:u=r:=by
   have aZ:=ok.use.1;unfold B0.us at aZ;rw[hr,NS,OM,OW]at aZ;rcases NJ.1 hu with hu|hu
   ·rw[hr]at hu;exact(OC.1 hu).resolve_right fun hu=>aZ.1 (by rw[<-qH];exact OA _ (OQ hu))
   ·cases hq:s.op with
    |none=>rw[hq]at hu;cases hu
    |some o=>
     rw[hq]at hu;obtain rfl:u=o:=by simpa using hu
     exact absurd qH.symm (ok.opne hq lA)
  rw[hur]at hz e3;exact d3 z hz wP (d2.symm.trans e3)
theorem M6.frees{n:Int}(hn:0<=n): ∀(j:Nat) {s:B0} {M:Nat},KI s->B9 s M->s.down=false->M6 (LV (-1)) (LV (-1)) s (B0.frees n j s)
 |0,s,M,h,ok,hd=>h.gk (by decide)
 |j+1,s,M,h,ok,hd=>by
  unfold B0.frees;split
  ·split
   ·exact h.gk (by decide)
   ·rename_i r t hr;have h1:=ok.reclaim hd hr n;have h3:=M6.reclaim h ok hd hr hn;dsimp only;generalize s.reclaim r n=w at h1 h3;split
    ·exact h3
    ·rename_i h0;have h0:w.2=0:=by simpa using h0
     have hZ:w.2≠11:=by rw[h0];decide
     exact M6.then (s1:=w.1) (e:=w.2) h3 hZ (M6.frees hn j (h3.ki hZ) h1.1 (h1.2.1 h0).1)
  ·exact h.gk (by decide)
def Cr5(s:B0)(b:Int):(s.begins b).1.pend=s.pend:=by
 unfold B0.begins;dsimp only;split<;>rfl
def M6.more(h:KI s)(ws:WS s k)(ok:B9 s M)(hd:s.down=false)(hn:0<=n):M6 (LV (-1)) (LV (-1)) s (s.more n):=by
 have hS:=ok.S;unfold B0.more;split
 ·exact h.gk (by decide)
 split
 ·exact h.gk (by decide)
 rename_i bS;split
 ·split
  ·exact h.gk (by decide)
  ·rename_i r t hr;exact M6.reclaim h ok hd hr hn
 rename_i dG;obtain⟨s1,s2,s3,s4,s5,s6,s7⟩:=ok.seals hd;have g1:=h.seals ok hd;have iN:=(ws.seals ok hd).1;have iG:M6 (LV (-1)) (LV (-1)) s s.seals:=by
  rcases g1 with g1|⟨g0,gk,gf,g3,g4,g5,-,g7⟩
  ·have hn:s.seals.2≠0:=by rw[g1];decide
   exact KI.gkf (.inl g1) (fun _=>s7) (fun h0=>absurd h0 hn) (fun h0=>absurd h0 hn) fun h0=>absurd h0 hn
  ·exact KI.gkf (.inr ⟨g0,gk,gf⟩) (fun _=>s7) (fun _=>g4) (fun _=>g5) fun _ hv=>hv.seals ok hd h g7
 dsimp only;generalize s.seals=w at s1 s2 s3 s4 s5 s6 s7 iG iN;split
 ·exact iG
 rename_i h0;have h0:w.2=0:=by simpa using h0
 have hZ:w.2≠11:=by rw[h0];decide
 have jK:=s2 h0;have zG:=iG.ki hZ;have cD:w.1.free≠0:=by
  unfold B0.free at dG⊢;rw[s5,s4];exact dG
 obtain⟨p1,p2⟩:=Ta cD;have bI:=(Di p1).1;have yO:=(Di p1).2;obtain⟨z,hz,z1,z2,z3,z4,z5,z6⟩:=s1.picks jK s3 cD;have xL:M6 (LV (-1)) (LV (-1)) w.1 z/\(z.2=0-> ∃kb,E7 z.1.d (G5 w.1.ss w.1.us).2.2=some kb/\kb.next=0):=by
  rw[hz,p2];cases eD:(Q0 w.1.ss (G5 w.1.ss w.1.us).2.2).dirty with
  |false=>
   rw[ND (by decide)];refine⟨zG.gk (by decide),fun _=>?_⟩;have lL:=(s1.gd jK _).1.1 bI;have fY:=iN.dr _ lL;rw[eD]at fY;obtain⟨kb,bD,-⟩:=lL;refine⟨kb,bD,QQ fun cz=>?_⟩;have gL:Ch w.1.d (G5 w.1.ss w.1.us).2.2=kb.next:=by unfold Ch;rw[bD];rfl
   have:=UG fY.symm;exact this ⟨by rw[Pg];exact yO,by rw[gL];omega⟩
  |true=>
   rw[NE rfl];refine⟨M6.erase zG s1 jK bI (fun o ho=>by rw[s3]at ho;cases ho) fun h0 hE hv=>hv.wash h0 yO hE,fun he=>?_⟩;rcases zG.erase s1 jK bI (fun o ho=>by rw[s3]at ho;cases ho)with e1|⟨-,-,-,-,-,-,-,-,e2⟩
   ·rw[he]at e1;cases e1
   ·exact e2
 rw[<-hz];clear hz;generalize G5 w.1.ss w.1.us=pk at z6 p1 p2 xL yO;have rI:M6 (LV (-1)) (LV (-1)) s z:=M6.then (s1:=w.1) (e:=w.2) iG hZ xL.1;split
 ·exact rI
 rename_i dT;have dT:z.2=0:=by simpa using dT
 have jZ:z.2≠11:=by rw[dT];decide
 have zO:M6 (LV (-1)) (LV (-1)) s (z.1,0):=⟨fun _=>rI.ki jZ,fun _=>rI.le jZ,fun _=>rI.lv jZ⟩;obtain⟨y1,y2,y3,y4,y5⟩:=z6 dT;split
 ·exact zO
 rename_i eE;obtain⟨f1,f2⟩:=y5 eE;obtain⟨kb,bD,uZ⟩:=xL.2 dT;have sI:kb.bad=false:=(Ak1 bD).1 ((z1.gd y1 _).1.1 (Di f1).1);have b1:=(rI.ki jZ).begins z1 y1 z2 (Di f1).2 bD sI uZ (by rw[z4,s6];omega);have aC:=z1.begins y1 z2 (by rw[z4,s6];omega) f1;have dO:(z.1.begins pk.2.2).1.sc=z.1.sc:=(Au8 z.1 pk.2.2).2.2;have du:M6 (LV (-1)) (LV (-1)) z.1 (z.1.begins pk.2.2):=by
  rcases b1 with b1|⟨c0,ck,cf,c3,c4,c5,-,c7,c8,c9⟩
  ·have hn:(z.1.begins pk.2.2).2≠0:=by rw[b1];decide
   exact KI.gkf (.inl b1) (fun _=>dO) (fun h0=>absurd h0 hn) (fun h0=>absurd h0 hn) fun h0=>absurd h0 hn
  ·exact KI.gkf (.inr ⟨c0,ck,cf⟩) (fun _=>dO) (fun _=>c4) (fun _=>c5) fun _ hv=>hv.begins z1 y1 (rI.ki jZ) z2 (Di f1).2 (fun k2 eA=>by rw[bD]at eA;rw[<-NI eA];exact uZ) c3 c4 (Cr5 z.1 pk.2.2) dO (by rw[z4,s6];omega) c7 c8 c9
 generalize z.1.begins pk.2.2=y at aC du;have zP:M6 (LV (-1)) (LV (-1)) s y:=M6.then (s1:=z.1) (e:=z.2) rI jZ du;split
 ·exact zP
 rename_i kV;have kV:y.2=0:=by simpa using kV
 have sV:y.2≠11:=by rw[kV];decide
 exact M6.then (s1:=y.1) (e:=y.2) zP sV (M6.frees hn _ (zP.ki sV) aC.1 (aC.2 kV).1)
theorem M6.room{n:Int}(hn:0<=n): ∀(j:Nat) {s:B0} {M:Nat},KI s->WS s k->B9 s M->s.down=false->M6 (LV (-1)) (LV (-1)) s (B0.room n j s)
 |0,s,M,h,ws,ok,hd=>h.gk (by decide)
 |j+1,s,M,h,ws,ok,hd=>by
  rw[Je];split
  ·split<;>exact h.gk (by decide)
  ·have h1:=ok.more hd hn;have h3:=M6.more h ws ok hd hn;have h4:=ws.more ok hd n;generalize s.more n=w at h1 h3 h4;split
   ·exact h3
   ·rename_i h0;have h0:w.2=0:=by simpa using h0
    have hZ:w.2≠11:=by rw[h0];decide
    have aG:=(h1.2.1 h0).1;exact M6.then (s1:=w.1) (e:=w.2) h3 hZ (M6.room hn j (h3.ki hZ) (h4.1 aG) h1.1 aG)
end
section
variable {s:B0} {M:Nat} {k:Int}
def HV(s:B0)(kind:Int)(l:List (List UInt8)):(s.write kind l).1.ix=s.ix:=by
 unfold B0.write;split
 ·rfl
 ·dsimp only;split<;>rfl
def Hy(s t:B0):Prop:=KI t/\(LV (-1) s->LV (-1) t)
def Hy.trans{s t u:B0}(h:Hy s t)(k:Hy t u):Hy s u:=⟨k.1,fun hv=>k.2 (h.2 hv)⟩
def KI.same{t:B0}(h:KI s)(k:KI t)(h1:t.d=s.d)(h2:t.rs=s.rs)(h3:t.op=s.op)(h4:t.ix=s.ix)(h5:t.pend=s.pend)(h6:t.epoch=s.epoch)(h7:t.sc=s.sc):Hy s t:=⟨k,fun hv=>hv.congr h1 h2 h3 h4 h5 h6 h7⟩
def KI.adm(h:KI s)(ws:WS s k)(ok:B9 s M)(hd:s.down=false)(h0:N9 s key=0):
  (s.adm key val).2=11\/(Hy s (s.adm key val).1/\((s.adm key val).2≠0->N9 (s.adm key val).1 key=0)):=by
 unfold B0.adm;dsimp only;split
 ·exact .inr ⟨⟨h,id⟩,fun _=>h0⟩
 ·rename_i cE;have cE:=PA.1 cE;obtain⟨c1,c2,c3⟩:=Ar2 cE;have g2:M6 (LV (-1)) (LV (-1)) s (s.roomy (F8 key.data.toList val (H2 s.sc.c)).1.length):=M6.room (by omega) _ h ws ok hd;obtain⟨r2,r3,r4⟩:=ok.roomy hd (n:=((F8 key.data.toList val (H2 s.sc.c)).1.length:Int)) (by omega);have aK:=Wi ok;generalize s.roomy (F8 key.data.toList val (H2 s.sc.c)).1.length=w at g2 r2 r3 r4;split
  ·by_cases e:w.2=11
   ·exact .inl e
   ·exact .inr ⟨⟨g2.ki e,g2.lv e⟩,fun _=>by have:=g2.le e key;omega⟩
  ·rename_i hw;have hw:=PA.1 hw;have hZ:w.2≠11:=by rw[hw];decide
   obtain⟨r5,r6⟩:=r3 hw;have hk:=g2.ki hZ;have hcn:N9 w.1 key=0:=by have:=g2.le hZ key;omega
   have aE: ∀p∈(F8 key.data.toList val (H2 s.sc.c)).1,p.length<=w.1.sc.c.S-16:=fun p hp=>by have:=c2 p hp;rw[aK]at this;rw[r4];omega
   have w1:=hk.write r2 r5 (kind:=2) (.inl rfl) c1 aE (fun _=>by rw[r4];exact Uz cE) (fun h=>absurd (show(2:Int)=3 from h) (by decide)) r6;have dF:=Mv.write w.1 2 (F8 key.data.toList val (H2 s.sc.c)).1;have dK:=HV w.1 2 (F8 key.data.toList val (H2 s.sc.c)).1;have lS:=(r2.write r5 2 (F8 key.data.toList val (H2 s.sc.c)).1).1;generalize w.1.write 2 (F8 key.data.toList val (H2 s.sc.c)).1=z at w1 dF dK lS;rcases w1 with w1|⟨z0,zk,zf,⟨o,go,gq,gop,gw⟩,gr⟩
   ·rw[ND (by rw[w1];decide)];exact .inl w1
   ·rw[NE z0];have gr:=gr rfl;rw[c3]at gr;have dT:N9 z.1 key=0:=by
     have:=zf.cnt dF.sc (fun k=>by rw[dK];exact RT _) dF.q key;omega
    have hf:(C7 z.1.d z.2.1).2.2=0/\M8 (C7 z.1.d z.2.1).1=key:=⟨by rw[gr],by rw[gr];exact Ca3 key⟩;obtain⟨l1,-,-⟩:=zk.listed lS (key:=key) (q:=z.2.1) hf dT ⟨by rw[gq,dF.epoch];exact(hk.op o go).2.2.2.2.2,fun o' bH _ _=>by
     rw[gop]at bH;rw[<-NI bH,gq];show o.nx<o.nx+_;have:=c1.1;omega⟩
    exact .inr ⟨⟨l1,fun hv=>(g2.lv hZ hv).listed r2 ((g2.lv hZ hv).ri.wr hk r2 r5 (.inl rfl) c1.1 aE go gop zk dF dK gw).1 rfl gq hf (GP hcn).1⟩,fun h1=>absurd rfl h1⟩
def KI.pop(h:KI s){y:QD}{r:List QD}(hq:s.q=y::r):KI {s with q:=r}/\N9 {s with q:=r} y.1=0:=by
 have hn:=h.uq;rw[hq,NS,OW]at hn;have h1:KI {s with q:=r}:=h.setq hn.2 fun K hK=>.inl (by rw[hq];exact NN _ hK);refine⟨h1,?_⟩;have hp:=h.pl y.1;unfold N9 at hp⊢;rw[NE (by rw[hq];simp)]at hp;show(K6 s y.1).length+(if y.1∈r.map Prod.fst then 1 else 0)=0;rw[ND hn.1];omega
theorem KI.trim: ∀(j:Nat) {s:B0} {M:Nat},KI s->WS s k->B9 s M->s.down=false->(B0.trim j s).2=11\/Hy s (B0.trim j s).1
 |0,s,M,h,ws,ok,hd=>.inr ⟨h,id⟩
 |j+1,s,M,h,ws,ok,hd=>by
  unfold B0.trim;split
  ·cases hq:s.q with
   |nil=>exact .inr ⟨h,id⟩
   |cons y r=>
    dsimp only;have gZ:=ok.qs;have fC:=ok.ql;rw[hq]at gZ fC;obtain⟨p1,p2⟩:=h.pop hq;have ok1:B9 {s with q:=r} M:=ok.setq (fun e he=>gZ e (NN _ he)) (by simp at fC;omega);have ws1:WS {s with q:=r} k:=ws.congr rfl rfl rfl rfl;have s1:=h.same p1 rfl rfl rfl rfl rfl rfl rfl;by_cases hf:y.2.2>0
    ·rw[NE hf];have a1:=p1.adm ws1 ok1 hd (val:=y.2.1) p2;have a3:=ok1.adm hd y.1 y.2.1;have a5:=ws1.adm ok1 hd y.1 y.2.1;have a7:=Jw {s with q:=r} y.1 y.2.1;generalize ({s with q:=r}:B0).adm y.1 y.2.1=w at a1 a3 a5 a7;by_cases e:w.2=11
     ·rw[ND (by rw[e];decide),NE e];exact .inl e
     ·have wk:=s1.trans (a1.resolve_left e).1;have wd:w.1.down=false:=(a7 e).trans hd;have ww:=a5.1 wd;split
      ·exact(KI.trim j wk.1 ww a3.1 wd).imp id wk.trans
      ·have gk:=wk.trans (wk.1.same (t:={w.1 with gh:=Dz s.sc.ghost w.1.gh (s.hash y.1)}) (wk.1.congr rfl rfl rfl rfl rfl rfl rfl) rfl rfl rfl rfl rfl rfl rfl);refine(KI.trim j gk.1 (ww.congr rfl rfl rfl rfl) (a3.1.setgh (gh:=Dz s.sc.ghost w.1.gh (s.hash y.1)) ?_) wd).imp id gk.trans;have h6:=a3.1.gl;have h7:=a3.1.gs;have wsc:w.1.sc=s.sc:=a3.2;rw[wsc]at h6 h7⊢;exact Pp h7.1 h6 _
    ·rw[ND hf];dsimp only;rw[ND (show¬((8:Int)=0) by decide),ND (show¬((8:Int)=11) by decide)];have gk:=h.same (t:={s with q:=r,gh:=Dz s.sc.ghost s.gh (s.hash y.1)}) (p1.congr rfl rfl rfl rfl rfl rfl rfl) rfl rfl rfl rfl rfl rfl rfl;exact(KI.trim j gk.1 (ws.congr rfl rfl rfl rfl) (ok1.setgh (gh:=Dz s.sc.ghost s.gh (s.hash y.1)) (Pp ok.gs.1 ok.gl _)) hd).imp id gk.trans
  ·exact .inr ⟨h,id⟩
def KI.putYoung(h:KI s)(ws:WS s k)(ok:B9 s M)(hd:s.down=false)(hq:s.q.length<=65536)(hk:1<=key.size/\key.size<=255)(hv:val.length<=65536)(h0:N9 s key=0):
  (s.putYoung key val).2=11\/Hy s (s.putYoung key val).1:=by
 obtain⟨c1,c2⟩:=GP h0;have ok1:=(ok.putYoung hd hq hk hv).1;have aJ:=(GM s.q key).map Prod.fst;have k1:KI {s with q:=P7 s.q key++[(key,val,0)]}:=h.setq (by
  rw[NQ,QA];exact⟨aJ.nodup h.uq,by simp,fun a ha b cZ=>by
   rw[RC,NM]at cZ;rw[cZ];exact fun e=>c2 (by have e:a=key:=e;rw[<-e];exact aJ.subset ha)⟩) fun K hK=>by
  rw[NQ,NJ]at hK;rcases hK with hK|hK
  ·exact .inl (aJ.subset hK)
  ·rw[RC,NM]at hK;exact .inr (by rw[hK,c1];rfl)
 have gk:=h.same k1 rfl rfl rfl rfl rfl rfl rfl;exact(KI.trim (s.q.length+2) k1 (ws.congr rfl rfl rfl rfl) ok1 hd).imp id gk.trans
def KI.put(h:KI s)(ws:WS s k)(iv:M5 s M)(hd:s.down=false)(hk:1<=key.size/\key.size<=255)(hv:val.length<=65536):
  (s.put key val).2=11\/Hy s (s.put key val).1:=by
 have ha:s.asked key=0:=by unfold B0.asked;rw[ND (by rw[hd];decide),ND (by omega)]
 unfold B0.put;rw[ND (by simpa using ha),ND (by omega)];obtain⟨f1,f2,f3,f4,f5⟩:=iv.ok.forget key;have fK:(s.forget key).1.q.length<=65536:=by rw[f4];exact OK (Iq _ _) (iv.q hd)
 have dB:(s.forget key).1.down=false:=f2.trans hd;obtain⟨k1,k2⟩:=h.forget iv.ok key;have w1:=(ws.wr.forget key).1 dB;have v1:Hy s (s.forget key).1:=⟨k1,fun hv=>hv.forget iv.ok key⟩;dsimp only;generalize (s.forget key).1=s1 at f1 f2 f3 f4 f5 fK dB k1 k2 w1 v1;split
 ·exact .inr v1
 ·split
  ·have hg:B9 {s1 with gh:=s1.gh.erase ((s.hash key:Nat):Int)} (M+1):=f1.setgh (by have h1:=f1.gl;have h2:(s1.gh.erase ((s.hash key:Nat):Int)).length<=s1.gh.length:=TK;omega);have kg:=v1.trans (k1.same (t:={s1 with gh:=s1.gh.erase ((s.hash key:Nat):Int)}) (k1.congr rfl rfl rfl rfl rfl rfl rfl) rfl rfl rfl rfl rfl rfl rfl);have wg:WS {s1 with gh:=s1.gh.erase ((s.hash key:Nat):Int)} k:=w1.congr rfl rfl rfl rfl;have cg:N9 {s1 with gh:=s1.gh.erase ((s.hash key:Nat):Int)} key=0:=k2;have a1:=kg.1.adm wg hg dB (val:=val) cg;obtain⟨a3,a4⟩:=hg.adm dB key val;have a5:=Ol {s1 with gh:=s1.gh.erase ((s.hash key:Nat):Int)} key val;have a6:=Jw {s1 with gh:=s1.gh.erase ((s.hash key:Nat):Int)} key val;have a7:=wg.adm hg dB key val;generalize ({s1 with gh:=s1.gh.erase ((s.hash key:Nat):Int)}:B0).adm key val=w at a1 a3 a4 a5 a6 a7;by_cases e:w.2=11
   ·rw[NE (.inr e)];exact .inl e
   ·obtain⟨wk,wc⟩:=a1.resolve_left e;have wk:=kg.trans wk;split
    ·exact .inr wk
    ·rename_i hw;rw[PS]at hw;have wd:=(a6 hw.2).trans dB;exact(wk.1.putYoung (a7.1 wd) a3 wd (by rw[a5.1];exact fK) hk hv (wc hw.1)).imp id wk.trans
  ·exact(k1.putYoung w1 f1 dB fK hk hv k2).imp id v1.trans
def KI.get(h:KI s)(ok:B9 s M)(key:ByteArray):KI (s.get key).1:=by
 unfold B0.get;split
 ·exact h
 ·split
  ·have hm:(Gc s.q key).map Prod.fst=s.q.map Prod.fst:=by
    unfold Gc;rw[OO];refine TA fun e _=>?_;simp only[Function.comp];split<;>rfl
   exact h.setq (by rw[hm];exact h.uq) fun K hK=>.inl (by rw[hm]at hK;exact hK)
  ·split
   ·exact h
   ·exact h.hit ok _ _
def KI.delete(h:KI s)(ok:B9 s M)(key:ByteArray):KI (s.delete key).1:=by
 unfold B0.delete;split
 ·exact h
 ·exact(h.forget ok key).1
def KI.tick(h:KI s)(now:Int):KI (s.tick now):=by
 unfold B0.tick;split
 ·exact h
 ·exact h.congr rfl rfl rfl rfl rfl rfl rfl
def LV.get(h:LV (-1) s)(ok:B9 s M)(key:ByteArray):LV (-1) (s.get key).1:=by
 unfold B0.get;split
 ·exact h
 ·split
  ·exact h.congr rfl rfl rfl rfl rfl rfl rfl
  ·split
   ·exact h
   ·exact h.hit ok _ _
def LV.delete(h:LV (-1) s)(ok:B9 s M)(key:ByteArray):LV (-1) (s.delete key).1:=by
 unfold B0.delete;split
 ·exact h
 ·exact h.forget ok key
def LV.tick(h:LV (-1) s)(now:Int):LV (-1) (s.tick now):=by
 unfold B0.tick;split
 ·exact h
 ·exact h.congr rfl rfl rfl rfl rfl rfl rfl
theorem KI.flushes: ∀(j:Nat) {s:B0} {M:Nat},KI s->WS s k->M5 s M->s.down=false->(B0.flushes j s).2=11\/Hy s (B0.flushes j s).1
 |0,s,M,h,ws,iv,hd=>.inr ⟨h,id⟩
 |j+1,s,M,h,ws,iv,hd=>by
  unfold B0.flushes;split
  ·exact .inr ⟨h,id⟩
  ·obtain⟨a1,a2,a3⟩:=iv.ok.roomy hd (n:=1) (by decide);have a6:M6 (LV (-1)) (LV (-1)) s (s.roomy 1):=M6.room (by decide) _ h ws iv.ok hd;have a7:WR (s.roomy 1).1 k:=WS.room (by decide) _ ws iv.ok hd;have aq:(s.roomy 1).1.q=s.q:=(Nc 1 (s.mu+1) s).1;dsimp only;generalize s.roomy 1=w at a1 a2 a3 a6 a7 aq;split
   ·by_cases e:w.2=11
    ·exact .inl e
    ·exact .inr ⟨a6.ki e,a6.lv e⟩
   ·rename_i h0;have h0:=PA.1 h0;have hZ:w.2≠11:=by rw[h0];decide
    obtain⟨b1,b2⟩:=a2 h0;have wk:=a6.ki hZ;split
    ·exact .inr ⟨wk,a6.lv hZ⟩
    ·rename_i hn;split
     ·exact .inr ⟨wk,a6.lv hZ⟩
     ·rename_i pL;have hC:(K9 (w.1.pend.take (min w.1.pend.length (E0 w.1.sc.c.S/6).toNat))).1.length<=w.1.sc.c.S-16:=by
       have hS:=a1.S;have hr:E0 w.1.sc.c.S=((w.1.sc.c.S-16:Nat):Int):=Wi a1;have bD: ∀x:It,(kb x).length=6:=fun x=>by unfold kb;simp[Df]
       have aA: ∀l:List It,(l.flatMap kb).length=6*l.length:=fun l=>by
        induction l with
        |nil=>rfl
        |cons a t ih=>rw[OL,NR,bD,ih,NU];omega
       unfold K9;split
       ·simp only;rw[aA,NW,hr];omega
       ·simp
      have w2:=wk.write a1 b1 (kind:=3) (.inr rfl) (l:=[(K9 (w.1.pend.take (min w.1.pend.length (E0 w.1.sc.c.S/6).toNat))).1]) ⟨by simp,by simp⟩ (fun p hp=>by rw[NM.1 hp];exact hC) (fun h=>absurd (show(3:Int)=2 from h) (by decide)) (fun _=>a1.kills (PA.1 pL)) b2;have w4:=(a7.1 b1).write a1 b1 3 [(K9 (w.1.pend.take (min w.1.pend.length (E0 w.1.sc.c.S/6).toNat))).1];obtain⟨c1,c2⟩:=a1.write b1 3 [(K9 (w.1.pend.take (min w.1.pend.length (E0 w.1.sc.c.S/6).toNat))).1];have cq:=Oz w.1 3 [(K9 (w.1.pend.take (min w.1.pend.length (E0 w.1.sc.c.S/6).toNat))).1];have cm:=Mv.write w.1 3 [(K9 (w.1.pend.take (min w.1.pend.length (E0 w.1.sc.c.S/6).toNat))).1];have ci:=HV w.1 3 [(K9 (w.1.pend.take (min w.1.pend.length (E0 w.1.sc.c.S/6).toNat))).1];generalize w.1.write 3 [(K9 (w.1.pend.take (min w.1.pend.length (E0 w.1.sc.c.S/6).toNat))).1]=z at w2 w4 c1 c2 cq cm ci;split
      ·rename_i h1;rcases w2 with w2|⟨z0,-⟩
       ·exact .inl w2
       ·exact absurd z0 h1
      ·rename_i h1;have h1:z.2.2=0:=by simpa using h1
       rcases w2 with w2|⟨z0,zk,-,⟨o,go,gq,gop,gw⟩,-⟩
       ·rw[h1]at w2;cases w2
       ·have i4:M5 {z.1 with pend:=z.1.pend.drop (min w.1.pend.length (E0 w.1.sc.c.S/6).toNat)} M:=⟨c1.dropp _,fun _=>by show z.1.q.length<=65536;rw[cq.1,aq];exact iv.q hd⟩;refine(KI.flushes j (s:={z.1 with pend:=z.1.pend.drop (min w.1.pend.length (E0 w.1.sc.c.S/6).toNat)}) (zk.congr rfl rfl rfl rfl rfl rfl rfl) (w4.congr rfl rfl rfl rfl) i4 (c2 h1)).imp id fun⟨d1,d2⟩=>⟨d1,fun hv=>d2 ?_⟩;have hw:=a6.lv hZ hv;obtain⟨y1,y2⟩:=hw.ri.wr wk a1 b1 (.inr rfl) (by simp) (fun p hp=>by rw[NM.1 hp];exact hC) go gop zk cm ci gw;exact hw.killed y1 rfl (by rw[y2 rfl _ rfl,Ag5 (PA.1 pL)])
end
theorem Xb{α:Type}[DecidableEq α]: ∀{a b:List α},a.Nodup->(∀x∈a,x∈b)->a.length<=b.length
 |[],b,_,_=>PQ _
 |x::r,b,hn,h=>by
  rw[OW]at hn;have h1:=h x (by simp);have:=Xb (b:=b.erase x) hn.2 fun y hy=>(List.mem_erase_of_ne (fun e=>hn.1 (by rw[<-e];exact hy))).2 (h y (NN _ hy));rw[XX h1]at this;have:=WI h1;rw[NU];omega
def LX.less{hs:ByteArray->Nat}{aL:List LE}{kL pend:List It}{E:It->Prop}(h:LX hs aL kL pend ix E)(h0:Zp aL)(hE: ∀p,E p->E' p\/ ∃K,K8 aL K=some p/\ ∃x∈C6 ix (hs K),x.pl=p):LX hs aL kL pend ix E':=by
 refine⟨h.a1,fun K p hK hp=>?_,h.a3⟩;rcases h.a2 K p hK hp with c|c|c
 ·exact .inl c
 ·rcases hE p c with c|⟨K',c1,c2⟩
  ·exact .inr (.inl c)
  ·rw[h0 _ _ _ hK c1];exact .inr (.inr c2)
 ·exact .inr (.inr c)
structure LO(l:List LE)(s:B0):Prop where
 lx:LX s.hash s.aL s.kL s.pend s.ix fun p=> ∃K,(K,p)∈l
 nw: ∀y∈l,y.2∉s.pend/\ ∀j,∀x∈s.ix.getD j [],x.pl≠y.2
 fu: ∀p∈s.pend,∃K,K8 s.aL K=some p/\p∉s.kL/\((C6 s.ix (s.hash K)).length:Int)=s.sc.ways
def LO.list{r:List LE}(h:LO ((K,q)::r) s)(ok:B9 s M)(hl:K8 s.aL K=some q)(hk:q∉s.kL)(hd: ∀y∈r,y.2≠q):LO r (s.list K q):=by
 have hi:=ok.isi (s.hash K);have hg:=ok.ixi.row hi;have cC:=Ha s;obtain⟨n1,n2⟩:=h.nw (K,q) (by simp);obtain⟨row,aD⟩: ∃row,row=C6 s.ix (s.hash K):=⟨_,rfl⟩;have xE:I0 (C6 s.ix (s.hash K)) (E1 (s.hash K) q)=row:=by
  rw[aD];exact XW fun x hx hm=>n2 _ x hx (Qa (PF hm))
 rw[<-aD]at hg;have gY: ∀x∈row,x∈s.ix.getD (isi s.ix (s.hash K)) []:=fun x hx=>by rw[aD]at hx;exact hx
 have fin: ∀(sub:List C8) (pend':List It),(∀x∈sub,x∈row)->(∀x∈row,x∈sub\/x.pl∈pend')->(∀p∈s.pend,p∈pend')->(∀x∈sub,x.pl∉pend')->(∀p∈pend',p∈s.pend\/ ∃x∈row,x.pl=p)->((row.length:Int)=s.sc.ways->sub.length+1=row.length)->(pend'=s.pend\/(row.length:Int)=s.sc.ways)->(s.list K q).ix=iset s.ix (s.hash K) (sub++[W1 (s.hash K) q 0])->(s.list K q).pend=pend'->LO r (s.list K q):=by
  intro sub pend' c1 c2 c3 c4 c5 c6 c7 e1 e2;have wW:q∉pend':=fun hm=>by
   rcases c5 q hm with c|⟨x,c,e⟩
   ·exact n1 c
   ·exact n2 _ x (gY x c) e
  have hlx:LX s.hash s.aL s.kL pend' (iset s.ix (s.hash K) (sub++[W1 (s.hash K) q 0])) fun p=> ∃K',(K',p)∈(K,q)::r:=by
   refine h.lx.row cC hi none (by simp) (fun y hy=>by cases hy) (fun x hx=>?_) (fun x hx=>?_) c3 (fun x hx=>?_) fun p hp=>by rw[<-aD];exact c5 p hp
   ·rcases NJ.1 hx with hx|hx
    ·exact .inl ⟨x,by rw[<-aD];exact c1 x hx,rfl,rfl,fun y hy=>by cases hy⟩
    ·rw[NM.1 hx];exact .inr ⟨K,hl,hk,rfl,rfl⟩
   ·rw[<-aD]at hx;rcases c2 x hx with c|c
    ·exact .inl ⟨x,OA _ c,rfl⟩
    ·exact .inr (.inl c)
   ·rcases NJ.1 hx with hx|hx
    ·exact c4 x hx
    ·rw[NM.1 hx];exact wW
  have rE: ∀k,C6 (iset s.ix (s.hash K) (sub++[W1 (s.hash K) q 0])) k=if isi s.ix k=isi s.ix (s.hash K)then sub++[W1 (s.hash K) q 0]else C6 s.ix k:=fun k=>Lu hi _ k
  refine⟨?_,fun y hy=>?_,fun p hp=>?_⟩
  ·show LX s.hash s.aL s.kL (s.list K q).pend (s.list K q).ix _;rw[e1,e2];refine hlx.less cC fun p ⟨K',hp⟩=>?_;rcases OC.1 hp with e|hp
   ·obtain⟨rfl,rfl⟩:K'=K/\p=q:=by simpa using e
    exact .inr ⟨_,hl,W1 (s.hash K') p 0,by rw[rE,NE rfl];simp,rfl⟩
   ·exact .inl ⟨K',hp⟩
  ·obtain⟨m1,m2⟩:=h.nw y (NN _ hy);rw[e1,e2];refine⟨fun hm=>?_,fun j x hx=>?_⟩
   ·rcases c5 _ hm with c|⟨x,c,e⟩
    ·exact m1 c
    ·exact m2 _ x (gY x c) e
   ·rw[Xr hi]at hx;split at hx
    ·rcases NJ.1 hx with hx|hx
     ·exact m2 _ x (gY x (c1 x hx))
     ·rw[NM.1 hx];exact fun e=>hd y hy e.symm
    ·exact m2 j x hx
  ·rw[e2]at hp;show∃K',K8 s.aL K'=some p/\p∉s.kL/\((C6 (s.list K q).ix (s.hash K')).length:Int)=s.sc.ways;rw[e1];have full:(row.length:Int)=s.sc.ways-> ∀K',isi s.ix (s.hash K')=isi s.ix (s.hash K)->((C6 (iset s.ix (s.hash K) (sub++[W1 (s.hash K) q 0])) (s.hash K')).length:Int)=s.sc.ways:=fun hf K' e=>by
    rw[rE,NE e,NR,SS,c6 hf];exact hf
   rcases c5 p hp with c|⟨x,c,e⟩
   ·obtain⟨K',d1,d2,d3⟩:=h.fu p c;refine⟨K',d1,d2,?_⟩;by_cases e:isi s.ix (s.hash K')=isi s.ix (s.hash K)
    ·refine full ?_ K' e;rw[<-d3,aD];unfold C6;rw[e]
    ·rw[rE,ND e];exact d3
   ·obtain⟨K',d1,d2,d3,-⟩:=h.lx.a1 _ x (gY x c);rw[e]at d1 d2;refine⟨K',d1,d2,full (c7.resolve_left fun e2=>?_) K' d3⟩;rw[e2]at hp;exact h.lx.a3 _ x (gY x c) (by rw[e];exact hp)
 cases iS:U0 row s.sc.ways with
 |false=>
  have uS:(row.length:Int)≠s.sc.ways:=fun e=>by unfold U0 at iS;rw[e]at iS;simp at iS
  refine fin row s.pend (fun x hx=>hx) (fun x hx=>.inl hx) (fun p hp=>hp) (fun x hx=>h.lx.a3 _ x (gY x hx)) (fun p hp=>.inl hp) (fun e=>absurd e uS) (.inl rfl) ?_ ?_
  ·show Da s.ix s.sc.ways (s.hash K) q=_;unfold Da Ii;rw[xE,iS];rfl
  ·show(if U0 (I0 (C6 s.ix (s.hash K)) (E1 (s.hash K) q)) s.sc.ways=true then _ else s.pend)=s.pend;rw[xE,iS,ND (by decide)]
 |true=>
  have hf:(row.length:Int)=s.sc.ways:=by unfold U0 at iS;simpa using iS
  cases row with
  |nil=>have:=ok.wy;simp at hf;omega
  |cons g t=>
   have mV:=hg.nd;rw[NS,OW]at mV;refine fin t (s.pend++[g.pl]) (fun x hx=>NN _ hx) (fun x hx=>?_) (fun p hp=>OA _ hp) (fun x hx hm=>?_) (fun p hp=>?_) (fun _=>rfl) (.inr hf) ?_ ?_
   ·rcases OC.1 hx with rfl|hx
    ·exact .inr (by simp)
    ·exact .inl hx
   ·rcases NJ.1 hm with hm|hm
    ·exact h.lx.a3 _ x (gY x (NN _ hx)) hm
    ·exact mV.1 (NY.2 ⟨x,hx,(h.lx.uniq cC (gY x (NN _ hx)) (gY g (by simp)) (NM.1 hm)).2⟩)
   ·exact(NJ.1 hp).imp id fun c=>⟨g,by simp,(NM.1 c).symm⟩
   ·show Da s.ix s.sc.ways (s.hash K) q=_;unfold Da Ii;rw[xE,iS];rfl
   ·show(if U0 (I0 (C6 s.ix (s.hash K)) (E1 (s.hash K) q)) s.sc.ways=true then s.pend++[(Jp (C6 s.ix (s.hash K)) s.sc.ways (s.hash K) q).pl]else s.pend)=s.pend++[g.pl];unfold Jp;rw[xE,iS,NE rfl,NE rfl];rfl
theorem Af5: ∀(l:List LE) {s:B0} {M:Nat},LO l s->B9 s M->(∀y∈l,K8 s.aL y.1=some y.2/\y.2∉s.kL/\Q4 .i64 y.2.2.1/\y.2.2.2.1<=s.epoch)->(l.Pairwise fun x y=>y.2≠x.2)->LO [] (T8 l s)/\(T8 l s).ix.length=s.ix.length
 |[],s,M,h,_,_,_=>⟨h,rfl⟩
 |x::r,s,M,h,ok,hl,hp=>by
  obtain⟨h1,h2,h3⟩:=hl x (by simp);obtain⟨p1,p2⟩:=QW.1 hp;obtain⟨a1,a2⟩:=Af5 r (h.list ok h1 h2 p1) (ok.list x.1 x.2 h3) (fun y hy=>hl y (NN _ hy)) p2;exact⟨a1,a2.trans (Jm ..)⟩
def DE(dv:G3 d)(aG:d.down=false)(bN:d.torn.length<=999)(nF:DB d)(w:DI d us){x:W7}(hx:Dh x d)(h:Bu x d now=(some s,0)):LV (-1) s/\LO [] s:=by
 unfold Bu at h;rw[NE hx,ND (by rw[aG];decide)]at h;cases hs:Gq (Q6 x d) d now with
 |none=>rw[hs]at h;cases h
 |some s2=>
  rw[hs]at h;obtain rfl:s2=s:=NI (congrArg Prod.fst h);unfold Gq at hs;cases hr:Bx (V6 d) ((V7 d).map E2.b)with
  |none=>rw[hr]at hs;cases hs
  |some r=>
   rw[hr]at hs;rw[<-NI hs];have aC:=AL (now:=now) dv (sc:=Q6 x d) rfl aG bN (GQ hx) hr;obtain⟨s0,cG⟩: ∃s0,s0=Cr (Q6 x d) d now r.1:=⟨_,rfl⟩;have dK:s0.ix=List.replicate (Q6 x d).sets.toNat []:=by rw[cG];rfl
   have mJ:s0.pend=[]:=by rw[cG];rfl
   have rP:s0.d=d:=by rw[cG];rfl
   have cK:s0.rs=V7 d:=by rw[cG];rfl
   have bG:s0.op=none:=by rw[cG];rfl
   have bS:s0.epoch=Bn (G4 d):=by rw[cG];rfl
   have dO:s0.sc=Q6 x d:=by rw[cG];rfl
   show LV (-1) (T8 (M2 d) (Cr (Q6 x d) d now r.1))/\LO [] (T8 (M2 d) (Cr (Q6 x d) d now r.1));rw[<-cG]at aC⊢;clear cG;have aT: ∀j,s0.ix.getD j []=[]:=fun j=>by
    rw[dK,NX,SE];split<;>rfl
   have eV:s0.regs=V7 d:=by unfold B0.regs;rw[cK,bG];simp
   have kK:(V7 d).map Xx=G4 d:=by unfold V7;rw[OO];exact YD _
   have kT:s0.aL=Gd d (G4 d):=by
    unfold B0.aL;rw[eV,rP,<-HC,kK]
   have lG:s0.kL=Ri d (G4 d):=by
    unfold B0.kL;rw[eV,rP,<-HF,kK]
   have pH: ∀y∈M2 d,K8 s0.aL y.1=some y.2/\y.2∉s0.kL:=fun y hy=>by
    rw[kT,lG];exact PF (OI.1 hy).2
   have cd:(M2 d).Pairwise fun a b=>b.2≠a.2:=((Aw4 d).filter _).imp fun h e=>h.2 e.symm;have h0:LO (M2 d) s0:=by
    refine⟨⟨fun j y hy=>?_,fun K p hK hp=>?_,fun j y hy=>?_⟩,fun y _=>⟨by rw[mJ];simp,fun j z hz=>?_⟩,fun p hp=>?_⟩
    ·rw[aT]at hy;cases hy
    ·refine .inr (.inl ⟨K,OI.2 ⟨?_,OH ?_⟩⟩)
     ·rw[<-kT];exact Eu hK
     ·rw[<-kT,<-lG];exact⟨hK,hp⟩
    ·rw[aT]at hy;cases hy
    ·rw[aT]at hz;cases hz
    ·rw[mJ]at hp;cases hp
   obtain⟨o1,o2⟩:=Af5 (M2 d) h0 aC (fun y hy=>⟨(pH y hy).1,(pH y hy).2,by rw[bS];exact Af1 y hy⟩) cd;obtain⟨k1,-,k3,-,k5,k6,-⟩:=EK (M2 d) s0;have krs: ∀(l:List LE) (t:B0),(T8 l t).rs=t.rs/\(T8 l t).op=t.op:=fun l=>by
    induction l with
    |nil=>exact fun t=>⟨rfl,rfl⟩
    |cons y r ih=>exact fun t=>ih (t.list y.1 y.2)
   obtain⟨k8,k9⟩:=krs (M2 d) s0;generalize T8 (M2 d) s0=t at*;have eL:t.aL=s0.aL:=by unfold B0.aL B0.regs;rw[k1,k8,k9]
   have eK:t.kL=s0.kL:=by unfold B0.kL B0.regs;rw[k1,k8,k9]
   have zC:=(To (G4 d) 0).2;have cC: ∀u∈V7 d,∃y∈G4 d,u=Kh y:=fun u hu=>by
    obtain⟨y,hy,rfl⟩:=NY.1 hu;exact⟨y,hy,rfl⟩
   have tregs:t.regs=V7 d:=by unfold B0.regs;rw[k8,k9,cK,bG];simp
   have tal: ∀p∈t.aL.map Prod.snd,p.2.2.1<=t.epoch:=fun p hp=>by
    obtain⟨y,hy,rfl⟩:=NY.1 hp;obtain⟨u,hu,z,-,-,e,-⟩:=Mm hy;rw[tregs]at hu;obtain⟨y2,lR,rfl⟩:=cC u hu;rw[e,k3,bS];exact zC y2 lR
   refine⟨⟨⟨fun u hu=>?_,fun o ho=>by rw[k9,bG]at ho;cases ho⟩,o1.lx.less (Ha t) (fun p ⟨K,hp⟩=>(by cases hp)),fun p hp=>⟨?_,fun o ho=>by rw[k9,bG]at ho;cases ho⟩,⟨?_,fun u hu=>?_⟩,by rw[o2,dK,k5,dO,PE]⟩,o1⟩
   ·rw[k8,cK]at hu;obtain⟨y,hy,rfl⟩:=cC u hu;obtain⟨b,hb,hq⟩:=Um hy;have e:=(Jf hq).1;rw[k1,rP];refine⟨by show 0<=y.1;omega,?_⟩;show W3 d y.1.toNat=some (y.1,y.2.1,y.2.2);rw[show y.1.toNat=b by omega,hq]
   ·rcases hp with c|c|c
    ·rw[eK]at c;unfold B0.kL at c;rw[eV,rP]at c;obtain⟨u,hu,c⟩:=OY.1 c;obtain⟨y,hy,rfl⟩:=cC u hu;obtain⟨kb,g1,g2⟩:=w.good (x:=y.1) (by rw[<-Xv w dv aG];unfold fs;rw[OO];exact OQ (f:=fun x:HD=>x.1) hy);have:=Ag7 dv aG g1 g2 (AX nF hy) (fun z hz=>((Xw hy).1.2 z hz).1.1) p c;have:=zC y hy;rw[k3,bS];show p.2.2.1<=(G4 d).foldl (fun a h=>L9 a h.2.1) 0;omega
    ·obtain⟨K,c1,-⟩:=o1.fu p c;exact tal p (OQ (Eu c1))
    ·exact tal p c
   ·rw[tregs];have h1:=w.srt;rw[<-Xv w dv aG,SZ]at h1;unfold V7;rw[OO,SZ];exact h1
   ·rw[tregs]at hu;obtain⟨y,hy,rfl⟩:=cC u hu;rw[k3,bS];exact zC y hy
section
variable {s t:B0} {M N:Nat} {k k':Int}
def LV.plc_iff(h:LV (-1) s)(hp:s.pend=[])(K:ByteArray)(p:It):p∈K6 s K↔(K,p)∈Tt s.aL s.kL:=by
 constructor
 ·intro hm;obtain⟨e1,e2,-⟩:=h.last hm;exact OI.2 ⟨Eu e1,OH ⟨e1,e2⟩⟩
 ·intro hm;obtain⟨hm,hc⟩:=OI.1 hm;obtain⟨e1,e2⟩:=PF hc;rcases h.lx.a2 K p e1 e2 with c|c|⟨x,c,e⟩
  ·rw[hp]at c;cases c
  ·have:=h.ri.nn hm;have c:p.1= -1:=c;have this:0<=p.1:=this;omega
  ·obtain⟨K',c1,c2⟩:=h.inplc (j:=isi s.ix (s.hash K)) c;rw[e]at c1 c2;rw[<-show K'=K from Ha s _ _ _ c2 e1];exact c1
def LV.rowlen(h:LV (-1) s)(ok:B9 s M)(hp:s.pend=[]){l:List LE}(hl:l=Tt s.aL s.kL)(hk:l.Pairwise fun x y=>x.1≠y.1)(hj:j<s.ix.length):(s.ix.getD j []).length=(l.filter fun y=>decide (isi s.ix (s.hash y.1)=j)).length:=by
 have hg:Dn s.sc.ways (s.ix.getD j []):=by
  rw[NX,NV hj];exact ok.ixi _ (NO hj)
 have hm: ∀y∈l,K8 s.aL y.1=some y.2/\y.2∉s.kL:=fun y hy=>by
  rw[hl]at hy;exact PF (OI.1 hy).2
 have n1:((s.ix.getD j []).map C8.pl).Nodup:=by
  have h1:=hg.nd;unfold List.Nodup at h1⊢;rw[SZ]at h1⊢;exact h1.imp_of_mem fun ha hb fH e=>fH (h.lx.uniq (Ha s) ha hb e).2
 have n2:((l.filter fun y=>decide (isi s.ix (s.hash y.1)=j)).map Prod.snd).Nodup:=by
  unfold List.Nodup;rw[SZ];exact(hk.filter _).imp_of_mem fun{a b} ha hb fH e=>fH (by
   have h1:=(hm a (OI.1 ha).1).1;have h2:=(hm b (OI.1 hb).1).1;rw[<-e]at h2;exact Ha s _ _ _ h1 h2)
 have l1:=Xb n1 (b:=(l.filter fun y=>decide (isi s.ix (s.hash y.1)=j)).map Prod.snd) fun p hY=>by
  obtain⟨x,hx,rfl⟩:=NY.1 hY;obtain⟨K,e1,e2,e3,-⟩:=h.lx.a1 j x hx;exact NY.2 ⟨(K,x.pl),OI.2 ⟨by rw[hl];exact OI.2 ⟨Eu e1,OH ⟨e1,e2⟩⟩,OH e3⟩,rfl⟩
 have l2:=Xb n2 (b:=(s.ix.getD j []).map C8.pl) fun p hY=>by
  obtain⟨y,hy,rfl⟩:=NY.1 hY;obtain⟨hy,xN⟩:=OI.1 hy;have xN:=PF xN;obtain⟨e1,e2⟩:=hm y hy;rcases h.lx.a2 _ _ e1 e2 with c|c|⟨x,c,e⟩
  ·rw[hp]at c;cases c
  ·have:=h.ri.nn (Eu e1);have c:y.2.1= -1:=c;have this:0<=y.2.1:=this;omega
  ·unfold C6 at c;rw[xN]at c;exact NY.2 ⟨x,c,e⟩
 rw[NL,NL]at l1 l2;omega
def Ci7(h:LV (-1) s)(ki:KI s)(ok:B9 s M)(hd:s.down=false)(ws:WS s k)(hp:s.pend=[])(h':LV (-1) t)(ki':KI t)(ok':B9 t N)(nV:t.down=false)(ws':WS t k')(lo:LO [] t)(ed:t.d=s.d)(esc:t.sc=s.sc):
  t.pend=[]/\ilen t.ix=ilen s.ix/\ ∀K,t.place K=s.place K:=by
 have cO:s.d.down=false:=by rw[<-ok.dn];exact hd
 have l1:=Af2 ws h.ri ok.dv cO;have l2:=Af2 ws' h'.ri (by rw[ed];exact ok.dv) (by rw[ed];exact cO);rw[ed]at l2;have eY:(M2 s.d).Pairwise fun x y=>x.1≠y.1:=(Af3 s.d).imp fun h=>h.2;have pP:t.hash=s.hash:=by funext K;unfold B0.hash;rw[esc]
 have hC:t.ix.length=s.ix.length:=by rw[h.nl,h'.nl,esc]
 have rC: ∀k,isi t.ix k=isi s.ix k:=fun k=>by unfold isi;rw[hC]
 have mJ:t.pend=[]:=by
  cases hq:t.pend with
  |nil=>rfl
  |cons p r=>
   exfalso;have mH:p∈t.pend:=by rw[hq];simp
   obtain⟨K,e1,e2,e3⟩:=lo.fu p mH;have hj:=ok.isi (s.hash K);have hjt:=ok'.isi (t.hash K);have hr:=h.rowlen ok hp l1 eY hj;have hg:=(ok.ixi.row hj).len;have sP:=ok'.ixi.row hjt;have n1:(p::(C6 t.ix (t.hash K)).map C8.pl).Nodup:=by
    rw[OW];refine⟨fun hm=>?_,?_⟩
    ·obtain⟨x,hx,e⟩:=NY.1 hm;exact h'.lx.a3 (isi t.ix (t.hash K)) x hx (by rw[e];exact mH)
    ·have h1:=sP.nd;unfold List.Nodup at h1⊢;rw[SZ]at h1⊢;exact h1.imp_of_mem fun ha hb fH e=>fH (h'.lx.uniq (Ha t) (j:=isi t.ix (t.hash K)) (j':=isi t.ix (t.hash K)) ha hb e).2
   have l3:=Xb n1 (b:=((M2 s.d).filter fun y=>decide (isi s.ix (s.hash y.1)=isi s.ix (s.hash K))).map Prod.snd) fun p' dC=>by
    have key: ∀K' q,K8 t.aL K'=some q->q∉t.kL->isi s.ix (s.hash K')=isi s.ix (s.hash K)->q∈((M2 s.d).filter fun y=>decide (isi s.ix (s.hash y.1)=isi s.ix (s.hash K))).map Prod.snd:=fun K' q c1 c2 c3=>
     NY.2 ⟨(K',q),OI.2 ⟨by rw[l2];exact OI.2 ⟨Eu c1,OH ⟨c1,c2⟩⟩,OH c3⟩,rfl⟩
    rcases OC.1 dC with rfl|dC
    ·exact key K _ e1 e2 rfl
    ·obtain⟨x,hx,rfl⟩:=NY.1 dC;obtain⟨K',c1,c2,c3,-⟩:=h'.lx.a1 (isi t.ix (t.hash K)) x hx;rw[rC,rC,pP]at c3;exact key K' _ c1 c2 c3
   rw[NU,NL,NL]at l3;rw[esc]at e3;unfold C6 at hg;omega
 refine⟨mJ,?_,fun K=>?_⟩
 ·have:t.ix.map List.length=s.ix.map List.length:=by
   refine UZ (by rw[NL,NL,hC]) fun j j1 j2=>?_;rw[NL]at j1 j2;rw[QG,QG];have r1:=h.rowlen ok hp l1 eY j2;have r2:=h'.rowlen ok' mJ l2 eY j1;rw[NX,NV j2]at r1;rw[NX,NV j1]at r2;simp only[rC,pP]at r2;have r1:(s.ix[j]).length=_:=r1;have r2:(t.ix[j]).length=_:=r2;rw[r1,r2]
  unfold ilen;rw[this]
 ·rw[Px,Px];have hm: ∀p,p∈K6 t K↔p∈K6 s K:=fun p=>by rw[h.plc_iff hp,h'.plc_iff mJ,<-l1,<-l2]
  have one: ∀{u:B0},KI u->(K6 u K).length<=1:=fun hu=>by
   have:=hu.pl K;unfold N9 at this;omega
  have c1:=one ki;have c2:=one ki';cases ha:K6 s K with
  |nil=>
   cases hb:K6 t K with
   |nil=>rfl
   |cons p r=>
    have:=(hm p).1 (by rw[hb];simp);rw[ha]at this;cases this
  |cons p r=>
   have hY:=(hm p).2 (by rw[ha];simp);cases hb:K6 t K with
   |nil=>rw[hb]at hY;cases hY
   |cons q r'=>
    rw[hb]at hY c2;have:r'=[]:=RG.1 (by simp at c2;simp[c2]);rw[this,NM]at hY;rw[hY];rfl
end
section
variable (L:B1) (key:ByteArray)
end
abbrev Eo:=Int×ByteArray×(B6×List UInt8)×Int×Int×Unit
def Wc(x:Eo):List Value:=[.i x.1,.w x.2.1,.slice x.2.2.1.1.a x.2.2.1.1.len x.2.2.1.1.cap,.i x.2.2.2.1,.i x.2.2.2.2.1]
def Wb(x:Eo):(Wc x).length=5:=rfl
structure Hv(L:B1)(v:B6)(l:List Eo):Prop where
 sl:Sl L v 5 (l.flatMap Wc)
 val: ∀x∈l,G0 L x.2.2.1.1 x.2.2.1.2
 rng: ∀x∈l,x.2.2.2.1<=9223372036854775807
def Hv.mono{l:List Eo}(h:Hv L v l)(hs: ∀p∈L,p∈R):Hv R v l:=⟨h.sl.mono hs,fun x hx=>Sl.mono (h.val x hx) hs,h.rng⟩
def Hv.len{l:List Eo}(h:Hv L v l):v.len=l.length:=h.sl.els_len Wb (by decide)
def Yh(l:List Eo)(most bytes:Int):Prop:=l.length<=most/\ ∀x∈l,x.2.1.size<=bytes/\x.2.2.1.2.length<=bytes
def Cv(x:W7)(s:B0)(a:Eo)(now:Int):B0:=
 if a.1=0 then(s.put a.2.1 a.2.2.1.2).1 else if a.1=1 then(s.get a.2.1).1 else if a.1=2 then(s.delete a.2.1).1 else if a.1=3 then s.flush.1 else if a.1=4 then s.tick now else
 if a.1=5 then s.dev (T3 s.d a.2.2.2.1 a.2.2.2.2.1)else if a.1=6 then(Bu x (Fm s.d) now).1.getD s else s
structure Mo(x:W7)(p:SP)(s:B0)(g:SG)(M:Nat)(k:Int):Prop where
 X:SX p s g
 iv:M5 s M
 wr:WR s k
 cfg:Dh x s.d
 sc:s.sc=Q6 x s.d
abbrev AZ(x:W7):Value:=.agg (ki11 x)
def Od{x:W7}(h:Dh x d)(e:d'.c=d.c):Dh x d':=by unfold Dh at*;rw[e];exact h
def BA(x:W7)(e:d'.c=d.c):Q6 x d'=Q6 x d:=by unfold Q6;rw[e]
def Rh(d:B8)(n k:Int):(T3 d n k).c=d.c/\(T3 d n k).bs=d.bs/\(T3 d n k).down=d.down/\(T3 d n k).torn=d.torn/\(T3 d n k).bytes=d.bytes:=by unfold T3;split<;>exact⟨rfl,rfl,rfl,rfl,rfl⟩
def M5.armed(h:M5 s M)(hn:n<=9223372036854775807)(k:Int):M5 (s.dev (T3 s.d n k)) M:=by
 obtain⟨e1,e2,e3,e4,-⟩:=Rh s.d n k;have ok:=h.ok;refine⟨{ok with dv:=Cs3 ok.dv hn,dn:=?_,few:=?_,cfg:=?_,ssl:=?_,ssd:=?_},h.q⟩
 ·exact ok.dn.trans e3.symm
 ·show(T3 s.d n k).torn.length+(if(T3 s.d n k).down=true then 0 else 1)<=1000;rw[e3,e4];exact ok.few
 ·exact e1.trans ok.cfg
 ·show s.ss.length=(T3 s.d n k).bs.length;rw[e2];exact ok.ssl
 ·show s.down=false-> ∀(i:Nat) b,(T3 s.d n k).bs[i]?=some b->_;rw[e2];exact ok.ssd
def Y4(p:SP)(s:B0)(g:SG):B1:=F5 p s g::(kO p s::(mO p g::(gO p g::(g.Ab++(D1 g.ns++(D1 g.on.toList++(g.pseg++(g.Aq++g.Ai))))))))
def Jy(p:SP)(s:B0)(g:SG)(R:B1):(SL p s g++R).Perm (g.Ad++(Y4 p s g++R)):=by unfold SL Y4;exact pc fun z=>by simp only[C3,D0];omega
abbrev LF(W:World)(x:Eo):Prop:=Q4 .i64 x.1/\x.2.1.size<=maxLen/\Mn W (fun b=>[bv b]) (fun _=>True) 1 x.2.2.1/\Q4 .i64 x.2.2.2.1/\Q4 .i64 x.2.2.2.2.1/\True
def Bj4{W:World}{a:B6}{l:List Eo}(w:Mn W Wc (LF W) 5 (a,l)):Hv (Gz W) a l:=⟨w.sl,fun x hx=>(w.all x hx).2.2.1.bytes,fun x hx=>(Rv (w.all x hx).2.2.2.1).2⟩
abbrev HH:=(Int×Int×Int×Int×Unit)×Int×Int×Int×Int×Int×Int×Int×Unit
def scR(a0:HH):W7:=(a0.1.1,a0.1.2.1,a0.1.2.2.1,a0.1.2.2.2.1,a0.2.1,a0.2.2.1,a0.2.2.2.1,a0.2.2.2.2.1,a0.2.2.2.2.2.1,a0.2.2.2.2.2.2.1,a0.2.2.2.2.2.2.2.1,())
abbrev Bi7(a0:HH):Prop:=(Q4 .i64 a0.1.1/\Q4 .i64 a0.1.2.1/\Q4 .i64 a0.1.2.2.1/\Q4 .i64 a0.1.2.2.2.1/\True)/\Q4 .i64 a0.2.1/\Q4 .i64 a0.2.2.1/\Q4 .i64 a0.2.2.2.1/\Q4 .i64 a0.2.2.2.2.1/\Q4 .i64 a0.2.2.2.2.2.1/\Q4 .i64 a0.2.2.2.2.2.2.1/\Q4 .i64 a0.2.2.2.2.2.2.2.1/\True
def Ab9(nF:DB d){x:W7}(h:Bu x d now=(some s,0)):F4 s:=by
 unfold Bu at h;split at h
 ·split at h
  ·cases h
  ·cases hs:Gq (Q6 x d) d now with
   |none=>rw[hs]at h;cases h
   |some s2=>
    rw[hs]at h;obtain rfl:s2=s:=NI (congrArg Prod.fst h);unfold Gq at hs;cases hr:Bx (V6 d) ((V7 d).map E2.b)with
    |none=>rw[hr]at hs;cases hs
    |some r=>
     rw[hr]at hs;have hs:=NI hs;have hk: ∀(l:List LE) (s:B0),F4 s->F4 (T8 l s):=fun l=>by
      induction l with
      |nil=>exact fun s h=>h
      |cons y t ih=>exact fun s h=>ih (s.list y.1 y.2) (h.congr rfl rfl rfl)
     rw[<-hs];refine hk _ _ ⟨nF,fun q hq=>?_,fun o ho=>by cases ho⟩;obtain⟨y,hy,rfl⟩:=NY.1 (show q∈(G4 d).map Kh from hq);exact AX nF hy
 ·cases h
def FB(c:Bh):DB (fresh c):=fun x k h=>by
 obtain⟨h0,hi,e⟩:=W2 h;have hm:k∈(fresh c).bs:=by rw[<-e];exact NO hi
 have hk:k=⟨List.replicate c.P (blk c.S),0,0,false⟩:=PW hm;have hp: ∀(q:Nat) pg,k.pages[q]?=some pg->(C1 pg).2.2≠0:=fun q pg bI=>by
  rw[hk]at bI;have:pg∈List.replicate c.P (blk c.S):=QI bI;rw[PW this];exact Oi _
 exact⟨fun q pg bI ok=>absurd ok (hp q pg bI),fun q pg _ bI=>hp q pg bI⟩
def Bj6{x:W7}{a:Eo}(h6:a.1≠6)(hd:(Cv x s a now).down=false):s.down=false:=by
 cases hs:s.down with
 |false=>rfl
 |true=>
  have ha: ∀key,s.asked key≠0:=fun key=>by unfold B0.asked;rw[NE hs];decide
  have:(Cv x s a now).down=true:=by
   unfold Cv
   repeat' split
   ·unfold B0.put;rw[NE (ha _)];exact hs
   ·unfold B0.get;rw[NE (ha _)];exact hs
   ·unfold B0.delete;rw[NE (ha _)];exact hs
   ·unfold B0.flush;rw[NE hs];exact hs
   ·unfold B0.tick;rw[NE hs];exact hs
   ·exact hs
   ·exact hs
  rw[this]at hd;cases hd
def Bj7{x:W7}{a:Eo}(iv:M5 s M)(h:F4 s)(h6:a.1≠6):F4 (Cv x s a now):=by
 unfold Cv
 repeat' split
 ·exact h.put iv _ _
 ·exact h.get _
 ·exact h.delete _
 ·exact h.flush iv
 ·unfold B0.tick;split
  ·exact h
  ·exact h.congr rfl rfl rfl
 ·obtain⟨e1,e2,-⟩:=Rh s.d a.2.2.2.1 a.2.2.2.2.1;exact⟨h.db.congr e2 e1,fun r hr=>(h.rs r hr).congr e2,fun o ho=>⟨(h.op o ho).1.congr e2,(h.op o ho).2⟩⟩
 ·exact h
section
variable {s:B0} {M:Nat} {k:Int}
def KI.armed(h:KI s)(n keep:Int):KI (s.dev (T3 s.d n keep)):=by
 obtain⟨e1,e2,e3,e4,e5⟩:=Rh s.d n keep;have hb: ∀x,E7 (T3 s.d n keep) x=E7 s.d x:=fun x=>by unfold E7;rw[e2]
 have hf:Ce s (s.dev (T3 s.d n keep)):=fun row hr x hx _=>(Yi e1 (by rw[e2]) e3 (hb _)).symm;refine⟨⟨h.sb.db.congr e2 e1,fun r hr=>(h.sb.rs r hr).congr e2,fun o ho=>⟨(h.sb.op o ho).1.congr e2,(h.sb.op o ho).2⟩⟩,fun o ho=>?_,h.ix,h.uq,fun K=>OK (hf.cnt rfl (fun k=>RT _) rfl K) (h.pl K),h.fit⟩;obtain⟨⟨kb,h1,h2⟩,h3⟩:=h.op o ho;exact⟨⟨kb,(hb o.b).trans h1,h2⟩,h3⟩
def LV.armed(h:LV B s)(n keep:Int):LV B (s.dev (T3 s.d n keep)):=by
 obtain⟨e1,e2,e3,e4,e5⟩:=Rh s.d n keep;have hb: ∀x,E7 (T3 s.d n keep) x=E7 s.d x:=fun x=>by unfold E7;rw[e2]
 have hl:(T3 s.d n keep).bs.length=s.d.bs.length:=by rw[e2]
 refine h.same ⟨fun r hr=>⟨(h.ri.rs r hr).1,?_⟩,fun o ho=>?_⟩ (Fy fun r _=>Qv e1 hl e3 (hb _) _ _) (Fy fun r _=>Qh e1 hl e3 (hb _) _) rfl rfl rfl (fun p hp=>hp) h.so
 ·show W3 (T3 s.d n keep) r.b.toNat=_;rw[So e1 hl e3 (h.ri.rs r hr).1 (hb _)];exact(h.ri.rs r hr).2
 ·obtain⟨kb,h1,h2⟩:=h.ri.op o ho;exact⟨kb,(hb o.b).trans h1,h2⟩
theorem Af6{d:B8}: ∀(l:List LE) {s:B0} {M:Nat},(∀x∈l,Zo d x)->(l.Pairwise fun x y=>x.1≠y.1)->KI s->B9 s M->s.d=d->s.op=none->(∀x∈l,x.2.2.2.1<=s.epoch)->(∀x∈l,N9 s x.1=0)->KI (T8 l s)
 |[],s,M,_,_,h,_,_,_,_,_=>h
 |x::r,s,M,hl,hp,h,ok,hd,ho,he,hc=>by
  have hx:=hl x (by simp);obtain⟨p1,p2⟩:=QW.1 hp;obtain⟨a1,-,a3⟩:=h.listed ok (key:=x.1) (q:=x.2) (by rw[hd];exact hx.fetch) (hc x (by simp)) ⟨he x (by simp),fun o bH=>by rw[ho]at bH;cases bH⟩;have ok2:=ok.list x.1 x.2 ⟨by have:=hx.page;exact Kd (by omega),he x (by simp)⟩;exact Af6 r (fun y hy=>hl y (NN _ hy)) p2 a1 ok2 hd ho (fun y hy=>he y (NN _ hy)) fun y hy=>by
   have h1:=a3 y.1 (fun e=>p1 y hy e.symm);have h2:=hc y (NN _ hy);show N9 (s.list x.1 x.2) y.1=0;omega
def DF(dv:G3 d)(aG:d.down=false)(bN:d.torn.length<=999)(nF:DB d){x:W7}(hx:Dh x d){s:B0}(h:Bu x d now=(some s,0)):KI s:=by
 have hS:=dv.c.s;unfold Bu at h;rw[NE hx,ND (by rw[aG];decide)]at h;cases hs:Gq (Q6 x d) d now with
 |none=>rw[hs]at h;cases h
 |some s2=>
  rw[hs]at h;obtain rfl:s2=s:=NI (congrArg Prod.fst h);unfold Gq at hs;cases hr:Bx (V6 d) ((V7 d).map E2.b)with
  |none=>rw[hr]at hs;cases hs
  |some r=>
   rw[hr]at hs;rw[<-NI hs];have aC:=AL (now:=now) dv (sc:=Q6 x d) rfl aG bN (GQ hx) hr;have aD: ∀k2,C6 (Cr (Q6 x d) d now r.1).ix k2=[]:=fun k2=>by
    show(List.replicate _ []).getD _ []=[];rw[NX,SE];split<;>rfl
   have oS: ∀K,N9 (Cr (Q6 x d) d now r.1) K=0:=fun K=>by
    unfold N9 K6;rw[aD];rfl
   have dL:F4 (Cr (Q6 x d) d now r.1):=⟨nF,fun q hq=>by
    obtain⟨y,hy,rfl⟩:=NY.1 (show q∈(G4 d).map Kh from hq);exact AX nF hy,fun o ho=>by cases ho⟩
   have mU:KI (Cr (Q6 x d) d now r.1):=by
    refine⟨dL,fun o ho=>(by cases ho),fun row hrw y hy=>?_,SJ,fun K=>by rw[oS K];decide,?_⟩
    ·have:row=[]:=PW hrw;rw[this]at hy;cases hy
    ·have h3:=hx.2.2;have h1:=hx.1;simp only[QC]at h1;unfold Nx at h3;simp only[PO,QR]at h3;have h4:=h3.2;rw[<-h1.2.1,<-h1.2.2.1]at h4;unfold E0 at h4;rw[NE (by omega)]at h4;exact h4
   refine Af6 (M2 d) (fun y hy=>Tr hy) ((Af3 d).imp fun h=>h.2) mU aC rfl rfl (fun y hy=>?_) fun y _=>oS y.1;obtain⟨i,hi,-,e2,-⟩:=Cf6 (Tr hy);have:=(To (G4 d) 0).2 _ (NO hi);rw[e2]at this;exact this
def Bp0(s:B0)(key:ByteArray)(val:List UInt8):(s.put key val).2=11->(s.put key val).1.down=true:=by
 unfold B0.put;split
 ·unfold B0.asked;split
  ·exact fun _=>by assumption
  ·split
   ·exact fun h=>absurd (show(2:Int)=11 from h) (by decide)
   ·exact fun h=>absurd (show(0:Int)=11 from h) (by decide)
 ·split
  ·exact fun h=>absurd (show(4:Int)=11 from h) (by decide)
  ·dsimp only;split
   ·exact fun h=>absurd (show(14:Int)=11 from h) (by decide)
   ·unfold B0.putYoung;split
    ·split
     ·exact Aw5 _ _ _
     ·exact Rz _ _
    ·exact Rz _ _
theorem Al8: ∀(j:Nat) (s:B0),(B0.flushes j s).2=11->(B0.flushes j s).1.down=true
 |0,s=>fun h=>absurd (show(0:Int)=11 from h) (by decide)
 |j+1,s=>by
  unfold B0.flushes;split
  ·exact fun h=>absurd (show(0:Int)=11 from h) (by decide)
  ·dsimp only;split
   ·exact Wh 1 (s.mu+1) s
   ·split
    ·exact fun h=>absurd (show(0:Int)=11 from h) (by decide)
    ·split
     ·intro h;exfalso;dsimp only at h;unfold K9 at h;split at h<;>cases h
     ·split
      ·exact Zx _ _ _
      ·exact Al8 j _
def Ci6(s:B0):s.flush.2=11->s.flush.1.down=true:=by
 unfold B0.flush;split
 ·exact fun _=>by assumption
 ·exact Al8 _ _
theorem Al9: ∀(j:Nat) (s:B0),s.pend.length<j->48<=E0 s.sc.c.S->(B0.flushes j s).2=0->(B0.flushes j s).1.pend=[]
 |0,s=>fun h=>by omega
 |j+1,s=>by
  intro hj hr;unfold B0.flushes;split
  ·rename_i hp;exact fun _=>hp
  ·have h1:Pk s (s.roomy 1).1:=BG 1 (s.mu+1) s;have h2:(s.roomy 1).1.sc=s.sc:=(Nc 1 (s.mu+1) s).2.2;unfold Pk at h1;dsimp only;generalize s.roomy 1=w at h1 h2;split
   ·exact fun h=>absurd h (by assumption)
   ·split
    ·rename_i hn;intro _;rw[h2]at hn;exact RG.1 (show w.1.pend.length=0 by omega)
    ·rename_i hn;split
     ·exact fun h=>absurd h (by assumption)
     ·have hm:=Mv.write w.1 3 [(K9 (w.1.pend.take (min w.1.pend.length (E0 w.1.sc.c.S/6).toNat))).1];generalize w.1.write 3 [(K9 (w.1.pend.take (min w.1.pend.length (E0 w.1.sc.c.S/6).toNat))).1]=z at hm;split
      ·exact fun h=>absurd h (by assumption)
      ·refine Al9 j _ ?_ ?_
       ·show(z.1.pend.drop _).length<j;rw[OJ,hm.pend];omega
       ·show 48<=E0 z.1.sc.c.S;rw[hm.sc,h2];exact hr
structure PI(s:B0):Prop where
 kl:s.down=false->KI s/\LV (-1) s
 sb:F4 s
def PI.act{c:W7}{p:SP}{g:SG}(h:PI s)(hl:Mo c p s g M k)(hk:k<=900){a:Eo}(hv:a.2.2.1.2.length<=700)(now:Int):PI (Cv c s a now):=by
 by_cases h6:a.1=6
 ·obtain⟨⟨us,w1,-⟩,w2⟩:=hl.wr.restarted;obtain⟨s2,e1,-⟩:=Xa w1 (Wj hl.iv.ok.dv) rfl w2 (Od hl.cfg rfl) now;have es:Cv c s a now=s2:=by
   unfold Cv;rw[ND (by omega),ND (by omega),ND (by omega),ND (by omega),ND (by omega),ND (by omega),NE h6,e1];rfl
  rw[es];have nF:DB (Fm s.d):=h.sb.db.congr (d':=Fm s.d) rfl rfl;have bN:(Fm s.d).torn.length<=999:=by
   unfold TN at w2;rw[show(Fm s.d).down=false from rfl,ND (by decide)]at w2;omega
  exact⟨fun _=>⟨DF (Wj hl.iv.ok.dv) rfl bN nF (Od hl.cfg rfl) e1,(DE (Wj hl.iv.ok.dv) rfl bN nF w1 (Od hl.cfg rfl) e1).1⟩,Ab9 nF e1⟩
 ·refine⟨fun fP=>?_,Bj7 hl.iv h.sb h6⟩;have hd:=Bj6 h6 fP;obtain⟨mU,oK⟩:=h.kl hd;have ws:=hl.wr.1 hd;have gl: ∀{t:B0},Hy s t->KI t/\LV (-1) t:=fun h=>⟨h.1,h.2 oK⟩;have no: ∀{t:B0} {e:Int},(e=11->t.down=true)->t.down=false-> ¬e=11:=fun h1 h2 h3=>by rw[h1 h3]at h2;cases h2
  unfold Cv at fP⊢;split at fP
  ·rename_i k0;rw[NE k0];by_cases hk:1<=a.2.1.size/\a.2.1.size<=255
   ·exact gl ((mU.put ws hl.iv hd hk (val:=a.2.2.1.2) (by omega)).resolve_left (no (Bp0 _ _ _) fP))
   ·unfold B0.put;rw[NE]
    ·exact⟨mU,oK⟩
    ·unfold B0.asked;rw[ND (by rw[hd];decide),NE (by omega)];decide
  ·rename_i k0;rw[ND k0];split at fP
   ·rename_i k1;rw[NE k1];exact⟨mU.get hl.iv.ok _,oK.get hl.iv.ok _⟩
   ·rename_i k1;rw[ND k1];split at fP
    ·rename_i k2;rw[NE k2];exact⟨mU.delete hl.iv.ok _,oK.delete hl.iv.ok _⟩
    ·rename_i k2;rw[ND k2];split at fP
     ·rename_i k3;rw[NE k3];have fA:s.flush=B0.flushes (s.pend.length+1) s:=by unfold B0.flush;rw[ND (by rw[hd];decide)]
      have:=KI.flushes (s.pend.length+1) mU ws hl.iv hd;rw[<-fA]at this;exact gl (this.resolve_left (no (Ci6 s) fP))
     ·rename_i k3;rw[ND k3];split
      ·exact⟨mU.tick _,oK.tick _⟩
      ·split
       ·exact⟨mU.armed _ _,oK.armed _ _⟩
       ·exact⟨mU,oK⟩
def Av8(hd:s.down=false)(hk:1<=key.size/\key.size<=255):s.asked key=0:=by
 unfold B0.asked;rw[ND (by rw[hd];decide),ND (by omega)]
def Cn1{q:List QD}(h:key∉q.map Prod.fst):T2 q key=none:=by
 unfold T2;rw[RR];intro e he hk;exact h (by rw[PF hk];exact OQ he)
def Aj8(h:KI s)(hd:s.down=false)(hk:1<=key.size/\key.size<=255):(s.has key=2↔(s.place key).isSome=true)/\ ∀p,s.place key=some p->s.peek key=((C7 s.d p).2.1,0):=by
 have ha:=Av8 hd hk;have hy: ∀p,s.place key=some p->T2 s.q key=none:=fun p hp=>by
  refine Cn1 fun hm=>?_;have hc:=h.pl key;unfold N9 at hc;rw[Px]at hp;have:=WI (ZH hp);rw[NE hm]at hc;omega
 constructor
 ·unfold B0.has;rw[ND (by simpa using ha)];cases hp:s.place key with
  |some p=>rw[hy p hp];simp
  |none=>split<;>simp
 ·intro p hp;unfold B0.peek;rw[ND (by simpa using ha),hy p hp,hp]
theorem Am0: ∀(j:Nat) (s:B0),(B0.flushes j s).2≠11->(B0.flushes j s).1.down=s.down
 |0,s=>fun _=>rfl
 |j+1,s=>by
  unfold B0.flushes;split
  ·exact fun _=>rfl
  ·have h1:(s.roomy 1).2≠11->(s.roomy 1).1.down=s.down:=Sn 1 (s.mu+1) s;dsimp only;generalize s.roomy 1=w at h1;split
   ·exact h1
   ·rename_i h0;have h1:=h1 (Et h0);split
    ·exact fun _=>h1
    ·split
     ·exact fun _=>h1
     ·have h2:=Rt w.1 3 [(K9 (w.1.pend.take (min w.1.pend.length (E0 w.1.sc.c.S/6).toNat))).1];generalize w.1.write 3 [(K9 (w.1.pend.take (min w.1.pend.length (E0 w.1.sc.c.S/6).toNat))).1]=z at h2;split
      ·exact fun h=>(h2 h).trans h1
      ·rename_i h3;exact fun h=>(Am0 j _ h).trans ((h2 (Et h3)).trans h1)
def Ct3(iv:M5 s M)(wr:WR s k)(kl:s.down=false->KI s/\LV (-1) s)(sb:F4 s)(h0:s.flush.2=0):s.flush.1.down=false/\KI s.flush.1/\LV (-1) s.flush.1/\s.flush.1.pend=[]/\WS s.flush.1 k/\F4 s.flush.1:=by
 have hd:s.down=false:=by
  unfold B0.flush at h0;split at h0
  ·cases h0
  ·rename_i hd;simpa using hd
 obtain⟨ki,lv⟩:=kl hd;have fA:s.flush=B0.flushes (s.pend.length+1) s:=by unfold B0.flush;rw[ND (by rw[hd];decide)]
 have hS:=iv.ok.S;have hr:=Wi iv.ok;have hZ:(B0.flushes (s.pend.length+1) s).2≠11:=by rw[<-fA,h0];decide
 have h1:=(KI.flushes (s.pend.length+1) ki (wr.1 hd) iv hd).resolve_left hZ;have h2:=Al9 (s.pend.length+1) s (Nat.lt_succ_self _) (by show 48<=E0 (H2 s.sc.c).2.2.1;rw[hr];omega) (by rw[<-fA];exact h0);have h3:=(Am0 _ _ hZ).trans hd;have h4:=wr.flush iv;have h5:=sb.flush iv;rw[fA]at h4 h5⊢;exact⟨h3,h1.1,h1.2 lv,h2,h4.1 h3,h5⟩
theorem Af4: ∀(l:List LE) (s:B0),(T8 l s).q=s.q
 |[],s=>rfl
 |x::r,s=>Af4 r (s.list x.1 x.2)
def Bt0{x:W7}{s:B0}(h:Bu x d now=(some s,0)):s.q=[]:=by
 unfold Bu at h;split at h
 ·split at h
  ·cases h
  ·cases hs:Gq (Q6 x d) d now with
   |none=>rw[hs]at h;cases h
   |some s2=>
    rw[hs]at h;obtain rfl:s2=s:=NI (congrArg Prod.fst h);unfold Gq at hs;cases hr:Bx (V6 d) ((V7 d).map E2.b)with
    |none=>rw[hr]at hs;cases hs
    |some r=>
     rw[hr]at hs;rw[<-NI hs];exact Af4 _ _
 ·cases h
def Bj1{t:B0}(ki:KI s)(hd:s.down=false)(ki':KI t)(nV:t.down=false)(hq:t.q=[])(ed:t.d=s.d)(hp: ∀K,t.place K=s.place K)(key:ByteArray):(s.has key=2↔t.has key=2)/\(s.has key=2->(t.peek key).2=0/\(t.peek key).1=(s.peek key).1)/\(s.has key≠2->(t.peek key).2≠0):=by
 by_cases hk:1<=key.size/\key.size<=255
 ·obtain⟨a1,a2⟩:=Aj8 ki hd hk;obtain⟨b1,b2⟩:=Aj8 ki' nV hk;rw[hp]at b1 b2;refine⟨a1.trans b1.symm,fun h=>?_,fun h=>?_⟩
  ·obtain⟨p,tZ⟩:=Option.isSome_iff_exists.1 (a1.1 h);rw[a2 p tZ,b2 p tZ,ed];exact⟨rfl,rfl⟩
  ·have hn:s.place key=none:=by
    cases hc:s.place key with
    |none=>rfl
    |some p=>exact absurd (a1.2 (by rw[hc];rfl)) h
   have ha:=Av8 nV hk;unfold B0.peek;rw[ND (by simpa using ha),hq,hp,hn];exact show(8:Int)≠0 by decide
 ·have no: ∀{u:B0},u.down=false->u.asked key=2:=fun hu=>by unfold B0.asked;rw[ND (by rw[hu];decide),NE (by omega)]
  have hs:s.has key=0:=by unfold B0.has;rw[NE (by rw[no hd];decide)]
  have ht:t.has key=0:=by unfold B0.has;rw[NE (by rw[no nV];decide)]
  rw[hs,ht];refine⟨Iff.rfl,fun h=>absurd h (by decide),fun _=>?_⟩;unfold B0.peek;rw[NE (by rw[no nV];decide),no nV];exact show(2:Int)≠0 by decide
end
def lt(x y:ByteArray):Bool:=Op.bytesLess x.data.toList y.data.toList
theorem Au1: ∀l:List UInt8,Op.bytesLess l l=false
 |[]=>rfl
 |a::l=>by
  unfold Op.bytesLess;rw[Au1 l];simp
theorem Au0: ∀a b c:List UInt8,Op.bytesLess a b=true->Op.bytesLess b c=true->Op.bytesLess a c=true
 |_,_,[],_,h=>by unfold Op.bytesLess at h;cases h
 |[],_,_::_,_,_=>rfl
 |_::_,[],_::_,h,_=>by simp[Op.bytesLess]at h
 |x::a,y::b,z::c,h1,h2=>by
  unfold Op.bytesLess at h1 h2⊢;simp only[TP,QR,PO,beq_iff_eq]at h1 h2⊢;rcases h1 with h1|⟨rfl,h1⟩
  ·rcases h2 with h2|⟨rfl,h2⟩
   ·exact .inl (UInt8.lt_trans h1 h2)
   ·exact .inl h1
  ·rcases h2 with h2|⟨rfl,h2⟩
   ·exact .inl h2
   ·exact .inr ⟨rfl,Au0 a b c h1 h2⟩
theorem At9: ∀a b:List UInt8,Op.bytesLess a b=true\/a=b\/Op.bytesLess b a=true
 |[],[]=>.inr (.inl rfl)
 |[],_::_=>.inl rfl
 |_::_,[]=>.inr (.inr rfl)
 |x::a,y::b=>by
  have h:=At9 a b;have hx:x<y\/x=y\/y<x:=by
   rcases Nat.lt_trichotomy x.toNat y.toNat with h|h|h
   ·exact .inl (ZI.2 h)
   ·exact .inr (.inl (UQ.1 h))
   ·exact .inr (.inr (ZI.2 h))
  unfold Op.bytesLess;rcases hx with h1|rfl|h1
  ·left;simp[h1]
  ·rcases h with h|rfl|h
   ·left;simp[h]
   ·right;left;rfl
   ·right;right;simp[h]
  ·right;right;simp[h1]
def Bx2(x:ByteArray):lt x x=false:=Au1 _
def lt_trans{x y z:ByteArray}(h1:lt x y=true)(h2:lt y z=true):lt x z=true:=Au0 _ _ _ h1 h2
def Ae7(x y:ByteArray):lt x y=true\/x=y\/lt y x=true:=by
 rcases At9 x.data.toList y.data.toList with h|h|h
 ·exact .inl h
 ·refine .inr (.inl ?_);cases x;cases y;simp only at h;exact congrArg ByteArray.mk (XG.1 h)
 ·exact .inr (.inr h)
def le(x y:ByteArray):Prop:=lt y x=false
def le_of_lt{x y:ByteArray}(h:lt x y=true):le x y:=by
 unfold le;cases h2:lt y x with
 |false=>rfl
 |true=>have:=lt_trans h h2;rw[Bx2]at this;cases this
def le_trans{x y z:ByteArray}(h1:le x y)(h2:le y z):le x z:=by
 unfold le at*;cases h:lt z x with
 |false=>rfl
 |true=>
  rcases Ae7 y z with h3|rfl|h3
  ·rw[lt_trans h3 h]at h1;cases h1
  ·rw[h]at h1;cases h1
  ·rw[h3]at h2;cases h2
def By9{x y:ByteArray}(h1:le x y)(h2:le y x):x=y:=by
 rcases Ae7 x y with h|h|h
 ·unfold le at h2;rw[h]at h2;cases h2
 ·exact h
 ·unfold le at h1;rw[h]at h1;cases h1
abbrev BL:=List ByteArray
variable{l l':BL}
def ga(l:BL)(i:Nat):ByteArray:=l.getD i ⟨#[]⟩
def Nv(h:i<l.length):ga l i=l[i]:=by simp[ga,NX,h]
def sw(l:BL)(i j:Nat):BL:=(l.set i (ga l j)).set j (ga l i)
def Bb5(l:BL)(i j:Nat):(sw l i j).length=l.length:=by simp[sw]
def JN(hi:i<l.length)(hj:j<l.length)(k:Nat):ga (sw l i j) k=if k=j then ga l i else if k=i then ga l j else ga l k:=by
 unfold sw;by_cases h1:k=j
 ·subst h1;rw[NE rfl];simp[ga,NX,hj]
 ·rw[ND h1];by_cases h2:k=i
  ·subst h2;rw[NE rfl];have h3: ¬j=k:=fun e=>h1 e.symm;simp[ga,NX,RX,hi,h3]
  ·rw[ND h2];have h3: ¬j=k:=fun e=>h1 e.symm;have h4: ¬i=k:=fun e=>h2 e.symm;simp[ga,NX,RX,h3,h4]
def Bb6(hi:i<l.length)(hj:j<l.length):(l.set j (ga l i)).set i (ga l j)=sw l i j:=by
 unfold sw;by_cases h:i=j
 ·subst h;rfl
 ·exact List.set_comm _ _ (fun e=>h e.symm)
theorem Bz3:LawfulBEq ByteArray:={eq_of_beq:=fun{a b} h=>by rw[Zg]at h;simpa using h,rfl:=fun{a}=>by rw[Zg];simp}
instance lawBAi:LawfulBEq ByteArray:=Bz3
def Bb4(hi:i<l.length)(hj:j<l.length):(sw l i j).Perm l:=by
 rw[ON];intro z;unfold sw;rw[List.count_set (by simpa using hj),List.count_set hi,Nv hi,Nv hj];have h1:(l.set i l[j])[j]'(by simpa using hj)=l[j]:=by
  rw[List.getElem_set];split<;>rfl
 rw[h1];have hc: ∀k (hk:k<l.length),l[k]=z->1<=l.count z:=fun k hk h=>by
  rw[<-h];exact List.count_pos_iff.2 (NO hk)
 have e1:=hc i hi;have e2:=hc j hj;simp only[beq_iff_eq];by_cases a:l[i]=z
 ·by_cases b:l[j]=z
  ·simp only[a,b,if_true];have:=e1 a;omega
  ·simp only[a,b,if_true,if_false];have:=e1 a;omega
 ·by_cases b:l[j]=z
  ·simp only[a,b,if_true,if_false];have:=e2 b;omega
  ·simp only[a,b,if_false];omega
structure Sg(a b:Nat)(l l':BL):Prop where
 len:l'.length=l.length
 out: ∀k,k<a\/b<=k->ga l' k=ga l k
 perm:l'.Perm l
def Sg.refl(a b:Nat)(l:BL):Sg a b l l:=⟨rfl,fun _ _=>rfl,NH _⟩
def Sg.trans{b:Nat}{l'':BL}(h1:Sg a b l l')(h2:Sg a b l' l''):Sg a b l l'':=⟨h2.len.trans h1.len,fun k hk=>(h2.out k hk).trans (h1.out k hk),h2.perm.trans h1.perm⟩
def Sg.swap{b:Nat}(hi:i<l.length)(hj:j<l.length)(h1:a<=i)(h2:i<b)(h3:a<=j)(h4:j<b):Sg a b l (sw l i j):=
 ⟨Bb5 l i j,fun k hk=>by rw[JN hi hj,ND (by omega),ND (by omega)],Bb4 hi hj⟩
def Dk(l:BL)(a b:Nat):Prop:= ∀i j,a<=i->i<j->j<b->le (ga l i) (ga l j)
def Dk.nil(l:BL){b:Nat}(h:b<=a+1):Dk l a b:=fun i j h1 h2 h3=>by omega
def Dk.sub{b c d:Nat}(h:Dk l a b)(h1:a<=c)(h2:d<=b):Dk l c d:=fun i j e1 e2 e3=>h i j (by omega) e2 (by omega)
def Bd4(hp:l.Perm l')(h1:Dk l 0 l.length)(h2:Dk l' 0 l'.length):l=l':=by
 have pw: ∀m:BL,Dk m 0 m.length->m.Pairwise le:=fun m hm=>by
  rw[TL];intro i j hi hj nT;have:=hm i j (by omega) nT hj
  rwa [Nv hi,Nv hj]at this
 exact hp.eq_of_pairwise (fun a b _ _ h1 h2=>By9 h1 h2) (pw l h1) (pw l' h2)
def Sc(s:ByteArray):List Value:=[.w s]
def Kf(s:ByteArray):(Sc s).length=1:=rfl
abbrev SO(v:B6)(l:BL)(seg:B1):Prop:=C5 v 1 9 (l.flatMap Sc) seg
def SO.len(o:SO v l seg):v.len=l.length:=(C5.sl o).els_len Kf (by decide)
def SO.ld(o:SO v l seg)(hs: ∀p∈seg,p∈L){b:Addr}(hb:v.a=some b){n:Nat}(hn:n<l.length):C0 (b.add (n*1)) [.w (ga l n)] L:=by
 obtain⟨a,ha,hl⟩:=(C5.sl o).el Kf (by decide) hn;rw[hb]at ha;obtain rfl:=NI ha;rw[Nv hn];exact hl.mono hs
def Ut(o:SO v l seg){i:Int}{n:Nat}(hi:i=n)(hn:n<l.length){k:Addr->HP}(hk: ∀b,v.a=some b->k (b.add (n*1)) L):M4 v.a v.len i 1 k L:=by
 subst hi;obtain⟨a,ha,hl⟩:=(C5.sl o).el Kf (by decide) hn;refine B7 ha (H7 (by omega) (by have:=o.len;omega) ?_);rw[NK];exact hk a ha
def SO.st{Y:B1}(o:SO v l seg){b:Addr}(hb:v.a=some b){n:Nat}(hn:n<l.length)(x:ByteArray)(hL:L.Perm (seg++Y)){k:HP}(hk: ∀seg' L',L'.Perm (seg'++Y)->SO v (l.set n x) seg'->k L'):st (b.add (n*1)) [.w x] k L:=
 Vt Kf (by decide) o hb hn x hL hk
def Om(a b:Nat)(v:B6)(l:BL)(R:B1)(Q:BL->Value->Prop)(r:Value)(L':B1):Prop:= ∃l' seg',L'=seg'++R/\SO v l' seg'/\Sg a b l l'/\Q l' r
def Om.mk{b:Nat}{L':B1}{Q:BL->Value->Prop}{r:Value}(hp:L'.Perm (seg++R))(o:SO v l' seg)(s:Sg a b l l')(q:Q l' r):HL.Ends (Om a b v l R Q) r L':=.drop (A:=seg++R) (J:=[]) ⟨l',seg,rfl,o,s,q⟩ (by simpa using hp)
def Cb5(L:B1)(x:ByteArray):Reads PP 229 #[.w x] L (.b false):=by
 unfold Reads;refine(c229 x).c ?_;exact .of ⟨by simp,rfl⟩
def By5(L:B1)(x y:ByteArray):Reads PP 182 #[.w x,.w y] L (.b (lt x y)):=by
 unfold Reads;refine(c182 x y).c ?_;refine C4 (Cb5 L x) (false,()) rfl (D8 rfl (.of ⟨?_,rfl⟩));rw[Re,Re];rfl
def Cc0(v:B6)(l:BL)(seg R:B1)(o:SO v l seg)(a b:Nat)(fH:a<=b)(hb:b<=l.length)(hl:l.length<=1000000):
  CallF PP 176 #[.slice v.a v.len v.cap,.i a,.i b] (seg++R) (Om a b v l R fun l' r=>r= .t #[]/\Dk l' a b):=by
 refine(c176 v a b).c ?_;refine H3 (by omega) ?_;refine G1 (fun z' z L'=> ∃(i:Nat) (l1:BL) (sg:B1),z=((i:Int),())/\z'=b+1-i/\a<i/\i<=max (a+1) b/\Sg a b l l1/\Dk l1 a i/\L'.Perm (sg++R)/\SO v l1 sg) (b+1-(a+1))
  ⟨a+1,l,seg,rfl,rfl,by omega,by omega,Sg.refl _ _ _,Dk.nil _ (by omega),NH _,o⟩ ?_
 rintro z' z L1 ⟨i,l1,sg,rfl,rfl,hi1,eZ,hs,gC,hp,o1⟩;dsimp only;have fF:=hs.len;refine D6 (fun(hO:(i:Int)<b)=>?_) (fun(aM: ¬(i:Int)<b)=>Om.mk hp o1 hs ⟨rfl,gC.sub (by omega) (by omega)⟩);have rH:i<b:=by omega
 have next: ∀(l2:BL) (sg' L':B1),L'.Perm (sg'++R)->SO v l2 sg'->Sg a b l l2->Dk l2 a (i+1)->
   ∃k',k'<b+1-i/\ ∃(i':Nat) (l1:BL) (sg:B1),((((i:Int)+1:Int),()):D2 [lI])=((i':Int),())/\k'=b+1-i'/\a<i'/\i'<=max (a+1) b/\Sg a b l l1/\Dk l1 a i'/\L'.Perm (sg++R)/\SO v l1 sg:=
  fun l2 sg' L' h1 h2 h3 h4=>⟨b+1-(i+1),by omega,i+1,l2,sg',rfl,rfl,by omega,by omega,h3,h4,h1,h2⟩
 refine G1 (fun z' z L'=> ∃(j:Nat) (l2:BL) (sg:B1),z=((j:Int),())/\z'=j+1/\a<=j/\j<=i/\Sg a b l l2/\(∀p q,a<=p->p<q->q<=i->q≠j->le (ga l2 p) (ga l2 q))/\L'.Perm (sg++R)/\SO v l2 sg) (i+1)
  ⟨i,l1,sg,rfl,rfl,by omega,by omega,hs,fun p q h1 h2 h3 h4=>gC p q h1 h2 (by omega),hp,o1⟩ ?_
 rintro z' z L2 ⟨j,l2,sg2,rfl,rfl,eP,pO,aP,hP,hY,o2⟩;dsimp only;have iR:=aP.len;refine V9 (fun _ L'=>L'=L2/\a<j/\lt (ga l2 j) (ga l2 (j-1))=true) ?_ ?_
 ·rintro _ _ ⟨rfl,ee,jG⟩;refine H3 (by omega) (H3 (by omega) ?_);refine Ut o2 (n:=j-1) (by omega) (by omega) fun b1 dM=>Ut o2 (n:=j) rfl (by omega) fun b2 cZ=>?_;refine B5 (ga l2 (j-1)) (o2.ld (Jg hY) dM (by omega)) (B5 (ga l2 j) (o2.ld (Jg hY) cZ (by omega)) ?_);refine o2.st cZ (by omega) _ hY fun sg3 L3 aW o3=>?_;refine Ut o3 (n:=j-1) (by omega) (by simp;omega) fun b3 wB=>?_;refine o3.st wB (by simp;omega) _ aW fun sg4 L4 bU o4=>?_;rw[Bb6 (i:=j-1) (j:=j) (by omega) (by omega)]at o4;have hg:=JN (l:=l2) (i:=j-1) (j:=j) (by omega) (by omega);refine H3 (by omega) ⟨j-1+1,by omega,j-1,sw l2 (j-1) j,sg4,by rw[show((j-1:Nat):Int)=(j:Int)-1 by omega],rfl,by omega,by omega,aP.trans (Sg.swap (by omega) (by omega) (by omega) (by omega) (by omega) (by omega)),fun p q h1 h2 h3 h4=>?_,bU,o4⟩;rw[hg p,hg q];have e0:=hP (j-1) q;have e1:=hP j q;have e2:=hP p (j-1);have e3:=hP p q;by_cases q1:q=j
  ·rw[NE q1];by_cases p1:p=j-1
   ·rw[ND (by omega),NE p1];exact le_of_lt jG
   ·rw[ND (by omega),ND p1];exact e2 h1 (by omega) (by omega) (by omega)
  ·rw[ND q1,ND h4];by_cases p1:p=j
   ·rw[NE p1];exact e0 (by omega) (by omega) h3 q1
   ·rw[ND p1];by_cases p2:p=j-1
    ·rw[NE p2];exact e1 (by omega) (by omega) h3 q1
    ·rw[ND p2];exact e3 h1 h2 h3 q1
 ·intro jj zL;refine D6 (fun(ee:(j:Int)>a)=>?_) (fun(ee: ¬(j:Int)>a)=>H3 (by omega) (next l2 sg2 L2 hY o2 aP fun p q h1 h2 h3=>hP p q h1 h2 (by omega) (by omega)));refine Ut o2 (n:=j) rfl (by omega) fun b1 dM=>H3 (by omega) (Ut o2 (n:=j-1) (by omega) (by omega) fun b2 cZ=>?_);refine B5 (ga l2 j) (o2.ld (Jg hY) dM (by omega)) (B5 (ga l2 (j-1)) (o2.ld (Jg hY) cZ (by omega)) ?_);refine C4 (By5 L2 _ _) (lt (ga l2 j) (ga l2 (j-1)),()) rfl (M0 (fun h=>zL _ _ ⟨rfl,by omega,h⟩) (fun h=>H3 (by omega) (next l2 sg2 L2 hY o2 aP fun p q h1 h2 h3=>?_)));by_cases q1:q=j
  ·subst q1;by_cases p1:p=q-1
   ·subst p1;exact h
   ·exact le_trans (hP p (q-1) h1 (by omega) (by omega) (by omega)) h
  ·exact hP p q h1 h2 (by omega) q1
def EN:ByteArray:=ByteArray.mk #[0,1,2,2,3,3,3,3,4,4,4,4,4,4,4,4,5,5,5,5,5,5,5,5,5,5,5,5,5,5,5,5,6,6,6,6,6,6,6,6,6,6,6,6,6,6,6,6,6,6,6,6,6,6,6,6,6,6,6,6,6,6,6,6,7,7,7,7,7,7,7,7,7,7,7,7,7,7,7,7,7,7,7,7,7,7,7,7,7,7,7,7,7,7,7,7,7,7,7,7,7,7,7,7,7,7,7,7,7,7,7,7,7,7,7,7,7,7,7,7,7,7,7,7,7,7,7,7,8,8,8,8,8,8,8,8,8,8,8,8,8,8,8,8,8,8,8,8,8,8,8,8,8,8,8,8,8,8,8,8,8,8,8,8,8,8,8,8,8,8,8,8,8,8,8,8,8,8,8,8,8,8,8,8,8,8,8,8,8,8,8,8,8,8,8,8,8,8,8,8,8,8,8,8,8,8,8,8,8,8,8,8,8,8,8,8,8,8,8,8,8,8,8,8,8,8,8,8,8,8,8,8,8,8,8,8,8,8,8,8,8,8,8,8,8,8,8,8,8,8,8,8,8,8,8,8]
def Gr(y:Nat):Int:=Og EN (y:Int)
def EM: ∀y<256,0<=Gr y/\Gr y<=8/\y<2^(Gr y).toNat/\(0<y->2^(Gr y).toNat<=2*y):=by decide+kernel
def By6{T:ByteArray}(hT:T=EN){y:Nat}(hy:y<256){k:Int->HP}(hk:k (Gr y) L):D5 (IntKind.u8.wrap (y:Int)) T.size (D9 (Og T (IntKind.u8.wrap (y:Int))) k) L:=by
 subst hT;have e:IntKind.u8.wrap (y:Int)=(y:Int):=by
  simp[IntKind.wrap,IntKind.bits,IntKind.signed];omega
 rw[e];have hs:EN.size=256:=by decide+kernel
 have:=EM y hy;refine H7 (by omega) (by rw[hs];omega) (H3 (show-9223372036854775808<=Gr y/\Gr y<=9223372036854775807 by omega) hk)
def Gs(x:Nat):Int:=if 256<=x then 8+Gr (x/256)else Gr x
def By7{x:Nat}(h:x<65536):0<=Gs x/\Gs x<=16/\x<2^(Gs x).toNat/\(0<x->2^(Gs x).toNat<=2*x):=by
 unfold Gs;split
 ·have:=EM (x/256) (by omega);have e:(8+Gr (x/256)).toNat=8+(Gr (x/256)).toNat:=by omega
  rw[e,Nat.pow_add];obtain⟨h1,h2,h3,h4⟩:=this;have h5:=h4 (by omega);generalize 2^(Gr (x/256)).toNat=p at*;refine⟨by omega,by omega,by omega,fun _=>by omega⟩
 ·have:=EM x (by omega);exact⟨this.1,by omega,this.2.2.1,this.2.2.2⟩
def By8(L:B1)(x:Nat)(h:x<65536):Reads PP 186 #[.int .u64 x] L (.i (Gs x)):=by
 unfold Reads;refine(c186 x).c ?_;refine V9 (fun y L'=>y=((x:Int),0,())/\L'=L) ?_ (fun j hj=>Bp (show¬((x:Int)≥4294967296) by omega) (hj _ _ ⟨rfl,rfl⟩));rintro _ L1 ⟨rfl,hL⟩;rw[hL];refine V9 (fun y L'=>y=((x:Int),0,())/\L'=L) ?_ (fun j hj=>Bp (show¬((x:Int)≥65536) by omega) (hj _ _ ⟨rfl,rfl⟩));rintro _ L1 ⟨rfl,hL⟩;rw[hL];have aC:=By7 h;refine V9 (fun y L'=> ∃(q:Nat) (a:Int),y=((q:Int),a,())/\L'=L/\q<256/\0<=a/\a<=8/\a+Gr q=Gs x) ?_ ?_
 ·rintro _ L1 ⟨q,a,rfl,hL,hq,h1,h2,h3⟩;rw[hL];dsimp only;refine By6 rfl hq (H3 (by omega) ?_);rw[h3];exact .of ⟨rfl,rfl⟩
 ·intro j hj;dsimp only;refine D6 (fun(aM:(x:Int)≥256)=>H3 (by omega) (hj _ _ ⟨x/256,8,?_,rfl,by omega,by omega,by omega,by unfold Gs;rw[NE (by omega)]⟩)) (fun(hO: ¬(x:Int)≥256)=>hj _ _ ⟨x,0,rfl,rfl,by omega,by omega,by omega,by unfold Gs;rw[ND (by omega)];omega⟩);have e:(2:Int)^(min (8:Int).toNat IntKind.u64.bits)=((256:Nat):Int):=by decide
  have e2:Int.fdiv (x:Int) ((256:Nat):Int)=((x/256:Nat):Int):=by rw[UI _ (by omega)];rfl
  rw[e,e2];rfl
def Be5(L:B1)(x:Nat)(h:x<65536):Reads PP 141 #[.int .u64 x] L (.i (Gs x)):=by
 unfold Reads;refine(c141 x).c ?_;exact C4 (By8 L x h) (Gs x,()) rfl (.of ⟨rfl,rfl⟩)
def Az7{x:Int}(h:0<=x)(h2:x<18446744073709551616):IntKind.u64.wrap x=x:=by
 simp[IntKind.wrap,IntKind.bits,IntKind.signed];omega
def Bs0(v:B6)(l:BL)(seg R:B1)(o:SO v l seg)(lim:Int)(h12:l.length<=12):
  CallF PP 140 #[.slice v.a v.len v.cap,.i 0,.i l.length,.i lim] (seg++R) (Om 0 l.length v l R fun l' r=>r= .t #[]/\Dk l' 0 l.length):=by
 refine(c140 v 0 l.length lim).c ?_;refine G1 (fun z' z L'=>z=(0,(l.length:Int),lim,true,true,())/\L'=seg++R) 0 ⟨rfl,rfl⟩ ?_;rintro z' z L1 ⟨rfl,hL⟩;rw[hL];dsimp only;refine H3 (by omega) (D6 (fun _=>?_) (fun h=>absurd (show(l.length:Int)-0<=12 by omega) h));refine O1 (Cc0 v l seg R o 0 l.length (by omega) (by omega) (by omega)) ?_;rintro _ _-⟨l2,sg2,rfl,o2,aP,rfl,gC⟩;exact⟨(),rfl,Om.mk (NH _) o2 aP ⟨rfl,gC⟩⟩
def Be4(v:B6)(l:BL)(seg R:B1)(o:SO v l seg)(hl:l.length<=12)(aZ:l.Nodup):
  CallF PP 87 #[.slice v.a v.len v.cap] (seg++R) (Om 0 l.length v l R fun l' r=>r= .t #[]/\Dk l' 0 l.length):=by
 refine(c87 v).c ?_;have bY:=o.len;rw[Az7 (x:=(v.len:Int)) (by omega) (by omega)];refine C4 (Be5 _ v.len (by omega)) (Gs v.len,()) rfl ?_;have hc:=Bs0 v l seg R o (Gs v.len) hl;rw[<-bY]at hc⊢;refine O1 hc ?_;rintro _ _-⟨l2,sg2,rfl,o2,aP,rfl,gC⟩;exact⟨(),rfl,.of ⟨l2,sg2,rfl,o2,aP,rfl,gC⟩⟩
end Go.Proofs.YtieboeindnpnaaaGreatDoor
