/-
  It is proved what the functions that the law PlainFlush reaches compute, part 2. There are no further conditions than those that each theorem names.
-/
import Derived.Test.YtieboeindnpnaaaGreatDoorMPlainFlush1
set_option linter.defProp false
set_option linter.unusedVariables false
set_option linter.unusedSimpArgs false
namespace Go.Proofs.YtieboeindnpnaaaGreatDoor
open Go.HL
variable{A J L L' L2 seg:B1}{s:B6}{h:Hd}{ep n pg z:Int}{ps:List (List UInt8)}{gs:List PG}{b data:List UInt8}{S a i q:Nat}
def IK(k:Nat):IntKind.u8.wrap (k:Int)=((G2 k 0).toNat:Int):=by
 have:=HW k 0
 rwa [show k/256^0=k by simp]at this
def Cm9(k:Nat):E4 k 1=[G2 k 0]:=rfl
def Bl0(A:B1)(h:Hd)(v:B6)(p:List UInt8)(hv:G0 A v p)(size:Int)(hs: -9223372036854775808<=size/\size<=9223372036854775807):
  CallF PP 136 #[.agg (ki5 h),.slice v.a v.len v.cap,.i size] A (Hx h p size A):=by
 refine(e136 h v size).c ?_;have bY:=hv.len;refine C9 fun n1 _=>?_;generalize ho:(n1,Obj.cells (ki5 h) 142)=o1;have lh: ∀{Z:B1},o1∈Z->C0 n1.z (Ya h) Z:=by subst ho;exact fun hm=>C2 hm rfl
 clear ho;refine C4 (MA _ size) (Cq size,()) rfl ?_;cases aE:Cq size with
 |false=>exact E9 rfl (.cons (.of (Hx.err (by unfold O9;rw[NE (Sb aE)]))))
 |true=>
  have hS:=Sa aE;refine D8 rfl (B5 h (lh (by simp)) (C4 (Bk5 _ h) (J7 h,()) rfl ?_));refine Bb (fun(he:J7 h≠0)=>.cons (.of (Hx.err (by unfold O9;rw[ND (by simpa using hS),NE he])))) (fun(he:J7 h=0)=>?_);rw[D7 (by omega) (by omega)];refine D3 (fun(hl:(v.len:Int)>size-16)=>.cons (.of (Hx.err (by unfold O9;rw[ND (by simpa using hS),ND (by simpa using he),NE (by omega)])))) (fun(hl: ¬(v.len:Int)>size-16)=>?_);obtain⟨S,rfl⟩: ∃S:Nat,size=S:=⟨size.toNat,by omega⟩;have oN:O9 h p S=(I9 h p S,0):=by
   unfold O9;rw[ND (by simpa using hS),ND (by simpa using he),ND (by omega),NK]
  unfold Hx;rw[oN];have aC:=Ik he;obtain⟨k,pa,ps,ep,pg,u⟩:=h;simp only at aC;obtain⟨k,rfl⟩: ∃n:Nat,k=n:=⟨k.toNat,by omega⟩;obtain⟨pa,rfl⟩: ∃n:Nat,pa=n:=⟨pa.toNat,by omega⟩;obtain⟨ps,rfl⟩: ∃n:Nat,ps=n:=⟨ps.toNat,by omega⟩;obtain⟨ep,rfl⟩: ∃n:Nat,ep=n:=⟨ep.toNat,by omega⟩;obtain⟨pg,rfl⟩: ∃n:Nat,pg=n:=⟨pg.toNat,by omega⟩;refine B5 (k:Int) ((lh (by simp)).pre fun i u hu=>by cases i with|zero=>exact hu|succ i=>exact absurd (show(none:Option Value)=some u from hu) (by simp)) (B5 (pa:Int) ((lh (by simp)).one 1 rfl) (B5 (ps:Int) ((lh (by simp)).one 2 rfl) (C9 fun n2 _=>?_)));simp only[IK];have c2:G0 ((n2,Obj.cells #[.int .u8 (G2 k 0).toNat,.int .u8 (G2 pa 0).toNat,.int .u8 (G2 ps 0).toNat,.int .u8 165] eB)::o1::A) ⟨some n2.z,4,4⟩ [G2 k 0,G2 pa 0,G2 ps 0,165]:=
   ⟨rfl,NF _,.inr ⟨_,rfl,C2 NG rfl⟩⟩
  have e2:[G2 k 0,G2 pa 0,G2 ps 0,165]=E4 k 1++E4 pa 1++E4 ps 1++E4 165 1:=rfl;rw[e2]at c2;generalize (n2,Obj.cells #[.int .u8 (G2 k 0).toNat,.int .u8 (G2 pa 0).toNat,.int .u8 (G2 ps 0).toNat,.int .u8 165] eB)=o2 at c2⊢;refine B5 (ep:Int) ((lh (by simp)).one 3 rfl) (K3 [] [] (BF (o2::o1::A) ⟨some n2.z,4,4⟩ _ c2 (by simp[Df]) ep 4 (by omega) (by omega)) (by simp) ?_);rintro _ _-⟨s3,seg3,rfl,rfl,own3⟩;rw[Vn (n:=(ep:Int)) _ (by omega) (by omega),NK]at own3;rw[NP,NT];refine⟨(s3,_,()),rfl,B5 (pg:Int) ((lh (by simp)).one 4 rfl) (C9 fun n3 _=>?_)⟩;have c3:G0 ((n3,Obj.cells #[.int .u8 (IntKind.u8.wrap (pg:Int)),.int .u8 0] eB)::(seg3++(o2::o1::A))) ⟨some n3.z,2,2⟩ (E4 pg 1++E4 0 1):=by
   rw[IK];exact⟨rfl,NF _,.inr ⟨_,rfl,C2 NG rfl⟩⟩
  have uY:=own3.sl.len;rw[Y1]at uY;simp only[NR,Df]at uY;refine Q1 Be Dp [(n3,Obj.cells #[.int .u8 (IntKind.u8.wrap (pg:Int)),.int .u8 0] eB)] (o2::o1::A) own3 rfl (.sl c3) (Ac _) (by first|omega|(simp only;omega)) fun s4 seg4 eH own4=>?_;rw[<-Mg]at own4;generalize (n3,Obj.cells #[.int .u8 (IntKind.u8.wrap (pg:Int)),.int .u8 0] eB)=o3 at own4⊢;have qD:((v.len:Nat):Int)=((p.length:Nat):Int):=by omega
  rw[qD];refine K3 [] [] (BF (o3::(seg4++(o2::o1::A))) s4 _ own4.sl.left.cons (by simp[Df]) (p.length:Int) 2 (by omega) (by omega)) (by simp) ?_;rintro _ _-⟨s5,seg5,rfl,rfl,own5⟩;rw[ID (n:=((p.length:Nat):Int)) _ (by omega) (by omega),NK]at own5;have e5:E4 k 1++E4 pa 1++E4 ps 1++E4 165 1++E4 ep 4++(E4 pg 1++E4 0 1)++E4 p.length 2=Fv ((k:Int),(pa:Int),(ps:Int),(ep:Int),(pg:Int),()) p.length:=by
   unfold Fv;simp only[NK,NZ]
  rw[e5]at own5;rw[NP,NT];refine⟨(s5,_,()),rfl,?_⟩;have dp:=own5.sl.len;rw[Y1,Jq]at dp;refine Q1 Be Dp [] (o3::(seg4++(o2::o1::A))) own5 rfl (.sl (hv.cons.cons.right.cons.right)) (Ac _) (by first|omega|(simp only;omega)) fun s6 seg6 hs6 own6=>?_;rw[<-Mg]at own6;rw[NT];have hw:IntKind.i64.wrap ((S:Int)-4)=((S-4:Nat):Int):=by rw[D7 (by omega) (by omega)];omega
  simp only[hw];generalize hh:((k:Int),(pa:Int),(ps:Int),(ep:Int),(pg:Int),())=hd at own6 he oN;have ag:=Jq hd p.length;refine G1 (fun q z L'=> ∃(j:Nat) (s:B6) (seg J:B1),j<=S-16-p.length/\q=S-16-p.length-j/\z=(s,())/\L'=J++seg++(o3::(seg4++(o2::o1::A)))/\C5 s 1 eB (F9 (Fv hd p.length++p++List.replicate j 0)) seg) (S-16-p.length)
   ⟨0,s6,seg6,[],by omega,by omega,rfl,rfl,by simpa using own6⟩ ?_
  rintro q z L' ⟨j,s,seg,J,hj,rfl,rfl,rfl,own⟩;have aU:=own.sl.len;rw[Y1]at aU;simp only[NR,PE,ag]at aU;refine D3 (fun(hO:(s.len:Int)<((S-4:Nat):Int))=>?_) (fun(aM: ¬(s.len:Int)<((S-4:Nat):Int))=>?_)
  ·refine C9 fun n4 _=>?_;have c4:G0 ((n4,Obj.cells #[.int .u8 0] eB)::(J++seg++(o3::(seg4++(o2::o1::A))))) ⟨some n4.z,1,1⟩ [0]:=⟨rfl,NF _,.inr ⟨_,rfl,C2 NG rfl⟩⟩;refine Q1 Be Dp ((n4,Obj.cells #[.int .u8 0] eB)::J) (o3::(seg4++(o2::o1::A))) own (by simp) (.sl c4) (Ac _) (by first|omega|(simp only;omega)) fun s7 seg7 hs7 own7=>?_;rw[<-Mg]at own7;refine⟨S-16-p.length-(j+1),by omega,j+1,s7,seg7,_,by omega,rfl,rfl,rfl,?_⟩;rw[VT,<-NZ];exact own7
  ·obtain rfl:j=S-16-p.length:=by omega
   have jW:Fv hd p.length++p++List.replicate (S-16-p.length) 0=X8 hd p S:=rfl;have iM:I9 hd p S=X8 hd p S++E4 (K0 (X8 hd p S)).toNat 4:=rfl;have dI:=Ly (h:=hd) (p:=p) (size:=S) (by omega) (by omega);rw[jW]at own;rw[iM];generalize X8 hd p S=body at own dI⊢;have dH:=Yv body;refine C4 (LZ _ s body own.sl.right.left (by omega)) (K0 body,()) rfl ?_;refine K3 [] [] (BF (J++seg++(o3::(seg4++(o2::o1::A)))) s body own.sl.right.left (by omega) (K0 body) 4 (by omega) (by omega)) (by simp) ?_;rintro _ _-⟨s9,seg9,rfl,rfl,own9⟩;rw[Vn (n:=K0 body) _ (by omega) (by omega)]at own9;rw[NP,NT];refine⟨(s9,_,()),rfl,.drop (A:=seg9++A) (J:=J++seg++(o3::(seg4++[o2,o1]))) ⟨s9,seg9,rfl,rfl,own9⟩ ?_⟩
   classical
   rw[ON];intro x;simp only[PM,OM,OP,OV,PJ];omega
theorem Uw: ∀l:List UInt8,E4 (I8 l) l.length=l
 |[]=>rfl
 |x::r=>by
  rw[NU,Aq5];have h1:UInt8.ofNat (I8 (x::r))=x:=by
   show UInt8.ofNat (x.toNat+256*I8 r)=x;apply UQ.1;have:=x.toNat_lt;simp
  have h2:I8 (x::r)/256=I8 r:=by
   show(x.toNat+256*I8 r)/256=I8 r;have:=x.toNat_lt;omega
  rw[h1,h2,Uw r]
def U2(b:List UInt8):Hd:=((b.getD 0 0).toNat,(b.getD 1 0).toNat,(b.getD 2 0).toNat,I8 ((b.drop 4).take 4),(b.getD 8 0).toNat,())
def K2(b:List UInt8):Nat:=I8 ((b.drop 10).take 2)
def V8(b:List UInt8):List UInt8:=(b.drop (12+K2 b)).take (b.length-4-(12+K2 b))
def Am(b:List UInt8):List UInt8:=(b.drop 12).take (K2 b)
def Lq(b:List UInt8):Bool:=decide (b.getD 3 0≠165)||decide (b.getD 9 0≠0)||decide (K2 b>b.length-16)||decide (J7 (U2 b)≠0)||(V8 b).any fun x=>decide (x≠0)
def R7(b:List UInt8):Bool:=b.all fun x=>decide (x=255)
def hz:Hd:=(0,0,0,0,0,())
def C1(b:List UInt8):Hd×List UInt8×Int:=
 if¬(64<=b.length/\b.length<=512)then(hz,[],2)else if R7 b=true then(hz,[],15)else if K0 (b.take (b.length-4))≠(I8 (b.drop (b.length-4)):Int)then(hz,[],12)else if Lq b=true then(hz,[],5)else(U2 b,Am b,0)
def Co0(h:12<=b.length): ∃b0 b1 b2 b3 b4 b5 b6 b7 b8 b9 b10 b11 r,b=b0::b1::b2::b3::b4::b5::b6::b7::b8::b9::b10::b11::r:=by
 match b,h with
 |b0::b1::b2::b3::b4::b5::b6::b7::b8::b9::b10::b11::r,_=>exact⟨b0,b1,b2,b3,b4,b5,b6,b7,b8,b9,b10,b11,r,rfl⟩
def Cn0(x:UInt8):E4 x.toNat 1=[x]:=by
 have:=Uw [x];simpa[I8]using this
def Cg0(b0 b1 b2 b3 b4 b5 b6 b7 b8 b9 b10 b11:UInt8)(r:List UInt8):Fv (U2 (b0::b1::b2::b3::b4::b5::b6::b7::b8::b9::b10::b11::r)) (K2 (b0::b1::b2::b3::b4::b5::b6::b7::b8::b9::b10::b11::r))=[b0,b1,b2,165,b4,b5,b6,b7,b8,0,b10,b11]:=by
 have h4:E4 (I8 [b4,b5,b6,b7]) 4=[b4,b5,b6,b7]:=Uw _;have h2:E4 (I8 [b10,b11]) 2=[b10,b11]:=Uw _;show E4 ((b0.toNat:Int)).toNat 1++E4 ((b1.toNat:Int)).toNat 1++E4 ((b2.toNat:Int)).toNat 1++E4 165 1++E4 ((I8 [b4,b5,b6,b7]:Int)).toNat 4++E4 ((b8.toNat:Int)).toNat 1++E4 0 1++E4 (I8 [b10,b11]) 2=_;simp only[NK,Cn0,h4,h2];rfl
def Ac7(b:List UInt8):K2 b<65536:=by
 have h1:=DO ((b.drop 10).take 2);have h2:256^((b.drop 10).take 2).length<=256^2:=UK (by omega) (by rw[NW];omega);unfold K2;omega
def CS(h:12+K2 b<=b.length):(Am b).length=K2 b:=by
 unfold Am;rw[NW,OJ];omega
def Zn(h1:64<=b.length)(hc:K0 (b.take (b.length-4))=(I8 (b.drop (b.length-4)):Int))(hn:K2 b<=b.length-16):
  I9 (U2 b) (Am b) b.length=b↔b.getD 3 0=165/\b.getD 9 0=0/\ ∀x∈V8 b,x=0:=by
 have aQ:=CS (b:=b) (by omega);obtain⟨b0,b1,b2,b3,b4,b5,b6,b7,b8,b9,b10,b11,r,rfl⟩:=Co0 (b:=b) (by omega);have hb:=Cg0 b0 b1 b2 b3 b4 b5 b6 b7 b8 b9 b10 b11 r;generalize hB:b0::b1::b2::b3::b4::b5::b6::b7::b8::b9::b10::b11::r=b at*;have hC:b.length=r.length+12:=by subst hB;simp
 have gE:Am b=r.take (K2 b):=by unfold Am;subst hB;rfl
 have uF:V8 b=(r.drop (K2 b)).take (b.length-16-K2 b):=by
  unfold V8;rw[show b.length-4-(12+K2 b)=b.length-16-K2 b by omega];congr 1;subst hB;rw[<-QB];rfl
 have dV:b.drop (b.length-4)=r.drop (b.length-16):=by
  rw[show b.length-4=12+(b.length-16) by omega,<-QB];congr 1;subst hB;rfl
 have mL:(V8 b).length=b.length-16-K2 b:=by rw[uF,NW,OJ];omega
 have hr:r=Am b++V8 b++b.drop (b.length-4):=by
  rw[gE,uF,dV];have e1:r.drop (b.length-16)=(r.drop (K2 b)).drop (b.length-16-K2 b):=by rw[QB];congr 1;omega
  rw[e1,NZ,PR,PR]
 have fG:b.getD 3 0=b3:=by subst hB;rfl
 have hg9:b.getD 9 0=b9:=by subst hB;rfl
 have hbt:b.take (b.length-4)=[b0,b1,b2,b3,b4,b5,b6,b7,b8,b9,b10,b11]++(Am b++V8 b):=by
  have:b=([b0,b1,b2,b3,b4,b5,b6,b7,b8,b9,b10,b11]++(Am b++V8 b))++b.drop (b.length-4):=by
   rw[NZ,<-hr,<-hB];rfl
  have e:=congrArg (List.take (b.length-4)) this;rw[SR (by
   rw[NR,NR,aQ,mL];simp only[NU,OX];omega)]at e
  exact e
 have xB:(b.drop (b.length-4)).length=4:=by rw[OJ];omega
 have jW:X8 (U2 b) (Am b) b.length=[b0,b1,b2,165,b4,b5,b6,b7,b8,0,b10,b11]++(Am b++List.replicate (b.length-16-K2 b) 0):=by
  unfold X8;rw[aQ,hb,NZ]
 have uE:(∀x∈V8 b,x=0)↔List.replicate (b.length-16-K2 b) 0=V8 b:=by
  rw[<-mL];constructor
  ·intro h;exact(List.eq_replicate_iff.2 ⟨rfl,h⟩).symm
  ·intro h x hx;rw[<-h]at hx;exact PW hx
 rw[fG,hg9,uE];have hB2:b=[b0,b1,b2,b3,b4,b5,b6,b7,b8,b9,b10,b11]++(Am b++(V8 b++b.drop (b.length-4))):=by
  rw[<-NZ (Am b),<-hr,<-hB];rfl
 constructor
 ·intro h;unfold I9 at h;rw[jW,NZ,NZ]at h;have h':=h.trans hB2;obtain⟨e1,e2⟩:=XL h' rfl;obtain⟨e3,e4⟩:=XL e2 rfl;obtain⟨e5,e6⟩:=XL e4 (by rw[PE,mL]);simp only[UN,and_true,true_and]at e1;exact⟨e1.1.symm,e1.2.symm,e5⟩
 ·rintro⟨rfl,rfl,e5⟩;have:X8 (U2 b) (Am b) b.length=b.take (b.length-4):=by rw[jW,e5,hbt]
  unfold I9;rw[this,hc,NK];have h4:=Uw (b.drop (b.length-4));rw[xB]at h4;rw[h4,PR]
def Xf(x:UInt8):((x.toNat:Int)≠255)↔x≠255:=by
 constructor
 ·rintro h rfl;exact h rfl
 ·intro h e;apply h;apply UQ.1;show x.toNat=255;omega
def GB(x:UInt8)(n:Nat)(hn:n<256):((x.toNat:Int)=n)↔x=UInt8.ofNat n:=by
 constructor
 ·intro h;apply UQ.1;simp;omega
 ·rintro rfl;simp;omega
def Ab2(L:B1)(v:B6)(b:List UInt8)(hb:G0 L v b)(hl:b.length<=1000000):Reads PP 192 #[.slice v.a v.len v.cap] L (.b (R7 b)):=by
 refine(e192 v).r ?_;have hC:=hb.len;refine G1 (fun k z L'=>L'=L/\ ∃i:Nat,i<=b.length/\k=b.length-i/\z=((i:Int),())/\ ∀x∈b.take i,x=255) b.length ⟨rfl,0,by omega,by omega,rfl,by simp⟩ ?_;rintro k z L' ⟨rfl,i,hi,rfl,rfl,aA⟩;refine D3 (fun(hO:(i:Int)<v.len)=>?_) (fun(aM: ¬(i:Int)<v.len)=>?_)
 ·have hJ:i<b.length:=by omega
  obtain⟨a,ha⟩:=hb.some hJ;refine B7 ha (H7 (show(0:Int)<=i by omega) hO (B5 (b[i].toNat:Int) (hb.rd hJ ha _ (by simp)) ?_));refine Bb (fun hZ=>.of ⟨?_,rfl⟩) (fun he=>⟨b.length-(i+1),by omega,rfl,i+1,by omega,rfl,?_,fun x hx=>?_⟩)
  ·have:R7 b=false:=by
    unfold R7;rw[US];exact⟨b[i],NO hJ,by simpa using(Xf _).1 hZ⟩
   rw[this]
  ·rw[D7 (by first|omega|(simp only;omega)) (by first|omega|(simp only;omega))];rfl
  ·rw[OB hJ]at hx;rcases NJ.1 hx with hx|hx
   ·exact aA x hx
   ·rw[NM.1 hx];exact QQ fun hc=>(Xf _).2 hc he
 ·obtain rfl:i=b.length:=by omega
  rw[OE]at aA;refine .of ⟨?_,rfl⟩;have:R7 b=true:=by
   unfold R7;rw[QM];intro x hx;simpa using aA x hx
  rw[this]
def Bm0(L:B1)(v:B6)(b:List UInt8)(hb:G0 L v b)(hl:b.length<=1000000):Reads PP 133 #[.slice v.a v.len v.cap] L (.b (R7 b)):=by
 refine(e133 v).r ?_;have hC:=hb.len;refine G1 (fun k z L'=>L'=L/\ ∃i:Nat,i<=b.length/\k=b.length-i/\z=((i:Int),())/\ ∀x∈b.take i,x=255) b.length ⟨rfl,0,by omega,by omega,rfl,by simp⟩ ?_;rintro k z L' ⟨rfl,i,hi,rfl,rfl,aA⟩;refine D3 (fun(hO:(i:Int)<v.len)=>?_) (fun(aM: ¬(i:Int)<v.len)=>?_)
 ·have hJ:i<b.length:=by omega
  obtain⟨a,ha⟩:=hb.some hJ;refine B7 ha (H7 (show(0:Int)<=i by omega) hO (B5 (b[i].toNat:Int) (hb.rd hJ ha _ (by simp)) ?_));refine Bb (fun hZ=>.of ⟨?_,rfl⟩) (fun he=>⟨b.length-(i+1),by omega,rfl,i+1,by omega,rfl,?_,fun x hx=>?_⟩)
  ·have:R7 b=false:=by
    unfold R7;rw[US];exact⟨b[i],NO hJ,by simpa using(Xf _).1 hZ⟩
   rw[this]
  ·rw[D7 (by first|omega|(simp only;omega)) (by first|omega|(simp only;omega))];rfl
  ·rw[OB hJ]at hx;rcases NJ.1 hx with hx|hx
   ·exact aA x hx
   ·rw[NM.1 hx];exact QQ fun hc=>(Xf _).2 hc he
 ·obtain rfl:i=b.length:=by omega
  rw[OE]at aA;refine .of ⟨?_,rfl⟩;have:R7 b=true:=by
   unfold R7;rw[QM];intro x hx;simpa using aA x hx
  rw[this]
def CT(L:B1)(v:B6)(b:List UInt8)(hb:G0 L v b)(hl:b.length<=1000000)(a w:Int):Reads PP 194 #[.slice v.a v.len v.cap,.i a,.i w] L (.i (J5 b a w).1):=by
 refine(e194 v a w).r ?_;exact C4 (Vp _ v b hb (by omega) a w) ((J5 b a w).1,(J5 b a w).2,()) rfl (.of ⟨rfl,rfl⟩)
def Oq(b:List UInt8)(A:B1)(v:Value)(L':B1):Prop:= ∃(s:B6) (seg:B1),v= .t #[.agg #[.i (C1 b).1.1,.i (C1 b).1.2.1,.i (C1 b).1.2.2.1,.i (C1 b).1.2.2.2.1,.i (C1 b).1.2.2.2.2.1],.slice s.a s.len s.cap,.i (C1 b).2.2]/\L'=seg++A/\C5 s 1 eB (F9 (C1 b).2.1) seg
def Oq.err{e:Int}(he:C1 b=(hz,[],e)):Oq b A (.t #[.agg #[.i 0,.i 0,.i 0,.i 0,.i 0],.slice none 0 0,.i e]) A:=⟨⟨none,0,0⟩,[],by rw[he];rfl,rfl,by rw[he];exact O5⟩
def Pe{w:Nat}(h:1<=w)(h7:w<=7)(h2:a+w<=b.length):(J5 b (a:Int) (w:Int)).1=(I8 ((b.drop a).take w):Int):=by rw[Ru h h7 h2]
def Gv(h:i<b.length):b.getD i 0=b[i]:=by simp[NX,h]
def CY(h: ¬(64<=b.length/\b.length<=512)):C1 b=(hz,[],2):=by unfold C1;rw[NE h]
def CZ(h:64<=b.length/\b.length<=512)(h2:R7 b=true):C1 b=(hz,[],15):=by unfold C1;rw[ND (by simpa using h),NE h2]
def CX(h:64<=b.length/\b.length<=512)(h2:R7 b=false)(h3:K0 (b.take (b.length-4))≠(I8 (b.drop (b.length-4)):Int)):C1 b=(hz,[],12):=by
 unfold C1;rw[ND (by simpa using h),ND (by rw[h2];decide),NE h3]
def Kl(h:64<=b.length/\b.length<=512)(h2:R7 b=false)(h3:K0 (b.take (b.length-4))=(I8 (b.drop (b.length-4)):Int))(h4:Lq b=true):C1 b=(hz,[],5):=by
 unfold C1;rw[ND (by simpa using h),ND (by rw[h2];decide),ND (by simpa using h3),NE h4]
def Wy(h:64<=b.length/\b.length<=512)(h2:R7 b=false)(h3:K0 (b.take (b.length-4))=(I8 (b.drop (b.length-4)):Int))(h4:Lq b=false):C1 b=(U2 b,Am b,0):=by
 unfold C1;rw[ND (by simpa using h),ND (by rw[h2];decide),ND (by simpa using h3),ND (by rw[h4];decide)]
def Ib(b:List UInt8):Lq b=true↔b.getD 3 0≠165\/b.getD 9 0≠0\/K2 b>b.length-16\/J7 (U2 b)≠0\/ ∃x∈V8 b,x≠0:=by
 unfold Lq;simp only[TP,decide_eq_true_iff,List.any_eq_true];constructor
 ·rintro((((h|h)|h)|h)|h)
  ·exact .inl h
  ·exact .inr (.inl h)
  ·exact .inr (.inr (.inl h))
  ·exact .inr (.inr (.inr (.inl h)))
  ·exact .inr (.inr (.inr (.inr h)))
 ·rintro(h|h|h|h|h)
  ·exact .inl (.inl (.inl (.inl h)))
  ·exact .inl (.inl (.inl (.inr h)))
  ·exact .inl (.inl (.inr h))
  ·exact .inl (.inr h)
  ·exact .inr h
def CQ(h1:b.getD 3 0=165)(h2:b.getD 9 0=0)(h3:K2 b<=b.length-16)(h4:J7 (U2 b)=0)(h5: ∀x∈V8 b,x=0):Lq b=false:=by
 rw[XM];intro h;rcases(Ib b).1 h with h|h|h|h|⟨x,hx,h⟩
 ·exact h h1
 ·exact h h2
 ·omega
 ·exact h h4
 ·exact h (h5 x hx)
section
variable {b:List UInt8} {A:B1} {n1:Nat} {e:Int}
def Fo(X:B1)(he:C1 b=(hz,[],e)):
  (st n1.z [.i 0,.i 0,.i 0,.i 0,.i 0]<|
   ld n1.z Z2 fun v1=>
   HL.Ends (Oq b A) (.t #[.agg (ki5 v1),.slice none 0 0,.i e])) (X++(n1,Obj.cells #[.i 0,.i 0,.i 0,.i 0,.i 0] 142)::A):=by
 refine F6 X A rfl rfl (by simp) (.inl (NF _)) #[.i 0,.i 0,.i 0,.i 0,.i 0] rfl ?_;exact B5 (0,0,0,0,0,()) (C2 (n:=n1) (c:=#[.i 0,.i 0,.i 0,.i 0,.i 0]) (T:=142) (fz:=(0,0)) (by simp) rfl) (.app (.cons (.of (Oq.err he))))
end
def Ab5{n1:Nat}{q:List UInt8}(aC:C1 b=(h,q,0))(own:C5 s 1 eB (F9 q) seg)(Y X:B1):
  (st n1.z [.i h.1,.i h.2.1,.i h.2.2.1,.i h.2.2.2.1,.i h.2.2.2.2.1]<|
   ld n1.z Z2 fun v1=>
   HL.Ends (Oq b A) (.t #[.agg (ki5 v1),.slice s.a s.len s.cap,.i 0])) (Y++seg++(X++(n1,Obj.cells #[.i 0,.i 0,.i 0,.i 0,.i 0] 142)::A)):=by
 obtain⟨k,pa,ps,ep,pg,u⟩:=h;simp only;refine F6 (n:=n1) (off:=0) (c:=#[.i 0,.i 0,.i 0,.i 0,.i 0]) (T:=142) (fz:=(0,0)) (Y++seg++X) A rfl (by simp) (by simp) (.inl (NF _)) #[.i k,.i pa,.i ps,.i ep,.i pg] rfl ?_;have lh:C0 n1.z [.i k,.i pa,.i ps,.i ep,.i pg] (Y++seg++X++(n1,Obj.cells #[.i k,.i pa,.i ps,.i ep,.i pg] 142)::A):=C2 (n:=n1) (c:=#[.i k,.i pa,.i ps,.i ep,.i pg]) (T:=142) (fz:=(0,0)) (by simp) rfl;refine B5 (k,pa,ps,ep,pg,()) lh ?_;refine .drop (A:=seg++A) (J:=Y++X++[(n1,Obj.cells #[.i k,.i pa,.i ps,.i ep,.i pg] 142)]) ⟨s,seg,by rw[aC],rfl,by rw[aC];exact own⟩ ?_
 classical
 rw[ON];intro x;simp only[PM,OM,OP,OV,PJ];omega
def CG(A:B1)(v:B6)(b:List UInt8)(hb:G0 A v b)(hl:b.length<=1000000):
  CallF PP 150 #[.slice v.a v.len v.cap] A (Oq b A):=by
 refine(e150 v).c ?_;have hC:=hb.len;have aY:=hb.cap;refine C9 fun n1 _=>?_;have dM: ∀{X:B1},G0 (X++(n1,Obj.cells #[.i 0,.i 0,.i 0,.i 0,.i 0] 142)::A) v b:=fun{X}=>hb.cons.right;have bY:((v.len:Nat):Int)=((b.length:Nat):Int):=by omega
 refine C4 (BY _ v.len) (Cq v.len,()) rfl ?_;cases aE:Cq v.len with
 |false=>exact E9 rfl (Fo [] (CY (b:=b) (by have:=Sb aE;omega)))
 |true=>
  have hS:64<=b.length/\b.length<=512:=by have:=Sa aE;omega
  refine D8 rfl (C4 (Ab2 _ v b (dM (X:=[])) hl) (R7 b,()) rfl ?_);cases fR:R7 b with
  |true=>exact E9 rfl (Fo [] (CZ hS fR))
  |false=>
   refine D8 rfl ?_;have hw:IntKind.i64.wrap ((v.len:Int)-4)=((b.length-4:Nat):Int):=by rw[D7 (by omega) (by omega)];omega
   simp only[hw];refine Q2 (l':=0) (h':=b.length-4) (m':=v.cap) rfl rfl rfl (by omega) (by omega) (NF _) ?_;have bM:G0 ((n1,Obj.cells #[.i 0,.i 0,.i 0,.i 0,.i 0] 142)::A) (G7 v ((0:Nat):Int) ((b.length-4:Nat):Int) v.cap 1) (b.take (b.length-4)):=by
    have:=Sl.slc (m:=v.cap) (dM (X:=[])) (by omega) (l:=0) (h':=b.length-4) (by omega) (by omega) (by omega);rw[Jv]at this;simpa using this
   have qT:(J5 b ((b.length-4:Nat):Int) 4).1=(I8 (b.drop (b.length-4)):Int):=by
    have e:=Pe (b:=b) (a:=b.length-4) (w:=4) (by decide) (by decide) (by omega);rw[PZ (by rw[OJ];omega)]at e;exact e
   refine C4 (CT _ v b (dM (X:=[])) hl _ 4) ((J5 b ((b.length-4:Nat):Int) 4).1,()) rfl ?_;rw[qT];refine C4 (As3 _ _ _ bM (by rw[NW];omega) _) (K0 (b.take (b.length-4))==(I8 (b.drop (b.length-4)):Int),()) rfl ?_;clear bM;by_cases dH:K0 (b.take (b.length-4))=(I8 (b.drop (b.length-4)):Int)
   ·refine D8 (by simp[dH]) ?_;obtain⟨a,ha⟩:=hb.some (show 0<b.length by omega);have eN: ∀{X:B1} (i:Nat) (hi:i<b.length) (j:Nat),j=i*1->C0 (a.add j) [.int .u8 (b[i].toNat:Int)] (X++(n1,Obj.cells #[.i 0,.i 0,.i 0,.i 0,.i 0] 142)::A):=fun{X} i hi j hj=>(dM (X:=X)).rd hi ha j hj;refine B7 ha (H7 (by decide) (by omega) (B7 ha (H7 (by decide) (by omega) (B7 ha (H7 (by decide) (by omega) (B7 ha (H7 (by decide) (by omega) ?_)))))));refine B5 (b[0].toNat:Int) (eN (X:=[]) 0 (by omega) _ rfl) (B5 (b[1].toNat:Int) (eN (X:=[]) 1 (by omega) _ rfl) (B5 (b[2].toNat:Int) (eN (X:=[]) 2 (by omega) _ rfl) (B5 (b[8].toNat:Int) (eN (X:=[]) 8 (by omega) _ rfl) ?_)));refine C4 (CT _ v b (dM (X:=[])) hl 4 4) ((I8 ((b.drop 4).take 4):Int),()) (by rw[<-Pe (by decide) (by decide) (by omega)];rfl) ?_;refine P2 (eN (X:=[]) 8 (by omega) _ rfl) (P2 (eN (X:=[]) 2 (by omega) _ rfl) (P2 (eN (X:=[]) 1 (by omega) _ rfl) (P2 (eN (X:=[]) 0 (by omega) _ rfl) ?_)));have hu: ∀x:UInt8,IntKind.i64.wrap (x.toNat:Int)=(x.toNat:Int):=fun x=>by have:=x.toNat_lt;exact D7 (by omega) (by omega)
    have hh:U2 b=((b[0].toNat:Int),(b[1].toNat:Int),(b[2].toNat:Int),(I8 ((b.drop 4).take 4):Int),(b[8].toNat:Int),()):=by
     unfold U2;rw[Gv (show 0<b.length by omega),Gv (show 1<b.length by omega),Gv (show 2<b.length by omega),Gv (show 8<b.length by omega)]
    simp only[hu];refine C9 fun n2 _=>F6 [] _ rfl rfl (by simp) (.inl (NF _)) #[.i b[0].toNat,.i b[1].toNat,.i b[2].toNat,.i (I8 ((b.drop 4).take 4)),.i b[8].toNat] rfl ?_;rw[NT];have l2: ∀{X:B1},C0 n2.z (Ya (U2 b)) (X++(n2,Obj.cells #[.i b[0].toNat,.i b[1].toNat,.i b[2].toNat,.i (I8 ((b.drop 4).take 4)),.i b[8].toNat] 142)::(n1,Obj.cells #[.i 0,.i 0,.i 0,.i 0,.i 0] 142)::A):=fun{X}=>by
     rw[hh];exact C2 (n:=n2) (c:=#[.i b[0].toNat,.i b[1].toNat,.i b[2].toNat,.i (I8 ((b.drop 4).take 4)),.i b[8].toNat]) (T:=142) (fz:=(0,0)) (by simp) rfl
    generalize (n2,Obj.cells #[.i b[0].toNat,.i b[1].toNat,.i b[2].toNat,.i (I8 ((b.drop 4).take 4)),.i b[8].toNat] 142)=o2 at l2⊢;clear hu hh;have hn:K2 b<65536:=Ac7 b;refine C4 (CT _ v b (dM (X:=[o2])) hl 10 2) ((K2 b:Int),()) (by unfold K2;rw[<-Pe (by decide) (by decide) (by omega)];rfl) ?_;refine B7 ha (H7 (by decide) (by omega) (B5 (b[3].toNat:Int) (eN (X:=[o2]) 3 (by omega) _ rfl) ?_));refine Bb (fun hZ=>Fo [o2] (Kl hS fR dH ((Ib b).2 (.inl ?_)))) (fun h3=>?_)
    ·rw[Gv (show 3<b.length by omega)];rintro e;rw[e]at hZ;exact hZ rfl
    have h3':b.getD 3 0=165:=by rw[Gv (show 3<b.length by omega)];exact(GB _ 165 (by decide)).1 h3
    refine B7 ha (H7 (by decide) (by omega) (B5 (b[9].toNat:Int) (eN (X:=[o2]) 9 (by omega) _ rfl) ?_));refine Bb (fun hZ=>Fo [o2] (Kl hS fR dH ((Ib b).2 (.inr (.inl ?_))))) (fun h9=>?_)
    ·rw[Gv (show 9<b.length by omega)];rintro e;rw[e]at hZ;exact hZ rfl
    have h9':b.getD 9 0=0:=by rw[Gv (show 9<b.length by omega)];exact(GB _ 0 (by decide)).1 h9
    clear h3 h9;have aK:E0 (v.len:Int)=((b.length-16:Nat):Int):=by unfold E0;rw[NE (by omega)];omega
    refine C4 (Pu _ v.len) (E0 v.len,()) rfl ?_;rw[aK];refine D3 (fun(oU:(K2 b:Int)>((b.length-16:Nat):Int))=>Fo [o2] (Kl hS fR dH ((Ib b).2 (.inr (.inr (.inl (by omega))))))) (fun(iZ: ¬(K2 b:Int)>((b.length-16:Nat):Int))=>?_);refine B5 (U2 b) (l2 (X:=[])) (C4 (Ab1 _ (U2 b)) (J7 (U2 b),()) rfl ?_);refine Bb (fun(he:J7 (U2 b)≠0)=>Fo [o2] (Kl hS fR dH ((Ib b).2 (.inr (.inr (.inr (.inl he))))))) (fun(he:J7 (U2 b)=0)=>?_);have xR:IntKind.i64.wrap (12+(K2 b:Int))=((12+K2 b:Nat):Int):=by rw[D7 (by omega) (by omega)];omega
    simp only[xR];refine Q2 (l':=12+K2 b) (h':=b.length-4) (m':=v.cap) rfl rfl rfl (by omega) (by omega) (NF _) ?_;have aP:G0 (o2::(n1,Obj.cells #[.i 0,.i 0,.i 0,.i 0,.i 0] 142)::A) (G7 v ((12+K2 b:Nat):Int) ((b.length-4:Nat):Int) v.cap 1) (V8 b):=by
     have:=Sl.slc (m:=v.cap) (dM (X:=[o2])) (by omega) (l:=12+K2 b) (h':=b.length-4) (by omega) (by omega) (by omega);rw[Jv]at this;exact this
    generalize G7 v ((12+K2 b:Nat):Int) ((b.length-4:Nat):Int) v.cap 1=s2 at aP⊢;have iR:=aP.len;have aQ:(V8 b).length<=b.length:=by unfold V8;rw[NW,OJ];omega
    refine G1 (fun k z L'=>L'=o2::(n1,Obj.cells #[.i 0,.i 0,.i 0,.i 0,.i 0] 142)::A/\ ∃i:Nat,i<=(V8 b).length/\k=(V8 b).length-i/\z=((i:Int),())/\ ∀x∈(V8 b).take i,x=0) (V8 b).length ⟨rfl,0,by omega,by omega,rfl,by simp⟩ ?_;rintro k z L' ⟨rfl,i,hi,rfl,rfl,aA⟩;refine D3 (fun(hO:(i:Int)<s2.len)=>?_) (fun(aM: ¬(i:Int)<s2.len)=>?_)
    ·have hJ:i<(V8 b).length:=by omega
     obtain⟨a2,dZ⟩:=aP.some hJ;refine B7 dZ (H7 (show(0:Int)<=i by omega) hO (B5 ((V8 b)[i].toNat:Int) (aP.rd hJ dZ _ (by simp)) ?_));refine Bb (fun hZ=>Fo [o2] (Kl hS fR dH ((Ib b).2 (.inr (.inr (.inr (.inr ⟨(V8 b)[i],NO hJ,?_⟩))))))) (fun h0=>⟨(V8 b).length-(i+1),by omega,rfl,i+1,by omega,rfl,?_,fun x hx=>?_⟩)
     ·rintro e;rw[e]at hZ;exact hZ rfl
     ·rw[D7 (by first|omega|(simp only;omega)) (by first|omega|(simp only;omega))];rfl
     ·rw[OB hJ]at hx;rcases NJ.1 hx with hx|hx
      ·exact aA x hx
      ·rw[NM.1 hx];exact(GB _ 0 (by decide)).1 h0
    ·obtain rfl:i=(V8 b).length:=by omega
     rw[OE]at aA;have aC:=Wy hS fR dH (CQ h3' h9' (by omega) he aA);refine Q2 (l':=12) (h':=12+K2 b) (m':=v.cap) rfl rfl rfl (by omega) (by omega) (NF _) ?_;have cJ: ∀{o:Nat×Obj},G0 (o::o2::(n1,Obj.cells #[.i 0,.i 0,.i 0,.i 0,.i 0] 142)::A) (G7 v ((12:Nat):Int) ((12+K2 b:Nat):Int) v.cap 1) (Am b):=by
      intro o;have:=Sl.slc (m:=v.cap) (dM (X:=[o,o2])) (by omega) (l:=12) (h':=12+K2 b) (by omega) (by omega) (by omega);rw[Jv,VP]at this;exact this
     have mB:(G7 v ((12:Nat):Int) ((12+K2 b:Nat):Int) v.cap 1).len=K2 b:=by simp only[G7,NK];omega
     generalize G7 v ((12:Nat):Int) ((12+K2 b:Nat):Int) v.cap 1=s3 at cJ mB⊢;refine B5 (U2 b) (l2 (X:=[])) (C9 fun n3 _=>Q1 Be Dp [] (o2::(n1,Obj.cells #[.i 0,.i 0,.i 0,.i 0,.i 0] 142)::A) Km rfl (.sl cJ) (Ac _) (by first|omega|(simp only;omega)) fun s4 seg4 eH own4=>P2 l2 ?_);rw[NT]at own4;exact Ab5 aC own4 [] [o2]
   ·exact E9 (by simp[dH]) (Fo [] (CX hS fR dH))
def EV{p:List UInt8}(h1:64<=S/\S<=512)(h2:J7 h=0)(h3:p.length<=S-16):O9 h p (S:Int)=(I9 h p S,0):=by
 unfold O9;rw[ND (by omega),ND (by simpa using h2),ND (by omega),NK]
def Ai8{p:List UInt8}(h1:64<=S/\S<=512)(h2:J7 h≠0):O9 h p (S:Int)=([],J7 h):=by
 unfold O9;rw[ND (by omega),NE h2]
def Bk6(A:B1)(v:B6)(b:List UInt8)(hb:G0 A v b)(hl:b.length<=1000000):
  CallF PP 73 #[.slice v.a v.len v.cap] A (Oq b A):=by
 refine(e73 v).c ?_;have hC:=hb.len;have aY:=hb.cap;refine C9 fun n1 _=>?_;have dM: ∀{X:B1},G0 (X++(n1,Obj.cells #[.i 0,.i 0,.i 0,.i 0,.i 0] 142)::A) v b:=fun{X}=>hb.cons.right;have bY:((v.len:Nat):Int)=((b.length:Nat):Int):=by omega
 refine C4 (MA _ v.len) (Cq v.len,()) rfl ?_;cases aE:Cq v.len with
 |false=>exact E9 rfl (Fo [] (CY (b:=b) (by have:=Sb aE;omega)))
 |true=>
  have hS:64<=b.length/\b.length<=512:=by have:=Sa aE;omega
  refine D8 rfl (C4 (Bm0 _ v b (dM (X:=[])) hl) (R7 b,()) rfl ?_);cases fR:R7 b with
  |true=>exact E9 rfl (Fo [] (CZ hS fR))
  |false=>
   refine D8 rfl ?_;have hw:IntKind.i64.wrap ((v.len:Int)-4)=((b.length-4:Nat):Int):=by rw[D7 (by omega) (by omega)];omega
   simp only[hw];have qT:(J5 b ((b.length-4:Nat):Int) 4).1=(I8 (b.drop (b.length-4)):Int):=by
    have e:=Pe (b:=b) (a:=b.length-4) (w:=4) (by decide) (by decide) (by omega);rw[PZ (by rw[OJ];omega)]at e;exact e
   refine C4 (BH _ v b (dM (X:=[])) (by omega) _ 4) ((J5 b ((b.length-4:Nat):Int) 4).1,(J5 b ((b.length-4:Nat):Int) 4).2,()) rfl ?_;rw[qT];refine Q2 (l':=0) (h':=b.length-4) (m':=v.cap) rfl rfl rfl (by omega) (by omega) (NF _) ?_;have bM:G0 ((n1,Obj.cells #[.i 0,.i 0,.i 0,.i 0,.i 0] 142)::A) (G7 v ((0:Nat):Int) ((b.length-4:Nat):Int) v.cap 1) (b.take (b.length-4)):=by
    have:=Sl.slc (m:=v.cap) (dM (X:=[])) (by omega) (l:=0) (h':=b.length-4) (by omega) (by omega) (by omega);rw[Jv]at this;simpa using this
   refine C4 (LZ _ _ _ bM (by rw[NW];omega)) (K0 (b.take (b.length-4)),()) rfl ?_;clear bM;refine Bb (fun(dH:(I8 (b.drop (b.length-4)):Int)≠K0 (b.take (b.length-4)))=>Fo [] (CX hS fR (fun e=>dH e.symm))) (fun(zX:(I8 (b.drop (b.length-4)):Int)=K0 (b.take (b.length-4)))=>?_);have dH:=zX.symm;obtain⟨a,ha⟩:=hb.some (show 0<b.length by omega);have eN: ∀{X:B1} (i:Nat) (hi:i<b.length) (j:Nat),j=i*1->C0 (a.add j) [.int .u8 (b[i].toNat:Int)] (X++(n1,Obj.cells #[.i 0,.i 0,.i 0,.i 0,.i 0] 142)::A):=fun{X} i hi j hj=>(dM (X:=X)).rd hi ha j hj;refine C4 (BH _ v b (dM (X:=[])) (by omega) 4 4) ((I8 ((b.drop 4).take 4):Int),(J5 b 4 4).2,()) (by rw[<-Pe (by decide) (by decide) (by omega)];rfl) ?_;have hn:K2 b<65536:=Ac7 b;refine C4 (BH _ v b (dM (X:=[])) (by omega) 10 2) ((K2 b:Int),(J5 b 10 2).2,()) (by unfold K2;rw[<-Pe (by decide) (by decide) (by omega)];rfl) ?_;refine B7 ha (H7 (by decide) (by omega) (B7 ha (H7 (by decide) (by omega) (B7 ha (H7 (by decide) (by omega) (B7 ha (H7 (by decide) (by omega) ?_)))))));refine B5 (b[0].toNat:Int) (eN (X:=[]) 0 (by omega) _ rfl) (B5 (b[1].toNat:Int) (eN (X:=[]) 1 (by omega) _ rfl) (B5 (b[2].toNat:Int) (eN (X:=[]) 2 (by omega) _ rfl) (B5 (b[8].toNat:Int) (eN (X:=[]) 8 (by omega) _ rfl) ?_)));have hu: ∀x:UInt8,IntKind.i64.wrap (x.toNat:Int)=(x.toNat:Int):=fun x=>by have:=x.toNat_lt;exact D7 (by omega) (by omega)
   have hh:U2 b=((b[0].toNat:Int),(b[1].toNat:Int),(b[2].toNat:Int),(I8 ((b.drop 4).take 4):Int),(b[8].toNat:Int),()):=by
    unfold U2;rw[Gv (show 0<b.length by omega),Gv (show 1<b.length by omega),Gv (show 2<b.length by omega),Gv (show 8<b.length by omega)]
   simp only[hu];refine C9 fun n2 _=>F6 [] _ rfl rfl (by simp) (.inl (NF _)) #[.i b[0].toNat,.i b[1].toNat,.i b[2].toNat,.i (I8 ((b.drop 4).take 4)),.i b[8].toNat] rfl ?_;rw[NT];have l2: ∀{X:B1},C0 n2.z (Ya (U2 b)) (X++(n2,Obj.cells #[.i b[0].toNat,.i b[1].toNat,.i b[2].toNat,.i (I8 ((b.drop 4).take 4)),.i b[8].toNat] 142)::(n1,Obj.cells #[.i 0,.i 0,.i 0,.i 0,.i 0] 142)::A):=fun{X}=>by
    rw[hh];exact C2 (n:=n2) (c:=#[.i b[0].toNat,.i b[1].toNat,.i b[2].toNat,.i (I8 ((b.drop 4).take 4)),.i b[8].toNat]) (T:=142) (fz:=(0,0)) (by simp) rfl
   generalize (n2,Obj.cells #[.i b[0].toNat,.i b[1].toNat,.i b[2].toNat,.i (I8 ((b.drop 4).take 4)),.i b[8].toNat] 142)=o2 at l2⊢;clear hu hh;have xS:IntKind.i64.wrap ((v.len:Int)-16)=((b.length-16:Nat):Int):=by rw[D7 (by omega) (by omega)];omega
   rw[xS];refine D3 (fun(oU:(K2 b:Int)>((b.length-16:Nat):Int))=>Fo [o2] (Kl hS fR dH ((Ib b).2 (.inr (.inr (.inl (by omega))))))) (fun(iZ: ¬(K2 b:Int)>((b.length-16:Nat):Int))=>?_);have xR:IntKind.i64.wrap (12+(K2 b:Int))=((12+K2 b:Nat):Int):=by rw[D7 (by omega) (by omega)];omega
   simp only[xR];refine C9 fun n3 _=>Q2 (l':=12) (h':=12+K2 b) (m':=v.cap) rfl rfl rfl (by omega) (by omega) (NF _) ?_;have cJ: ∀{o:Nat×Obj},G0 (o::o2::(n1,Obj.cells #[.i 0,.i 0,.i 0,.i 0,.i 0] 142)::A) (G7 v ((12:Nat):Int) ((12+K2 b:Nat):Int) v.cap 1) (Am b):=by
    intro o;have:=Sl.slc (m:=v.cap) (dM (X:=[o,o2])) (by omega) (l:=12) (h':=12+K2 b) (by omega) (by omega) (by omega);rw[Jv,VP]at this;exact this
   have mB:(G7 v ((12:Nat):Int) ((12+K2 b:Nat):Int) v.cap 1).len=K2 b:=by simp only[G7,NK];omega
   generalize G7 v ((12:Nat):Int) ((12+K2 b:Nat):Int) v.cap 1=s3 at cJ mB⊢;refine Q1 Be Dp [] (o2::(n1,Obj.cells #[.i 0,.i 0,.i 0,.i 0,.i 0] 142)::A) Km rfl (.sl cJ) (Ac _) (by first|omega|(simp only;omega)) fun s4 seg4 eH own4=>?_;rw[NT]at own4;refine B5 (U2 b) l2 ?_;rw[bY];refine K3 [] [] (Bl0 ([]++seg4++(o2::(n1,Obj.cells #[.i 0,.i 0,.i 0,.i 0,.i 0] 142)::A)) (U2 b) s4 (Am b) own4.sl.right.left ((b.length:Nat):Int) (by omega)) (by simp) ?_;rintro _ _-⟨s7,seg7,rfl,rfl,own7⟩;rw[NP,NT,NT];refine⟨(s7,_,()),rfl,?_⟩;have aQ:=CS (b:=b) (by omega);have hX:seg7++(seg4++(o2::(n1,Obj.cells #[.i 0,.i 0,.i 0,.i 0,.i 0] 142)::A))=(seg7++(seg4++[o2]))++(n1,Obj.cells #[.i 0,.i 0,.i 0,.i 0,.i 0] 142)::A:=by simp
   by_cases he:J7 (U2 b)=0
   ·rw[EV hS he (by omega)]at own7⊢;refine D8 rfl ?_;have aB:=Zn hS.1 dH (by omega);have hb7:G0 (seg7++(seg4++(o2::(n1,Obj.cells #[.i 0,.i 0,.i 0,.i 0,.i 0] 142)::A))) v b:=hb.cons.cons.right.right;refine Mi own7.sl.left (Mi hb7 ?_);simp only[AJ];by_cases hE:I9 (U2 b) (Am b) b.length=b
    ·obtain⟨e1,e2,e3⟩:=aB.1 hE;refine D8 (by rw[hE];simp) ?_;refine B5 (U2 b) ?_ ?_
     ·have:=l2 (X:=seg7++seg4);rw[NZ]at this;exact this
     rw[<-NZ];exact Ab5 (Wy hS fR dH (CQ e1 e2 (by omega) he e3)) own4 seg7 [o2]
    ·refine E9 ?_ ?_
     ·simp only[WO,WQ];intro e;apply hE;have:=congrArg (fun x:ByteArray=>x.data.toList) e;simpa using this
     rw[hX];refine Fo _ (Kl hS fR dH ?_);cases hq:Lq b with
     |true=>rfl
     |false=>
      exfalso;apply hE;apply aB.2;have aT:=fun c=>(XM.1 hq) ((Ib b).2 c);refine⟨QQ fun c=>aT (.inl c),QQ fun c=>aT (.inr (.inl c)),fun x hx=>QQ fun c=>aT (.inr (.inr (.inr (.inr ⟨x,hx,c⟩))))⟩
   ·rw[Ai8 hS he];refine E9 (by simpa using he) ?_;rw[hX];exact Fo _ (Kl hS fR dH ((Ib b).2 (.inr (.inr (.inr (.inl he))))))
abbrev It:=Int×Int×Int×Unit
variable{x:It}{l:List It}
def P6(x:It):List Value:=[.i x.1,.i x.2.1,.i x.2.2.1]
def W0(x:It):(P6 x).length=3:=rfl
def Ah9(x:It):Value:=.agg (ki3 x)
def Ah7(l:List It):(l.flatMap P6).all Bt=true:=by
 induction l with
 |nil=>rfl
 |cons e r ih=>rw[OL,VU,ih];rfl
abbrev JK:TypeId:=129
abbrev Gx:TypeId:=208
abbrev JH:TypeId:=65
abbrev Bf:TypeId:=100
def GH:V4 PP JK Gx 3 24 [.i 0,.i 0,.i 0]:=De (by kernel_rfl) (by kernel_rfl) rfl (by decide) (by decide)
def AN:W6 PP JK:=.inl ⟨Gx,by kernel_rfl⟩
def Qx:V4 PP JH Bf 3 24 [.i 0,.i 0,.i 0]:=De (by kernel_rfl) (by kernel_rfl) rfl (by decide) (by decide)
def Vw:W6 PP JH:=.inl ⟨Bf,by kernel_rfl⟩
def II:Jn PP Bf=true:=by kernel_rfl
def Ag(n:Int):UInt8:=UInt8.ofNat n.toNat
def Ba(l:List Int):Prop:= ∀n∈l,0<=n/\n<=255
def IL(h0:0<=n)(h1:n<=255):IntKind.u8.wrap n=((Ag n).toNat:Int):=by
 rw[IE h0 h1];unfold Ag;rw[UInt8.toNat_ofNat',Nat.mod_eq_of_lt (by omega)];omega
def As9(A:B1)(v:B6)(b:List UInt8)(seg:B1)(own:C5 v 1 eB (F9 b) seg)(hb:b.length<=1000000)(u:B6)(l:List Int)(hu:R4 A u .i64 l)(hl:l.length<=1000):
  CallF PP 112 #[.slice v.a v.len v.cap,.slice u.a u.len u.cap] (seg++A) fun r L'=> ∃seg',L'=seg'++A/\((Ba l/\ ∃v':B6,r= .t #[.slice v'.a v'.len v'.cap,.b true]/\C5 v' 1 eB (F9 (b++l.map Ag)) seg')\/(¬Ba l/\r= .t #[.slice none 0 0,.b false])):=by
 refine(e112 v u).c ?_;have fI:=hu.len;refine G1 (fun z' z L'=> ∃(i:Nat) (s:B6) (sg J:B1),i<=l.length/\z'=l.length-i/\z=(s,(i:Int),())/\L'=J++(sg++A)/\C5 s 1 eB (F9 (b++(l.take i).map Ag)) sg/\Ba (l.take i)) l.length ⟨0,v,seg,[],by omega,by omega,rfl,rfl,by simpa using own,by intro n hn;simp at hn⟩ ?_;rintro z' z _ ⟨i,s,sg,J,hi,rfl,rfl,rfl,owns,cC⟩;refine D3 (fun(hO:(i:Int)<(u.len:Int))=>?_) (fun(aM: ¬(i:Int)<(u.len:Int))=>?_)
 ·have hJ:i<l.length:=by omega
  obtain⟨a,ha⟩:=hu.some hJ;have cH:=hu.rd hJ ha ((i:Int).toNat*1) (by rw[NK]);have aU:=owns.sl.len;rw[Y1,NR,NL,NW]at aU;refine B7 ha (H7 (show(0:Int)<=(i:Int) by omega) hO (B5 l[i] (cH.mono fun x hx=>by simp[hx]) ?_));have aT: ¬(0<=l[i]/\l[i]<=255)->HL.Ends (fun r L'=> ∃seg',L'=seg'++A/\((Ba l/\ ∃v':B6,r= .t #[.slice v'.a v'.len v'.cap,.b true]/\C5 v' 1 eB (F9 (b++l.map Ag)) seg')\/(¬Ba l/\r= .t #[.slice none 0 0,.b false]))) (.t #[.slice none 0 0,.b false]) (J++(sg++A)):=
   fun h=>.app (.of ⟨sg,rfl,.inr ⟨fun hh=>h (hh _ (NO hJ)),rfl⟩⟩)
  refine D3 (fun(h1:l[i]<0)=>aT (by omega)) (fun(h1: ¬l[i]<0)=>D3 (fun(h2:l[i]>255)=>aT (by omega)) (fun(h2: ¬l[i]>255)=>?_));refine C9 fun n1 _=>?_;rw[IL (by omega) (by omega)];refine Q1 Be Dp ((n1,Obj.cells #[.int .u8 ((Ag l[i]).toNat:Int)] 5)::J) A owns (by simp) (n:=1) (ws:=F9 [Ag l[i]]) (x:=.slice (some n1.z) 1 1) (Src.sl (v:=⟨some n1.z,1,1⟩) ⟨rfl,NF _,.inr ⟨_,rfl,C2 NG rfl⟩⟩) rfl (by omega) fun s' sg' bZ own'=>?_;refine⟨l.length-(i+1),by omega,i+1,s',sg',_,by omega,rfl,?_,NZ ..,?_,?_⟩
  ·rw[D7 (by first|omega|(simp only;omega)) (by first|omega|(simp only;omega))];rfl
  ·rw[<-Mg]at own';rw[OB hJ,NQ,<-NZ];exact own'
  ·intro n hn;rw[OB hJ]at hn;rcases NJ.1 hn with h3|h3
   ·exact cC n h3
   ·rw[NM.1 h3];omega
 ·obtain rfl:i=l.length:=by omega
  rw[OE]at owns cC;exact .app (.of ⟨sg,rfl,.inl ⟨cC,s,rfl,owns⟩⟩)
def Du(x:It):Prop:=0<=x.1/\x.1<=15/\0<=x.2.1/\x.2.1<=15/\1<=x.2.2.1/\x.2.2.1<=1073741824
instance (x:It):Decidable (Du x):=by unfold Du;infer_instance
def MG(L:B1)(x:It):Reads PP 111 #[.agg (ki3 x)] L (.b (decide (Du x))):=by
 refine(e111 x).r ?_;refine C9 fun n1 _=>?_;generalize ho:(n1,Obj.cells (ki3 x) 100)=o1;have lc:C0 n1.z [.i x.1,.i x.2.1,.i x.2.2.1] (o1::L):=C2 (by rw[<-ho];exact NG) rfl;clear ho;have lB:C0 n1.z [.i x.1] (o1::L):=lc.pre fun i u hu=>by cases i with|zero=>exact hu|succ i=>exact absurd (show(none:Option Value)=some u from hu) (by simp)
 have aT: ¬Du x->HL.Ends (fun v' L'=>v'=Value.b (decide (Du x))/\L'=L) (.b false) (o1::L):=fun h=>.cons (.of ⟨by rw[OF h],rfl⟩);refine B5 x.1 lB (D3 (fun(h1:x.1≥0)=>?_) (fun(h1: ¬x.1≥0)=>aT (by unfold Du;omega)));refine B5 x.1 lB (D3 (fun(h2:x.1<16)=>?_) (fun(h2: ¬x.1<16)=>aT (by unfold Du;omega)));refine B5 x.2.1 (lc.one 1 rfl) (D3 (fun(h3:x.2.1≥0)=>?_) (fun(h3: ¬x.2.1≥0)=>aT (by unfold Du;omega)));refine B5 x.2.1 (lc.one 1 rfl) (D3 (fun(h4:x.2.1<16)=>?_) (fun(h4: ¬x.2.1<16)=>aT (by unfold Du;omega)));refine B5 x.2.2.1 (lc.one 2 rfl) (D3 (fun(h5:x.2.2.1≥1)=>?_) (fun(h5: ¬x.2.2.1≥1)=>aT (by unfold Du;omega)));refine B5 x.2.2.1 (lc.one 2 rfl) (.cons (.of ⟨?_,rfl⟩));congr 1;rw[UR];exact⟨fun h=>⟨by omega,by omega,by omega,by omega,by omega,h⟩,fun h=>h.2.2.2.2.2⟩
def kb(x:It):List UInt8:=[Ag x.1,Ag x.2.1]++E4 x.2.2.1.toNat 4
def ER(x:It):(kb x).length=6:=by simp[kb,Df]
def Mk(l:List It):Prop:= ∀x∈l,Du x
instance (l:List It):Decidable (Mk l):=by unfold Mk;infer_instance
def K9(l:List It):List UInt8×Int:=if Mk l then(l.flatMap kb,0)else([],3)
def Ah0(l:List It):(l.flatMap kb).length=l.length*6:=by
 induction l with
 |nil=>rfl
 |cons x r ih=>rw[OL,NR,ER,ih,NU];omega
def Ax2(p:List UInt8×Int)(A:B1)(r:Value)(L':B1):Prop:= ∃g:PG,r= .t #[g.val,.i p.2]/\L'=g.seg++A/\g.Ok/\g.l=p.1
def Bz8(A:B1)(v:B6)(l:List It)(h:Sl A v 3 (l.flatMap P6))(hl:l.length<=1000):CallF PP 58 #[.slice v.a v.len v.cap] A (Ax2 (K9 l) A):=by
 refine(e58 v).c ?_;have bY:=h.els_len W0 (by decide);refine G1 (fun z' z L'=> ∃(i:Nat) (s:B6) (sg J:B1),i<=l.length/\z'=l.length-i/\z=(s,(i:Int),())/\L'=sg++(J++A)/\C5 s 1 eB (F9 ((l.take i).flatMap kb)) sg/\Mk (l.take i)) l.length ⟨0,⟨none,0,0⟩,[],[],by omega,by omega,rfl,rfl,O5,by intro n hn;simp at hn⟩ ?_;rintro z' z _ ⟨i,s,sg,J,hi,rfl,rfl,rfl,own,aA⟩;refine D3 (fun(hO:(i:Int)<(v.len:Int))=>?_) (fun(aM: ¬(i:Int)<(v.len:Int))=>?_)
 ·have hJ:i<l.length:=by omega
  obtain⟨a,ha,l1⟩:=h.el W0 (by decide) hJ;refine B7 ha (H7 (show(0:Int)<=(i:Int) by omega) hO (B5 (l[i]:It) (by rw[NK];exact l1.mono fun x hx=>by simp[hx]) (C9 fun n1 _=>?_)));refine F6 (n:=n1) (off:=0) (c:=#[.i 0,.i 0,.i 0]) (T:=Bf) (fz:=(0,0)) [] (sg++(J++A)) rfl rfl (by simp) (.inl (NF _)) #[.i l[i].1,.i l[i].2.1,.i l[i].2.2.1] rfl ?_;rw[NT];generalize ho:((n1,Obj.cells #[.i l[i].1,.i l[i].2.1,.i l[i].2.2.1] Bf):Nat×Obj)=o1;have lc: ∀L:B1,o1∈L->C0 n1.z [.i l[i].1,.i l[i].2.1,.i l[i].2.2.1] L:=fun L hm=>C2 (by rw[<-ho]at hm;exact hm) rfl;clear ho;refine B5 (l[i]:It) (lc _ NG) (C4 (MG _ l[i]) (decide (Du l[i]),()) rfl ?_);by_cases hr:Du l[i]
  case neg=>
   rw[OF hr];have hk:K9 l=([],3):=by unfold K9;rw[ND (fun hh=>hr (hh _ (NO hJ)))]
   refine E9 rfl (.cons (.app (.app (.of ⟨Lp,by rw[hk];rfl,rfl,Td,by rw[hk];rfl⟩))))
  rw[OH hr];have wV:=hr;unfold Du at wV;have pJ:=Ah0 (l.take i);rw[NW]at pJ;refine D8 rfl (B5 l[i].1 ((lc _ NG).pre fun i u hu=>by cases i with|zero=>exact hu|succ i=>exact absurd (show(none:Option Value)=some u from hu) (by simp)) (B5 l[i].2.1 ((lc _ NG).one 1 rfl) (C9 fun n2 _=>?_)));generalize eO:((n2,Obj.cells #[.i l[i].1,.i l[i].2.1] 3):Nat×Obj)=o2;have eZ:R4 (o2::o1::(J++A)) ⟨some n2.z,2,2⟩ .i64 [l[i].1,l[i].2.1]:=⟨rfl,NF _,.inr ⟨_,rfl,C2 (n:=n2) (off:=0) (T:=3) (fz:=(0,0)) (c:=#[.i l[i].1,.i l[i].2.1]) (by rw[eO];exact NG) rfl⟩⟩;refine H0 (As9 (o2::o1::(J++A)) s _ sg own (by omega) ⟨some n2.z,2,2⟩ [l[i].1,l[i].2.1] eZ (by simp)) (R:=[]) ?_ ?_
  ·classical
   rw[ON];intro x;simp only[PM,OM,OP,OV,PJ];omega
  rintro _ _ ⟨sg2,rfl,⟨-,s2,rfl,own2⟩|⟨hn,-⟩⟩
  case inr=>exact absurd (show Ba [l[i].1,l[i].2.1] by intro n hn;simp at hn;omega) hn
  refine⟨sg2++(o2::o1::(J++A)),by rw[NP],(s2,true,()),rfl,B5 l[i].2.2.1 ((lc _ (by simp)).one 2 rfl) ?_⟩;have iR:=own2.sl.len;rw[Y1,NR,NL]at iR;refine K3 [] [] (Vm (sg2++(o2::o1::(J++A))) s2 _ own2.sl.left (by rw[NR,NL];simp only[NU,OX];omega) l[i].2.2.1 4 (by omega)) (by simp) ?_;rintro _ _-⟨s3,sg3,rfl,rfl,own3⟩;rw[Lg (by decide) (by omega) (by show l[i].2.2.1.toNat<4294967296;omega)]at own3⊢;rw[NT,NP];refine⟨(s3,0,()),rfl,l.length-(i+1),by omega,i+1,s3,sg3,sg2++(o2::o1::J),by omega,rfl,?_,by simp,?_,?_⟩
  ·rw[D7 (by first|omega|(simp only;omega)) (by first|omega|(simp only;omega))];rfl
  ·rw[OB hJ,OD,PU];unfold kb;rw[<-NZ];exact own3
  ·intro n hn;rw[OB hJ]at hn;rcases NJ.1 hn with h3|h3
   ·exact aA n h3
   ·rw[NM.1 h3];exact hr
 ·obtain rfl:i=l.length:=by omega
  rw[OE]at own aA;have hk:K9 l=(l.flatMap kb,0):=by unfold K9;rw[NE aA]
  unfold Ax2;rw[hk];refine .drop (A:=sg++A) (J:=J) ⟨⟨s,sg,_⟩,rfl,rfl,own,rfl⟩ ?_
  classical
  rw[ON];intro x;simp only[PM,OM,OP,OV,PJ];omega
def Z0(p:List UInt8)(i:Nat):It:=(((p.getD (i*6) 0).toNat:Int),((p.getD (i*6+1) 0).toNat:Int),(I8 ((p.drop (i*6+2)).take 4):Int),())
def Er(p:List UInt8)(n:Nat):List It:=(List.range n).map (Z0 p)
def NC(p:List UInt8)(n:Nat):Er p (n+1)=Er p n++[Z0 p n]:=by simp[Er,TX]
def Aa0(p:List UInt8)(n:Nat):(Er p n).length=n:=by simp[Er]
def V1(p:List UInt8):List It×Int:=if p.length%6≠0 then([],5)else if Mk (Er p (p.length/6))then(Er p (p.length/6),0)else([],5)
def Vj(e:TypeId)(q:List It×Int)(A:B1)(r:Value)(L':B1):Prop:= ∃(v:B6) (seg:B1),r= .t #[.slice v.a v.len v.cap,.i q.2]/\L'=seg++A/\C5 v 3 e (q.1.flatMap P6) seg
def Vj.err{e:TypeId}{q:List It×Int}(h:q=([],z)):Vj e q A (.t #[.slice none 0 0,.i z]) A:=⟨⟨none,0,0⟩,[],by rw[h],rfl,by rw[h];exact O5⟩
def Uo(h:i<b.length):b.getD i 0=b[i]:=by simp[NX,h]
def Rx(x:UInt8):IntKind.i64.wrap (x.toNat:Int)=(x.toNat:Int):=by
 have:=x.toNat_lt;exact D7 (by omega) (by omega)
def Bz5(A:B1)(v:B6)(p:List UInt8)(h:G0 A v p)(hl:p.length<=10000):CallF PP 126 #[.slice v.a v.len v.cap] A (Vj Bf (V1 p) A):=by
 refine(e126 v).c ?_;have bY:=h.len;have sA:Int.tmod (v.len:Int) 6=((p.length%6:Nat):Int):=by rw[TI (by omega),bY];omega
 refine Dv (by decide) ?_;rw[sA];refine Bb (fun(h6:((p.length%6:Nat):Int)≠0)=>.of (Vj.err (by unfold V1;rw[NE (by omega)]))) (fun(h6:((p.length%6:Nat):Int)=0)=>?_);obtain⟨n,hn⟩: ∃n,p.length=n*6:=⟨p.length/6,by omega⟩;have iH:p.length/6=n:=by omega
 refine G1 (fun z' z L'=> ∃(i:Nat) (s b:B6) (sg J:B1),i<=n/\z'=n-i/\z=(s,b,())/\L'=J++(sg++A)/\C5 s 3 Bf ((Er p i).flatMap P6) sg/\Mk (Er p i)/\G0 A b (p.drop (i*6))) n ⟨0,⟨none,0,0⟩,v,[],[],by omega,by omega,rfl,rfl,O5,by intro n hn;simp[Er]at hn,by simpa using h⟩ ?_;rintro z' z _ ⟨i,s,b,sg,J,hi,rfl,rfl,rfl,own,aA,hb⟩;have dI:=hb.len;rw[OJ]at dI;have vY:=hb.cap;have bM:=own.sl.els_len W0 (by decide);rw[Aa0]at bM;refine D3 (fun(sP:(b.len:Int)>0)=>?_) (fun(bV: ¬(b.len:Int)>0)=>?_)
 ·have hJ:i<n:=by omega
  have hB:G0 (J++(sg++A)) b (p.drop (i*6)):=hb.right.right;have dl:6<=(p.drop (i*6)).length:=by rw[OJ];omega
  refine C4 (Vp _ b _ hB (by rw[OJ];omega) 2 4) ((J5 (p.drop (i*6)) 2 4).1,(J5 (p.drop (i*6)) 2 4).2,()) rfl ?_;have hwg:(J5 (p.drop (i*6)) 2 4).1=(I8 ((p.drop (i*6+2)).take 4):Int):=by
   have:=Ru (b:=p.drop (i*6)) (a:=2) (w:=4) (by decide) (by decide) (by omega);rw[QB]at this;exact congrArg Prod.fst this
  rw[hwg];obtain⟨a,ha⟩:=hB.some (i:=0) (by omega);have e0:(p.drop (i*6))[0]'(by omega)=p.getD (i*6) 0:=by rw[Uo (by omega),UA];simp
  have e1:(p.drop (i*6))[1]'(by omega)=p.getD (i*6+1) 0:=by rw[Uo (by omega),UA]
  have l0:=hB.rd (i:=0) (by omega) ha ((0:Int).toNat*1) rfl;have l1:=hB.rd (i:=1) (by omega) ha ((1:Int).toNat*1) rfl;rw[e0]at l0;rw[e1]at l1;refine B7 ha (H7 (by decide) (show(0:Int)<(b.len:Int) by omega) (B7 ha (H7 (by decide) (show(1:Int)<(b.len:Int) by omega) (B5 ((p.getD (i*6) 0).toNat:Int) l0 (B5 ((p.getD (i*6+1) 0).toNat:Int) l1 (C9 fun n1 _=>?_))))));rw[Rx,Rx];refine F6 (n:=n1) (off:=0) (c:=#[.i 0,.i 0,.i 0]) (T:=Bf) (fz:=(0,0)) [] (J++(sg++A)) rfl rfl (by simp) (.inl (NF _)) #[.i (Z0 p i).1,.i (Z0 p i).2.1,.i (Z0 p i).2.2.1] rfl ?_;rw[NT];refine B5 (Z0 p i) (C2 NG rfl) (C4 (MG _ (Z0 p i)) (decide (Du (Z0 p i)),()) rfl ?_);by_cases hr:Du (Z0 p i)
  case neg=>
   rw[OF hr];have hk:V1 p=([],5):=by
    unfold V1;rw[ND (by omega),iH,ND (fun hh=>hr (hh _ (NY.2 ⟨i,QT.2 hJ,rfl⟩)))]
   exact E9 rfl (.cons (.app (.app (.of (Vj.err hk)))))
  rw[OH hr];refine D8 rfl (B5 (Z0 p i) (C2 NG rfl) (C9 fun n2 _=>?_));generalize ((n1,Obj.cells #[.i (Z0 p i).1,.i (Z0 p i).2.1,.i (Z0 p i).2.2.1] Bf):Nat×Obj)=o1;refine Q1 Qx Vw ((n2,Obj.cells #[.i (Z0 p i).1,.i (Z0 p i).2.1,.i (Z0 p i).2.2.1] Bf)::o1::J) A own (by simp) (n:=1) (ws:=P6 (Z0 p i)) (x:=.slice (some n2.z) 1 1) (Src.sl (v:=⟨some n2.z,1,1⟩) ⟨rfl,NF _,.inr ⟨_,rfl,C2 NG rfl⟩⟩) rfl (by omega) fun s2 sg2 aP own2=>?_;refine Q2 (l':=6) (h':=b.len) (m':=b.cap) rfl rfl rfl (by omega) (by omega) (NF _) ?_;have cE:G0 A (G7 b ((6:Nat):Int) (b.len:Int) (b.cap:Int) 1) (p.drop ((i+1)*6)):=by
   have h0:=Sl.slc (m:=b.cap) hb (by decide) (l:=6) (h':=b.len) (by omega) (by omega) (by omega);rw[Jv,PZ (by rw[OJ,OJ];omega),QB]at h0;rw[show(i+1)*6=i*6+6 by omega];exact h0
  refine⟨n-(i+1),by omega,i+1,s2,_,sg2,_,by omega,rfl,rfl,NZ ..,?_,?_,cE⟩
  ·rw[NC,OD,PU];exact own2
  ·intro x hx;rw[NC]at hx;rcases NJ.1 hx with h3|h3
   ·exact aA x h3
   ·rw[NM.1 h3];exact hr
 ·obtain rfl:i=n:=by omega
  have hk:V1 p=(Er p i,0):=by unfold V1;rw[ND (by omega),iH,NE aA]
  exact .app (.of ⟨s,sg,by rw[hk],rfl,by rw[hk];exact own⟩)
def T6(ps:List (List UInt8))(at':Int)(h:Hd):Option (List UInt8):=
 if 0<=at'/\at'<16 then match ps[at'.toNat]? with
  |some b=>if(C1 b).2.2=0/\(C1 b).1=h then some (C1 b).2.1 else none
  |none=>none
 else none
def Ig(ps:List (List UInt8)):Nat->Nat
 |0=>0
 |n+1=>if R7 (ps.getD (n+1) [])then Ig ps n else n+1
def J8(ps:List (List UInt8)):Nat:=Ig ps (min ps.length 16-1)
theorem EP(ps:List (List UInt8)): ∀n,Ig ps n<=n
 |0=>NF _
 |n+1=>by
  unfold Ig;split
  ·exact Nat.le_succ_of_le (EP ps n)
  ·exact NF _
def I4(p:List UInt8)(i:Nat):It:=(((p.getD (i*3) 0).toNat:Int),((p.getD (i*3+1) 0).toNat:Int),((p.getD (i*3+2) 0).toNat:Int),())
def Cu(p:List UInt8):Nat->Nat->Int->Option (List It×Int)
 |0,_,nx=>some ([],nx)
 |n+1,i,nx=>if((I4 p i).1=2\/(I4 p i).1=3)/\(I4 p i).2.2.1≠0/\(I4 p i).2.1=nx then(Cu p n (i+1) (nx+(I4 p i).2.2.1)).map fun y=>(I4 p i::y.1,y.2)else none
def Ax(p:List UInt8)(last:Nat):Option (List It):=
 if p.length%3≠0 then none else match Cu p (p.length/3) 0 1 with
 |some y=>if y.2=last then some y.1 else none
 |none=>none
def Q9(ps:List (List UInt8))(ep:Int)(at':Nat):Option It:=
 match ps[at']? with
 |some b=>if(C1 b).2.2=0/\((C1 b).1.1=2\/(C1 b).1.1=3)then
   if(List.range (C1 b).1.2.2.1.toNat).all (fun i=>(T6 ps ((at':Int)+i) ((C1 b).1.1,i,(C1 b).1.2.2.1,ep,(at':Int)+i,())).isSome)=true then some ((C1 b).1.1,at',(C1 b).1.2.2.1,())else none
  else none
 |none=>none
def Ao(f:Nat->Option It)(last:Nat):Nat->Nat->List It
 |0,_=>[]
 |k+1,p=>if p<=last then match f p with
  |some x=>x::Ao f last k (p+x.2.2.1.toNat)
  |none=>Ao f last k (p+1)
  else[]
def Gl(ps:List (List UInt8))(ep:Int):Option (List It):=(T6 ps (J8 ps) (4,0,1,ep,J8 ps,())).bind fun p=>Ax p (J8 ps)
def N4(ps:List (List UInt8)):Int:=(C1 (ps.getD 0 [])).1.2.2.2.1
def P1(ps:List (List UInt8)):(Int×Bool×List It)×Bool:=
 if ps=[]then((0,false,[]),false)else
 match T6 ps 0 (1,0,1,N4 ps,0,())with
 |some []=>match(if J8 ps>0 then Gl ps (N4 ps)else none)with
  |some l=>((N4 ps,true,l),true)
  |none=>((N4 ps,false,Ao (Q9 ps (N4 ps)) (J8 ps) 17 1),true)
 |_=>((0,false,[]),false)
def Wx(h:(C1 b).2.2=0):J7 (C1 b).1=0:=by
 unfold C1 at h⊢;split at h
 ·exact absurd h (by simp)
 ·rename_i h1;split at h
  ·exact absurd h (by simp)
  ·rename_i h2;split at h
   ·exact absurd h (by simp)
   ·rename_i h3;split at h
    ·exact absurd h (by simp)
    ·rename_i h4;rw[ND h1,ND h2,ND h3,ND h4];simp only;by_cases he:J7 (U2 b)=0
     ·exact he
     ·exact absurd ((Ib b).2 (.inr (.inr (.inr (.inl he))))) h4
def Wz(b:List UInt8):(C1 b).2.1.length<=b.length:=by
 unfold C1;split
 ·exact PQ _
 ·split
  ·exact PQ _
  ·split
   ·exact PQ _
   ·split
    ·exact PQ _
    ·show(Am b).length<=b.length;unfold Am;rw[NW,OJ];omega
abbrev JL:TypeId:=324
abbrev Kv:TypeId:=328
def Cm3:V4 PP JL Kv 7 72 [.i 0,.i 0,.i 0,.i 0,.i 0,.slice none 0 0,.b false]:=De (by kernel_rfl) (by kernel_rfl) rfl (by decide) (by decide)
def Be0:W6 PP JL:=.inl ⟨Kv,by kernel_rfl⟩
structure IM where
 h:Hd
 g:PG
 fine:Bool
def IM.enc(x:IM):List Value:=[.i x.h.1,.i x.h.2.1,.i x.h.2.2.1,.i x.h.2.2.2.1,.i x.h.2.2.2.2.1,x.g.val,.b x.fine]
def IM.enc_len(x:IM):x.enc.length=7:=rfl
def IM.dat(x:IM):Hd×List UInt8×Bool:=(x.h,x.g.l,x.fine)
def Ue(b:List UInt8):Hd×List UInt8×Bool:=((C1 b).1,(C1 b).2.1,decide ((C1 b).2.2=0))
def Eh(l:List IM):B1:=l.flatMap fun x=>x.g.seg
def Cd0(a b:List IM):Eh (a++b)=Eh a++Eh b:=OD
def Cc9(a:IM):Eh [a]=a.g.seg:=by simp[Eh]
def sO(m:Nat)(sv:B6)(ep last:Int):Nat×Obj:=(m,.cells #[.slice sv.a sv.len sv.cap,.i ep,.i last] 326)
structure Vf(ps:List (List UInt8))(sv:B6)(seg:B1)(ims:List IM):Prop where
 own:C5 sv 7 Kv (ims.flatMap IM.enc) seg
 ok: ∀x∈ims,x.g.Ok
 dat:ims.map IM.dat=(ps.take 16).map Ue
 len: ∀b∈ps,b.length<=1000000
def SH(m:Nat)(ps:List (List UInt8))(ep:Int)(last:Nat)(A:B1):Prop:= ∃sv seg ims,A=sO m sv ep last::(seg++Eh ims)/\Vf ps sv seg ims
section
variable {L:B1} {m:Nat} {sv:B6} {ep last:Int} {ps:List (List UInt8)} {seg:B1} {ims:List IM}
def Li(h:sO m sv ep last∈L):C0 m.z [.slice sv.a sv.len sv.cap] L:=C2 (by unfold sO at h;exact h) rfl
def We(h:sO m sv ep last∈L):C0 ⟨m,1,none⟩ [.i ep] L:=C2 (by unfold sO at h;exact h) rfl
def Wd(h:sO m sv ep last∈L):C0 ⟨m,2,none⟩ [.i last] L:=C2 (by unfold sO at h;exact h) rfl
def Vf.ilen(h:Vf ps sv seg ims):ims.length=min 16 ps.length:=by
 have:=congrArg List.length h.dat
 rwa [NL,NL,NW]at this
def Vf.im(h:Vf ps sv seg ims)(hi:i<ims.length): ∃hp:i<ps.length,ims[i].h=(C1 ps[i]).1/\ims[i].g.l=(C1 ps[i]).2.1/\ims[i].fine=decide ((C1 ps[i]).2.2=0):=by
 have hl:=h.ilen;have hp:i<ps.length:=by omega
 refine⟨hp,?_⟩;have h1:(ims.map IM.dat)[i]?=((ps.take 16).map Ue)[i]?:=by rw[h.dat]
 rw[OU,OU,NV hi,YO (by omega),NV hp]at h1;have h2:=NI h1;unfold IM.dat Ue at h2;simp only[QC]at h2;exact h2
end
def Az5:Jn PP 142=true:=by kernel_rfl
def Bu9(x y:Hd){k:F7 (.lf .bool)->HP}(hk:k (!decide (x=y)) L):
  Y8 PP (binOp .neq 142 (.agg (ki5 x)) (.agg (ki5 y))) (.lf .bool) k L:=by
 refine Ac5 (r:=(x.1==y.1&&(x.2.1==y.2.1&&(x.2.2.1==y.2.2.1&&(x.2.2.2.1==y.2.2.2.1&&(x.2.2.2.2.1==y.2.2.2.2.1&&true)))))) Az5 (by kernel_rfl) ?_;have e:decide (x=y)=(x.1==y.1&&(x.2.1==y.2.1&&(x.2.2.1==y.2.2.1&&(x.2.2.2.1==y.2.2.2.1&&(x.2.2.2.2.1==y.2.2.2.2.1&&true))))):=by
  obtain⟨a,b,c,d,f,⟨⟩⟩:=x;obtain⟨a',b',c',d',f',⟨⟩⟩:=y;rw[UT];simp
 rw[e]at hk;exact hk
def Ah8(L:B1)(n:Int):Reads PP 242 #[.i n] L (.b (decide (n=2\/n=3))):=by
 refine(e242 n).r ?_;refine Ex (fun(h:n=2)=>.of ⟨by rw[OH (.inl h)],rfl⟩) (fun(h:n≠2)=>.of ⟨?_,rfl⟩);congr 1;by_cases h3:n=3
 ·rw[h3];rfl
 ·rw[OF (by omega),UO];exact h3
def Bx5(A:B1)(v:B6)(l:List PV)(h:Af A v l)(hl:l.length<=1000000)(hb: ∀x∈l,x.2.length<=1000000):
  CallF PP 215 #[.slice v.a v.len v.cap] A fun r L'=> ∃m B,r= .p m/\L'=B++A/\SH m (l.map Prod.snd) 0 (J8 (l.map Prod.snd)) B:=by
 refine(e215 v).c ?_;have bY:=h.len;have aY:=h.sl.cap;refine C9 fun m _=>?_;have gM:N8 (v.len:Int) 16=((min l.length 16:Nat):Int):=by unfold N8;omega
 simp only[gM];refine Q2 (l':=0) (h':=min l.length 16) (m':=v.cap) rfl rfl rfl (by omega) (by omega) (NF _) ?_;have hs:Sl A (G7 v ((0:Nat):Int) ((min l.length 16:Nat):Int) (v.cap:Int) 1) 1 ((l.take (min l.length 16)).map Nh):=by
  have h0:=Sl.slc (m:=v.cap) h.sl (by decide) (l:=0) (h':=min l.length 16) (by omega) (by omega) (by omega);rw[RL,RY,QK,OS,<-SN]at h0;exact h0
 generalize G7 v ((0:Nat):Int) ((min l.length 16:Nat):Int) (v.cap:Int) 1=s at hs⊢;have aU:=hs.len;rw[NL,NW]at aU;have qY:((m,Obj.cells #[.slice none 0 0,.i 0,.i 0] 326):Nat×Obj)=sO m ⟨none,0,0⟩ 0 ((0:Nat):Int):=rfl;rw[qY];obtain⟨n,hn⟩: ∃n,n=min l.length 16:=⟨_,rfl⟩;have aQ:(l.map Prod.snd).length=l.length:=NL _;refine G1 (fun z' z L'=> ∃(i last:Nat) (sv:B6) (seg:B1) (ims:List IM) (J X Y:B1),i<=n/\z'=n-i/\z=((i:Int),())/\L'=X++sO m sv 0 last::(seg++Y)/\(X++Y).Perm (Eh ims++(J++A))/\C5 sv 7 Kv (ims.flatMap IM.enc) seg/\(∀x∈ims,x.g.Ok)/\ims.map IM.dat=((l.map Prod.snd).take i).map Ue/\last=Ig (l.map Prod.snd) (i-1)) n
  ⟨0,0,⟨none,0,0⟩,[],[],[],[],A,by omega,by omega,rfl,rfl,NH _,O5,by simp,rfl,rfl⟩ ?_
 rintro z' z _ ⟨i,last,sv,seg,ims,J,X,Y,hi,rfl,rfl,rfl,hp,own,aC,bR,dV⟩;have aJ: ∀x∈A,x∈X++sO m sv 0 last::(seg++Y):=by
  intro x hx;have h5:x∈X++Y:=(hp.mem_iff (a:=x)).2 (by simp[hx]);have h6:x∈X\/x∈Y:=by simpa using h5
  rcases h6 with h6|h6<;>simp[h6]
 have iF:ims.length=i:=by
  have:=congrArg List.length bR;rw[NL,NL,NW]at this;omega
 have hvl2:=own.sl.els_len IM.enc_len (by decide);refine D3 (fun(hO:(i:Int)<(s.len:Int))=>?_) (fun(aM: ¬(i:Int)<(s.len:Int))=>?_)
 ·have hJ:i<l.length:=by omega
  obtain⟨a,ha,cH⟩:=hs.at' (i:=i) (by omega) (by decide);have zF:C0 (a.add ((i:Int).toNat*1)) [Nh l[i]] A:=by
   rw[NK,OS];exact cH.one i (by rw[OU,YO (by omega),NV hJ];rfl)
  have ec:=h.val _ (NO hJ);have dI:=hb _ (NO hJ);refine B7 ha (H7 (show(0:Int)<=(i:Int) by omega) hO (B5 l[i].1 (zF.mono aJ) ?_));refine K3 [] [] (CG (X++sO m sv 0 last::(seg++Y)) l[i].1 l[i].2 (Sl.mono ec aJ) dI) (by simp) ?_;rintro _ _-⟨s2,sg2,rfl,rfl,own2⟩;rw[NT,NP];refine⟨((C1 l[i].2).1,s2,(C1 l[i].2).2.2,()),rfl,C9 fun n2 _=>?_⟩;refine F6 (n:=n2) (off:=0) (c:=#[.i 0,.i 0,.i 0,.i 0,.i 0]) (T:=142) (fz:=(0,0)) [] _ rfl rfl (by simp) (.inl (NF _)) #[.i (C1 l[i].2).1.1,.i (C1 l[i].2).1.2.1,.i (C1 l[i].2).1.2.2.1,.i (C1 l[i].2).1.2.2.2.1,.i (C1 l[i].2).1.2.2.2.2.1] rfl ?_;rw[NT];refine B5 sv (Li (m:=m) (ep:=0) (last:=last) (by simp)) (B5 ((C1 l[i].2).1:Hd) (C2 NG rfl) (C9 fun n3 _=>?_));generalize ((n2,Obj.cells #[.i (C1 l[i].2).1.1,.i (C1 l[i].2).1.2.1,.i (C1 l[i].2).1.2.2.1,.i (C1 l[i].2).1.2.2.2.1,.i (C1 l[i].2).1.2.2.2.2.1] 142):Nat×Obj)=o2;have vJ:((C1 l[i].2).2.2==0)=decide ((C1 l[i].2).2.2=0):=by
   by_cases he:(C1 l[i].2).2.2=0
   ·rw[he];rfl
   ·rw[OF he,UO];exact he
  simp only[vJ];refine Q1 Cm3 Be0 ((n3,Obj.cells #[.i (C1 l[i].2).1.1,.i (C1 l[i].2).1.2.1,.i (C1 l[i].2).1.2.2.1,.i (C1 l[i].2).1.2.2.2.1,.i (C1 l[i].2).1.2.2.2.2.1,.slice s2.a s2.len s2.cap,.b (decide ((C1 l[i].2).2.2=0))] Kv)::o2::(sg2++(X++[sO m sv 0 last]))) Y own (by simp)
   (n:=1) (ws:=IM.enc ⟨(C1 l[i].2).1,⟨s2,sg2,(C1 l[i].2).2.1⟩,decide ((C1 l[i].2).2.2=0)⟩) (x:=.slice (some n3.z) 1 1) (Src.sl (v:=⟨some n3.z,1,1⟩) ⟨rfl,NF _,.inr ⟨_,rfl,C2 NG rfl⟩⟩) rfl (by omega) fun v8 seg8 wU own8=>?_
  generalize ((n3,Obj.cells #[.i (C1 l[i].2).1.1,.i (C1 l[i].2).1.2.1,.i (C1 l[i].2).1.2.2.1,.i (C1 l[i].2).1.2.2.2.1,.i (C1 l[i].2).1.2.2.2.2.1,.slice s2.a s2.len s2.cap,.b (decide ((C1 l[i].2).2.2=0))] Kv):Nat×Obj)=o3;refine F6 (n:=m) (off:=0) (c:=#[.slice sv.a sv.len sv.cap,.i 0,.i last]) (T:=326) (fz:=(0,0)) (o3::o2::(sg2++X)) (seg8++Y) rfl (by simp[sO]) (by simp) (.inl (NF _)) #[.slice v8.a v8.len v8.cap,.i 0,.i last] rfl ?_;have jP:((m,Obj.cells #[.slice v8.a v8.len v8.cap,.i 0,.i last] 326):Nat×Obj)=sO m v8 0 last:=rfl;rw[jP];have gV: ∀x∈A,x∈(o3::o2::(sg2++X))++sO m v8 0 last::(seg8++Y):=by
   intro x hx;have h5:x∈X++Y:=(hp.mem_iff (a:=x)).2 (by simp[hx]);have h6:x∈X\/x∈Y:=by simpa using h5
   rcases h6 with h6|h6<;>simp[h6]
  refine C4 (Ab2 _ l[i].1 l[i].2 (Sl.mono ec gV) dI) (R7 l[i].2,()) rfl ?_;have lL:(l.map Prod.snd).getD i []=l[i].2:=by rw[NX,OU,NV hJ];rfl
  have mH:((o3::o2::(sg2++X))++Y).Perm (Eh (ims++[⟨(C1 l[i].2).1,⟨s2,sg2,(C1 l[i].2).2.1⟩,decide ((C1 l[i].2).2.2=0)⟩])++((o3::o2::J)++A)):=by
   rw[Cd0,Cc9]
   classical
   rw[ON]at hp⊢;intro z;have:=hp z;simp only[PM,OM,OP,OV,PJ]at this⊢;omega
  have lK: ∀(last':Nat),last'=Ig (l.map Prod.snd) i->(fun(x':D2 [lI]) (L'':B1)=> ∃k',k'<n-i/\ ∃(i last:Nat) (sv:B6) (seg:B1) (ims:List IM) (J X Y:B1),i<=n/\k'=n-i/\x'=((i:Int),())/\L''=X++sO m sv 0 last::(seg++Y)/\(X++Y).Perm (Eh ims++(J++A))/\C5 sv 7 Kv (ims.flatMap IM.enc) seg/\(∀x∈ims,x.g.Ok)/\ims.map IM.dat=((l.map Prod.snd).take i).map Ue/\last=Ig (l.map Prod.snd) (i-1)) (IntKind.i64.wrap ((i:Int)+1),()) ((o3::o2::(sg2++X))++sO m v8 0 last'::(seg8++Y)):=by
   intro last' bQ;refine⟨n-(i+1),by omega,i+1,last',v8,seg8,ims++[⟨(C1 l[i].2).1,⟨s2,sg2,(C1 l[i].2).2.1⟩,decide ((C1 l[i].2).2.2=0)⟩],o3::o2::J,o3::o2::(sg2++X),Y,by omega,rfl,?_,rfl,mH,?_,?_,?_,bQ⟩
   ·rw[D7 (by first|omega|(simp only;omega)) (by first|omega|(simp only;omega))];rfl
   ·rw[OD,PU];exact own8
   ·intro z hz;rcases NJ.1 hz with h5|h5
    ·exact aC z h5
    ·rw[NM.1 h5];exact own2
   ·rw[NQ,bR,OB (by rw[aQ];exact hJ),NQ,QG];rfl
  cases fR:R7 l[i].2 with
  |true=>
   refine D8 rfl (lK last ?_);rw[dV];cases i with
   |zero=>rfl
   |succ j=>
    rw[Nat.add_sub_cancel];show _=if R7 ((l.map Prod.snd).getD (j+1) [])then Ig (l.map Prod.snd) j else j+1
    rw[lL,fR,NE rfl]
  |false=>
   refine E9 rfl ?_;refine F6 (n:=m) (off:=2) (c:=#[.slice v8.a v8.len v8.cap,.i 0,.i last]) (T:=326) (fz:=(0,0)) (o3::o2::(sg2++X)) (seg8++Y) rfl rfl (by simp) (.inl (NF _)) #[.slice v8.a v8.len v8.cap,.i 0,.i i] rfl ?_;refine lK i ?_;cases i with
   |zero=>rfl
   |succ j=>
    show _=if R7 ((l.map Prod.snd).getD (j+1) [])then Ig (l.map Prod.snd) j else j+1
    rw[lL,fR,ND (by decide)]
 ·obtain rfl:i=n:=by omega
  refine .drop (A:=(sO m sv 0 last::(seg++Eh ims))++A) (J:=J) ⟨m,_,rfl,rfl,sv,seg,ims,?_,own,aC,?_,?_⟩ ?_
  ·have:J8 (l.map Prod.snd)=last:=by rw[dV];unfold J8;rw[aQ,hn]
   rw[this]
  ·rw[bR];congr 1;rcases Nat.le_total l.length 16 with h16|h16
   ·rw[PZ (by omega),PZ (by omega)]
   ·rw[show i=16 by omega]
  ·intro b fZ;obtain⟨x,hx,rfl⟩:=NY.1 fZ;exact hb x hx
  ·classical
   rw[ON]at hp⊢;intro z;have:=hp z;simp only[PM,OM,OP,OV,PJ]at this⊢;omega
def BB(L B:B1)(m:Nat)(ps:List (List UInt8))(ep:Int)(last:Nat)(hB:SH m ps ep last B)(hs: ∀x∈B,x∈L)(at':Int)(h:Hd):
  CallF PP 216 #[.p m,.i at',.agg (ki5 h)] L fun r L'=>L'=L/\
   ((T6 ps at' (h.1,h.2.1,h.2.2.1,ep,at',())=none/\r= .t #[.slice none 0 0,.b false])\/ ∃(v:B6) (p:List UInt8),T6 ps at' (h.1,h.2.1,h.2.2.1,ep,at',())=some p/\r= .t #[.slice v.a v.len v.cap,.b true]/\G0 L v p/\p.length<=1000000):=by
 obtain⟨sv,seg,ims,rfl,hh⟩:=hB;refine(e216 (some m.z) at' h).c ?_;have iC:sO m sv ep last∈L:=hs _ NG;have aU:Sl L sv 7 (ims.flatMap IM.enc):=Sl.mono hh.own.sl fun x hx=>hs x (by simp[hx]);have bY:=aU.els_len IM.enc_len (by decide);have iF:=hh.ilen;refine C9 fun n1 _=>B7 rfl (B5 ep ((We iC).mono fun x hx=>NN _ hx) ?_);refine F6 (n:=n1) (off:=3) (c:=(ki5 h)) (T:=142) (fz:=(0,0)) [] L rfl rfl (by simp) (.inl (NF _)) #[.i h.1,.i h.2.1,.i h.2.2.1,.i ep,.i h.2.2.2.2.1] rfl ?_;refine F6 (n:=n1) (off:=4) (T:=142) (fz:=(0,0)) [] L rfl rfl (by simp) (.inl (NF _)) #[.i h.1,.i h.2.1,.i h.2.2.1,.i ep,.i at'] rfl ?_;rw[NT];generalize hH:((h.1,h.2.1,h.2.2.1,ep,at',()):Hd)=H;have lH:C0 n1.z [.i H.1,.i H.2.1,.i H.2.2.1,.i H.2.2.2.1,.i H.2.2.2.2.1] ((n1,Obj.cells #[.i h.1,.i h.2.1,.i h.2.2.1,.i ep,.i at'] 142)::L):=C2 NG (by rw[<-hH];rfl);generalize (n1,Obj.cells #[.i h.1,.i h.2.1,.i h.2.2.1,.i ep,.i at'] 142)=o1 at lH;have kY: ∀x∈L,x∈o1::L:=fun x hx=>NN _ hx;have aT:T6 ps at' H=none->HL.Ends (fun r L'=>L'=L/\((T6 ps at' H=none/\r= .t #[.slice none 0 0,.b false])\/ ∃(v:B6) (p:List UInt8),T6 ps at' H=some p/\r= .t #[.slice v.a v.len v.cap,.b true]/\G0 L v p/\p.length<=1000000)) (.t #[.slice none 0 0,.b false]) (o1::L):=fun hx=>.cons (.of ⟨rfl,.inl ⟨hx,rfl⟩⟩);refine D3 (fun(h1:at'<0)=>aT (by unfold T6;rw[ND (by omega)])) (fun(h1: ¬at'<0)=>?_);obtain⟨i,rfl⟩: ∃i:Nat,at'=i:=⟨at'.toNat,by omega⟩;refine B7 rfl (B5 sv ((Li iC).mono kY) (D3 (fun(h2:(i:Int)≥(sv.len:Int))=>aT ?_) (fun(h2: ¬(i:Int)≥(sv.len:Int))=>?_)))
 ·unfold T6;by_cases h16:i<16
  ·rw[NE (by omega),NK,SI (by omega)]
  ·rw[ND (by omega)]
 have hi:i<ims.length:=by omega
 obtain⟨sK,i1,i2,i3⟩:=hh.im hi;obtain⟨a,ha,cH⟩:=aU.el IM.enc_len (by decide) hi;have qZ:C0 (a.add ((i:Int).toNat*7)) ims[i].enc (o1::L):=by rw[NK];exact cH.mono kY
 have g0:(0:Int)<=(i:Int):=by omega
 have g1:(i:Int)<(sv.len:Int):=by omega
 have pA:T6 ps (i:Int) H=if(C1 ps[i]).2.2=0/\(C1 ps[i]).1=H then some (C1 ps[i]).2.1 else none:=by
  unfold T6;rw[NE (by omega),NK,NV sK]
 refine B7 rfl (B5 sv ((Li iC).mono kY) (B7 ha (H7 g0 g1 (B5 ims[i].fine (qZ.one 6 rfl) ?_))));rw[i3];by_cases hf:(C1 ps[i]).2.2=0
 case neg=>rw[OF hf];exact E9 rfl (aT (by rw[pA,ND (fun hx=>hf hx.1)]))
 rw[OH hf];refine D8 rfl (B7 rfl (B5 sv ((Li iC).mono kY) (B7 ha (H7 g0 g1 (B5 ims[i].h (qZ.pre fun j u hu=>?_) (B5 H lH (Bu9 _ _ ?_)))))))
 ·match j,hu with
  |0,hu=>exact hu
  |1,hu=>exact hu
  |2,hu=>exact hu
  |3,hu=>exact hu
  |4,hu=>exact hu
  |j+5,hu=>exact absurd (show(none:Option Value)=some u from hu) (by simp)
 rw[i1];by_cases he:(C1 ps[i]).1=H
 case neg=>rw[OF he];exact E9 rfl (aT (by rw[pA,ND (fun hx=>he hx.2)]))
 rw[OH he];refine D8 rfl (B7 rfl (B5 sv ((Li iC).mono kY) (B7 ha (H7 g0 g1 (B5 ims[i].g.v (qZ.one 5 rfl) (.cons (.of ⟨rfl,.inr ⟨ims[i].g.v,ims[i].g.l,by rw[pA,NE ⟨hf,he⟩,i2],rfl,?_,?_⟩⟩)))))))
 ·exact Sl.mono (hh.ok _ (NO hi)).sl fun x hx=>hs x (NN _ (OG _ (OY.2 ⟨_,NO hi,hx⟩)))
 ·rw[i2];have:=Wz ps[i];have:=hh.len _ (NO sK);omega
def Oo(o:Option (List It))(A:B1)(r:Value)(L':B1):Prop:=
 (o=none/\L'=A/\ ∃v:B6,r= .t #[.slice v.a v.len v.cap,.b false])\/ ∃(l:List It) (v:B6) (seg:B1),o=some l/\r= .t #[.slice v.a v.len v.cap,.b true]/\L'=seg++A/\C5 v 3 Gx (l.flatMap P6) seg
def Oo.no{o:Option (List It)}(h:o=none):Oo o A (.t #[.slice none 0 0,.b false]) A:=.inl ⟨h,rfl,⟨none,0,0⟩,rfl⟩
def Bh8(p:List UInt8)(n i:Nat)(nx:Int):Cu p (n+1) i nx=if((I4 p i).1=2\/(I4 p i).1=3)/\(I4 p i).2.2.1≠0/\(I4 p i).2.1=nx then(Cu p n (i+1) (nx+(I4 p i).2.2.1)).map fun y=>(I4 p i::y.1,y.2)else none:=rfl
def Bj5(p:List UInt8)(i:Nat):0<=(I4 p i).2.2.1/\(I4 p i).2.2.1<=255:=by
 unfold I4;have:=(p.getD (i*3+2) 0).toNat_lt;simp only;omega
def Bg9(L B:B1)(m:Nat)(ps:List (List UInt8))(ep:Int)(hB:SH m ps ep (J8 ps) B)(hs: ∀x∈B,x∈L):CallF PP 217 #[.p m] L (Oo (Gl ps ep) L):=by
 refine(e217 (some m.z)).c ?_;have wN:=hB;obtain⟨sv,seg,ims,sU,hh⟩:=hB;have iC:sO m sv ep (J8 ps)∈L:=hs _ (by rw[sU];exact NG);refine B7 rfl (B5 (J8 ps:Int) (Wd iC) ?_);refine K3 [] [] (BB L B m ps ep (J8 ps) wN hs (J8 ps) (4,0,1,0,0,())) (by simp) ?_;rintro _ L1-⟨gA,⟨hn,rfl⟩|⟨v,p,iZ,rfl,hp,aQ⟩⟩
 ·rw[NT,NP,gA];exact⟨(⟨none,0,0⟩,false,()),rfl,E9 rfl (.of (Oo.no (by unfold Gl;rw[hn];rfl)))⟩
 rw[NT,NP,gA];clear gA L1;refine⟨(v,true,()),rfl,D8 rfl (Dv (by decide) ?_)⟩;have hS:Gl ps ep=Ax p (J8 ps):=by unfold Gl;rw[iZ];rfl
 rw[hS];have bY:=hp.len;have sA:Int.tmod (v.len:Int) 3=((p.length%3:Nat):Int):=by rw[TI (by omega),bY];omega
 rw[sA];refine Bb (fun(h3:((p.length%3:Nat):Int)≠0)=>.of (Oo.no (by unfold Ax;rw[NE (by omega)]))) (fun(h3:((p.length%3:Nat):Int)=0)=>?_);obtain⟨n,hn⟩: ∃n,p.length=n*3:=⟨p.length/3,by omega⟩;have iH:p.length/3=n:=by omega
 have ef: ∀y,Cu p n 0 1=some y->Ax p (J8 ps)=if y.2=J8 ps then some y.1 else none:=by
  intro y hy;unfold Ax;rw[ND (by omega),iH,hy]
 have hR0:Cu p n 0 1=none->Ax p (J8 ps)=none:=by
  intro hy;unfold Ax;rw[ND (by omega),iH,hy]
 refine G1 (fun z' z L'=> ∃(i:Nat) (b s:B6) (nx:Int) (ds:List It) (sg J:B1),i<=n/\z'=n-i/\z=(b,s,nx,())/\L'=J++(sg++L)/\C5 s 3 Gx (ds.flatMap P6) sg/\ds.length=i/\G0 L b (p.drop (i*3))/\1<=nx/\nx<=1+255*i/\Cu p n 0 1=(Cu p (n-i) i nx).map fun y=>(ds++y.1,y.2)) n
  ⟨0,v,⟨none,0,0⟩,1,[],[],[],by omega,by omega,rfl,rfl,O5,rfl,by simpa using hp,by omega,by omega,by simp⟩ ?_
 rintro z' z _ ⟨i,b,s,nx,ds,sg,J,hi,rfl,rfl,rfl,own,pR,hb,hnx0,hnx1,hG⟩;have dI:=hb.len;rw[OJ]at dI;have vY:=hb.cap;have bM:=own.sl.els_len W0 (by decide);refine D3 (fun(sP:(b.len:Int)>0)=>?_) (fun(bV: ¬(b.len:Int)>0)=>?_)
 ·have hJ:i<n:=by omega
  have hB:G0 (J++(sg++L)) b (p.drop (i*3)):=hb.right.right;have uY:3<=(p.drop (i*3)).length:=by rw[OJ];omega
  obtain⟨a,ha⟩:=hB.some (i:=0) (by omega);have e0:(p.drop (i*3))[0]'(by omega)=p.getD (i*3) 0:=by rw[Uo (by omega),UA];simp
  have e1:(p.drop (i*3))[1]'(by omega)=p.getD (i*3+1) 0:=by rw[Uo (by omega),UA]
  have e2:(p.drop (i*3))[2]'(by omega)=p.getD (i*3+2) 0:=by rw[Uo (by omega),UA]
  have l0:=hB.rd (i:=0) (by omega) ha ((0:Int).toNat*1) rfl;have l1:=hB.rd (i:=1) (by omega) ha ((1:Int).toNat*1) rfl;have l2:=hB.rd (i:=2) (by omega) ha ((2:Int).toNat*1) rfl;rw[e0]at l0;rw[e1]at l1;rw[e2]at l2;refine B7 ha (H7 (by decide) (show(0:Int)<(b.len:Int) by omega) (B7 ha (H7 (by decide) (show(1:Int)<(b.len:Int) by omega) (B7 ha (H7 (by decide) (show(2:Int)<(b.len:Int) by omega) (B5 ((p.getD (i*3) 0).toNat:Int) l0 (B5 ((p.getD (i*3+1) 0).toNat:Int) l1 (B5 ((p.getD (i*3+2) 0).toNat:Int) l2 (C9 fun n1 _=>?_)))))))));rw[Rx,Rx,Rx];refine F6 (n:=n1) (off:=0) (c:=#[.i 0,.i 0,.i 0]) (T:=Gx) (fz:=(0,0)) [] (J++(sg++L)) rfl rfl (by simp) (.inl (NF _)) #[.i (I4 p i).1,.i (I4 p i).2.1,.i (I4 p i).2.2.1] rfl ?_;rw[NT];generalize ho:((n1,Obj.cells #[.i (I4 p i).1,.i (I4 p i).2.1,.i (I4 p i).2.2.1] Gx):Nat×Obj)=o1;have lc:C0 n1.z [.i (I4 p i).1,.i (I4 p i).2.1,.i (I4 p i).2.2.1] (o1::(J++(sg++L))):=C2 (by rw[<-ho];exact NG) rfl;clear ho;have bt:Cu p (n-i) i nx=if((I4 p i).1=2\/(I4 p i).1=3)/\(I4 p i).2.2.1≠0/\(I4 p i).2.1=nx then(Cu p (n-(i+1)) (i+1) (nx+(I4 p i).2.2.1)).map fun y=>(I4 p i::y.1,y.2)else none:=by
   rw[show n-i=(n-(i+1))+1 by omega,Bh8]
  have aT: ¬(((I4 p i).1=2\/(I4 p i).1=3)/\(I4 p i).2.2.1≠0/\(I4 p i).2.1=nx)->HL.Ends (Oo (Ax p (J8 ps)) L) (.t #[.slice none 0 0,.b false]) (o1::(J++(sg++L))):=by
   intro hx;rw[bt,ND hx]at hG;exact .cons (.app (.app (.of (Oo.no (hR0 (by rw[hG];rfl))))))
  refine B5 (I4 p i).1 (lc.pre fun i u hu=>by cases i with|zero=>exact hu|succ i=>exact absurd (show(none:Option Value)=some u from hu) (by simp)) (C4 (Ah8 _ (I4 p i).1) (decide ((I4 p i).1=2\/(I4 p i).1=3),()) rfl ?_);by_cases hk:(I4 p i).1=2\/(I4 p i).1=3
  case neg=>rw[OF hk];exact E9 rfl (aT fun h=>hk h.1)
  rw[OH hk];refine D8 rfl (B5 (I4 p i).2.2.1 (lc.one 2 rfl) (Ex (fun(hz:(I4 p i).2.2.1=0)=>aT fun h=>h.2.1 hz) (fun(hz:(I4 p i).2.2.1≠0)=>?_)));refine B5 (I4 p i).2.1 (lc.one 1 rfl) (Bb (fun(hx:(I4 p i).2.1≠nx)=>aT fun h=>hx h.2.2) (fun(hx:(I4 p i).2.1=nx)=>?_));have hr:=Bj5 p i;refine B5 (I4 p i).2.2.1 (lc.one 2 rfl) (B5 (I4 p i) lc (C9 fun n2 _=>?_));refine Q1 GH AN ((n2,Obj.cells #[.i (I4 p i).1,.i (I4 p i).2.1,.i (I4 p i).2.2.1] Gx)::o1::J) L own (by simp) (n:=1) (ws:=P6 (I4 p i)) (x:=.slice (some n2.z) 1 1) (Src.sl (v:=⟨some n2.z,1,1⟩) ⟨rfl,NF _,.inr ⟨_,rfl,C2 NG rfl⟩⟩) rfl (by omega) fun s2 sg2 aP own2=>?_;refine Q2 (l':=3) (h':=b.len) (m':=b.cap) rfl rfl rfl (by omega) (by omega) (NF _) ?_;have cE:G0 L (G7 b ((3:Nat):Int) (b.len:Int) (b.cap:Int) 1) (p.drop ((i+1)*3)):=by
   have h0:=Sl.slc (m:=b.cap) hb (by decide) (l:=3) (h':=b.len) (by omega) (by omega) (by omega);rw[Jv,PZ (by rw[OJ,OJ];omega),QB]at h0;rw[show(i+1)*3=i*3+3 by omega];exact h0
  refine⟨n-(i+1),by omega,i+1,_,s2,nx+(I4 p i).2.2.1,ds++[I4 p i],sg2,_,by omega,rfl,?_,NZ ..,?_,by simp[pR],cE,by omega,by omega,?_⟩
  ·rw[D7 (by first|omega|(simp only;omega)) (by first|omega|(simp only;omega))]
  ·rw[OD,PU];exact own2
  ·rw[hG,bt,NE ⟨hk,hz,hx⟩,VV];have: ∀y:List It×Int,(ds++(I4 p i::y.1),y.2)=(ds++[I4 p i]++y.1,y.2):=fun y=>by simp
   exact congrArg (fun f=>Option.map f _) (funext this)
 ·obtain rfl:i=n:=by omega
  rw[SQ]at hG;have eh:Cu p i 0 1=some (ds,nx):=by rw[hG];simp[Cu]
  refine B7 rfl (B5 (J8 ps:Int) ((Wd iC).mono fun x hx=>by simp[hx]) ?_);by_cases hl:nx=J8 ps
  ·have cZ:(nx==(J8 ps:Int))=true:=by simp[hl]
   simp only[cZ];refine .app (.of (.inr ⟨ds,s,sg,?_,rfl,rfl,own⟩));rw[ef _ eh,NE hl]
  ·have cZ:(nx==(J8 ps:Int))=false:=by rw[UO];exact hl
   simp only[cZ];refine .app (.app (.of (.inl ⟨?_,rfl,s,rfl⟩)));rw[ef _ eh,ND hl]
def Cs2(L B:B1)(m:Nat)(ps:List (List UInt8))(ep:Int)(last:Nat)(hB:SH m ps ep last B)(hs: ∀x∈B,x∈L)(q:Nat)(hq:q<min ps.length 16):
  CallF PP 219 #[.p m,.i q] L fun r L'=>L'=L/\((Q9 ps ep q=none/\r= .t #[.agg #[.i 0,.i 0,.i 0],.b false])\/ ∃x:It,Q9 ps ep q=some x/\r= .t #[Ah9 x,.b true]):=by
 have wN:=hB;obtain⟨sv,seg,ims,sU,hh⟩:=hB;refine(e219 (some m.z) q).c ?_;have iC:sO m sv ep last∈L:=hs _ (by rw[sU];exact NG);have aU:Sl L sv 7 (ims.flatMap IM.enc):=Sl.mono hh.own.sl fun x hx=>hs x (by rw[sU];simp[hx]);have bY:=aU.els_len IM.enc_len (by decide);have iF:=hh.ilen;have hi:q<ims.length:=by omega
 obtain⟨sK,i1,i2,i3⟩:=hh.im hi;obtain⟨a,ha,cH⟩:=aU.el IM.enc_len (by decide) hi;refine C9 fun n1 _=>B7 rfl (B5 sv ((Li iC).mono fun x hx=>NN _ hx) (B7 ha (H7 (show(0:Int)<=(q:Int) by omega) (show(q:Int)<(sv.len:Int) by omega) ?_)));refine B5 (ims[q].h.1,ims[q].h.2.1,ims[q].h.2.2.1,ims[q].h.2.2.2.1,ims[q].h.2.2.2.2.1,ims[q].g.v,ims[q].fine,()) (by rw[NK];exact cH.mono fun x hx=>NN _ hx) (C9 fun n2 _=>?_);have aE:wr #[.i 0,.i 0,.i 0,.i 0,.i 0,.slice none 0 0,.b false] 0 [.i ims[q].h.1,.i ims[q].h.2.1,.i ims[q].h.2.2.1,.i ims[q].h.2.2.2.1,.i ims[q].h.2.2.2.2.1,.slice ims[q].g.v.a ims[q].g.v.len ims[q].g.v.cap,.b ims[q].fine]=#[.i ims[q].h.1,.i ims[q].h.2.1,.i ims[q].h.2.2.1,.i ims[q].h.2.2.2.1,.i ims[q].h.2.2.2.2.1,.slice ims[q].g.v.a ims[q].g.v.len ims[q].g.v.cap,.b ims[q].fine]:=HY _ _ rfl;refine F6 (n:=n2) (off:=0) (c:=#[.i 0,.i 0,.i 0,.i 0,.i 0,.slice none 0 0,.b false]) (T:=Kv) (fz:=(0,0)) [] _ rfl rfl (by simp) (.inl (NF _)) _ aE ?_;rw[NT];generalize eO:((n2,Obj.cells #[.i ims[q].h.1,.i ims[q].h.2.1,.i ims[q].h.2.2.1,.i ims[q].h.2.2.2.1,.i ims[q].h.2.2.2.2.1,.slice ims[q].g.v.a ims[q].g.v.len ims[q].g.v.cap,.b ims[q].fine] Kv):Nat×Obj)=o2;have lc: ∀Z:B1,o2∈Z->C0 n2.z [.i ims[q].h.1,.i ims[q].h.2.1,.i ims[q].h.2.2.1,.i ims[q].h.2.2.2.1,.i ims[q].h.2.2.2.2.1,.slice ims[q].g.v.a ims[q].g.v.len ims[q].g.v.cap,.b ims[q].fine] Z:=fun Z hm=>C2 (by rw[<-eO]at hm;exact hm) rfl;clear eO aE;have lk: ∀Z:B1,o2∈Z->C0 n2.z [.i ims[q].h.1] Z:=fun Z hm=>(lc Z hm).pre fun i u hu=>by cases i with|zero=>exact hu|succ i=>exact absurd (show(none:Option Value)=some u from hu) (by simp)
 have cD:Q9 ps ep q=if(C1 ps[q]).2.2=0/\((C1 ps[q]).1.1=2\/(C1 ps[q]).1.1=3)then
   if(List.range (C1 ps[q]).1.2.2.1.toNat).all (fun i=>(T6 ps ((q:Int)+i) ((C1 ps[q]).1.1,i,(C1 ps[q]).1.2.2.1,ep,(q:Int)+i,())).isSome)=true then some ((C1 ps[q]).1.1,((q:Nat):Int),(C1 ps[q]).1.2.2.1,())else none
  else none:=by unfold Q9;rw[NV sK]
 generalize dT:((n1,Obj.cells #[.i 0,.i 0,.i 0] 208):Nat×Obj)=o1;have xK: ∀(Z:B1),Q9 ps ep q=none->st n1.z [.i 0,.i 0,.i 0] (ld n1.z Z1 fun v4=>HL.Ends (fun r L'=>L'=L/\((Q9 ps ep q=none/\r= .t #[.agg #[.i 0,.i 0,.i 0],.b false])\/ ∃x:It,Q9 ps ep q=some x/\r= .t #[Ah9 x,.b true])) (.t #[.agg (ki3 v4),.b false])) (o2::o1::L):=by
  intro Z hx;refine F6 (n:=n1) (off:=0) (c:=#[.i 0,.i 0,.i 0]) (T:=208) (fz:=(0,0)) [o2] L rfl (by rw[<-dT];rfl) (by simp) (.inl (NF _)) #[.i 0,.i 0,.i 0] rfl ?_;exact B5 (0,0,0,()) (C2 (n:=n1) (off:=0) (c:=#[.i 0,.i 0,.i 0]) (T:=208) (fz:=(0,0)) (by simp) rfl) (.cons (.cons (.of ⟨rfl,.inl ⟨hx,rfl⟩⟩)))
 have dJ:o2∈o2::o1::L:=NG;refine B5 ims[q].fine ((lc _ dJ).one 6 rfl) ?_;rw[i3];by_cases hf:(C1 ps[q]).2.2=0
 case neg=>rw[OF hf];exact E9 rfl (xK [] (by rw[cD,ND (fun h=>hf h.1)]))
 rw[OH hf];refine D8 rfl (B5 ims[q].h.1 (lk _ dJ) (C4 (Ah8 _ ims[q].h.1) (decide (ims[q].h.1=2\/ims[q].h.1=3),()) rfl ?_));by_cases hk:ims[q].h.1=2\/ims[q].h.1=3
 case neg=>rw[OF hk];exact E9 rfl (xK [] (by rw[cD,ND (fun h=>hk (by rw[i1];exact h.2))]))
 rw[OH hk];rw[i1]at lc lk hk;simp only[i1];have aC:=Ik (Wx hf);generalize hH:(C1 ps[q]).1=H at*;refine D8 rfl (B5 H.2.2.1 ((lc _ dJ).one 2 rfl) ?_);refine G1 (fun z' z L'=>L'=o2::o1::L/\ ∃i:Nat,(i:Int)<=H.2.2.1/\z'=H.2.2.1.toNat-i/\z=((i:Int),())/\ ∀j,j<i->(T6 ps ((q:Int)+j) (H.1,j,H.2.2.1,ep,(q:Int)+j,())).isSome=true) H.2.2.1.toNat ⟨rfl,0,by omega,by omega,rfl,by omega⟩ ?_;rintro z' z _ ⟨rfl,i,hi,rfl,rfl,aA⟩;refine D3 (fun(hO:(i:Int)<H.2.2.1)=>?_) (fun(aM: ¬(i:Int)<H.2.2.1)=>?_)
 ·refine B5 H.1 (lk _ dJ) (B5 H.2.2.1 ((lc _ dJ).one 2 rfl) ?_);have gR:IntKind.i64.wrap ((q:Int)+(i:Int))=(q:Int)+i:=D7 (by omega) (by omega);simp only[gR];refine K3 [] [] (BB (o2::o1::L) B m ps ep last wN (fun x hx=>NN _ (NN _ (hs x hx))) ((q:Int)+i) (H.1,i,H.2.2.1,0,0,())) (by simp) ?_;rintro _ L1-⟨gA,⟨hn,rfl⟩|⟨v,p,iZ,rfl,-,-⟩⟩
  ·rw[NT,NP,gA];refine⟨(⟨none,0,0⟩,false,()),rfl,E9 rfl (xK [] ?_)⟩;rw[cD,NE ⟨hf,hk⟩,ND];intro hx;rw[QM]at hx;have:=hx i (QT.2 (by omega));rw[hn]at this;cases this
  ·rw[NT,NP,gA];refine⟨(v,true,()),rfl,D8 rfl ⟨H.2.2.1.toNat-(i+1),by omega,rfl,i+1,by omega,rfl,?_,fun j hj=>?_⟩⟩
   ·rw[D7 (by first|omega|(simp only;omega)) (by first|omega|(simp only;omega))];rfl
   ·rcases PY j i with h5|h5
    ·exact aA j h5
    ·obtain rfl:j=i:=by omega
     rw[iZ];rfl
 ·refine B5 H.1 (lk _ dJ) (B5 H.2.2.1 ((lc _ dJ).one 2 rfl) ?_);refine F6 (n:=n1) (off:=0) (c:=#[.i 0,.i 0,.i 0]) (T:=208) (fz:=(0,0)) [o2] L rfl (by rw[<-dT];rfl) (by simp) (.inl (NF _)) #[.i H.1,.i q,.i H.2.2.1] rfl ?_;refine B5 (H.1,(q:Int),H.2.2.1,()) (C2 (n:=n1) (off:=0) (c:=#[.i H.1,.i q,.i H.2.2.1]) (T:=208) (fz:=(0,0)) (by simp) rfl) (.cons (.cons (.of ⟨rfl,.inr ⟨(H.1,(q:Int),H.2.2.1,()),?_,rfl⟩⟩)));rw[cD,NE ⟨hf,hk⟩,NE];rw[QM];intro j hj;exact aA j (by have:=QT.1 hj;omega)
set_option maxRecDepth 100000
def c5(a:F7 Z3) b:CC 5 #[.agg (ki11 a),.sv b] fun c=>cl PP 6 #[.agg (ki11 a)] [.lf .ptr,.lf .ptr] fun d=>jn (fun e:D2 []=>cl PP 26 #[.agg (ki11 a),.q d.1,.q d.2.1,.sv b] [.lf .ptr] fun e=>jn (fun f:D2 []=>cl PP 19 #[.q d.2.1,.i 0,.i 0] [] fun f=>cl PP 16 #[.q e.1] [lI] fun f=>B3 (decide ((f.1:Int)=0)) (cl PP 21 #[.agg (ki11 a),.q d.2.1,.i 0] [.lf .ptr,lI] fun a=>jn (fun d:D2 []=>lp [lI] (0,()) fun d f=>B3 (decide ((d.1:Int)<b.len)) (M4 b.a b.len d.1 5 fun b=>ld (b.add 1) (.lf .str) fun b=>cl PP 27 #[.q e.1,.w b] [lI] fun g=>cl PP 27 #[.q a.1,.w b] [lI] fun h=>B3 (!(((g.1:Int)==2)==((h.1:Int)==2))) (c (.b false)) (cl PP 24 #[.q e.1,.w b] [.lf .sl,lI] fun e=>cl PP 24 #[.q a.1,.w b] [.lf .sl,lI] fun a=>B3 (decide ((g.1:Int)=2)) (B3 (decide ((a.2.1:Int)=0)) (cl PP 33 #[.sv e.1,.sv a.1] [.lf .bool] fun b=>B3 b.1 (B3 ((g.1:Int)==2) (D9 (d.1+1) fun a=>f (a,())) (B3 (decide ((a.2.1:Int)=0)) (c (.b false)) (D9 (d.1+1) fun a=>f (a,())))) (c (.b false))) (c (.b false))) (B3 ((g.1:Int)==2) (D9 (d.1+1) fun a=>f (a,())) (B3 (decide ((a.2.1:Int)=0)) (c (.b false)) (D9 (d.1+1) fun a=>f (a,())))))) (cl PP 8 #[] [.lf .bool] fun a=>c (.b a.1))) fun b=>B3 (decide ((a.2.1:Int)=0)) (cl PP 31 #[.q a.1] [lI] fun d=>cl PP 31 #[.q e.1] [lI] fun e=>B3 (decide ((d.1:Int)=e.1)) (cl PP 32 #[.q a.1] [.lf .sl] fun a=>B3 (decide ((a.1.len:Int)=0)) (b (())) (c (.b false))) (c (.b false))) (c (.b false))) (cl PP 8 #[] [.lf .bool] fun a=>c (.b a.1))) fun a=>B3 (Option.isNone e.1) (B3 (Option.isNone e.1) (c (.b false)) (cl PP 8 #[] [.lf .bool] fun a=>c (.b a.1))) (cl PP 22 #[.q d.2.1] [.lf .bool] fun b=>B3 b.1 (B3 (Option.isNone e.1) (c (.b false)) (cl PP 8 #[] [.lf .bool] fun a=>c (.b a.1))) (a (())))) fun a=>B3 (Option.isNone d.1) (cl PP 8 #[] [.lf .bool] fun a=>c (.b a.1)) (cl PP 7 #[.sv b,.i 120,.i 300] [.lf .bool] fun b=>B3 b.1 (a (())) (cl PP 8 #[] [.lf .bool] fun a=>c (.b a.1))):=(e5 a b).cc
def c6(a:F7 Z3):CC 6 #[.agg (ki11 a)] fun b=>cl PP 34 #[.agg (ki4 a)] [.lf .ptr,lI] fun c=>B3 (decide ((c.2.1:Int)=0)) (cl PP 21 #[.agg (ki11 a),.q c.1,.i 0] [.lf .ptr,lI] fun a=>B3 (decide ((a.2.1:Int)=0)) (b (.t #[.q a.1,.q c.1])) (b (.t #[.q none,.q none]))) (b (.t #[.q none,.q none])):=(e6 a).cc
def c7 a b c:CC 7 #[.sv a,.i b,.i c] fun d=>lp [lI] (0,()) fun e f=>B3 (decide ((e.1:Int)<a.len)) (B3 (decide ((e.1:Int)<=b)) (M4 a.a a.len e.1 5 fun a=>ld (a.add 1) (.lf .str) fun b=>B3 (decide ((b.size:Int)>c)) (d (.b false)) (ld (a.add 2) (.lf .sl) fun a=>B3 (decide ((a.len:Int)>c)) (d (.b false)) (D9 (e.1+1) fun a=>f (a,())))) (d (.b (decide ((a.len:Int)<=b))))) (d (.b (decide ((a.len:Int)<=b)))):=(e7 a b c).cc
def c8:CC 8 #[] fun a=>cl PP 35 #[] [.lf .ptr] fun b=>cl PP 36 #[.q b.1,.w (ByteArray.mk #[97]),.w (ByteArray.mk #[49])] [] fun c=>cl PP 36 #[.q b.1,.w (ByteArray.mk #[97]),.w (ByteArray.mk #[50])] [] fun c=>cl PP 37 #[.q b.1,.w (ByteArray.mk #[97]),.w (ByteArray.mk #[50]),.b true] [.lf .bool] fun c=>cl PP 37 #[.q b.1,.w (ByteArray.mk #[97]),.w (ByteArray.mk #[49]),.b true] [.lf .bool] fun d=>cl PP 38 #[.q b.1,.w (ByteArray.mk #[97]),.w (ByteArray.mk #[49]),.b true] [.lf .bool] fun e=>cl PP 37 #[.q b.1,.w (ByteArray.mk #[97]),.w (ByteArray.mk #[49]),.b true] [.lf .bool] fun f=>cl PP 36 #[.q b.1,.w (ByteArray.mk #[97]),.w (ByteArray.mk #[50])] [] fun g=>cl PP 39 #[.q b.1] [] fun g=>cl PP 38 #[.q b.1,.w (ByteArray.mk #[97]),.w (ByteArray.mk #[49]),.b true] [.lf .bool] fun g=>cl PP 36 #[.q b.1,.w (ByteArray.mk #[66]),.w (ByteArray.mk #[120])] [] fun h=>cl PP 40 #[.q b.1,.w (ByteArray.mk #[66])] [] fun h=>cl PP 36 #[.q none,.w (ByteArray.mk #[97]),.w (ByteArray.mk #[49])] [] fun h=>B3 c.1 (B3 d.1 (a (.b false)) (B3 e.1 (B3 f.1 (B3 g.1 (a (.b false)) (cl PP 37 #[.q b.1,.w (ByteArray.mk #[66]),.w (ByteArray.mk #[]),.b false] [.lf .bool] fun c=>B3 c.1 (cl PP 37 #[.q b.1,.w (ByteArray.mk #[66]),.w (ByteArray.mk #[120]),.b true] [.lf .bool] fun c=>B3 c.1 (a (.b false)) (cl PP 38 #[.q b.1,.w (ByteArray.mk #[66]),.w (ByteArray.mk #[120]),.b true] [.lf .bool] fun c=>B3 c.1 (cl PP 42 #[.q b.1] [.lf .sl] fun b=>nw (.cells #[.w (ByteArray.mk #[66]),.w (ByteArray.mk #[97])] 9) fun c=>cl PP 41 #[.sv b.1,.slice (some c.z) 2 2] [.lf .bool] fun b=>B3 b.1 (cl PP 37 #[.q none,.w (ByteArray.mk #[97]),.w (ByteArray.mk #[]),.b false] [.lf .bool] fun b=>B3 b.1 (cl PP 38 #[.q none,.w (ByteArray.mk #[97]),.w (ByteArray.mk #[49]),.b true] [.lf .bool] fun b=>B3 b.1 (a (.b false)) (cl PP 42 #[.q none] [.lf .sl] fun b=>a (.b ((b.1.len:Int)==0)))) (a (.b false))) (a (.b false))) (a (.b false)))) (a (.b false)))) (a (.b false))) (a (.b false)))) (a (.b false)):=e8.cc
def c9 a b(c:B6):CC 9 #[.q a,.w b,.slice c.a c.len c.cap] fun d=>cl PP 43 #[.q a,.w b] [lI] fun e=>B3 (decide ((e.1:Int)=0)) (B3 (decide ((c.len:Int)>65536)) (d (.i 4)) (cl PP 44 #[.q a,.w b] [.lf .bool] fun e=>B4 a fun e=>ld e Z4 fun f=>cl PP 45 #[.i b.size,.i c.len,.agg (ki4 f)] [lI] fun f=>B3 (decide ((f.1:Int)=0)) (d (.i 14)) (jn (fun f:D2 []=>ld (e.add 19) (.lf .ptr) fun e=>cl PP 49 #[.q e,.w b,.slice c.a c.len c.cap] [] fun b=>cl PP 50 #[.q a] [lI] fun a=>d (.i a.1)) fun f=>ld (Addr.add (e.add 19) 1) (.lf .ptr) fun g=>cl PP 47 #[.q a,.w b] [.lf (.int .u64)] fun h=>keep (C0 (Addr.add (e.add 19) 1) [.q g])<|cl PP 46 #[.q g,.int .u64 h.1] [.lf .bool] fun e=>B3 e.1 (cl PP 48 #[.q a,.w b,.slice c.a c.len c.cap] [lI] fun a=>B3 (decide ((a.1:Int)=0)) (d (.i a.1)) (B3 (decide ((a.1:Int)=11)) (d (.i a.1)) (f (())))) (f (()))))) (d (.i e.1)):=(e9 a b c).cc
def c12 a b:CC 12 #[.q a,.w b] fun c=>cl PP 43 #[.q a,.w b] [lI] fun d=>B3 (decide ((d.1:Int)=0)) (B4 a fun d=>ld (d.add 19) (.lf .ptr) fun e=>cl PP 53 #[.q e,.w b] [.lf .sl,.lf .bool] fun e=>B3 e.2.1 (c (.t #[.sv e.1,.i 0])) (cl PP 54 #[.q a,.w b] [Z1,.lf .sl,.lf .bool] fun e=>B3 e.2.2.1 (ld (Addr.add (d.add 19) 2) (.lf .ptr) fun f=>cl PP 47 #[.q a,.w b] [.lf (.int .u64)] fun a=>keep (C0 (Addr.add (d.add 19) 2) [.q f])<|cl PP 55 #[.q f,.int .u64 a.1,.agg (ki3 e.1)] [.lf .bool] fun a=>c (.t #[.sv e.2.1,.i 0])) (c (.t #[.slice none 0 0,.i 8])))) (c (.t #[.slice none 0 0,.i d.1])):=(e12 a b).cc
def c14 a b:CC 14 #[.q a,.w b] fun c=>cl PP 43 #[.q a,.w b] [lI] fun d=>B3 (decide ((d.1:Int)=0)) (cl PP 44 #[.q a,.w b] [.lf .bool] fun a=>c (.t #[.b a.1,.i 0])) (c (.t #[.b false,.i d.1])):=(e14 a b).cc
def c16 a:CC 16 #[.q a] fun b=>B3 (Option.isNone a) (b (.i 1)) (B4 a fun c=>ld (Addr.add (c.add 11) 7) (.lf .bool) fun d=>B3 d (b (.i 11)) (lp [] (()) fun d e=>ld (Addr.add (c.add 11) 6) (.lf .sl) fun d=>B3 (decide ((d.len:Int)>0)) (cl PP 56 #[.q a,.i 1] [lI] fun a=>B3 (decide ((a.1:Int)=0)) (ld (Addr.add (c.add 11) 6) (.lf .sl) fun a=>ld (c.add 2) (lI) fun d=>cl PP 57 #[.i d] [lI] fun d=>keep (C0 (Addr.add (c.add 11) 6) [.sv a])<|D9 (Int.tdiv d.1 6) fun d=>B3 (decide ((N8 a.len d:Int)=0)) (b (.i 0)) (ld (Addr.add (c.add 11) 6) (.lf .sl) fun f=>slc f 0 (N8 a.len d) f.cap 3 fun f=>cl PP 58 #[.sv f] [.lf .sl,lI] fun f=>B3 (decide ((f.2.1:Int)=0)) (nw (.cells #[.slice f.1.a f.1.len f.1.cap] 37) fun f=>cl PP 59 #[.q (some (c.add 11)),.i 3,.slice (some f.z) 1 1] [Z1,lI] fun f=>B3 (decide ((f.2.1:Int)=0)) (ld (Addr.add (c.add 11) 6) (.lf .sl) fun b=>cl PP 60 #[.sv b,.i 0,.i (N8 a.len d)] [.lf .sl] fun a=>st (Addr.add (c.add 11) 6) [.slice a.1.a a.1.len a.1.cap]<|e (())) (b (.i f.2.1))) (b (.i f.2.1)))) (b (.i a.1))) (b (.i 0)))):=(e16 a).cc
def c18 a b:CC 18 #[.q a,.i b] fun c=>cl PP 61 #[.q a] [.lf .bool] fun d=>B3 d.1 (B4 a fun a=>ld (Addr.add (a.add 11) 2) (.lf .ptr) fun a=>cl PP 62 #[.q a,.i b] [] fun a=>c (.t #[])) (c (.t #[])):=(e18 a b).cc
set_option maxRecDepth 100000
def c21(a:F7 Z3) b c:CC 21 #[.agg (ki11 a),.q b,.i c] fun d=>B3 (Option.isNone b) (d (.t #[.q none,.i 1])) (cl PP 63 (kii a.2.2.2.2) [.lf .ptr,lI] fun e=>jn (fun f:D2 []=>cl PP 66 #[.q b] [Z11,lI] fun f=>B3 (decide ((f.2.1:Int)=0)) (cl PP 67 #[.i a.2.2.2.2.2.2.2.2.1,.i a.2.2.2.2.2.2.2.2.2.1,.i c,.i 0] [.lf .ptr] fun c=>cl PP 68 #[.i a.2.2.2.2.2.2.1] [.lf .ptr] fun g=>cl PP 69 #[.i a.2.2.2.2.2.2.2.1] [.lf .ptr] fun h=>nw (.map #[] 0) fun i=>nw (.cells #[.i a.1,.i a.2.1,.i a.2.2.1,.i a.2.2.2.1,.i a.2.2.2.2.1,.i a.2.2.2.2.2.1,.i a.2.2.2.2.2.2.1,.i a.2.2.2.2.2.2.2.1,.i a.2.2.2.2.2.2.2.2.1,.i a.2.2.2.2.2.2.2.2.2.1,.i a.2.2.2.2.2.2.2.2.2.2.1,.q b,.q none,.q c.1,.map (some i),.q none,.i f.1.2.2.1,.slice none 0 0,.b false,.q g.1,.q h.1,.q e.1] 88) fun a=>lp [.lf .sl,lI] (⟨none,0,0⟩,0,()) fun c e=>B3 (decide ((c.2.1:Int)<f.1.1.len)) (M4 f.1.1.a f.1.1.len c.2.1 3 fun b=>ld b Z5 fun b=>Cb PP 128 128 128 3 c.1 1 [.i b.1] fun d=>ld (Addr.add (Addr.add a.z 11) 3) (.lf .map) fun a=>nw (.cells #[.i b.1,.i b.2.1,.i 0,.slice b.2.2.1.a b.2.2.1.len b.2.2.1.cap] 133) fun f=>Aw PP (Instr.mapUpdate 78 (.map a) (.i b.1) (.p f))<|D9 (c.2.1+1) fun a=>e (d,a,())) (cl PP 71 #[.q b] [.lf .sl] fun b=>cl PP 70 #[.sv b.1,.sv c.1] [.lf .ptr,lI] fun b=>st (Addr.add (Addr.add a.z 11) 1) [.q b.1]<|B3 (decide ((b.2.1:Int)=0)) (lp [lI] (0,()) fun b c=>B3 (decide ((b.1:Int)<f.1.2.1.len)) (M4 f.1.2.1.a f.1.2.1.len b.1 4 fun d=>ld d Z6 fun d=>cl PP 72 #[.p a,.w d.1,.agg (ki3 d.2)] [] fun a=>D9 (b.1+1) fun a=>c (a,())) (d (.t #[.p a,.i 0]))) (d (.t #[.q none,.i b.2.1])))) (d (.t #[.q none,.i f.2.1]))) fun c=>cl PP 64 #[.q b] [Z4] fun b=>Y8 PP (binOp .neq 23 (.agg (ki4 b.1)) (.agg (ki4 a))) (.lf .bool) fun b=>B3 b (d (.t #[.q none,.i 30])) (B3 (decide ((e.2.1:Int)=0)) (cl PP 65 #[.agg (ki11 a)] [.lf .bool] fun a=>B3 a.1 (c (())) (d (.t #[.q none,.i 30]))) (d (.t #[.q none,.i 30])))):=(e21 a b c).cc fun K=>by
  refine U3 fun n1=>?_;refine X9 ?_ ?_
  · exact R9
  · refine H8 0 4 rfl rfl rfl<|H8 0 5 rfl rfl rfl<|Q8 fun r1=>?_
    refine FG (fun y1=>?_) fun j1' j1 eP=>?_
    · refine Q8 fun r4=>U3 fun n2=>S9 0 0 rfl rfl rfl rfl ?_
      refine Ez ?_ ?_
      · exact R9
      · refine H8 1 0 rfl rfl rfl<|H8 1 8 rfl rfl rfl<|H8 1 9 rfl rfl rfl<|H8 0 2 rfl rfl rfl<|H8 1 6 rfl rfl rfl<|H8 1 7 rfl rfl rfl<|Q8 fun r5=>Hm 1 7 rfl rfl rfl<|Hm 1 6 rfl rfl rfl<|Hm 0 2 rfl rfl rfl<|Hm 1 0 rfl rfl rfl<|Q8 fun r6=>Hm 1 7 rfl rfl rfl<|Hm 0 2 rfl rfl rfl<|Hm 1 0 rfl rfl rfl<|Q8 fun r7=>Hm 0 2 rfl rfl rfl<|Hm 1 0 rfl rfl rfl<|Il fun n3=>Il fun n4=>H8 0 0 rfl rfl rfl<|Hl fun go1' go1 bW z1=>?_
        refine X9 ?_ ?_
        · exact Fa fun a1 nL=>U4 fun v2=>U3 fun n5=>S9 0 0 rfl rfl rfl rfl<|H8 0 0 rfl rfl rfl<|U3 fun n6=>Uq (v:=_) 0 rfl fun s1=>U4 fun v3=>H8 1 0 rfl rfl rfl<|H8 1 0 rfl rfl rfl<|H8 1 1 rfl rfl rfl<|H8 1 2 rfl rfl rfl<|Il fun n7=>FD<|S8<|S3 3 rfl rfl<|S3 3 rfl rfl<|S6 (bW _) rfl
        · refine Q8 fun r8=>Q8 fun r9=>Up ?_
          refine Ez ?_ ?_
          · exact R9
          · refine H8 0 1 rfl rfl rfl<|Hl fun go2' go2 gH z2=>?_
            refine X9 ?_ ?_
            · exact Fa fun a2 dZ=>U4 fun v4=>U3 fun n8=>S9 0 0 rfl rfl rfl rfl<|H8 0 0 rfl rfl rfl<|H8 0 1 rfl rfl rfl<|Q8 fun r10=>S8<|S3 2 rfl rfl<|S3 2 rfl rfl<|S6 (gH _) rfl
            · exact R9
    · refine H8 0 0 rfl rfl rfl<|Q8 fun r2=>Hm 0 0 rfl rfl rfl<|FE fun v1=>?_
      refine X9 ?_ ?_
      · exact R9
      · refine Ez ?_ ?_
        · exact R9
        · refine H8 0 0 rfl rfl rfl<|Q8 fun r3=>?_
          refine FI ?_ ?_
          · exact R9
          · exact S6 (eP _) rfl
def c22 a:CC 22 #[.q a] fun b=>cl PP 29 #[.q a] [.lf .sl] fun a=>lp [lI] (0,()) fun c d=>B3 (decide ((c.1:Int)<a.1.len)) (M4 a.1.a a.1.len c.1 4 fun a=>ld (a.add 3) (.lf .sl) fun e=>cl PP 73 #[.sv e] [Z2,.lf .sl,lI] fun e=>B3 (decide ((e.2.2.1:Int)=0)) (ld (a.add 3) (.lf .sl) fun e=>ld (a.add 2) (.lf .sl) fun a=>cl PP 33 #[.sv e,.sv a] [.lf .bool] fun a=>B3 a.1 (D9 (c.1+1) fun a=>d (a,())) (b (.b true))) (D9 (c.1+1) fun a=>d (a,()))) (b (.b false)):=(e22 a).cc
def c24 a b:CC 24 #[.q a,.w b] fun c=>cl PP 43 #[.q a,.w b] [lI] fun d=>B3 (decide ((d.1:Int)=0)) (B4 a fun d=>ld (d.add 19) (.lf .ptr) fun d=>cl PP 75 #[.q d,.w b] [.lf .sl,.lf .bool] fun d=>B3 d.2.1 (c (.t #[.sv d.1,.i 0])) (cl PP 54 #[.q a,.w b] [Z1,.lf .sl,.lf .bool] fun a=>B3 a.2.2.1 (c (.t #[.sv a.2.1,.i 0])) (c (.t #[.slice none 0 0,.i 8])))) (c (.t #[.slice none 0 0,.i d.1])):=(e24 a b).cc
def c26(a:F7 Z3) b c d:CC 26 #[.agg (ki11 a),.q b,.q c,.sv d] fun e=>lp [.lf .ptr,lI,lI] (b,0,0,()) fun b f=>B3 (decide ((b.2.2.1:Int)<d.len)) (M4 d.a d.len b.2.2.1 5 fun d=>ld d (.agg [.int .i64,.str,.sl,.int .i64,.int .i64]) fun d=>B3 (decide ((d.1:Int)=0)) (cl PP 9 #[.q b.1,.w d.2.1,.sv d.2.2.1] [lI] fun a=>D9 (b.2.2.1+1) fun a=>f (b.1,b.2.1,a,())) (B3 (decide ((d.1:Int)=1)) (cl PP 12 #[.q b.1,.w d.2.1] [.lf .sl,lI] fun a=>D9 (b.2.2.1+1) fun a=>f (b.1,b.2.1,a,())) (B3 (decide ((d.1:Int)=2)) (cl PP 14 #[.q b.1,.w d.2.1] [.lf .bool,lI] fun a=>D9 (b.2.2.1+1) fun a=>f (b.1,b.2.1,a,())) (B3 (decide ((d.1:Int)=3)) (cl PP 16 #[.q b.1] [lI] fun a=>D9 (b.2.2.1+1) fun a=>f (b.1,b.2.1,a,())) (B3 (decide ((d.1:Int)=4)) (cl PP 18 #[.q b.1,.i d.2.2.2.1] [] fun a=>D9 (b.2.2.1+1) fun a=>f (b.1,d.2.2.2.1,a,())) (B3 (decide ((d.1:Int)=5)) (cl PP 19 #[.q c,.i d.2.2.2.1,.i d.2.2.2.2.1] [] fun a=>D9 (b.2.2.1+1) fun a=>f (b.1,b.2.1,a,())) (B3 (decide ((d.1:Int)=6)) (cl PP 20 #[.q c] [] fun d=>cl PP 21 #[.agg (ki11 a),.q c,.i b.2.1] [.lf .ptr,lI] fun a=>B3 (decide ((a.2.1:Int)=0)) (D9 (b.2.2.1+1) fun c=>f (a.1,b.2.1,c,())) (e (.q none))) (D9 (b.2.2.1+1) fun a=>f (b.1,b.2.1,a,()))))))))) (e (.q b.1)):=(e26 a b c d).cc fun K=>by
  refine U3 fun n1=>Hl fun go1' go1 bW z1=>?_;refine X9 ?_ ?_
  · refine Fa fun a1 nL=>U4 fun v1=>U3 fun n2=>S9 0 0 rfl rfl rfl rfl<|H8 0 0 rfl rfl rfl ?_
    refine Ho ?_ ?_
    · exact H8 0 1 rfl rfl rfl<|H8 0 2 rfl rfl rfl<|Q8 fun r1=>S8<|S3 1 rfl rfl<|S6 (bW _) rfl
    · refine Ho ?_ ?_
      · exact H8 0 1 rfl rfl rfl<|Q8 fun r2=>S8<|S3 1 rfl rfl<|S6 (bW _) rfl
      · refine Ho ?_ ?_
        · exact H8 0 1 rfl rfl rfl<|Q8 fun r3=>S8<|S3 1 rfl rfl<|S6 (bW _) rfl
        · refine Ho ?_ ?_
          · exact Q8 fun r4=>S8<|S3 1 rfl rfl<|S6 (bW _) rfl
          · refine Ho ?_ ?_
            · exact H8 0 3 rfl rfl rfl<|Q8 fun r5=>S8<|S3 1 rfl rfl<|S6 (bW _) rfl
            · refine Ho ?_ ?_
              · exact H8 0 3 rfl rfl rfl<|H8 0 4 rfl rfl rfl<|Q8 fun r6=>S8<|S3 1 rfl rfl<|S6 (bW _) rfl
              · refine Ho ?_ ?_
                · refine Q8 fun r7=>H8 1 0 rfl rfl rfl<|Q8 fun r8=>?_
                  refine Ez ?_ ?_
                  · exact R9
                  · exact S8<|S3 1 rfl rfl<|S6 (bW _) rfl
                · exact S8<|S3 1 rfl rfl<|S6 (bW _) rfl
  · exact R9
def c27 a b:CC 27 #[.q a,.w b] fun c=>cl PP 43 #[.q a,.w b] [lI] fun d=>B3 (decide ((d.1:Int)=0)) (B4 a fun d=>ld (d.add 19) (.lf .ptr) fun d=>cl PP 76 #[.q d,.w b] [.lf .bool] fun d=>B3 d.1 (c (.i 1)) (cl PP 54 #[.q a,.w b] [Z1,.lf .sl,.lf .bool] fun a=>B3 a.2.2.1 (c (.i 2)) (c (.i 0)))) (c (.i 0)):=(e27 a b).cc
def c31 a:CC 31 #[.q a] fun b=>nw (.cells #[.q a] 27) fun a=>ld a.z (.lf .ptr) fun c=>cl PP 79 #[.q c,.func (.func 80) #[] #[.p a]] [lI] fun a=>b (.i a.1):=(e31 a).cc
def c32 a:CC 32 #[.q a] fun b=>cl PP 61 #[.q a] [.lf .bool] fun c=>B3 c.1 (B4 a fun a=>ld (Addr.add (a.add 11) 6) (.lf .sl) fun a=>cl PP 82 #[.sv a] [.lf .sl] fun a=>b (.sv a.1)) (b (.slice none 0 0)):=(e32 a).cc
def c35:CC 35 #[] fun a=>nw (.map #[] 0) fun b=>nw (.cells #[.map (some b)] 158) fun b=>a (.p b):=e35.cc
def c36 a b c:CC 36 #[.q a,.w b,.w c] fun d=>B3 (Option.isNone a) (d (.t #[])) (cl PP 85 #[.q a,.w b] [.lf .ptr] fun e=>jn (fun a:D2 [.lf .ptr]=>B4 a.1 fun a=>st a [.w c,.b true]<|ld (a.add 2) (.lf .map) fun a=>Aw PP (Instr.mapUpdate 161 (.map a) (.w c) (.b true))<|d (.t #[])) fun c=>B3 (Option.isNone e.1) (nw (.map #[] 0) fun d=>nw (.cells #[.w ByteArray.empty,.b false,.map (some d)] 165) fun d=>B4 a fun a=>ld a (.lf .map) fun a=>Aw PP (Instr.mapUpdate 156 (.map a) (.w b) (.p d))<|c ((some d.z),())) (c (e.1,()))):=(e36 a b c).cc
def c37 a b c d:CC 37 #[.q a,.w b,.w c,.b d] fun e=>cl PP 85 #[.q a,.w b] [.lf .ptr] fun a=>B3 d (B3 (Option.isNone a.1) (e (.b false)) (B4 a.1 fun a=>ld a (.agg [.str,.bool]) fun a=>Y8 PP (binOp .eql 163 (.agg (kwb a)) (.agg #[.w c,.b true])) (.lf .bool) fun a=>e (.b a))) (e (.b true)):=(e37 a b c d).cc
def c38 a b c d:CC 38 #[.q a,.w b,.w c,.b d] fun e=>cl PP 85 #[.q a,.w b] [.lf .ptr] fun a=>B3 (Option.isNone a.1) (e (.b (!d))) (B3 d (B4 a.1 fun b=>ld (b.add 2) (.lf .map) fun d=>S4 PP (Instr.lookup 161 (.map d) (.w c) false) [.lf .bool] fun d=>B3 d.1 (st b [.w c,.b true]<|cl PP 86 #[.q a.1] [] fun a=>e (.b true)) (e (.b false))) (B4 a.1 fun a=>st a [.w ByteArray.empty,.b false]<|e (.b true))):=(e38 a b c d).cc
def c39 a:CC 39 #[.q a] fun b=>B3 (Option.isNone a) (b (.t #[])) (cl PP 42 #[.q a] [.lf .sl] fun c=>lp [lI] (0,()) fun d e=>B3 (decide ((d.1:Int)<c.1.len)) (M4 c.1.a c.1.len d.1 1 fun b=>ld b (.lf .str) fun b=>B4 a fun a=>ld a (.lf .map) fun a=>S4 PP (Instr.lookup 156 (.map a) (.w b) false) [.lf .ptr] fun a=>cl PP 86 #[.q a.1] [] fun a=>D9 (d.1+1) fun a=>e (a,())) (b (.t #[]))):=(e39 a).cc
def c40 a b:CC 40 #[.q a,.w b] fun c=>cl PP 85 #[.q a,.w b] [.lf .ptr] fun a=>B3 (Option.isNone a.1) (c (.t #[])) (B4 a.1 fun a=>st a [.w ByteArray.empty,.b false]<|c (.t #[])):=(e40 a b).cc
def c41 a b:CC 41 #[.sv a,.sv b] fun c=>B3 (decide ((a.len:Int)=b.len)) (lp [lI] (0,()) fun d e=>B3 (decide ((d.1:Int)<a.len)) (M4 a.a a.len d.1 1 fun a=>M4 b.a b.len d.1 1 fun b=>ld a (.lf .str) fun a=>ld b (.lf .str) fun b=>B3 (decide (a=b)) (D9 (d.1+1) fun a=>e (a,())) (c (.b false))) (c (.b true))) (c (.b false)):=(e41 a b).cc
def c42 a:CC 42 #[.q a] fun b=>B3 (Option.isNone a) (b (.slice none 0 0)) (B4 a fun a=>ld a (.lf .map) fun a=>F3 PP (Instr.range 156 (.map a)) [.lf .ptr] fun a=>lp [.lf .sl] (⟨none,0,0⟩,()) fun c d=>Pm PP (Instr.next (.q a.1) false 0) none none (cl PP 87 #[.sv c.1] [] fun a=>b (.sv c.1)) fun b e=>Se PP (Instr.entry (.q a.1)) (some (.lf .str)) none fun a b=>Cb PP 55 55 55 9 c.1 1 [.w a] fun a=>d (a,())):=(e42 a).cc
def c43 a b:CC 43 #[.q a,.w b] fun c=>B3 (Option.isNone a) (c (.i 1)) (B4 a fun a=>ld (Addr.add (a.add 11) 7) (.lf .bool) fun a=>B3 a (c (.i 11)) (B3 (decide (b=(ByteArray.mk #[]))) (c (.i 2)) (B3 (decide ((b.size:Int)>255)) (c (.i 2)) (c (.i 0))))):=(e43 a b).cc
def c44 a b:CC 44 #[.q a,.w b] fun c=>B4 a fun d=>ld (d.add 19) (.lf .ptr) fun e=>cl PP 88 #[.q e,.w b] [.lf .bool] fun e=>cl PP 54 #[.q a,.w b] [Z1,.lf .sl,.lf .bool] fun f=>B3 f.2.2.1 (ld (Addr.add (d.add 19) 2) (.lf .ptr) fun g=>cl PP 47 #[.q a,.w b] [.lf (.int .u64)] fun a=>keep (C0 (Addr.add (d.add 19) 2) [.q g])<|cl PP 89 #[.q g,.int .u64 a.1,.agg (ki3 f.1)] [.lf .bool] fun a=>ld (Addr.add (d.add 11) 6) (.lf .sl) fun a=>Cb PP 65 65 65 100 a 1 [.i f.1.1,.i f.1.2.1,.i f.1.2.2.1] fun a=>st (Addr.add (d.add 11) 6) [.slice a.a a.len a.cap]<|B3 e.1 (c (.b true)) (c (.b f.2.2.1))) (B3 e.1 (c (.b true)) (c (.b f.2.2.1))):=(e44 a b).cc
def c47 a b:CC 47 #[.q a,.w b] fun c=>B4 a fun a=>ld (a.add 10) (lI) fun a=>cl PP 96 #[.i a,.w b] [.lf (.int .u64)] fun a=>c (.int .u64 a.1):=(e47 a b).cc
def c48 a b(c:B6):CC 48 #[.q a,.w b,.slice c.a c.len c.cap] fun d=>B4 a fun e=>ld e Z4 fun f=>cl PP 97 #[.w b,.slice c.a c.len c.cap,.agg (ki4 f)] [.lf .sl,lI] fun c=>B3 (decide ((c.2.1:Int)=0)) (cl PP 56 #[.q a,.i c.1.len] [lI] fun f=>B3 (decide ((f.1:Int)=0)) (cl PP 59 #[.q (some (e.add 11)),.i 2,.slice c.1.a c.1.len c.1.cap] [Z1,lI] fun c=>B3 (decide ((c.2.1:Int)=0)) (cl PP 72 #[.q a,.w b,.agg (ki3 c.1)] [] fun a=>d (.i c.2.1)) (d (.i c.2.1))) (d (.i f.1))) (d (.i c.2.1)):=(e48 a b c).cc
def c50 a:CC 50 #[.q a] fun b=>lp [] (()) fun c d=>B4 a fun c=>ld (c.add 19) (.lf .ptr) fun e=>cl PP 99 #[.q e] [.lf .bool] fun e=>B3 e.1 (ld (c.add 19) (.lf .ptr) fun e=>cl PP 100 #[.q e] [Z12,.lf .bool] fun e=>jn (fun f:D2 [lI]=>B3 (decide ((f.1:Int)=0)) (d (())) (B3 (decide ((f.1:Int)=11)) (b (.i f.1)) (ld (Addr.add (c.add 19) 1) (.lf .ptr) fun b=>cl PP 47 #[.q a,.w e.1.1] [.lf (.int .u64)] fun a=>keep (C0 (Addr.add (c.add 19) 1) [.q b])<|cl PP 101 #[.q b,.int .u64 a.1] [] fun a=>d (())))) fun b=>B3 (decide ((e.1.2.2.1:Int)>0)) (cl PP 48 #[.q a,.w e.1.1,.sv e.1.2.1] [lI] fun a=>b (a.1,())) (b (8,()))) (b (.i 0)):=(e50 a).cc
set_option maxRecDepth 100000
def c54 a b:CC 54 #[.q a,.w b] fun c=>B4 a fun d=>ld (Addr.add (d.add 19) 2) (.lf .ptr) fun e=>cl PP 47 #[.q a,.w b] [.lf (.int .u64)] fun a=>keep (C0 (Addr.add (d.add 19) 2) [.q e])<|cl PP 103 #[.q e,.int .u64 a.1] [.lf .sl] fun a=>lp [lI] (0,()) fun e f=>B3 (decide ((e.1:Int)<a.1.len)) (M4 a.1.a a.1.len e.1 3 fun a=>ld a Z1 fun a=>ld (d.add 11) (.lf .ptr) fun d=>cl PP 104 #[.q d,.agg (ki3 a)] [.lf .str,.lf .sl,lI] fun d=>B3 (decide ((d.2.2.1:Int)=0)) (B3 (decide (d.1=b)) (c (.t #[.agg (ki3 a),.sv d.2.1,.b true])) (D9 (e.1+1) fun a=>f (a,()))) (D9 (e.1+1) fun a=>f (a,()))) (c (.t #[.agg #[.i 0,.i 0,.i 0],.slice none 0 0,.b false])):=(e54 a b).cc fun K=>by
  refine U3 fun n1=>Yd fun a1 nL=>U4 fun v1=>Q8 fun r1=>Al1<|Q8 fun r2=>Hl fun go1' go1 bW z1=>?_;refine X9 ?_ ?_
  · refine Fa fun a2 dZ=>U4 fun v2=>U3 fun n2=>S9 0 0 rfl rfl rfl rfl<|Al0 nL<|U4 fun v3=>H8 0 0 rfl rfl rfl<|Q8 fun r3=>?_
    refine Ho ?_ ?_
    · refine Al2 ?_ ?_
      · exact H8 0 0 rfl rfl rfl<|S9 1 0 rfl rfl rfl rfl<|H8 1 0 rfl rfl rfl<|R9
      · exact S8<|S3 1 rfl rfl<|S6 (bW _) rfl
    · exact S8<|S3 1 rfl rfl<|S6 (bW _) rfl
  · exact S9 0 0 rfl rfl rfl rfl<|H8 0 0 rfl rfl rfl<|R9
def c56 a b:CC 56 #[.q a,.i b] fun c=>lp [] (()) fun d e=>B4 a fun d=>nw (.cells #[.i b] 3) fun f=>cl PP 107 #[.q (some (d.add 11)),.slice (some f.z) 1 1] [.lf .bool] fun f=>B3 f.1 (nw (.cells #[.i b] 3) fun a=>cl PP 109 #[.q (some (d.add 11)),.slice (some a.z) 1 1] [.lf .bool] fun a=>B3 a.1 (c (.i 0)) (c (.i 13))) (cl PP 108 #[.q a,.i b] [lI] fun a=>B3 (decide ((a.1:Int)=0)) (e (())) (c (.i a.1))):=(e56 a b).cc
def c59 a b c:CC 59 #[.q a,.i b,.sv c] fun d=>B4 a fun e=>ld (e.add 4) (.lf .ptr) fun f=>ld (e.add 2) (.lf .ptr) fun g=>nw (.cells #[.i c.len] 3) fun h=>cl PP 115 #[.q a,.slice (some h.z) 1 1] [lI] fun h=>keep (C0 (e.add 2) [.q g])<|cl PP 114 #[.q g,.i h.1] [.lf .bool] fun g=>B4 f fun f=>ld f (lI) fun g=>ld (f.add 2) (lI) fun h=>ld (f.add 1) (lI) fun i=>ld e (.lf .ptr) fun e=>ld f (lI) fun j=>ld (f.add 1) (lI) fun k=>ld (f.add 2) (lI) fun l=>cl PP 116 #[.q e,.i j,.i k,.i l,.i b,.sv c] [lI] fun e=>B3 (decide ((e.1:Int)=0)) (ld (f.add 3) (.lf .sl) fun a=>ld (f.add 2) (lI) fun e=>Cb PP 129 129 129 208 a 1 [.i b,.i e,.i c.len] fun a=>st (f.add 3) [.slice a.a a.len a.cap]<|ld (f.add 2) (lI) fun a=>D9 (a+c.len) fun a=>st (f.add 2) [.i a]<|d (.t #[.agg #[.i g,.i h,.i i],.i 0])) (cl PP 117 #[.q a,.i e.1] [lI] fun a=>d (.t #[.agg #[.i g,.i h,.i i],.i a.1])):=(e59 a b c).cc
def c60 a b c:CC 60 #[.sv a,.i b,.i c] fun d=>slc a b c a.len 3 fun e=>B3 (decide ((b:Int)=c)) (d (.sv a)) (slc a 0 b a.cap 3 fun b=>slc a c a.len a.cap 3 fun c=>F3 PP (Builtin.append_ #[65,65] 65 #[.sv b,.sv c]) [.lf .sl] fun b=>slc b.1 b.1.len a.len b.1.cap 3 fun a=>F3 PP (Builtin.clear_ #[65] 0 #[.sv a]) [] fun a=>d (.sv b.1)):=(e60 a b c).cc
def c61 a:CC 61 #[.q a] fun b=>B3 (Option.isNone a) (b (.b false)) (B4 a fun a=>ld (Addr.add (a.add 11) 7) (.lf .bool) fun a=>b (.b (!a))):=(e61 a).cc
def c65(a:F7 Z3):CC 65 #[.agg (ki11 a)] fun b=>cl PP 120 #[.i a.2.2.2.2.2.2.1,.i 65536] [.lf .bool] fun c=>B3 c.1 (cl PP 120 #[.i a.2.2.2.2.2.2.2.1,.i 64] [.lf .bool] fun c=>cl PP 120 #[.i a.2.2.2.2.2.2.2.2.1,.i 1048576] [.lf .bool] fun d=>B3 d.1 (cl PP 120 #[.i a.2.2.2.2.2.2.2.2.2.1,.i 1073741824] [.lf .bool] fun d=>B3 c.1 (B3 d.1 (D9 (a.2.1-2) fun c=>D9 (3*c) fun c=>cl PP 57 #[.i a.2.2.1] [lI] fun a=>b (.b (decide ((c:Int)<=a.1)))) (b (.b false))) (b (.b false))) (B3 c.1 (b (.b false)) (b (.b false)))) (cl PP 120 #[.i a.2.2.2.2.2.2.2.2.1,.i 1048576] [.lf .bool] fun c=>B3 c.1 (cl PP 120 #[.i a.2.2.2.2.2.2.2.2.2.1,.i 1073741824] [.lf .bool] fun a=>b (.b false)) (b (.b false))):=(e65 a).cc
def c66 a:CC 66 #[.q a] fun b=>nw (.cells #[.q a] 28) fun a=>ld a.z (.lf .ptr) fun c=>B3 (Option.isNone c) (b (.t #[.agg #[.slice none 0 0,.slice none 0 0,.i 0],.i 1])) (ld a.z (.lf .ptr) fun c=>cl PP 15 #[.q c] [.lf .bool] fun c=>B3 c.1 (b (.t #[.agg #[.slice none 0 0,.slice none 0 0,.i 0],.i 11])) (ld a.z (.lf .ptr) fun c=>cl PP 121 #[.q c] [.lf .sl,.lf .sl,lI] fun c=>nw (.cells #[.slice none 0 0] 220) fun d=>st d.z [.slice c.2.1.a c.2.1.len c.2.1.cap]<|B3 (decide ((c.2.2.1:Int)=0)) (lp [lI,lI] (0,0,()) fun e f=>B3 (decide ((e.1:Int)<c.1.len)) (M4 c.1.a c.1.len e.1 3 fun a=>ld a Z5 fun a=>D9 (e.1+1) fun b=>f (b,L9 e.2.1 a.2.1,())) (nw (.cells #[.slice none 0 0] 120) fun f=>nw (.map #[] 0) fun g=>nw (.cells #[.map none] 223) fun h=>st h.z [.map (some g)]<|cl PP 122 #[.sv c.1,.i 2,.func (.func 123) #[] #[.p a,.p f,.p h]] [] fun a=>nw (.map #[] 0) fun a=>nw (.cells #[.map none] 226) fun g=>st g.z [.map (some a)]<|cl PP 122 #[.sv c.1,.i 3,.func (.func 124) #[] #[.p d,.p g]] [] fun a=>ld f.z (.lf .sl) fun a=>lp [lI] (0,()) fun d i=>B3 (decide ((d.1:Int)<a.len)) (M4 a.a a.len d.1 4 fun a=>ld a Z6 fun a=>ld g.z (.lf .map) fun b=>ld h.z (.lf .map) fun c=>S4 PP (Instr.lookup 223 (.map c) (.w a.1) false) [Z1] fun c=>S4 PP (Instr.lookup 226 (.map b) (.agg (ki3 c.1)) false) [.lf .bool] fun b=>B3 b.1 (ld h.z (.lf .map) fun b=>F3 PP (Builtin.delete_ #[223,9] 0 #[.map b,.w a.1]) [] fun a=>D9 (d.1+1) fun a=>i (a,())) (D9 (d.1+1) fun a=>i (a,()))) (ld f.z (.lf .sl) fun a=>lp [lI,.lf .sl,lI] (0,⟨none,0,0⟩,e.2.1,()) fun d e=>B3 (decide ((d.1:Int)<a.len)) (M4 a.a a.len d.1 4 fun a=>ld a Z6 fun a=>ld h.z (.lf .map) fun b=>S4 PP (Instr.lookup 223 (.map b) (.w a.1) true) [Z1,.lf .bool] fun b=>B3 b.2.1 (Y8 PP (binOp .eql 100 (.agg (ki3 b.1)) (.agg (ki3 a.2))) (.lf .bool) fun b=>B3 b (Cb PP 120 120 120 139 d.2.1 1 [.w a.1,.i a.2.1,.i a.2.2.1,.i a.2.2.2.1] fun a=>D9 (d.1+1) fun b=>e (b,a,d.2.2.1,())) (D9 (d.1+1) fun a=>e (a,d.2.1,d.2.2.1,()))) (D9 (d.1+1) fun a=>e (a,d.2.1,d.2.2.1,()))) (b (.t #[.agg #[.sv c.1,.sv d.2.1,.i d.2.2.1],.i 0]))))) (b (.t #[.agg #[.slice none 0 0,.slice none 0 0,.i 0],.i c.2.2.1])))):=(e66 a).cc fun K=>by
  refine Il fun n1=>U3 fun n2=>U4 fun v1=>?_;refine X9 ?_ ?_
  · exact S9 0 0 rfl rfl rfl rfl<|H8 0 0 rfl rfl rfl<|R9
  · refine U4 fun v2=>Q8 fun r1=>?_
    refine X9 ?_ ?_
    · exact S9 0 0 rfl rfl rfl rfl<|H8 0 0 rfl rfl rfl<|R9
    · refine U4 fun v3=>Q8 fun r2=>Il fun n3=>Up ?_
      refine Ez ?_ ?_
      · exact S9 0 0 rfl rfl rfl rfl<|H8 0 0 rfl rfl rfl<|R9
      · refine U3 fun n4=>S9 0 0 rfl rfl rfl rfl<|Ye (fun z1=>[(n4,.cells #[.sv r2.1,.slice none 0 0,.i z1.2.1] 122 (0,0))]) (fun z1=>(z1.1,())) rfl rfl fun go1' go1 bW z1=>?_
        refine X9 ?_ ?_
        · exact Fa fun a1 nL=>U4 fun v4=>U3 fun n5=>S9 0 0 rfl rfl rfl rfl<|H8 1 2 rfl rfl rfl<|H8 0 1 rfl rfl rfl<|S9 1 2 rfl rfl rfl rfl<|S8<|S3 2 rfl rfl<|S3 2 rfl rfl<|S6 (bW _) rfl
        · refine Il fun n6=>Il fun n7=>Il fun n8=>Up<|Q8 fun r3=>Il fun n9=>Il fun n10=>Up<|Q8 fun r4=>U4 fun v5=>Hl fun go2' go2 gH z2=>?_
          refine X9 ?_ ?_
          · refine Fa fun a2 dZ=>U4 fun v6=>U3 fun Et=>S9 0 0 rfl rfl rfl rfl<|U4 fun v7=>U4 fun v8=>H8 0 0 rfl rfl rfl<|Yc fun v9=>Yc fun v10=>?_
            refine X9 ?_ ?_
            · exact U4 fun v11=>H8 0 0 rfl rfl rfl<|Ak8 fun v12=>S8<|S3 2 rfl rfl<|S3 2 rfl rfl<|S6 (gH _) rfl
            · exact S8<|S3 2 rfl rfl<|S3 2 rfl rfl<|S6 (gH _) rfl
          · refine U4 fun v13=>Ye (fun z3=>[(n4,.cells #[.sv r2.1,.sv z3.2.1,.i z3.2.2.1] 122 (0,0))]) (fun z3=>(z3.1,())) rfl rfl fun go3' go3 rJ z3=>?_
            refine X9 ?_ ?_
            · refine Fa fun a3 kU=>U4 fun v14=>U3 fun n12=>S9 0 0 rfl rfl rfl rfl<|U4 fun v15=>H8 0 0 rfl rfl rfl<|Yc fun v16=>U3 fun n13=>S9 0 0 rfl rfl rfl rfl ?_
              refine X9 ?_ ?_
              · refine H8 0 0 rfl rfl rfl<|H8 1 1 rfl rfl rfl<|FE fun v17=>?_
                refine X9 ?_ ?_
                · exact H8 2 1 rfl rfl rfl<|H8 1 0 rfl rfl rfl<|U3 fun n14=>Uq (v:=_) 0 rfl fun s1=>S9 3 1 rfl rfl rfl rfl<|S8<|S3 4 rfl rfl<|S3 4 rfl rfl<|S6 (rJ _) rfl
                · exact S8<|S3 3 rfl rfl<|S3 3 rfl rfl<|S6 (rJ _) rfl
              · exact S8<|S3 3 rfl rfl<|S3 3 rfl rfl<|S6 (rJ _) rfl
            · exact H8 0 0 rfl rfl rfl<|S9 1 0 rfl rfl rfl rfl<|H8 1 0 rfl rfl rfl<|R9
def c71 a:CC 71 #[.q a] fun b=>cl PP 64 #[.q a] [Z4] fun c=>lp [.lf .sl,lI] (⟨none,0,0⟩,0,()) fun d e=>B3 (decide ((d.2.1:Int)<c.1.1)) (cl PP 77 #[.q a,.i d.2.1] [lI] fun b=>cl PP 129 #[.q a,.i d.2.1] [.lf .bool] fun c=>cl PP 130 #[.q a,.i d.2.1] [lI] fun a=>Cb PP 136 136 136 236 d.1 1 [.i b.1,.b c.1,.b ((a.1:Int) !=0)] fun a=>D9 (d.2.1+1) fun b=>e (a,b,())) (b (.sv d.1)):=(e71 a).cc
def c72 a b(c:F7 Z1):CC 72 #[.q a,.w b,.agg (ki3 c)] fun d=>B4 a fun e=>ld (Addr.add (e.add 19) 2) (.lf .ptr) fun f=>cl PP 47 #[.q a,.w b] [.lf (.int .u64)] fun a=>keep (C0 (Addr.add (e.add 19) 2) [.q f])<|cl PP 131 #[.q f,.int .u64 a.1,.agg (ki3 c)] [Z1,.lf .bool] fun a=>B3 a.2.1 (ld (Addr.add (e.add 11) 6) (.lf .sl) fun b=>Cb PP 65 65 65 100 b 1 [.i a.1.1,.i a.1.2.1,.i a.1.2.2.1] fun a=>st (Addr.add (e.add 11) 6) [.slice a.a a.len a.cap]<|d (.t #[])) (d (.t #[])):=(e72 a b c).cc
def c79 a(b:Y5):CC 79 #[.q a,.func b.fn b.first b.captured] fun c=>cl PP 61 #[.q a] [.lf .bool] fun a=>B3 a.1 (U5 PP b.fn (b.first++#[]) b.captured [lI] fun a=>c (.i a.1)) (c (.i 0)):=(e79 a b).cc
def c80 a:CC 80 #[.q a] fun b=>B4 a fun a=>ld a (.lf .ptr) fun a=>B4 a fun a=>ld (Addr.add (a.add 19) 2) (.lf .ptr) fun a=>cl PP 81 #[.q a] [lI] fun a=>b (.i a.1):=(e80 a).cc
def c82(a:B6):CC 82 #[.slice a.a a.len a.cap] fun b=>B3 (Option.isNone a.a) (b (.slice none 0 0)) (nw (.cells #[] 100) fun c=>F3 PP (Builtin.append_ #[65,65] 65 #[.slice (some c.z) 0 0,.slice a.a a.len a.cap]) [.lf .sl] fun a=>b (.slice a.1.a a.1.len a.1.cap)):=(e82 a).cc
def c85 a b:CC 85 #[.q a,.w b] fun c=>B3 (Option.isNone a) (c (.q none)) (B4 a fun a=>ld a (.lf .map) fun a=>S4 PP (Instr.lookup 156 (.map a) (.w b) false) [.lf .ptr] fun a=>c (.q a.1)):=(e85 a b).cc
def c86 a:CC 86 #[.q a] fun b=>B4 a fun a=>ld (a.add 2) (.lf .map) fun c=>F3 PP (Builtin.clear_ #[161] 0 #[.map c]) [] fun c=>ld (a.add 1) (.lf .bool) fun c=>B3 c (ld (a.add 2) (.lf .map) fun c=>ld a (.lf .str) fun a=>Aw PP (Instr.mapUpdate 161 (.map c) (.w a) (.b true))<|b (.t #[])) (b (.t #[])):=(e86 a).cc
def c87 a:CC 87 #[.sv a] fun b=>cl PP 141 #[.int .u64 (IntKind.u64.wrap a.len)] [lI] fun c=>cl PP 140 #[.sv a,.i 0,.i a.len,.i c.1] [] fun a=>b (.t #[]):=(e87 a).cc
set_option maxRecDepth 100000
def c104 a(b:F7 Z1):CC 104 #[.q a,.agg (ki3 b)] fun c=>cl PP 149 #[.q a,.i b.1,.i 0] [.lf .sl,lI] fun d=>B3 (decide ((d.2.1:Int)=0)) (lp [.lf .sl,lI] (⟨none,0,0⟩,1,()) fun d e=>B3 (decide ((d.1.len:Int)<d.2.1)) (D9 (b.2.1+d.1.len) fun f=>cl PP 149 #[.q a,.i b.1,.i f] [.lf .sl,lI] fun a=>B3 (decide ((a.2.1:Int)=0)) (cl PP 150 #[.sv a.1] [Z2,.lf .sl,lI] fun a=>B3 (decide ((a.2.2.1:Int)=0)) (jn (fun b:D2 [lI]=>Cb PP 153 153 153 37 d.1 1 [.sv a.2.1] fun a=>e (a,b.1,())) fun e=>B3 (decide ((d.1.len:Int)=0)) (B3 (decide ((a.1.1:Int)=2)) (B3 (decide ((a.1.2.1:Int)=0)) (B3 (decide ((a.1.2.2.2.1:Int)=b.2.2.1)) (B3 (decide ((a.1.2.2.2.2.1:Int)=b.2.1)) (e (a.1.2.2.1,())) (c (.t #[.w (ByteArray.mk #[]),.slice none 0 0,.i 8]))) (c (.t #[.w (ByteArray.mk #[]),.slice none 0 0,.i 8]))) (c (.t #[.w (ByteArray.mk #[]),.slice none 0 0,.i 8]))) (c (.t #[.w (ByteArray.mk #[]),.slice none 0 0,.i 8]))) (e (d.2.1,()))) (c (.t #[.w (ByteArray.mk #[]),.slice none 0 0,.i 8]))) (c (.t #[.w (ByteArray.mk #[]),.slice none 0 0,.i 8]))) (cl PP 151 #[.sv d.1] [.lf .str,.lf .sl,lI] fun a=>c (.t (kwvi a)))) (c (.t #[.w (ByteArray.mk #[]),.slice none 0 0,.i d.2.1])):=(e104 a b).cc fun K=>by
  refine U3 fun n1=>H8 0 0 rfl rfl rfl<|Q8 fun r1=>?_;refine Ez ?_ ?_
  · exact R9
  · refine Hl fun go1' go1 bW z1=>?_
    refine X9 ?_ ?_
    · refine H8 0 0 rfl rfl rfl<|H8 0 1 rfl rfl rfl<|S8<|Q8 fun r2=>?_
      refine Ez ?_ ?_
      · exact R9
      · refine Q8 fun r3=>U3 fun n2=>S9 0 0 rfl rfl rfl rfl ?_
        refine Ez ?_ ?_
        · exact R9
        · refine FG (fun y1=>?_) fun j1' j1 eP=>?_
          · exact U3 fun n3=>Uq (v:=_) 0 rfl fun s1=>S3 2 rfl rfl<|S6 (bW _) rfl
          · refine Ho ?_ ?_
            · refine H8 0 0 rfl rfl rfl ?_
              refine Ez ?_ ?_
              · exact R9
              · refine H8 0 1 rfl rfl rfl ?_
                refine Ez ?_ ?_
                · exact R9
                · refine H8 0 3 rfl rfl rfl<|H8 1 2 rfl rfl rfl ?_
                  refine Ez ?_ ?_
                  · exact R9
                  · refine H8 0 4 rfl rfl rfl<|H8 1 1 rfl rfl rfl ?_
                    refine Ez ?_ ?_
                    · exact R9
                    · exact H8 0 2 rfl rfl rfl<|S6 (eP _) rfl
            · exact S6 (eP _) rfl
    · exact Q8 fun r4=>R9
def c107 a b:CC 107 #[.q a,.sv b] fun c=>B4 a fun a=>ld (a.add 4) (.lf .ptr) fun d=>B3 (Option.isNone d) (c (.b false)) (ld (a.add 4) (.lf .ptr) fun d=>B4 d fun d=>ld (d.add 2) (lI) fun d=>lp [lI,lI] (d,0,()) fun d e=>B3 (decide ((d.2.1:Int)<b.len)) (M4 b.a b.len d.2.1 1 fun a=>ld a (lI) fun a=>D9 (d.1+a) fun a=>D9 (d.2.1+1) fun b=>e (a,b,())) (ld a (.lf .ptr) fun a=>cl PP 64 #[.q a] [Z4] fun a=>c (.b (decide ((d.1:Int)<a.1.2.1))))):=(e107 a b).cc
def c108 a b:CC 108 #[.q a,.i b] fun c=>jn (fun d:D2 [lI]=>B4 a fun e=>nw (.cells #[.i b,.i 1,.i d.1] 3) fun d=>cl PP 109 #[.q (some (e.add 11)),.slice (some d.z) 3 3] [.lf .bool] fun d=>B3 d.1 (ld (Addr.add (e.add 11) 5) (lI) fun d=>B3 (decide ((d:Int)≥1073741824)) (c (.i 7)) (ld (Addr.add (e.add 11) 1) (.lf .ptr) fun d=>cl PP 153 #[.q d] [lI] fun d=>B3 (decide ((d.1:Int)=0)) (cl PP 154 #[.q (some (e.add 11))] [.lf .ptr] fun d=>B3 (Option.isNone d.1) (c (.i 7)) (cl PP 155 #[.q a,.q d.1,.i b] [lI] fun a=>c (.i a.1))) (cl PP 156 #[.q (some (e.add 11))] [lI] fun d=>B3 (decide ((d.1:Int)=0)) (ld (Addr.add (e.add 11) 1) (.lf .ptr) fun d=>cl PP 157 #[.q d] [lI,.lf .bool,.lf .bool] fun d=>jn (fun f:D2 []=>cl PP 159 #[.q (some (e.add 11)),.i d.1] [lI] fun d=>B3 (decide ((d.1:Int)=0)) (lp [] (()) fun d f=>ld (Addr.add (e.add 11) 1) (.lf .ptr) fun d=>cl PP 153 #[.q d] [lI] fun d=>B3 (decide ((d.1:Int)=0)) (cl PP 154 #[.q (some (e.add 11))] [.lf .ptr] fun d=>B3 (Option.isNone d.1) (c (.i 0)) (cl PP 155 #[.q a,.q d.1,.i b] [lI] fun a=>B3 (decide ((a.1:Int)=0)) (f (())) (c (.i a.1)))) (c (.i 0))) (c (.i d.1))) fun a=>B3 d.2.1 (cl PP 158 #[.q (some (e.add 11)),.i d.1] [lI] fun b=>B3 (decide ((b.1:Int)=0)) (ld (e.add 11) (.lf .ptr) fun e=>cl PP 129 #[.q e,.i d.1] [.lf .bool] fun d=>B3 d.1 (c (.i b.1)) (a (()))) (c (.i b.1))) (a (()))) (c (.i d.1))))) (c (.i 13))) fun b=>B4 a fun a=>ld (Addr.add (a.add 11) 4) (.lf .ptr) fun a=>B3 (Option.isNone a) (b (0,())) (b (1,())):=(e108 a b).cc
def c109 a b:CC 109 #[.q a,.sv b] fun c=>B4 a fun d=>ld (d.add 2) (.lf .ptr) fun d=>cl PP 160 #[.q d] [lI] fun d=>cl PP 115 #[.q a,.sv b] [lI] fun a=>c (.b (decide ((d.1:Int)≥a.1))):=(e109 a b).cc
def c115 a b:CC 115 #[.q a,.sv b] fun c=>lp [lI,lI] (0,0,()) fun d e=>B3 (decide ((d.2.1:Int)<b.len)) (M4 b.a b.len d.2.1 1 fun a=>ld a (lI) fun a=>D9 (d.1+a) fun a=>D9 (d.2.1+1) fun b=>e (a,b,())) (B4 a fun a=>ld a (.lf .ptr) fun a=>cl PP 64 #[.q a] [Z4] fun a=>D9 (d.1*a.1.2.2.1) fun a=>c (.i a)):=(e115 a b).cc
def c116 a b c d e f:CC 116 #[.q a,.i b,.i c,.i d,.i e,.sv f] fun g=>B3 (decide ((f.len:Int)=0)) (g (.i 2)) (lp [lI,lI,lI,lI,lI,lI] (0,e,0,f.len,c,d,()) fun c d=>B3 (decide ((c.1:Int)<f.len)) (M4 f.a f.len c.1 1 fun e=>ld e (.lf .sl) fun e=>cl PP 162 #[.q a,.i b,.agg #[.i c.2.1,.i c.1,.i c.2.2.2.1,.i c.2.2.2.2.1,.i c.2.2.2.2.2.1],.sv e] [lI] fun a=>B3 (decide ((a.1:Int)=0)) (D9 (c.2.2.2.2.2.1+1) fun a=>D9 (c.1+1) fun b=>d (b,c.2.1,c.1,c.2.2.2.1,c.2.2.2.2.1,a,())) (g (.i a.1))) (g (.i 0))):=(e116 a b c d e f).cc fun K=>by
  refine Ho ?_ ?_
  · exact R9
  · refine U3 fun n1=>S9 0 0 rfl rfl rfl rfl<|Ye (fun z1=>[(n1,.cells (ki5 z1.2) 142 (0,0))]) (fun z1=>(z1.1,())) rfl rfl fun go1' go1 bW z1=>?_
    refine X9 ?_ ?_
    · refine Fa fun a1 nL=>U4 fun v1=>S9 0 1 rfl rfl rfl rfl<|H8 0 0 rfl rfl rfl<|Q8 fun r1=>?_
      refine Ez ?_ ?_
      · exact R9
      · exact H8 0 4 rfl rfl rfl<|S8<|S9 0 4 rfl rfl rfl rfl<|S8<|S6 (bW _) rfl
    · exact R9
def c117 a b:CC 117 #[.q a,.i b] fun c=>B4 a fun a=>ld (a.add 7) (.lf .bool) fun d=>B3 d (st (a.add 7) [.b true]<|c (.i b)) (st (a.add 7) [.b ((b:Int)==11)]<|c (.i b)):=(e117 a b).cc
def c120 a b:CC 120 #[.i a,.i b] fun c=>B3 (decide ((a:Int)≥0)) (c (.b (decide ((a:Int)<=b)))) (c (.b false)):=(e120 a b).cc
def c121 a:CC 121 #[.q a] fun b=>cl PP 64 #[.q a] [Z4] fun c=>lp [.lf .sl,.lf .sl,lI] (⟨none,0,0⟩,⟨none,0,0⟩,0,()) fun d e=>B3 (decide ((d.2.2.1:Int)<c.1.1)) (cl PP 163 #[.q a,.i d.2.2.1] [.lf .sl,lI] fun a=>B3 (decide ((a.2.1:Int)=0)) (Cb PP 220 220 220 153 d.2.1 1 [.sv a.1] fun b=>cl PP 164 #[.sv a.1] [Z10,.lf .bool] fun a=>B3 a.2.1 (Cb PP 119 119 119 131 d.1 1 [.i d.2.2.1,.i a.1.1,.sv a.1.2.2.1] fun a=>D9 (d.2.2.1+1) fun c=>e (a,b,c,())) (D9 (d.2.2.1+1) fun a=>e (d.1,b,a,()))) (b (.t #[.slice none 0 0,.slice none 0 0,.i a.2.1]))) (cl PP 165 #[.sv d.1,.func (.func 166) #[] #[]] [] fun a=>b (.t #[.sv d.1,.sv d.2.1,.i 0])):=(e121 a).cc
def c122(a:B6) b(c:Y5):CC 122 #[.slice a.a a.len a.cap,.i b,.func c.fn c.first c.captured] fun d=>lp [lI] (0,()) fun e f=>B3 (decide ((e.1:Int)<a.len)) (M4 a.a a.len e.1 3 fun a=>ld a Z5 fun a=>lp [lI] (0,()) fun d g=>B3 (decide ((d.1:Int)<a.2.2.1.len)) (M4 a.2.2.1.a a.2.2.1.len d.1 3 fun e=>ld e Z1 fun e=>B3 (decide ((e.1:Int)=b)) (U5 PP c.fn (c.first++#[.agg #[.i a.1,.i a.2.1,.slice a.2.2.1.a a.2.2.1.len a.2.2.1.cap],.agg (ki3 e)]) c.captured [] fun a=>D9 (d.1+1) fun a=>g (a,())) (D9 (d.1+1) fun a=>g (a,()))) (D9 (e.1+1) fun a=>f (a,()))) (d (.t #[])):=(e122 a b c).cc fun K=>by
  refine Hl fun go1' go1 bW z1=>?_;refine X9 ?_ ?_
  · refine Fa fun a1 nL=>U4 fun v1=>U3 fun n1=>S9 0 0 rfl rfl rfl rfl<|H8 0 2 rfl rfl rfl<|Hl fun go2' go2 gH z2=>?_
    refine X9 ?_ ?_
    · refine Fa fun a2 dZ=>U4 fun v2=>U3 fun n2=>S9 0 0 rfl rfl rfl rfl<|H8 0 0 rfl rfl rfl ?_
      refine Ho ?_ ?_
      · exact H8 1 0 rfl rfl rfl<|H8 0 0 rfl rfl rfl<|Al3 fun r1=>S8<|S3 1 rfl rfl<|S6 (gH _) rfl
      · exact S8<|S3 1 rfl rfl<|S6 (gH _) rfl
    · exact S8<|S6 (bW _) rfl
  · exact R9
def c123(a:F7 Z5)(b:F7 Z1) c d e:CC 123 #[.agg (kiiv a),.agg (ki3 b),.q c,.q d,.q e] fun f=>B4 c fun c=>ld c (.lf .ptr) fun c=>cl PP 104 #[.q c,.agg #[.i a.1,.i b.2.1,.i a.2.1]] [.lf .str,.lf .sl,lI] fun c=>B3 (decide ((c.2.2.1:Int)=0)) (B4 d fun d=>ld d (.lf .sl) fun g=>Cb PP 120 120 120 139 g 1 [.w c.1,.i a.1,.i b.2.1,.i a.2.1] fun g=>st d [.slice g.a g.len g.cap]<|B4 e fun d=>ld d (.lf .map) fun d=>Aw PP (Instr.mapUpdate 223 (.map d) (.w c.1) (.agg #[.i a.1,.i b.2.1,.i a.2.1]))<|f (.t #[])) (f (.t #[])):=(e123 a b c d e).cc
def c124(a:F7 Z5)(b:F7 Z1) c d:CC 124 #[.agg (kiiv a),.agg (ki3 b),.q c,.q d] fun e=>B4 c fun c=>ld c (.lf .sl) fun c=>M4 c.a c.len a.1 1 fun a=>ld a (.lf .sl) fun a=>cl PP 125 #[.sv a,.agg (ki3 b)] [.lf .sl] fun a=>lp [lI] (0,()) fun b c=>B3 (decide ((b.1:Int)<a.1.len)) (M4 a.1.a a.1.len b.1 1 fun a=>ld a (.lf .sl) fun a=>cl PP 126 #[.sv a] [.lf .sl,lI] fun a=>lp [lI] (0,()) fun e f=>B3 (decide ((e.1:Int)<a.1.len)) (M4 a.1.a a.1.len e.1 3 fun a=>ld a Z1 fun a=>B4 d fun b=>ld b (.lf .map) fun b=>Aw PP (Instr.mapUpdate 226 (.map b) (.agg (ki3 a)) (.b true))<|D9 (e.1+1) fun a=>f (a,())) (D9 (b.1+1) fun a=>c (a,()))) (e (.t #[])):=(e124 a b c d).cc fun K=>by
  refine U3 fun n1=>U3 fun n2=>Yd fun a1 nL=>U4 fun v1=>H8 1 0 rfl rfl rfl<|Fa fun a2 dZ=>U4 fun v2=>H8 0 0 rfl rfl rfl<|Q8 fun r1=>Hl fun go1' go1 bW z1=>?_;refine X9 ?_ ?_
  · refine Fa fun a3 kU=>U4 fun v3=>Q8 fun r2=>Hl fun go2' go2 gH z2=>?_
    refine X9 ?_ ?_
    · exact Fa fun a4 aj=>U4 fun v4=>U3 fun n3=>S9 0 0 rfl rfl rfl rfl<|Yd fun a5 ha5=>U4 fun v5=>H8 0 0 rfl rfl rfl<|FD<|S8<|S3 2 rfl rfl<|S3 2 rfl rfl<|S6 (gH _) rfl
    · exact S8<|S6 (bW _) rfl
  · exact R9
def c125 a(b:F7 Z1):CC 125 #[.sv a,.agg (ki3 b)] fun c=>lp [.lf .sl,lI] (⟨none,0,0⟩,0,()) fun d e=>B3 (decide ((d.2.1:Int)<b.2.2.1)) (B3 (decide ((b.2.1:Int)<0)) (c (.slice none 0 0)) (D9 (a.len-d.2.1) fun f=>B3 (decide ((b.2.1:Int)≥f)) (c (.slice none 0 0)) (D9 (b.2.1+d.2.1) fun b=>M4 a.a a.len b 1 fun a=>ld a (.lf .sl) fun a=>cl PP 150 #[.sv a] [Z2,.lf .sl,lI] fun a=>B3 (decide ((a.2.2.1:Int)=0)) (Cb PP 153 153 153 37 d.1 1 [.sv a.2.1] fun a=>D9 (d.2.1+1) fun b=>e (a,b,())) (c (.slice none 0 0))))) (c (.sv d.1)):=(e125 a b).cc fun K=>by
  refine U3 fun n1=>Hl fun go1' go1 bW z1=>H8 0 2 rfl rfl rfl ?_;refine X9 ?_ ?_
  · refine H8 0 1 rfl rfl rfl ?_
    refine X9 ?_ ?_
    · exact R9
    · refine H8 0 1 rfl rfl rfl<|S8 ?_
      refine X9 ?_ ?_
      · exact R9
      · refine H8 0 1 rfl rfl rfl<|S8<|Fa fun a1 nL=>U4 fun v1=>Q8 fun r1=>U3 fun n2=>S9 0 0 rfl rfl rfl rfl ?_
        refine Ez ?_ ?_
        · exact R9
        · exact U3 fun n3=>Uq (v:=_) 0 rfl fun s1=>S8<|S3 2 rfl rfl<|S6 (bW _) rfl
  · exact R9
set_option maxRecDepth 100000
def c140 a b c d:CC 140 #[.sv a,.i b,.i c,.i d] fun e=>lp [lI,lI,lI,.lf .bool,.lf .bool] (b,c,d,true,true,()) fun b c=>D9 (b.2.1-b.1) fun d=>B3 (decide ((d:Int)<=12)) (cl PP 176 #[.sv a,.i b.1,.i b.2.1] [] fun a=>e (.t #[])) (B3 (decide ((b.2.2.1:Int)=0)) (cl PP 177 #[.sv a,.i b.1,.i b.2.1] [] fun a=>e (.t #[])) (jn (fun f:D2 [lI]=>cl PP 179 #[.sv a,.i b.1,.i b.2.1] [lI,lI] fun g=>jn (fun g:D2 [lI,lI]=>jn (fun e:D2 []=>jn (fun e:D2 [lI]=>cl PP 184 #[.sv a,.i e.1,.i b.2.1,.i g.1] [lI,.lf .bool] fun g=>D9 (g.1-e.1) fun h=>D9 (b.2.1-g.1) fun i=>D9 (Int.tdiv d 8) fun d=>B3 (decide ((h:Int)<i)) (cl PP 140 #[.sv a,.i e.1,.i g.1,.i f.1] [] fun a=>D9 (g.1+1) fun a=>c (a,b.2.1,f.1,decide ((h:Int)≥d),g.2.1,())) (D9 (g.1+1) fun h=>cl PP 140 #[.sv a,.i h,.i b.2.1,.i f.1] [] fun a=>c (e.1,g.1,f.1,decide ((i:Int)≥d),g.2.1,()))) fun d=>B3 (decide ((b.1:Int)>0)) (D9 (b.1-1) fun e=>M4 a.a a.len e 1 fun e=>M4 a.a a.len g.1 1 fun h=>ld e (.lf .str) fun e=>ld h (.lf .str) fun h=>cl PP 182 #[.w e,.w h] [.lf .bool] fun e=>B3 e.1 (d (b.1,())) (cl PP 183 #[.sv a,.i b.1,.i b.2.1,.i g.1] [lI] fun a=>c (a.1,b.2.1,f.1,b.2.2.2.1,b.2.2.2.2.1,()))) (d (b.1,()))) fun c=>B3 b.2.2.2.1 (B3 b.2.2.2.2.1 (B3 (decide ((g.2.1:Int)=1)) (cl PP 181 #[.sv a,.i b.1,.i b.2.1] [.lf .bool] fun a=>B3 a.1 (e (.t #[])) (c (()))) (c (()))) (c (()))) (c (()))) fun c=>B3 (decide ((g.2.1:Int)=2)) (cl PP 180 #[.sv a,.i b.1,.i b.2.1] [] fun a=>D9 (b.2.1-1) fun a=>D9 (g.1-b.1) fun b=>D9 (a-b) fun a=>c (a,1,())) (c (g.1,g.2.1,()))) fun c=>B3 b.2.2.2.1 (c (b.2.2.1,())) (cl PP 178 #[.sv a,.i b.1,.i b.2.1] [] fun a=>D9 (b.2.2.1-1) fun a=>c (a,())))):=(e140 a b c d).cc
def c141(a:Int):CC 141 #[.int .u64 a] fun b=>cl PP 186 #[.int .u64 a] [lI] fun a=>b (.i a.1):=(e141 a).cc
def c154 a:CC 154 #[.q a] fun b=>B4 a fun a=>ld (a.add 1) (.lf .ptr) fun c=>cl PP 202 #[.q c] [lI,.lf .bool] fun c=>jn (fun d:D2 []=>ld (a.add 3) (.lf .map) fun a=>S4 PP (Instr.lookup 78 (.map a) (.i c.1) false) [.lf .ptr] fun a=>b (.q a.1)) fun d=>B3 c.2.1 (ld (a.add 4) (.lf .ptr) fun e=>B3 (Option.isNone e) (d (())) (ld (a.add 4) (.lf .ptr) fun a=>B4 a fun a=>ld a (lI) fun a=>B3 (decide ((a:Int)=c.1)) (b (.q none)) (d (())))) (b (.q none)):=(e154 a).cc
def c155 a b c:CC 155 #[.q a,.q b,.i c] fun d=>nw (.cells #[.q b] 79) fun b=>ld b.z (.lf .ptr) fun e=>B4 e fun e=>ld (e.add 3) (.lf .sl) fun e=>lp [lI] (0,()) fun f g=>B3 (decide ((f.1:Int)<e.len)) (M4 e.a e.len f.1 3 fun e=>ld e Z1 fun e=>B3 (decide ((e.1:Int)=2)) (ld b.z (.lf .ptr) fun h=>B4 h fun h=>ld h (lI) fun h=>ld b.z (.lf .ptr) fun b=>B4 b fun b=>ld (b.add 1) (lI) fun b=>cl PP 203 #[.q a,.agg #[.i h,.i e.2.1,.i b],.agg (ki3 e),.i c] [lI] fun a=>B3 (decide ((a.1:Int)=0)) (D9 (f.1+1) fun a=>g (a,())) (d (.i a.1))) (D9 (f.1+1) fun a=>g (a,()))) (B4 a fun a=>ld (Addr.add (a.add 11) 6) (.lf .sl) fun c=>cl PP 204 #[.sv c,.func (.func 205) #[] #[.p b]] [.lf .sl] fun c=>st (Addr.add (a.add 11) 6) [.slice c.1.a c.1.len c.1.cap]<|ld b.z (.lf .ptr) fun b=>B4 b fun b=>ld b (lI) fun b=>cl PP 158 #[.q (some (a.add 11)),.i b] [lI] fun a=>d (.i a.1)):=(e155 a b c).cc
def c156 a:CC 156 #[.q a] fun b=>B4 a fun c=>ld (c.add 4) (.lf .ptr) fun d=>B3 (Option.isNone d) (b (.i 0)) (st (c.add 4) [.q none]<|ld (c.add 2) (.lf .ptr) fun e=>nw (.cells #[.i 1] 3) fun f=>cl PP 115 #[.q a,.slice (some f.z) 1 1] [lI] fun f=>keep (C0 (c.add 2) [.q e])<|cl PP 114 #[.q e,.i f.1] [.lf .bool] fun e=>B4 d fun d=>ld c (.lf .ptr) fun c=>ld d (lI) fun e=>ld (d.add 1) (lI) fun f=>ld (d.add 2) (lI) fun g=>ld (d.add 3) (.lf .sl) fun d=>cl PP 206 #[.q c,.i e,.i f,.i g,.sv d] [lI] fun c=>cl PP 117 #[.q a,.i c.1] [lI] fun a=>b (.i a.1)):=(e156 a).cc
def c158 a b:CC 158 #[.q a,.i b] fun c=>B4 a fun d=>ld d (.lf .ptr) fun e=>cl PP 209 #[.q e,.i b] [lI] fun e=>B3 (decide ((e.1:Int)=11)) (cl PP 117 #[.q a,.i e.1] [lI] fun a=>c (.i a.1)) (ld (d.add 1) (.lf .ptr) fun a=>cl PP 210 #[.q a,.i b,.b ((e.1:Int)==10)] [.lf .bool] fun a=>ld (d.add 3) (.lf .map) fun a=>F3 PP (Builtin.delete_ #[78,3] 0 #[.map a,.i b]) [] fun a=>c (.i 0)):=(e158 a b).cc
def c159 a b:CC 159 #[.q a,.i b] fun c=>B4 a fun d=>ld (d.add 2) (.lf .ptr) fun e=>nw (.cells #[.i 1] 3) fun f=>cl PP 115 #[.q a,.slice (some f.z) 1 1] [lI] fun f=>keep (C0 (d.add 2) [.q e])<|cl PP 114 #[.q e,.i f.1] [.lf .bool] fun e=>ld d (.lf .ptr) fun e=>ld (d.add 5) (lI) fun f=>D9 (f+1) fun f=>cl PP 211 #[.q e,.i b,.i f] [lI] fun e=>B3 (decide ((e.1:Int)=0)) (ld (d.add 5) (lI) fun a=>D9 (a+1) fun a=>st (d.add 5) [.i a]<|ld (d.add 1) (.lf .ptr) fun a=>cl PP 212 #[.q a,.i b] [.lf .bool] fun a=>ld (d.add 5) (lI) fun a=>nw (.cells #[.i b,.i a,.i 1,.slice none 0 0] 133) fun a=>st (d.add 4) [.p a]<|ld (d.add 3) (.lf .map) fun a=>ld (d.add 4) (.lf .ptr) fun d=>Aw PP (Instr.mapUpdate 78 (.map a) (.i b) (.q d))<|c (.i 0)) (cl PP 117 #[.q a,.i e.1] [lI] fun a=>c (.i a.1)):=(e159 a b).cc
set_option maxRecDepth 100000
def c162 a b(c:F7 Z2) d:CC 162 #[.q a,.i b,.agg (ki5 c),.sv d] fun e=>cl PP 64 #[.q a] [Z4] fun f=>cl PP 213 #[.agg (ki5 c),.sv d,.i f.1.2.2.1] [.lf .sl,lI] fun d=>B3 (decide ((d.2.1:Int)=0)) (cl PP 214 #[.q a,.i b,.i c.2.2.2.2.1,.sv d.1] [lI] fun a=>e (.i a.1)) (e (.i d.2.1)):=(e162 a b c d).cc
def c163 a b:CC 163 #[.q a,.i b] fun c=>B3 (Option.isNone a) (c (.t #[.slice none 0 0,.i 1])) (cl PP 64 #[.q a] [Z4] fun d=>lp [.lf .sl,lI] (⟨none,0,0⟩,0,()) fun e f=>B3 (decide ((e.2.1:Int)<d.1.2.1)) (cl PP 149 #[.q a,.i b,.i e.2.1] [.lf .sl,lI] fun a=>B3 (decide ((a.2.1:Int)=0)) (Cb PP 153 153 153 37 e.1 1 [.sv a.1] fun a=>D9 (e.2.1+1) fun b=>f (a,b,())) (c (.t #[.slice none 0 0,.i a.2.1]))) (c (.t #[.sv e.1,.i 0]))):=(e163 a b).cc
def c164 a:CC 164 #[.sv a] fun b=>cl PP 215 #[.sv a] [.lf .ptr] fun a=>B4 a.1 fun c=>ld c (.lf .sl) fun d=>B3 (decide ((d.len:Int)=0)) (b (.t #[.agg #[.i 0,.b false,.slice none 0 0],.b false])) (ld c (.lf .sl) fun d=>M4 d.a d.len 0 7 fun d=>ld (d.add 3) (lI) fun d=>st (c.add 1) [.i d]<|cl PP 216 #[.q a.1,.i 0,.agg #[.i 1,.i 0,.i 1,.i 0,.i 0]] [.lf .sl,.lf .bool] fun d=>B3 d.2.1 (B3 (decide ((d.1.len:Int)>0)) (b (.t #[.agg #[.i 0,.b false,.slice none 0 0],.b false])) (jn (fun d:D2 []=>ld (c.add 1) (lI) fun d=>cl PP 218 #[.q a.1,.func (.func 219) #[.q a.1] #[]] [.lf .sl] fun a=>keep (C0 (c.add 1) [.i d])<|b (.t #[.agg #[.i d,.b false,.sv a.1],.b true])) fun d=>ld (c.add 2) (lI) fun e=>B3 (decide ((e:Int)>0)) (cl PP 217 #[.q a.1] [.lf .sl,.lf .bool] fun a=>B3 a.2.1 (ld (c.add 1) (lI) fun c=>b (.t #[.agg #[.i c,.b true,.sv a.1],.b true])) (d (()))) (d (())))) (b (.t #[.agg #[.i 0,.b false,.slice none 0 0],.b false]))):=(e164 a).cc
def c165(a:B6)(b:Y5):CC 165 #[.slice a.a a.len a.cap,.func b.fn b.first b.captured] fun c=>cl PP 220 #[.slice a.a a.len a.cap,.i a.len,.func b.fn b.first b.captured] [] fun a=>c (.t #[]):=(e165 a b).cc
def c166(a:F7 Z5)(b:F7 Z5):CC 166 #[.agg (kiiv a),.agg (kiiv b)] fun c=>D9 (a.2.1-b.2.1) fun a=>c (.i a):=(e166 a b).cc
def c176 a b c:CC 176 #[.sv a,.i b,.i c] fun d=>D9 (b+1) fun e=>lp [lI] (e,()) fun e f=>B3 (decide ((e.1:Int)<c)) (lp [lI] (e.1,()) fun c d=>jn (fun b:D2 []=>D9 (c.1-1) fun b=>D9 (c.1-1) fun e=>M4 a.a a.len e 1 fun e=>M4 a.a a.len c.1 1 fun f=>ld e (.lf .str) fun e=>ld f (.lf .str) fun g=>st f [.w e]<|M4 a.a a.len b 1 fun a=>st a [.w g]<|D9 (c.1-1) fun a=>d (a,())) fun d=>B3 (decide ((c.1:Int)>b)) (M4 a.a a.len c.1 1 fun b=>D9 (c.1-1) fun c=>M4 a.a a.len c 1 fun a=>ld b (.lf .str) fun b=>ld a (.lf .str) fun a=>cl PP 182 #[.w b,.w a] [.lf .bool] fun a=>B3 a.1 (d (())) (D9 (e.1+1) fun a=>f (a,()))) (D9 (e.1+1) fun a=>f (a,()))) (d (.t #[])):=(e176 a b c).cc
def c182 a b:CC 182 #[.w a,.w b] fun c=>cl PP 229 #[.w a] [.lf .bool] fun d=>B3 d.1 (cl PP 229 #[.w b] [.lf .bool] fun d=>B3 d.1 (c (.b (Op.bytesLess (ByteArray.toList a) (ByteArray.toList b)))) (c (.b true))) (c (.b (Op.bytesLess (ByteArray.toList a) (ByteArray.toList b)))):=(e182 a b).cc
set_option maxRecDepth 100000
def c186(a:Int):CC 186 #[.int .u64 a] fun b=>jn (fun a:D2 [.lf (.int .u64),lI]=>jn (fun a:D2 [.lf (.int .u64),lI]=>jn (fun a:D2 [.lf (.int .u64),lI]=>D5 (IntKind.u8.wrap a.1) (ByteArray.mk #[0,1,2,2,3,3,3,3,4,4,4,4,4,4,4,4,5,5,5,5,5,5,5,5,5,5,5,5,5,5,5,5,6,6,6,6,6,6,6,6,6,6,6,6,6,6,6,6,6,6,6,6,6,6,6,6,6,6,6,6,6,6,6,6,7,7,7,7,7,7,7,7,7,7,7,7,7,7,7,7,7,7,7,7,7,7,7,7,7,7,7,7,7,7,7,7,7,7,7,7,7,7,7,7,7,7,7,7,7,7,7,7,7,7,7,7,7,7,7,7,7,7,7,7,7,7,7,7,8,8,8,8,8,8,8,8,8,8,8,8,8,8,8,8,8,8,8,8,8,8,8,8,8,8,8,8,8,8,8,8,8,8,8,8,8,8,8,8,8,8,8,8,8,8,8,8,8,8,8,8,8,8,8,8,8,8,8,8,8,8,8,8,8,8,8,8,8,8,8,8,8,8,8,8,8,8,8,8,8,8,8,8,8,8,8,8,8,8,8,8,8,8,8,8,8,8,8,8,8,8,8,8,8,8,8,8,8,8,8,8,8,8,8,8,8,8,8,8,8,8,8,8,8,8,8,8]).size<|D9 (Og (ByteArray.mk #[0,1,2,2,3,3,3,3,4,4,4,4,4,4,4,4,5,5,5,5,5,5,5,5,5,5,5,5,5,5,5,5,6,6,6,6,6,6,6,6,6,6,6,6,6,6,6,6,6,6,6,6,6,6,6,6,6,6,6,6,6,6,6,6,7,7,7,7,7,7,7,7,7,7,7,7,7,7,7,7,7,7,7,7,7,7,7,7,7,7,7,7,7,7,7,7,7,7,7,7,7,7,7,7,7,7,7,7,7,7,7,7,7,7,7,7,7,7,7,7,7,7,7,7,7,7,7,7,8,8,8,8,8,8,8,8,8,8,8,8,8,8,8,8,8,8,8,8,8,8,8,8,8,8,8,8,8,8,8,8,8,8,8,8,8,8,8,8,8,8,8,8,8,8,8,8,8,8,8,8,8,8,8,8,8,8,8,8,8,8,8,8,8,8,8,8,8,8,8,8,8,8,8,8,8,8,8,8,8,8,8,8,8,8,8,8,8,8,8,8,8,8,8,8,8,8,8,8,8,8,8,8,8,8,8,8,8,8,8,8,8,8,8,8,8,8,8,8,8,8,8,8,8,8,8,8]) (IntKind.u8.wrap a.1)) fun c=>D9 (a.2.1+c) fun a=>b (.i a)) fun b=>B3 (decide ((a.1:Int)≥256)) (D9 (a.2.1+8) fun c=>b (Int.fdiv a.1 (2^(min (8:Int).toNat IntKind.u64.bits)),c,())) (b (a.1,a.2.1,()))) fun b=>B3 (decide ((a.1:Int)≥65536)) (D9 (a.2.1+16) fun c=>b (Int.fdiv a.1 (2^(min (16:Int).toNat IntKind.u64.bits)),c,())) (b (a.1,a.2.1,()))) fun b=>B3 (decide ((a:Int)≥4294967296)) (b (Int.fdiv a (2^(min (32:Int).toNat IntKind.u64.bits)),32,())) (b (a,0,())):=(e186 a).cc
def c203 a(b:F7 Z1)(c:F7 Z1) d:CC 203 #[.q a,.agg (ki3 b),.agg (ki3 c),.i d] fun e=>B4 a fun f=>ld (f.add 11) (.lf .ptr) fun g=>cl PP 104 #[.q g,.agg (ki3 b)] [.lf .str,.lf .sl,lI] fun g=>cl PP 47 #[.q a,.w g.1] [.lf (.int .u64)] fun a=>jn (fun h:D2 []=>jn (fun c:D2 []=>ld f Z4 fun c=>cl PP 97 #[.w g.1,.sv g.2.1,.agg (ki4 c)] [.lf .sl,lI] fun c=>B3 (decide ((c.2.1:Int)=0)) (cl PP 59 #[.q (some (f.add 11)),.i 2,.sv c.1] [Z1,lI] fun c=>B3 (decide ((c.2.1:Int)=0)) (ld (Addr.add (f.add 19) 2) (.lf .ptr) fun d=>cl PP 234 #[.q d,.int .u64 a.1,.agg (ki3 b),.agg (ki3 c.1)] [.lf .bool] fun a=>e (.i c.2.1)) (e (.i c.2.1))) (e (.i c.2.1))) fun g=>ld (Addr.add (f.add 19) 2) (.lf .ptr) fun h=>cl PP 233 #[.q h,.int .u64 a.1,.agg (ki3 b)] [lI] fun h=>B3 (decide ((h.1:Int)=0)) (ld (Addr.add (f.add 19) 2) (.lf .ptr) fun c=>cl PP 89 #[.q c,.int .u64 a.1,.agg (ki3 b)] [.lf .bool] fun a=>e (.i 0)) (nw (.cells #[.i c.2.2.1,.i d] 3) fun h=>cl PP 107 #[.q (some (f.add 11)),.slice (some h.z) 2 2] [.lf .bool] fun h=>B3 h.1 (nw (.cells #[.i c.2.2.1,.i d] 3) fun c=>cl PP 109 #[.q (some (f.add 11)),.slice (some c.z) 2 2] [.lf .bool] fun c=>B3 c.1 (g (())) (ld (Addr.add (f.add 19) 2) (.lf .ptr) fun c=>cl PP 89 #[.q c,.int .u64 a.1,.agg (ki3 b)] [.lf .bool] fun a=>e (.i 0))) (ld (Addr.add (f.add 19) 2) (.lf .ptr) fun c=>cl PP 89 #[.q c,.int .u64 a.1,.agg (ki3 b)] [.lf .bool] fun a=>e (.i 0)))) fun c=>B3 (decide ((g.2.2.1:Int)=0)) (ld (Addr.add (f.add 19) 2) (.lf .ptr) fun d=>cl PP 103 #[.q d,.int .u64 a.1] [.lf .sl] fun a=>cl PP 232 #[.sv a.1,.agg (ki3 b)] [.lf .bool] fun a=>B3 a.1 (c (())) (e (.i 0))) (e (.i 0)):=(e203 a b c d).cc
def c204(a:B6)(b:Y5):CC 204 #[.slice a.a a.len a.cap,.func b.fn b.first b.captured] fun c=>cl PP 235 #[.slice a.a a.len a.cap,.func b.fn b.first b.captured] [lI] fun d=>B3 (decide ((d.1:Int)=(-1))) (c (.sv a)) (D9 (d.1+1) fun e=>lp [lI,lI] (d.1,e,()) fun d e=>B3 (decide ((d.2.1:Int)<a.len)) (M4 a.a a.len d.2.1 3 fun c=>ld c Z1 fun c=>U5 PP b.fn (b.first++#[.agg (ki3 c)]) b.captured [.lf .bool] fun b=>B3 b.1 (D9 (d.2.1+1) fun a=>e (d.1,a,())) (M4 a.a a.len d.1 3 fun a=>st a [.i c.1,.i c.2.1,.i c.2.2.1]<|D9 (d.1+1) fun a=>D9 (d.2.1+1) fun b=>e (a,b,()))) (slc a d.1 a.len a.cap 3 fun b=>F3 PP (Builtin.clear_ #[65] 0 #[.sv b]) [] fun b=>slc a 0 d.1 a.cap 3 fun a=>c (.sv a))):=(e204 a b).cc
def c205(a:F7 Z1) b:CC 205 #[.agg (ki3 a),.q b] fun c=>B4 b fun b=>ld b (.lf .ptr) fun b=>B4 b fun b=>ld b (lI) fun b=>c (.b ((a.1:Int)==b)):=(e205 a b).cc
def c206 a b c d e:CC 206 #[.q a,.i b,.i c,.i d,.sv e] fun f=>lp [.lf .sl,lI] (⟨none,0,0⟩,0,()) fun g h=>B3 (decide ((g.2.1:Int)<e.len)) (M4 e.a e.len g.2.1 3 fun a=>ld a Z1 fun a=>nw (.cells (ki3 a) 3) fun a=>cl PP 112 #[.sv g.1,.slice (some a.z) 3 3] [.lf .sl,.lf .bool] fun a=>B3 a.2.1 (D9 (g.2.1+1) fun b=>h (a.1,b,())) (f (.i 3))) (cl PP 162 #[.q a,.i b,.agg #[.i 4,.i 0,.i 1,.i c,.i d],.sv g.1] [lI] fun a=>f (.i a.1)):=(e206 a b c d e).cc
set_option maxRecDepth 100000
def c211 a b c:CC 211 #[.q a,.i b,.i c] fun d=>cl PP 162 #[.q a,.i b,.agg #[.i 1,.i 0,.i 1,.i c,.i 0],.slice none 0 0] [lI] fun a=>d (.i a.1):=(e211 a b c).cc
def c218 a(b:Y5):CC 218 #[.q a,.func b.fn b.first b.captured] fun c=>lp [.lf .sl,lI] (⟨none,0,0⟩,1,()) fun d e=>B4 a fun a=>ld (a.add 2) (lI) fun a=>B3 (decide ((d.2.1:Int)<=a)) (U5 PP b.fn (b.first++#[.i d.2.1]) b.captured [Z1,.lf .bool] fun a=>B3 a.2.1 (Cb PP 129 129 129 208 d.1 1 [.i a.1.1,.i a.1.2.1,.i a.1.2.2.1] fun b=>D9 (a.1.2.2.1-1) fun a=>D9 (d.2.1+a) fun a=>D9 (a+1) fun a=>e (b,a,())) (D9 (d.2.1+1) fun a=>e (d.1,a,()))) (c (.sv d.1)):=(e218 a b).cc
def c220(a:B6) b(c:Y5):CC 220 #[.slice a.a a.len a.cap,.i b,.func c.fn c.first c.captured] fun d=>lp [lI,lI] (0,20,()) fun e f=>B3 (decide ((e.2.1:Int)<=b)) (cl PP 243 #[.slice a.a a.len a.cap,.i e.1,.i e.2.1,.func c.fn c.first c.captured] [] fun a=>D9 (e.2.1+20) fun a=>f (e.2.1,a,())) (cl PP 243 #[.slice a.a a.len a.cap,.i e.1,.i b,.func c.fn c.first c.captured] [] fun e=>lp [lI] (20,()) fun e f=>B3 (decide ((e.1:Int)<b)) (D9 (2*e.1) fun d=>lp [lI,lI] (0,d,()) fun d g=>B3 (decide ((d.2.1:Int)<=b)) (D9 (d.1+e.1) fun b=>cl PP 244 #[.slice a.a a.len a.cap,.i d.1,.i b,.i d.2.1,.func c.fn c.first c.captured] [] fun a=>D9 (2*e.1) fun a=>D9 (d.2.1+a) fun a=>g (d.2.1,a,())) (D9 (d.1+e.1) fun g=>B3 (decide ((g:Int)<b)) (cl PP 244 #[.slice a.a a.len a.cap,.i d.1,.i g,.i b,.func c.fn c.first c.captured] [] fun a=>D9 (e.1*2) fun a=>f (a,())) (D9 (e.1*2) fun a=>f (a,())))) (d (.t #[]))):=(e220 a b c).cc
def c229 a:CC 229 #[.w a] fun b=>b (.b (!(ByteArray.toList a==ByteArray.toList a))):=(e229 a).cc
def c232 a(b:F7 Z1):CC 232 #[.sv a,.agg (ki3 b)] fun c=>cl PP 246 #[.sv a,.agg (ki3 b)] [lI] fun a=>c (.b (decide ((a.1:Int)≥0))):=(e232 a b).cc
def c235(a:B6)(b:Y5):CC 235 #[.slice a.a a.len a.cap,.func b.fn b.first b.captured] fun c=>lp [lI] (0,()) fun d e=>B3 (decide ((d.1:Int)<a.len)) (M4 a.a a.len d.1 3 fun a=>ld a Z1 fun a=>U5 PP b.fn (b.first++#[.agg (ki3 a)]) b.captured [.lf .bool] fun a=>B3 a.1 (c (.i d.1)) (D9 (d.1+1) fun a=>e (a,()))) (c (.i (-1))):=(e235 a b).cc
def c243(a:B6) b c(d:Y5):CC 243 #[.slice a.a a.len a.cap,.i b,.i c,.func d.fn d.first d.captured] fun e=>D9 (b+1) fun f=>lp [lI] (f,()) fun f g=>B3 (decide ((f.1:Int)<c)) (lp [lI] (f.1,()) fun c e=>jn (fun b:D2 []=>D9 (c.1-1) fun b=>D9 (c.1-1) fun d=>M4 a.a a.len d 3 fun d=>M4 a.a a.len c.1 3 fun f=>ld d Z5 fun d=>ld f Z5 fun g=>st f [.i d.1,.i d.2.1,.slice d.2.2.1.a d.2.2.1.len d.2.2.1.cap]<|M4 a.a a.len b 3 fun a=>st a [.i g.1,.i g.2.1,.slice g.2.2.1.a g.2.2.1.len g.2.2.1.cap]<|D9 (c.1-1) fun a=>e (a,())) fun e=>B3 (decide ((c.1:Int)>b)) (M4 a.a a.len c.1 3 fun b=>D9 (c.1-1) fun c=>M4 a.a a.len c 3 fun a=>ld b Z5 fun b=>ld a Z5 fun a=>U5 PP d.fn (d.first++#[.agg #[.i b.1,.i b.2.1,.slice b.2.2.1.a b.2.2.1.len b.2.2.1.cap],.agg #[.i a.1,.i a.2.1,.slice a.2.2.1.a a.2.2.1.len a.2.2.1.cap]]) d.captured [lI] fun a=>B3 (decide ((a.1:Int)<0)) (e (())) (D9 (f.1+1) fun a=>g (a,()))) (D9 (f.1+1) fun a=>g (a,()))) (e (.t #[])):=(e243 a b c d).cc
set_option maxRecDepth 100000
def c246 a(b:F7 Z1):CC 246 #[.sv a,.agg (ki3 b)] fun c=>lp [lI] (0,()) fun d e=>B3 (decide ((d.1:Int)<a.len)) (M4 a.a a.len d.1 3 fun a=>ld a Z1 fun a=>Y8 PP (binOp .eql 100 (.agg (ki3 b)) (.agg (ki3 a))) (.lf .bool) fun a=>B3 a (c (.i d.1)) (D9 (d.1+1) fun a=>e (a,()))) (c (.i (-1))):=(e246 a b).cc
def Al4(h:Q9 ps ep q=some x):1<=x.2.2.1/\x.2.2.1<=16:=by
 unfold Q9 at h;split at h
 ·rename_i b hb;split at h
  ·rename_i h1;split at h
   ·obtain rfl:=NI h;have:=Ik (Wx h1.1);exact⟨this.2.2.1,this.2.2.2.1⟩
   ·cases h
  ·cases h
 ·cases h
def Cm5(L B:B1)(m:Nat)(ps:List (List UInt8))(ep:Int)(last:Nat)(hB:SH m ps ep last B)(hs: ∀x∈B,x∈L)(dV:last<min ps.length 16):
  CallF PP 218 #[.p m,.func (.func 219) #[.p m] #[]] L fun r L'=> ∃(v:B6) (seg:B1),r= .slice v.a v.len v.cap/\L'=seg++L/\C5 v 3 Gx ((Ao (Q9 ps ep) last 17 1).flatMap P6) seg:=by
 refine(c218 (some m.z) ⟨.func 219,#[.p m],#[]⟩).c ?_;have wN:=hB;obtain⟨sv,seg,ims,sU,hh⟩:=hB;have iC:sO m sv ep last∈L:=hs _ (by rw[sU];exact NG);refine G1 (fun z' z L'=> ∃(p k:Nat) (s:B6) (ds:List It) (sg:B1),1<=p/\p<=32/\z'=40-p/\last+1<=p+k/\z=(s,(p:Int),())/\L'=sg++L/\C5 s 3 Gx (ds.flatMap P6) sg/\ds.length<p/\Ao (Q9 ps ep) last 17 1=ds++Ao (Q9 ps ep) last k p) 39
  ⟨1,17,⟨none,0,0⟩,[],[],by omega,by omega,rfl,by omega,rfl,rfl,O5,by simp,rfl⟩ ?_
 rintro z' z _ ⟨p,k,s,ds,sg,h1,h2,rfl,hk,rfl,rfl,own,hd,he⟩;dsimp only;have aU:=own.sl.els_len W0 (by decide);refine B7 rfl (B5 (last:Int) ((Wd iC).mono Kp) (D6 (fun(bV:(p:Int)<=last)=>?_) (fun(sP: ¬(p:Int)<=last)=>?_)))
 ·obtain⟨k,rfl⟩: ∃k',k=k'+1:=⟨k-1,by omega⟩;have aO:Ao (Q9 ps ep) last (k+1) p=match Q9 ps ep p with|some x=>x::Ao (Q9 ps ep) last k (p+x.2.2.1.toNat)|none=>Ao (Q9 ps ep) last k (p+1):=by
   rw[Ao,NE (by omega)]<;>rfl
  refine Fe (by kernel_rfl) (O1 (Cs2 (sg++L) B m ps ep last wN (fun x hx=>OG _ (hs x hx)) p (by omega)) ?_);rintro _ _-⟨rfl,⟨hn,rfl⟩|⟨x,hx,rfl⟩⟩
  ·rw[aO,hn]at he;refine⟨((0,0,0,()),false,()),rfl,D8 rfl (H3 (by omega) ⟨40-(p+1),by omega,p+1,k,s,ds,sg,by omega,by omega,rfl,by omega,rfl,rfl,own,by omega,he⟩)⟩
  ·have hr:=Al4 hx;rw[aO,hx]at he;refine⟨(x,true,()),rfl,E9 rfl ?_⟩;dsimp only;refine GZ GH AN [] L own rfl rfl rfl (by omega) fun s2 sg2 aP own2=>H3 (by omega) (H3 (by omega) (H3 (by omega) ?_));refine⟨40-(p+x.2.2.1.toNat),by omega,p+x.2.2.1.toNat,k,s2,ds++[x],sg2,by omega,by omega,rfl,by omega,?_,rfl,?_,by simp;omega,by rw[he];simp⟩
   ·show(s2,(p:Int)+(x.2.2.1-1)+1,())=_;rw[show(p:Int)+(x.2.2.1-1)+1=((p+x.2.2.1.toNat:Nat):Int) by omega]
   ·rw[OD,PU];exact own2
 ·have aO:Ao (Q9 ps ep) last k p=[]:=by
   cases k with
   |zero=>rfl
   |succ k=>rw[Ao,ND (by omega)]
  rw[aO,NP]at he;exact .of ⟨s,sg,rfl,rfl,by rw[he];exact own⟩
abbrev Rg:=(Int×Bool×List It)×Bool
def Rj(q:Rg)(A:B1)(r:Value)(L':B1):Prop:= ∃(v:B6) (seg:B1),r= .t #[.agg #[.i q.1.1,.b q.1.2.1,.slice v.a v.len v.cap],.b q.2]/\L'=seg++A/\C5 v 3 Gx (q.1.2.2.flatMap P6) seg
def Rj.no{q:Rg}(h:q=((0,false,[]),false)):HL.Ends (Rj q A) (.t #[.agg #[.i 0,.b false,.slice none 0 0],.b false]) (J++A):=.app (.of ⟨⟨none,0,0⟩,[],by rw[h],rfl,by rw[h];exact O5⟩)
def Bz4(h:ps≠[]):J8 ps<min ps.length 16:=by
 have h1:=EP ps (min ps.length 16-1);have h2:0<ps.length:=List.length_pos_iff.2 h;unfold J8;omega
def LC(h:T6 ps 0 (1,0,1,N4 ps,0,())≠some []):P1 ps=((0,false,[]),false):=by
 unfold P1;split
 ·rfl
 ·split
  ·rename_i h2;exact absurd h2 h
  ·rfl
def LB(h0:ps≠[])(h:T6 ps 0 (1,0,1,N4 ps,0,())=some [])(hl:(if J8 ps>0 then Gl ps (N4 ps)else none)=some l):P1 ps=((N4 ps,true,l),true):=by
 unfold P1;rw[ND h0,h];simp only[hl]
def AY(h0:ps≠[])(h:T6 ps 0 (1,0,1,N4 ps,0,())=some [])(hl:(if J8 ps>0 then Gl ps (N4 ps)else none)=none):P1 ps=((N4 ps,false,Ao (Q9 ps (N4 ps)) (J8 ps) 17 1),true):=by
 unfold P1;rw[ND h0,h];simp only[hl]
def Bi4(A:B1)(v:B6)(l:List PV)(h:Af A v l)(hl:l.length<=1000000)(hb: ∀x∈l,x.2.length<=1000000):CallF PP 164 #[.slice v.a v.len v.cap] A (Rj (P1 (l.map Prod.snd)) A):=by
 refine(c164 v).c ?_;refine O1 (Bx5 A v l h hl hb) ?_;rintro _ _-⟨m,B,rfl,rfl,wG⟩;refine⟨(some m.z,()),rfl,B7 rfl ?_⟩;obtain⟨sv,seg,ims,rfl,hh⟩:=wG;generalize eI:l.map Prod.snd=ps at hh⊢;have bY:=hh.own.sl.els_len IM.enc_len (by decide);have iF:=hh.ilen;refine B5 sv (Li (L:=sO m sv 0 (J8 ps)::(seg++Eh ims)++A) NG) (D6 (fun(h0:(sv.len:Int)=0)=>?_) (fun(h0: ¬(sv.len:Int)=0)=>?_))
 ·have:ps=[]:=RG.1 (by omega);exact Rj.no (by rw[this];rfl)
 have hZ:ps≠[]:=fun e=>h0 (by rw[e,OX]at iF;omega);have hO:=Bz4 hZ;refine B5 sv (Li (L:=sO m sv 0 (J8 ps)::(seg++Eh ims)++A) NG) ?_;have hSl:Sl (sO m sv 0 (J8 ps)::(seg++Eh ims)++A) sv 7 (ims.flatMap IM.enc):=Sl.mono hh.own.sl fun x hx=>by simp[hx]
 have lJ:0<ims.length:=by omega
 refine Bd IM.enc_len (by decide) hSl (i:=0) (n:=0) rfl lJ fun a ha=>?_;obtain⟨sK,i1,-,-⟩:=hh.im lJ;have bS:N4 ps=ims[0].h.2.2.2.1:=by
  unfold N4;rw[i1];congr 4;simp[NX,sK]
 refine B5 ims[0].h.2.2.2.1 (ha.one 3 rfl) ?_;rw[<-bS];refine F6 (n:=m) (off:=1) (c:=#[.slice sv.a sv.len sv.cap,.i 0,.i (J8 ps)]) (T:=326) (fz:=(0,0)) [] ((seg++Eh ims)++A) rfl (by simp[sO]) (by simp) (.inl (NF _)) #[.slice sv.a sv.len sv.cap,.i (N4 ps),.i (J8 ps)] rfl ?_;obtain⟨B,ao⟩: ∃B,B=sO m sv (N4 ps) (J8 ps)::(seg++Eh ims):=⟨_,rfl⟩;have hBB:([]++(m,Obj.cells #[.slice sv.a sv.len sv.cap,.i (N4 ps),.i (J8 ps)] 326)::((seg++Eh ims)++A))=B++A:=by rw[ao];rfl
 rw[hBB];have wG:SH m ps (N4 ps) (J8 ps) B:=⟨sv,seg,ims,ao,hh⟩;have iC:sO m sv (N4 ps) (J8 ps)∈B++A:=by rw[ao];simp
 refine O1 (BB (B++A) B m ps (N4 ps) (J8 ps) wG Ae0 0 (1,0,1,0,0,())) ?_;rintro _ _-⟨rfl,⟨hn,rfl⟩|⟨w,p,iZ,rfl,hw,-⟩⟩
 ·exact⟨(⟨none,0,0⟩,false,()),rfl,D8 rfl (Rj.no (LC (by rw[hn];exact fun e=>by cases e)))⟩
 have bc:=hw.len;refine⟨(w,true,()),rfl,E9 rfl (D6 (fun(h1:(w.len:Int)>0)=>Rj.no (LC (by rw[iZ];intro e;cases e;simp at bc;omega))) (fun(h1: ¬(w.len:Int)>0)=>?_))⟩;obtain rfl:p=[]:=RG.1 (by omega);refine V9 (fun _ L'=> ∃J,L'=J++(B++A)/\(if J8 ps>0 then Gl ps (N4 ps)else none)=none) ?_ ?_
 ·rintro _ _ ⟨J,rfl,aT⟩;refine B5 (N4 ps) ((We iC).mono Kp) (O1 (Cm5 (J++(B++A)) B m ps (N4 ps) (J8 ps) wG (fun x hx=>by simp[hx]) hO) ?_);rintro _ _-⟨v1,sg1,rfl,rfl,own1⟩;refine⟨(v1,()),rfl,P2 (((We iC).mono Kp).mono Kp) (.drop (A:=sg1++A) (J:=J++B) ⟨v1,sg1,?_,rfl,?_⟩ ?_)⟩
  ·rw[AY hZ iZ aT]
  ·rw[AY hZ iZ aT];exact own1
  ·classical
   rw[ON];intro z;simp only[OP];omega
 ·intro j hj;refine B5 (J8 ps:Int) (Wd iC) (D6 (fun(h2:(J8 ps:Int)>0)=>?_) (fun(h2: ¬(J8 ps:Int)>0)=>hj _ _ ⟨[],rfl,by rw[ND (by omega)]⟩));have pZ:J8 ps>0:=by omega
  refine O1 (Bg9 (B++A) B m ps (N4 ps) wG Ae0) ?_;rintro _ _-(⟨hn,rfl,w2,rfl⟩|⟨its,w2,sg2,aP,rfl,rfl,own2⟩)
  ·exact⟨(w2,false,()),rfl,D8 rfl (hj _ _ ⟨[],rfl,by rw[NE pZ];exact hn⟩)⟩
  ·have dO:=LB hZ iZ (l:=its) (by rw[NE pZ];exact aP);refine⟨(w2,true,()),rfl,E9 rfl (B5 (N4 ps) ((We iC).mono Kp) (.drop (A:=sg2++A) (J:=B) ⟨w2,sg2,by rw[dO],rfl,by rw[dO];exact own2⟩ ?_))⟩
   classical
   rw[ON];intro z;simp only[OP];omega
def T7(ps:List (List UInt8))(pg:Int):Nat->Option (List (List UInt8))
 |0=>some []
 |n+1=>match T7 ps pg n with
  |some l=>if pg<0\/(ps.length:Int)<=pg+n then none else if(C1 (ps.getD (pg.toNat+n) [])).2.2=0 then some (l++[(C1 (ps.getD (pg.toNat+n) [])).2.1])else none
  |none=>none
def Gp(ps:List (List UInt8))(x:It):List (List UInt8):=(T7 ps x.2.1 x.2.2.1.toNat).getD []
def Bs5: ∀{n m:Nat},n<=m->T7 ps pg n=none->T7 ps pg m=none
  |n,m,h,hn=>by
    induction m with
    | zero => obtain rfl:n=0:=by omega
              exact hn
    |succ m ih=>
      rcases PY m n with h1|h1
      · obtain rfl:n=m+1:=by omega
        exact hn
      · rw[T7,ih h1]
theorem CV{ps:List (List UInt8)}{pg:Int}: ∀{n:Nat} {l:List (List UInt8)},T7 ps pg n=some l->l.length=n/\(0<n->pg+n<=ps.length)
 |0,l,h=>by obtain rfl:=NI h;exact⟨rfl,fun h=>absurd h (by omega)⟩
 |n+1,l,h=>by
  rw[T7]at h;split at h
  ·rename_i l' bQ;split at h
   ·cases h
   ·split at h
    ·obtain rfl:=NI h;exact⟨by simp[(CV bQ).1],fun _=>by omega⟩
    ·cases h
  ·cases h
def Rm(l:List (List UInt8))(A:B1)(r:Value)(L':B1):Prop:= ∃(v:B6) (gs:List PG) (seg:B1),r= .slice v.a v.len v.cap/\L'=seg++(E3 gs++A)/\C5 v 1 tB (gs.map PG.val) seg/\(∀g∈gs,g.Ok)/\gs.map PG.l=l
def Rm.nil{l:List (List UInt8)}(h:l=[]):Rm l A (.slice none 0 0) A:=⟨⟨none,0,0⟩,[],[],rfl,rfl,O5,by simp,by rw[h];rfl⟩
def Ix(ps:List (List UInt8))(pg:Int)(A:B1)(i:Nat)(s:B6)(L':B1):Prop:= ∃(gs:List PG) (sg J X Y:B1),L'=X++sg++Y/\(X++Y).Perm (E3 gs++(J++A))/\C5 s 1 tB (gs.map PG.val) sg/\(∀g∈gs,g.Ok)/\T7 ps pg i=some (gs.map PG.l)
def Ix.sub(h:Ix ps pg A i s L'): ∀x∈A,x∈L':=by
 obtain⟨gs,sg,J,X,Y,rfl,hp,-⟩:=h;intro x hx;have h5:x∈X++Y:=(hp.mem_iff (a:=x)).2 (by simp[hx]);simp only[NJ]at h5⊢;rcases h5 with h5|h5<;>simp[h5]
def Ix.fin(h:Ix ps x.2.1 A i s L')(hi:i=x.2.2.1.toNat):HL.Ends (Rm (Gp ps x) A) (.slice s.a s.len s.cap) L':=by
 obtain⟨gs,sg,J,X,Y,rfl,hp,own,aC,hg⟩:=h;refine .drop (A:=sg++(E3 gs++A)) (J:=J) ⟨s,gs,sg,rfl,rfl,own,aC,?_⟩ ?_
 ·unfold Gp;rw[<-hi,hg];rfl
 ·classical
  rw[ON]at hp⊢;intro z;have:=hp z;simp only[OP]at this⊢;omega
def Ix.app(h:Ix ps x.2.1 A i s L')(hn:T7 ps x.2.1 (i+1)=none)(hi:i<x.2.2.1.toNat)(seg:B1):HL.Ends (Rm (Gp ps x) A) (.slice none 0 0) (seg++L'):=by
 obtain⟨gs,sg,J,X,Y,rfl,hp,-⟩:=h;refine .drop (A:=A) (J:=seg++(sg++(E3 gs++J))) (Rm.nil (by unfold Gp;rw[Bs5 hi hn];rfl)) ?_
 classical
 rw[ON]at hp⊢;intro z;have:=hp z;simp only[OP]at this⊢;omega
def Ix.snoc(h:Ix ps pg A i s L')(g:PG)(hg:g.Ok)(dS:g.l.length<=1000000)(hi:i<=1000000)(hn:T7 ps pg (i+1)=(T7 ps pg i).map fun l=>l++[g.l]){k:B6->HP}(hk: ∀s' L',Ix ps pg A (i+1) s' L'->k s' L'):
  Cb PP Fk Fk Fk tB s 1 [g.val] k (g.seg++L'):=by
 obtain⟨gs,sg,J,X,Y,rfl,hp,own,aC,hl⟩:=h;have fE:=(CV hl).1;rw[NL]at fE;have aU:=own.len;rw[NL]at aU;refine GZ Uv Vv (g.seg++X) Y own (by simp) rfl rfl (by omega) fun s2 sg2 _ own2=>hk _ _ ⟨gs++[g],sg2,J,g.seg++X,Y,by simp,?_,?_,?_,?_⟩
 ·rw[Kk,Tb]
  classical
  rw[ON]at hp⊢;intro z;have:=hp z;simp only[OP]at this⊢;omega
 ·rw[NQ];exact own2
 ·intro g' dW;rcases NJ.1 dW with h1|h1
  ·exact aC g' h1
  ·rw[NM.1 h1];exact hg
 ·rw[hn,hl];simp
def Bq2(A:B1)(v:B6)(l:List PV)(h:Af A v l)(hl:l.length<=1000000)(hb: ∀x∈l,x.2.length<=1000000)(x:It)(hx:Q4 .i64 x.2.1/\Q4 .i64 x.2.2.1):
  CallF PP 125 #[.slice v.a v.len v.cap,.agg (ki3 x)] A (Rm (Gp (l.map Prod.snd) x) A):=by
 refine(c125 v x).c ?_;have bY:=h.len;have hx1:=Rv hx.1;have gQ:=Rv hx.2;generalize eI:l.map Prod.snd=ps;have aQ:ps.length=l.length:=by rw[<-eI];simp
 refine G1 (fun z' z L'=> ∃(i:Nat) (s:B6),i<=x.2.2.1.toNat/\i<=l.length/\z'=x.2.2.1.toNat-i/\z=(s,(i:Int),())/\Ix ps x.2.1 A i s L') x.2.2.1.toNat ⟨0,⟨none,0,0⟩,by omega,by omega,by omega,rfl,[],[],[],[],A,rfl,NH _,O5,by simp,rfl⟩ ?_;rintro z' z L1 ⟨i,s,hi,iF,rfl,rfl,hP⟩;dsimp only;refine D6 (fun(hO:(i:Int)<x.2.2.1)=>?_) (fun(aM: ¬(i:Int)<x.2.2.1)=>hP.fin (by omega));obtain⟨gs,sg,J,X,Y,hLe,hp,own,aC,hg⟩:=hP;have hP:Ix ps x.2.1 A i s L1:=⟨gs,sg,J,X,Y,hLe,hp,own,aC,hg⟩;have hJ:i<x.2.2.1.toNat:=by omega
 have gW:=show T7 ps x.2.1 (i+1)=_ from rfl
 rw[T7,hg]at gW;simp only at gW;refine D6 (fun(h1:x.2.1<0)=>hP.app (by rw[T7,hg];simp only;rw[NE (.inl h1)]) hJ []) (fun(h1: ¬x.2.1<0)=>H3 (by omega) (D6 (fun(h2:x.2.1≥(v.len:Int)-i)=>hP.app (by rw[T7,hg];simp only;rw[NE (.inr (by omega))]) hJ []) (fun(h2: ¬x.2.1≥(v.len:Int)-i)=>H3 (by omega) ?_)));have hq:x.2.1.toNat+i<l.length:=by omega
 have aO:T7 ps x.2.1 (i+1)=if(C1 l[x.2.1.toNat+i].2).2.2=0 then some (gs.map PG.l++[(C1 l[x.2.1.toNat+i].2).2.1])else none:=by
  rw[T7,hg];simp only;rw[ND (by omega)];have:ps.getD (x.2.1.toNat+i) []=l[x.2.1.toNat+i].2:=by rw[<-eI];simp[NX,hq]
  rw[this]
 refine Yp (h.sl.mono hP.sub) (n:=x.2.1.toNat+i) (by omega) (by rw[NL];exact hq) fun a ha=>?_;rw[QG]at ha;refine B5 l[x.2.1.toNat+i].1 ha (O1 (CG L1 _ l[x.2.1.toNat+i].2 (Sl.mono (h.val _ (NO hq)) hP.sub) (hb _ (NO hq))) ?_);rintro _ _-⟨s2,sg2,rfl,rfl,own2⟩;refine⟨((C1 l[x.2.1.toNat+i].2).1,s2,(C1 l[x.2.1.toNat+i].2).2.2,()),rfl,D6 (fun(h3:(C1 l[x.2.1.toNat+i].2).2.2=0)=>?_) (fun(h3: ¬(C1 l[x.2.1.toNat+i].2).2.2=0)=>hP.app (by rw[aO,ND h3]) hJ sg2)⟩;refine hP.snoc ⟨s2,sg2,(C1 l[x.2.1.toNat+i].2).2.1⟩ own2 (OK (Wz _) (hb _ (NO hq))) (by omega) (by rw[aO,hg,NE h3];rfl) fun s' L' hP'=>H3 (by omega) ⟨x.2.2.1.toNat-(i+1),by omega,i+1,s',by omega,by omega,rfl,rfl,hP'⟩
structure Bh where
 B:Nat
 P:Nat
 S:Nat
 W:Nat
variable{c:Bh}
structure Zs(c:Bh):Prop where
 b:2<=c.B/\c.B<=16
 p:4<=c.P/\c.P<=16
 s:64<=c.S/\c.S<=512
 w:1<=c.W/\c.W<=1048576
structure G6 where
 pages:List (List UInt8)
 next:Nat
 wear:Nat
 bad:Bool
variable{k:G6}
structure Tn where
 b:Nat
 p:Nat
 meant:List UInt8
 image:List UInt8
structure B8 where
 c:Bh
 after:Nat
 keep:Int
 down:Bool
 bs:List G6
 bytes:Int
 torn:List Tn
variable{d:B8}
def blk(n:Nat):List UInt8:=List.replicate n 255
def N1(d:B8):Bool×B8:=if d.after=0 then(false,d)else(decide (d.after=1),{d with after:=d.after-1,down:=decide (d.after=1)})
def R8(k:Int)(n:Nat):Nat:=min k.toNat n
def Ph(d:B8):(N1 d).2.c=d.c/\(N1 d).2.bs=d.bs/\(N1 d).2.keep=d.keep/\(N1 d).2.bytes=d.bytes/\(N1 d).2.torn=d.torn:=by unfold N1;split<;>exact⟨rfl,rfl,rfl,rfl,rfl⟩
abbrev Mu:TypeId:=155
abbrev Gj:TypeId:=108
abbrev JI:TypeId:=106
abbrev Qy:TypeId:=152
abbrev JG:TypeId:=61
abbrev eT:TypeId:=146
def Cm0:V4 PP JI Qy 1 8 [.q none]:=De (by kernel_rfl) (by kernel_rfl) rfl (by decide) (by decide)
def Bd8:W6 PP JI:=.inl ⟨Qy,by kernel_rfl⟩
def Ap5:V4 PP JG eT 4 64 [.i 0,.i 0,.slice none 0 0,.slice none 0 0]:=De (by kernel_rfl) (by kernel_rfl) rfl (by decide) (by decide)
def JV:W6 PP JG:=.inl ⟨eT,by kernel_rfl⟩
structure PB where
 id:Nat
 v:B6
 seg:B1
 ps:List PG
 next:Nat
 wear:Nat
 bad:Bool
variable{bs:List PB}
def PB.blk(b:PB):G6:=⟨b.ps.map PG.l,b.next,b.wear,b.bad⟩
def PB.obj(b:PB):Nat×Obj:=(b.id,.cells #[.slice b.v.a b.v.len b.v.cap,.i b.next,.i b.wear,.b b.bad] Mu)
def PB.objs(b:PB):B1:=b.obj::(b.seg++E3 b.ps)
structure PB.Ok(b:PB):Prop where
 own:C5 b.v 1 tB (b.ps.map PG.val) b.seg
 ps: ∀g∈b.ps,g.Ok
def Es(b:PB):Value:=.p b.id
def fO(m:Nat)(d:B8)(bv tv:B6):Nat×Obj:=
 (m,.cells #[.i d.after,.i d.keep,.b d.down,.i d.c.B,.i d.c.P,.i d.c.S,.i d.c.W,.slice bv.a bv.len bv.cap,.i d.bytes,.slice tv.a tv.len tv.cap] Gj)
section
variable {L:B1} {m:Nat} {d:B8} {bv tv:B6} {b:PB}
def Zh(h:b.obj∈L):C0 b.id.z [.slice b.v.a b.v.len b.v.cap] L:=C2 (by unfold PB.obj at h;exact h) rfl
def GX(h:b.obj∈L):C0 ⟨b.id,1,none⟩ [.i b.next] L:=C2 (by unfold PB.obj at h;exact h) rfl
def Cs0(h:b.obj∈L):C0 ⟨b.id,2,none⟩ [.i b.wear] L:=C2 (by unfold PB.obj at h;exact h) rfl
def Zi(h:b.obj∈L):C0 ⟨b.id,3,none⟩ [.b b.bad] L:=C2 (by unfold PB.obj at h;exact h) rfl
def Ao1(h:fO m d bv tv∈L):C0 m.z [.i d.after] L:=C2 (by unfold fO at h;exact h) rfl
def Ck2(h:fO m d bv tv∈L):C0 ⟨m,1,none⟩ [.i d.keep] L:=C2 (by unfold fO at h;exact h) rfl
def FW(h:fO m d bv tv∈L):C0 ⟨m,2,none⟩ [.b d.down] L:=C2 (by unfold fO at h;exact h) rfl
def Ck3(h:fO m d bv tv∈L):C0 ⟨m,3,none⟩ [.i d.c.B,.i d.c.P,.i d.c.S,.i d.c.W] L:=C2 (by unfold fO at h;exact h) rfl
def Yj(h:fO m d bv tv∈L):C0 ⟨m,4,none⟩ [.i d.c.P] L:=C2 (by unfold fO at h;exact h) rfl
def Ny(h:fO m d bv tv∈L):C0 ⟨m,5,none⟩ [.i d.c.S] L:=C2 (by unfold fO at h;exact h) rfl
def f_W(h:fO m d bv tv∈L):C0 ⟨m,6,none⟩ [.i d.c.W] L:=C2 (by unfold fO at h;exact h) rfl
def FX(h:fO m d bv tv∈L):C0 ⟨m,7,none⟩ [.slice bv.a bv.len bv.cap] L:=C2 (by unfold fO at h;exact h) rfl
def Ck4(h:fO m d bv tv∈L):C0 ⟨m,8,none⟩ [.i d.bytes] L:=C2 (by unfold fO at h;exact h) rfl
def FV(h:fO m d bv tv∈L):C0 ⟨m,9,none⟩ [.slice tv.a tv.len tv.cap] L:=C2 (by unfold fO at h;exact h) rfl
end
def Pb(L:B1)(n a b:Int):Reads PP 83 #[.i n,.i a,.i b] L (.b (decide (a<=n/\n<=b))):=by
 refine(e83 n a b).r ?_;refine D3 (fun(h:n≥a)=>.of ⟨?_,rfl⟩) (fun(h: ¬n≥a)=>.of ⟨?_,rfl⟩)
 ·congr 1;by_cases h2:n<=b
  ·rw[OH h2,OH (by omega)]
  ·rw[OF h2,OF (by omega)]
 ·congr 1;rw[OF (by omega)]
def GU(n:Nat)(hn:n<=1048576):CallF PP 139 #[.i n] [] fun r L'=> ∃(g:PG),r=g.val/\L'=g.seg/\g.Ok/\g.l=blk n:=by
 refine(e139 n).c ?_;refine Tp Be (l:=n) (c:=n) (NF _) (by omega) fun q ob own _ _=>?_;rw[HO]at own;refine G1 (fun z' z L'=> ∃(i:Nat) (seg:B1),i<=n/\z'=n-i/\z=((i:Int),())/\L'=seg/\C5 ⟨some q.z,n,n⟩ 1 eB (F9 (List.replicate i 255++List.replicate (n-i) 0)) seg) n ⟨0,[(q,ob)],by omega,by omega,rfl,rfl,by simpa using own⟩ ?_;rintro z' z L ⟨i,seg,hi,rfl,rfl,rfl,own⟩;refine D3 (fun(hO:(i:Int)<(n:Nat))=>?_) (fun(aM: ¬(i:Int)<(n:Nat))=>?_)
 ·refine B7 rfl (H7 (show(0:Int)<=i by omega) hO ?_);refine own.st (p:=i) [] [] (by rw[Y1,NR,PE,PE,SS];omega) (by simp) rfl (by rw[NK,OS]) (by simp) fun seg' own'=>?_;rw[Su (by rw[Y1,NR,PE,PE];omega)]at own';refine⟨n-(i+1),by omega,i+1,seg',by omega,rfl,?_,by simp,?_⟩
  ·rw[D7 (by first|omega|(simp only;omega)) (by first|omega|(simp only;omega))];rfl
  ·have:(F9 (List.replicate i 255++List.replicate (n-i) 0)).set i (.int .u8 255)=F9 (List.replicate (i+1) 255++List.replicate (n-(i+1)) 0):=by
    have h1:=Cp2 (List.replicate i 255++List.replicate (n-i) 0) i 255;rw[show((255:UInt8).toNat:Int)=255 by decide]at h1;rw[h1];congr 1;rw[VW,ND (by simp),PE,SQ,show n-i=(n-(i+1))+1 by omega,RM,VX,VT,NZ];rfl
   rw[this]at own';exact own'
 ·obtain rfl:i=n:=by omega
  refine .of ⟨⟨⟨some q.z,i,i⟩,L,blk i⟩,rfl,rfl,?_,rfl⟩;rw[SQ,List.replicate_zero,NP]at own;exact own
def Zz(b:PB)(hb:b.Ok)(n S:Nat)(hn:n<=b.ps.length)(iQ:n<=1048576)(hS:S<=1048576):
  CallF PP 84 #[.p b.id,.i n,.i S] b.objs fun r L'=>r= .t #[]/\ ∃(seg':B1) (ps':List PG),L'=({b with seg:=seg',ps:=ps'}:PB).objs/\({b with seg:=seg',ps:=ps'}:PB).Ok/\ps'.map PG.l=List.replicate n (blk S)++(b.ps.map PG.l).drop n:=by
 refine(e84 (some b.id.z) n S).c ?_;refine G1 (fun z' z L'=> ∃(i:Nat) (seg':B1) (D:List PG) (J:B1),i<=n/\z'=n-i/\z=((i:Int),())/\L'=b.obj::(seg'++(E3 D++(J++E3 (b.ps.drop i))))/\C5 b.v 1 tB ((D++b.ps.drop i).map PG.val) seg'/\D.length=i/\(∀g∈D,g.Ok)/\D.map PG.l=List.replicate i (blk S)) n
  ⟨0,b.seg,[],[],by omega,by omega,rfl,rfl,hb.own,rfl,by simp,rfl⟩ ?_
 rintro z' z L ⟨i,seg',D,J,hi,rfl,rfl,rfl,own,hD,aC,hl⟩;have aU:Sl (b.obj::(seg'++(E3 D++(J++E3 (b.ps.drop i))))) b.v 1 ((D++b.ps.drop i).map PG.val):=own.sl.left.cons;have bY:b.v.len=b.ps.length:=by
  have:=own.len;rw[NL,NR,OJ]at this;omega
 refine D3 (fun(hO:(i:Int)<(n:Int))=>?_) (fun(aM: ¬(i:Int)<(n:Int))=>?_)
 ·have hJ:i<b.ps.length:=by omega
  have fY:b.ps.drop i=b.ps[i]::b.ps.drop (i+1):=OZ hJ;refine B7 rfl (B5 b.v (Zh NG) ?_);refine K3 (b.obj::(seg'++E3 D)) (J++E3 (b.ps.drop i)) (GU S hS) (by simp) ?_;rintro _ _-⟨g,rfl,rfl,hg,dS⟩;refine⟨(g.v,()),rfl,P2 (Zh (by simp)) ?_⟩;obtain⟨a,ha,-⟩:=aU.at' (i:=i) (by omega) (by decide);refine B7 ha (H7 (show(0:Int)<=i by omega) (show(i:Int)<b.v.len by omega) ?_);refine own.st (p:=i) [b.obj] (E3 D++(g.seg++(J++E3 (b.ps.drop i)))) (by rw[NL,NR,OJ,SS];omega) (by simp) ha (by rw[NK,OS]) (by simp) fun seg2 own2=>?_;rw[Su (by rw[NL,NR,OJ];omega)]at own2;refine⟨n-(i+1),by omega,i+1,seg2,D++[g],J++b.ps[i].seg,by omega,rfl,?_,?_,?_,by simp[hD],?_,?_⟩
  ·rw[D7 (by first|omega|(simp only;omega)) (by first|omega|(simp only;omega))];rfl
  ·rw[fY,Tc,Kk,Tb];simp
  ·have:(((D++b.ps.drop i).map PG.val).set i g.val)=(((D++[g])++b.ps.drop (i+1)).map PG.val):=by
    rw[fY,NQ,VW,ND (by simp[hD]),NL,hD,SQ,NS,VX];simp
   rw[<-this];exact own2
  ·intro x hx;rcases NJ.1 hx with h|h
   ·exact aC x h
   ·rw[NM.1 h];exact hg
  ·rw[NQ,hl,VT,RC,dS]
 ·obtain rfl:i=n:=by omega
  refine .drop (A:=({b with seg:=seg',ps:=D++b.ps.drop i}:PB).objs) (J:=J) ⟨rfl,seg',D++b.ps.drop i,rfl,⟨own,fun x hx=>?_⟩,?_⟩ ?_
  ·rcases NJ.1 hx with h|h
   ·exact aC x h
   ·exact hb.ps x (SV h)
  ·rw[NQ,hl,UM]
  ·show(b.obj::(seg'++(E3 D++(J++E3 (b.ps.drop i))))).Perm ((b.obj::(seg'++E3 (D++b.ps.drop i)))++J);rw[Kk]
   classical
   rw[ON];intro x;simp only[PM,OM,OP,OV,PJ];omega
def Ay8(b:PB)(W:Int)(hw:b.wear<=1048576):
  CallF PP 238 #[.p b.id,.i W] [b.obj] fun r L'=>r= .b (decide (((b.wear+1:Nat):Int)=W))/\L'=[({b with next:=0,wear:=b.wear+1,bad:=decide (((b.wear+1:Nat):Int)=W)}:PB).obj]:=by
 refine(e238 (some b.id.z) W).c ?_;have xQ:IntKind.i64.wrap ((b.wear:Int)+1)=((b.wear+1:Nat):Int):=by rw[D7 (by omega) (by omega)];omega
 refine B7 rfl (F6 (n:=b.id) (off:=1) (c:=#[.slice b.v.a b.v.len b.v.cap,.i b.next,.i b.wear,.b b.bad]) (T:=Mu) (fz:=(0,0)) [] [] rfl rfl (by simp) (.inl (NF _)) #[.slice b.v.a b.v.len b.v.cap,.i 0,.i b.wear,.b b.bad] rfl ?_);refine B7 rfl (B5 (b.wear:Int) (C2 NG rfl) (B7 rfl ?_));simp only[xQ];refine F6 (n:=b.id) (off:=2) (T:=Mu) (fz:=(0,0)) [] [] rfl rfl (by simp) (.inl (NF _)) #[.slice b.v.a b.v.len b.v.cap,.i 0,.i ((b.wear+1:Nat):Int),.b b.bad] rfl ?_;refine B7 rfl (B5 ((b.wear+1:Nat):Int) (C2 NG rfl) (B7 rfl ?_));refine F6 (n:=b.id) (off:=3) (T:=Mu) (fz:=(0,0)) [] [] rfl rfl (by simp) (.inl (NF _)) #[.slice b.v.a b.v.len b.v.cap,.i 0,.i ((b.wear+1:Nat):Int),.b (decide (((b.wear+1:Nat):Int)=W))] rfl ?_;refine B7 rfl (B5 (decide (((b.wear+1:Nat):Int)=W)) (C2 NG rfl) ?_);exact .of ⟨rfl,rfl⟩
def JC(m:Nat)(d:B8)(bv tv:B6)(ha:(d.after:Int)<=9223372036854775807):
  CallF PP 236 #[.p m] [fO m d bv tv] fun r L'=>r= .b (N1 d).1/\L'=[fO m (N1 d).2 bv tv]:=by
 refine(e236 (some m.z)).c ?_;refine B7 rfl (B5 (d.after:Int) (Ao1 NG) ?_);refine Ex (fun(h:(d.after:Int)=0)=>?_) (fun(h:(d.after:Int)≠0)=>?_)
 ·have h0:d.after=0:=by omega
  unfold N1;rw[NE h0];exact .of ⟨rfl,rfl⟩
 ·have h0:d.after≠0:=by omega
  have xQ:IntKind.i64.wrap ((d.after:Int)-1)=((d.after-1:Nat):Int):=by rw[D7 (by omega) (by omega)];omega
  have cO:(((d.after-1:Nat):Int)==0)=decide (d.after=1):=by
   by_cases h1:d.after=1
   ·rw[h1];rfl
   ·rw[OF h1,UO];omega
  unfold N1;rw[ND h0];refine B7 rfl (B5 (d.after:Int) (Ao1 NG) (B7 rfl ?_));simp only[xQ];refine F6 (n:=m) (off:=0) (c:=#[.i d.after,.i d.keep,.b d.down,.i d.c.B,.i d.c.P,.i d.c.S,.i d.c.W,.slice bv.a bv.len bv.cap,.i d.bytes,.slice tv.a tv.len tv.cap]) (T:=Gj) (fz:=(0,0)) [] [] rfl rfl (by simp) (.inl (NF _))
   #[.i ((d.after-1:Nat):Int),.i d.keep,.b d.down,.i d.c.B,.i d.c.P,.i d.c.S,.i d.c.W,.slice bv.a bv.len bv.cap,.i d.bytes,.slice tv.a tv.len tv.cap] rfl ?_
  refine B7 rfl (B5 ((d.after-1:Nat):Int) (C2 NG rfl) (B7 rfl ?_));simp only[cO];refine F6 (n:=m) (off:=2) (T:=Gj) (fz:=(0,0)) [] [] rfl rfl (by simp) (.inl (NF _))
   #[.i ((d.after-1:Nat):Int),.i d.keep,.b (decide (d.after=1)),.i d.c.B,.i d.c.P,.i d.c.S,.i d.c.W,.slice bv.a bv.len bv.cap,.i d.bytes,.slice tv.a tv.len tv.cap] rfl ?_
  refine B7 rfl (B5 (decide (d.after=1)) (C2 NG rfl) ?_);exact .of ⟨rfl,rfl⟩
def Cd2(k:Int)(n:Nat):N8 (L9 k 0) n=(R8 k n:Int):=by
 unfold N8 L9 R8;omega
def Ag9(L:B1)(m:Nat)(d:B8)(bv tv:B6)(h:fO m d bv tv∈L)(n:Nat):Reads PP 237 #[.p m,.i n] L (.i (R8 d.keep n)):=by
 refine(e237 (some m.z) n).r ?_;refine B7 rfl (B5 d.keep (Ck2 h) ?_);rw[Cd2];exact .of ⟨rfl,rfl⟩
def Ec(l:List PB)(b:Int):Option Addr:=if 0<=b then(l[b.toNat]?).map fun k=>k.id.z else none
def Sx{l:List PB}(h:i<l.length):Ec l (i:Int)=some ⟨l[i].id,0,none⟩:=by
 unfold Ec;rw[NE (by omega),NK,NV h];rfl
def BW{l:List PB}{b:Int}(h: ¬(0<=b/\b<l.length)):Ec l b=none:=by
 unfold Ec;split
 ·rw[SI (by omega)];rfl
 ·rfl
def Zj(L:B1)(m:Nat)(d:B8)(bv tv:B6)(h:fO m d bv tv∈L)(l:List PB)(hl:Sl L bv 1 (l.map Es))(bV:l.length<=1048576)(b:Int):
  Reads PP 137 #[.p m,.i b] L (.q (Ec l b)):=by
 refine(e137 (some m.z) b).r ?_;have hC:bv.len=l.length:=by have:=hl.len;rw[NL]at this;omega
 refine D8 rfl (B7 rfl (B5 bv (FX h) ?_));have hw:IntKind.i64.wrap ((bv.len:Int)-1)=(l.length:Int)-1:=by rw[D7 (by omega) (by omega)];omega
 simp only[hw];refine C4 (Pb _ b 0 ((l.length:Int)-1)) (decide (0<=b/\b<=(l.length:Int)-1),()) rfl ?_;by_cases hb:0<=b/\b<=(l.length:Int)-1
 ·rw[OH hb];refine D8 rfl ?_;obtain⟨i,rfl⟩: ∃i:Nat,b=i:=⟨b.toNat,by omega⟩;have hi:i<l.length:=by omega
  rw[Sx hi];obtain⟨a,ha,cH⟩:=hl.at' (i:=i) (by omega) (by decide);refine B7 rfl (B5 bv (FX h) (B7 ha (H7 (show(0:Int)<=i by omega) (show(i:Int)<bv.len by omega) (B5 (some ⟨l[i].id,0,none⟩:Option Addr) (cH.one ((i:Int).toNat*1) ?_) ?_))))
  ·rw[NK,OS,OU,NV hi];rfl
  ·exact .of ⟨rfl,rfl⟩
 ·rw[OF hb];refine E9 rfl (.of ⟨?_,rfl⟩);rw[BW (by omega)]
def H6(d:B8)(b p:Int):Int:=if d.down then 11 else if¬(0<=b/\b<d.bs.length)then 2 else if¬(0<=p/\p<d.c.P)then 2 else 0
def FQ(L:B1)(m:Nat)(d:B8)(bv tv:B6)(h:fO m d bv tv∈L)(l:List PB)(hl:Sl L bv 1 (l.map Es))(bV:l.length<=1048576)(hd:l.map PB.blk=d.bs)(hP:d.c.P<=1048576)(b p:Int):
  Reads PP 191 #[.p m,.i b,.i p] L (.t #[.q (if H6 d b p=0 then Ec l b else none),.i (H6 d b p)]):=by
 refine(e191 (some m.z) b p).r ?_;have dI:d.bs.length=l.length:=by rw[<-hd,NL]
 refine D8 rfl (B7 rfl (B5 d.down (FW h) ?_));refine M0 (fun(aG:d.down=true)=>.of ⟨?_,rfl⟩) (fun(aG:d.down=false)=>?_)
 ·have hE:H6 d b p=11:=by unfold H6;rw[NE aG]
  rw[hE];rfl
 ·refine C4 (Zj L m d bv tv h l hl bV b) (Ec l b,()) rfl ?_;by_cases hb:0<=b/\b<d.bs.length
  ·obtain⟨i,rfl⟩: ∃i:Nat,b=i:=⟨b.toNat,by omega⟩;rw[Sx (by omega)];refine D8 rfl (B7 rfl (B5 (d.c.P:Int) (Yj h) ?_));have hw:IntKind.i64.wrap ((d.c.P:Int)-1)=(d.c.P:Int)-1:=D7 (by omega) (by omega);simp only[hw];refine C4 (Pb _ p 0 ((d.c.P:Int)-1)) (decide (0<=p/\p<=(d.c.P:Int)-1),()) rfl ?_;by_cases hp:0<=p/\p<d.c.P
   ·have hE:H6 d i p=0:=by unfold H6;rw[aG,ND (by decide),ND (by simpa using hb),ND (by simpa using hp)]
    rw[OH (by omega),hE,NE rfl];exact D8 rfl (.of ⟨rfl,rfl⟩)
   ·have hE:H6 d i p=2:=by unfold H6;rw[aG,ND (by decide),ND (by simpa using hb),NE hp]
    rw[OF (by omega),hE];exact E9 rfl (.of ⟨rfl,rfl⟩)
  ·have hE:H6 d b p=2:=by unfold H6;rw[aG,ND (by decide),NE hb]
   rw[hE,BW (by omega)];exact E9 rfl (.of ⟨rfl,rfl⟩)
structure G3(d:B8):Prop where
 c:Zs d.c
 len:d.bs.length=d.c.B
 pg: ∀k∈d.bs,k.pages.length=d.c.P/\ ∀l∈k.pages,l.length=d.c.S
 nx: ∀k∈d.bs,k.next<=d.c.P/\k.wear<=d.c.W/\k.bad=decide (k.wear=d.c.W)
 after:(d.after:Int)<=9223372036854775807
 torn: ∀t∈d.torn,t.meant.length=d.c.S/\t.image.length=d.c.S
structure PT where
 b:Nat
 p:Nat
 m:PG
 i:PG
def PT.enc(t:PT):List Value:=[.i t.b,.i t.p,t.m.val,t.i.val]
def PT.enc_len(t:PT):t.enc.length=4:=rfl
def PT.tn(t:PT):Tn:=⟨t.b,t.p,t.m.l,t.i.l⟩
def L8(l:List PT):B1:=l.flatMap fun t=>t.m.seg++t.i.seg
def IU(a b:List PT):L8 (a++b)=L8 a++L8 b:=OD
def IT(t:PT):L8 [t]=t.m.seg++t.i.seg:=by simp[L8]
def G8(l:List PB):B1:=l.flatMap PB.objs
def Ky(a b:List PB):G8 (a++b)=G8 a++G8 b:=OD
def Kw(a:PB)(b:List PB):G8 (a::b)=a.objs++G8 b:=rfl
structure Ou(m:Nat)(d:B8)(bv:B6)(bseg:B1)(bs:List PB)(tv:B6)(tseg:B1)(ts:List PT):Prop where
 ob:C5 bv 1 Qy (bs.map Es) bseg
 okb: ∀b∈bs,b.Ok
 hb:bs.map PB.blk=d.bs
 ot:C5 tv 4 eT (ts.flatMap PT.enc) tseg
 okt: ∀t∈ts,t.m.Ok/\t.i.Ok
 ht:ts.map PT.tn=d.torn
def fL(m:Nat)(d:B8)(bv:B6)(bseg:B1)(bs:List PB)(tv:B6)(tseg:B1)(ts:List PT):B1:=fO m d bv tv::(bseg++(G8 bs++(tseg++L8 ts)))
def FH(m:Nat)(d:B8)(A:B1):Prop:= ∃bv bseg bs tv tseg ts,A=fL m d bv bseg bs tv tseg ts/\Ou m d bv bseg bs tv tseg ts
def E7(d:B8)(b:Int):Option G6:=if 0<=b then d.bs[b.toNat]? else none
def Ch(d:B8)(b:Int):Int:=((E7 d b).elim 0 fun k=>k.next:Nat)
def Mr(d:B8)(b:Int):Int:=((E7 d b).elim 0 fun k=>k.wear:Nat)
def Kz(d:B8)(b:Int):Bool:=(E7 d b).elim false fun k=>k.bad
def GY(h:bs.map PB.blk=d.bs)(b:Int):(Ec bs b=none/\E7 d b=none)\/ ∃(i:Nat) (hi:i<bs.length),b=i/\Ec bs b=some ⟨bs[i].id,0,none⟩/\E7 d b=some bs[i].blk:=by
 by_cases hb:0<=b/\b<bs.length
 ·right;obtain⟨i,rfl⟩: ∃i:Nat,b=i:=⟨b.toNat,by omega⟩;have hi:i<bs.length:=by omega
  refine⟨i,hi,rfl,Sx hi,?_⟩;unfold E7;rw[NE (by omega),NK,<-h,OU,NV hi];rfl
 ·left;refine⟨BW hb,?_⟩;have hl:d.bs.length=bs.length:=by rw[<-h,NL]
  unfold E7;split
  ·rw[SI (by omega)]
  ·rfl
def Bt6(hi:i<bs.length):bs[i].obj∈G8 bs:=OY.2 ⟨bs[i],NO hi,NG⟩
section
variable {m:Nat} {d:B8} {bv:B6} {bseg:B1} {bs:List PB} {tv:B6} {tseg:B1} {ts:List PT}
def Gw:fO m d bv tv∈fL m d bv bseg bs tv tseg ts:=NG
def Ou.sl(h:Ou m d bv bseg bs tv tseg ts):Sl (fL m d bv bseg bs tv tseg ts) bv 1 (bs.map Es):=h.ob.sl.left.cons
def Ou.tsl(h:Ou m d bv bseg bs tv tseg ts):Sl (fL m d bv bseg bs tv tseg ts) tv 4 (ts.flatMap PT.enc):=h.ot.sl.left.right.right.cons
def Ou.few(h:Ou m d bv bseg bs tv tseg ts)(ok:G3 d):bs.length<=16:=by
 have h1:=ok.len;have h2:=ok.c.b;rw[<-h.hb,NL]at h1;omega
def Ur(hi:i<bs.length):bs[i].obj∈fL m d bv bseg bs tv tseg ts:=NN _ (OG _ (OA _ (Bt6 hi)))
end
def Bu5(m:Nat)(d:B8)(A:B1)(h:FH m d A)(ok:G3 d)(b:Int):Reads PP 130 #[.p m,.i b] A (.i (Ch d b)):=by
 obtain⟨bv,bseg,bs,tv,tseg,ts,rfl,h⟩:=h;refine(e130 (some m.z) b).r ?_;unfold Ch;have:=h.few ok;refine C4 (Zj _ m d bv tv Gw bs h.sl (by omega) b) (Ec bs b,()) rfl ?_;rcases GY h.hb b with⟨h1,h2⟩|⟨i,hi,rfl,h1,h2⟩
 ·rw[h1,h2];exact D8 rfl (.of ⟨rfl,rfl⟩)
 ·rw[h1,h2];exact E9 rfl (B7 rfl (B5 (bs[i].next:Int) (GX (Ur hi)) (.of ⟨rfl,rfl⟩)))
def Az0(m:Nat)(d:B8)(A:B1)(h:FH m d A)(ok:G3 d)(b:Int):Reads PP 77 #[.p m,.i b] A (.i (Mr d b)):=by
 obtain⟨bv,bseg,bs,tv,tseg,ts,rfl,h⟩:=h;refine(e77 (some m.z) b).r ?_;unfold Mr;have:=h.few ok;refine C4 (Zj _ m d bv tv Gw bs h.sl (by omega) b) (Ec bs b,()) rfl ?_;rcases GY h.hb b with⟨h1,h2⟩|⟨i,hi,rfl,h1,h2⟩
 ·rw[h1,h2];exact D8 rfl (.of ⟨rfl,rfl⟩)
 ·rw[h1,h2];exact E9 rfl (B7 rfl (B5 (bs[i].wear:Int) (Cs0 (Ur hi)) (.of ⟨rfl,rfl⟩)))
def Av7(m:Nat)(d:B8)(A:B1)(h:FH m d A)(ok:G3 d)(b:Int):Reads PP 129 #[.p m,.i b] A (.b (Kz d b)):=by
 obtain⟨bv,bseg,bs,tv,tseg,ts,rfl,h⟩:=h;refine(e129 (some m.z) b).r ?_;unfold Kz;have:=h.few ok;refine C4 (Zj _ m d bv tv Gw bs h.sl (by omega) b) (Ec bs b,()) rfl ?_;rcases GY h.hb b with⟨h1,h2⟩|⟨i,hi,rfl,h1,h2⟩
 ·rw[h1,h2];exact D8 rfl (.of ⟨rfl,rfl⟩)
 ·rw[h1,h2];exact E9 rfl (B7 rfl (B5 bs[i].bad (Zi (Ur hi)) (.of ⟨rfl,rfl⟩)))
def Aq4(m:Nat)(d:B8)(A:B1)(h:FH m d A):Reads PP 15 #[.p m] A (.b d.down):=by
 obtain⟨bv,bseg,bs,tv,tseg,ts,rfl,h⟩:=h;refine(e15 (some m.z)).r ?_;exact E9 rfl (B7 rfl (B5 d.down (FW Gw) (.of ⟨rfl,rfl⟩)))
def cfV(c:Bh):Value:=.agg #[.i c.B,.i c.P,.i c.S,.i c.W]
def Za(m:Nat)(d:B8)(A:B1)(h:FH m d A):CallF PP 64 #[.p m] A fun r L'=>r=cfV d.c/\L'=A:=by
 obtain⟨bv,bseg,bs,tv,tseg,ts,rfl,h⟩:=h;refine(e64 (some m.z)).c ?_;refine C9 fun n _=>D8 rfl (B7 rfl ?_);refine B5 ((d.c.B:Int),(d.c.P:Int),(d.c.S:Int),(d.c.W:Int),()) (Ck3 (NN _ Gw)) ?_;refine F6 (n:=n) (off:=0) (c:=#[.i 0,.i 0,.i 0,.i 0]) (T:=23) (fz:=(0,0)) [] _ rfl rfl (by simp) (.inl (NF _)) #[.i d.c.B,.i d.c.P,.i d.c.S,.i d.c.W] rfl ?_;refine B5 ((d.c.B:Int),(d.c.P:Int),(d.c.S:Int),(d.c.W:Int),()) (C2 NG rfl) ?_;exact .cons (.of ⟨rfl,rfl⟩)
def T3(d:B8)(n k:Int):B8:=if d.down then d else{d with after:=n.toNat,keep:=k}
def Av9(m:Nat)(d:B8)(A:B1)(h:FH m d A)(n k:Int):CallF PP 19 #[.p m,.i n,.i k] A fun r L'=>r= .t #[]/\FH m (T3 d n k) L':=by
 obtain⟨bv,bseg,bs,tv,tseg,ts,rfl,h⟩:=h;refine(e19 (some m.z) n k).c ?_;unfold T3;refine E9 rfl (B7 rfl (B5 d.down (FW Gw) ?_));rcases Bool.eq_false_or_eq_true d.down with hd|hd
 ·rw[NE hd];exact D8 (by simp only[hd];rfl) (.of ⟨rfl,bv,bseg,bs,tv,tseg,ts,rfl,h⟩)
 ·rw[ND (by rw[hd];decide)];have hn:L9 n 0=(n.toNat:Int):=by unfold L9;omega
  refine E9 (by simp only[hd];rfl) (B7 rfl ?_);rw[hn];refine F6 (n:=m) (off:=0) (c:=#[.i d.after,.i d.keep,.b d.down,.i d.c.B,.i d.c.P,.i d.c.S,.i d.c.W,.slice bv.a bv.len bv.cap,.i d.bytes,.slice tv.a tv.len tv.cap]) (T:=Gj) (fz:=(0,0)) [] _ rfl rfl (by simp) (.inl (NF _))
   #[.i (n.toNat:Int),.i d.keep,.b d.down,.i d.c.B,.i d.c.P,.i d.c.S,.i d.c.W,.slice bv.a bv.len bv.cap,.i d.bytes,.slice tv.a tv.len tv.cap] rfl (B7 rfl ?_)
  refine F6 (n:=m) (off:=1) (T:=Gj) (fz:=(0,0)) [] _ rfl rfl (by simp) (.inl (NF _))
   #[.i (n.toNat:Int),.i k,.b d.down,.i d.c.B,.i d.c.P,.i d.c.S,.i d.c.W,.slice bv.a bv.len bv.cap,.i d.bytes,.slice tv.a tv.len tv.cap] rfl ?_
  exact .of ⟨rfl,bv,bseg,bs,tv,tseg,ts,rfl,⟨h.ob,h.okb,h.hb,h.ot,h.okt,h.ht⟩⟩
def Fm(d:B8):B8:={d with down:=false,after:=0}
def Bl1(m:Nat)(d:B8)(A:B1)(h:FH m d A):CallF PP 20 #[.p m] A fun r L'=>r= .t #[]/\FH m (Fm d) L':=by
 obtain⟨bv,bseg,bs,tv,tseg,ts,rfl,h⟩:=h;refine(e20 (some m.z)).c ?_;unfold Fm;refine E9 rfl (B7 rfl ?_);refine F6 (n:=m) (off:=2) (c:=#[.i d.after,.i d.keep,.b d.down,.i d.c.B,.i d.c.P,.i d.c.S,.i d.c.W,.slice bv.a bv.len bv.cap,.i d.bytes,.slice tv.a tv.len tv.cap]) (T:=Gj) (fz:=(0,0)) [] _ rfl rfl (by simp) (.inl (NF _))
  #[.i d.after,.i d.keep,.b false,.i d.c.B,.i d.c.P,.i d.c.S,.i d.c.W,.slice bv.a bv.len bv.cap,.i d.bytes,.slice tv.a tv.len tv.cap] rfl (B7 rfl ?_)
 refine F6 (n:=m) (off:=0) (T:=Gj) (fz:=(0,0)) [] _ rfl rfl (by simp) (.inl (NF _))
  #[.i 0,.i d.keep,.b false,.i d.c.B,.i d.c.P,.i d.c.S,.i d.c.W,.slice bv.a bv.len bv.cap,.i d.bytes,.slice tv.a tv.len tv.cap] rfl ?_
 exact .of ⟨rfl,bv,bseg,bs,tv,tseg,ts,rfl,⟨h.ob,h.okb,h.hb,h.ot,h.okt,h.ht⟩⟩
def I5(d:B8)(b p:Int):List UInt8×Int:=
 if H6 d b p≠0 then([],H6 d b p)else match d.bs[b.toNat]? with
 |none=>([],2)
 |some k=>if k.bad then(blk d.c.S,0)else(k.pages.getD p.toNat [],0)
def Js{b p:Int}(h:H6 d b p=0):d.down=false/\0<=b/\b<d.bs.length/\0<=p/\p<d.c.P:=by
 unfold H6 at h;split at h
 ·cases h
 ·split at h
  ·cases h
  ·split at h
   ·cases h
   ·rename_i h1 h2 h3;refine⟨by simpa using h1,?_,?_,?_,?_⟩<;>omega
def BN(m:Nat)(d:B8)(A:B1)(h:FH m d A)(ok:G3 d)(b p:Int):
  CallF PP 149 #[.p m,.i b,.i p] A fun r L'=> ∃g:PG,r= .t #[g.val,.i (I5 d b p).2]/\L'=g.seg++A/\g.Ok/\g.l=(I5 d b p).1:=by
 obtain⟨bv,bseg,bs,tv,tseg,ts,rfl,h⟩:=h;refine(e149 (some m.z) b p).c ?_;have bN:=h.few ok;have hP:=ok.c.p;have hS:=ok.c.s;refine C4 (FQ _ m d bv tv Gw bs h.sl (by omega) h.hb (by omega) b p) (if H6 d b p=0 then Ec bs b else none,H6 d b p,()) rfl ?_;refine Bb (fun(he:H6 d b p≠0)=>?_) (fun(he:H6 d b p=0)=>?_)
 ·have hr:I5 d b p=([],H6 d b p):=by unfold I5;rw[NE he]
  rw[hr];exact .of ⟨Lp,rfl,rfl,Td,rfl⟩
 obtain⟨aG,iV,dM,bJ,aH⟩:=Js he;obtain⟨i,rfl⟩: ∃i:Nat,b=i:=⟨b.toNat,by omega⟩;obtain⟨q,rfl⟩: ∃q:Nat,p=q:=⟨p.toNat,by omega⟩;have dI:d.bs.length=bs.length:=by rw[<-h.hb,NL]
 have hi:i<bs.length:=by omega
 have hk:d.bs[i]?=some bs[i].blk:=by rw[<-h.hb,OU,NV hi];rfl
 have mR:bs[i].blk∈d.bs:=QI hk;rw[NE he,Sx hi];refine B7 rfl (B5 bs[i].bad (Zi (Ur hi)) ?_);refine M0 (fun(bL:bs[i].bad=true)=>?_) (fun(bL:bs[i].bad=false)=>?_)
 ·have hr:I5 d i q=(blk d.c.S,0):=by
   unfold I5;rw[ND (by simpa using he),NK,hk];show(if bs[i].bad=true then _ else _)=_;rw[NE bL]
  rw[hr];refine B7 rfl (B5 (d.c.S:Int) (Ny Gw) ?_);refine K3 [] (fL m d bv bseg bs tv tseg ts) (GU d.c.S (by omega)) rfl ?_;rintro _ _-⟨g,rfl,rfl,hg,dS⟩;exact⟨(g.v,()),rfl,.of ⟨g,rfl,rfl,hg,dS⟩⟩
 ·have aQ:=(ok.pg _ mR).1;have iA:bs[i].ps.length=d.c.P:=by rw[<-aQ];simp[PB.blk]
  have hq:q<bs[i].ps.length:=by omega
  have hr:I5 d i q=(bs[i].ps[q].l,0):=by
   unfold I5;rw[ND (by simpa using he),NK,NK,hk];show(if bs[i].bad=true then _ else((bs[i].ps.map PG.l).getD q [],(0:Int)))=_;rw[ND (by rw[bL];decide),NX,OU,NV hq];rfl
  rw[hr];have pW:=h.okb _ (NO hi);have aJ: ∀x∈bs[i].objs,x∈fL m d bv bseg bs tv tseg ts:=fun x hx=>NN _ (OG _ (OA _ (OY.2 ⟨bs[i],NO hi,hx⟩)));have tX:Sl (fL m d bv bseg bs tv tseg ts) bs[i].v 1 (bs[i].ps.map PG.val):=Sl.mono (pW.own.sl.left.cons (p:=bs[i].obj)) aJ;have lK:=pW.ps _ (NO hq);have vD:G0 (fL m d bv bseg bs tv tseg ts) bs[i].ps[q].v bs[i].ps[q].l:=Sl.mono lK.sl fun x hx=>aJ x (NN _ (OG _ (OY.2 ⟨_,NO hq,hx⟩)));have dS:bs[i].ps[q].l.length=d.c.S:=(ok.pg _ mR).2 _ (NY.2 ⟨_,NO hq,rfl⟩);have bY:=tX.len;rw[NL]at bY;obtain⟨a,ha,cH⟩:=tX.at' (i:=q) (by omega) (by decide);refine C9 fun n _=>B7 rfl (B5 bs[i].v (Zh (NN _ (Ur hi))) (B7 ha (H7 (show(0:Int)<=q by omega) (show(q:Int)<bs[i].v.len by omega) ?_)));refine B5 bs[i].ps[q].v ((cH.one ((q:Int).toNat*1) (v:=bs[i].ps[q].val) (by rw[NK,OS,OU,NV hq];rfl)).mono fun x hx=>NN _ hx) ?_;refine Q1 Be Dp [] (fL m d bv bseg bs tv tseg ts) Km rfl (.sl vD.cons) (Ac _) (by rw[vD.len];simp only;omega) fun v' seg' bm own'=>?_;rw[NT]at own'⊢;exact .of ⟨⟨v',seg',bs[i].ps[q].l⟩,rfl,rfl,own',rfl⟩
def Ba1(m:Nat)(d:B8)(A:B1)(h:FH m d A)(ok:G3 d)(hf:d.torn.length<=1048576):
  CallF PP 29 #[.p m] A fun r L'=> ∃(v:B6) (seg:B1) (ts':List PT),r= .slice v.a v.len v.cap/\L'=seg++(L8 ts'++A)/\C5 v 4 eT (ts'.flatMap PT.enc) seg/\(∀t∈ts',t.m.Ok/\t.i.Ok)/\ts'.map PT.tn=d.torn:=by
 have hA:=h;obtain⟨bv,bseg,bs,tv,tseg,ts,he,h⟩:=h;have hfO:fO m d bv tv∈A:=he▸Gw;have tH:Sl A tv 4 (ts.flatMap PT.enc):=he▸h.tsl;have sA: ∀t∈ts,∀x,x∈t.m.seg\/x∈t.i.seg->x∈A:=by
  intro t ht x hx;rw[he];refine NN _ (OG _ (OG _ (OG _ (OY.2 ⟨t,ht,?_⟩))));exact NJ.2 hx
 have hO:ts.length=d.torn.length:=by rw[<-h.ht,NL]
 have oZ:=tH.els_len PT.enc_len (by decide);clear he;refine(e29 (some m.z)).c ?_;refine D8 rfl (B7 rfl (B5 tv (FV hfO) ?_));refine G1 (fun z' z L'=> ∃(i:Nat) (v:B6) (seg:B1) (D:List PT) (J X Y:B1),i<=ts.length/\z'=ts.length-i/\z=(v,(i:Int),())/\L'=X++seg++Y/\(X++Y).Perm (L8 D++(J++A))/\(∀x∈A,x∈L')/\C5 v 4 eT (D.flatMap PT.enc) seg/\(∀t∈D,t.m.Ok/\t.i.Ok)/\D.map PT.tn=(ts.map PT.tn).take i) ts.length
  ⟨0,⟨none,0,0⟩,[],[],[],[],A,by omega,by omega,rfl,rfl,by simp[L8],fun x hx=>by simpa using hx,O5,by simp,rfl⟩ ?_
 rintro z' z L ⟨i,v,seg,D,J,X,Y,hi,rfl,rfl,rfl,hp,aJ,own,aC,hD⟩;refine D3 (fun(jG:(i:Int)<(tv.len:Int))=>?_) (fun(aM: ¬(i:Int)<(tv.len:Int))=>?_)
 ·have hJ:i<ts.length:=by omega
  obtain⟨a,ha,cH⟩:=tH.el PT.enc_len (by decide) hJ;have co:=h.okt _ (NO hJ);have tJ:=ok.torn (ts[i].tn) (by rw[<-h.ht];exact NY.2 ⟨_,NO hJ,rfl⟩);have hS:=ok.c.s;have uU:G0 A ts[i].m.v ts[i].m.l:=Sl.mono co.1.sl fun x hx=>sA _ (NO hJ) x (.inl hx);have vC:G0 A ts[i].i.v ts[i].i.l:=Sl.mono co.2.sl fun x hx=>sA _ (NO hJ) x (.inr hx);have dc:ts[i].m.l.length=d.c.S:=tJ.1;have iF:ts[i].i.l.length=d.c.S:=tJ.2;have dF:=uU.len;have hiv:=vC.len;have bY:=own.sl.len;rw[Ea PT.enc_len]at bY;have wM:D.length=i:=by
   have:=congrArg List.length hD;rw[NL,NW,NL]at this;omega
  refine B7 ha (H7 (show(0:Int)<=i by omega) (show(i:Int)<tv.len by omega) ?_);refine B5 ((ts[i].b:Int),(ts[i].p:Int),ts[i].m.v,ts[i].i.v,()) (by rw[NK];exact cH.mono aJ) ?_;refine C9 fun n1 _=>?_;refine F6 (n:=n1) (off:=0) (c:=#[.i 0,.i 0,.slice none 0 0,.slice none 0 0]) (T:=eT) (fz:=(0,0)) [] (X++seg++Y) rfl rfl (by simp) (.inl (NF _))
   #[.i ts[i].b,.i ts[i].p,ts[i].m.val,ts[i].i.val] rfl ?_
  rw[NT];refine B5 ts[i].m.v (C2 NG rfl) (B5 ts[i].i.v (C2 NG rfl) ?_);refine C9 fun n2 _=>?_;refine Q1 Be Dp [] ((n1,Obj.cells #[.i ts[i].b,.i ts[i].p,ts[i].m.val,ts[i].i.val] eT)::(X++seg++Y)) Km rfl (.sl (Sl.mono uU fun x hx=>NN _ (NN _ (aJ x hx)))) (Ac _) (by simp only;omega) fun v5 seg5 hv5 own5=>?_;rw[NT]at own5⊢;refine P2 (C2 (n:=n1) (off:=3) (T:=eT) (c:=#[.i ts[i].b,.i ts[i].p,ts[i].m.val,ts[i].i.val]) (fz:=(0,0)) (by simp) rfl) (C9 fun n3 _=>?_);refine Q1 Be Dp [] (seg5++((n1,Obj.cells #[.i ts[i].b,.i ts[i].p,ts[i].m.val,ts[i].i.val] eT)::(X++seg++Y))) Km rfl (.sl (Sl.mono vC fun x hx=>by have h0:=aJ x hx;simp at h0⊢;simp[h0])) (Ac _) (by simp only;omega) fun v6 seg6 hv6 own6=>?_;rw[NT]at own6⊢;refine F6 (n:=n1) (off:=2) (c:=#[.i ts[i].b,.i ts[i].p,ts[i].m.val,ts[i].i.val]) (T:=eT) (fz:=(0,0)) (seg6++seg5) (X++seg++Y) rfl (by simp) (by simp) (.inl (NF _))
   #[.i ts[i].b,.i ts[i].p,.slice v5.a v5.len v5.cap,ts[i].i.val] rfl ?_
  refine F6 (n:=n1) (off:=3) (c:=#[.i ts[i].b,.i ts[i].p,.slice v5.a v5.len v5.cap,ts[i].i.val]) (T:=eT) (fz:=(0,0)) (seg6++seg5) (X++seg++Y) rfl rfl (by simp) (.inl (NF _))
   #[.i ts[i].b,.i ts[i].p,.slice v5.a v5.len v5.cap,.slice v6.a v6.len v6.cap] rfl ?_
  refine B5 ((ts[i].b:Int),(ts[i].p:Int),v5,v6,()) (C2 (n:=n1) (off:=0) (c:=#[.i ts[i].b,.i ts[i].p,.slice v5.a v5.len v5.cap,.slice v6.a v6.len v6.cap]) (T:=eT) (fz:=(0,0)) (by simp) rfl) ?_;refine C9 fun n4 _=>?_;refine Q1 Ap5 JV ((n4,Obj.cells #[.i ts[i].b,.i ts[i].p,.slice v5.a v5.len v5.cap,.slice v6.a v6.len v6.cap] eT)::((seg6++seg5)++((n1,Obj.cells #[.i ts[i].b,.i ts[i].p,.slice v5.a v5.len v5.cap,.slice v6.a v6.len v6.cap] eT)::X))) Y own (by simp)
   (n:=1) (ws:=PT.enc ⟨ts[i].b,ts[i].p,⟨v5,seg5,ts[i].m.l⟩,⟨v6,seg6,ts[i].i.l⟩⟩) (x:=.slice (some n4.z) 1 1) (Src.sl (v:=⟨some n4.z,1,1⟩) ⟨rfl,NF _,.inr ⟨_,rfl,C2 NG rfl⟩⟩) rfl (by omega) fun v8 seg8 wU own8=>?_
  refine⟨ts.length-(i+1),by omega,i+1,v8,seg8,D++[⟨ts[i].b,ts[i].p,⟨v5,seg5,ts[i].m.l⟩,⟨v6,seg6,ts[i].i.l⟩⟩],(n4,Obj.cells #[.i ts[i].b,.i ts[i].p,.slice v5.a v5.len v5.cap,.slice v6.a v6.len v6.cap] eT)::(n1,Obj.cells #[.i ts[i].b,.i ts[i].p,.slice v5.a v5.len v5.cap,.slice v6.a v6.len v6.cap] eT)::J,_,_,by omega,rfl,?_,rfl,?_,?_,?_,?_,?_⟩
  ·rw[D7 (by first|omega|(simp only;omega)) (by first|omega|(simp only;omega))];rfl
  ·generalize (n4,Obj.cells #[.i ts[i].b,.i ts[i].p,.slice v5.a v5.len v5.cap,.slice v6.a v6.len v6.cap] eT)=o4;generalize (n1,Obj.cells #[.i ts[i].b,.i ts[i].p,.slice v5.a v5.len v5.cap,.slice v6.a v6.len v6.cap] eT)=o1;rw[IU,IT]
   classical
   rw[ON]at hp⊢;intro x;have:=hp x;simp only[PM,OM,OP,OV,PJ]at this⊢;omega
  ·intro x hx;have h1:=hp.mem_iff (a:=x);have h2:x∈X++Y:=h1.2 (OG _ (OG _ hx));rcases NJ.1 h2 with h3|h3
   ·exact OA _ (OA _ (NN _ (OG _ (NN _ h3))))
   ·exact OG _ h3
  ·rw[OD,PU];exact own8
  ·intro x hx;rcases NJ.1 hx with h1|h1
   ·exact aC x h1
   ·rw[NM.1 h1];exact⟨own5,own6⟩
  ·rw[NQ,hD,OB (by rw[NL];omega),QG];rfl
 ·obtain rfl:i=ts.length:=by omega
  refine .drop (A:=seg++(L8 D++A)) (J:=J) ⟨v,seg,D,rfl,rfl,own,aC,?_⟩ ?_
  ·rw[hD,<-h.ht,PZ (by rw[NL];omega)]
  ·classical
   rw[ON]at hp⊢;intro x;have:=hp x;simp only[PM,OM,OP,OV,PJ]at this⊢;omega
def G6.put(k:G6)(p:Nat)(l:List UInt8):G6:={k with pages:=k.pages.set p l,next:=p+1}
def Y0(d:B8):B8:={d with bytes:=IntKind.i64.wrap (d.bytes+d.c.S)}
def Av(d:B8)(data:List UInt8):List UInt8:=data.take (R8 d.keep d.c.S)++blk (d.c.S-R8 d.keep d.c.S)
def Gn(d:B8)(i p:Nat)(k:G6)(data:List UInt8):Int×B8:=
 if(N1 (Y0 d)).1 then(11,{(N1 (Y0 d)).2 with bs:=d.bs.set i (k.put p (Av d data)),torn:=d.torn++[⟨i,p,data,Av d data⟩]})
 else(0,{(N1 (Y0 d)).2 with bs:=d.bs.set i (k.put p data)})
def prog(d:B8)(b p:Int)(data:List UInt8):Int×B8:=
 if H6 d b p≠0 then(H6 d b p,d)else if data.length≠d.c.S then(2,d)else
 match d.bs[b.toNat]? with
 |none=>(2,d)
 |some k=>if k.bad then(10,d)else if(k.next:Int)≠p then(9,d)else Gn d b.toNat p.toNat k data
def MS(pre post:List PB)(x:PB):Ec (pre++x::post) (pre.length:Int)=some x.id.z:=by
 rw[Sx (by simp)];simp
def Bp3(m:Nat)(d:B8)(A R:B1)(h:FH m d A)(ok:G3 d)(hf:d.torn.length<=1048576)(b p:Int)(u:B6)(data:List UInt8)(hu:G0 R u data):
  CallF PP 214 #[.p m,.i b,.i p,.slice u.a u.len u.cap] (A++R) fun r L'=> ∃A',L'=A'++R/\r= .i (prog d b p data).1/\FH m (prog d b p data).2 A':=by
 have hA:=h;obtain⟨bv,bseg,bs,tv,tseg,ts,rfl,h⟩:=h;refine(e214 (some m.z) b p u).c ?_;have bN:=h.few ok;have hP:=ok.c.p;have hS:=ok.c.s;have fI:=hu.len;refine C4 (FQ _ m d bv tv (OA _ Gw) bs h.sl.left (by omega) h.hb (by omega) b p) (if H6 d b p=0 then Ec bs b else none,H6 d b p,()) rfl ?_;refine Bb (fun(he:H6 d b p≠0)=>?_) (fun(he:H6 d b p=0)=>?_)
 ·have hr:prog d b p data=(H6 d b p,d):=by unfold prog;rw[NE he]
  rw[hr];exact .of ⟨_,rfl,rfl,hA⟩
 refine B7 rfl (B5 (d.c.S:Int) (Ny (OA _ Gw)) ?_);refine Bb (fun(hs:(u.len:Int)≠(d.c.S:Int))=>?_) (fun(hs:(u.len:Int)=(d.c.S:Int))=>?_)
 ·have hr:prog d b p data=(2,d):=by unfold prog;rw[ND (by simpa using he),NE (by omega)]
  rw[hr];exact .of ⟨_,rfl,rfl,hA⟩
 have pR:data.length=d.c.S:=by omega
 obtain⟨aG,iV,dM,bJ,aH⟩:=Js he;obtain⟨i,rfl⟩: ∃i:Nat,b=i:=⟨b.toNat,by omega⟩;obtain⟨q,rfl⟩: ∃q:Nat,p=q:=⟨p.toNat,by omega⟩;have dI:d.bs.length=bs.length:=by rw[<-h.hb,NL]
 have hi:i<bs.length:=by omega
 obtain⟨pre,x,post,rfl,rfl⟩: ∃pre x post,bs=pre++x::post/\pre.length=i:=⟨bs.take i,bs[i],bs.drop (i+1),by rw[<-OZ hi,PR],by rw[NW];omega⟩;have hk:d.bs[pre.length]?=some x.blk:=by rw[<-h.hb,OU];simp
 have cM: ∀y:PB,(pre++y::post).map PB.blk=d.bs.set pre.length y.blk:=fun y=>by rw[<-h.hb];simp
 have mR:x.blk∈d.bs:=QI hk;have pC:prog d (pre.length:Int) (q:Int) data=if x.bad then(10,d)else if(x.next:Int)≠(q:Int)then(9,d)else Gn d pre.length q x.blk data:=by
  unfold prog;rw[ND (by simpa using he),ND (by omega),NK,NK,hk];rfl
 have rZ:x.obj∈fL m d bv bseg (pre++x::post) tv tseg ts++R:=OA _ (NN _ (OG _ (OA _ (by rw[Ky,Kw];exact OG _ (OA _ NG)))));rw[NE he,MS];refine B7 rfl (B5 x.bad (Zi rZ) ?_);refine M0 (fun(bL:x.bad=true)=>?_) (fun(bL:x.bad=false)=>?_)
 ·rw[pC,NE bL];exact .of ⟨_,rfl,rfl,hA⟩
 refine B7 rfl (B5 (x.next:Int) (GX rZ) ?_);refine Bb (fun(hn:(x.next:Int)≠(q:Int))=>?_) (fun(hn:(x.next:Int)=(q:Int))=>?_)
 ·rw[pC,ND (by rw[bL];decide),NE hn];exact .of ⟨_,rfl,rfl,hA⟩
 rw[pC,ND (by rw[bL];decide),ND (by omega)];clear pC hA;refine B7 rfl (B5 (d.c.S:Int) (Ny (OA _ Gw)) ?_);have aC:=h.okb x (by simp);have aQ:=(ok.pg _ mR).1;have iA:x.ps.length=d.c.P:=by rw[<-aQ];simp[PB.blk]
 have hq:q<x.ps.length:=by omega
 obtain⟨D,g0,E,eI,wM⟩: ∃D g0 E,x.ps=D++g0::E/\D.length=q:=⟨x.ps.take q,x.ps[q],x.ps.drop (q+1),by rw[<-OZ hq,PR],by rw[NW];omega⟩;have hL:fL m d bv bseg (pre++x::post) tv tseg ts++R=fO m d bv tv::(bseg++(G8 pre++(x.obj::(x.seg++(E3 D++(g0.seg++(E3 E++(G8 post++(tseg++(L8 ts++R)))))))))):=by
  unfold fL;rw[Ky,Kw];unfold PB.objs;rw[eI,Kk,Tc];simp
 rw[hL];clear hL rZ;refine K3 (fO m d bv tv::(bseg++(G8 pre++(x.obj::(x.seg++E3 D))))) (g0.seg++(E3 E++(G8 post++(tseg++(L8 ts++R))))) (GU d.c.S (by omega)) (by simp) ?_;rintro _ _-⟨g,rfl,rfl,hg,dS⟩;refine⟨(g.v,()),rfl,B7 rfl (B5 x.v (Zh (by simp)) ?_)⟩;have sW:=aC.own.len;rw[NL]at sW;have xP:Sl x.seg x.v 1 (x.ps.map PG.val):=aC.own.sl;obtain⟨xa,az,-⟩:=xP.at' (i:=q) (by omega) (by decide);refine B7 az (H7 (show(0:Int)<=q by omega) (show(q:Int)<x.v.len by omega) ?_);refine aC.own.st (p:=q) (ws:=[g.val]) (fO m d bv tv::(bseg++(G8 pre++[x.obj]))) (E3 D++(g.seg++(g0.seg++(E3 E++(G8 post++(tseg++(L8 ts++R))))))) (by rw[NL,SS];omega) (by simp) az (by rw[NK,OS]) (by simp) fun xs xown=>?_;rw[Su (by rw[NL];omega)]at xown;have tD: ∀v,(x.ps.map PG.val).set q v=(D.map PG.val)++v::(E.map PG.val):=by
  intro v;rw[eI,NQ,VW,ND (by simp[wM]),NL,wM,SQ,NS,VX]
 rw[tD]at xown;have gL:IntKind.i64.wrap ((x.next:Int)+1)=((q+1:Nat):Int):=by rw[D7 (by omega) (by omega)];omega
 refine B7 rfl (B5 (x.next:Int) (GX (by simp)) (B7 rfl ?_));simp only[gL];refine F6 (n:=x.id) (off:=1) (c:=#[.slice x.v.a x.v.len x.v.cap,.i x.next,.i x.wear,.b x.bad]) (T:=Mu) (fz:=(0,0)) (fO m d bv tv::(bseg++G8 pre)) (xs++(E3 D++(g.seg++(g0.seg++(E3 E++(G8 post++(tseg++(L8 ts++R)))))))) rfl (by simp[PB.obj]) (by simp) (.inl (NF _))
  #[.slice x.v.a x.v.len x.v.cap,.i ((q+1:Nat):Int),.i x.wear,.b x.bad] rfl ?_
 have lD:((x.id,Obj.cells #[.slice x.v.a x.v.len x.v.cap,.i ((q+1:Nat):Int),.i x.wear,.b x.bad] Mu):Nat×Obj)=({x with next:=q+1}:PB).obj:=rfl;rw[lD];refine B7 rfl (B7 rfl (B5 d.bytes (Ck4 (m:=m) (bv:=bv) (tv:=tv) (by simp)) (B5 (d.c.S:Int) (Ny (m:=m) (bv:=bv) (tv:=tv) (by simp)) (B7 rfl ?_))));refine F6 (n:=m) (off:=8) (c:=#[.i d.after,.i d.keep,.b d.down,.i d.c.B,.i d.c.P,.i d.c.S,.i d.c.W,.slice bv.a bv.len bv.cap,.i d.bytes,.slice tv.a tv.len tv.cap]) (T:=Gj) (fz:=(0,0)) [] (bseg++(G8 pre++(({x with next:=q+1}:PB).obj::(xs++(E3 D++(g.seg++(g0.seg++(E3 E++(G8 post++(tseg++(L8 ts++R))))))))))) rfl (by simp[fO]) (by simp) (.inl (NF _))
  #[.i d.after,.i d.keep,.b d.down,.i d.c.B,.i d.c.P,.i d.c.S,.i d.c.W,.slice bv.a bv.len bv.cap,.i (IntKind.i64.wrap (d.bytes+d.c.S)),.slice tv.a tv.len tv.cap] rfl (B7 rfl ?_)
 rw[NT];refine K3 [] (bseg++(G8 pre++(({x with next:=q+1}:PB).obj::(xs++(E3 D++(g.seg++(g0.seg++(E3 E++(G8 post++(tseg++(L8 ts++R))))))))))) (JC m (Y0 d) bv tv ok.after) rfl ?_;rintro _ _-⟨rfl,rfl⟩;refine⟨((N1 (Y0 d)).1,()),rfl,?_⟩;unfold Gn;obtain⟨cY,cZ,eA,lR,oC⟩:=Ph (Y0 d);generalize fP:N1 (Y0 d)=tt at cY cZ eA lR oC⊢;obtain⟨t,d2⟩:=tt;simp only at cY cZ eA lR oC⊢;have eR:g.v.len=d.c.S:=by have:=hg.sl.len;rw[Y1,dS,blk,PE]at this;omega
 obtain⟨ga,pQ⟩:=G0.some (L:=g.seg) hg.sl (i:=0) (by rw[dS,blk,PE];omega);unfold PG.Ok at hg;rw[dS]at hg;have cL: ∀X:B1,G0 (X++R) u data:=fun X=>hu.right;have oQ: ∀(l:List UInt8) (segg:B1),C5 g.v 1 eB (F9 l) segg->({x with seg:=xs,ps:=D++⟨g.v,segg,l⟩::E,next:=q+1}:PB).Ok:=by
  intro l segg ho;refine⟨?_,fun y hy=>?_⟩
  ·show C5 x.v 1 tB ((D++⟨g.v,segg,l⟩::E).map PG.val) xs;rw[NQ,NS];exact xown
  ·have cV:y∈D\/y=⟨g.v,segg,l⟩\/y∈E:=by simpa using hy
   rcases cV with h1|rfl|h1
   ·exact aC.ps y (by rw[eI];simp[h1])
   ·exact ho
   ·exact aC.ps y (by rw[eI];simp[h1])
 have dR: ∀(l:List UInt8) (segg:B1),({x with seg:=xs,ps:=D++⟨g.v,segg,l⟩::E,next:=q+1}:PB).blk=x.blk.put q l:=by
  intro l segg;unfold PB.blk G6.put;simp only;rw[eI];congr 1;rw[NQ,NQ,VW,ND (by simp[wM]),NL,wM,SQ,NS,NS,VX]
 have iB: ∀y:PB,y.Ok-> ∀z∈pre++y::post,z.Ok:=by
  intro y hy z hz;have xM:z∈pre\/z=y\/z∈post:=by simpa using hz
  rcases xM with h1|rfl|h1
  ·exact h.okb z (by simp[h1])
  ·exact hy
  ·exact h.okb z (by simp[h1])
 have mQ: ∀y:PB,y.id=x.id->C5 bv 1 Qy ((pre++y::post).map Es) bseg:=by
  intro y hy;have:(pre++y::post).map Es=(pre++x::post).map Es:=by simp[Es,hy]
  rw[this];exact h.ob
 cases t with
 |false=>
  refine E9 rfl ?_;rw[ND (by decide)];refine Yy (T:=eB) (sz:=1) (l:=0) (v:=g.v) (a:=ga) Vr (by kernel_rfl) (fO m d2 bv tv::(bseg++(G8 pre++(({x with next:=q+1}:PB).obj::(xs++E3 D))))) (g0.seg++(E3 E++(G8 post++(tseg++(L8 ts++R))))) hg (by simp) pQ (d:=g.v) (by rw[pQ];rfl) (by omega) (u:=u) (ws:=F9 data) ?_ (Ac _) fun segg owng=>?_
  ·have:=cL (fO m d2 bv tv::(bseg++(G8 pre++(({x with next:=q+1}:PB).obj::(xs++(E3 D++(g.seg++(g0.seg++(E3 E++(G8 post++(tseg++L8 ts)))))))))));simpa using this
  have sT:Bm (F9 (blk d.c.S)) (0*1) ((F9 data).take (min u.len g.v.len*1))=F9 data:=by
   rw[At0,Zb,PZ (l:=data) (by omega),RL,VR,NT,TW (by rw[blk,PE];omega),NP]
  rw[sT]at owng;refine .drop (A:=fL m {d2 with bs:=d.bs.set pre.length (x.blk.put q data)} bv bseg (pre++({x with seg:=xs,ps:=D++⟨g.v,segg,data⟩::E,next:=q+1}:PB)::post) tv tseg ts++R) (J:=g0.seg)
   ⟨_,rfl,rfl,bv,bseg,_,tv,tseg,ts,rfl,mQ _ rfl,iB _ (oQ _ _ owng),?_,h.ot,h.okt,?_⟩ ?_
  ·rw[cM,dR]
  ·simp only;rw[oC];exact h.ht
  ·unfold fL;rw[Ky,Kw];unfold PB.objs;simp only;rw[Kk,Tc];have dU:({x with seg:=xs,ps:=D++⟨g.v,segg,data⟩::E,next:=q+1}:PB).obj=({x with next:=q+1}:PB).obj:=rfl;have eO:fO m {d2 with bs:=d.bs.set pre.length (x.blk.put q data)} bv tv=fO m d2 bv tv:=rfl;rw[dU,eO];generalize ({x with next:=q+1}:PB).obj=ox;generalize fO m d2 bv tv=of
   classical
   rw[ON];intro z;simp only[PM,OM,OP,OV,PJ];omega
 |true=>
  refine D8 rfl (B7 rfl (B7 rfl ?_));rw[NE rfl];have hcS:d2.c.S=d.c.S:=by rw[cY];rfl
  have pK:d2.keep=d.keep:=eA;have ht2':d2.torn=d.torn:=oC;refine B5 (d2.c.S:Int) (Ny (m:=m) (bv:=bv) (tv:=tv) (by simp)) ?_;rw[hcS];refine C4 (Ag9 _ m d2 bv tv (by simp) d.c.S) ((R8 d2.keep d.c.S:Int),()) rfl ?_;rw[show R8 d2.keep d.c.S=R8 d.keep d.c.S by rw[pK]];have oM:R8 d.keep d.c.S<=d.c.S:=by unfold R8;omega
  have aY:=hu.cap;refine Q2 (l':=0) (h':=R8 d.keep d.c.S) (m':=u.cap) rfl rfl rfl (by omega) (by omega) (NF _) ?_;have nQ: ∀X:B1,Sl (X++R) (G7 u (0:Nat) (R8 d.keep d.c.S:Nat) (u.cap:Nat) 1) 1 (F9 (data.take (R8 d.keep d.c.S))):=by
   intro X;have:=(cL X).slc (l:=0) (h':=R8 d.keep d.c.S) (m:=u.cap) (by decide) (by omega) (by omega) (by omega);rw[Jv,RY,QK]at this;exact this
  generalize G7 u (0:Nat) (R8 d.keep d.c.S:Nat) (u.cap:Nat) 1=us at nQ⊢;have iW:=(nQ []).len;rw[Y1,NW]at iW;refine Yy (T:=eB) (sz:=1) (l:=0) (v:=g.v) (a:=ga) Vr (by kernel_rfl) (fO m d2 bv tv::(bseg++(G8 pre++(({x with next:=q+1}:PB).obj::(xs++E3 D))))) (g0.seg++(E3 E++(G8 post++(tseg++(L8 ts++R))))) hg (by simp) pQ (d:=g.v) (by rw[pQ];rfl) (by omega) (u:=us) (ws:=F9 (data.take (R8 d.keep d.c.S))) ?_ (Ac _) fun segg owng=>?_
  ·have:=nQ (fO m d2 bv tv::(bseg++(G8 pre++(({x with next:=q+1}:PB).obj::(xs++(E3 D++(g.seg++(g0.seg++(E3 E++(G8 post++(tseg++L8 ts)))))))))));simpa using this
  have sT:Bm (F9 (blk d.c.S)) (0*1) ((F9 (data.take (R8 d.keep d.c.S))).take (min us.len g.v.len*1))=F9 (Av d data):=by
   rw[At0,Zb,PZ (l:=data.take (R8 d.keep d.c.S)) (by rw[NW];omega),RL,VR,NT,NW];unfold Av blk;rw[YN,QO,QF (by omega)]
  rw[sT]at owng;have himl:(Av d data).length=d.c.S:=by
   unfold Av blk;rw[NR,NW,PE];omega
  refine B7 rfl (B5 tv (FV (m:=m) (d:=d2) (bv:=bv) (by simp)) (C9 fun n1 _=>?_));have tF:G0 (fO m d2 bv tv::(bseg++(G8 pre++(({x with next:=q+1}:PB).obj::(xs++E3 D))))++segg++(g0.seg++(E3 E++(G8 post++(tseg++(L8 ts++R)))))) u data:=by
   have:=cL (fO m d2 bv tv::(bseg++(G8 pre++(({x with next:=q+1}:PB).obj::(xs++(E3 D++(segg++(g0.seg++(E3 E++(G8 post++(tseg++L8 ts)))))))))));simpa using this
  have vE:G0 (fO m d2 bv tv::(bseg++(G8 pre++(({x with next:=q+1}:PB).obj::(xs++E3 D))))++segg++(g0.seg++(E3 E++(G8 post++(tseg++(L8 ts++R)))))) g.v (Av d data):=owng.sl.right.left;have qI:C0 ⟨m,9,none⟩ [.slice tv.a tv.len tv.cap] (fO m d2 bv tv::(bseg++(G8 pre++(({x with next:=q+1}:PB).obj::(xs++E3 D))))++segg++(g0.seg++(E3 E++(G8 post++(tseg++(L8 ts++R)))))):=FV (m:=m) (d:=d2) (bv:=bv) (by simp);generalize hLL:fO m d2 bv tv::(bseg++(G8 pre++(({x with next:=q+1}:PB).obj::(xs++E3 D))))++segg++(g0.seg++(E3 E++(G8 post++(tseg++(L8 ts++R)))))=LL at tF vE qI⊢;refine Q1 Be Dp [] LL Km rfl (.sl tF.cons) (Ac _) (by simp only;omega) fun v5 seg5 hv5 own5=>?_;rw[NT]at own5⊢;refine P2 (qI.mono fun z hz=>OG _ hz) (C9 fun n2 _=>?_);refine Q1 Be Dp [] (seg5++LL) Km rfl (.sl vE.right.cons) (Ac _) (by simp only;omega) fun v6 seg6 hv6 own6=>?_;rw[NT]at own6⊢;refine P2 (qI.mono fun z hz=>OG _ (OG _ hz)) (C9 fun n3 _=>?_);subst hLL;have oZ:ts.length=d.torn.length:=by rw[<-h.ht,NL]
  have htvl:=h.ot.sl.els_len PT.enc_len (by decide);refine Q1 Ap5 JV ((n3,Obj.cells #[.i pre.length,.i q,.slice v5.a v5.len v5.cap,.slice v6.a v6.len v6.cap] eT)::(seg6++(seg5++(fO m d2 bv tv::(bseg++(G8 pre++(({x with next:=q+1}:PB).obj::(xs++(E3 D++(segg++(g0.seg++(E3 E++G8 post)))))))))))) (L8 ts++R) h.ot (by simp)
   (n:=1) (ws:=PT.enc ⟨pre.length,q,⟨v5,seg5,data⟩,⟨v6,seg6,Av d data⟩⟩) (x:=.slice (some n3.z) 1 1) (Src.sl (v:=⟨some n3.z,1,1⟩) ⟨rfl,NF _,.inr ⟨_,rfl,C2 NG rfl⟩⟩) rfl (by omega) fun v8 seg8 wU own8=>?_
  refine B7 rfl ?_;refine F6 (n:=m) (off:=9) (c:=#[.i d2.after,.i d2.keep,.b d2.down,.i d2.c.B,.i d2.c.P,.i d2.c.S,.i d2.c.W,.slice bv.a bv.len bv.cap,.i d2.bytes,.slice tv.a tv.len tv.cap]) (T:=Gj) (fz:=(0,0)) ((n3,Obj.cells #[.i pre.length,.i q,.slice v5.a v5.len v5.cap,.slice v6.a v6.len v6.cap] eT)::(seg6++seg5)) (bseg++(G8 pre++(({x with next:=q+1}:PB).obj::(xs++(E3 D++(segg++(g0.seg++(E3 E++(G8 post++(seg8++(L8 ts++R))))))))))) rfl (by simp[fO]) (by simp) (.inl (NF _))
   #[.i d2.after,.i d2.keep,.b d2.down,.i d2.c.B,.i d2.c.P,.i d2.c.S,.i d2.c.W,.slice bv.a bv.len bv.cap,.i d2.bytes,.slice v8.a v8.len v8.cap] rfl ?_
  refine .drop (A:=fL m {d2 with bs:=d.bs.set pre.length (x.blk.put q (Av d data)),torn:=d.torn++[⟨pre.length,q,data,Av d data⟩]} bv bseg (pre++({x with seg:=xs,ps:=D++⟨g.v,segg,Av d data⟩::E,next:=q+1}:PB)::post) v8 seg8 (ts++[⟨pre.length,q,⟨v5,seg5,data⟩,⟨v6,seg6,Av d data⟩⟩])++R) (J:=(n3,Obj.cells #[.i pre.length,.i q,.slice v5.a v5.len v5.cap,.slice v6.a v6.len v6.cap] eT)::g0.seg)
   ⟨_,rfl,rfl,bv,bseg,_,v8,seg8,_,rfl,mQ _ rfl,iB _ (oQ _ _ owng),?_,?_,?_,?_⟩ ?_
  ·rw[cM,dR]
  ·rw[OD,PU];exact own8
  ·intro z hz;rcases NJ.1 hz with h1|h1
   ·exact h.okt z h1
   ·rw[NM.1 h1];exact⟨own5,own6⟩
  ·rw[NQ,h.ht];rfl
  ·unfold fL;rw[Ky,Kw,IU,IT];unfold PB.objs;simp only;rw[Kk,Tc];have dU:({x with seg:=xs,ps:=D++⟨g.v,segg,Av d data⟩::E,next:=q+1}:PB).obj=({x with next:=q+1}:PB).obj:=rfl;have eO:fO m {d2 with bs:=d.bs.set pre.length (x.blk.put q (Av d data)),torn:=d.torn++[⟨pre.length,q,data,Av d data⟩]} bv v8=(m,Obj.cells #[.i d2.after,.i d2.keep,.b d2.down,.i d2.c.B,.i d2.c.P,.i d2.c.S,.i d2.c.W,.slice bv.a bv.len bv.cap,.i d2.bytes,.slice v8.a v8.len v8.cap] Gj):=rfl;rw[dU,eO];generalize ({x with next:=q+1}:PB).obj=ox;generalize (m,Obj.cells #[.i d2.after,.i d2.keep,.b d2.down,.i d2.c.B,.i d2.c.P,.i d2.c.S,.i d2.c.W,.slice bv.a bv.len bv.cap,.i d2.bytes,.slice v8.a v8.len v8.cap] Gj)=of;generalize (n3,Obj.cells #[.i pre.length,.i q,.slice v5.a v5.len v5.cap,.slice v6.a v6.len v6.cap] eT)=o3
   classical
   rw[ON];intro z;simp only[PM,OM,OP,OV,PJ];omega
def G6.torn(k:G6)(c:Bh)(n:Nat):G6:={k with pages:=List.replicate n (blk c.S)++k.pages.drop n,next:=c.P}
def G6.fresh(k:G6)(c:Bh):G6:=⟨List.replicate c.P (blk c.S),0,k.wear+1,decide (k.wear+1=c.W)⟩
def Ku(d:B8)(i:Nat)(k:G6):Int×B8:=
 if(N1 d).1 then(11,{(N1 d).2 with bs:=d.bs.set i (k.torn d.c (R8 d.keep d.c.P))})
 else(if k.wear+1=d.c.W then 10 else 0,{(N1 d).2 with bs:=d.bs.set i (k.fresh d.c)})
def M3(d:B8)(b:Int):Int×B8:=
 if H6 d b 0≠0 then(H6 d b 0,d)else
 match d.bs[b.toNat]? with
 |none=>(2,d)
 |some k=>if k.bad then(10,d)else Ku d b.toNat k
def Cl1(m:Nat)(d:B8)(A:B1)(h:FH m d A)(ok:G3 d)(b:Int):
  CallF PP 209 #[.p m,.i b] A fun r L'=>r= .i (M3 d b).1/\FH m (M3 d b).2 L':=by
 have hA:=h;obtain⟨bv,bseg,bs,tv,tseg,ts,rfl,h⟩:=h;refine(e209 (some m.z) b).c ?_;have bN:=h.few ok;have hP:=ok.c.p;have hS:=ok.c.s;have hW:=ok.c.w;refine C4 (FQ _ m d bv tv Gw bs h.sl (by omega) h.hb (by omega) b 0) (if H6 d b 0=0 then Ec bs b else none,H6 d b 0,()) rfl ?_;refine Bb (fun(he:H6 d b 0≠0)=>?_) (fun(he:H6 d b 0=0)=>?_)
 ·have hr:M3 d b=(H6 d b 0,d):=by unfold M3;rw[NE he]
  rw[hr];exact .of ⟨rfl,hA⟩
 obtain⟨aG,iV,dM,bJ,aH⟩:=Js he;obtain⟨i,rfl⟩: ∃i:Nat,b=i:=⟨b.toNat,by omega⟩;have dI:d.bs.length=bs.length:=by rw[<-h.hb,NL]
 have hi:i<bs.length:=by omega
 obtain⟨pre,x,post,rfl,rfl⟩: ∃pre x post,bs=pre++x::post/\pre.length=i:=⟨bs.take i,bs[i],bs.drop (i+1),by rw[<-OZ hi,PR],by rw[NW];omega⟩;have hk:d.bs[pre.length]?=some x.blk:=by rw[<-h.hb,OU];simp
 have cM: ∀y:PB,(pre++y::post).map PB.blk=d.bs.set pre.length y.blk:=fun y=>by rw[<-h.hb];simp
 have mR:x.blk∈d.bs:=QI hk;have pC:M3 d (pre.length:Int)=if x.bad then(10,d)else Ku d pre.length x.blk:=by
  unfold M3;rw[ND (by simpa using he),NK,hk];rfl
 have rZ:x.obj∈fL m d bv bseg (pre++x::post) tv tseg ts:=(NN _ (OG _ (OA _ (by rw[Ky,Kw];exact OG _ (OA _ NG)))));rw[NE he,MS];refine B7 rfl (B5 x.bad (Zi rZ) ?_);refine M0 (fun(bL:x.bad=true)=>?_) (fun(bL:x.bad=false)=>?_)
 ·rw[pC,NE bL];exact .of ⟨rfl,hA⟩
 rw[pC,ND (by rw[bL];decide)];clear pC hA rZ;have aC:=h.okb x (by simp);have aQ:=(ok.pg _ mR).1;have iA:x.ps.length=d.c.P:=by rw[<-aQ];simp[PB.blk]
 have hxw:x.wear<=d.c.W:=(ok.nx _ mR).2.1;have hL:fL m d bv bseg (pre++x::post) tv tseg ts=fO m d bv tv::(bseg++(G8 pre++(x.objs++(G8 post++(tseg++L8 ts))))):=by
  unfold fL;rw[Ky,Kw];simp
 rw[hL];clear hL;have iB: ∀y:PB,y.Ok-> ∀z∈pre++y::post,z.Ok:=by
  intro y hy z hz;have xM:z∈pre\/z=y\/z∈post:=by simpa using hz
  rcases xM with h1|rfl|h1
  ·exact h.okb z (by simp[h1])
  ·exact hy
  ·exact h.okb z (by simp[h1])
 have mQ: ∀y:PB,y.id=x.id->C5 bv 1 Qy ((pre++y::post).map Es) bseg:=by
  intro y hy;have:(pre++y::post).map Es=(pre++x::post).map Es:=by simp[Es,hy]
  rw[this];exact h.ob
 refine B7 rfl ?_;refine K3 [] (bseg++(G8 pre++(x.objs++(G8 post++(tseg++L8 ts))))) (JC m d bv tv ok.after) rfl ?_;rintro _ _-⟨rfl,rfl⟩;refine⟨((N1 d).1,()),rfl,?_⟩;unfold Ku;obtain⟨cY,cZ,eA,lR,oC⟩:=Ph d;generalize fP:N1 d=tt at cY cZ eA lR oC⊢;obtain⟨t,d2⟩:=tt;simp only at cY cZ eA lR oC⊢;rw[NT];have hLs:[fO m d2 bv tv]++(bseg++(G8 pre++(x.objs++(G8 post++(tseg++L8 ts)))))=(fO m d2 bv tv::(bseg++G8 pre))++x.objs++(G8 post++(tseg++L8 ts)):=by simp
 rw[hLs];cases t with
 |true=>
  refine E9 rfl (B7 rfl (B7 rfl (B7 rfl ?_)));refine B5 (d.c.P:Int) (by have:=Yj (m:=m) (d:=d2) (bv:=bv) (tv:=tv) (L:=(fO m d2 bv tv::(bseg++G8 pre))++x.objs++(G8 post++(tseg++L8 ts))) (by simp);rw[cY]at this;exact this) ?_;have kN:C0 ⟨m,5,none⟩ [.i d.c.S] ((fO m d2 bv tv::(bseg++G8 pre))++x.objs++(G8 post++(tseg++L8 ts))):=by have:=Ny (m:=m) (d:=d2) (bv:=bv) (tv:=tv) (L:=(fO m d2 bv tv::(bseg++G8 pre))++x.objs++(G8 post++(tseg++L8 ts))) (by simp);rw[cY]at this;exact this
  refine B5 (d.c.S:Int) kN ?_;refine C4 (Ag9 _ m d2 bv tv (by simp) d.c.P) ((R8 d2.keep d.c.P:Int),()) rfl (P2 kN ?_);rw[show R8 d2.keep d.c.P=R8 d.keep d.c.P by rw[eA]];have oM:R8 d.keep d.c.P<=d.c.P:=by unfold R8;omega
  refine K3 (fO m d2 bv tv::(bseg++G8 pre)) (G8 post++(tseg++L8 ts)) (Zz x aC (R8 d.keep d.c.P) d.c.S (by omega) (by omega) (by omega)) rfl ?_;rintro _ _-⟨rfl,seg',ps',rfl,fM,mF⟩;refine⟨(),rfl,B7 rfl (B5 (d.c.P:Int) (by have:=Yj (m:=m) (d:=d2) (bv:=bv) (tv:=tv) (L:=(fO m d2 bv tv::(bseg++G8 pre))++({x with seg:=seg',ps:=ps'}:PB).objs++(G8 post++(tseg++L8 ts))) (by simp);rw[cY]at this;exact this) (B7 rfl ?_))⟩;refine F6 (n:=x.id) (off:=1) (c:=#[.slice x.v.a x.v.len x.v.cap,.i x.next,.i x.wear,.b x.bad]) (T:=Mu) (fz:=(0,0)) (fO m d2 bv tv::(bseg++G8 pre)) (seg'++(E3 ps'++(G8 post++(tseg++L8 ts)))) rfl (by simp[PB.obj,PB.objs]) (by simp) (.inl (NF _))
   #[.slice x.v.a x.v.len x.v.cap,.i d.c.P,.i x.wear,.b x.bad] rfl ?_
  refine .of ⟨rfl,bv,bseg,pre++({x with seg:=seg',ps:=ps',next:=d.c.P}:PB)::post,tv,tseg,ts,?_,mQ _ rfl,iB _ ⟨fM.own,fM.ps⟩,?_,h.ot,h.okt,?_⟩
  ·unfold fL;rw[Ky,Kw];unfold PB.objs PB.obj;simp[fO]
  ·rw[cM];congr 1;unfold PB.blk G6.torn;simp only;rw[mF]
  ·rw[NE rfl];show _=d2.torn;rw[oC];exact h.ht
 |false=>
  refine D8 rfl (B7 rfl (B7 rfl ?_));refine B5 (d.c.P:Int) (by have:=Yj (m:=m) (d:=d2) (bv:=bv) (tv:=tv) (L:=(fO m d2 bv tv::(bseg++G8 pre))++x.objs++(G8 post++(tseg++L8 ts))) (by simp);rw[cY]at this;exact this) ?_;have kN:C0 ⟨m,5,none⟩ [.i d.c.S] ((fO m d2 bv tv::(bseg++G8 pre))++x.objs++(G8 post++(tseg++L8 ts))):=by have:=Ny (m:=m) (d:=d2) (bv:=bv) (tv:=tv) (L:=(fO m d2 bv tv::(bseg++G8 pre))++x.objs++(G8 post++(tseg++L8 ts))) (by simp);rw[cY]at this;exact this
  refine B5 (d.c.S:Int) kN ?_;refine K3 (fO m d2 bv tv::(bseg++G8 pre)) (G8 post++(tseg++L8 ts)) (Zz x aC d.c.P d.c.S (by omega) (by omega) (by omega)) rfl ?_;rintro _ _-⟨rfl,seg',ps',rfl,fM,mF⟩;refine⟨(),rfl,B7 rfl (B5 (d.c.W:Int) (by have:=f_W (m:=m) (d:=d2) (bv:=bv) (tv:=tv) (L:=(fO m d2 bv tv::(bseg++G8 pre))++({x with seg:=seg',ps:=ps'}:PB).objs++(G8 post++(tseg++L8 ts))) (by simp);rw[cY]at this;exact this) ?_)⟩;refine K3 (fO m d2 bv tv::(bseg++G8 pre)) (seg'++(E3 ps'++(G8 post++(tseg++L8 ts)))) (Ay8 ({x with seg:=seg',ps:=ps'}:PB) d.c.W (by show x.wear<=1048576;omega)) (by simp[PB.objs]) ?_;rintro _ _-⟨rfl,rfl⟩;have lT:decide ((((({x with seg:=seg',ps:=ps'}:PB).wear+1:Nat)):Int)=(d.c.W:Int))=decide (x.wear+1=d.c.W):=by
   show decide (((x.wear+1:Nat):Int)=(d.c.W:Int))=_;by_cases gS:x.wear+1=d.c.W
   ·rw[OH gS,OH (by omega)]
   ·rw[OF gS,OF (by omega)]
  rw[lT];refine⟨(decide (x.wear+1=d.c.W),()),rfl,?_⟩;rw[ND (by decide)];have vM:FH m {d2 with bs:=d.bs.set pre.length (x.blk.fresh d.c)} ((fO m d2 bv tv::(bseg++G8 pre))++[({x with seg:=seg',ps:=ps',next:=0,wear:=x.wear+1,bad:=decide (x.wear+1=d.c.W)}:PB).obj]++(seg'++(E3 ps'++(G8 post++(tseg++L8 ts))))):=by
   refine⟨bv,bseg,pre++({x with seg:=seg',ps:=ps',next:=0,wear:=x.wear+1,bad:=decide (x.wear+1=d.c.W)}:PB)::post,tv,tseg,ts,?_,mQ _ rfl,iB _ ⟨fM.own,fM.ps⟩,?_,h.ot,h.okt,?_⟩
   ·unfold fL;rw[Ky,Kw];unfold PB.objs PB.obj;simp[fO]
   ·rw[cM];congr 1;unfold PB.blk G6.fresh;simp only;rw[mF,TW (by rw[NL];omega),NP]
   ·show _=d2.torn;rw[oC];exact h.ht
  refine D3 (fun(gS:x.wear+1=d.c.W)=>.of ⟨?_,vM⟩) (fun(gS: ¬x.wear+1=d.c.W)=>.of ⟨?_,vM⟩)
  ·show Value.i 10= .i (if x.wear+1=d.c.W then 10 else 0);rw[NE gS]
  ·show Value.i 0= .i (if x.wear+1=d.c.W then 10 else 0);rw[ND gS]
def right(c:Int×Int×Int×Int×Unit):Prop:=2<=c.1/\c.1<=16/\4<=c.2.1/\c.2.1<=16/\64<=c.2.2.1/\c.2.2.1<=512/\1<=c.2.2.2.1/\c.2.2.2.1<=1048576
def cfg(c:Int×Int×Int×Int×Unit):Bh:=⟨c.1.toNat,c.2.1.toNat,c.2.2.1.toNat,c.2.2.2.1.toNat⟩
def Vc(c:Bh):G6:=⟨List.replicate c.P (blk c.S),0,0,false⟩
def fresh(c:Bh):B8:=⟨c,0,0,false,List.replicate c.B (Vc c),0,[]⟩
def As4{c:Int×Int×Int×Int×Unit}(h:right c):Zs (cfg c):=by
 unfold right at h;refine⟨?_,?_,?_,?_⟩<;>simp only[cfg]<;>omega
def Cg8(h:Zs c):G3 (fresh c):=by
 refine⟨h,by simp[fresh],?_,?_,by simp[fresh],by simp[fresh]⟩
 ·intro k hk;rw[PW hk];refine⟨by simp[Vc,fresh],fun l hl=>?_⟩;rw[PW hl];simp[blk,fresh]
 ·intro k hk;rw[PW hk];have:=h.w;refine⟨PQ _,PQ _,?_⟩;show false=decide (0=c.W);rw[OF (by omega)]
def Ax7(n:Nat):Cp [.slice none 0 0] n=(List.replicate n Lp).map PG.val:=by
 unfold Cp;rw[List.map_replicate];induction n with
 |zero=>rfl
 |succ n ih=>rw[RM,RM,UP,ih];rfl
def Br8(n:Nat):E3 (List.replicate n Lp)=[]:=by
 induction n with
 |zero=>rfl
 |succ n ih=>rw[RM,Tc,ih];rfl
def Bu7(c:Int×Int×Int×Int×Unit):
  CallF PP 34 #[.agg (ki4 c)] [] fun r L'=>(¬right c/\r= .t #[.q none,.i 30]/\L'=[])\/(right c/\ ∃m,r= .t #[.p m,.i 0]/\FH m (fresh (cfg c)) L'):=by
 refine(e34 c).c ?_;refine C9 fun n1 _=>?_;generalize ho:(n1,Obj.cells (ki4 c) 23)=o1;have lc: ∀L:B1,o1∈L->C0 n1.z [.i c.1,.i c.2.1,.i c.2.2.1,.i c.2.2.2.1] L:=fun L hm=>C2 (by rw[<-ho]at hm;exact hm) rfl;clear ho;have lB: ∀L:B1,o1∈L->C0 n1.z [.i c.1] L:=fun L hm=>(lc L hm).pre fun i u hu=>by cases i with|zero=>exact hu|succ i=>exact absurd (show(none:Option Value)=some u from hu) (by simp)
 refine B5 c.1 (lB _ NG) ?_;refine C4 (Pb _ c.1 2 16) (decide (2<=c.1/\c.1<=16),()) rfl ?_;refine D3 (fun(h1:2<=c.1/\c.1<=16)=>?_) (fun(h1: ¬(2<=c.1/\c.1<=16))=>.cons (.of (.inl ⟨by unfold right;omega,rfl,rfl⟩)));refine B5 c.2.1 ((lc _ NG).one 1 rfl) ?_;refine C4 (Pb _ c.2.1 4 16) (decide (4<=c.2.1/\c.2.1<=16),()) rfl ?_;by_cases h2:4<=c.2.1/\c.2.1<=16
 case neg=>rw[OF h2];exact E9 rfl (.cons (.of (.inl ⟨by unfold right;omega,rfl,rfl⟩)))
 rw[OH h2];refine D8 rfl (B5 c.2.2.1 ((lc _ NG).one 2 rfl) ?_);refine C4 (Pb _ c.2.2.1 64 512) (decide (64<=c.2.2.1/\c.2.2.1<=512),()) rfl ?_;by_cases h3:64<=c.2.2.1/\c.2.2.1<=512
 case neg=>rw[OF h3];exact E9 rfl (.cons (.of (.inl ⟨by unfold right;omega,rfl,rfl⟩)))
 rw[OH h3];refine D8 rfl (B5 c.2.2.2.1 ((lc _ NG).one 3 rfl) ?_);refine C4 (Pb _ c.2.2.2.1 1 1048576) (decide (1<=c.2.2.2.1/\c.2.2.2.1<=1048576),()) rfl ?_;by_cases h4:1<=c.2.2.2.1/\c.2.2.2.1<=1048576
 case neg=>rw[OF h4];exact E9 rfl (.cons (.of (.inl ⟨by unfold right;omega,rfl,rfl⟩)))
 rw[OH h4];refine D8 rfl ?_;have hr:right c:=by unfold right;omega
 have xH:=As4 hr;obtain⟨cB,cP,cS,cW,u⟩:=c;obtain⟨B,rfl⟩: ∃B:Nat,cB=B:=⟨cB.toNat,by simp only at h1;omega⟩;obtain⟨Pn,rfl⟩: ∃B:Nat,cP=B:=⟨cP.toNat,by simp only at h2;omega⟩;obtain⟨S,rfl⟩: ∃B:Nat,cS=B:=⟨cS.toNat,by simp only at h3;omega⟩;obtain⟨W,rfl⟩: ∃B:Nat,cW=B:=⟨cW.toNat,by simp only at h4;omega⟩;simp only at h1 h2 h3 h4;have hcf:cfg ((B:Int),(Pn:Int),(S:Int),(W:Int),u)=⟨B,Pn,S,W⟩:=by simp[cfg]
 rw[hcf]at xH⊢;refine B5 ((B:Int),(Pn:Int),(S:Int),(W:Int),()) (lc _ NG) (C9 fun m _=>?_);have qY:((m,Obj.cells #[.i 0,.i 0,.b false,.i B,.i Pn,.i S,.i W,.slice none 0 0,.i 0,.slice none 0 0] Gj):Nat×Obj)=fO m {fresh ⟨B,Pn,S,W⟩with bs:=[]} ⟨none,0,0⟩ ⟨none,0,0⟩:=rfl;refine B5 (B:Int) (lB _ (by simp)) ?_;refine G1 (fun z' z L'=> ∃(i:Nat) (bv:B6) (bseg:B1) (bs:List PB) (J X Y:B1),i<=B/\z'=B-i/\z=((i:Int),())/\L'=X++fO m (fresh ⟨B,Pn,S,W⟩) bv ⟨none,0,0⟩::(bseg++Y)/\(X++Y).Perm (G8 bs++(o1::J))/\C5 bv 1 Qy (bs.map Es) bseg/\(∀b∈bs,b.Ok)/\bs.map PB.blk=List.replicate i (Vc ⟨B,Pn,S,W⟩)) B
  ⟨0,⟨none,0,0⟩,[],[],[],[],[o1],by omega,by omega,rfl,rfl,NH _,O5,by simp,rfl⟩ ?_
 rintro z' z L ⟨i,bv,bseg,bs,J,X,Y,hi,rfl,rfl,rfl,hp,own,iB,nX⟩;have dU:o1∈X++fO m (fresh ⟨B,Pn,S,W⟩) bv ⟨none,0,0⟩::(bseg++Y):=by
  have h5:o1∈X++Y:=(hp.mem_iff (a:=o1)).2 (by simp);have h6:o1∈X\/o1∈Y:=by simpa using h5
  rcases h6 with h6|h6<;>simp[h6]
 have dI:bs.length=i:=by have:=congrArg List.length nX;rwa [NL,PE]at this
 refine D3 (fun(hO:(i:Int)<(B:Int))=>?_) (fun(aM: ¬(i:Int)<(B:Int))=>?_)
 ·refine B5 (Pn:Int) ((lc _ dU).one 1 rfl) ?_;refine Tp Uv (l:=Pn) (c:=Pn) (NF _) (by omega) fun q ob ownq _ _=>?_;rw[Ax7]at ownq;refine C9 fun n3 _=>?_;refine B5 (Pn:Int) ((lc _ (NN _ (NN _ dU))).one 1 rfl) (B5 (S:Int) ((lc _ (NN _ (NN _ dU))).one 2 rfl) ?_);have gB:({id:=n3,v:=⟨some q.z,Pn,Pn⟩,seg:=[(q,ob)],ps:=List.replicate Pn Lp,next:=0,wear:=0,bad:=false}:PB).Ok:=⟨ownq,fun g hg=>by rw[PW hg];exact Td⟩;refine K3 [] (X++fO m (fresh ⟨B,Pn,S,W⟩) bv ⟨none,0,0⟩::(bseg++Y)) (Zz _ gB Pn S (by simp) (by omega) (by omega)) (by simp[PB.objs,PB.obj,Br8]) ?_;rintro _ _-⟨rfl,seg',ps',rfl,fM,mF⟩;refine⟨(),rfl,?_⟩;rw[NT];generalize hx:({id:=n3,v:=⟨some q.z,Pn,Pn⟩,seg:=seg',ps:=ps',next:=0,wear:=0,bad:=false}:PB)=x at fM⊢;have hxi:x.id=n3:=by rw[<-hx]
  have sX:x.blk=Vc ⟨B,Pn,S,W⟩:=by
   rw[<-hx];unfold PB.blk Vc;simp only;rw[mF,TW (by simp),NP]
  refine B5 bv (FX (m:=m) (d:=fresh ⟨B,Pn,S,W⟩) (tv:=⟨none,0,0⟩) (by simp)) (C9 fun n4 _=>?_);have ac:=own.len;rw[NL]at ac;refine Q1 Cm0 Bd8 ((n4,Obj.cells #[.q (some n3.z)] 152)::(x.objs++(X++[fO m (fresh ⟨B,Pn,S,W⟩) bv ⟨none,0,0⟩]))) Y own (by simp)
   (n:=1) (ws:=[Es x]) (x:=.slice (some n4.z) 1 1) (Src.sl (v:=⟨some n4.z,1,1⟩) ⟨rfl,NF _,.inr ⟨_,rfl,C2 (n:=n4) (off:=0) (T:=152) (fz:=(0,0)) (c:=#[.p n3]) NG (by unfold Es;rw[hxi];rfl)⟩⟩) rfl (by omega) fun v8 seg8 wU own8=>?_
  refine F6 (n:=m) (off:=7) (c:=#[.i 0,.i 0,.b false,.i B,.i Pn,.i S,.i W,.slice bv.a bv.len bv.cap,.i 0,.slice none 0 0]) (T:=Gj) (fz:=(0,0)) ((n4,Obj.cells #[.q (some n3.z)] 152)::(x.objs++X)) (seg8++Y) rfl (by simp[fO,fresh]) (by simp) (.inl (NF _))
   #[.i 0,.i 0,.b false,.i B,.i Pn,.i S,.i W,.slice v8.a v8.len v8.cap,.i 0,.slice none 0 0] rfl ?_
  refine⟨B-(i+1),by omega,i+1,v8,seg8,bs++[x],(n4,Obj.cells #[.q (some n3.z)] 152)::J,(n4,Obj.cells #[.q (some n3.z)] 152)::(x.objs++X),Y,by omega,rfl,?_,rfl,?_,?_,?_,?_⟩
  ·rw[D7 (by first|omega|(simp only;omega)) (by first|omega|(simp only;omega))];rfl
  ·generalize (n4,Obj.cells #[.q (some n3.z)] 152)=o4;have pV:G8 (bs++[x])=G8 bs++x.objs:=by rw[Ky,Kw];simp[G8]
   rw[pV]
   classical
   rw[ON]at hp⊢;intro z;have:=hp z;simp only[PM,OM,OP,OV,PJ]at this⊢;omega
  ·rw[NQ];exact own8
  ·intro z hz;rcases NJ.1 hz with h5|h5
   ·exact iB z h5
   ·rw[NM.1 h5];exact fM
  ·rw[NQ,nX,VT,RC,sX]
 ·obtain rfl:i=B:=by omega
  refine .drop (A:=fL m (fresh ⟨i,Pn,S,W⟩) bv bseg bs ⟨none,0,0⟩ [] []) (J:=o1::J) (.inr ⟨hr,m,rfl,bv,bseg,bs,⟨none,0,0⟩,[],[],rfl,own,iB,nX,O5,by simp,rfl⟩) ?_;unfold fL;have:L8 []=[]:=rfl;rw[this]
  classical
  rw[ON]at hp⊢;intro z;have:=hp z;simp only[PM,OM,OP,OV,PJ]at this⊢;omega
structure Ow(c:Bh)(k:G6):Prop where
 pg:k.pages.length=c.P/\ ∀l∈k.pages,l.length=c.S
 nx:k.next<=c.P/\k.wear<=c.W/\k.bad=decide (k.wear=c.W)
def G3.bk(h:G3 d)(hk:k∈d.bs):Ow d.c k:=⟨h.pg k hk,h.nx k hk⟩
def G3.set{e:B8}(h:G3 d)(hc:e.c=d.c)(i:Nat)(k:G6)(hk:Ow d.c k)(hb:e.bs=d.bs.set i k)(ha:(e.after:Int)<=9223372036854775807)(ht: ∀t∈e.torn,t.meant.length=d.c.S/\t.image.length=d.c.S):G3 e:=by
 have hm: ∀x∈e.bs,Ow d.c x:=by
  intro x hx;rw[hb]at hx;rcases VY hx with h1|rfl
  ·exact h.bk h1
  ·exact hk
 refine⟨hc▸h.c,?_,?_,?_,ha,?_⟩
 ·rw[hb,RQ,hc];exact h.len
 ·intro x hx;rw[hc];exact(hm x hx).pg
 ·intro x hx;rw[hc];exact(hm x hx).nx
 ·rw[hc];exact ht
def JE(d:B8):(N1 d).2.after<=d.after:=by
 unfold N1;split
 ·exact NF _
 ·exact Nat.sub_le _ _
def Vs(d:B8):(N1 (Y0 d)).2.c=d.c/\(N1 (Y0 d)).2.bs=d.bs/\(N1 (Y0 d)).2.torn=d.torn/\(N1 (Y0 d)).2.after<=d.after:=by
 obtain⟨h1,h2,h3,h4,h5⟩:=Ph (Y0 d);exact⟨h1,h2,h5,JE (Y0 d)⟩
def MP(hk:Ow c k){p:Nat}(hp:p<c.P){l:List UInt8}(hl:l.length=c.S):Ow c (k.put p l):=by
 refine⟨⟨?_,fun x hx=>?_⟩,?_,hk.nx.2⟩
 ·show(k.pages.set p l).length=c.P;rw[RQ];exact hk.pg.1
 ·rcases VY hx with h1|rfl
  ·exact hk.pg.2 x h1
  ·exact hl
 ·show p+1<=c.P;exact hp
def IW(h:data.length=d.c.S):(Av d data).length=d.c.S:=by
 unfold Av blk R8;rw[NR,NW,PE];omega
def Bp7(ok:G3 d){p:Nat}(hk:Ow d.c k)(hp:p<d.c.P)(hl:data.length=d.c.S):G3 (Gn d i p k data).2:=by
 obtain⟨h1,h2,h3,h4⟩:=Vs d;have ha:=ok.after;unfold Gn;split
 ·refine ok.set h1 i (k.put p (Av d data)) (MP hk hp (IW hl)) rfl (by show((N1 (Y0 d)).2.after:Int)<=_;omega) ?_;intro t ht;rcases NJ.1 ht with h|h
  ·exact ok.torn t h
  ·rw[NM.1 h];exact⟨hl,IW hl⟩
 ·refine ok.set h1 i (k.put p data) (MP hk hp hl) rfl (by show((N1 (Y0 d)).2.after:Int)<=_;omega) ?_;intro t ht;exact ok.torn t (by rw[<-h3];exact ht)
def MX(ok:G3 d)(b p:Int)(data:List UInt8):G3 (prog d b p data).2:=by
 unfold prog;split
 ·exact ok
 ·rename_i he;have lM:H6 d b p=0:=by simpa using he
  obtain⟨_,_,_,bJ,aH⟩:=Js lM;split
  ·exact ok
  ·rename_i hl;split
   ·exact ok
   ·rename_i k hk;split
    ·exact ok
    ·split
     ·exact ok
     ·exact Bp7 ok (ok.bk (QI hk)) (by omega) (by omega)
def Cl3(ok:G3 d)(hk:Ow d.c k)(hb:k.bad=false):G3 (Ku d i k).2:=by
 obtain⟨h1,h2,h3,h4,h5⟩:=Ph d;have h6:=JE d;have ha:=ok.after;have oM:R8 d.keep d.c.P<=d.c.P:=by unfold R8;omega
 unfold Ku;split
 ·refine ok.set h1 i (k.torn d.c (R8 d.keep d.c.P)) ⟨⟨?_,fun l hl=>?_⟩,NF _,hk.nx.2⟩ rfl (by show((N1 d).2.after:Int)<=_;omega) (by intro t ht;exact ok.torn t (by rw[<-h5];exact ht))
  ·show(List.replicate _ _++_).length=_;rw[NR,PE,OJ,hk.pg.1];omega
  ·rcases NJ.1 hl with h|h
   ·rw[PW h];simp[blk]
   ·exact hk.pg.2 l (SV h)
 ·have hw:k.wear+1<=d.c.W:=by
   have h7:=hk.nx.2;rw[hb]at h7;have:=UG h7.2.symm;omega
  refine ok.set h1 i (k.fresh d.c) ⟨⟨?_,fun l hl=>?_⟩,PQ _,hw,rfl⟩ rfl (by show((N1 d).2.after:Int)<=_;omega) (by intro t ht;exact ok.torn t (by rw[<-h5];exact ht))
  ·show(List.replicate _ _).length=_;rw[PE]
  ·rw[PW hl];simp[blk]
def Cl0(ok:G3 d)(b:Int):G3 (M3 d b).2:=by
 unfold M3;split
 ·exact ok
 ·split
  ·exact ok
  ·rename_i k hk;split
   ·exact ok
   ·rename_i hb;exact Cl3 ok (ok.bk (QI hk)) (by simpa using hb)
def Cs3(ok:G3 d){k:Int}(hn:n<=9223372036854775807):G3 (T3 d n k):=by
 unfold T3;split
 ·exact ok
 ·exact⟨ok.c,ok.len,ok.pg,ok.nx,by show((n.toNat:Nat):Int)<=_;omega,ok.torn⟩
def Wj(ok:G3 d):G3 (Fm d):=⟨ok.c,ok.len,ok.pg,ok.nx,by show((0:Nat):Int)<=_;omega,ok.torn⟩
def Bp6(d:B8)(i p:Nat)(k:G6)(data:List UInt8):(Gn d i p k data).2.torn.length<=d.torn.length+1:=by
 obtain⟨h1,h2,h3,h4⟩:=Vs d;unfold Gn;split
 ·show(d.torn++[_]).length<=_;rw[NR];exact NF _
 ·show(N1 (Y0 d)).2.torn.length<=_;rw[h3];omega
def Bp4(d:B8)(b p:Int)(data:List UInt8):(prog d b p data).2.torn.length<=d.torn.length+1:=by
 unfold prog;split
 ·exact UU _
 ·split
  ·exact UU _
  ·split
   ·exact UU _
   ·split
    ·exact UU _
    ·split
     ·exact UU _
     ·exact Bp6 _ _ _ _ _
def Ck9(d:B8)(b:Int):(M3 d b).2.torn=d.torn:=by
 obtain⟨h1,h2,h3,h4,h5⟩:=Ph d;unfold M3;split
 ·rfl
 ·split
  ·rfl
  ·split
   ·rfl
   ·unfold Ku;split
    ·exact h5
    ·exact h5
structure RK where
 v:B6
 seg:B1
 l:List (List UInt8)
section
variable {L:B1} {m:Nat} {d:B8} {pv nv wv bv tv:B6}
end
instance (c:Int×Int×Int×Int×Unit):Decidable (right c):=by unfold right;infer_instance
section
variable {m:Nat} {d:B8} {pv:B6} {pseg:B1} {rs:List RK} {nv:B6} {nseg:B1} {wv:B6} {wseg:B1} {bv:B6} {bseg:B1} {tv:B6} {tseg:B1} {ts:List PT}
end
structure DG(d:B8)(n:Nat):Prop where
 ok:G3 d
 few:d.torn.length+n<=1048576
def O4(d:B8)(b:Int)(h:Hd)(p:List UInt8):Int×B8:=if(O9 h p d.c.S).2≠0 then((O9 h p d.c.S).2,d)else prog d b h.2.2.2.2.1 (O9 h p d.c.S).1
def U9(d:B8)(b ep:Int):Int×B8:=O4 d b (1,0,1,ep,0,()) []
def N2(b ep at' kind n:Int):B8->Nat->List (List UInt8)->Int×B8
 |d,_,[]=>(0,d)
 |d,i,p::r=>if(O4 d b (kind,i,n,ep,at'+i,()) p).1=0 then N2 b ep at' kind n (O4 d b (kind,i,n,ep,at'+i,()) p).2 (i+1) r else O4 d b (kind,i,n,ep,at'+i,()) p
def S1(d:B8)(b ep at' kind:Int)(l:List (List UInt8)):Int×B8:=if l=[]then(2,d)else N2 b ep at' kind l.length d 0 l
def Bo(x:It):List Int:=[x.1,x.2.1,x.2.2.1]
instance (l:List Int):Decidable (Ba l):=by unfold Ba;infer_instance
def N3(l:List It):List UInt8:=(l.flatMap Bo).map Ag
def U7(d:B8)(b ep at':Int)(l:List It):Int×B8:=if Ba (l.flatMap Bo)then O4 d b (4,0,1,ep,at',()) (N3 l)else(3,d)
def K7(d:B8)(b:Int):List (List UInt8)×Int:=if H6 d b 0≠0 then([],H6 d b 0)else((List.range d.c.P).map fun(p:Nat)=>(I5 d b (p:Int)).1,0)
def Cd5{p:List UInt8}{size:Int}(e:(O9 h p size).2=0):J7 h=0:=by
 unfold O9 at e;split at e
 ·simp at e
 ·split at e
  ·rename_i h2;exact absurd e h2
  ·rename_i h2;exact XN.1 h2
def Bq0{b:Int}{p:List UInt8}(e:(O4 d b h p).1=0):J7 h=0:=by
 unfold O4 at e;split at e
 ·rename_i h2;exact absurd e h2
 ·rename_i h2;exact Cd5 (XN.1 h2)
def Bp9{n:Nat}(g:DG d (n+1))(b:Int)(h:Hd)(p:List UInt8):DG (O4 d b h p).2 n:=by
 unfold O4;split
 ·exact⟨g.ok,by have:=g.few;show d.torn.length+n<=_;omega⟩
 ·refine⟨MX g.ok _ _ _,?_⟩;have h1:=Bp4 d b h.2.2.2.2.1 (O9 h p d.c.S).1;have:=g.few;omega
def DG.le{n m:Nat}(g:DG d n)(h:m<=n):DG d m:=⟨g.ok,by have:=g.few;omega⟩
def p3{B C:B1}:(A++(B++C)).Perm (B++(A++C)):=YF A B C
def Zq(H:Nat->B8->B1->Prop)(m:Nat)(q:Int×B8)(R:B1)(r:Value)(L':B1):Prop:= ∃A',L'=A'++R/\r= .i q.1/\H m q.2 A'
def CE(m:Nat)(d:B8)(A R:B1)(h:FH m d A)(g:DG d 1)(b:Int)(hd:Hd)(u:B6)(p:List UInt8)(hu:G0 R u p):
  CallF PP 162 #[.p m,.i b,.agg (ki5 hd),.slice u.a u.len u.cap] (A++R) (Zq FH m (O4 d b hd p) R):=by
 refine(c162 (some m.z) b hd u).c ?_;have hc:=g.ok.c.s;refine C4 (Reads.in (X:=[]) (Y:=R) (Za m d A h)) ((d.c.B,d.c.P,d.c.S,d.c.W,()),()) rfl ?_;refine O1 (Br5 (A++R) hd u p hu.right (d.c.S:Int) (by omega)) ?_;rintro _ _-⟨s,sg,rfl,rfl,own⟩;refine⟨(s,(O9 hd p d.c.S).2,()),rfl,D6 (fun(h0:(O9 hd p d.c.S).2=0)=>?_) (fun(h0: ¬(O9 hd p d.c.S).2=0)=>?_)⟩
 ·refine O1 (CallF.perm p3 (Bp3 m d A (sg++R) h g.ok (by have:=g.few;omega) b hd.2.2.2.2.1 s (O9 hd p d.c.S).1 own.sl.left)) ?_;rintro _ _-⟨A',rfl,rfl,h'⟩;have e:O4 d b hd p=prog d b hd.2.2.2.2.1 (O9 hd p d.c.S).1:=by unfold O4;rw[ND (by simpa using h0)]
  refine⟨((prog d b hd.2.2.2.2.1 (O9 hd p d.c.S).1).1,()),rfl,.drop (A:=A'++R) (J:=sg) ⟨A',rfl,by rw[e],by rw[e];exact h'⟩ ?_⟩;exact(p3.trans OT)
 ·have e:O4 d b hd p=((O9 hd p d.c.S).2,d):=by unfold O4;rw[NE h0]
  exact .app (.of ⟨A,rfl,by rw[e],by rw[e];exact h⟩)
def Bt1(m:Nat)(d:B8)(A R:B1)(h:FH m d A)(g:DG d 1)(b ep:Int):CallF PP 211 #[.p m,.i b,.i ep] (A++R) (Zq FH m (U9 d b ep) R):=by
 refine(c211 (some m.z) b ep).c ?_;refine O1 (CE m d A R h g b (1,0,1,ep,0,()) ⟨none,0,0⟩ [] (Sl.nil 1)) ?_;rintro _ _-⟨A',rfl,rfl,h'⟩;exact⟨((U9 d b ep).1,()),rfl,.of ⟨A',rfl,rfl,h'⟩⟩
def Cs5(m:Nat)(d:B8)(A R:B1)(h:FH m d A)(u:B6)(l:List PV)(hu:Af R u l)(hl:l.length<=1000000)(g:DG d l.length)(b ep at' kind:Int)(gP:Q4 .i64 at'):
  CallF PP 116 #[.p m,.i b,.i ep,.i at',.i kind,.slice u.a u.len u.cap] (A++R) (Zq FH m (S1 d b ep at' kind (l.map Prod.snd)) R):=by
 refine(c116 (some m.z) b ep at' kind u).c ?_;have fI:=hu.len;have hat':=Rv gP;refine D6 (fun(h0:(u.len:Int)=0)=>?_) (fun(h0: ¬(u.len:Int)=0)=>?_)
 ·have e:l.map Prod.snd=[]:=by rw[List.map_eq_nil_iff];exact RG.1 (by omega)
  exact .of ⟨A,rfl,by unfold S1;rw[NE e],by unfold S1;rw[NE e];exact h⟩
 have hZ:l.map Prod.snd≠[]:=fun e=>h0 (by have:=congrArg List.length e;rw[NL,OX]at this;omega);have hA:S1 d b ep at' kind (l.map Prod.snd)=N2 b ep at' kind l.length d 0 (l.map Prod.snd):=by unfold S1;rw[ND hZ,NL]
 rw[hA];refine G1 (fun z' z L'=> ∃(i:Nat) (x:Int) (d':B8) (A':B1),i<=l.length/\z'=l.length-i/\z=((i:Int),kind,x,(l.length:Int),ep,at'+i,())/\L'=A'++R/\FH m d' A'/\DG d' (l.length-i)/\(0<i->at'<=15)/\N2 b ep at' kind l.length d 0 (l.map Prod.snd)=N2 b ep at' kind l.length d' i ((l.drop i).map Prod.snd)) l.length
  ⟨0,0,d,A,by omega,by omega,by rw[fI];simp,rfl,h,g,by omega,by simp⟩ ?_
 rintro z' z _ ⟨i,x,d',A',hi,rfl,rfl,rfl,h',g',h15,aO⟩;dsimp only;refine D6 (fun(hO:(i:Int)<u.len)=>?_) (fun(aM: ¬(i:Int)<u.len)=>?_)
 ·have hJ:i<l.length:=by omega
  refine Yp (hu.sl.mono Kp) rfl (by rw[NL];exact hJ) fun a ha=>?_;rw[QG]at ha;refine B5 l[i].1 ha (O1 (CE m d' A' R h' (g'.le (by omega)) b (kind,(i:Int),(l.length:Int),ep,at'+i,()) l[i].1 l[i].2 (hu.val _ (NO hJ))) ?_);rintro _ _-⟨A2,rfl,rfl,h2⟩;rw[OZ hJ,NS,N2]at aO;refine⟨((O4 d' b (kind,(i:Int),(l.length:Int),ep,at'+i,()) l[i].2).1,()),rfl,D6 (fun(h0:(O4 d' b (kind,(i:Int),(l.length:Int),ep,at'+i,()) l[i].2).1=0)=>?_) (fun(h0: ¬(O4 d' b (kind,(i:Int),(l.length:Int),ep,at'+i,()) l[i].2).1=0)=>?_)⟩
  ·have hk:=Ik (Bq0 h0);simp only at hk;rw[NE h0]at aO;refine H3 (by omega) (H3 (by omega) ⟨l.length-(i+1),by omega,i+1,i,_,A2,by omega,rfl,?_,rfl,h2,Bp9 (n:=l.length-(i+1)) (g'.le (by omega)) _ _ _,fun _=>by omega,aO⟩);rw[show at'+(i:Int)+1=at'+((i+1:Nat):Int) by omega];rfl
  ·rw[ND h0]at aO;exact .of ⟨A2,rfl,by rw[aO],by rw[aO];exact h2⟩
 ·obtain rfl:i=l.length:=by omega
  rw[XO,UV,N2]at aO;exact .of ⟨A',rfl,by rw[aO],by rw[aO];exact h'⟩
def Cc8{a b:List Int}:Ba (a++b)↔Ba a/\Ba b:=by
 unfold Ba;constructor
 ·exact fun h=>⟨fun n hn=>h n (OA _ hn),fun n hn=>h n (OG _ hn)⟩
 ·rintro⟨h1,h2⟩ n hn;rcases NJ.1 hn with h|h
  ·exact h1 n h
  ·exact h2 n h
def Cc7(hx:x∈l)(h: ¬Ba (Bo x)): ¬Ba (l.flatMap Bo):=fun hh=>h fun n hn=>hh n (OY.2 ⟨x,hx,hn⟩)
def Pq(l:List It):(N3 l).length=3*l.length:=by
 unfold N3;rw[NL];induction l with
 |nil=>rfl
 |cons x r ih=>rw[OL,NR,ih];simp[Bo];omega
def Bh6(l:List It)(x:It):N3 (l++[x])=N3 l++(Bo x).map Ag:=by simp[N3]
def Bg8(m:Nat)(d:B8)(A R:B1)(h:FH m d A)(u:B6)(l:List It)(hu:Sl R u 3 (l.flatMap P6))(hl:l.length<=300)(g:DG d 1)(b ep at':Int):
  CallF PP 206 #[.p m,.i b,.i ep,.i at',.slice u.a u.len u.cap] (A++R) (Zq FH m (U7 d b ep at' l) R):=by
 refine(c206 (some m.z) b ep at' u).c ?_;have fI:=hu.els_len W0 (by decide);refine G1 (fun z' z L'=> ∃(i:Nat) (s:B6) (sg J:B1),i<=l.length/\z'=l.length-i/\z=(s,(i:Int),())/\L'=sg++(J++(A++R))/\C5 s 1 eB (F9 (N3 (l.take i))) sg/\Ba ((l.take i).flatMap Bo)) l.length ⟨0,⟨none,0,0⟩,[],[],by omega,by omega,rfl,rfl,O5,by intro n hn;simp at hn⟩ ?_;rintro z' z _ ⟨i,s,sg,J,hi,rfl,rfl,rfl,own,cC⟩;dsimp only;refine D6 (fun(hO:(i:Int)<u.len)=>?_) (fun(aM: ¬(i:Int)<u.len)=>?_)
 ·have hJ:i<l.length:=by omega
  refine Bd W0 (by decide) (((hu.mono Kp).mono Kp).mono Kp) rfl hJ fun a ha=>?_;refine B5 (l[i]:It) ha (C9 fun n2 _=>?_);have hC:=Pq (l.take i);rw[NW]at hC;refine O1 (CallF.perm PC (As9 ((n2,Obj.cells #[.i l[i].1,.i l[i].2.1,.i l[i].2.2.1] 3)::(J++(A++R))) s (N3 (l.take i)) sg own (by omega) ⟨some n2.z,3,3⟩ (Bo l[i]) ⟨rfl,NF _,.inr ⟨_,rfl,C2 NG rfl⟩⟩ (by simp[Bo]))) ?_;rintro _ _-⟨sg2,rfl,⟨hb,v2,rfl,own2⟩|⟨hb,rfl⟩⟩
  ·refine⟨(v2,true,()),rfl,E9 rfl (H3 (by omega) ⟨l.length-(i+1),by omega,i+1,v2,sg2,(n2,Obj.cells #[.i l[i].1,.i l[i].2.1,.i l[i].2.2.1] 3)::J,by omega,rfl,rfl,by simp,?_,?_⟩)⟩
   ·rw[OB hJ,Bh6];exact own2
   ·rw[OB hJ,OD,Cc8,PU];exact⟨cC,hb⟩
  ·have e:U7 d b ep at' l=(3,d):=by unfold U7;rw[ND (Cc7 (NO hJ) hb)]
   exact⟨(⟨none,0,0⟩,false,()),rfl,D8 rfl (.app (.cons (.app (.of ⟨A,rfl,by rw[e],by rw[e];exact h⟩))))⟩
 ·obtain rfl:i=l.length:=by omega
  rw[OE]at own cC;refine O1 (CallF.perm (L:=A++(sg++(J++R))) ?_ (CE m d A (sg++(J++R)) h g b (4,0,1,ep,at',()) s (N3 l) own.sl.left)) ?_
  ·classical
   rw[ON];intro z;simp only[OP];omega
  rintro _ _-⟨A2,rfl,rfl,h2⟩;have e:U7 d b ep at' l=O4 d b (4,0,1,ep,at',()) (N3 l):=by unfold U7;rw[NE cC]
  refine⟨(_,()),rfl,.drop (A:=A2++R) (J:=sg++J) ⟨A2,rfl,by rw[e],by rw[e];exact h2⟩ ?_⟩
  classical
  rw[ON];intro z;simp only[OP];omega
def HM(q:List (List UInt8)×Int)(A:B1)(r:Value)(L':B1):Prop:= ∃(v:B6) (gs:List PG) (seg:B1),r= .t #[.slice v.a v.len v.cap,.i q.2]/\L'=seg++(E3 gs++A)/\C5 v 1 tB (gs.map PG.val) seg/\(∀g∈gs,g.Ok)/\gs.map PG.l=q.1
def An3{b:Int}{p:Nat}(hp:p<d.c.P):H6 d b p=H6 d b 0:=by
 unfold H6;have h1:(0<=(p:Int)/\(p:Int)<d.c.P):=by omega
 have h2:(0<=(0:Int)/\(0:Int)<d.c.P):=by omega
 simp only[h1,h2,and_self,not_true_eq_false,if_false]
def Wk(ok:G3 d)(b p:Int):(I5 d b p).2=H6 d b p:=by
 unfold I5;split
 ·rfl
 ·rename_i h;have h0:H6 d b p=0:=XN.1 h;have:=Js h0;split
  ·rename_i hn;have hO:b.toNat<d.bs.length:=by omega
   rw[NV hO]at hn;cases hn
  ·split<;>exact h0.symm
def DG.pb(ok:G3 d):4<=d.c.P/\d.c.P<=16:=ok.c.p
def Hf(d:B8)(b:Int)(A:B1)(i:Nat)(s:B6)(L':B1):Prop:= ∃(gs:List PG) (sg J:B1),L'.Perm (sg++(E3 gs++(J++A)))/\C5 s 1 tB (gs.map PG.val) sg/\(∀g∈gs,g.Ok)/\gs.map PG.l=(List.range i).map fun(p:Nat)=>(I5 d b (p:Int)).1
def Hf.nil(d:B8)(b:Int)(A:B1):Hf d b A 0 ⟨none,0,0⟩ A:=⟨[],[],[],NH _,O5,by simp,rfl⟩
def Hf.p{b:Int}(h:Hf d b A i s L'): ∃G:B1,L'.Perm (A++G):=by
 obtain⟨gs,sg,J,hp,-⟩:=h;exact⟨sg++(E3 gs++J),pc fun z=>by have:=E8 hp z;simp only[C3]at this⊢;omega⟩
def Hf.fin{b:Int}(h:Hf d b A d.c.P s L')(h0:H6 d b 0=0):HL.Ends (HM (K7 d b) A) (.t #[.slice s.a s.len s.cap,.i 0]) L':=by
 obtain⟨gs,sg,J,hp,own,aC,hg⟩:=h;have e:K7 d b=((List.range d.c.P).map fun(p:Nat)=>(I5 d b (p:Int)).1,0):=by unfold K7;rw[ND (by simpa using h0)]
 exact .drop (A:=sg++(E3 gs++A)) (J:=J) ⟨s,gs,sg,by rw[e],rfl,own,aC,by rw[e];exact hg⟩ (pc fun z=>by have:=E8 hp z;simp only[C3]at this⊢;omega)
def Hf.snoc{b:Int}(h:Hf d b A i s L')(hi:i<=16)(g:PG)(hg:g.Ok)(hl:g.l=(I5 d b i).1)(hY:L2.Perm (g.seg++L')){k:B6->HP}(hk: ∀s' L',Hf d b A (i+1) s' L'->k s' L'):
  Cb PP Fk Fk Fk tB s 1 [g.val] k L2:=by
 obtain⟨gs,sg,J,hp,own,aC,dS⟩:=h;have fE:=congrArg List.length dS;rw[NL,NL,SW]at fE;have aU:=own.len;rw[NL]at aU;refine Iv Uv Vv (Y:=g.seg++(E3 gs++(J++A))) own (pc fun z=>by have:=E8 hp z;have:=E8 hY z;simp only[C3]at*;omega) rfl rfl (by omega) fun s2 sg2 _ own2=>hk _ _ ⟨gs++[g],sg2,J,?_,?_,?_,?_⟩
 ·rw[Kk,Tb];exact pc fun z=>by simp only[C3];omega
 ·rw[NQ];exact own2
 ·intro g' dW;rcases NJ.1 dW with h1|h1
  ·exact aC g' h1
  ·rw[NM.1 h1];exact hg
 ·rw[TX,NQ,NQ,dS,RC,RC,hl]
def Hf.err{b:Int}(h:Hf d b A i s L')(hi:i<d.c.P)(hz:z=H6 d b i)(hZ:z≠0)(hp:L2.Perm (J++L')):HL.Ends (HM (K7 d b) A) (.t #[.slice none 0 0,.i z]) L2:=by
 obtain⟨G,hG⟩:=h.p;have e:K7 d b=([],z):=by rw[An3 hi]at hz;unfold K7;rw[<-hz,NE hZ]
 exact .drop (A:=A) (J:=J++G) ⟨⟨none,0,0⟩,[],[],by rw[e],rfl,O5,by simp,by rw[e];rfl⟩ (pc fun z=>by have:=E8 hG z;have:=E8 hp z;simp only[C3]at*;omega)
def Bx7(m:Nat)(d:B8)(A:B1)(h:FH m d A)(ok:G3 d)(b:Int):CallF PP 163 #[.p m,.i b] A (HM (K7 d b) A):=by
 refine(c163 (some m.z) b).c ?_;have hP:=DG.pb ok;refine D8 rfl (C4 (Za m d A h) ((d.c.B,d.c.P,d.c.S,d.c.W,()),()) rfl ?_);refine G1 (fun z' z L'=> ∃(i:Nat) (s:B6),i<=d.c.P/\z'=d.c.P-i/\z=(s,(i:Int),())/\Hf d b A i s L'/\(0<i->H6 d b 0=0)) d.c.P ⟨0,⟨none,0,0⟩,by omega,by omega,rfl,Hf.nil d b A,by omega⟩ ?_;rintro z' z L1 ⟨i,s,hi,rfl,rfl,hI,h0⟩;dsimp only;obtain⟨G,hG⟩:=hI.p;refine D6 (fun(hO:(i:Int)<d.c.P)=>?_) (fun(aM: ¬(i:Int)<d.c.P)=>?_)
 ·have hJ:i<d.c.P:=by omega
  refine H0 (BN m d A h ok b i) hG ?_;rintro _ _ ⟨g,rfl,rfl,hg,dS⟩;have bz:=Wk ok b (i:Int);have tZ:((g.seg++A)++G).Perm (g.seg++L1):=pc fun z=>by have:=E8 hG z;simp only[C3]at*;omega
  refine⟨_,NH _,(g.v,(I5 d b (i:Int)).2,()),rfl,D6 (fun(he:(I5 d b (i:Int)).2=0)=>?_) (fun(he: ¬(I5 d b (i:Int)).2=0)=>hI.err hJ bz he tZ)⟩;exact hI.snoc (by omega) g hg dS tZ fun s' L' oV=>H3 (by omega) ⟨d.c.P-(i+1),by omega,i+1,s',by omega,rfl,rfl,oV,fun _=>by rw[<-An3 hJ,<-bz];exact he⟩
 ·obtain rfl:i=d.c.P:=by omega
  exact hI.fin (h0 (by omega))
def By0(ok:G3 d)(b:Int):(K7 d b).1.length<=16/\ ∀x∈(K7 d b).1,x.length<=512:=by
 have hP:=ok.c.p;have hS:=ok.c.s;unfold K7;split
 ·exact⟨by simp,by simp⟩
 ·refine⟨by simp;omega,fun x hx=>?_⟩;simp only[NY]at hx;obtain⟨p,hp,rfl⟩:=hx;have hY:p<d.c.P:=QT.1 hp;unfold I5;split
  ·simp
  ·split
   ·simp
   ·rename_i k hk;have hm:k∈d.bs:=QI hk;have h1:=ok.pg k hm;split
    ·simp[blk];omega
    ·rw[NK,NX,NV (by omega),UE,h1.2 _ (NO _)];omega
def Bs3{v:B6}{Y:B1}(own:C5 v 1 tB (gs.map PG.val) seg)(hg: ∀g∈gs,g.Ok)(hp:L.Perm (seg++(E3 gs++Y))):Af L v (O8 gs):=
 CU own hg (fun x hx=>hp.symm.subset (by simp[hx])) (fun x hx=>hp.symm.subset (by simp[hx]))
def St(gs:List PG):(O8 gs).map Prod.snd=gs.map PG.l:=by unfold O8;rw[OO];rfl
def Bx8(ok:G3 d){b:Int}(hl:gs.map PG.l=(K7 d b).1):(O8 gs).length<=16/\ ∀x∈O8 gs,x.2.length<=512:=by
 have h:=By0 ok b;rw[<-hl,<-St,NL]at h;exact⟨h.1,fun x hx=>h.2 _ (OQ hx)⟩
def Hj(x:It):Prop:=1<=x.2.1/\x.2.1<=255/\1<=x.2.2.1/\x.2.2.1<=255
theorem LA{p:List UInt8}: ∀{n i:Nat} {nx:Int} {y:List It×Int},1<=nx->Cu p n i nx=some y->(∀x∈y.1,nx<=x.2.1/\Hj x)/\y.1.Pairwise (fun a b=>a.2.1<b.2.1)
 |0,i,nx,y,_,h=>by obtain rfl:=NI h;simp
 |n+1,i,nx,y,h1,h=>by
  rw[Cu]at h;split at h
  ·rename_i hc;rw[VQ]at h;obtain⟨y2,h2,rfl⟩:=h;have hb: ∀k,(p.getD k 0).toNat<=255:=fun k=>by have:=(p.getD k 0).toNat_lt;omega
   have e1:(I4 p i).2.1=((p.getD (i*3+1) 0).toNat:Int):=rfl;have e2:(I4 p i).2.2.1=((p.getD (i*3+2) 0).toNat:Int):=rfl;have h3:=hb (i*3+1);have h4:=hb (i*3+2);have bF:1<=(I4 p i).2.2.1:=by have:=hc.2.1;omega
   obtain⟨i1,i2⟩:=LA (by omega) h2;refine⟨fun x hx=>?_,?_⟩
   ·rcases OC.1 hx with rfl|hx
    ·exact⟨by omega,by omega,by omega,bF,by omega⟩
    ·have:=i1 x hx;exact⟨by omega,this.2⟩
   ·rw[QW];exact⟨fun x hx=>by have:=(i1 x hx).1;omega,i2⟩
  ·cases h
def Ci3(h:Q9 ps ep q=some x):x.2.1=q:=by
 unfold Q9 at h;split at h
 ·split at h
  ·split at h
   ·obtain rfl:=NI h;rfl
   ·cases h
  ·cases h
 ·cases h
theorem GJ{ps:List (List UInt8)}{ep:Int}{last:Nat}(hl:last<=15): ∀{k p:Nat},1<=p->(∀x∈Ao (Q9 ps ep) last k p,(p:Int)<=x.2.1/\Hj x)/\(Ao (Q9 ps ep) last k p).Pairwise (fun a b=>a.2.1<b.2.1)
 |0,p,_=>by simp[Ao]
 |k+1,p,h1=>by
  rw[Ao];split
  ·rename_i hp;cases hf:Q9 ps ep p with
   |none=>
    obtain⟨i1,i2⟩:=GJ (ps:=ps) (ep:=ep) hl (k:=k) (p:=p+1) (by omega);exact⟨fun x hx=>by have:=i1 x hx;exact⟨by omega,this.2⟩,i2⟩
   |some x0=>
    have h2:=Ci3 hf;have h3:=Al4 hf;obtain⟨i1,i2⟩:=GJ (ps:=ps) (ep:=ep) hl (k:=k) (p:=p+x0.2.2.1.toNat) (by omega);refine⟨fun x hx=>?_,?_⟩
    ·rcases OC.1 hx with rfl|hx
     ·exact⟨by omega,by omega,by omega,by omega,by omega⟩
     ·have:=i1 x hx;exact⟨by omega,this.2⟩
    ·rw[QW];exact⟨fun x hx=>by have:=(i1 x hx).1;omega,i2⟩
  ·simp
def Bh2{p:List UInt8}{last:Nat}(h:Ax p last=some l):(∀x∈l,Hj x)/\l.Pairwise (fun a b=>a.2.1<b.2.1):=by
 unfold Ax at h;split at h
 ·cases h
 ·split at h
  ·rename_i y hy;split at h
   ·obtain rfl:=NI h;obtain⟨h1,h2⟩:=LA (by omega) hy;exact⟨fun x hx=>(h1 x hx).2,h2⟩
   ·cases h
  ·cases h
def Bi5(ps:List (List UInt8)):(∀x∈(P1 ps).1.2.2,Hj x)/\(P1 ps).1.2.2.Pairwise (fun a b=>a.2.1<b.2.1):=by
 unfold P1;split
 ·simp
 ·split
  ·split
   ·rename_i l hl;split at hl
    ·unfold Gl at hl;rw[VF]at hl;obtain⟨p,-,hp⟩:=hl;exact Bh2 hp
    ·cases hl
   ·have hla:J8 ps<=15:=by have:=EP ps (min ps.length 16-1);unfold J8;omega
    obtain⟨h1,h2⟩:=GJ (ps:=ps) (ep:=N4 ps) hla (k:=17) (p:=1) (by omega);exact⟨fun x hx=>(h1 x hx).2,h2⟩
  ·simp
def Bi6(ps:List (List UInt8)):0<=(P1 ps).1.1/\(P1 ps).1.1<=1073741824:=by
 have h: ∀l,T6 ps 0 (1,0,1,N4 ps,0,())=some l->0<=N4 ps/\N4 ps<=1073741824:=by
  intro l hl;unfold T6 at hl;split at hl
  ·split at hl
   ·split at hl
    ·rename_i b hb hc;have h1:=Ik (Wx hc.1);rw[hc.2]at h1;simp only at h1;omega
    ·cases hl
   ·cases hl
  ·cases hl
 unfold P1;split
 ·simp
 ·split
  ·rename_i hs;have:=h _ hs;split
   ·exact this
   ·exact this
  ·simp
def Jd(b:List UInt8)(s:ByteArray):List UInt8×Int:=if 65536<s.size then([],4)else(b++E4 s.size 4++s.data.toList,0)
def Ct5(b:List UInt8)(s:ByteArray)(A:B1)(v:Value)(L':B1):Prop:= ∃(u:B6) (seg:B1),v= .t #[.slice u.a u.len u.cap,.i (Jd b s).2]/\L'=seg++A/\C5 u 1 eB (F9 (Jd b s).1) seg
def Bf1(s:ByteArray):s.data.toList.length=s.size:=by rw[SM];rfl
def Ay2(b:List UInt8)(n:Nat)(h:n<=65536):Y6 b n 4=(b++E4 n 4,0):=by
 have:=Lg (b:=b) (n:=n) (w:=4) (by omega) (by omega) (by simp;omega);simpa using this
def Bc6(s:ByteArray):(s.data.toList.map fun b=>Value.int .u8 b.toNat)=F9 s.data.toList:=rfl
def HT(A:B1)(v:B6)(b:List UInt8)(hb:G0 A v b)(hl:b.length<=1000000)(s:ByteArray)(hs:s.size<=maxLen):
  CallF PP 145 #[.slice v.a v.len v.cap,.w s] A (Ct5 b s A):=by
 refine(e145 v s).c ?_;refine D3 (fun(h1:(s.size:Int)>65536)=>.of ?_) (fun(h1: ¬(s.size:Int)>65536)=>?_)
 ·have e:Jd b s=([],4):=by unfold Jd;rw[NE (by omega)]
  exact⟨⟨none,0,0⟩,[],by rw[e],rfl,by rw[e];exact O5⟩
 ·have e:Jd b s=(b++E4 s.size 4++s.data.toList,0):=by unfold Jd;rw[ND (by omega)]
  refine K3 [] [] (Vm A v b hb hl s.size 4 (by omega)) (by simp) ?_;rintro w A'-⟨u,seg,rfl,rfl,own⟩;rw[Ay2 b s.size (by omega)]at own⊢;refine⟨(u,0,()),rfl,?_⟩;have fI:=own.sl.len;rw[Y1,NR,Df]at fI;refine Q1 Be Bd6 [] A own (by simp) (.str s) (Ac _) (by first|omega|(simp only;omega)) fun u' seg' gU own'=>?_;rw[Bc6,<-Mg]at own';exact .of ⟨u',seg',by rw[e],rfl,by rw[e];exact own'⟩
def RD(m:Nat)(b:List UInt8)(at':Nat)(A:B1):Prop:= ∃(s:B6) (seg:B1),A=(m,Obj.cells #[.slice s.a s.len s.cap,.i at'] 347)::seg/\C5 s 1 eB (F9 b) seg/\at'<=b.length/\b.length<=1000000
def Bl8(A:B1)(v:B6)(b:List UInt8)(hb:G0 A v b)(hl:b.length<=1000000):
  CallF PP 196 #[.slice v.a v.len v.cap] A fun r L'=> ∃m R,r= .p m/\L'=R++A/\RD m b 0 R:=by
 refine(e196 v).c ?_;have hC:=hb.len;refine C9 fun q _=>Q1 Be Dp [] A Km (by simp) (.sl hb.cons) (Ac _) (by first|omega|(simp only;omega)) fun s seg hs own=>?_;rw[NT]at own;exact C9 fun m _=>.of ⟨m,_::seg,rfl,by simp,s,seg,rfl,own,by omega,hl⟩
def Ps(b:List UInt8)(a:Nat)(w:Int):Nat:=if(J5 b a w).2=0 then a+w.toNat else a
def Bl9{w:Int}(h:a<=b.length):Ps b a w<=b.length:=by
 unfold Ps;split
 ·rename_i h1;have:=(Pd b a w).2.2.2 h1;omega
 ·exact h
def Bt9(m:Nat)(b:List UInt8)(a:Nat)(A:B1)(h:RD m b a A)(w:Int):
  CallF PP 199 #[.p m,.i w] A fun r L'=>r= .t #[.i (J5 b a w).1,.i (J5 b a w).2]/\RD m b (Ps b a w) L':=by
 obtain⟨s,seg,rfl,own,ha,hl⟩:=h;refine(e199 (some m.z) w).c ?_;have aU:G0 ((m,Obj.cells #[.slice s.a s.len s.cap,.i a] 347)::seg) s b:=own.sl.cons;refine D8 rfl (B7 rfl (B7 rfl (B5 s (C2 NG rfl) (B5 (a:Int) (C2 NG rfl) ?_))));have hr:=Pd b a w;have hn:=Bl9 (w:=w) ha;unfold Ps at hn⊢;refine C4 (Vp _ s b aU (by omega) a w) ((J5 b a w).1,(J5 b a w).2,()) rfl ?_;generalize J5 b a w=g at hr hn⊢;refine Ex (fun(he:g.2=0)=>?_) (fun(he:g.2≠0)=>.of ⟨rfl,by rw[ND he];exact⟨s,seg,rfl,own,ha,hl⟩⟩);obtain⟨u,rfl⟩: ∃u:Nat,w=u:=⟨w.toNat,by have:=hr.2.2.2 he;omega⟩;have h7:=hr.2.2.2 he;have hw:IntKind.i64.wrap ((a:Int)+u)=((a+u:Nat):Int):=by rw[D7 (by omega) (by omega)];omega
 refine B7 rfl (B5 (a:Int) (C2 NG rfl) (B7 rfl (F6 [] seg rfl rfl (by simp) (.inl (NF _)) #[.slice s.a s.len s.cap,.i ((a+u:Nat):Int)] (by rw[hw];rfl) (.of ⟨rfl,?_⟩))));rw[NE he,NK]at hn⊢;exact⟨s,seg,rfl,own,hn,hl⟩
def Af8(m:Nat)(b:List UInt8)(a:Nat)(A:B1)(h:RD m b a A):Reads PP 198 #[.p m] A (.i ((b.length:Int)-a)):=by
 obtain⟨s,seg,rfl,own,ha,hl⟩:=h;refine(e198 (some m.z)).r ?_;have hC:=own.sl.len;rw[Y1,OS]at hC;refine D8 rfl (B7 rfl (B7 rfl (B5 s (C2 NG rfl) (B5 (a:Int) (C2 NG rfl) (.of ⟨?_,rfl⟩)))));rw[hC,D7 (by omega) (by omega)]
def H5(b:List UInt8)(a:Nat):List UInt8×Nat×Int:=
 if(J5 b a 4).2≠0 then([],a,(J5 b a 4).2)else if 65536<(J5 b a 4).1 then([],a,4)else if(b.length:Int)<a+4+(J5 b a 4).1 then([],a,6)
 else((b.drop (a+4)).take (J5 b a 4).1.toNat,a+4+(J5 b a 4).1.toNat,0)
def AK(l:List UInt8):Value:=.w ⟨l.toArray⟩
def Yu(h:G0 L s b){j:Nat}(h1:i<=j)(h2:j<=b.length):G0 L (G7 s i j s.cap 1) ((b.drop i).take (j-i)):=by
 have hl:=h.len;have hc:=h.cap;have:=Sl.slc (m:=s.cap) h (by omega) h1 (by omega) (by omega)
 rwa [Jv]at this
def JB(m:Nat)(b:List UInt8)(a:Nat)(A:B1)(h:RD m b a A):
  CallF PP 197 #[.p m] A fun r L'=>r= .t #[AK (H5 b a).1,.i (H5 b a).2.2]/\RD m b (H5 b a).2.1 L':=by
 obtain⟨s,seg,rfl,own,ha,hl⟩:=h;refine(e197 (some m.z)).c ?_;have aU: ∀{o:Obj},G0 ((m,o)::seg) s b:=own.sl.cons;have hC:=own.sl.len;rw[Y1,OS]at hC;have aY:=own.cap;refine D8 rfl (B7 rfl (B7 rfl (B5 s (C2 NG rfl) (B5 (a:Int) (C2 NG rfl) ?_))));have hr:=Pd b a 4;unfold H5;refine C4 (Vp _ s b aU (by omega) a 4) ((J5 b a 4).1,(J5 b a 4).2,()) rfl ?_;generalize J5 b a 4=g at hr⊢;refine Bb (fun(he:g.2≠0)=>.of ?_) (fun(he:g.2=0)=>?_)
 ·rw[NE he];exact⟨rfl,s,seg,rfl,own,ha,hl⟩
 have h4:=hr.2.2.2 he;have hw:IntKind.i64.wrap ((a:Int)+4)=((a+4:Nat):Int):=by rw[D7 (by omega) (by omega)];omega
 rw[ND (by omega)];refine B7 rfl (B5 (a:Int) (C2 NG rfl) ?_);simp only[hw];refine D3 (fun(h5:g.1>65536)=>.of ?_) (fun(h5: ¬g.1>65536)=>?_)
 ·rw[NE h5];exact⟨rfl,s,seg,rfl,own,ha,hl⟩
 rw[ND h5];refine B7 rfl (B5 s (C2 NG rfl) ?_);rw[D7 (n:=(s.len:Int)-((a+4:Nat):Int)) (by omega) (by omega)];refine D3 (fun(h6:g.1>(s.len:Int)-((a+4:Nat):Int))=>.of ?_) (fun(h6: ¬g.1>(s.len:Int)-((a+4:Nat):Int))=>?_)
 ·rw[NE (by omega)];exact⟨rfl,s,seg,rfl,own,ha,hl⟩
 rw[ND (by omega)];obtain⟨u,hu⟩: ∃u:Nat,g.1=u:=⟨g.1.toNat,by omega⟩;have lU:IntKind.i64.wrap (((a+4:Nat):Int)+g.1)=((a+4+u:Nat):Int):=by rw[hu,D7 (by omega) (by omega)];omega
 rw[lU,hu,NK];refine B7 rfl (F6 [] seg rfl rfl (by simp) (.inl (NF _)) #[.slice s.a s.len s.cap,.i ((a+4+u:Nat):Int)] rfl ?_);refine B7 rfl (B7 rfl (B5 s (C2 NG rfl) (B5 ((a+4+u:Nat):Int) (C2 NG rfl) ?_)));refine Q2 (l':=a+4) (h':=a+4+u) (m':=s.cap) rfl rfl rfl (by omega) (by omega) (NF _) ?_;have hc:=Yu (aU (o:=Obj.cells #[.slice s.a s.len s.cap,.i ((a+4+u:Nat):Int)] 347)) (i:=a+4) (j:=a+4+u) (by omega) (by omega);rw[show a+4+u-(a+4)=u by omega]at hc;exact Mi hc (.of ⟨rfl,s,seg,rfl,own,(show a+4+u<=b.length by omega),hl⟩)
end Go.Proofs.YtieboeindnpnaaaGreatDoor
