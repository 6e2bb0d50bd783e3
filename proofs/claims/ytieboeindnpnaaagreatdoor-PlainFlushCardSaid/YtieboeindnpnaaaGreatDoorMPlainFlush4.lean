/-
  It is proved what the functions that the law PlainFlush reaches compute, part 4. There are no further conditions than those that each theorem names.
-/
import Derived.Test.YtieboeindnpnaaaGreatDoorMPlainFlush3
set_option linter.defProp false
set_option linter.unusedVariables false
set_option linter.unusedSimpArgs false
namespace Go.Proofs.YtieboeindnpnaaaGreatDoor
open Go.HL
variable{args:Array Value}{a s:B0}{A L R Y:B1}{c:Bh}{key:ByteArray}{f:FuncId}{K:HP}{h:Hd}{at' e ep n ways x:Int}{ss:List (List C8)}{l:List It}{rs:List Sh}{M N last:Nat}{α:Type}{v:Value}
theorem MO{α:Type}{R:α->α->Prop}(hs: ∀a b,R a b->R b a)(hr: ∀a,R a a): ∀{l:List α},l.Pairwise R-> ∀x∈l,∀y∈l,R x y
 |[],_,x,hx,_,_=>by simp at hx
 |a::r,h,x,hx,y,hy=>by
  obtain⟨h1,h2⟩:=QW.1 h;rcases OC.1 hx with e|bC
  ·rcases OC.1 hy with e2|cV
   ·rw[e,e2];exact hr _
   ·rw[e];exact h1 y cV
  ·rcases OC.1 hy with e2|cV
   ·rw[e2];exact hs _ _ (h1 x bC)
   ·exact MO hs hr h2 x bC y cV
def Av6{ss:List BS}(g:BS->BS)(hi:n.toNat<ss.length):Q0 (O7 ss n g) n=g (Q0 ss n):=by
 unfold Q0 O7;rw[RE,NV hi];simp
def Av5{ss:List BS}(g:BS->BS)(hn:0<=n)(hx:0<=x)(hZ:x≠n):Q0 (O7 ss n g) x=Q0 ss x:=by
 unfold Q0 O7;rw[RE];have: ¬n.toNat=x.toNat:=by omega
 simp[this]
def Aa(ep:Int):Hd:=(1,0,1,ep,0,())
def Bc(p:List UInt8):Option Int:=if(C1 p).2.2=0/\(C1 p).1=Aa (C1 p).1.2.2.2.1/\(C1 p).2.1=[]then some (C1 p).1.2.2.2.1 else none
def Aj6{p:List UInt8}(h:Bc p=some ep):(64<=p.length/\p.length<=512)/\I9 (Aa ep) [] p.length=p/\R7 p=false:=by
 unfold Bc at h;split at h
 ·rename_i hc;obtain⟨h1,h2,h3⟩:=hc;obtain⟨a1,a2,a3,a4,a5⟩:=Lv h1;obtain rfl:=NI h;rw[<-h2];rw[h3]at a4;exact⟨a1,a4,a5⟩
 ·cases h
def Xy(S:Nat):Bc (blk S)=none:=by
 cases h:Bc (blk S)with
 |none=>rfl
 |some ep=>
  have:=(Aj6 h).2.2;unfold R7 blk at this;rw[US]at this;obtain⟨x,hx,hn⟩:=this;rw[PW hx]at hn;exact absurd (by decide) hn
def Aj7(e:J7 (Aa ep)=0){S:Nat}(h1:64<=S/\S<=512):Bc (I9 (Aa ep) [] S)=some ep:=by
 have:=(Jh e [] h1 (by simp)).1;unfold Bc;rw[this];exact NE ⟨rfl,rfl,rfl⟩
def Cd3{S:Nat}(h1:64<=S/\S<=512):(I9 (Aa ep) [] S)[S-5]?=some 0:=by
 have hl:=Ly (h:=Aa ep) (p:=[]) (size:=S) (by omega) (by simp);unfold I9;rw[QX (by omega)];have e:X8 (Aa ep) [] S=Fv (Aa ep) 0++List.replicate (S-16) 0:=by unfold X8;simp
 have iR:(Fv (Aa ep) 0).length+(S-16)=S-4:=by
  rw[e,NR,PE]at hl;exact hl
 rw[e,QY (by omega),SE];exact NE (by omega)
def Cf8(e:J7 (Aa ep)=0){S n:Nat}(h1:64<=S/\S<=512)(hn:n<=S):Bc ((I9 (Aa ep) [] S).take n++blk (S-n))=none\/Bc ((I9 (Aa ep) [] S).take n++blk (S-n))=some ep:=by
 have hC:=Uj (h:=Aa ep) (p:=[]) (S:=S) (by omega) (by simp);have dI:((I9 (Aa ep) [] S).take n++blk (S-n)).length=S:=by
  rw[NR,NW,hC];unfold blk;rw[PE];omega
 cases h:Bc ((I9 (Aa ep) [] S).take n++blk (S-n))with
 |none=>exact .inl rfl
 |some q=>
  right;obtain⟨-,h2,-⟩:=Aj6 h;rw[dI]at h2;have hS:S-4<=n:=by
   rcases PY n (S-4)with hc|hc
   ·have h3:=Cd3 (ep:=q) h1;rw[h2,QY (by rw[NW,hC];omega)]at h3;unfold blk at h3;rw[SE]at h3;split at h3
    ·cases h3
    ·cases h3
   ·exact hc
  have h4:=congrArg (List.take (S-4)) h2;rw[Ui _ _ (by omega) (by simp),YZ (by rw[NW,hC];omega),List.take_take,QF hS,Ui _ _ (by omega) (by simp)]at h4;have h5:I9 (Aa q) [] S=I9 (Aa ep) [] S:=by unfold I9;rw[h4]
  rw[<-h2,h5,Aj7 e h1]at h;rw[<-h]
def V3(k:G6):Option Int:=if k.bad=true then none else Bc (k.pages.getD 0 [])
def Db(d:B8)(x:Int):Option Int:=(E7 d x).bind V3
def Ey(d:B8)(x:Int):Prop:= ∃k,E7 d x=some k/\k.bad=false
structure En(d d':B8)(b:Int)(k k':G6):Prop where
 c:d'.c=d.c
 at':E7 d b=some k
 bs:d'.bs=d.bs.set b.toNat k'
def W2{d:B8}{b:Int}{k:G6}(h:E7 d b=some k):0<=b/\ ∃hi:b.toNat<d.bs.length,d.bs[b.toNat]=k:=by
 unfold E7 at h;split at h
 ·exact⟨by assumption,PL.1 h⟩
 ·cases h
section
variable {d d':B8} {b:Int} {k k':G6}
def En.own(t:En d d' b k k'):E7 d' b=some k':=by
 obtain⟨h0,hi,-⟩:=W2 t.at';unfold E7;rw[NE h0,t.bs,WE hi]
def En.ne(t:En d d' b k k')(hx:x≠b):E7 d' x=E7 d x:=by
 obtain⟨h0,hi,-⟩:=W2 t.at';unfold E7;split
 ·rw[t.bs,WG (by omega)]
 ·rfl
def Aj5(h:Db d x=some e):Ey d x:=by
 unfold Db at h;cases hk:E7 d x with
 |none=>rw[hk]at h;cases h
 |some k=>
  rw[hk]at h;refine⟨k,hk,?_⟩;have h:V3 k=some e:=h;unfold V3 at h;split at h
  ·cases h
  ·rename_i hb;simpa using hb
def En.head(t:En d d' b k k')(x:Int):Db d' x=if x=b then V3 k' else Db d x:=by
 unfold Db;split
 ·rename_i e;rw[e,t.own];rfl
 ·rename_i e;rw[t.ne e]
end
abbrev fs(us:List (Int×Int)):List Int:=us.map Prod.fst
structure DI(d:B8)(us:List (Int×Int)):Prop where
 hd: ∀u∈us,Db d u.1=some u.2
 fr: ∀x,x∉fs us->Db d x=none
 srt:us.Pairwise fun u v=>u.2<v.2
 nd:(fs us).Nodup
section
variable {d d':B8} {b:Int} {k k':G6} {us:List (Int×Int)}
def DI.good(h:DI d us)(hx:x∈fs us):Ey d x:=by
 obtain⟨u,hu,rfl⟩:=NY.1 hx;exact Aj5 (h.hd u hu)
def DI.congr(h:DI d us)(hb:d'.bs=d.bs):DI d' us:=by
 have e1:Db d'=Db d:=by funext x;unfold Db E7;rw[hb]
 exact⟨by rw[e1];exact h.hd,by rw[e1];exact h.fr,h.srt,h.nd⟩
def DI.frame(h:DI d us)(t:En d d' b k k')(hh:V3 k'=V3 k):DI d' us:=by
 have e1: ∀x,Db d' x=Db d x:=fun x=>by
  rw[t.head];split
  ·rename_i e;rw[e,hh];unfold Db;rw[t.at'];rfl
  ·rfl
 exact⟨fun u hu=>by rw[e1];exact h.hd u hu,fun x hx=>by rw[e1];exact h.fr x hx,h.srt,h.nd⟩
def DI.wash(h:DI d us)(t:En d d' b k k')(hb:b∉fs us)(hh:V3 k'=none):DI d' us:=by
 refine⟨fun v hv=>?_,fun x hx=>?_,h.srt,h.nd⟩
 ·rw[t.head,ND fun e=>hb (by rw[<-e];exact OQ hv)];exact h.hd v hv
 ·rw[t.head];split
  ·exact hh
  ·exact h.fr x hx
def DI.drop{u:Int×Int}(h:DI d (u::us))(t:En d d' u.1 k k')(hh:V3 k'=none):DI d' us:=by
 have aZ:u.1∉fs us/\(fs us).Nodup:=OW.1 h.nd;refine⟨fun v hv=>?_,fun x hx=>?_,(QW.1 h.srt).2,aZ.2⟩
 ·rw[t.head,ND fun e=>aZ.1 (by rw[<-e];exact OQ hv)];exact h.hd v (NN _ hv)
 ·rw[t.head];split
  ·exact hh
  ·rename_i e;exact h.fr x (by simp only[fs,NS,OC,PS];exact⟨e,hx⟩)
def DI.opn(h:DI d us)(t:En d d' b k k')(hb:b∉fs us)(hh:V3 k'=some ep)(bS: ∀u∈us,u.2<ep):DI d' (us++[(b,ep)]):=by
 have hZ: ∀x∈fs us,x≠b:=fun x hx e=>hb (e▸hx);have gN:fs (us++[(b,ep)])=fs us++[b]:=by simp[fs]
 refine⟨fun v hv=>?_,fun x hx=>?_,?_,?_⟩
 ·rcases NJ.1 hv with hv|hv
  ·rw[t.head,ND (hZ v.1 (OQ hv))];exact h.hd v hv
  ·rw[NM.1 hv,t.head,NE rfl];exact hh
 ·rw[gN,NJ,PS]at hx;rw[t.head,ND (by simpa using hx.2)];exact h.fr x hx.1
 ·rw[ZA];exact⟨h.srt,by simp,fun a ha c hc=>by rw[NM.1 hc];exact bS a ha⟩
 ·rw[gN,QA];exact⟨h.nd,by simp,fun x hx y hy=>by rw[NM.1 hy];exact hZ x hx⟩
end
def Fx(us:List (Int×Int))(d d':B8):Prop:= ∀x,x∉fs us->E7 d' x=E7 d x
def CB(d:B8)(b p:Int)(data:List UInt8):((prog d b p data).2=d/\(prog d b p data).1≠0)\/
  ∃k img,En d (prog d b p data).2 b k (k.put p.toNat img)/\k.bad=false/\(k.next:Int)=p/\(((prog d b p data).1=0/\img=data)\/((prog d b p data).1=11/\img=Av d data)):=by
 unfold prog;split
 ·rename_i h;exact .inl ⟨rfl,h⟩
 ·rename_i hf;split
  ·exact .inl ⟨rfl,show(2:Int)≠0 by decide⟩
  ·split
   ·exact .inl ⟨rfl,show(2:Int)≠0 by decide⟩
   ·rename_i k hk;split
    ·exact .inl ⟨rfl,show(10:Int)≠0 by decide⟩
    ·rename_i hb;split
     ·exact .inl ⟨rfl,show(9:Int)≠0 by decide⟩
     ·rename_i hn;right;have h0:=(Js (PA.1 hf)).2.1;have gP:E7 d b=some k:=by unfold E7;rw[NE h0];exact hk
      have hc:=CD d b.toNat p.toNat k data;have iQ:(k.next:Int)=p:=PA.1 hn;unfold Gn at hc⊢;split
      ·rename_i ht;rw[NE ht]at hc;exact⟨k,Av d data,⟨hc,gP,rfl⟩,by simpa using hb,iQ,.inr ⟨rfl,rfl⟩⟩
      ·rename_i ht;rw[ND ht]at hc;exact⟨k,data,⟨hc,gP,rfl⟩,by simpa using hb,iQ,.inl ⟨rfl,rfl⟩⟩
def Bp1{k:G6}{p:Nat}(hp:1<=p)(img:List UInt8):V3 (k.put p img)=V3 k:=by
 unfold V3 G6.put;simp only;rw[NX,WG (by omega),NX]
section
variable {d:B8} {us:List (Int×Int)} {b:Int}
def DI.pg(h:DI d us)(hb:b∈fs us){p:Int}(hp:1<=p)(data:List UInt8):DI (prog d b p data).2 us/\Fx us d (prog d b p data).2:=by
 rcases CB d b p data with⟨h1,-⟩|⟨k,img,t,h1,h2,-⟩
 ·rw[h1];exact⟨h,fun x _=>rfl⟩
 ·exact⟨h.frame t (Bp1 (by omega) img),fun x hx=>t.ne fun e=>hx (e▸hb)⟩
def DI.pgI(h:DI d us)(hb:b∈fs us)(hd:Hd)(hp:1<=hd.2.2.2.2.1)(p:List UInt8):DI (O4 d b hd p).2 us/\Fx us d (O4 d b hd p).2:=by
 unfold O4;split
 ·exact⟨h,fun x _=>rfl⟩
 ·exact h.pg hb hp _
theorem DI.apG(ep at' kind n:Int)(ha:1<=at'): ∀(l:List (List UInt8)) {d:B8} (i:Nat),DI d us->b∈fs us->DI (N2 b ep at' kind n d i l).2 us/\Fx us d (N2 b ep at' kind n d i l).2
 |[],d,i,h,hb=>⟨h,fun x _=>rfl⟩
 |p::r,d,i,h,hb=>by
  obtain⟨h1,h2⟩:=h.pgI hb (kind,i,n,ep,at'+i,()) (by simp only;omega) p;unfold N2;split
  ·obtain⟨h3,h4⟩:=DI.apG ep at' kind n ha r (i+1) h1 hb;exact⟨h3,fun x hx=>(h4 x hx).trans (h2 x hx)⟩
  ·exact⟨h1,h2⟩
def DI.app(h:DI d us)(hb:b∈fs us)(ep:Int)(ha:1<=at')(kind:Int)(l:List (List UInt8)):DI (S1 d b ep at' kind l).2 us/\Fx us d (S1 d b ep at' kind l).2:=by
 unfold S1;split
 ·exact⟨h,fun x _=>rfl⟩
 ·exact DI.apG ep at' kind _ ha l 0 h hb
def DI.sealD(h:DI d us)(hb:b∈fs us)(ep:Int)(ha:1<=at')(l:List It):DI (U7 d b ep at' l).2 us/\Fx us d (U7 d b ep at' l).2:=by
 unfold U7;split
 ·exact h.pgI hb _ ha _
 ·exact⟨h,fun x _=>rfl⟩
def DI.opn2(h:DI d us)(dv:G3 d){k:G6}(hk:E7 d b=some k)(bD:k.bad=false)(hb:b∉fs us)(bS: ∀u∈us,u.2<ep):
  ((U9 d b ep).2=d/\(U9 d b ep).1≠0)\/((U9 d b ep).1=0/\DI (U9 d b ep).2 (us++[(b,ep)])/\ ∀x,x≠b->E7 (U9 d b ep).2 x=E7 d x)\/
  ((U9 d b ep).1=11/\ ∃us',DI (U9 d b ep).2 us'/\ ∀u∈us',u.2<=ep):=by
 unfold U9 O4;rcases EW (1,0,1,ep,0,()) [] (d.c.S:Int)with⟨h0,S,hS,h1,he,-,gM⟩|⟨h0,-⟩
 ·rw[ND (by simpa using h0),gM];obtain rfl:d.c.S=S:=by omega
  have he:J7 (Aa ep)=0:=he;dsimp only;rcases CB d b 0 (I9 (1,0,1,ep,0,()) [] d.c.S)with hu|⟨k2,img,t,h2,h3,hc⟩
  ·exact .inl hu
  ·right;obtain rfl:k2=k:=by have:=t.at';rw[hk]at this;exact(NI this).symm
   have hn:k2.next=0:=by omega
   have aQ:=(dv.pg k2 (by obtain⟨_,hi,e⟩:=W2 hk;rw[<-e];exact NO hi)).1;have hP:=dv.c.p;have jQ:V3 (k2.put (0:Int).toNat img)=Bc img:=by
    unfold V3 G6.put;simp only;rw[ND (by rw[h2];decide),NX];rw[show(0:Int).toNat=0 from rfl,WE (by omega)];rfl
   rcases hc with⟨e1,rfl⟩|⟨e1,rfl⟩
   ·left;exact⟨e1,h.opn t hb (by rw[jQ];exact Aj7 he h1) bS,fun x hx=>t.ne hx⟩
   ·right;refine⟨e1,?_⟩;unfold Av at jQ t;rcases Cf8 he h1 (n:=R8 d.keep d.c.S) (by unfold R8;omega)with hz|hz
    ·exact⟨us,h.wash t hb (jQ.trans hz),fun u hu=>UJ (bS u hu)⟩
    ·exact⟨us++[(b,ep)],h.opn t hb (jQ.trans hz) bS,fun u hu=>by
      rcases NJ.1 hu with hu|hu
      ·exact UJ (bS u hu)
      ·rw[NM.1 hu];exact QJ _⟩
 ·rw[NE h0];exact .inl ⟨rfl,h0⟩
def Ym{k:G6}(dv:G3 d)(aG:d.down=false)(hk:E7 d b=some k)(bD:k.bad=false): ∃k',En d (M3 d b).2 b k k'/\(((M3 d b).1=11/\ ∃n,k'=k.torn d.c n)\/((M3 d b).1≠11/\k'=k.fresh d.c/\(M3 d b).1=if k'.bad=true then 10 else 0)):=by
 obtain⟨h0,hi,e⟩:=W2 hk;have hP:=dv.c.p;have hf:H6 d b 0=0:=by
  unfold H6;rw[ND (by rw[aG];decide),ND (by omega),ND (by omega)]
 have hc:=GA d b;unfold M3 at hc⊢;rw[ND (by simpa using hf),NV hi,e]at hc⊢;dsimp only at hc⊢;rw[ND (by rw[bD];decide)]at hc⊢;unfold Ku at hc⊢;split
 ·rename_i ht;rw[NE ht]at hc;exact⟨_,⟨hc,hk,rfl⟩,.inl ⟨rfl,_,rfl⟩⟩
 ·rename_i ht;rw[ND ht]at hc;refine⟨_,⟨hc,hk,rfl⟩,.inr ⟨?_,rfl,?_⟩⟩
  ·simp only;split<;>decide
  ·unfold G6.fresh;simp only[QR]
def Ak2(hP:4<=c.P)(k:G6):V3 (k.fresh c)=none:=by
 unfold V3 G6.fresh;split
 ·rfl
 ·simp only;rw[NX,SE,NE (by omega)];exact Xy _
def IV(hP:4<=c.P)(k:G6)(n:Nat):V3 (k.torn c n)=none\/V3 (k.torn c n)=V3 k:=by
 cases n with
 |zero=>right;unfold V3 G6.torn;simp
 |succ n=>
  left;unfold V3 G6.torn;split
  ·rfl
  ·simp only[RM,OM,ZB];exact Xy _
end
def MH{d:B8}(ok:G3 d)(aG:d.down=false){b:Nat}{k:G6}(hk:d.bs[b]?=some k):(W3 d b).map (fun h=>h.2.1)=V3 k:=by
 have hP:=ok.c.p;have hi:=(PL.1 hk).1;have hb:b<d.c.B:=by rw[<-ok.len];exact hi
 have hf: ∀p:Nat,p<d.c.P->H6 d b p=0:=fun p hp=>by
  unfold H6;rw[ND (by rw[aG];decide),ND (by omega),ND (by omega)]
 obtain⟨ps,eI⟩: ∃ps,ps=(K7 d b).1:=⟨_,rfl⟩;have hl:(K7 d b).1=(List.range d.c.P).map fun(p:Nat)=>(I5 d b (p:Int)).1:=by
  unfold K7;rw[ND (by simpa using hf 0 (by omega))]
 have h0:ps[0]?=some (if k.bad=true then blk d.c.S else k.pages.getD 0 []):=by
  rw[eI,hl,OU,YR (by omega)];simp only[RO];unfold I5;have:=hf 0 (by omega);rw[ND (by simpa using this),show((b:Int)).toNat=b by omega,hk];dsimp only;split<;>rfl
 have jQ:V3 k=Bc (if k.bad=true then blk d.c.S else k.pages.getD 0 []):=by
  unfold V3;split
  ·exact(Xy _).symm
  ·rfl
 rw[jQ];generalize (if k.bad=true then blk d.c.S else k.pages.getD 0 [])=p0 at h0;have hZ:ps≠[]:=fun e=>by rw[e]at h0;cases h0
 have hg:ps.getD 0 []=p0:=by rw[NX,h0];rfl
 have bS:N4 ps=(C1 p0).1.2.2.2.1:=by unfold N4;rw[hg]
 have mD:T6 ps 0 (1,0,1,N4 ps,0,())=if(C1 p0).2.2=0/\(C1 p0).1=Aa (N4 ps)then some (C1 p0).2.1 else none:=by
  unfold T6;rw[NE (by omega),show(0:Int).toNat=0 from rfl,h0];rfl
 have gX:(P1 ps).2=(Bc p0).isSome/\((Bc p0).isSome=true->some (P1 ps).1.1=Bc p0):=by
  by_cases hc:(C1 p0).2.2=0/\(C1 p0).1=Aa (C1 p0).1.2.2.2.1
  ·by_cases cY:(C1 p0).2.1=[]
   ·have e1:Bc p0=some (C1 p0).1.2.2.2.1:=by unfold Bc;exact NE ⟨hc.1,hc.2,cY⟩
    rw[e1];unfold P1;rw[ND hZ,mD,bS,NE hc,cY];dsimp only;split<;>exact⟨rfl,fun _=>rfl⟩
   ·have e1:Bc p0=none:=by unfold Bc;exact ND fun q=>cY q.2.2
    rw[e1];unfold P1;rw[ND hZ,mD,bS,NE hc];cases hq:(C1 p0).2.1 with
    |nil=>exact absurd hq cY
    |cons x r=>exact⟨rfl,fun h=>by cases h⟩
  ·have e1:Bc p0=none:=by unfold Bc;exact ND fun q=>hc ⟨q.1,q.2.1⟩
   rw[e1];unfold P1;rw[ND hZ,mD,bS,ND hc];exact⟨rfl,fun h=>by cases h⟩
 unfold W3;rw[<-eI];cases hq:Bc p0 with
 |none=>
  rw[hq]at gX;rw[ND (by rw[gX.1];decide)];rfl
 |some e=>
  rw[hq]at gX;rw[NE (by rw[gX.1];rfl)];exact gX.2 rfl
def Xv{d:B8}{us:List (Int×Int)}(h:DI d us)(ok:G3 d)(aG:d.down=false):(G4 d).map (fun x=>(x.1,x.2.1))=us:=by
 have eV: ∀(b:Nat) x,W3 d b=some x->b<d.c.B->Db d x.1=some x.2.1:=fun b x hx hb=>by
  have h1:=(Jf hx).1;have hi:b<d.bs.length:=by rw[ok.len];exact hb
  have h2:=MH ok aG (NV hi);rw[hx]at h2;unfold Db E7;rw[h1,NE (by omega),NK,NV hi];exact h2.symm
 have cC: ∀x∈G4 d,(x.1,x.2.1)∈us:=fun x hx=>by
  obtain⟨b,hb,hr⟩:=Sq ((Ih Hp (Ay d d.c.B)).subset hx);have h1:=eV b x hr hb;have h2:x.1∈fs us:=QQ fun hn=>by rw[h.fr _ hn]at h1;cases h1
  obtain⟨u,hu,he⟩:=NY.1 h2;have h3:=h.hd u hu;rw[he,h1]at h3;have:(x.1,x.2.1)=u:=by rw[<-he,NI h3]
  rw[this];exact hu
 have yS: ∀u∈us,u∈(G4 d).map fun x=>(x.1,x.2.1):=fun u hu=>by
  have h1:=h.hd u hu;obtain⟨k,hk,-⟩:=Aj5 h1;obtain⟨h0,hi,-⟩:=W2 hk;have h2:=MH ok aG (NV hi);have h3:V3 d.bs[u.1.toNat]=some u.2:=by
   unfold Db E7 at h1;rw[NE h0,NV hi]at h1;exact h1
  rw[h3]at h2;cases hr:W3 d u.1.toNat with
  |none=>rw[hr]at h2;cases h2
  |some x=>
   rw[hr]at h2;have h4:=(Jf hr).1;refine NY.2 ⟨x,(Ih Hp (Ay d d.c.B)).symm.subset ?_,?_⟩
   ·unfold Ay;exact UF.2 ⟨u.1.toNat,QT.2 (by rw[<-ok.len];exact hi),hr⟩
   ·have h5:x.2.1=u.2:=NI h2;rw[h4,h5,TJ h0]
 have aZ:((G4 d).map fun x=>(x.1,x.2.1)).Nodup:=by
  have h1:=Zd d;unfold Ar at h1;refine ZC Prod.fst (fun a b fH e=>fH (congrArg Prod.fst e)) (S:=fun a b=>a≠b) ?_;rw[OO];exact h1
 have yV:us.Nodup:=ZC Prod.fst (fun a b fH e=>fH (congrArg Prod.fst e)) (S:=fun a b=>a≠b) h.nd;have hp:((G4 d).map fun x=>(x.1,x.2.1)).Perm us:=(WP aZ yV).2 fun u=>⟨fun hu=>by
  obtain⟨x,hx,rfl⟩:=NY.1 hu;exact cC x hx,yS u⟩
 refine List.Perm.eq_of_pairwise (le:=fun a b=>a.2<=b.2) (fun a b ha hb h1 h2=>?_) ?_ (h.srt.imp fun fH=>UJ fH) hp
 ·have hs:=h.srt;have:=MO (R:=fun u v:Int×Int=>u.2=v.2->u=v) (fun a b fH e=>(fH e.symm).symm) (fun a _=>rfl) (hs.imp fun{u v} xV e=>absurd e (Int.ne_of_lt xV)) a (hp.subset ha) b hb;exact this (Int.le_antisymm h1 h2)
 ·rw[SZ];exact Cf2 d
def Ce4{p:List UInt8}{S:Nat}(h1:64<=S/\S<=512)(h2:p.length<=S-16){i:Nat}(hi:i<p.length):(I9 h p S)[12+i]?=p[i]?:=by
 have hl:=Ly (h:=h) (p:=p) (size:=S) (by omega) h2;have hb:=Jq h p.length;unfold I9;rw[QX (by omega)];unfold X8;rw[NZ,QY (by omega),QX (by omega)];congr 1;omega
def Ce5{p:List UInt8}{S:Nat}(h1:64<=S/\S<=512)(h2:p.length<=S-16){i:Nat}(hi:p.length<=i)(eZ:i<S-16):(I9 h p S)[12+i]?=some 0:=by
 have hl:=Ly (h:=h) (p:=p) (size:=S) (by omega) h2;have hb:=Jq h p.length;unfold I9;rw[QX (by omega)];unfold X8;rw[NZ,QY (by omega),QY (by omega),SE,NE (by omega)]
def Ba0(e:J7 h=0){pl:List UInt8}{S n:Nat}(h1:64<=S/\S<=512)(h2:pl.length<=S-16)(hn:n<=S){b:List UInt8}(hb:b=(I9 h pl S).take n++blk (S-n))(ok:(C1 b).2.2=0):
  (C1 b).1.1=h.1/\(C1 b).1.2.2.1=h.2.2.1/\(b=I9 h pl S\/((C1 b).2.1.length=S-16/\(C1 b).2.1.getD (S-17) 0=255)):=by
 have hC:=Uj (h:=h) (p:=pl) (S:=S) (by omega) h2;have dI:b.length=S:=by rw[hb,NR,NW,hC];unfold blk;rw[PE];omega
 have fD: ∀i,i<n->b[i]?=(I9 h pl S)[i]?:=fun i hi=>by
  rw[hb,QX (by rw[NW,hC];omega),RF,NE hi]
 have sM: ∀i,n<=i->i<S->b[i]?=some 255:=fun i hi eZ=>by
  rw[hb,QY (by rw[NW,hC];omega),NW,hC];unfold blk;rw[SE,NE (by omega)]
 obtain⟨-,e',bQ,gM,-⟩:=Lv ok;rw[dI]at bQ gM;obtain⟨a1,a2,a3,a4,a5,a6⟩:=FA e pl h1 h2;obtain⟨c1,c2,c3,c4,c5,c6⟩:=FA e' (C1 b).2.1 h1 bQ;rw[gM]at c1 c5;have cy:3<n:=QQ fun hc=>by
  have:=sM 3 (by omega) (by omega);rw[NX,this]at c5;exact absurd c5 (by decide)
 have g: ∀i,i<n->b.getD i 0=(I9 h pl S).getD i 0:=fun i hi=>by rw[NX,NX,fD i hi]
 refine⟨?_,?_,?_⟩
 ·rw[<-c1,<-a1];show((b.getD 0 0).toNat:Int)=(((I9 h pl S).getD 0 0).toNat:Int);rw[g 0 (by omega)]
 ·rw[<-c1,<-a1];show((b.getD 2 0).toNat:Int)=(((I9 h pl S).getD 2 0).toNat:Int);rw[g 2 (by omega)]
 ·by_cases hS:S-4<=n
  ·left;have h4:=congrArg (List.take (S-4)) gM;rw[Ui _ _ (by omega) bQ]at h4;have h5:b.take (S-4)=X8 h pl S:=by
    rw[hb,YZ (by rw[NW,hC];omega),List.take_take,QF hS,Ui _ _ (by omega) h2]
   rw[<-gM];unfold I9;rw[h4,h5]
  ·right;have h5:=sM (S-5) (by omega) (by omega);rw[<-gM]at h5;have hp:(C1 b).2.1.length=S-16:=QQ fun hc=>by
    have:=Ce5 (h:=(C1 b).1) h1 bQ (i:=S-17) (by omega) (by omega);rw[show 12+(S-17)=S-5 by omega,h5]at this;exact absurd (NI this) (by decide)
   refine⟨hp,?_⟩;have:=Ce4 (h:=(C1 b).1) h1 bQ (i:=S-17) (by omega);rw[show 12+(S-17)=S-5 by omega,h5]at this;rw[NX,<-this];rfl
theorem Si{p:List UInt8}: ∀{n i:Nat} {nx:Int} {y:List It×Int},Cu p n i nx=some y->nx<=y.2/\(∀x∈y.1,nx<=x.2.1/\1<=x.2.2.1/\x.2.1+x.2.2.1<=y.2)/\(∀j,j<n->(I4 p (i+j)).2.2.1<=y.2-nx)/\y.1=(List.range n).map fun j=>I4 p (i+j)
 |0,i,nx,y,h=>by
  obtain rfl:=NI h;exact⟨QJ _,by simp,fun j hj=>by omega,rfl⟩
 |n+1,i,nx,y,h=>by
  have hr:0<=(I4 p i).2.2.1:=by unfold I4;simp only;omega
  unfold Cu at h;split at h
  ·rename_i hc;obtain⟨fQ,cY,aa⟩:=hc;cases hy:Cu p n (i+1) (nx+(I4 p i).2.2.1)with
   |none=>rw[hy]at h;cases h
   |some y'=>
    rw[hy]at h;obtain rfl:=NI h;obtain⟨a1,a2,a3,a4⟩:=Si hy;refine⟨by simp only;omega,fun x hx=>?_,fun j hj=>?_,?_⟩
    ·rcases OC.1 hx with rfl|hx
     ·exact⟨by omega,by omega,by simp only;omega⟩
     ·have:=a2 x hx;exact⟨by omega,this.2.1,this.2.2⟩
    ·cases j with
     |zero=>simp only[QU];omega
     |succ j=>
      have:=a3 j (by omega);rw[show i+(j+1)=i+1+j by omega];simp only;omega
    ·rw[ZD,NS,OO];simp only;rw[a4];congr 1;refine TA fun j _=>?_;show I4 p (i+1+j)=I4 p (i+(j+1));congr 1;omega
  ·cases h
def Wa{p:List UInt8}(h:Ax p last=some l):p.length%3=0/\ ∃y,Cu p (p.length/3) 0 1=some y/\y.2=last/\l=y.1:=by
 unfold Ax at h;split at h
 ·cases h
 ·rename_i h3;split at h
  ·rename_i y hy;split at h
   ·rename_i hl;exact⟨by omega,y,hy,hl,(NI h).symm⟩
   ·cases h
  ·cases h
def KZ{p:List UInt8}(h:Ax p last=some l): ∀x∈l,1<=x.2.1/\x.2.1<last:=fun x hx=>by
 obtain⟨-,y,hy,hl,rfl⟩:=Wa h;have:=(Si hy).2.1 x hx;omega
def Bh4{p:List UInt8}{S q:Nat}(h1:64<=S)(hl:p.length=S-16)(h255:p.getD (S-17) 0=255)(hq:q<=15):Ax p q=none:=by
 cases h:Ax p q with
 |none=>rfl
 |some l=>
  obtain⟨h3,y,hy,lR,-⟩:=Wa h;have:=(Si hy).2.2.1 (p.length/3-1) (by omega);unfold I4 at this;simp only at this;rw[show(0+(p.length/3-1))*3+2=S-17 by omega,h255]at this;have e:((255:UInt8).toNat:Int)=255:=by decide
  omega
def Bh7(a b:List It):N3 (a++b)=N3 a++N3 b:=by simp[N3]
def Rw(h:0<=n/\n<=255):((Ag n).toNat:Int)=n:=by rw[<-IL h.1 h.2,IE h.1 h.2]
def LG(pre:List It)(x:It)(post:List It)(hx:Ba (Bo x)):I4 (N3 (pre++x::post)) pre.length=x:=by
 have hl:=Pq pre;have e:N3 (pre++x::post)=N3 pre++(Ag x.1::Ag x.2.1::Ag x.2.2.1::N3 post):=by rw[Bh7];simp[N3,Bo]
 have hg: ∀k,(N3 (pre++x::post)).getD (pre.length*3+k) 0=(Ag x.1::Ag x.2.1::Ag x.2.2.1::N3 post).getD k 0:=by
  intro k;rw[e,NX,NX,QY (by omega),show pre.length*3+k-(N3 pre).length=k by omega]
 unfold I4;have g0:=hg 0;rw[QU]at g0;rw[g0,hg 1,hg 2];have h1:((Ag x.1).toNat:Int)=x.1:=Rw (hx _ (by simp[Bo]));have h2:((Ag x.2.1).toNat:Int)=x.2.1:=Rw (hx _ (by simp[Bo]));have h3:((Ag x.2.2.1).toNat:Int)=x.2.2.1:=Rw (hx _ (by simp[Bo]));simp only[ZB,List.getD_cons_succ,h1,h2,h3]
def Bh3{l':List It}(cC:Ba (l.flatMap Bo)){q:Nat}(h:Ax (N3 l) q=some l'): ∀x∈l',x∈l:=fun x hx=>by
 obtain⟨-,y,hy,-,rfl⟩:=Wa h;rw[(Si hy).2.2.2]at hx;obtain⟨j,hj,rfl⟩:=NY.1 hx;have hj:=QT.1 hj;have hl:=Pq l;have pN:j<l.length:=by omega
 have hm:l[j]∈l:=NO pN;have hs:=LG (l.take j) l[j] (l.drop (j+1)) fun n hn=>cC n (OY.2 ⟨_,hm,hn⟩);rw[<-OZ pN,PR,NW,QF (by omega)]at hs;rw[QO,hs];exact hm
def Br2(A B:List UInt8){j:Nat}(hA:A.length=j*6){x:It}(hx:Du x):Z0 (A++(kb x++B)) j=x:=by
 obtain⟨h1,h2,h3,h4,h5,h6⟩:=hx;have hl:=ER x;have hg: ∀i,i<6->(A++(kb x++B)).getD (j*6+i) 0=(kb x).getD i 0:=fun i hi=>by
  rw[NX,NX,QY (by omega),hA,VP,QX (by omega)]
 have hd:(A++(kb x++B)).drop (j*6+2)=E4 x.2.2.1.toNat 4++B:=by
  rw[<-hA,List.drop_append,YQ (by omega),NT,show A.length+2-A.length=2 by omega];unfold kb;rfl
 unfold Z0;have g0:=hg 0 (by omega);rw[QU]at g0;rw[g0,hg 1 (by omega),hd,SR (Df _ _),Pz 4 _ (by omega)];have e0:(kb x).getD 0 0=Ag x.1:=rfl;have e1:(kb x).getD 1 0=Ag x.2.1:=rfl;rw[e0,e1,Rw ⟨h1,by omega⟩,Rw ⟨h3,by omega⟩,TJ (by omega)]
theorem Aa1: ∀(l:List It) (A:List UInt8) (j:Nat),A.length=j*6->Mk l->(List.range l.length).map (fun i=>Z0 (A++l.flatMap kb) (j+i))=l
 |[],A,j,_,_=>rfl
 |x::r,A,j,hA,h=>by
  rw[NU,ZD,NS,OO,OL];have h1:=Br2 A (r.flatMap kb) hA (h x (by simp));have h2:=Aa1 r (A++kb x) (j+1) (by rw[NR,ER];omega) fun y hy=>h y (NN _ hy);rw[QU,h1];congr 1;rw[NZ]at h2;refine Eq.trans (TA fun i _=>?_) h2;show Z0 _ (j+(i+1))=Z0 _ (j+1+i);congr 1;omega
def Ag5(h:(K9 l).2=0):(V1 (K9 l).1).1=l:=by
 unfold K9 at h⊢;split at h
 ·rename_i hr;rw[NE hr];dsimp only;have hl:=Ah0 l;have hp:=Aa1 l [] 0 rfl hr;simp only[NT,QO]at hp;have he:Er (l.flatMap kb) ((l.flatMap kb).length/6)=l:=by
   unfold Er;rw[hl,show l.length*6/6=l.length by omega];exact hp
  unfold V1;rw[ND (by rw[hl];omega),he,NE hr]
 ·cases h
def Bz7{p:List UInt8}{S:Nat}(h1:64<=S)(hl:p.length=S-16)(h255:p.getD (S-17) 0=255):(V1 p).1=[]:=by
 unfold V1;split
 ·rfl
 ·rename_i h6;have aT: ¬Mk (Er p (p.length/6)):=fun ha=>by
   have hm:Z0 p (p.length/6-1)∈Er p (p.length/6):=NY.2 ⟨_,QT.2 (by omega),rfl⟩;have:=(ha _ hm).2.2.2.2.2;have hd:(p.drop ((p.length/6-1)*6+2)).take 4=[p.getD (S-20) 0,p.getD (S-19) 0,p.getD (S-18) 0,255]:=by
    rw[<-h255];refine UZ (by simp;omega) fun i i1 i2=>?_;have i2:i<4:=i2;rw[List.getElem_take,UA];have hi: ∀n,(h:n<p.length)->p[n]=p.getD n 0:=fun n h=>by rw[NX,NV h];rfl
    rw[hi];rcases(show i=0\/i=1\/i=2\/i=3 by omega)with rfl|rfl|rfl|rfl
    ·show p.getD _ 0=p.getD (S-20) 0;congr 1;omega
    ·show p.getD _ 0=p.getD (S-19) 0;congr 1;omega
    ·show p.getD _ 0=p.getD (S-18) 0;congr 1;omega
    ·show p.getD _ 0=p.getD (S-17) 0;congr 1;omega
   unfold Z0 at this;rw[hd]at this;simp only[I8]at this;rw[show(255:UInt8).toNat=255 from rfl]at this;omega
  rw[ND aT]
def Em(e:Int)(k:G6)(l:List It):Prop:= ∀x∈l,∀p,k.pages[x.2.1.toNat]?=some p->(C1 p).2.2=0->(x.1=2->(C1 p).1.2.2.1<=x.2.2.1)/\(x.1=3->x.2.2.1<=1/\ ∀y∈(V1 (C1 p).2.1).1,y.2.2.1<=e)
def Hq(n:Int):Prop:=n=1\/n=2\/n=4\/n=8
def Ju(P n:Int):Prop:=Hq n/\n+2<=P
def HK(P:Int)(k:G6)(q:Nat)(p:List UInt8):Prop:=(C1 p).2.2=0->((C1 p).1.1=2->Ju P (C1 p).1.2.2.1)/\((C1 p).1.1=4-> ∀l,Ax (C1 p).2.1 q=some l->Em (C1 p).1.2.2.2.1 k l)/\((C1 p).1.1=3->(C1 p).1.2.2.1=1/\ ∀y∈(V1 (C1 p).2.1).1,y.2.2.1<=(C1 p).1.2.2.2.1)
structure Hw(P:Int)(k:G6):Prop where
 pg: ∀(q:Nat) p,k.pages[q]?=some p->HK P k q p
 bl: ∀(q:Nat) p,k.next<=q->k.pages[q]?=some p->(C1 p).2.2≠0
def Oi(S:Nat):(C1 (blk S)).2.2≠0:=fun h=>by
 have:=(Lv h).2.2.2.2;unfold R7 blk at this;rw[US]at this;obtain⟨x,hx,hn⟩:=this;rw[PW hx]at hn;exact absurd (by decide) hn
def Em.put{k:G6}(h:Em e k l){p:Nat}(hl: ∀x∈l,0<=x.2.1/\x.2.1<p)(img:List UInt8):Em e (k.put p img) l:=fun x hx pg bI ok=>by
 have:=hl x hx;refine h x hx pg ?_ ok;unfold G6.put at bI;simp only at bI
 rwa [WG (by omega)]at bI
def Hw.put{P:Int}{k:G6}(h:Hw P k){p:Nat}(hp:k.next=p){img:List UInt8}(hi:HK P k p img):Hw P (k.put p img):=by
 have hq: ∀(q:Nat) pg,(k.put p img).pages[q]?=some pg->(q=p/\pg=img)\/(q≠p/\k.pages[q]?=some pg):=fun q pg bI=>by
  unfold G6.put at bI;simp only at bI;rw[RX]at bI;split at bI
  ·rename_i e;split at bI
   ·exact .inl ⟨e.symm,(NI bI).symm⟩
   ·cases bI
  ·rename_i e;exact .inr ⟨fun q=>e q.symm,bI⟩
 refine⟨fun q pg bI ok=>?_,fun q pg hn bI=>?_⟩
 ·rcases hq q pg bI with⟨rfl,rfl⟩|⟨hZ,h2⟩
  ·obtain⟨a1,a2,a3⟩:=hi ok;exact⟨a1,fun h4 l hl=>(a2 h4 l hl).put (fun x hx=>by have:=KZ hl x hx;omega) _,a3⟩
  ·rcases PY q p with hO|aM
   ·obtain⟨a1,a2,a3⟩:=h.pg q pg h2 ok;exact⟨a1,fun h4 l hl=>(a2 h4 l hl).put (fun x hx=>by have:=KZ hl x hx;omega) _,a3⟩
   ·exact absurd ok (h.bl q pg (by omega) h2)
 ·have hn:p+1<=q:=hn;rcases hq q pg bI with⟨rfl,rfl⟩|⟨hZ,h2⟩
  ·omega
  ·exact h.bl q pg (by omega) h2
def Hw.fresh(P:Int)(k:G6)(c:Bh):Hw P (k.fresh c):=by
 have hp: ∀(q:Nat) pg,(k.fresh c).pages[q]?=some pg->(C1 pg).2.2≠0:=fun q pg bI=>by
  have:pg∈List.replicate c.P (blk c.S):=QI bI;rw[PW this];exact Oi _
 exact⟨fun q pg bI ok=>absurd ok (hp q pg bI),fun q pg _ bI=>hp q pg bI⟩
def AD{k:G6}{n q:Nat}{pg:List UInt8}(h:(k.torn c n).pages[q]?=some pg)(ok:(C1 pg).2.2=0):k.pages[q]?=some pg:=by
 unfold G6.torn at h;simp only at h;rcases PY q n with hO|aM
 ·rw[QX (by simpa using hO),SE,NE hO]at h;rw[<-NI h]at ok;exact absurd ok (Oi _)
 ·rw[QY (by simpa using aM),PE,RW,show n+(q-n)=q by omega]at h;exact h
def Em.torn{k:G6}(h:Em e k l)(c:Bh)(n:Nat):Em e (k.torn c n) l:=fun x hx pg bI ok=>h x hx pg (AD bI ok) ok
def Hw.torn{P:Int}{k:G6}(h:Hw P k)(hl:k.pages.length=c.P)(n:Nat):Hw P (k.torn c n):=by
 refine⟨fun q pg bI ok=>?_,fun q pg hn bI ok=>?_⟩
 ·obtain⟨a1,a2,a3⟩:=h.pg q pg (AD bI ok) ok;exact⟨a1,fun h4 l hs=>(a2 h4 l hs).torn c n,a3⟩
 ·have h1:=(PL.1 (AD bI ok)).1;have hn:c.P<=q:=hn;omega
def Em.fresh(e:Int)(k:G6)(c:Bh)(l:List It):Em e (k.fresh c) l:=fun x hx pg bI ok=>by
 have:pg∈List.replicate c.P (blk c.S):=QI bI;rw[PW this]at ok;exact absurd ok (Oi _)
def DB(d:B8):Prop:= ∀b k,E7 d b=some k->Hw d.c.P k
def N6(e:Int)(d:B8)(b:Int)(l:List It):Prop:= ∀k,E7 d b=some k->Em e k l
section
variable {d d':B8} {b:Int} {k k':G6}
def DB.set(h:DB d)(t:En d d' b k k')(hk:Hw d.c.P k'):DB d':=fun x y hy=>by
 rw[t.c];by_cases e:x=b
 ·rw[e,t.own]at hy;rw[<-NI hy];exact hk
 ·rw[t.ne e]at hy;exact h x y hy
def N6.set{b':Int}(h:N6 e d b' l)(t:En d d' b k k')(hk:b'=b->Em e k l->Em e k' l):N6 e d' b' l:=fun y hy=>by
 by_cases he:b'=b
 ·rw[he,t.own]at hy;rw[<-NI hy];exact hk he (h k (by rw[he];exact t.at'))
 ·rw[t.ne he]at hy;exact h y hy
def DB.congr(h:DB d)(hb:d'.bs=d.bs)(hc:d'.c=d.c):DB d':=by
 have e:E7 d'=E7 d:=by funext x;unfold E7;rw[hb]
 unfold DB;rw[e,hc];exact h
def N6.congr(h:N6 e d b l)(hb:d'.bs=d.bs):N6 e d' b l:=by
 have e:E7 d'=E7 d:=by funext x;unfold E7;rw[hb]
 unfold N6;rw[e];exact h
def Ws(hd:DB d)(b:Int)(h:Hd)(pl:List UInt8)(hc:h.1=2->Ju d.c.P h.2.2.1)(hs:h.1=4-> ∃l,pl=N3 l/\Ba (l.flatMap Bo)/\N6 h.2.2.2.1 d b l)(pJ:h.1=3->h.2.2.1=1/\ ∀y∈(V1 pl).1,y.2.2.1<=h.2.2.2.1):
  DB (O4 d b h pl).2/\(∀e b' l',N6 e d b' l'->(b'=b-> ∀x∈l',0<=x.2.1/\x.2.1<h.2.2.2.2.1)->N6 e (O4 d b h pl).2 b' l')/\
  ((O4 d b h pl).1=0-> ∀k,E7 (O4 d b h pl).2 b=some k-> ∀p,k.pages[h.2.2.2.2.1.toNat]?=some p->C1 p=(h,pl,0)):=by
 unfold O4;rcases EW h pl (d.c.S:Int)with⟨h0,S,hS,h1,he,aQ,gM⟩|⟨h0,-⟩
 ·rw[ND (by simpa using h0),gM];obtain rfl:d.c.S=S:=by omega
  dsimp only;have bI:=Ik he;rcases CB d b h.2.2.2.2.1 (I9 h pl d.c.S)with⟨e1,e2⟩|⟨k,img,t,h2,h3,dH⟩
  ·rw[e1];exact⟨hd,fun _ b' l' bQ _=>bQ,fun hz=>absurd hz e2⟩
  ·have bD:=hd b k t.at';have hpn:k.next=h.2.2.2.2.1.toNat:=by omega
   have tQ: ∀(l':List It),h.1=4->Ax pl h.2.2.2.2.1.toNat=some l'->Em h.2.2.2.1 k l':=fun l' h4 bQ=>by
    obtain⟨l,rfl,cC,hT⟩:=hs h4;exact fun x hx=>hT k t.at' x (Bh3 cC bQ x hx)
   have hI:HK d.c.P k h.2.2.2.2.1.toNat img:=fun ok=>by
    have key: ∀b:List UInt8,C1 b=(h,pl,0)->((C1 b).1.1=2->Ju d.c.P (C1 b).1.2.2.1)/\((C1 b).1.1=4-> ∀l,Ax (C1 b).2.1 h.2.2.2.2.1.toNat=some l->Em (C1 b).1.2.2.2.1 k l)/\((C1 b).1.1=3->(C1 b).1.2.2.1=1/\ ∀y∈(V1 (C1 b).2.1).1,y.2.2.1<=(C1 b).1.2.2.2.1):=fun b hb=>by
     rw[hb];exact⟨hc,fun h4 l hl=>tQ l h4 hl,pJ⟩
    rcases dH with⟨-,rfl⟩|⟨-,bo⟩
    ·exact key _ (Jh he pl h1 aQ).1
    ·unfold Av at bo;obtain⟨a1,a2,a3⟩:=Ba0 he h1 aQ (n:=R8 d.keep d.c.S) (by unfold R8;omega) bo ok;rcases a3 with a3|⟨a3,a4⟩
     ·rw[a3];exact key _ (Jh he pl h1 aQ).1
     ·refine⟨fun h2=>by rw[a2];exact hc (a1▸h2),fun h4 l hl=>?_,fun h5=>⟨by rw[a2];exact(pJ (a1▸h5)).1,fun y hy=>?_⟩⟩
      ·rw[Bh4 h1.1 a3 a4 (by omega)]at hl;cases hl
      ·rw[Bz7 h1.1 a3 a4]at hy;cases hy
   refine⟨hd.set t (bD.put hpn hI),fun _ b' l' bQ hx=>bQ.set t fun e hT=>hT.put (fun x bC=>by have:=hx e x bC;omega) _,fun hz k2 eA p hp=>?_⟩;rcases dH with⟨-,rfl⟩|⟨e1,-⟩
   ·rw[t.own]at eA;rw[<-NI eA]at hp;unfold G6.put at hp;simp only at hp;rw[RX]at hp;split at hp
    ·split at hp
     ·rw[<-NI hp,(Jh he pl h1 aQ).1]
     ·cases hp
    ·rename_i hZ;exact absurd rfl hZ
   ·rw[e1]at hz;cases hz
 ·rw[NE h0];exact⟨hd,fun _ b' l' bQ _=>bQ,fun hz=>absurd hz h0⟩
end
theorem HA{b ep at' kind n P:Int}(sJ:kind≠4)(hc:kind=2->Ju P n)(ha:0<=at'): ∀(l:List (List UInt8)) {d:B8} (i:Nat),DB d->d.c.P=P->(kind=3->n=1/\ ∀p∈l,∀y∈(V1 p).1,y.2.2.1<=ep)->DB (N2 b ep at' kind n d i l).2/\(∀e b' l',N6 e d b' l'->(b'=b-> ∀x∈l',0<=x.2.1/\x.2.1<at'+i)->N6 e (N2 b ep at' kind n d i l).2 b' l')
 |[],d,i,hd,_,_=>⟨hd,fun _ b' l' bQ _=>bQ⟩
 |p::r,d,i,hd,hP,h3=>by
  obtain⟨h1,h2,-⟩:=Ws hd b (kind,i,n,ep,at'+i,()) p (by rw[hP];exact hc) (fun h=>absurd h sJ) fun h=>⟨(h3 h).1,(h3 h).2 p (by simp)⟩;unfold N2;split
  ·obtain⟨h3,h4⟩:=HA sJ hc ha r (ep:=ep) (b:=b) (i+1) h1 (by rw[Pv];exact hP) fun h=>⟨(h3 h).1,fun p hp=>(h3 h).2 p (NN _ hp)⟩;exact⟨h3,fun e' b' l' bQ hx=>h4 e' b' l' (h2 e' b' l' bQ hx) fun e x bC=>by have:=hx e x bC;omega⟩
  ·exact⟨h1,h2⟩
def Cs8{d:B8}(hd:DB d)(b ep:Int){kind:Int}(sJ:kind≠4)(ha:0<=at')(l:List (List UInt8))(hc:kind=2->Ju d.c.P l.length)(h3:kind=3->(l.length:Int)=1/\ ∀p∈l,∀y∈(V1 p).1,y.2.2.1<=ep):
  DB (S1 d b ep at' kind l).2/\(∀e b' l',N6 e d b' l'->(b'=b-> ∀x∈l',0<=x.2.1/\x.2.1<at')->N6 e (S1 d b ep at' kind l).2 b' l')/\((S1 d b ep at' kind l).1=0->N6 ep (S1 d b ep at' kind l).2 b [(kind,at',(l.length:Int),())]):=by
 unfold S1;split
 ·exact⟨hd,fun _ b' l' bQ _=>bQ,fun h=>absurd (show(2:Int)=0 from h) (by decide)⟩
 ·rename_i hl;obtain⟨h1,h2⟩:=HA (ep:=ep) (b:=b) sJ hc ha l 0 hd rfl h3;refine⟨h1,fun e b' l' bQ hx=>h2 e b' l' bQ (by simpa using hx),fun h0=>?_⟩;cases l with
  |nil=>exact absurd rfl hl
  |cons p r=>
   obtain⟨g1,g2,g3⟩:=Ws hd b (kind,((0:Nat):Int),((p::r).length:Int),ep,at'+((0:Nat):Int),()) p hc (fun h=>absurd h sJ) fun h=>⟨(h3 h).1,(h3 h).2 p (by simp)⟩;unfold N2 at h0⊢;split at h0
   ·rename_i hz;rw[NE hz];refine(HA (ep:=ep) (b:=b) sJ hc ha r (0+1) g1 (by rw[Pv]) fun h=>⟨(h3 h).1,fun p hp=>(h3 h).2 p (NN _ hp)⟩).2 ep b _ (fun k hk x hx pg bI ok=>?_) fun _ x hx=>?_
    ·rw[NM.1 hx]at bI⊢;have:=g3 hz k hk pg (by simpa using bI);rw[this];exact⟨fun _=>QJ _,fun h=>⟨by rw[(h3 h).1];exact QJ _,(h3 h).2 p (by simp)⟩⟩
    ·rw[NM.1 hx];exact⟨ha,by simp only;omega⟩
   ·rename_i hz;exact absurd h0 hz
def Bt3{d:B8}(hd:DB d)(b ep:Int):DB (U9 d b ep).2/\ ∀e b' l',N6 e d b' l'->(b'=b->l'=[])->N6 e (U9 d b ep).2 b' l':=by
 obtain⟨h1,h2,-⟩:=Ws hd b (1,0,1,ep,0,()) [] (fun h=>absurd (show(1:Int)=2 from h) (by decide)) (fun h=>absurd (show(1:Int)=4 from h) (by decide)) (fun h=>absurd (show(1:Int)=3 from h) (by decide));exact⟨h1,fun e' b' l' bQ hx=>h2 e' b' l' bQ fun e x bC=>by rw[hx e]at bC;cases bC⟩
def Bh1{d:B8}(hd:DB d)(b ep at':Int)(l:List It)(hl:N6 ep d b l):DB (U7 d b ep at' l).2/\ ∀e b' l',N6 e d b' l'->(b'=b-> ∀x∈l',0<=x.2.1/\x.2.1<at')->N6 e (U7 d b ep at' l).2 b' l':=by
 unfold U7;split
 ·rename_i cC;obtain⟨h1,h2,-⟩:=Ws hd b (4,0,1,ep,at',()) (N3 l) (fun h=>absurd (show(4:Int)=2 from h) (by decide)) (fun _=>⟨l,rfl,cC,hl⟩) fun h=>absurd (show(4:Int)=3 from h) (by decide);exact⟨h1,h2⟩
 ·exact⟨hd,fun _ b' l' bQ _=>bQ⟩
def Cl2{d:B8}(hd:DB d)(dv:G3 d)(aG:d.down=false){b:Int}{k:G6}(hk:E7 d b=some k)(bD:k.bad=false):DB (M3 d b).2/\ ∀e b' l',N6 e d b' l'->N6 e (M3 d b).2 b' l':=by
 obtain⟨k',t,hc⟩:=Ym dv aG hk bD;have aQ:=(dv.pg k (by obtain⟨_,hi,e⟩:=W2 hk;rw[<-e];exact NO hi)).1;rcases hc with⟨-,n,rfl⟩|⟨-,rfl,-⟩
 ·exact⟨hd.set t ((hd b k hk).torn aQ n),fun _ b' l' bQ=>bQ.set t fun _ hT=>hT.torn _ _⟩
 ·exact⟨hd.set t (Hw.fresh _ k _),fun e b' l' bQ=>bQ.set t fun _ _=>Em.fresh e k _ _⟩
def AX{d:B8}(hd:DB d){h:HD}(hh:h∈G4 d):N6 h.2.1 d h.1 h.2.2:=by
 obtain⟨b,hb,hr⟩:=Sq ((Ih Hp (Ay d d.c.B)).subset hh);intro k hk;unfold W3 at hr;split at hr
 ·rename_i hs;obtain rfl:=NI hr;have hk:E7 d (b:Int)=some k:=hk;obtain⟨h0,hi,e⟩:=W2 hk;obtain⟨ps,eI⟩: ∃ps,ps=(K7 d b).1:=⟨_,rfl⟩;have bI: ∀(q:Nat) p,ps[q]?=some p->(C1 p).2.2=0->k.pages[q]?=some p:=fun q p hp ok=>by
   rw[eI]at hp;unfold K7 at hp;split at hp
   ·cases hp
   ·rename_i hf;rw[OU]at hp;cases hq:(List.range d.c.P)[q]? with
    |none=>rw[hq]at hp;cases hp
    |some q'=>
     rw[hq]at hp;obtain⟨fK,gK⟩:=PL.1 hq;rw[YA]at gK;subst gK;simp only[RO]at hp;have hp:=NI hp;unfold I5 at hp;split at hp
     ·rw[<-hp]at ok;have:=(Lv ok).1.1;exact absurd this (show¬64<=([]:List UInt8).length by decide)
     ·rw[NV hi,e]at hp;dsimp only at hp;split at hp
      ·rw[<-hp]at ok;exact absurd ok (Oi _)
      ·simp only[NK]at hp;rw[NX]at hp;cases oM:k.pages[q]? with
       |none=>
        rw[oM]at hp;rw[<-hp]at ok;have:=(Lv ok).1.1;exact absurd this (show¬64<=([]:List UInt8).length by decide)
       |some p2=>rw[oM]at hp;rw[<-hp];rfl
  have hB:=hd b k hk;rw[<-eI];show Em (P1 ps).1.1 k (P1 ps).1.2.2;have yE: ∀(q:Nat) x,Q9 ps (N4 ps) q=some x-> ∀pg,k.pages[x.2.1.toNat]?=some pg->(C1 pg).2.2=0->(x.1=2->(C1 pg).1.2.2.1<=x.2.2.1)/\(x.1=3->x.2.2.1<=1/\ ∀y∈(V1 (C1 pg).2.1).1,y.2.2.1<=N4 ps):=fun q x hx pg dE ok=>by
   unfold Q9 at hx;split at hx
   ·rename_i b2 cZ;split at hx
    ·rename_i hc;split at hx
     ·obtain rfl:=NI hx;simp only[NK]at dE;rename_i aA;have nR:=bI q b2 cZ hc.1;rw[nR]at dE;obtain rfl:=NI dE;refine⟨fun _=>QJ _,fun h3=>?_⟩;obtain⟨n1,n2⟩:=(hB.pg _ _ nR hc.1).2.2 h3;refine⟨by simp only;omega,fun y hy=>?_⟩;have h0:=QM.1 aA 0 (QT.2 (by rw[n1];decide));have h4:(C1 b2).1.2.2.2.1=N4 ps:=by
       unfold T6 at h0;split at h0
       ·rw[show((q:Int)+((0:Nat):Int)).toNat=q by omega,cZ]at h0;dsimp only at h0;split at h0
        ·rename_i cY;rw[cY.2]
        ·cases h0
       ·cases h0
      rw[<-h4];exact n2 y hy
     ·cases hx
    ·cases hx
   ·cases hx
  have vN: ∀(n p:Nat),∀x∈Ao (Q9 ps (N4 ps)) (J8 ps) n p,∃q,Q9 ps (N4 ps) q=some x:=fun n=>by
   induction n with
   |zero=>intro p x hx;cases hx
   |succ n ih=>
    intro p x hx;unfold Ao at hx;split at hx
    ·split at hx
     ·rename_i y hy;rcases OC.1 hx with rfl|hx
      ·exact⟨p,hy⟩
      ·exact ih _ x hx
     ·exact ih _ x hx
    ·cases hx
  unfold P1;split
  ·exact fun x hx=>by cases hx
  ·split
   ·split
    ·rename_i l hl;split at hl
     ·unfold Gl T6 at hl;split at hl
      ·rename_i dh;split at hl
       ·rename_i b2 cZ;split at hl
        ·rename_i hc;have hl:Ax (C1 b2).2.1 (J8 ps)=some l:=hl;rw[NK]at cZ;have:=(hB.pg _ _ (bI _ _ cZ hc.1) hc.1).2.1 (by rw[hc.2]) l hl;rw[hc.2]at this;exact this
        ·cases hl
       ·cases hl
      ·cases hl
     ·cases hl
    ·exact fun x hx=>by
      obtain⟨q,hq⟩:=vN _ _ x hx;exact yE q x hq
   ·exact fun x hx=>by cases hx
 ·cases hr
structure Dn(ways:Int)(l:List C8):Prop where
 len:(l.length:Int)<=ways
 nd:(l.map C8.nm).Nodup
 fr: ∀s∈l,0<=s.freq/\s.freq<=3
def Dn.erase{l:List C8}(g:Dn ways l)(nm:Dm):Dn ways (I0 l nm):=by
 have hs:(I0 l nm).Sublist l:=UC ..;exact⟨by have:=hs.length_le;have:=g.len;omega,(hs.map _).nodup g.nd,fun s h=>g.fr s (hs.subset h)⟩
def Oa{l:List C8}(g:Dn ways l)(nm:Dm):nm∉(I0 l nm).map C8.nm:=by
 rcases Lx l nm with⟨e1,e2,e3⟩|⟨j,hj,e1,e2,e4,e3⟩
 ·rw[e3];intro h;obtain⟨s,hs,he⟩:=NY.1 h;rw[RR]at e2;exact e2 s hs (by simpa using he)
 ·rw[e3];have hl:l=l.take j++l[j]::l.drop (j+1):=by rw[<-OZ hj,PR]
  have hn:=g.nd;rw[hl,NQ,NS,QA]at hn;obtain⟨n1,n2,n3⟩:=hn;rw[OW]at n2;rw[NQ,NJ];rintro(h|h)
  ·exact n3 _ h l[j].nm (by simp) (by rw[e4])
  ·exact n2.1 (by rw[e4];exact h)
def AR{l:List C8}{x:C8}(g:Dn ways l)(h1:(l.length:Int)+1<=ways)(h2:x.nm∉l.map C8.nm)(h3:0<=x.freq/\x.freq<=3):Dn ways (l++[x]):=by
 refine⟨by rw[NR];simp only[NU,OX];omega,?_,fun s hs=>?_⟩
 ·rw[NQ,QA];refine⟨g.nd,by simp,fun a ha b hb=>?_⟩;simp only[NS,UV,NM]at hb;rintro rfl;rw[hb]at ha;exact h2 ha
 ·rcases NJ.1 hs with h|h
  ·exact g.fr s h
  ·rw[NM.1 h];exact h3
def EU(h:Nat)(p:Pl)(f:Int):(W1 h p f).nm=E1 h p:=rfl
def MQ{l:List C8}(g:Dn ways l)(hw:1<=ways)(h:Nat)(p:Pl):Dn ways (Ii l ways h p):=by
 have g1:=g.erase (E1 h p);have hn:=Oa g (E1 h p);unfold Ii;generalize I0 l (E1 h p)=l1 at g1 hn⊢;by_cases hf:U0 l1 ways=true
 ·rw[NE hf];unfold U0 at hf;have hl:(l1.length:Int)=ways:=by simpa using hf
  have hs:(l1.drop 1).Sublist l1:=List.drop_sublist ..;refine AR ⟨?_,(hs.map _).nodup g1.nd,fun s h=>g1.fr s (hs.subset h)⟩ ?_ ?_ (by simp[W1])
  ·rw[OJ];omega
  ·rw[OJ];omega
  ·rw[EU];exact fun h=>hn ((hs.map _).subset h)
 ·rw[ND hf];unfold U0 at hf;have hl:(l1.length:Int)≠ways:=by simpa using hf
  have:=g1.len;exact AR g1 (by omega) (by rw[EU];exact hn) (by simp[W1])
def Aj4{l:List C8}(g:Dn ways l)(nm:Dm):Dn ways (Bv l nm):=by
 unfold Bv;cases hx:l.findIdx? (fun s=>decide (s.nm=nm))with
 |none=>exact g
 |some j=>
  simp only;have hm:(l.modify j Jo).map C8.nm=l.map C8.nm:=by
   apply UL;intro i;rw[OU,OU,RE];cases l[i]? with
   |none=>rfl
   |some s=>
    by_cases nT:j=i
    ·simp[nT,Jo,C8.nm]
    ·simp[nT]
  refine⟨by rw[UY];exact g.len,by rw[hm];exact g.nd,fun s hs=>?_⟩;obtain⟨i,hi,rfl⟩:=XD.1 hs;rw[ZE];rw[UY]at hi;have h1:=g.fr l[i] (NO hi);split
  ·unfold Jo N8;simp only;split<;>omega
  ·exact h1
def Bv5{l:List C8}{x:C8}(g:Dn ways l)(h:Nat)(p q:Pl)(hx:l.find? (fun s=>decide (s.nm=E1 h p))=some x):Dn ways (I0 (I0 l (E1 h p)) (E1 h q)++[W1 h q (L9 (x.freq-1) 0)]):=by
 have g1:=g.erase (E1 h p);have g2:=g1.erase (E1 h q);have hn:=Oa g1 (E1 h q);have hO:(I0 l (E1 h p)).length<l.length:=by
  rcases Lx l (E1 h p)with⟨_,e,_⟩|⟨j,hj,_,_,_,e⟩
  ·rw[hx]at e;cases e
  ·rw[e,NR,NW,OJ];omega
 have bV:(I0 (I0 l (E1 h p)) (E1 h q)).length<=(I0 l (E1 h p)).length:=UW ..;have hfx:=g.fr x (UX hx);have:=g.len;refine AR g2 (by omega) (by rw[EU];exact hn) ?_;show 0<=L9 (x.freq-1) 0/\L9 (x.freq-1) 0<=3;unfold L9;split<;>omega
def Ka(ways:Int)(ss:List (List C8)):Prop:= ∀l∈ss,Dn ways l
def Ka.row(g:Ka ways ss){h:Nat}(hl:isi ss h<ss.length):Dn ways (C6 ss h):=by
 unfold C6;rw[NX,NV hl];exact g _ (NO hl)
def Ka.iset(g:Ka ways ss)(h:Nat){row:List C8}(hr:Dn ways row):Ka ways (iset ss h row):=by
 intro l hl;unfold Go.Proofs.YtieboeindnpnaaaGreatDoor.iset at hl;rcases VY hl with h1|h1
 ·exact g l h1
 ·rw[h1];exact hr
def Jm(ss:List (List C8))(h:Nat)(row:List C8):(iset ss h row).length=ss.length:=RQ ..
def Uh(ways:Int)(ss:List (List C8))(kind:Int)(h:Nat)(p q:Pl):List (List C8):=
 if kind=0 then Da ss ways h p else if kind=1 then ss else if kind=2 then iset ss h (I0 (C6 ss h) (E1 h p))else if kind=3 then iset ss h (Bv (C6 ss h) (E1 h p))else Cj ss h p q
def Cb7(g:Ka ways ss)(hw:1<=ways){h:Nat}(hl:isi ss h<ss.length)(p:Pl):Ka ways (Da ss ways h p):=g.iset h (MQ (g.row hl) hw h p)
def Ce2(g:Ka ways ss)(hw:1<=ways)(kind:Int){h:Nat}(hl:isi ss h<ss.length)(p q:Pl):Ka ways (Uh ways ss kind h p q)/\(Uh ways ss kind h p q).length=ss.length:=by
 unfold Uh;split
 ·exact⟨Cb7 g hw hl p,Jm ..⟩
 ·split
  ·exact⟨g,rfl⟩
  ·split
   ·exact⟨g.iset h ((g.row hl).erase _),Jm ..⟩
   ·split
    ·exact⟨g.iset h (Aj4 (g.row hl) _),Jm ..⟩
    ·unfold Cj;split
     ·exact⟨g,rfl⟩
     ·rename_i x hx;exact⟨g.iset h (Bv5 (g.row hl) h p q hx),Jm ..⟩
structure Aw7(s:B0)(h:Nat):Prop where
 len:(C6 s.ix h).length<100
 wf: ∀x∈P0 (C6 s.ix h) h,Q4 .i64 x.2.1
 fr: ∀x∈C6 s.ix h,0<=x.freq/\x.freq<=3
def E2.Good(r:E2):Prop:=r.l.length<=256/\ ∀x∈r.l,(0<=x.2.1/\x.2.1<=255)/\0<=x.2.2.1/\x.2.2.1<=255
structure B9(s:B0)(M:Nat):Prop where
 dv:G3 s.d
 dn:s.down=s.d.down
 few:s.d.torn.length+(if s.d.down=true then 0 else 1)<=1000
 cfg:s.d.c=s.sc.c
 bk:s.bk.Ok
 ixi:Ka s.sc.ways s.ix
 ixl:1<=s.ix.length
 ixw: ∀row∈s.ix,∀x∈row,Q4 .i64 x.p/\x.e<=s.epoch
 wy:1<=s.sc.ways/\s.sc.ways<=8
 sm:0<=s.sc.small/\s.sc.small<=65536
 gs:0<=s.sc.ghost/\s.sc.ghost<=64
 gl:(s.gh.length:Int)<=s.sc.ghost
 op: ∀o,s.op=some o->1<=o.nx/\o.nx<=16/\(o.l.length:Int)<=o.nx
 it: ∀r,r∈s.rs\/s.op=some r->r.Good
 use:Iu s.ss s.us
 ssl:s.ss.length=s.d.bs.length
 ssd:s.down=false-> ∀(i:Nat) k,s.d.bs[i]?=some k-> ∃x,s.ss[i]?=some x/\x.wear=k.wear/\x.bad=k.bad
 sw: ∀x∈s.ss,0<=x.wear/\x.wear<=1048576
 ep:0<=s.epoch/\s.epoch<=1073741824
 qs: ∀e∈s.q,1<=e.1.size/\e.1.size<=255/\e.2.1.length<=65536
 ql:s.q.length<=66000
 pl:s.pend.length<=M
 pe: ∀p∈s.pend,p.2.2.1<=s.epoch
 oe: ∀o,s.op=some o->o.ep=s.epoch
section
variable {s:B0} {M:Nat}
def B9.S(h:B9 s M):64<=s.sc.c.S/\s.sc.c.S<=512:=by rw[<-h.cfg];exact h.dv.c.s
def B9.P(h:B9 s M):4<=s.sc.c.P/\s.sc.c.P<=16:=by rw[<-h.cfg];exact h.dv.c.p
def B9.isi(h:B9 s M)(k:Nat):isi s.ix k<s.ix.length:=QP _ h.ixl
def Nu{k:Nat}(h:isi ss k<ss.length):C6 ss k∈ss:=by
 unfold C6;rw[NX,NV h];exact NO h
def B9.row(h:B9 s M)(k:Nat):Aw7 s k:=by
 have g:=h.ixi.row (h.isi k);have hm:=Nu (h.isi k);refine⟨by have:=g.len;have:=h.wy;omega,fun x hx=>?_,g.fr⟩;unfold P0 at hx;obtain⟨y,hy,rfl⟩:=NY.1 hx;exact(h.ixw _ hm y (OI.1 hy).1).1
def B9.dg(h:B9 s M)(n:Nat)(hn:n<=1000000):DG s.d n:=⟨h.dv,by have:=h.few;split at this<;>omega⟩
def B9.upto(h:B9 s M)(hn:M<=N):B9 s N:={h with pl:=OK h.pl hn}
def B9.usl(h:B9 s M):s.us.length<=16:=by
 have h1:=GR (At2 h.use);have h2:=h.ssl;have h3:=h.dv.len;have h4:=h.dv.c.b;omega
def B9.pay(h:B9 s M)(n:Int):B9 (s.pay n) M:={h with dv:=h.dv,bk:=Cq6 h.bk _}
def B9.step(h:B9 s M)(hd:s.down=false){d':B8}(st:Gh s.d d' e):B9 ((s.dev d').met e) M:=by
 have e1:((s.dev d').met e).down=decide (e=11):=by
  show(s.down||decide (e=11))=_;rw[hd];rfl
 refine{h with dv:=st.ok,dn:=by rw[e1];exact st.dn.symm,few:=?_,cfg:=st.c.trans h.cfg,ssl:=h.ssl.trans st.ln.symm,ssd:=fun hx i k hk=>?_}
 ·have h1:=st.tn;have h2:=h.few;rw[<-h.dn,hd]at h2;simp at h2;show d'.torn.length+(if d'.down=true then 0 else 1)<=1000;omega
 ·obtain⟨k0,pM,w,b⟩:=st.wr i k hk;obtain⟨x,hx,w2,b2⟩:=h.ssd hd i k0 pM;exact⟨x,hx,by rw[w2,w],b2.trans b.symm⟩
def EE(s:B0):s.met 0=s:=by unfold B0.met;simp
def Bw6{s:B0}(hd:s.down=false)(he:e=0):(s.met e).down=false:=by rw[he,EE];exact hd
def GW{x:It}{P:It->Prop}(h: ∀y∈l,P y)(hx:P x): ∀y∈l++[x],P y:=fun y hy=>by
 rcases NJ.1 hy with hy|hy
 ·exact h y hy
 ·rw[NM.1 hy];exact hx
def B9.write(h:B9 s M)(hd:s.down=false)(kind:Int)(l:List (List UInt8)):B9 (s.write kind l).1 M/\((s.write kind l).2.2=0->(s.write kind l).1.down=false):=by
 unfold B0.write;split
 ·exact⟨h,fun _=>hd⟩
 ·rename_i o ho;have hP:=h.P;obtain⟨st,aC⟩:=Zl h.dv (by rw[<-h.dn];exact hd) o.b o.ep o.nx kind l;rw[h.cfg]at aC;dsimp only;generalize S1 s.d o.b o.ep o.nx kind l=q at st aC;have h2:B9 ((((s.pay l.length).dev q.2)).met q.1) M:=B9.step (h.pay _) hd st;by_cases h0:q.1=0
  ·rw[ND (by simpa using h0)];rw[h0,EE]at h2;obtain⟨hl,oJ,iQ⟩:=aC h0;have fF:1<=l.length:=by cases l with|nil=>exact absurd rfl hl|cons a b=>simp
   have bG:=h.op o ho;have hg:=h.it o (.inr ho);refine⟨{h2 with dv:=h2.dv,op:=fun o' bH=>?_,it:=fun r hr=>?_,use:=?_,oe:=fun o' bH=>(by obtain rfl:=NI bH;exact h.oe o ho)},fun _=>hd⟩
   ·obtain rfl:=NI bH;unfold E2.grown;refine⟨by simp only;omega,by simp only;omega,?_⟩;simp only[NR,NU,OX];omega
   ·rcases hr with hr|hr
    ·exact h.it r (.inl hr)
    ·obtain rfl:=NI hr;unfold E2.grown;refine⟨by simp only[NR,NU,OX];omega,?_⟩;exact GW hg.2 ⟨⟨by simp only;omega,by simp only;omega⟩,by simp only;omega,by simp only;omega⟩
   ·have:({(s.pay l.length).dev q.2 with op:=some (o.grown kind l.length)}:B0).us=s.us:=by
     show s.rs.map E2.b++[o.b]=s.rs.map E2.b++(s.op.map E2.b).toList;rw[ho];rfl
    rw[this];exact h.use
  ·rw[NE (by simpa using h0)];exact⟨h2,fun he=>absurd he h0⟩
def B9.seals(h:B9 s M)(hd:s.down=false):B9 s.seals.1 M/\(s.seals.2=0->s.seals.1.down=false)/\s.seals.1.op=none/\s.seals.1.us=s.us/\s.seals.1.ss=s.ss/\s.seals.1.epoch=s.epoch/\s.seals.1.sc=s.sc:=by
 unfold B0.seals;split
 ·rename_i ho;exact⟨h,fun _=>hd,ho,rfl,rfl,rfl,rfl⟩
 ·rename_i o ho;have st:=AW h.dv (by rw[<-h.dn];exact hd) o.b o.ep o.nx o.l;dsimp only;generalize U7 s.d o.b o.ep o.nx o.l=q at st;have h2:B9 ((((s.pay 1).dev q.2)).met q.1) M:=B9.step (h.pay _) hd st;have cL:(({(s.pay 1).dev q.2 with op:=none,rs:=s.rs++[o]}:B0).met q.1).us=s.us:=by
   show(s.rs++[o]).map E2.b++[]=s.rs.map E2.b++(s.op.map E2.b).toList;rw[ho];simp
  refine⟨{h2 with dv:=h2.dv,op:=fun o' bH=>(by cases bH),oe:=fun o' bH=>(by cases bH),it:=fun r hr=>?_,use:=by rw[cL];exact h.use},fun he=>Bw6 hd he,rfl,cL,rfl,rfl,rfl⟩;rcases hr with hr|hr
  ·rcases NJ.1 hr with hr|hr
   ·exact h.it r (.inl hr)
   ·rw[NM.1 hr];exact h.it o (.inr ho)
  ·cases hr
def B9.begins(h:B9 s M)(hd:s.down=false)(bG:s.op=none)(bS:s.epoch<1073741824){b:Int}(hb:O2 s.ss s.us b=true):B9 (s.begins b).1 M/\((s.begins b).2=0->(s.begins b).1.down=false/\(s.begins b).1.us=s.us++[b]):=by
 unfold B0.begins;have st:=DH h.dv (by rw[<-h.dn];exact hd) b (s.epoch+1);dsimp only;generalize U9 s.d b (s.epoch+1)=q at st;have h2:B9 ((((s.pay 1).dev q.2)).met q.1) M:=B9.step (h.pay _) hd st;by_cases h0:q.1=0
 ·rw[ND (by simpa using h0)];rw[h0,EE]at h2;have cL:({(s.pay 1).dev q.2 with epoch:=s.epoch+1,op:=some ⟨b,s.epoch+1,1,[]⟩}:B0).us=s.us++[b]:=by
   show s.rs.map E2.b++[b]=s.rs.map E2.b++(s.op.map E2.b).toList++[b];rw[bG];simp
  refine⟨{h2 with dv:=h2.dv,op:=fun o' bH=>?_,it:=fun r hr=>?_,use:=by rw[cL];exact At1 h.use hb,ep:=by have:=h.ep;show 0<=s.epoch+1/\s.epoch+1<=1073741824;omega,ixw:=fun row hr x hx=>⟨(h.ixw row hr x hx).1,WH (h.ixw row hr x hx).2 (by show s.epoch<=s.epoch+1;omega)⟩,pe:=fun p hp=>WH (h.pe p hp) (by show s.epoch<=s.epoch+1;omega),oe:=fun o' bH=>(by obtain rfl:=NI bH;rfl)},fun _=>⟨hd,cL⟩⟩
  ·obtain rfl:=NI bH;exact⟨QJ 1,show(1:Int)<=16 by decide,by simp⟩
  ·rcases hr with hr|hr
   ·exact h.it r (.inl hr)
   ·obtain rfl:=NI hr;exact⟨by simp,by simp⟩
 ·rw[NE (by simpa using h0)];exact⟨h2,fun he=>absurd he h0⟩
def B9.erase(h:B9 s M)(hd:s.down=false){b:Int}(hb: ∀o,s.op=some o->o.b≠b):
  B9 (s.erase b).1 M/\((s.erase b).2=0->(s.erase b).1.down=false/\(s.erase b).1.us=T9 s.us b/\(s.erase b).1.ss=(if I6 s.ss b=true then O7 s.ss b (Cl (decide ((M3 s.d b).1=10)))else s.ss))/\(s.erase b).1.op=s.op/\(s.erase b).1.bk=s.bk/\(s.erase b).1.epoch=s.epoch/\(s.erase b).1.sc=s.sc:=by
 unfold B0.erase;have st:=Yn h.dv (by rw[<-h.dn];exact hd) b;dsimp only;generalize M3 s.d b=q at st;have bN:=h.few;rw[<-h.dn,hd]at bN;simp at bN;by_cases h0:q.1=11
 ·rw[NE h0];refine⟨{h with dv:=st.ok,dn:=?_,few:=?_,cfg:=st.c.trans h.cfg,ssl:=h.ssl.trans st.ln.symm,ssd:=fun hx=>?_},fun he=>absurd (show(11:Int)=0 from he) (by decide),rfl,rfl,rfl,rfl⟩
  ·show(s.down||decide ((11:Int)=11))=q.2.down;rw[st.dn,h0,hd];rfl
  ·show q.2.torn.length+(if q.2.down=true then 0 else 1)<=1000;rw[st.tn];split<;>omega
  ·have:(s.down||decide ((11:Int)=11))=false:=hx;rw[hd]at this;exact absurd this (by decide)
 ·rw[ND h0];obtain⟨s',bZ⟩: ∃s':B0,s'={s.dev q.2 with ss:=if I6 s.ss b=true then O7 s.ss b (Cl (decide (q.1=10)))else s.ss,rs:=s.rs.filter fun r=> !decide (r.b=b)}:=⟨_,rfl⟩;rw[<-bZ];have nQ:s'.ss=if I6 s.ss b=true then O7 s.ss b (Cl (decide (q.1=10)))else s.ss:=by rw[bZ]
  have cL:s'.us=T9 s.us b:=by
   have e1:s'.rs=s.rs.filter fun r=> !decide (r.b=b):=by rw[bZ]
   have e2:s'.op=s.op:=by rw[bZ];rfl
   unfold B0.us T9;rw[e1,e2,QZ];congr 1
   ·rw[VA];congr 1;refine YB fun x _=>?_;simp
   ·cases ho:s.op with
    |none=>rfl
    |some o=>
     have:=hb o ho;simp[this]
  have cO:s'.d=q.2:=by rw[bZ];rfl
  have yC:s'.ss.length=s'.d.bs.length:=by
   rw[cO,st.ln,<-h.ssl,nQ];split
   ·exact GS ..
   ·rfl
  have lY: ∀(i:Nat) k,s'.d.bs[i]?=some k-> ∃x,s'.ss[i]?=some x/\x.wear=k.wear/\x.bad=k.bad:=fun i k' cA=>by
   rw[cO]at cA;obtain⟨k,hk,vU⟩:=st.wr h0 i k' cA;obtain⟨x,hx,hw,eE⟩:=h.ssd hd i k hk;have pX:(i:Int)=b->I6 s.ss b= !x.bad:=fun e=>by
    unfold I6;subst e;rw[NK,hx];simp
   rw[nQ];rcases vU with⟨⟨e,kb⟩,w,bd⟩|⟨hn,w,bd⟩
   ·have hg:I6 s.ss b=true:=by rw[pX e,eE,kb];rfl
    rw[NE hg];refine⟨Cl (decide (q.1=10)) x,?_,?_,?_⟩
    ·unfold O7;rw[RE,hx];simp[show b.toNat=i by omega]
    ·show x.wear+1=_;rw[hw,w];simp
    ·exact bd.symm
   ·refine⟨x,?_,by rw[hw,w],eE.trans bd.symm⟩;split
    ·rename_i hg;have:(i:Int)≠b:=fun e=>by
      rw[pX e,eE]at hg;exact hn ⟨e,by simpa using hg⟩
     unfold I6 at hg;simp only[PO,QR]at hg;unfold O7;rw[RE,hx];simp[show¬b.toNat=i by omega]
    ·exact hx
  have sC: ∀x∈s'.ss,0<=x.wear/\x.wear<=1048576:=fun x hx=>by
   obtain⟨i,hi,rfl⟩:=TM hx;obtain⟨y,hy,hw,-⟩:=lY i (s'.d.bs[i]'(by omega)) (NV (by omega));rw[NV hi]at hy;obtain rfl:=NI hy;have h1:=st.ok.nx _ (show s'.d.bs[i]'(by omega)∈q.2.bs by rw[<-cO];exact NO _);have h2:=st.ok.c.w;rw[hw];omega
  have kS:s'.down=false:=by rw[bZ];exact hd
  have xW:Iu s'.ss s'.us:=by
   rw[nQ,cL];split
   ·rename_i hg;exact Cp4 h.use hg _
   ·rename_i hg;have:b∉s.us:=fun hm=>hg (h.use.2 b hm);have e:T9 s.us b=s.us:=by
     unfold T9;rw[RA];intro y hy;have:y≠b:=fun e=>this (e▸hy);simp[this]
    rw[e];exact h.use
  refine⟨?_,fun _=>⟨kS,cL,nQ⟩,by rw[bZ];rfl,by rw[bZ];rfl,by rw[bZ];rfl,by rw[bZ];rfl⟩;refine⟨by rw[cO];exact st.ok,?_,?_,?_,by rw[bZ];exact h.bk,by rw[bZ];exact h.ixi,by rw[bZ];exact h.ixl,by rw[bZ];exact h.ixw,by rw[bZ];exact h.wy,by rw[bZ];exact h.sm,by rw[bZ];exact h.gs,by rw[bZ];exact h.gl,by rw[bZ];exact h.op,?_,xW,yC,fun _=>lY,sC,by rw[bZ];exact h.ep,by rw[bZ];exact h.qs,by rw[bZ];exact h.ql,by rw[bZ];exact h.pl,by rw[bZ];exact h.pe,by rw[bZ];exact h.oe⟩
  ·rw[kS,cO,st.dn];exact(OF h0).symm
  ·rw[cO,st.tn];split<;>omega
  ·rw[cO,st.c];rw[bZ];exact h.cfg
  ·intro r hr;rw[bZ]at hr;rcases hr with hr|hr
   ·exact h.it r (.inl (OI.1 hr).1)
   ·exact h.it r (.inr hr)
def Qc{k:Nat}{row r:List C8}(h:r∈iset ss k row):r∈ss\/r=row:=by
 unfold iset at h;exact VY h
def B9.ixset(h:B9 s M)(k:Nat){row:List C8}(hg:Dn s.sc.ways row)(hw: ∀x∈row,Q4 .i64 x.p/\x.e<=s.epoch):B9 {s with ix:=iset s.ix k row} M:=by
 refine{h with dv:=h.dv,ixi:=h.ixi.iset k hg,ixl:=by rw[Jm];exact h.ixl,ixw:=fun r hr=>?_};rcases Qc hr with hr|rfl
 ·exact h.ixw r hr
 ·exact hw
def Dy(l:List C8)(nm:Dm): ∀x∈I0 l nm,x∈l:=fun x hx=>(UC ..).subset hx
def B9.ixdrop(h:B9 s M)(k:Nat)(p:It):B9 (s.ixdrop k p) M:=h.ixset k ((h.ixi.row (h.isi k)).erase _) fun x hx=>h.ixw _ (Nu (h.isi k)) x (Dy _ _ x hx)
def Cb9{l:List C8}{k:Nat}{p:Pl}: ∀x∈Ii l ways k p,x∈l\/x=W1 k p 0:=fun x hx=>by
 unfold Ii at hx;rcases NJ.1 hx with hx|hx
 ·left;split at hx
  ·exact Dy _ _ x (SV hx)
  ·exact Dy _ _ x hx
 ·right;exact NM.1 hx
def B9.list(h:B9 s M)(key:ByteArray)(p:It)(hp:Q4 .i64 p.2.1/\p.2.2.1<=s.epoch):B9 (s.list key p) (M+1):=by
 have h1:B9 {s with ix:=Da s.ix s.sc.ways (s.hash key) p} M:=h.ixset _ (MQ (h.ixi.row (h.isi _)) h.wy.1 _ _) fun x hx=>by
  rcases Cb9 x hx with hx|rfl
  ·exact h.ixw _ (Nu (h.isi _)) x hx
  ·exact hp
 unfold B0.list;refine{h1 with dv:=h1.dv,pl:=?_,pe:=?_}
 ·have:=h.pl;simp only;split
  ·rw[NR];simp;omega
  ·omega
 ·simp only;split
  ·rename_i hf;refine GW h.pe ?_;have hl:(I0 (C6 s.ix (s.hash key)) (E1 (s.hash key) p)).headD Hk∈I0 (C6 s.ix (s.hash key)) (E1 (s.hash key) p):=by
    cases hr:I0 (C6 s.ix (s.hash key)) (E1 (s.hash key) p)with
    |nil=>
     rw[hr]at hf;unfold U0 at hf;have:=h.wy;simp at hf;omega
    |cons a t=>simp
   unfold Jp;rw[NE hf];exact(h.ixw _ (Nu (h.isi _)) _ (Dy _ _ _ hl)).2
  ·exact h.pe
def B9.dropp(h:B9 s M)(n:Nat):B9 {s with pend:=s.pend.drop n} M:={h with dv:=h.dv,pl:=by show(s.pend.drop n).length<=M;rw[OJ];have:=h.pl;omega,pe:=fun p hp=>h.pe p (SV hp)}
end
variable{P:Program}
structure Mv(s s':B0):Prop where
 rs:s'.rs=s.rs
 ob:s'.op.map E2.b=s.op.map E2.b
 ss:s'.ss=s.ss
 pend:s'.pend=s.pend
 epoch:s'.epoch=s.epoch
 sc:s'.sc=s.sc
 q:s'.q=s.q
 gh:s'.gh=s.gh
 tk:s'.bk.tokens<=s.bk.tokens
def Mv.us{s':B0}(h:Mv s s'):s'.us=s.us:=by unfold B0.us;rw[h.rs,h.ob]
variable{us:List Int}
def Mv.refl(s:B0):Mv s s:=⟨rfl,rfl,rfl,rfl,rfl,rfl,rfl,rfl,QJ _⟩
def Mv.trans{b c:B0}(h:Mv a b)(k:Mv b c):Mv a c:=⟨k.rs.trans h.rs,k.ob.trans h.ob,k.ss.trans h.ss,k.pend.trans h.pend,k.epoch.trans h.epoch,k.sc.trans h.sc,k.q.trans h.q,k.gh.trans h.gh,WH k.tk h.tk⟩
def Bb1(b:Bk)(n:Int):(Ht b n).tokens<=b.tokens:=by
 unfold Ht;split
 ·rename_i h;simp only;omega
 ·exact QJ _
def Mv.write(s:B0)(kind:Int)(l:List (List UInt8)):Mv s (s.write kind l).1:=by
 unfold B0.write;split
 ·exact .refl s
 ·rename_i o ho;dsimp only;have ht:=Bb1 s.bk (s.cost l.length);split
  ·exact⟨rfl,rfl,rfl,rfl,rfl,rfl,rfl,rfl,ht⟩
  ·exact⟨rfl,by rw[ho];rfl,rfl,rfl,rfl,rfl,rfl,rfl,ht⟩
def HU(h:B9 s M)(kind:Int)(l:List (List UInt8)):Q4 .i64 (s.write kind l).2.1.2.1/\(s.write kind l).2.1.2.2.1<=(s.write kind l).1.epoch:=by
 unfold B0.write;split
 ·exact⟨Kd (by simp),h.ep.1⟩
 ·rename_i o ho;have:=(h.op o ho);dsimp only;split<;>exact⟨Kd (by simp only;omega),Int.le_of_eq (h.oe o ho)⟩
def B9.ixmove(h:B9 s M)(k:Nat)(p q:It)(hq:Q4 .i64 q.2.1/\q.2.2.1<=s.epoch):B9 {s with ix:=Cj s.ix k p q} M:=by
 have hg:=(Ce2 h.ixi h.wy.1 4 (h.isi k) p q);have e:Uh s.sc.ways s.ix 4 k p q=Cj s.ix k p q:=by unfold Uh;simp
 rw[e]at hg;refine{h with dv:=h.dv,ixi:=hg.1,ixl:=by rw[hg.2];exact h.ixl,ixw:=?_};intro r hr x hx;unfold Cj at hr;split at hr
 ·exact h.ixw r hr x hx
 ·rcases Qc hr with hr|rfl
  ·exact h.ixw r hr x hx
  ·rcases NJ.1 hx with hx|hx
   ·exact h.ixw _ (Nu (h.isi k)) x (Dy _ _ x (Dy _ _ x hx))
   ·rw[NM.1 hx];exact hq
def B9.move(h:B9 s M)(hd:s.down=false)(p:It)(n beside:Int):B9 (s.move p n beside).1 M/\((s.move p n beside).2=0->(s.move p n beside).1.down=false)/\Mv s (s.move p n beside).1:=by
 unfold B0.move;dsimp only;split
 ·exact⟨h,fun _=>hd,.refl s⟩
 ·split
  ·exact⟨h.ixdrop _ _,fun _=>hd,rfl,rfl,rfl,rfl,rfl,rfl,rfl,rfl,QJ _⟩
  ·split
   ·exact⟨h,fun _=>hd,.refl s⟩
   ·have hw:=h.write hd 2 (F8 (C7 s.d p).1 (C7 s.d p).2.1 (H2 s.sc.c)).1;have hm:=Mv.write s 2 (F8 (C7 s.d p).1 (C7 s.d p).2.1 (H2 s.sc.c)).1;have hq:=HU h 2 (F8 (C7 s.d p).1 (C7 s.d p).2.1 (H2 s.sc.c)).1;generalize s.write 2 (F8 (C7 s.d p).1 (C7 s.d p).2.1 (H2 s.sc.c)).1=w at hw hm hq;split
    ·rename_i h0;exact⟨hw.1.ixmove _ _ _ hq,fun _=>hw.2 h0,hm.rs,hm.ob,hm.ss,hm.pend,hm.epoch,hm.sc,hm.q,hm.gh,hm.tk⟩
    ·rename_i h0;exact⟨hw.1,fun he=>absurd he h0,hm⟩
theorem B9.moves{b ep beside:Int}: ∀(l:List It) {s:B0} {M:Nat},B9 s M->s.down=false->B9 (B0.moves b ep beside l s).1 M/\((B0.moves b ep beside l s).2=0->(B0.moves b ep beside l s).1.down=false)/\Mv s (B0.moves b ep beside l s).1
 |[],s,M,h,hd=>⟨h,fun _=>hd,.refl s⟩
 |x::r,s,M,h,hd=>by
  unfold B0.moves;split
  ·exact B9.moves r h hd
  ·have h1:=h.move hd (b,x.2.1,ep,()) x.2.2.1 beside;dsimp only;generalize s.move (b,x.2.1,ep,()) x.2.2.1 beside=w at h1;split
   ·rename_i h0;exact⟨h1.1,fun he=>absurd he h0,h1.2.2⟩
   ·rename_i h0;have h0:w.2=0:=by simpa using h0
    have h2:=B9.moves (b:=b) (ep:=ep) (beside:=beside) r h1.1 (h1.2.1 h0);exact⟨h2.1,h2.2.1,h1.2.2.trans h2.2.2⟩
def B9.cutp(h:B9 s M)(b:Int):B9 {s with pend:=s.pend.filter fun p=> !decide (p.1=b)} M:=
 {h with dv:=h.dv,pl:=OK (RS ..) h.pl,pe:=fun p hp=>h.pe p (OI.1 hp).1}
def B9.reclaim(h:B9 s M)(hd:s.down=false){r:E2}{t:List E2}(hr:s.rs=r::t)(beside:Int):
  B9 (s.reclaim r beside).1 M/\((s.reclaim r beside).2=0->(s.reclaim r beside).1.down=false/\(s.reclaim r beside).1.us.length+1=s.us.length/\Fg (s.reclaim r beside).1.ss<=Fg s.ss/\(s.reclaim r beside).1.bk.tokens<=s.bk.tokens/\(s.reclaim r beside).1.op.isSome=s.op.isSome)/\(s.reclaim r beside).1.sc=s.sc:=by
 unfold B0.reclaim;obtain⟨h1,h2,mv⟩:=B9.moves (b:=r.b) (ep:=r.ep) (beside:=beside) r.l h hd;dsimp only;generalize B0.moves r.b r.ep beside r.l s=w at h1 h2 mv;split
 ·rename_i h0;exact⟨h1,fun he=>absurd he h0,mv.sc⟩
 ·rename_i h0;have h0:w.2=0:=by simpa using h0
  have cL:r.b∈w.1.us:=by rw[mv.us];unfold B0.us;rw[hr];simp
  have aZ:=h.use.1;have kI: ∀o,w.1.op=some o->o.b≠r.b:=fun o ho e=>by
   have h3:=mv.ob;rw[ho]at h3;unfold B0.us at aZ;rw[<-h3,hr]at aZ;simp[e]at aZ
  have hc:=(h1.cutp r.b);have he:=hc.erase (h2 h0) (b:=r.b) kI;obtain⟨s2,aP⟩: ∃s2:B0,s2={w.1 with pend:=w.1.pend.filter fun p=> !decide (p.1=r.b)}:=⟨_,rfl⟩;rw[<-aP]at he⊢;have e1:s2.us=s.us:=by rw[aP];exact mv.us
  have e2:s2.ss=s.ss:=by rw[aP];exact mv.ss
  have e3:s2.bk.tokens<=s.bk.tokens:=by rw[aP];exact mv.tk
  have e4:s2.sc=s.sc:=by rw[aP];exact mv.sc
  have e5:s2.op.isSome=s.op.isSome:=by
   have h3:=congrArg Option.isSome mv.ob;rw[UD,UD]at h3;rw[aP];exact h3
  obtain⟨g1,g2,g3,g4,g5,g6⟩:=he;refine⟨g1,fun hz=>?_,g6.trans e4⟩;obtain⟨k1,k2,k3⟩:=g2 hz;have pX:I6 s2.ss r.b=true:=by rw[e2];exact h.use.2 _ (by rw[<-mv.us];exact cL)
  refine⟨k1,?_,?_,by rw[g4];exact e3,by rw[g3];exact e5⟩
  ·rw[k2,e1];have hm:r.b∈s.us:=by rw[<-mv.us];exact cL
   have h4:T9 s.us r.b=s.us.erase r.b:=by
    unfold T9;rw[List.Nodup.erase_eq_filter aZ];refine YB fun x _=>?_;by_cases e:x=r.b<;>simp[e]
   rw[h4,XX hm];have:=WI hm;omega
  ·rw[k3,NE pX];have:=Au6 pX (Cl (decide ((M3 s2.d r.b).1=10))) (bad:=decide ((M3 s2.d r.b).1=10)) fun s _=>rfl;rw[<-e2];split at this<;>omega
def Ta{ss:List BS}(h:Rd ss us≠0):O2 ss us (G5 ss us).2.2=true/\(G5 ss us).2.1=Q0 ss (G5 ss us).2.2:=by
 obtain⟨h1,h2,-⟩:=Cp8 ss us;cases hp:(G5 ss us).1 with
 |false=>
  refine absurd ?_ h;rw[Cr1,GV (r:=fun _=>false) fun i hi=>h1 hp i hi,Av1];rfl
 |true=>exact⟨(h2 hp).1,(h2 hp).2.1⟩
def Au5{ss:List BS}{b:Int}(h:O2 ss us b=true)(hd:(Q0 ss b).dirty=false):Hs ss us b=true:=by
 obtain⟨h1,h2⟩:=Di h;obtain⟨h3,h4,h5⟩:=El h1;unfold Hs;rw[h,NV h4];unfold Q0 at hd;rw[NV h4]at hd;simp at hd;simp[hd]
def B0.mu2(s:B0):Nat:=s.bk.tokens.toNat*1000+Fg s.ss*20+s.us.length
structure Lk(s s':B0):Prop where
 dn:s'.down=false
 us:s'.us.length<=s.us.length
 gd:Fg s'.ss<=Fg s.ss
 tk:s'.bk.tokens<=s.bk.tokens
def Lk.trans{b c:B0}(h:Lk a b)(k:Lk b c):Lk a c:=⟨k.dn,OK k.us h.us,OK k.gd h.gd,WH k.tk h.tk⟩
theorem B9.frees{n:Int}: ∀(k:Nat) {s:B0} {M:Nat},B9 s M->s.down=false->B9 (B0.frees n k s).1 M/\((B0.frees n k s).2=0->Lk s (B0.frees n k s).1)/\(B0.frees n k s).1.sc=s.sc
 |0,s,M,h,hd=>⟨h,fun _=>⟨hd,NF _,NF _,QJ _⟩,rfl⟩
 |k+1,s,M,h,hd=>by
  unfold B0.frees;split
  ·split
   ·exact⟨h,fun _=>⟨hd,NF _,NF _,QJ _⟩,rfl⟩
   ·rename_i r t hr;obtain⟨h1,h2,h3⟩:=h.reclaim hd hr n;dsimp only;split
    ·rename_i h0;exact⟨h1,fun he=>absurd he h0,h3⟩
    ·rename_i h0;obtain⟨a1,a2,a3,a4,a5⟩:=h2 (by simpa using h0);obtain⟨b1,b2,b3⟩:=B9.frees (n:=n) k h1 a1;exact⟨b1,fun he=>Lk.trans ⟨a1,by omega,a3,a4⟩ (b2 he),b3.trans h3⟩
  ·exact⟨h,fun _=>⟨hd,NF _,NF _,QJ _⟩,rfl⟩
def JF{b:Bk}(h0:0<=n)(h:n<=b.tokens):(Ht b n).tokens=b.tokens-n:=by unfold Ht;rw[NE ⟨h0,h⟩]
def B9.picks(h:B9 s M)(hd:s.down=false)(bG:s.op=none)(hf:s.free≠0):
  ∃z:B0×Int,z=(if(G5 s.ss s.us).2.1.dirty then s.erase (G5 s.ss s.us).2.2 else(s,0))/\B9 z.1 M/\z.1.op=none/\z.1.bk=s.bk/\z.1.epoch=s.epoch/\z.1.sc=s.sc/\(z.2=0->z.1.down=false/\z.1.us=s.us/\Fg z.1.ss<=Fg s.ss/\
   ((G5 s.ss s.us).2.1.dirty=true/\z.1.badAt (G5 s.ss s.us).2.2=true->Fg z.1.ss+1=Fg s.ss)/\
   (¬((G5 s.ss s.us).2.1.dirty=true/\z.1.badAt (G5 s.ss s.us).2.2=true)->O2 z.1.ss z.1.us (G5 s.ss s.us).2.2=true/\Hs z.1.ss z.1.us (G5 s.ss s.us).2.2=true)):=by
 refine⟨_,rfl,?_⟩;obtain⟨p1,p2⟩:=Ta hf;obtain⟨q1,q2⟩:=Di p1;obtain⟨q3,q4,q5⟩:=El q1;rw[p2];generalize (G5 s.ss s.us).2.2=b at p1 q1 q2 q3 q4 q5;cases eD:(Q0 s.ss b).dirty with
 |false=>
  rw[ND (by decide)];refine⟨h,bG,rfl,rfl,rfl,fun _=>⟨hd,rfl,NF _,fun hh=>absurd hh.1 (by decide),fun _=>⟨p1,Au5 p1 eD⟩⟩⟩
 |true=>
  rw[NE rfl];have he:=h.erase hd (b:=b) (fun o ho=>by rw[bG]at ho;cases ho);obtain⟨e1,e2,e3,e4,e5,e6⟩:=he;refine⟨e1,e3.trans bG,e4,e5,e6,fun h0=>?_⟩;obtain⟨a1,a2,a3⟩:=e2 h0;rw[NE q1]at a3;have cL:(s.erase b).1.us=s.us:=by
   rw[a2];unfold T9;rw[RA];intro y hy;have:y≠b:=fun e=>q2 (e▸hy);simp[this]
  have hN:=Au6 q1 (Cl (decide ((M3 s.d b).1=10))) (bad:=decide ((M3 s.d b).1=10)) fun s _=>rfl;rw[<-a3]at hN;have gP:(s.erase b).1.ss[b.toNat]?=some (Cl (decide ((M3 s.d b).1=10)) s.ss[b.toNat]):=by
   rw[a3];unfold O7;rw[RE,NV q4];simp
  have dI:b.toNat<(s.erase b).1.d.bs.length:=by
   rw[<-e1.ssl];exact(PL.1 gP).1
  obtain⟨x,hx,hxw,sX⟩:=e1.ssd a1 b.toNat _ (NV dI);rw[gP]at hx;obtain rfl:=NI hx;have bL:(s.erase b).1.badAt b=decide ((M3 s.d b).1=10):=by
   unfold B0.badAt;rw[NV dI];exact sX.symm
  refine⟨a1,cL,by split at hN<;>omega,fun hh=>?_,fun hh=>?_⟩
  ·rw[bL]at hh;rw[NE hh.2]at hN;omega
  ·have wY:decide ((M3 s.d b).1=10)=false:=by
    rw[bL]at hh;simpa using hh
   rw[wY]at gP;have hg:I6 (s.erase b).1.ss b=true:=by
    unfold I6;rw[gP];simp[q3,Cl]
   have cD:O2 (s.erase b).1.ss (s.erase b).1.us b=true:=by
    unfold O2;rw[hg,cL];simp[q2]
   refine⟨cD,Au5 cD ?_⟩;unfold Q0;rw[gP];rfl
def B9.more(h:B9 s M)(hd:s.down=false)(hn:0<=n):B9 (s.more n).1 M/\((s.more n).2=0->(s.more n).1.down=false/\(s.more n).1.mu2<s.mu2)/\(s.more n).1.sc=s.sc:=by
 unfold B0.more;have hS:=h.S;have hb:=h.bk;split
 ·exact⟨h,fun he=>absurd (show(13:Int)=0 from he) (by decide),rfl⟩
 rename_i gE;have gE:s.bk.tokens≥(n+1+s.sealN)*(s.sc.c.S:Int):=by
  unfold B0.pays B0.cost at gE;simpa using gE
 split
 ·exact⟨h,fun he=>absurd (show(7:Int)=0 from he) (by decide),rfl⟩
 rename_i bS;split
 ·split
  ·exact⟨h,fun he=>absurd (show(7:Int)=0 from he) (by decide),rfl⟩
  ·rename_i r t hr;obtain⟨h1,h2,h3⟩:=h.reclaim hd hr n;refine⟨h1,fun he=>?_,h3⟩;obtain⟨a1,a2,a3,a4,a5⟩:=h2 he;refine⟨a1,?_⟩;unfold B0.mu2;have:=h1.bk.t0;omega
 rename_i dG;obtain⟨s1,s2,s3,s4,s5,s6,s7⟩:=h.seals hd;have cF:s.seals.2=0->s.seals.1.bk.tokens=s.bk.tokens-s.sealN*(s.sc.c.S:Int):=fun h0=>by
  unfold B0.seals at h0⊢;unfold B0.sealN at gE⊢;cases ho:s.op with
  |none=>simp
  |some o=>
   rw[ho]at h0 gE;simp only at h0⊢;have hc:s.cost 1=(s.sc.c.S:Int):=by unfold B0.cost;omega
   have h5:(s.sc.c.S:Int)<=s.bk.tokens:=by
    have:(n+1+1)*(s.sc.c.S:Int)≥1*(s.sc.c.S:Int):=YP (by omega) (by omega);simp only at gE;omega
   have:=JF (b:=s.bk) (n:=(s.sc.c.S:Int)) (by omega) h5;show(Ht s.bk (s.cost 1)).tokens=_;rw[hc,this];simp
 dsimp only;generalize s.seals=w at s1 s2 s3 s4 s5 s6 s7 cF;split
 ·rename_i h0;exact⟨s1,fun he=>absurd he h0,s7⟩
 rename_i h0;have h0:w.2=0:=by simpa using h0
 have cD:w.1.free≠0:=by
  unfold B0.free at dG⊢;rw[s5,s4];exact dG
 have cF:=cF h0;obtain⟨z,hz,z1,z2,z3,z4,z5,z6⟩:=s1.picks (s2 h0) s3 cD;rw[<-hz];clear hz;generalize G5 w.1.ss w.1.us=pk at z6;split
 ·rename_i dT;exact⟨z1,fun he=>absurd he dT,z5.trans s7⟩
 rename_i dT;obtain⟨y1,y2,y3,y4,y5⟩:=z6 (by simpa using dT);have eM:Fg z.1.ss<=Fg s.ss:=by rw[s5]at y3;exact y3
 have hu1:z.1.us.length=s.us.length:=by rw[y2,s4]
 have bT:0<=s.sealN*(s.sc.c.S:Int):=WF (by unfold B0.sealN;split<;>decide) (by omega);have bq:z.1.bk.tokens<=s.bk.tokens:=by rw[z3,cF];omega
 have ht0:=z1.bk.t0;split
 ·rename_i eE;have jJ:=y4 eE;rw[s5]at jJ;refine⟨z1,fun _=>⟨y1,?_⟩,z5.trans s7⟩;show z.1.mu2<s.mu2;unfold B0.mu2;omega
 rename_i eE;obtain⟨f1,f2⟩:=y5 eE;have kR:z.1.epoch<1073741824:=by rw[z4,s6];omega
 obtain⟨b1,b2⟩:=z1.begins y1 z2 kR f1;have rR:(z.1.begins pk.2.2).1.sc=z.1.sc:=by unfold B0.begins;dsimp only;split<;>rfl
 have vW:(z.1.begins pk.2.2).1.ss=z.1.ss:=by unfold B0.begins;dsimp only;split<;>rfl
 have ae:(z.1.begins pk.2.2).1.bk.tokens=z.1.bk.tokens-(s.sc.c.S:Int):=by
  have hc:z.1.cost 1=(s.sc.c.S:Int):=by unfold B0.cost;rw[z5,s7];omega
  have h5:(s.sc.c.S:Int)<=z.1.bk.tokens:=by
   rw[z3,cF];rw[UB,UB]at gE;have:0<=n*(s.sc.c.S:Int):=WF hn (by omega);omega
  have:=JF (b:=z.1.bk) (n:=(s.sc.c.S:Int)) (by omega) h5;rw[<-hc]at this;have e:(z.1.begins pk.2.2).1.bk=Ht z.1.bk (z.1.cost 1):=by unfold B0.begins;dsimp only;split<;>rfl
  rw[e,this,hc]
 generalize z.1.begins pk.2.2=y at b1 b2 rR vW ae;split
 ·rename_i kV;exact⟨b1,fun he=>absurd he kV,rR.trans (z5.trans s7)⟩
 rename_i kV;obtain⟨c1,c2⟩:=b2 (by simpa using kV);obtain⟨d1,d2,d3⟩:=B9.frees (n:=n) (y.1.rs.length+1) b1 c1;refine⟨d1,fun he=>?_,d3.trans (rR.trans (z5.trans s7))⟩;have hl:=d2 he;refine⟨hl.dn,?_⟩;unfold B0.mu2;have l1:=hl.us;have l2:=hl.gd;have l3:=hl.tk;have l4:=d1.bk.t0;rw[c2,NR]at l1;rw[vW]at l2;simp at l1;omega
def Je(n:Int)(k:Nat)(s:B0):B0.room n (k+1) s=if s.fits n=true then(if s.pays n=true then(s,0)else(s,13))else if(s.more n).2≠0 then s.more n else B0.room n k (s.more n).1:=rfl
def MD(hn:0<=n)(k:Nat): ∀{s:B0} {M:Nat},B9 s M->s.down=false->s.mu2<k->B0.room n k s=B0.room n (s.mu2+1) s:=by
 induction k using Nat.strongRecOn with
 |ind k ih=>
  intro s M h hd hk;obtain⟨j,rfl⟩: ∃j,k=j+1:=⟨k-1,by omega⟩;rw[Je n j s,Je n s.mu2 s];by_cases hf:s.fits n=true
  ·rw[NE hf,NE hf]
  ·rw[ND hf,ND hf];by_cases h0:(s.more n).2≠0
   ·rw[NE h0,NE h0]
   ·rw[ND h0,ND h0];obtain⟨h1,h2,-⟩:=h.more hd hn;obtain⟨a1,a2⟩:=h2 (by simpa using h0);rw[ih j (by omega) h1 a1 (by omega),ih s.mu2 (by omega) h1 a1 a2]
def Bv1(s:B0):s.mu2<=s.mu:=by
 unfold B0.mu2 B0.mu;have:Fg s.ss<=s.ss.length:=Av3 _ _;omega
def Bk7(hn:0<=n)(h:B9 s M)(hd:s.down=false):s.roomy n=B0.room n (s.mu2+1) s:=MD hn _ h hd (by have:=Bv1 s;omega)
theorem B9.room{n:Int}(hn:0<=n): ∀(k:Nat) {s:B0} {M:Nat},B9 s M->s.down=false->B9 (B0.room n k s).1 M/\((B0.room n k s).2=0->(B0.room n k s).1.down=false/\(B0.room n k s).1.fits n=true)/\(B0.room n k s).1.sc=s.sc
 |0,s,M,h,hd=>⟨h,fun he=>absurd (show(13:Int)=0 from he) (by decide),rfl⟩
 |k+1,s,M,h,hd=>by
  unfold B0.room;split
  ·rename_i hf;split
   ·exact⟨h,fun _=>⟨hd,hf⟩,rfl⟩
   ·exact⟨h,fun he=>absurd (show(13:Int)=0 from he) (by decide),rfl⟩
  ·dsimp only;obtain⟨h1,h2,h3⟩:=h.more hd hn;split
   ·rename_i h0;exact⟨h1,fun he=>absurd he h0,h3⟩
   ·rename_i h0;obtain⟨b1,b2,b3⟩:=B9.room hn k h1 (h2 (by simpa using h0)).1;exact⟨b1,b2,b3.trans h3⟩
variable{room:Int}
def Et(h: ¬e≠0):e≠11:=fun h2=>h (by rw[h2];decide)
def ED(s:B0)(h:e≠11):(s.met e).down=s.down:=by unfold B0.met;simp[h]
def Rt(s:B0)(kind:Int)(l:List (List UInt8))(h:(s.write kind l).2.2≠11):(s.write kind l).1.down=s.down:=by
 unfold B0.write at h⊢;split
 ·rfl
 ·rename_i o ho;rw[ho]at h;dsimp only at h⊢;split
  ·rename_i h0;rw[NE h0]at h;exact ED _ h
  ·rfl
def KY(s:B0)(h:s.seals.2≠11):s.seals.1.down=s.down:=by
 unfold B0.seals at h⊢;split
 ·rfl
 ·rename_i o ho;rw[ho]at h;exact ED _ h
def Au9(s:B0)(b:Int)(h:(s.begins b).2≠11):(s.begins b).1.down=s.down:=by
 unfold B0.begins at h⊢;dsimp only at h⊢;split
 ·rename_i h0;rw[NE h0]at h;exact ED _ h
 ·rfl
def Ao9(s:B0)(b:Int)(h:(s.erase b).2≠11):(s.erase b).1.down=s.down:=by
 unfold B0.erase at h⊢;dsimp only at h⊢;split
 ·rename_i h0;rw[NE h0]at h;exact absurd rfl h
 ·rfl
def Ad3(s:B0)(p:It)(n beside:Int)(h:(s.move p n beside).2≠11):(s.move p n beside).1.down=s.down:=by
 unfold B0.move at h⊢;dsimp only at h⊢;split
 ·rfl
 ·rename_i h1;rw[ND h1]at h;split
  ·rfl
  ·rename_i h2;rw[ND h2]at h;split
   ·rfl
   ·rename_i h3;rw[ND h3]at h;split
    ·rename_i h4;exact Rt s _ _ (by rw[h4];decide)
    ·rename_i h4;rw[ND h4]at h;exact Rt s _ _ h
theorem Xg(b ep beside:Int): ∀(l:List It) (s:B0),(B0.moves b ep beside l s).2≠11->(B0.moves b ep beside l s).1.down=s.down
 |[],s,_=>rfl
 |x::r,s,h=>by
  unfold B0.moves at h⊢;split
  ·rename_i hx;rw[NE hx]at h;exact Xg b ep beside r s h
  ·rename_i hx;rw[ND hx]at h;dsimp only at h⊢;split
   ·rename_i h0;rw[NE h0]at h;exact Ad3 _ _ _ _ h
   ·rename_i h0;rw[ND h0]at h;rw[Xg b ep beside r _ h];exact Ad3 _ _ _ _ (Et h0)
def BM(s:B0)(r:E2)(beside:Int)(h:(s.reclaim r beside).2≠11):(s.reclaim r beside).1.down=s.down:=by
 unfold B0.reclaim at h⊢;dsimp only at h⊢;split
 ·rename_i h0;rw[NE h0]at h;exact Xg _ _ _ _ _ h
 ·rename_i h0;rw[ND h0]at h;rw[Ao9 _ _ h];exact Xg _ _ _ _ _ (Et h0)
theorem Ak7(n:Int): ∀(k:Nat) (s:B0),(B0.frees n k s).2≠11->(B0.frees n k s).1.down=s.down
 |0,s,_=>rfl
 |k+1,s,h=>by
  unfold B0.frees at h⊢;split
  ·rename_i hf;rw[NE hf]at h;cases hr:s.rs with
   |nil=>rfl
   |cons r t=>
    rw[hr]at h;dsimp only at h⊢;split
    ·rename_i h0;rw[NE h0]at h;exact BM _ _ _ h
    ·rename_i h0;rw[ND h0]at h;rw[Ak7 n k _ h];exact BM _ _ _ (Et h0)
  ·rfl
def Ad6(s:B0)(n:Int)(h:(s.more n).2≠11):(s.more n).1.down=s.down:=by
 unfold B0.more at h⊢;split
 ·rfl
 ·rename_i h1;rw[ND h1]at h;split
  ·rfl
  ·rename_i h2;rw[ND h2]at h;split
   ·rename_i h3;rw[NE h3]at h;cases hr:s.rs with
    |nil=>rfl
    |cons r t=>
     rw[hr]at h;exact BM _ _ _ h
   ·rename_i h3;rw[ND h3]at h;dsimp only at h⊢;split
    ·rename_i h4;rw[NE h4]at h;exact KY _ h
    ·rename_i h4;rw[ND h4]at h;have e0:=KY s (Et h4);generalize s.seals=w at h e0;have ez: ∀z:B0×Int,z=(if(G5 w.1.ss w.1.us).2.1.dirty=true then w.1.erase (G5 w.1.ss w.1.us).2.2 else(w.1,0))->z.2≠11->z.1.down=s.down:=fun z hz hn=>by
      subst hz;split
      ·rename_i hd;rw[NE hd]at hn;rw[Ao9 _ _ hn];exact e0
      ·exact e0
     have ez:=ez _ rfl;generalize (if(G5 w.1.ss w.1.us).2.1.dirty=true then w.1.erase (G5 w.1.ss w.1.us).2.2 else(w.1,0))=z at h ez;split
     ·rename_i h5;rw[NE h5]at h;exact ez h
     ·rename_i h5;rw[ND h5]at h;have ez:=ez (Et h5);split
      ·exact ez
      ·rename_i h6;rw[ND h6]at h;split
       ·rename_i h7;rw[NE h7]at h;rw[Au9 _ _ h];exact ez
       ·rename_i h7;rw[ND h7]at h;rw[Ak7 _ _ _ h,Au9 _ _ (Et h7)];exact ez
theorem Sn(n:Int): ∀(k:Nat) (s:B0),(B0.room n k s).2≠11->(B0.room n k s).1.down=s.down
 |0,s,_=>rfl
 |k+1,s,h=>by
  rw[Je]at h⊢;split
  ·split<;>rfl
  ·rename_i hf;rw[ND hf]at h;split
   ·rename_i h0;rw[NE h0]at h;exact Ad6 _ _ h
   ·rename_i h0;rw[ND h0]at h;rw[Sn n k _ h];exact Ad6 _ _ (Et h0)
def By3(s:B0)(key:ByteArray)(p:It):(s.list key p).down=s.down:=rfl
def Jw(s:B0)(key:ByteArray)(val:List UInt8)(h:(s.adm key val).2≠11):(s.adm key val).1.down=s.down:=by
 unfold B0.adm at h⊢;dsimp only at h⊢;split
 ·rfl
 ·rename_i h1;rw[ND h1]at h;split
  ·rename_i h2;rw[NE h2]at h;exact Sn _ _ _ h
  ·rename_i h2;rw[ND h2]at h;have er:=Sn _ _ _ (Et h2);split
   ·rename_i h3;rw[By3,Rt _ _ _ (by rw[h3];decide)];exact er
   ·rename_i h3;rw[ND h3]at h;rw[Rt _ _ _ h];exact er
def Qk(s s':B0):Prop:=s'.q=s.q/\s'.gh=s.gh/\s'.sc=s.sc
def Qk.refl(s:B0):Qk s s:=⟨rfl,rfl,rfl⟩
def Qk.trans{b c:B0}(h:Qk a b)(k:Qk b c):Qk a c:=⟨k.1.trans h.1,k.2.1.trans h.2.1,k.2.2.trans h.2.2⟩
def Oz(s:B0)(kind:Int)(l:List (List UInt8)):Qk s (s.write kind l).1:=by
 unfold B0.write;split
 ·exact .refl s
 ·dsimp only;split<;>exact⟨rfl,rfl,rfl⟩
def Bg6(s:B0):Qk s s.seals.1:=by
 unfold B0.seals;split<;>exact⟨rfl,rfl,rfl⟩
def Au8(s:B0)(b:Int):Qk s (s.begins b).1:=by
 unfold B0.begins;dsimp only;split<;>exact⟨rfl,rfl,rfl⟩
def FY(s:B0)(b:Int):Qk s (s.erase b).1:=by
 unfold B0.erase;dsimp only;split<;>exact⟨rfl,rfl,rfl⟩
def Ad1(s:B0)(p:It)(n beside:Int):Qk s (s.move p n beside).1:=by
 unfold B0.move;dsimp only;split
 ·exact .refl s
 ·split
  ·exact⟨rfl,rfl,rfl⟩
  ·split
   ·exact .refl s
   ·have:=Oz s 2 (F8 (C7 s.d p).1 (C7 s.d p).2.1 (H2 s.sc.c)).1;split
    ·exact⟨this.1,this.2.1,this.2.2⟩
    ·exact this
theorem DW(b ep beside:Int): ∀(l:List It) (s:B0),Qk s (B0.moves b ep beside l s).1
 |[],s=>.refl s
 |x::r,s=>by
  unfold B0.moves;split
  ·exact DW b ep beside r s
  ·dsimp only;split
   ·exact Ad1 ..
   ·exact(Ad1 s _ _ _).trans (DW b ep beside r _)
def BJ(s:B0)(r:E2)(beside:Int):Qk s (s.reclaim r beside).1:=by
 unfold B0.reclaim;dsimp only;have h1:=DW r.b r.ep beside r.l s;split
 ·exact h1
 ·have h2:=FY {(B0.moves r.b r.ep beside r.l s).1 with pend:=(B0.moves r.b r.ep beside r.l s).1.pend.filter fun p=> !decide (p.1=r.b)} r.b;exact h1.trans ⟨h2.1,h2.2.1,h2.2.2⟩
theorem Ak5(n:Int): ∀(k:Nat) (s:B0),Qk s (B0.frees n k s).1
 |0,s=>.refl s
 |k+1,s=>by
  unfold B0.frees;split
  ·split
   ·exact .refl s
   ·dsimp only;split
    ·exact BJ ..
    ·exact(BJ s _ n).trans (Ak5 n k _)
  ·exact .refl s
def Ad4(s:B0)(n:Int):Qk s (s.more n).1:=by
 unfold B0.more;split
 ·exact .refl s
 ·split
  ·exact .refl s
  ·split
   ·split
    ·exact .refl s
    ·exact BJ ..
   ·dsimp only;have h1:=Bg6 s;generalize s.seals=w at h1;split
    ·exact h1
    ·have h2:Qk s (if(G5 w.1.ss w.1.us).2.1.dirty=true then w.1.erase (G5 w.1.ss w.1.us).2.2 else(w.1,0)).1:=by
      split
      ·exact h1.trans (FY ..)
      ·exact h1
     generalize (if(G5 w.1.ss w.1.us).2.1.dirty=true then w.1.erase (G5 w.1.ss w.1.us).2.2 else(w.1,0))=z at h2;split
     ·exact h2
     ·split
      ·exact h2
      ·have h3:=h2.trans (Au8 z.1 (G5 w.1.ss w.1.us).2.2);split
       ·exact h3
       ·exact h3.trans (Ak5 ..)
theorem Nc(n:Int): ∀(k:Nat) (s:B0),Qk s (B0.room n k s).1
 |0,s=>.refl s
 |k+1,s=>by
  rw[Je];split
  ·split<;>exact .refl s
  ·split
   ·exact Ad4 ..
   ·exact(Ad4 s n).trans (Nc n k _)
def Ol(s:B0)(key:ByteArray)(val:List UInt8):Qk s (s.adm key val).1:=by
 unfold B0.adm;dsimp only;split
 ·exact .refl s
 ·have h1:Qk s (s.roomy (F8 key.data.toList val (H2 s.sc.c)).1.length).1:=Nc ..;split
  ·exact h1
  ·have h2:=h1.trans (Oz (s.roomy (F8 key.data.toList val (H2 s.sc.c)).1.length).1 2 (F8 key.data.toList val (H2 s.sc.c)).1);split
   ·exact⟨h2.1,h2.2.1,h2.2.2⟩
   ·exact h2
def Ax9(s:B0)(kind:Int)(l:List (List UInt8)):(s.write kind l).1.sc=s.sc:=(Mv.write s kind l).sc
def B9.roomy(h:B9 s M)(hd:s.down=false)(hn:0<=n):B9 (s.roomy n).1 M/\((s.roomy n).2=0->(s.roomy n).1.down=false/\(s.roomy n).1.fits n=true)/\(s.roomy n).1.sc=s.sc:=B9.room hn _ h hd
def B9.adm(h:B9 s M)(hd:s.down=false)(key:ByteArray)(val:List UInt8):B9 (s.adm key val).1 (M+1)/\(s.adm key val).1.sc=s.sc:=by
 unfold B0.adm;dsimp only;split
 ·exact⟨h.upto (by omega),rfl⟩
 ·obtain⟨h1,h2,h3⟩:=h.roomy hd (n:=((F8 key.data.toList val (H2 s.sc.c)).1.length:Int)) (by omega);generalize s.roomy (F8 key.data.toList val (H2 s.sc.c)).1.length=w at h1 h2 h3;split
  ·exact⟨h1.upto (by omega),h3⟩
  ·rename_i h0;obtain⟨a1,a2⟩:=h2 (by simpa using h0);obtain⟨b1,b2⟩:=h1.write a1 2 (F8 key.data.toList val (H2 s.sc.c)).1;have hq:=HU h1 2 (F8 key.data.toList val (H2 s.sc.c)).1;have hs:=Ax9 w.1 2 (F8 key.data.toList val (H2 s.sc.c)).1;generalize w.1.write 2 (F8 key.data.toList val (H2 s.sc.c)).1=z at b1 b2 hq hs;split
   ·exact⟨b1.list key z.2.1 hq,hs.trans h3⟩
   ·exact⟨b1.upto (by omega),hs.trans h3⟩
def Yt(l:List QD)(k:ByteArray): ∀e∈P7 l k,e∈l:=fun e he=>(UC ..).subset he
def Iq(l:List QD)(k:ByteArray):(P7 l k).length<=l.length:=(UC ..).length_le
def B9.setq(h:B9 s M){q:List QD}(h1: ∀e∈q,1<=e.1.size/\e.1.size<=255/\e.2.1.length<=65536)(h2:q.length<=66000):B9 {s with q:=q} M:={h with dv:=h.dv,qs:=h1,ql:=h2}
def B9.setgh(h:B9 s M){gh:List Int}(h1:(gh.length:Int)<=s.sc.ghost):B9 {s with gh:=gh} M:={h with dv:=h.dv,gl:=h1}
def B9.forget(h:B9 s M)(key:ByteArray):B9 (s.forget key).1 (M+1)/\(s.forget key).1.down=s.down/\(s.forget key).1.sc=s.sc/\(s.forget key).1.q=P7 s.q key/\(s.forget key).1.gh=s.gh:=by
 have h1:B9 {s with q:=P7 s.q key} M:=h.setq (fun e he=>h.qs e (Yt _ _ e he)) (OK (Iq _ _) h.ql);unfold B0.forget;dsimp only;split
 ·exact⟨h1.upto (by omega),rfl,rfl,rfl,rfl⟩
 ·rename_i x hx;refine⟨?_,rfl,rfl,rfl,rfl⟩;have h2:=h1.ixdrop (s.hash key) x;refine{h2 with dv:=h2.dv,pl:=?_,pe:=GW h.pe ?_}
  ·have:=h.pl;show(s.pend++[x]).length<=M+1;rw[NR];simp;omega
  ·obtain⟨y,hy,rfl⟩:=NY.1 (UX hx);exact(h.ixw _ (Nu (h.isi _)) y (OI.1 hy).1).2
def Pp{l:List Int}(h0:0<=room)(h:(l.length:Int)<=room)(x:Int):((Dz room l x).length:Int)<=room:=by
 have h1:(l.erase x).length<=l.length:=TK;unfold Dz;split
 ·rename_i h2;rw[OJ,NR]at*;simp at*;omega
 ·rename_i h2;omega
theorem B9.trim: ∀(k:Nat) {s:B0} {M:Nat},B9 s M->s.down=false->B9 (B0.trim k s).1 (M+k)/\(B0.trim k s).1.sc=s.sc/\((B0.trim k s).2≠11->(B0.trim k s).1.down=false)
 |0,s,M,h,hd=>⟨h,rfl,fun _=>hd⟩
 |k+1,s,M,h,hd=>by
  unfold B0.trim;split
  ·cases hq:s.q with
   |nil=>exact⟨h.upto (by omega),rfl,fun _=>hd⟩
   |cons y r=>
    dsimp only;have gZ:=h.qs;have fC:=h.ql;rw[hq]at gZ fC;have h1:B9 {s with q:=r} M:=h.setq (fun e he=>gZ e (NN _ he)) (by simp at fC;omega);have hw:B9 (if y.2.2>0 then({s with q:=r}:B0).adm y.1 y.2.1 else({s with q:=r},8)).1 (M+1)/\(if y.2.2>0 then({s with q:=r}:B0).adm y.1 y.2.1 else({s with q:=r},8)).1.sc=s.sc/\((if y.2.2>0 then({s with q:=r}:B0).adm y.1 y.2.1 else({s with q:=r},8)).2≠11->(if y.2.2>0 then({s with q:=r}:B0).adm y.1 y.2.1 else({s with q:=r},8)).1.down=false):=by
     split
     ·have ha:=h1.adm hd y.1 y.2.1;exact⟨ha.1,ha.2,fun hn=>(Jw _ _ _ hn).trans hd⟩
     ·exact⟨h1.upto (by omega),rfl,fun _=>hd⟩
    generalize (if y.2.2>0 then({s with q:=r}:B0).adm y.1 y.2.1 else({s with q:=r},8))=w at hw;obtain⟨w1,w2,w3⟩:=hw;split
    ·rename_i h0;obtain⟨a1,a2,a3⟩:=B9.trim k w1 (w3 (by rw[h0];decide));exact⟨a1.upto (by omega),a2.trans w2,a3⟩
    ·split
     ·rename_i h11;exact⟨w1.upto (by omega),w2,fun hn=>absurd h11 hn⟩
     ·rename_i h11;have hg:B9 {w.1 with gh:=Dz s.sc.ghost w.1.gh (s.hash y.1)} (M+1):=w1.setgh (by rw[w2];exact Pp h.gs.1 (by have:=w1.gl;rw[w2]at this;exact this) _);obtain⟨a1,a2,a3⟩:=B9.trim k hg (w3 h11);exact⟨a1.upto (by omega),a2.trans w2,a3⟩
  ·exact⟨h.upto (by omega),rfl,fun _=>hd⟩
def I7(he:e≠11){q:Prop}(h:x=11)(hx:x=e):q:=absurd (hx▸h) he
def Xh(s:B0)(h:e=11):(s.met e).down=true:=by unfold B0.met;simp[h]
def Zx(s:B0)(kind:Int)(l:List (List UInt8))(h:(s.write kind l).2.2=11):(s.write kind l).1.down=true:=by
 unfold B0.write at h⊢;split
 ·rename_i ho;rw[ho]at h;first|exact I7 (e:=0) (by decide) h rfl|exact I7 (e:=13) (by decide) h rfl|exact I7 (e:=7) (by decide) h rfl|exact I7 (e:=8) (by decide) h rfl
 ·rename_i o ho;rw[ho]at h;dsimp only at h⊢;split
  ·rename_i h0;rw[NE h0]at h;exact Xh _ h
  ·rename_i h0;rw[ND h0]at h;first|exact I7 (e:=0) (by decide) h rfl|exact I7 (e:=13) (by decide) h rfl|exact I7 (e:=7) (by decide) h rfl|exact I7 (e:=8) (by decide) h rfl
def Bg5(s:B0)(h:s.seals.2=11):s.seals.1.down=true:=by
 unfold B0.seals at h⊢;split
 ·rename_i ho;rw[ho]at h;first|exact I7 (e:=0) (by decide) h rfl|exact I7 (e:=13) (by decide) h rfl|exact I7 (e:=7) (by decide) h rfl|exact I7 (e:=8) (by decide) h rfl
 ·rename_i o ho;rw[ho]at h;exact Xh _ h
def Cr4(s:B0)(b:Int)(h:(s.begins b).2=11):(s.begins b).1.down=true:=by
 unfold B0.begins at h⊢;dsimp only at h⊢;split
 ·rename_i h0;rw[NE h0]at h;exact Xh _ h
 ·rename_i h0;rw[ND h0]at h;first|exact I7 (e:=0) (by decide) h rfl|exact I7 (e:=13) (by decide) h rfl|exact I7 (e:=7) (by decide) h rfl|exact I7 (e:=8) (by decide) h rfl
def Ao2(s:B0)(b:Int)(h:(s.erase b).2=11):(s.erase b).1.down=true:=by
 unfold B0.erase at h⊢;dsimp only at h⊢;split
 ·exact Xh _ rfl
 ·rename_i h0;rw[ND h0]at h;first|exact I7 (e:=0) (by decide) h rfl|exact I7 (e:=13) (by decide) h rfl|exact I7 (e:=7) (by decide) h rfl|exact I7 (e:=8) (by decide) h rfl
def Ar5(key val:List UInt8)(c:Cf):(F8 key val c).2≠11:=by
 intro h;unfold F8 at h
 repeat' split at h
 all_goals first|exact I7 (e:=0) (by decide) h rfl|exact I7 (e:=2) (by decide) h rfl|exact I7 (e:=4) (by decide) h rfl|exact I7 (e:=14) (by decide) h rfl
def Bv4(s:B0)(p:It)(n beside:Int)(h:(s.move p n beside).2=11):(s.move p n beside).1.down=true:=by
 unfold B0.move at h⊢;dsimp only at h⊢;split
 ·rename_i h1;rw[NE h1]at h;first|exact I7 (e:=0) (by decide) h rfl|exact I7 (e:=13) (by decide) h rfl|exact I7 (e:=7) (by decide) h rfl|exact I7 (e:=8) (by decide) h rfl
 ·rename_i h1;rw[ND h1]at h;split
  ·rename_i h2;rw[NE h2]at h;first|exact I7 (e:=0) (by decide) h rfl|exact I7 (e:=13) (by decide) h rfl|exact I7 (e:=7) (by decide) h rfl|exact I7 (e:=8) (by decide) h rfl
  ·rename_i h2;rw[ND h2]at h;split
   ·rename_i h3;rw[NE h3]at h;exact absurd h (Ar5 _ _ _)
   ·rename_i h3;rw[ND h3]at h;split
    ·rename_i h4;rw[NE h4]at h;first|exact I7 (e:=0) (by decide) h rfl|exact I7 (e:=13) (by decide) h rfl|exact I7 (e:=7) (by decide) h rfl|exact I7 (e:=8) (by decide) h rfl
    ·rename_i h4;rw[ND h4]at h;exact Zx s _ _ h
theorem DU(b ep beside:Int): ∀(l:List It) (s:B0),(B0.moves b ep beside l s).2=11->(B0.moves b ep beside l s).1.down=true
 |[],s,h=>absurd (show(0:Int)=11 from h) (by decide)
 |x::r,s,h=>by
  unfold B0.moves at h⊢;split
  ·rename_i hx;rw[NE hx]at h;exact DU b ep beside r s h
  ·rename_i hx;rw[ND hx]at h;dsimp only at h⊢;split
   ·rename_i h0;rw[NE h0]at h;exact Bv4 _ _ _ _ h
   ·rename_i h0;rw[ND h0]at h;exact DU b ep beside r _ h
def MI(s:B0)(r:E2)(beside:Int)(h:(s.reclaim r beside).2=11):(s.reclaim r beside).1.down=true:=by
 unfold B0.reclaim at h⊢;dsimp only at h⊢;split
 ·rename_i h0;rw[NE h0]at h;exact DU _ _ _ _ _ h
 ·rename_i h0;rw[ND h0]at h;exact Ao2 _ _ h
theorem Ak3(n:Int): ∀(k:Nat) (s:B0),(B0.frees n k s).2=11->(B0.frees n k s).1.down=true
 |0,s,h=>absurd (show(0:Int)=11 from h) (by decide)
 |k+1,s,h=>by
  unfold B0.frees at h⊢;split
  ·rename_i hf;rw[NE hf]at h;cases hr:s.rs with
   |nil=>rw[hr]at h;exact absurd (show(0:Int)=11 from h) (by decide)
   |cons r t=>
    rw[hr]at h;dsimp only at h⊢;split
    ·rename_i h0;rw[NE h0]at h;exact MI _ _ _ h
    ·rename_i h0;rw[ND h0]at h;exact Ak3 n k _ h
  ·rename_i hf;rw[ND hf]at h;first|exact I7 (e:=0) (by decide) h rfl|exact I7 (e:=13) (by decide) h rfl|exact I7 (e:=7) (by decide) h rfl|exact I7 (e:=8) (by decide) h rfl
def Bv6(s:B0)(n:Int)(h:(s.more n).2=11):(s.more n).1.down=true:=by
 unfold B0.more at h⊢;split
 ·rename_i h1;rw[NE h1]at h;first|exact I7 (e:=0) (by decide) h rfl|exact I7 (e:=13) (by decide) h rfl|exact I7 (e:=7) (by decide) h rfl|exact I7 (e:=8) (by decide) h rfl
 ·rename_i h1;rw[ND h1]at h;split
  ·rename_i h2;rw[NE h2]at h;first|exact I7 (e:=0) (by decide) h rfl|exact I7 (e:=13) (by decide) h rfl|exact I7 (e:=7) (by decide) h rfl|exact I7 (e:=8) (by decide) h rfl
  ·rename_i h2;rw[ND h2]at h;split
   ·rename_i h3;rw[NE h3]at h;cases hr:s.rs with
    |nil=>rw[hr]at h;exact absurd (show(7:Int)=11 from h) (by decide)
    |cons r t=>
     rw[hr]at h;exact MI _ _ _ h
   ·rename_i h3;rw[ND h3]at h;dsimp only at h⊢;split
    ·rename_i h4;rw[NE h4]at h;exact Bg5 _ h
    ·rename_i h4;rw[ND h4]at h;generalize s.seals=w at h;have ez: ∀z:B0×Int,z=(if(G5 w.1.ss w.1.us).2.1.dirty=true then w.1.erase (G5 w.1.ss w.1.us).2.2 else(w.1,0))->z.2=11->z.1.down=true:=fun z hz hn=>by
      subst hz;split
      ·rename_i hd;rw[NE hd]at hn;exact Ao2 _ _ hn
      ·rename_i hd;rw[ND hd]at hn;first|exact I7 (e:=0) (by decide) hn rfl|exact I7 (e:=8) (by decide) hn rfl
     have ez:=ez _ rfl;generalize (if(G5 w.1.ss w.1.us).2.1.dirty=true then w.1.erase (G5 w.1.ss w.1.us).2.2 else(w.1,0))=z at h ez;split
     ·rename_i h5;rw[NE h5]at h;exact ez h
     ·rename_i h5;rw[ND h5]at h;split
      ·rename_i h6;rw[NE h6]at h;first|exact I7 (e:=0) (by decide) h rfl|exact I7 (e:=13) (by decide) h rfl|exact I7 (e:=7) (by decide) h rfl|exact I7 (e:=8) (by decide) h rfl
      ·rename_i h6;rw[ND h6]at h;split
       ·rename_i h7;rw[NE h7]at h;exact Cr4 _ _ h
       ·rename_i h7;rw[ND h7]at h;exact Ak3 _ _ _ h
theorem Wh(n:Int): ∀(k:Nat) (s:B0),(B0.room n k s).2=11->(B0.room n k s).1.down=true
 |0,s,h=>absurd (show(13:Int)=11 from h) (by decide)
 |k+1,s,h=>by
  rw[Je]at h⊢;split
  ·rename_i hf;rw[NE hf]at h;split at h<;>first|exact I7 (e:=0) (by decide) h rfl|exact I7 (e:=13) (by decide) h rfl|exact I7 (e:=7) (by decide) h rfl|exact I7 (e:=8) (by decide) h rfl
  ·rename_i hf;rw[ND hf]at h;split
   ·rename_i h0;rw[NE h0]at h;exact Bv6 _ _ h
   ·rename_i h0;rw[ND h0]at h;exact Wh n k _ h
def Aw5(s:B0)(key:ByteArray)(val:List UInt8)(h:(s.adm key val).2=11):(s.adm key val).1.down=true:=by
 unfold B0.adm at h⊢;dsimp only at h⊢;split
 ·rename_i h1;rw[NE h1]at h;exact absurd h (Ar5 _ _ _)
 ·rename_i h1;rw[ND h1]at h;split
  ·rename_i h2;rw[NE h2]at h;exact Wh _ _ _ h
  ·rename_i h2;rw[ND h2]at h;split
   ·rename_i h3;rw[NE h3]at h;first|exact I7 (e:=0) (by decide) h rfl|exact I7 (e:=13) (by decide) h rfl|exact I7 (e:=7) (by decide) h rfl|exact I7 (e:=8) (by decide) h rfl
   ·rename_i h3;rw[ND h3]at h;exact Zx _ _ _ h
theorem Rz: ∀(k:Nat) (s:B0),(B0.trim k s).2=11->(B0.trim k s).1.down=true
 |0,s,h=>absurd (show(0:Int)=11 from h) (by decide)
 |k+1,s,h=>by
  unfold B0.trim at h⊢;split
  ·rename_i ho;rw[NE ho]at h;cases hq:s.q with
   |nil=>rw[hq]at h;exact absurd (show(0:Int)=11 from h) (by decide)
   |cons y r=>
    rw[hq]at h;dsimp only at h⊢;have hw:(if y.2.2>0 then({s with q:=r}:B0).adm y.1 y.2.1 else({s with q:=r},8)).2=11->(if y.2.2>0 then({s with q:=r}:B0).adm y.1 y.2.1 else({s with q:=r},8)).1.down=true:=fun hn=>by
     split
     ·rename_i hf;rw[NE hf]at hn;exact Aw5 _ _ _ hn
     ·rename_i hf;rw[ND hf]at hn;first|exact I7 (e:=0) (by decide) hn rfl|exact I7 (e:=8) (by decide) hn rfl
    generalize (if y.2.2>0 then({s with q:=r}:B0).adm y.1 y.2.1 else({s with q:=r},8))=w at hw h;split
    ·rename_i h0;rw[NE h0]at h;exact Rz k _ h
    ·rename_i h0;rw[ND h0]at h;split
     ·rename_i h1;exact hw h1
     ·rename_i h1;rw[ND h1]at h;exact Rz k _ h
  ·rename_i ho;rw[ND ho]at h;first|exact I7 (e:=0) (by decide) h rfl|exact I7 (e:=13) (by decide) h rfl|exact I7 (e:=7) (by decide) h rfl|exact I7 (e:=8) (by decide) h rfl
def Pk(s s':B0):Prop:=s'.pend.length<=s.pend.length
def Pk.refl(s:B0):Pk s s:=NF _
def Pk.trans{b c:B0}(h:Pk a b)(k:Pk b c):Pk a c:=OK k h
def Ay0(s:B0)(kind:Int)(l:List (List UInt8)):Pk s (s.write kind l).1:=by
 unfold B0.write;split
 ·exact .refl s
 ·dsimp only;split<;>exact NF _
def Bg7(s:B0):Pk s s.seals.1:=by
 unfold B0.seals;split<;>exact NF _
def Cr6(s:B0)(b:Int):Pk s (s.begins b).1:=by
 unfold B0.begins;dsimp only;split<;>exact NF _
def Ao4(s:B0)(b:Int):Pk s (s.erase b).1:=by
 unfold B0.erase;dsimp only;split<;>exact NF _
def Ad2(s:B0)(p:It)(n beside:Int):Pk s (s.move p n beside).1:=by
 unfold B0.move;dsimp only;split
 ·exact .refl s
 ·split
  ·exact NF _
  ·split
   ·exact .refl s
   ·have:=Ay0 s 2 (F8 (C7 s.d p).1 (C7 s.d p).2.1 (H2 s.sc.c)).1;split
    ·exact this
    ·exact this
theorem DX(b ep beside:Int): ∀(l:List It) (s:B0),Pk s (B0.moves b ep beside l s).1
 |[],s=>.refl s
 |x::r,s=>by
  unfold B0.moves;split
  ·exact DX b ep beside r s
  ·dsimp only;split
   ·exact Ad2 ..
   ·exact(Ad2 s _ _ _).trans (DX b ep beside r _)
def BK(s:B0)(r:E2)(beside:Int):Pk s (s.reclaim r beside).1:=by
 unfold B0.reclaim;dsimp only;have h1:=DX r.b r.ep beside r.l s;split
 ·exact h1
 ·have h2:=Ao4 {(B0.moves r.b r.ep beside r.l s).1 with pend:=(B0.moves r.b r.ep beside r.l s).1.pend.filter fun p=> !decide (p.1=r.b)} r.b;exact h1.trans (OK h2 (RS ..))
theorem Ak6(n:Int): ∀(k:Nat) (s:B0),Pk s (B0.frees n k s).1
 |0,s=>.refl s
 |k+1,s=>by
  unfold B0.frees;split
  ·split
   ·exact .refl s
   ·dsimp only;split
    ·exact BK ..
    ·exact(BK s _ n).trans (Ak6 n k _)
  ·exact .refl s
def Ad5(s:B0)(n:Int):Pk s (s.more n).1:=by
 unfold B0.more;split
 ·exact .refl s
 ·split
  ·exact .refl s
  ·split
   ·split
    ·exact .refl s
    ·exact BK ..
   ·dsimp only;have h1:=Bg7 s;generalize s.seals=w at h1;split
    ·exact h1
    ·have h2:Pk s (if(G5 w.1.ss w.1.us).2.1.dirty=true then w.1.erase (G5 w.1.ss w.1.us).2.2 else(w.1,0)).1:=by
      split
      ·exact h1.trans (Ao4 ..)
      ·exact h1
     generalize (if(G5 w.1.ss w.1.us).2.1.dirty=true then w.1.erase (G5 w.1.ss w.1.us).2.2 else(w.1,0))=z at h2;split
     ·exact h2
     ·split
      ·exact h2
      ·have h3:=h2.trans (Cr6 z.1 (G5 w.1.ss w.1.us).2.2);split
       ·exact h3
       ·exact h3.trans (Ak6 ..)
theorem BG(n:Int): ∀(k:Nat) (s:B0),Pk s (B0.room n k s).1
 |0,s=>.refl s
 |k+1,s=>by
  rw[Je];split
  ·split<;>exact .refl s
  ·split
   ·exact Ad5 ..
   ·exact(Ad5 s n).trans (BG n k _)
def Cm8(e:QD)(l:List QD):Gb (e::l)=e.1.size+e.2.1.length+Gb l:=by simp[Gb]
def Cm7{l:List QD}(h: ∀e∈l,1<=e.1.size):l.length<=Gb l:=by
 induction l with
 |nil=>simp
 |cons a r ih=>
  have h1:=h a (by simp);have h2:=ih fun e he=>h e (by simp[he]);rw[Cm8,NU];omega
theorem AC: ∀(k:Nat) (s:B0),s.q.length<k->0<=s.sc.small->(B0.trim k s).2≠11->(Gb (B0.trim k s).1.q:Int)<=s.sc.small
 |0,s,hk,_,_=>absurd hk (by omega)
 |k+1,s,hk,hs,hn=>by
  unfold B0.trim at hn⊢;split
  ·rename_i ho;rw[NE ho]at hn;cases hq:s.q with
   |nil=>rw[hq]at ho;exact absurd ho (by show¬((0:Nat):Int)>_;omega)
   |cons y r=>
    rw[hq]at hn hk;simp only[NU]at hk;dsimp only at hn⊢;have hw:Qk {s with q:=r} (if y.2.2>0 then({s with q:=r}:B0).adm y.1 y.2.1 else({s with q:=r},8)).1:=by
     split
     ·exact Ol ..
     ·exact .refl _
    generalize (if y.2.2>0 then({s with q:=r}:B0).adm y.1 y.2.1 else({s with q:=r},8))=w at hw hn;obtain⟨w1,w2,w3⟩:=hw;have w1:w.1.q=r:=w1;have w3:w.1.sc=s.sc:=w3;split
    ·rename_i h0;rw[NE h0]at hn;have:=AC k w.1 (by rw[w1];omega) (by rw[w3];exact hs) hn;rw[w3]at this;exact this
    ·rename_i h0;rw[ND h0]at hn;split
     ·rename_i h1;rw[NE h1]at hn;exact absurd h1 hn
     ·rename_i h1;rw[ND h1]at hn;have:=AC k {w.1 with gh:=Dz s.sc.ghost w.1.gh (s.hash y.1)} (by show w.1.q.length<k;rw[w1];omega) (by show 0<=w.1.sc.small;rw[w3];exact hs) hn;have e:({w.1 with gh:=Dz s.sc.ghost w.1.gh (s.hash y.1)}:B0).sc=s.sc:=w3;rw[e]at this;exact this
  ·rename_i ho;exact VD.1 ho
structure M5(s:B0)(M:Nat):Prop where
 ok:B9 s M
 q:s.down=false->s.q.length<=65536
def M5.upto(h:M5 s M)(hn:M<=N):M5 s N:=⟨h.ok.upto hn,h.q⟩
def Mj(h:s.asked key=0):s.down=false/\1<=key.size/\key.size<=255:=by
 unfold B0.asked at h;split at h
 ·cases h
 ·rename_i h1;split at h
  ·cases h
  ·rename_i h2;rw[PS]at h2;exact⟨by simpa using h1,by omega,by omega⟩
def B9.putYoung(h:B9 s M)(hd:s.down=false)(hq:s.q.length<=65536){val:List UInt8}(hk:1<=key.size/\key.size<=255)(hv:val.length<=65536):
  B9 {s with q:=P7 s.q key++[(key,val,0)]} M/\M5 (s.putYoung key val).1 (M+70000)/\(s.putYoung key val).1.sc=s.sc:=by
 have pR:=Iq s.q key;have h1:B9 {s with q:=P7 s.q key++[(key,val,0)]} M:=h.setq (fun e he=>by
  rcases NJ.1 he with he|he
  ·exact h.qs e (Yt _ _ e he)
  ·rw[NM.1 he];exact⟨hk.1,hk.2,hv⟩) (by rw[NR];simp;omega)
 refine⟨h1,?_⟩;obtain⟨a1,a2,a3⟩:=B9.trim (s.q.length+2) h1 hd;have jV:=AC (s.q.length+2) {s with q:=P7 s.q key++[(key,val,0)]} (by show(P7 s.q key++[(key,val,0)]).length<_;rw[NR];simp;omega) h.sm.1;have kY:=Rz (s.q.length+2) {s with q:=P7 s.q key++[(key,val,0)]};unfold B0.putYoung;refine⟨⟨a1.upto (by omega),fun aG=>?_⟩,a2⟩;generalize B0.trim (s.q.length+2) {s with q:=P7 s.q key++[(key,val,0)]}=w at*;have h11:w.2≠11\/w.2=11:=by omega
 rcases h11 with h11|h11
 ·have h2:=jV h11;have h3:=Cm7 (l:=w.1.q) fun e he=>(a1.qs e he).1;have h4:=h.sm;have h2:(Gb w.1.q:Int)<=s.sc.small:=h2;omega
 ·rw[kY h11]at aG;cases aG
def M5.put(h:M5 s M)(key:ByteArray)(val:List UInt8):M5 (s.put key val).1 (M+100000)/\(s.put key val).1.sc=s.sc:=by
 unfold B0.put;split
 ·exact⟨h.upto (by omega),rfl⟩
 ·rename_i ha;obtain⟨hd,hk⟩:=Mj (s:=s) (key:=key) (by simpa using ha);split
  ·exact⟨h.upto (by omega),rfl⟩
  ·rename_i hv;obtain⟨f1,f2,f3,f4,f5⟩:=h.ok.forget key;have fK:(s.forget key).1.q.length<=65536:=by rw[f4];exact OK (Iq _ _) (h.q hd)
   have dB:(s.forget key).1.down=false:=f2.trans hd;dsimp only;generalize (s.forget key).1=s1 at f1 f2 f3 f4 f5 fK dB;split
   ·exact⟨⟨f1.upto (by omega),fun _=>fK⟩,f3⟩
   ·split
    ·have hg:B9 {s1 with gh:=s1.gh.erase ((s.hash key:Nat):Int)} (M+1):=f1.setgh (by have h1:=f1.gl;have h2:(s1.gh.erase ((s.hash key:Nat):Int)).length<=s1.gh.length:=TK;omega);obtain⟨a1,a2⟩:=hg.adm dB key val;have a3:=Ol {s1 with gh:=s1.gh.erase ((s.hash key:Nat):Int)} key val;have a4:=Jw {s1 with gh:=s1.gh.erase ((s.hash key:Nat):Int)} key val;generalize ({s1 with gh:=s1.gh.erase ((s.hash key:Nat):Int)}:B0).adm key val=w at a1 a2 a3 a4;have gK:w.1.q.length<=65536:=by rw[a3.1];exact fK
     split
     ·exact⟨⟨a1.upto (by omega),fun _=>gK⟩,a2.trans f3⟩
     ·rename_i hw;rw[PS]at hw;have:=a1.putYoung ((a4 hw.2).trans dB) gK (val:=val) hk (by omega);exact⟨this.2.1.upto (by omega),this.2.2.trans (a2.trans f3)⟩
    ·have:=f1.putYoung dB fK (val:=val) hk (by omega);exact⟨this.2.1.upto (by omega),this.2.2.trans f3⟩
def M5.tick(h:M5 s M)(now:Int):M5 (s.tick now) M/\(s.tick now).sc=s.sc:=by
 unfold B0.tick;split
 ·exact⟨h,rfl⟩
 ·exact⟨⟨{h.ok with dv:=h.ok.dv,bk:=Cq5 h.ok.bk now},h.q⟩,rfl⟩
def Cd9{l:List C8}{nm:Dm}: ∀x∈Bv l nm,∃y∈l,x.p=y.p/\x.e=y.e:=fun x hx=>by
 unfold Bv at hx;split at hx
 ·rename_i i hi;obtain⟨j,hj,rfl⟩:=TM hx;rw[UY]at hj;refine⟨l[j],NO hj,?_⟩;rw[ZE];split<;>exact⟨rfl,rfl⟩
 ·exact⟨x,hx,rfl,rfl⟩
def M5.get(h:M5 s M)(key:ByteArray):M5 (s.get key).1 M/\(s.get key).1.sc=s.sc:=by
 unfold B0.get;split
 ·exact⟨h,rfl⟩
 ·split
  ·refine⟨⟨h.ok.setq (fun e he=>?_) (by unfold Gc;rw[NL];exact h.ok.ql),fun hd=>by show(Gc s.q key).length<=65536;unfold Gc;rw[NL];exact h.q hd⟩,rfl⟩;unfold Gc at he;obtain⟨y,hy,rfl⟩:=NY.1 he;have:=h.ok.qs y hy;split<;>exact this
  ·split
   ·exact⟨h,rfl⟩
   ·refine⟨⟨h.ok.ixset _ (Aj4 (h.ok.ixi.row (h.ok.isi _)) _) fun x hx=>?_,h.q⟩,rfl⟩;obtain⟨y,hy,e,e2⟩:=Cd9 x hx;rw[e,e2];exact h.ok.ixw _ (Nu (h.ok.isi _)) y hy
def M5.delete(h:M5 s M)(key:ByteArray):M5 (s.delete key).1 (M+1)/\(s.delete key).1.sc=s.sc:=by
 unfold B0.delete;split
 ·exact⟨h.upto (by omega),rfl⟩
 ·obtain⟨f1,f2,f3,f4,f5⟩:=h.ok.forget key;exact⟨⟨f1,fun hd=>by show(s.forget key).1.q.length<=65536;rw[f4];exact OK (Iq _ _) (h.q (f2▸hd))⟩,f3⟩
theorem M5.flushes: ∀(k:Nat) {s:B0} {M:Nat},M5 s M->s.down=false->M5 (B0.flushes k s).1 M/\(B0.flushes k s).1.sc=s.sc
 |0,s,M,h,hd=>⟨h,rfl⟩
 |k+1,s,M,h,hd=>by
  unfold B0.flushes;split
  ·exact⟨h,rfl⟩
  ·obtain⟨a1,a2,a3⟩:=h.ok.roomy hd (n:=1) (by decide);have aq:(s.roomy 1).1.q=s.q:=(Nc 1 (s.mu+1) s).1;dsimp only;have adn:=Sn 1 (s.mu+1) s;have adn:(s.roomy 1).2≠11->(s.roomy 1).1.down=s.down:=adn;have aup:(s.roomy 1).2=11->(s.roomy 1).1.down=true:=Wh 1 (s.mu+1) s;generalize s.roomy 1=w at a1 a2 a3 aq adn aup;have iw:M5 w.1 M:=⟨a1,fun _=>by rw[aq];exact h.q hd⟩;split
   ·exact⟨iw,a3⟩
   ·rename_i h0;obtain⟨b1,b2⟩:=a2 (by simpa using h0);split
    ·exact⟨iw,a3⟩
    ·split
     ·exact⟨iw,a3⟩
     ·obtain⟨c1,c2⟩:=a1.write b1 3 [(K9 (w.1.pend.take (min w.1.pend.length (E0 w.1.sc.c.S/6).toNat))).1];have cq:=Oz w.1 3 [(K9 (w.1.pend.take (min w.1.pend.length (E0 w.1.sc.c.S/6).toNat))).1];generalize w.1.write 3 [(K9 (w.1.pend.take (min w.1.pend.length (E0 w.1.sc.c.S/6).toNat))).1]=z at c1 c2 cq;have iz:M5 z.1 M:=⟨c1,fun _=>by rw[cq.1,aq];exact h.q hd⟩;split
      ·exact⟨iz,cq.2.2.trans a3⟩
      ·rename_i h1;have h1:z.2.2=0:=by simpa using h1
       have i4:M5 {z.1 with pend:=z.1.pend.drop (min w.1.pend.length (E0 w.1.sc.c.S/6).toNat)} M:=⟨c1.dropp _,iz.q⟩;have:=M5.flushes k i4 (c2 h1);exact⟨this.1,this.2.trans (cq.2.2.trans a3)⟩
def M5.flush(h:M5 s M):M5 s.flush.1 M/\s.flush.1.sc=s.sc:=by
 unfold B0.flush;split
 ·exact⟨h,rfl⟩
 ·rename_i hd;exact M5.flushes _ h (by simpa using hd)
def _root_.Go.HL.CallF.imp{K K':Value->HP}(h:CallF P f args L K)(hk: ∀v L',K v L'->K' v L'):CallF P f args L K':=CallF.mono h fun v L' _ hK=>hk v L' hK
def QE.dat(e:QE):QD:=(e.key,e.val,e.freq)
def Gg(m:Nat)(room:Int)(l:List QD)(A:B1):Prop:= ∃l':List QE,QH m room l' A/\l'.map QE.dat=l
def Ra(l:List QE)(k:ByteArray):T2 (l.map QE.dat) k=(W4 l k).map QE.dat:=by
 unfold T2 W4;rw[List.find?_map];rfl
def Ar1(l:List QE)(k:ByteArray):P7 (l.map QE.dat) k=(Ia l k).map QE.dat:=by
 unfold P7 Ia;rw[List.eraseP_map];rfl
def Cn5(l:List QE)(k:ByteArray):Gc (l.map QE.dat) k=(Ng l k).map QE.dat:=by
 unfold Gc Ng;rw[OO,OO];refine TA fun e _=>?_;by_cases h:e.key=k
 ·simp[Function.comp,QE.dat,Y2,h]
 ·simp[Function.comp,QE.dat,Y2,h]
def Cm6(l:List QE):Gb (l.map QE.dat)=J6 l:=by
 unfold Gb J6;rw[OO];rfl
def Bn6(room:Int):CallF PP 68 #[.i room] [] fun r L'=> ∃m,r= .p m/\Gg m (L9 room 0) [] L':=
 (Bm7 room).imp fun r L' ⟨m,e,h⟩=>⟨m,e,[],h,rfl⟩
def Bn9(m:Nat)(room:Int)(l:List QD)(A:B1)(h:Gg m room l A)(k:ByteArray):
  CallF PP 88 #[.p m,.w k] A fun r L'=>r= .b (T2 l k).isSome/\Gg m room (P7 l k) L':=by
 obtain⟨l',h,rfl⟩:=h;refine(MN m room l' A h k).imp ?_;rintro r L' ⟨rfl,h'⟩;refine⟨by rw[Ra,UD],_,h',(Ar1 l' k).symm⟩
def Bn2(m:Nat)(room:Int)(l:List QD)(A A0:B1)(h:Gg m room l A)(bN:l.length<100000)(k:ByteArray)(hk:k.size<=100000)(v:B6)(b:List UInt8)(hv:G0 A0 v b)(hb:b.length<=100000):
  CallF PP 49 #[.p m,.w k,.slice v.a v.len v.cap] (A++A0) fun r L'=>r= .t #[]/\ ∃A',L'=A'++A0/\Gg m room (P7 l k++[(k,b,0)]) A':=by
 obtain⟨l',h,rfl⟩:=h;rw[NL]at bN;refine(Bm3 m room l' A A0 h bN k hk v b hv hb).imp ?_;rintro r L' ⟨rfl,A',e,rfl,h',rfl,rfl,hf⟩;refine⟨rfl,A',rfl,_,h',?_⟩;rw[Ar1,NQ];simp[QE.dat,hf]
def Bn4(m:Nat)(room:Int)(l:List QD)(A:B1)(h:Gg m room l A)(k:ByteArray):
  CallF PP 75 #[.p m,.w k] A fun r L'=> ∃(u:B6) (seg:B1),r= .t #[.slice u.a u.len u.cap,.b (T2 l k).isSome]/\L'=seg++A/\C5 u 1 Ke (F9 (((T2 l k).map fun e=>e.2.1).getD [])) seg:=by
 obtain⟨l',h,rfl⟩:=h;refine(Bm5 m room l' A h k).imp ?_;rintro r L' ⟨u,seg,rfl,rfl,o⟩;refine⟨u,seg,by rw[Ra,UD],rfl,?_⟩;rw[Ra,VV];exact o
def Bn8(m:Nat)(room:Int)(l:List QD)(A:B1)(h:Gg m room l A)(k:ByteArray):
  CallF PP 53 #[.p m,.w k] A fun r L'=> ∃(u:B6) (seg A':B1),r= .t #[.slice u.a u.len u.cap,.b (T2 l k).isSome]/\L'=seg++A'/\C5 u 1 Ke (F9 (((T2 l k).map fun e=>e.2.1).getD [])) seg/\Gg m room (Gc l k) A':=by
 obtain⟨l',h,rfl⟩:=h;refine(Bm9 m room l' A h k).imp ?_;rintro r L' ⟨u,seg,A',rfl,rfl,o,h'⟩;refine⟨u,seg,A',by rw[Ra,UD],rfl,?_,_,h',(Cn5 l' k).symm⟩;rw[Ra,VV];exact o
def Bn7(m:Nat)(room:Int)(l:List QD)(A:B1)(h:Gg m room l A)(k:ByteArray):Reads PP 76 #[.p m,.w k] A (.b (T2 l k).isSome):=by
 obtain⟨l',h,rfl⟩:=h;rw[Ra,UD];exact Bm8 m room l' A h k
def Bn5(m:Nat)(room:Int)(l:List QD)(A:B1)(h:Gg m room l A):Reads PP 99 #[.p m] A (.b (decide ((Gb l:Int)>room))):=by
 obtain⟨l',h,rfl⟩:=h;rw[Cm6];exact Bm6 m room l' A h
def Bn3(m:Nat)(room:Int)(e:QD)(s:List QD)(A:B1)(h:Gg m room (e::s) A):
  CallF PP 100 #[.p m] A fun r L'=> ∃(u:B6) (seg A':B1),r= .t #[.agg #[.w e.1,.slice u.a u.len u.cap,.i e.2.2],.b true]/\L'=A'++seg/\G0 seg u e.2.1/\Gg m room s A':=by
 obtain⟨l',h,hl⟩:=h;cases l' with
 |nil=>cases hl
 |cons x r=>
  injection hl with h1 h2;subst h1;subst h2;have ok:Hc (x::r):=by obtain⟨mk,mes,clock,rfl,hm,ok⟩:=h;exact ok
  refine(Bm4 m room x r A h).imp ?_;rintro _ L' ⟨rfl,A',rfl,h'⟩;exact⟨x.v,x.seg,A',rfl,rfl,(ok.own x (by simp)).sl,r,h',rfl⟩
def Bg0(n:Nat)(room:Int)(l0 l:List Int)(o:Obj)(h:Ja room l0 o)(v:B6)(seg:B1)(hs:R4 seg v .u64 l)(hl:l.length<=64):
  CallF PP 94 #[.p n,.slice v.a v.len v.cap] ((n,o)::seg) fun r L'=>r= .t #[]/\ ∃o',L'=(n,o')::seg/\Ja room l o':=by
 refine(e94 (some n.z) v).c ?_;obtain⟨c,f,rfl,aE,h0,h65,h66,hf,jH,hr⟩:=h;have hC:=hs.len;refine B7 rfl (Q2 (l':=0) (h':=64) (m':=64) rfl rfl rfl (by omega) (by omega) (NF _) ?_);have jF:min v.len 64=l.length:=by omega
 have cF:(O6 .u64 l).take (min v.len 64*1)=O6 .u64 l:=by rw[jF];exact PZ (by rw[Hi];omega)
 refine Ar8 (A:=[]) (B:=seg) (b:=n) (off:=1) (T:=233) (fz:=(0,0)) (c:=c) (v:=G7 ⟨some (Addr.add n.z 1),64,64⟩ (0:Nat) (64:Nat) (64:Nat) 1) (vs:=v) (ws:=O6 .u64 l) (sz:=1) Yq.und (by kernel_rfl) rfl hs.cons (Tw _ _) ?_ (.inl (NF _)) ?_
 ·simp only[G7,NK];omega
 ·have bY:(G7 ⟨some (Addr.add n.z 1),64,64⟩ (0:Nat) (64:Nat) (64:Nat) 1).len=64:=rfl;rw[bY,cF,jF];have w1:=Hg (O6 .u64 l) c 1;have w1s:=Bi (O6 .u64 l) c 1;generalize wr c 1 (O6 .u64 l)=c1 at w1 w1s⊢;refine B7 rfl (F6 (n:=n) (off:=65) [] seg rfl rfl (by rw[w1s,aE];exact(show 66<=67 by decide)) (.inl (NF _)) (c1.setIfInBounds 65 (.i 0)) rfl ?_);refine B7 rfl (F6 (n:=n) (off:=66) [] seg rfl rfl (by rw[VB,w1s,aE];exact NF 67) (.inl (NF _)) ((c1.setIfInBounds 65 (.i 0)).setIfInBounds 66 (.i l.length)) rfl ?_);rw[Hi]at w1;refine .of ⟨rfl,_,rfl,_,0,rfl,by simp[w1s,aE],?_,?_,?_,by omega,hl,?_⟩
  ·rw[Ah _ _ _ _ (by rw[VB];omega),Ah _ _ _ _ (by omega),ND (by omega),ND (by omega),w1 _ (by omega),ND (by omega)];exact h0
  ·rw[Ah _ _ _ _ (by rw[VB];omega),Ah _ _ _ _ (by omega),ND (by omega),NE rfl];rfl
  ·rw[Ah _ _ _ _ (by rw[VB];omega),NE rfl]
  ·intro i x hx;have hi:=(PL.1 hx).1;have hm:(0+i)%64=i:=by omega
   rw[hm,Ah _ _ _ _ (by rw[VB];omega),Ah _ _ _ _ (by omega),ND (by omega),ND (by omega),w1 _ (by omega),NE (by omega),show 1+i-1=i by omega];rw[NV hi]at hx;rw[Ah6 hi,NI hx]
def Aq2(n:Nat)(room:Int)(l:List Int)(o:Obj)(h:Ja room l o)(x:Int):
  CallF PP 46 #[.p n,.int .u64 x] [(n,o)] fun r L'=>r= .b (decide (x∈l))/\ ∃o',L'=[(n,o')]/\Ja room (l.erase x) o':=by
 refine(e46 (some n.z) x).c ?_;have hl:l.length<=64:=by obtain⟨_,_,_,_,_,_,_,_,hl,_⟩:=h;exact hl
 refine D8 rfl ?_;refine K3 [] [] (Ct2 n room l o h) rfl ?_;rintro w A'-⟨s,seg,rfl,rfl,own⟩;refine⟨(s,()),rfl,?_⟩;refine K3 [(n,o)] [] (Br0 seg s l own.sl (by omega) x) (by simp) ?_;rintro w A'-⟨rfl,i,rfl,aO⟩;refine⟨(i,()),rfl,?_⟩;refine D3 (fun(h1:i<0)=>?_) (fun(h1: ¬i<0)=>?_)
 ·have hx:x∉l:=fun e=>by have:=aO.mem.2 e;omega
  refine .drop (A:=[(n,o)]) (J:=A') ⟨by rw[OF hx],o,rfl,by rw[XY hx];exact h⟩ (by simp)
 ·rcases aO with⟨rfl,_⟩|⟨k,rfl,hk,hx,hn⟩
  ·omega
  ·have hw:IntKind.i64.wrap ((k:Int)+1)=(k:Int)+1:=D7 (by omega) (by omega);simp only[hw];refine K3 [(n,o)] [] (Cn2 s l A' own (by omega) k hk) (by simp) ?_;rintro w A2-⟨s2,rfl,own2⟩;rw[<-Ve.erase hk hx hn]at own2;refine⟨(s2,()),rfl,?_⟩;have bV:=Ao5 l x;refine K3 [] [] (Bg0 n room l (l.erase x) o h s2 A2 own2.sl (by omega)) (by simp) ?_;rintro w A3-⟨rfl,o',rfl,bH⟩;refine⟨(),rfl,?_⟩;have sW:x∈l:=QI hx;exact .drop (A:=[(n,o')]) (J:=A2) ⟨by rw[OH sW],o',rfl,bH⟩ (by simp)
def Bk9{l:List Int}{c:Array Value}{f:Nat}(aE:c.size=67)(h0:c[0]?=some (.i room))(h65:c[65]?=some (.i f))(hf:f<64)(hl:l.length<64)
  (hr: ∀(i:Nat) (x:Int),l[i]?=some x->c[1+(f+i)%64]?=some (.int .u64 x)) (x:Int):
  Ja room (l++[x]) (.cells ((c.setIfInBounds (1+(f+l.length)%64) (.int .u64 x)).setIfInBounds 66 (.i ((l.length:Int)+1))) 233):=by
 have hm:(f+l.length)%64<64:=QP _ (by omega);refine⟨_,f,rfl,by simp[aE],?_,?_,?_,hf,by rw[NR];simp only[NU,OX];omega,?_⟩
 ·rw[Ah _ _ _ _ (by simp[aE]),Ah _ _ _ _ (by omega),ND (by omega),ND (by omega)];exact h0
 ·rw[Ah _ _ _ _ (by simp[aE]),Ah _ _ _ _ (by omega),ND (by omega),ND (by omega)];exact h65
 ·rw[Ah _ _ _ _ (by simp[aE]),NE rfl,NR];rfl
 ·intro i y hy;have hmi:(f+i)%64<64:=QP _ (by omega);have hi:=(PL.1 hy).1;rw[NR]at hi;simp only[NU,OX]at hi;rw[Ah _ _ _ _ (by simp[aE]),ND (by omega),Ah _ _ _ _ (by omega)];by_cases he:i=l.length
  ·subst he;rw[NE rfl];simp at hy;rw[hy]
  ·rw[ND (by omega)];rw[QX (by omega)]at hy;exact hr i y hy
def Ct4(n:Nat)(room:Int)(l:List Int)(o:Obj)(h:Ja room l o)(h1:(l.length:Int)<=room)(h2:room<=64)(x:Int):
  CallF PP 101 #[.p n,.int .u64 x] [(n,o)] fun r L'=>r= .t #[]/\ ∃o',L'=[(n,o')]/\Ja room (Dz room l x) o':=by
 refine(e101 (some n.z) x).c ?_;have aK:C0 n.z [.i room] [(n,o)]:=by
  obtain⟨c,f,rfl,aE,h0,_⟩:=h;exact Gt NG h0
 refine D8 rfl (B7 rfl (B5 room aK ?_));refine Ex (fun(he:room=0)=>?_) (fun(hZ:room≠0)=>?_)
 ·have hl:l=[]:=RG.1 (by omega);subst hl he;exact .of ⟨rfl,o,rfl,h⟩
 refine K3 [] [] (Aq2 n room l o h x) rfl ?_;rintro w A'-⟨rfl,o1,rfl,dU⟩;refine⟨(decide (x∈l),()),rfl,?_⟩;have xF:=Ao5 l x;unfold Dz;generalize l.erase x=e at dU xF⊢;clear aK h;have bV:((e++[x]).length:Int)=e.length+1:=by rw[NR];rfl
 rw[bV];refine V9 (fun y L'=> ∃(c:Array Value) (f:Nat) (l':List Int),L'=[(n,Obj.cells c 233)]/\c.size=67/\c[0]?=some (.i room)/\c[65]?=some (.i f)/\c[66]?=some (.i l'.length)/\f<64/\l'.length<64/\
   (∀(i:Nat) (x:Int),l'[i]?=some x->c[1+(f+i)%64]?=some (.int .u64 x))/\l'++[x]=if((e.length:Int)+1)>room then(e++[x]).drop 1 else e++[x]) ?_ ?_
 ·rintro y L' ⟨c,f,l',rfl,aE,h0,h65,h66,hf,bQ,hr,he⟩;have hw:IntKind.i64.wrap ((f:Int)+l'.length)=((f+l'.length:Nat):Int):=by rw[D7 (by omega) (by omega)];omega
  have aV:Int.tmod ((f+l'.length:Nat):Int) 64=(((f+l'.length)%64:Nat):Int):=by rw[TI (by omega)];omega
  have hm:(f+l'.length)%64<64:=QP _ (by omega);refine B7 rfl (B7 rfl (B7 rfl (B5 (f:Int) (Gt NG h65) (B5 (l'.length:Int) (Gt NG h66) (Dv (by decide) ?_)))));simp only[hw,aV,NK,OS];refine H7 (by omega) (by omega) (F6 (n:=n) (off:=1+(f+l'.length)%64) [] [] (by rw[Fh (ad:=n.z) rfl,Fh rfl,QO]) rfl (by simp only[NU,OX];omega) (.inl (NF _)) _ rfl ?_);have g66:(c.setIfInBounds (1+(f+l'.length)%64) (.int .u64 x))[66]?=some (.i l'.length):=by
   rw[Ah _ _ _ _ (by omega),ND (by omega)];exact h66
  refine B7 rfl (B5 (l'.length:Int) (Gt NG g66) (B7 rfl (F6 (n:=n) (off:=66) [] [] rfl rfl (by simp[aE,Bi]) (.inl (NF _)) _ rfl ?_)));refine .of ⟨rfl,_,rfl,?_⟩;rw[<-he];have:=Bk9 aE h0 h65 hf bQ hr x;simp only[D7 (n:=(l'.length:Int)+1) (by omega) (by omega)];exact this
 ·intro j hj;obtain⟨c,f,rfl,aE,h0,h65,h66,hf,bQ,hr⟩:=dU;refine B7 rfl (B7 rfl (B5 (e.length:Int) (Gt NG h66) (B5 room (Gt NG h0) ?_)));refine Ex (fun(he:(e.length:Int)=room)=>?_) (fun(he:(e.length:Int)≠room)=>?_)
  ·have hw:IntKind.i64.wrap ((f:Int)+1)=((f+1:Nat):Int):=by rw[D7 (by omega) (by omega)];omega
   have aV:Int.tmod ((f+1:Nat):Int) 64=(((f+1)%64:Nat):Int):=by rw[TI (by omega)];omega
   refine B7 rfl (B5 (f:Int) (Gt NG h65) (Dv (by decide) ?_));simp only[hw,aV];refine B7 rfl (F6 (n:=n) (off:=65) [] [] rfl rfl (by simp[aE]) (.inl (NF _)) (c.setIfInBounds 65 (.i (((f+1)%64:Nat):Int))) rfl ?_);have g66:(c.setIfInBounds 65 (.i (((f+1)%64:Nat):Int)))[66]?=some (.i e.length):=by
    rw[Ah _ _ _ _ (by omega),ND (by omega)];exact h66
   refine B7 rfl (B5 (e.length:Int) (Gt NG g66) (B7 rfl (F6 (n:=n) (off:=66) [] [] rfl rfl (by simp[aE]) (.inl (NF _)) _ rfl (hj _ _ ?_))));cases e with
   |nil=>simp at he;omega
   |cons a r=>
    have dh:(((a::r).length:Nat):Int)=(r.length:Int)+1:=by simp
    have hm:(f+1)%64<64:=QP _ (by omega);simp only[NU]at bQ xF;refine⟨_,(f+1)%64,r,rfl,?_,?_,?_,?_,hm,by omega,?_,?_⟩
    ·simp[Bi,aE]
    ·show((c.setIfInBounds 65 _).setIfInBounds 66 _)[0]?=_;rw[Ah _ _ _ _ (by simp[aE]),Ah _ _ _ _ (by omega),ND (by omega),ND (by omega)];exact h0
    ·show((c.setIfInBounds 65 _).setIfInBounds 66 _)[65]?=_;rw[Ah _ _ _ _ (by simp[aE]),Ah _ _ _ _ (by omega),ND (by omega),NE rfl]
    ·show((c.setIfInBounds 65 _).setIfInBounds 66 _)[66]?=_;rw[Ah _ _ _ _ (by simp[aE]),NE rfl,dh,D7 (by omega) (by omega)];congr 2;omega
    ·intro i y hy;show((c.setIfInBounds 65 _).setIfInBounds 66 _)[1+((f+1)%64+i)%64]?=_;have hmi:((f+1)%64+i)%64<64:=QP _ (by omega);rw[Ah _ _ _ _ (by simp[aE]),Ah _ _ _ _ (by omega),ND (by omega),ND (by omega)];have:=hr (i+1) y (by simpa using hy);rw[<-this];congr 2;omega
    ·rw[NE (by omega)];rfl
  ·refine hj _ _ ⟨c,f,e,rfl,aE,h0,h65,h66,hf,by omega,hr,?_⟩;rw[ND (by omega)]
def Cg7(room:Int):CallF PP 69 #[.i room] [] fun r L'=> ∃n o,r= .p n/\L'=[(n,o)]/\Ja (N8 (L9 room 0) 64) [] o:=by
 refine(e69 room).c ?_;refine C9 fun n _=>.of ⟨n,_,rfl,rfl,_,0,rfl,rfl,rfl,rfl,rfl,by omega,by simp,fun i x h=>by simp at h⟩
structure SP where
 n:Nat
 m:Nat
 nb:Nat
 nk:Nat
 nr:Nat
 nq:Nat
 ng:Nat
 ni:Nat
variable{p:SP}
structure RN where
 r:E2
 id:Nat
 v:B6
 seg:B1
def RN.o(x:RN):Nat×Obj:=(x.id,Obj.cells #[.i x.r.b,.i x.r.ep,.i x.r.nx,.slice x.v.a x.v.len x.v.cap] 133)
def RN.objs(x:RN):B1:=x.o::x.seg
def RN.Ok(x:RN):Prop:=C5 x.v 3 Gx (x.r.l.flatMap P6) x.seg
def D1(l:List RN):B1:=l.flatMap RN.objs
def ME(a b:List RN):D1 (a++b)=D1 a++D1 b:=OD
def Pr(a:RN):D1 [a]=a.objs:=by simp[D1]
def RN.ptr(x:RN):Option Addr:=some x.id.z
def Y9(l:List RN):List (Int×Value):=l.map fun x=>(x.r.b,.q x.ptr)
def Ic(o:Option RN):Option Addr:=match o with|none=>none|some x=>x.ptr
structure SG where
 ns:List RN
 on:Option RN
 es:Array MapEntry
 ck:Nat
 pv:B6
 pseg:B1
 Ad:B1
 Ab:B1
 Aq:B1
 Ai:B1
 go:Obj
variable{g:SG}
def SG.all(g:SG):List RN:=g.ns++g.on.toList
def Pj(p:SP)(sc:SC)(op:Option Addr)(epoch:Int)(pv:B6)(down:Bool):List Value:=
  [.i sc.c.B,.i sc.c.P,.i sc.c.S,.i sc.c.W,.i sc.sets,.i sc.ways,.i sc.small,.i sc.ghost,.i sc.rate,.i sc.burst,.i sc.seed,
   .p p.m,.p p.nb,.p p.nk,.map (some p.nr),.q op,.i epoch,.slice pv.a pv.len pv.cap,.b down,
   .p p.nq,.p p.ng,.p p.ni]
def F5(p:SP)(s:B0)(g:SG):Nat×Obj:=(p.n,Obj.cells (Pj p s.sc (Ic g.on) s.epoch g.pv s.down).toArray 88)
def kO(p:SP)(s:B0):Nat×Obj:=(p.nk,Ca s.bk)
def mO(p:SP)(g:SG):Nat×Obj:=(p.nr,Obj.map g.es g.ck)
def gO(p:SP)(g:SG):Nat×Obj:=(p.ng,g.go)
def SL(p:SP)(s:B0)(g:SG):B1:=F5 p s g::(kO p s::(mO p g::(gO p g::(g.Ad++(g.Ab++(D1 g.ns++(D1 g.on.toList++(g.pseg++(g.Aq++g.Ai)))))))))
structure SX(p:SP)(s:B0)(g:SG):Prop where
 cfg:s.d.c=s.sc.c
 dev:FH p.m s.d g.Ad
 blk:BX p.nb s.ss s.us g.Ab
 que:Gg p.nq s.sc.small s.q g.Aq
 gho:Ja s.sc.ghost s.gh g.go
 idx:IX p.ni s.sc.ways s.ix g.Ai
 mp:Mp (Value.i) g.es (Y9 g.all)
 rs:g.ns.map RN.r=s.rs
 op:g.on.map RN.r=s.op
 ok: ∀x∈g.all,x.Ok
 pd:C5 g.pv 3 Bf (s.pend.flatMap P6) g.pseg
def Mq(L A:B1):Prop:= ∃Y,L.Perm (A++Y)
def Reads.has(h:Mq L A)(r:Reads P f args A v):Reads P f args L v:=by
 obtain⟨Y,hp⟩:=h;intro E F w hw;refine Calls.mono (CallF.frame (R:=Y) r E F w (hw.perm (hp.append_right F))) ?_;rintro e w' ⟨v',L',he,aI,A',rfl,hv,cU⟩;subst hv;rw[cU]at aI;exact⟨v',L,he,aI.perm (hp.symm.append_right F),rfl,rfl⟩
def Cf9(h:Mq L A)(r:CallF P f args A fun r L'=>r=v/\L'=A):Reads P f args L v:=Reads.has h r
section
variable {p:SP} {s:B0} {g:SG} {L R:B1}
def SL.st(hp:L.Perm (SL p s g++R)):F5 p s g∈L:=hp.symm.subset (by simp[SL])
def SL.k(hp:L.Perm (SL p s g++R)):kO p s∈L:=hp.symm.subset (by simp[SL])
def SL.m(hp:L.Perm (SL p s g++R)):mO p g∈L:=hp.symm.subset (by simp[SL])
def SL.d(hp:L.Perm (SL p s g++R)):Mq L g.Ad:=⟨F5 p s g::(kO p s::(mO p g::(gO p g::(g.Ab++(D1 g.ns++(D1 g.on.toList++(g.pseg++(g.Aq++(g.Ai++R))))))))),pc fun z=>by have:=E8 hp z;simp only[SL,C3,D0,E5]at*;omega⟩
def SL.b(hp:L.Perm (SL p s g++R)):Mq L g.Ab:=⟨F5 p s g::(kO p s::(mO p g::(gO p g::(g.Ad++(D1 g.ns++(D1 g.on.toList++(g.pseg++(g.Aq++(g.Ai++R))))))))),pc fun z=>by have:=E8 hp z;simp only[SL,C3,D0,E5]at*;omega⟩
def SL.q(hp:L.Perm (SL p s g++R)):Mq L g.Aq:=⟨F5 p s g::(kO p s::(mO p g::(gO p g::(g.Ad++(g.Ab++(D1 g.ns++(D1 g.on.toList++(g.pseg++(g.Ai++R))))))))),pc fun z=>by have:=E8 hp z;simp only[SL,C3,D0,E5]at*;omega⟩
def SL.i(hp:L.Perm (SL p s g++R)):Mq L g.Ai:=⟨F5 p s g::(kO p s::(mO p g::(gO p g::(g.Ad++(g.Ab++(D1 g.ns++(D1 g.on.toList++(g.pseg++(g.Aq++R))))))))),pc fun z=>by have:=E8 hp z;simp only[SL,C3,D0,E5]at*;omega⟩
def SL.ps(hp:L.Perm (SL p s g++R)): ∀x∈g.pseg,x∈L:=fun x hx=>hp.symm.subset (by simp[SL,hx])
def SL.rn(hp:L.Perm (SL p s g++R)){x:RN}(hx:x∈g.all): ∀y∈x.objs,y∈L:=fun y hy=>hp.symm.subset (by
 rcases NJ.1 hx with h|h
 ·have:y∈D1 g.ns:=OY.2 ⟨x,h,hy⟩;simp[SL,this]
 ·have:y∈D1 g.on.toList:=OY.2 ⟨x,h,hy⟩;simp[SL,this])
def H4{k:Nat}(hm:F5 p s g∈L)(h:(Pj p s.sc (Ic g.on) s.epoch g.pv s.down)[k]?=some v):C0 ⟨p.n,k,none⟩ [v] L:=by
 unfold F5 at hm;exact Gt hm (by rw[TE];exact h)
def Vu(hm:F5 p s g∈L):C0 p.n.z [.i s.sc.c.B,.i s.sc.c.P,.i s.sc.c.S,.i s.sc.c.W] L:=C2 hm rfl
def Sd{n k:Nat}{cs:List Value}{T:TypeId}(cs':List Value)(hL:L.Perm ((n,Obj.cells cs.toArray T)::Y))(hk:k<cs.length)(hc:cs.set k v=cs')(h: ∀L',L'.Perm ((n,Obj.cells cs'.toArray T)::Y)->K L'):HL.st ⟨n,k,none⟩ [v] K L:=by
 refine Mx (fz:=(0,0)) hL rfl (by simp only[VH,NU,OX];omega) (.inl (NF _)) cs'.toArray ?_ h;show cs.toArray.setIfInBounds k v=_;rw[List.setIfInBounds_toArray,hc]
end
variable{d:B8}{b:Nat}
def Va{m:Nat}(hA:Mq L A)(h:FH m d A):Reads PP 64 #[.p m] L (.agg #[.i d.c.B,.i d.c.P,.i d.c.S,.i d.c.W]):=Cf9 hA (Za m d A h)
def Ai0(l:List Int)(x:Int):(l++[x]).sum=l.sum+x:=by simp
def Ai1{l:List Int}(h: ∀x∈l,0<=x/\x<=b):0<=l.sum/\l.sum<=l.length*b:=by
 induction l with
 |nil=>simp
 |cons a r ih=>
  have h1:=h a (by simp);have h2:=ih fun x hx=>h x (by simp[hx]);rw[XZ,NU,XK,UB];omega
def Yx(hp:L.Perm (SL p s g++R))(X:SX p s g)(hS:s.sc.c.S<=512)(v:B6)(l:List Int)(hv:R4 L v .i64 l)(hl:l.length<=10)(hb: ∀x∈l,0<=x/\x<=(1000000:Nat)):
  Reads PP 115 #[.q (some ⟨p.n,11,none⟩),.slice v.a v.len v.cap] L (.i (s.cost l.sum)):=by
 unfold Reads;refine(c115 (some ⟨p.n,11,none⟩) v).c ?_;have bY:=hv.len;refine G1 (fun z' z L'=> ∃i:Nat,i<=l.length/\z'=l.length-i/\z=((l.take i).sum,(i:Int),())/\L'=L) l.length ⟨0,by omega,by omega,rfl,rfl⟩ ?_;rintro z' z L' ⟨i,hi,rfl,rfl,fB⟩;rw[fB];dsimp only;have bV: ∀j,0<=(l.take j).sum/\(l.take j).sum<=10000000:=fun j=>by
  have h1:=Ai1 (l:=l.take j) (b:=1000000) fun x hx=>hb x (RP hx);have h2:(l.take j).length<=10:=by rw[NW];omega
  generalize (l.take j).sum=t at*;generalize (l.take j).length=u at*;have:(u:Int)*(1000000:Nat)<=10000000:=by omega
  omega
 refine D6 (fun(hO:(i:Int)<v.len)=>?_) (fun(aM: ¬(i:Int)<v.len)=>?_)
 ·have hJ:i<l.length:=by omega
  refine Ap4 hv (n:=i) rfl hJ fun a ha=>B5 l[i] ha ?_;have h1:=bV i;have h2:=bV (i+1);have h3:=hb l[i] (NO hJ);refine H3 (by omega) (H3 (by omega) ⟨l.length-(i+1),by omega,i+1,by omega,rfl,?_,rfl⟩);rw[OB hJ,Ai0];rfl
 ·obtain rfl:i=l.length:=by omega
  rw[OE];have h1:=bV l.length;rw[OE]at h1;refine B7 rfl (B5 (some p.m.z) (H4 (SL.st hp) rfl) (C4 (Va (SL.d hp) X.dev) ((s.d.c.B,s.d.c.P,s.d.c.S,s.d.c.W,()),()) rfl ?_));dsimp only;rw[X.cfg];have h2:0<=l.sum*(s.sc.c.S:Int)/\l.sum*(s.sc.c.S:Int)<=10000000*512:=⟨WF h1.1 (by omega),Int.mul_le_mul h1.2 (by omega) (by omega) (by omega)⟩;exact H3 (by omega) (.of ⟨rfl,rfl⟩)
def CR(hp:L.Perm (SL p s g++R))(X:SX p s g)(hS:s.sc.c.S<=512)(v:B6)(l:List Int)(hv:R4 L v .i64 l)(hl:l.length<=10)(hb: ∀x∈l,0<=x/\x<=(1000000:Nat)):
  Reads PP 109 #[.q (some ⟨p.n,11,none⟩),.slice v.a v.len v.cap] L (.b (s.pays l.sum)):=by
 unfold Reads;refine(c109 (some ⟨p.n,11,none⟩) v).c ?_;refine B7 rfl (B5 (some p.nk.z) (H4 (SL.st hp) rfl) ?_);refine C4 (Ba3 L p.nk s.bk (SL.k hp)) (s.bk.tokens,()) rfl ?_;exact C4 (Yx hp X hS v l hv hl hb) (s.cost l.sum,()) rfl (.of ⟨rfl,rfl⟩)
def An0(hp:L.Perm (SL p s g++R))(X:SX p s g)(gL: ∀o,s.op=some o->0<=o.nx/\o.nx<=1000)(v:B6)(l:List Int)(hv:R4 L v .i64 l)(hl:l.length<=10)(hb: ∀x∈l,0<=x/\x<=(1000000:Nat)):
  Reads PP 107 #[.q (some ⟨p.n,11,none⟩),.slice v.a v.len v.cap] L (.b (s.fits l.sum)):=by
 unfold Reads;refine(c107 (some ⟨p.n,11,none⟩) v).c ?_;have bG:=X.op;refine B7 rfl (B5 (Ic g.on) (H4 (SL.st hp) rfl) ?_);cases jE:g.on with
 |none=>
  refine E9 rfl (.of ⟨?_,rfl⟩);rw[jE]at bG;unfold B0.fits;rw[<-bG];rfl
 |some x=>
  rw[jE]at bG;have hx:=gL x.r bG.symm;have aA:x∈g.all:=by unfold SG.all;rw[jE];simp
  have hm:x.o∈L:=SL.rn hp aA _ (by unfold RN.objs;exact NG);refine D8 rfl (B5 x.ptr (H4 (SL.st hp) (by rw[jE];rfl)) (B7 (a:=x.id.z) rfl ?_));refine B5 x.r.nx (C2 (n:=x.id) (off:=2) hm rfl) ?_;have bY:=hv.len;refine G1 (fun z' z L'=> ∃i:Nat,i<=l.length/\z'=l.length-i/\z=(x.r.nx+(l.take i).sum,(i:Int),())/\L'=L) l.length ⟨0,by omega,by omega,by simp,rfl⟩ ?_;rintro z' z L' ⟨i,hi,rfl,rfl,fB⟩;rw[fB];dsimp only;have bV: ∀j,0<=(l.take j).sum/\(l.take j).sum<=10000000:=fun j=>by
   have h1:=Ai1 (l:=l.take j) (b:=1000000) fun x hx=>hb x (RP hx);have h2:(l.take j).length<=10:=by rw[NW];omega
   generalize (l.take j).sum=t at*;generalize (l.take j).length=u at*;have:(u:Int)*(1000000:Nat)<=10000000:=by omega
   omega
  refine D6 (fun(hO:(i:Int)<v.len)=>?_) (fun(aM: ¬(i:Int)<v.len)=>?_)
  ·have hJ:i<l.length:=by omega
   refine Ap4 hv (n:=i) rfl hJ fun a ha=>B5 l[i] ha ?_;have h1:=bV i;have h2:=bV (i+1);have h3:=hb l[i] (NO hJ);refine H3 (by omega) (H3 (by omega) ⟨l.length-(i+1),by omega,i+1,by omega,rfl,?_,rfl⟩);rw[OB hJ,Ai0,Int.add_assoc];rfl
  ·obtain rfl:i=l.length:=by omega
   rw[OE];refine B5 (some p.m.z) (H4 (SL.st hp) rfl) (C4 (Va (SL.d hp) X.dev) ((s.d.c.B,s.d.c.P,s.d.c.S,s.d.c.W,()),()) rfl (.of ⟨?_,rfl⟩));unfold B0.fits;rw[<-bG,X.cfg];rfl
def SK(p:SP)(w:B0×Int)(R:B1)(r:Value)(L':B1):Prop:= ∃g',L'=SL p w.1 g'++R/\SX p w.1 g'/\r= .i w.2
def WK(p:SP)(w:B0×It×Int)(ns:List RN)(R:B1)(r:Value)(L':B1):Prop:= ∃g',L'=SL p w.1 g'++R/\SX p w.1 g'/\g'.ns=ns/\r= .t #[.agg (ki3 w.2.1),.i w.2.2]
section
variable {p:SP} {s:B0} {g:SG} {L R:B1}
def My(hp:L.Perm (SL p s g++R))(key:ByteArray)(hk:key.size<=1000000):Reads PP 47 #[.p p.n,.w key] L (.int .u64 (s.hash key:Nat)):=by
 unfold Reads;refine(c47 (some p.n.z) key).c ?_;exact B7 rfl (B5 s.sc.seed (H4 (SL.st hp) rfl) (C4 (Bw3 L s.sc.seed key hk) (((s.hash key:Nat):Int),()) rfl (.of ⟨rfl,rfl⟩)))
def Un(s:B0)(key:ByteArray):s.hash key<2^64:=by unfold B0.hash;exact BitVec.isLt _
def AF(hp:L.Perm (SL p s g++R)):Reads PP 61 #[.p p.n] L (.b (!s.down)):=by
 unfold Reads;refine(c61 (some p.n.z)).c ?_;exact D8 rfl (B7 rfl (B5 s.down (H4 (SL.st hp) rfl) (.of ⟨rfl,rfl⟩)))
def KK(key:ByteArray):key=ByteArray.mk #[]↔key.size=0:=by
 constructor
 ·rintro rfl;rfl
 ·intro h;cases key with
  |mk d=>
   have:d.size=0:=h;rw[Array.size_eq_zero_iff]at this;rw[this]
def Sj(hp:L.Perm (SL p s g++R))(key:ByteArray):Reads PP 43 #[.p p.n,.w key] L (.i (s.asked key)):=by
 unfold Reads;refine(c43 (some p.n.z) key).c ?_;refine D8 rfl (B7 rfl (B5 s.down (H4 (SL.st hp) rfl) ?_));unfold B0.asked;refine M0 (fun h=>?_) (fun h=>?_)
 ·rw[NE h];exact .of ⟨rfl,rfl⟩
 ·rw[ND (by rw[h];decide)];refine D6 (fun h0=>?_) (fun h0=>?_)
  ·rw[NE (.inl ((KK key).1 h0))];exact .of ⟨rfl,rfl⟩
  ·refine D6 (fun(h1:(key.size:Int)>255)=>?_) (fun(h1: ¬(key.size:Int)>255)=>?_)
   ·rw[NE (.inr (by omega))];exact .of ⟨rfl,rfl⟩
   ·rw[ND (by rintro(h2|h2);exact h0 ((KK key).2 h2);omega)];exact .of ⟨rfl,rfl⟩
end
def Mw{k:Nat}(s':B0)(g':SG)(hL:L.Perm (F5 p s g::Y))(hk:k<22)(hc:(Pj p s.sc (Ic g.on) s.epoch g.pv s.down).set k v=Pj p s'.sc (Ic g'.on) s'.epoch g'.pv s'.down)(h: ∀L',L'.Perm (F5 p s' g'::Y)->K L'):HL.st ⟨p.n,k,none⟩ [v] K L:=by
 unfold F5 at hL;exact Sd (Pj p s'.sc (Ic g'.on) s'.epoch g'.pv s'.down) hL (by simpa[Pj]using hk) hc h
def KF(p:SP)(s:B0)(g:SG)(X:SX p s g)(e:Int):CallF PP 117 #[.q (some ⟨p.n,11,none⟩),.i e] (SL p s g) (fun r L'=>L'=SL p (s.met e) g/\SX p (s.met e) g/\r= .i e):=by
 refine(c117 (some ⟨p.n,11,none⟩) e).c ?_;have fin: ∀(b:Bool),b=(s.met e).down->HL.st ⟨p.n,18,none⟩ [.b b] (HL.Ends (fun r L'=>L'=SL p (s.met e) g/\SX p (s.met e) g/\r= .i e) (.i e)) (SL p s g):=fun b hb=>by
  refine Mw (s.met e) g (NH _) (by decide) (by rw[hb];rfl) fun L' fB=>?_;exact .drop (A:=SL p (s.met e) g) (J:=[]) ⟨rfl,{X with cfg:=X.cfg,dev:=X.dev,blk:=X.blk},rfl⟩ (by rw[NP];exact fB)
 refine B7 rfl (B5 s.down (H4 (s:=s) (g:=g) (k:=18) (by simp[SL]) rfl) (M0 (fun h=>?_) (fun h=>?_)))
 ·exact fin true (by unfold B0.met;rw[h];rfl)
 ·refine fin _ ?_;unfold B0.met;rw[h,Bool.false_or];rfl
def AS(p:SP)(s:B0)(g:SG)(X:SX p s g)(e:Int):CallF PP 117 #[.q (some ⟨p.n,11,none⟩),.i e] (SL p s g) (SK p (s.met e,e) []):=
 CallF.imp (KF p s g X e) fun r L' ⟨h1,h2,h3⟩=>⟨g,by rw[h1,NP],h2,h3⟩
def AP(hp:L.Perm (SL p s g++R))(hb:s.bk.Ok)(n:Int){k:D2 rs->HP}(r:D2 rs)(hr:Value.b (Rc s.bk (s.cost n))=Dt rs r)(hk: ∀L',L'.Perm (SL p (s.pay n) g++R)->k r L'):
  cl PP 114 #[.p p.nk,.i (s.cost n)] rs k L:=by
 refine H0 (Bb2 p.nk s.bk hb (s.cost n)) (R:=F5 p s g::(mO p g::(gO p g::(g.Ad++(g.Ab++(D1 g.ns++(D1 g.on.toList++(g.pseg++(g.Aq++(g.Ai++R)))))))))) (pc fun z=>by have:=E8 hp z;simp only[SL,kO,C3,D0,E5]at*;omega) ?_;rintro _ _ ⟨rfl,rfl⟩;refine⟨_,NH _,r,hr,hk _ (pc fun z=>?_)⟩;have e1:kO p (s.pay n)=(p.nk,Ca (Ht s.bk (s.cost n))):=rfl;have e2:F5 p (s.pay n) g=F5 p s g:=rfl;simp only[SL,e1,e2,C3,D0,E5];omega
def SX.pay(X:SX p s g)(n:Int):SX p (s.pay n) g:={X with cfg:=X.cfg,dev:=X.dev,blk:=X.blk}
def GO(s:B0)(n:Int):s.cost n=s.cost [n].sum:=by simp
def AE(p:SP)(s:B0)(g:SG)(X:SX p s g)(hS:s.sc.c.S<=512)(hb:s.bk.Ok)(R:B1)(u:B6)(l:List PV)(hu:Af R u l)(hl:l.length<=1000000)(G:DG s.d l.length)(o:E2)(ho:s.op=some o)(gL:0<=o.nx/\o.nx<=1000)(lE:o.l.length<=1000)(kind:Int):
  CallF PP 59 #[.q (some ⟨p.n,11,none⟩),.i kind,.slice u.a u.len u.cap] (SL p s g++R) (WK p (s.write kind (l.map Prod.snd)) g.ns R):=by
 refine(c59 (some ⟨p.n,11,none⟩) kind u).c ?_;obtain⟨x,hx,rfl⟩: ∃x,g.on=some x/\x.r=o:=by
  have:=X.op;rw[ho]at this;cases h:g.on with
  |none=>rw[h]at this;cases this
  |some x=>rw[h]at this;exact⟨x,rfl,NI this⟩
 have aA:x∈g.all:=by unfold SG.all;rw[hx];simp
 have fI:=hu.len;have aX: ∀{s':B0} {L R':B1},L.Perm (SL p s' g++R')->x.o∈L:=fun hp=>SL.rn hp aA _ (by unfold RN.objs;exact NG);refine B7 rfl (B5 x.ptr (H4 (s:=s) (g:=g) (k:=15) (by simp[SL]) (by rw[hx];rfl)) (B5 (some p.nk.z) (H4 (s:=s) (g:=g) (k:=13) (by simp[SL]) rfl) ?_));refine C9 fun n2 _=>?_;obtain⟨c2,cY⟩: ∃c2:Nat×Obj,c2=(n2,Obj.cells #[.i u.len] 3):=⟨_,rfl⟩;rw[<-cY];have aH:(c2::(SL p s g++R)).Perm (SL p s g++(c2::R)):=pc fun z=>by simp only[C3,D0];omega
 have nI:(n2,Obj.cells (O6 .i64 [(u.len:Int)]).toArray 3)∈c2::(SL p s g++R):=by rw[cY];exact NG
 refine C4 (Yx aH X hS ⟨some n2.z,1,1⟩ [(u.len:Int)] (R4.const 1 (by simp) nI) (by simp) (fun y hy=>by rw[NM.1 hy];omega)) (s.cost (u.len:Int),()) (by rw[<-GO];rfl) ?_;refine P2 (H4 (SL.st aH) rfl) ?_;refine AP aH hb (u.len:Int) (Rc s.bk (s.cost u.len),()) rfl fun L2 hY=>?_;have X2:=X.pay (u.len:Int);have dJ:=aX hY;refine B7 (a:=x.id.z) rfl ?_;have f0: ∀{L:B1},x.o∈L->C0 x.id.z [.i x.r.b] L:=fun hm=>C2 hm rfl;have f1: ∀{L:B1},x.o∈L->C0 ⟨x.id,1,none⟩ [.i x.r.ep] L:=fun hm=>C2 hm rfl;have f2: ∀{L:B1},x.o∈L->C0 ⟨x.id,2,none⟩ [.i x.r.nx] L:=fun hm=>C2 hm rfl;have f3: ∀{L:B1},x.o∈L->C0 ⟨x.id,3,none⟩ [.slice x.v.a x.v.len x.v.cap] L:=fun hm=>C2 hm rfl;refine B5 x.r.b (f0 dJ) (B5 x.r.nx (f2 dJ) (B5 x.r.ep (f1 dJ) ?_));refine B5 (some p.m.z) (H4 (SL.st hY) rfl) (B5 x.r.b (f0 dJ) (B5 x.r.ep (f1 dJ) (B5 x.r.nx (f2 dJ) ?_)));have hG:DG (s.pay u.len).d l.length:=G;refine Ap (Cs5 p.m (s.pay u.len).d g.Ad (F5 p s g::(kO p (s.pay u.len)::(mO p g::(gO p g::(g.Ab++(D1 g.ns++(D1 g.on.toList++(g.pseg++(g.Aq++(g.Ai++(c2::R))))))))))) X2.dev u l (hu.mono fun y hy=>by simp[hy]) hl hG x.r.b x.r.ep x.r.nx kind (Kd (by omega)))
  (pc fun z=>by have:=E8 hY z;simp only[SL,show F5 p (s.pay (u.len:Int)) g=F5 p s g from rfl,C3,D0,E5]at*;omega) ?_
 rintro _ _ ⟨A',rfl,rfl,cU⟩;have e0:(s.pay (u.len:Int)).d=s.d:=rfl;rw[e0]at cU;refine⟨((S1 s.d x.r.b x.r.ep x.r.nx kind (l.map Prod.snd)).1,()),by rw[e0];rfl,?_⟩;have hw:s.write kind (l.map Prod.snd)=(if(S1 s.d x.r.b x.r.ep x.r.nx kind (l.map Prod.snd)).1≠0 then(((s.pay (l.map Prod.snd).length).dev (S1 s.d x.r.b x.r.ep x.r.nx kind (l.map Prod.snd)).2).met (S1 s.d x.r.b x.r.ep x.r.nx kind (l.map Prod.snd)).1,(x.r.b,x.r.nx,x.r.ep,()),(S1 s.d x.r.b x.r.ep x.r.nx kind (l.map Prod.snd)).1)
   else({(s.pay (l.map Prod.snd).length).dev (S1 s.d x.r.b x.r.ep x.r.nx kind (l.map Prod.snd)).2 with op:=some (x.r.grown kind (l.map Prod.snd).length)},(x.r.b,x.r.nx,x.r.ep,()),0)):=by
  unfold B0.write;rw[ho]
 have dk:(l.map Prod.snd).length=u.len:=by rw[NL];omega
 rw[hw,dk];have mE:(S1 s.d x.r.b x.r.ep x.r.nx kind (l.map Prod.snd)).2.c=s.d.c:=Cs7 s.d x.r.b x.r.ep x.r.nx kind (l.map Prod.snd);generalize S1 s.d x.r.b x.r.ep x.r.nx kind (l.map Prod.snd)=q at cU mE;obtain⟨s2,aP⟩: ∃s2,s2=(s.pay (u.len:Int)).dev q.2:=⟨_,rfl⟩;have g2X:SX p s2 {g with Ad:=A'}:=by subst aP;exact{X2 with cfg:=mE.trans X.cfg,dev:=cU,blk:=X2.blk}
 have aW:(A'++(F5 p s g::(kO p (s.pay u.len)::(mO p g::(gO p g::(g.Ab++(D1 g.ns++(D1 g.on.toList++(g.pseg++(g.Aq++(g.Ai++(c2::R)))))))))))).Perm (SL p s2 {g with Ad:=A'}++(c2::R)):=by
  subst aP;exact pc fun z=>by
   simp only[SL,show F5 p ((s.pay (u.len:Int)).dev q.2) {g with Ad:=A'}=F5 p s g from rfl,show kO p ((s.pay (u.len:Int)).dev q.2)=kO p (s.pay (u.len:Int))from rfl,show mO p {g with Ad:=A'}=mO p g from rfl,show gO p {g with Ad:=A'}=gO p g from rfl,C3,D0,E5];omega
 generalize A'++(F5 p s g::(kO p (s.pay u.len)::(mO p g::(gO p g::(g.Ab++(D1 g.ns++(D1 g.on.toList++(g.pseg++(g.Aq++(g.Ai++(c2::R)))))))))))=L3 at aW;rw[<-aP];refine D6 (fun(h0:q.1=0)=>?_) (fun(h0: ¬q.1=0)=>?_)
 ·rw[ND (by simpa using h0)];have wC:x∈({g with Ad:=A'}:SG).all:=aA;have iD:x.o∈L3:=SL.rn aW wC _ (by unfold RN.objs;exact NG);refine B5 x.v (f3 iD) (B5 x.r.nx (f2 iD) ?_);have aC:=X.ok x aA;have bY:=aC.sl.els_len W0 (by decide);have yK:D1 g.on.toList=x.o::x.seg:=by rw[hx];exact Pr x
  refine Iv GH AN aC (Y:=F5 p s2 {g with Ad:=A'}::(kO p s2::(mO p g::(gO p g::(A'++(g.Ab++(D1 g.ns++(x.o::(g.pseg++(g.Aq++(g.Ai++(c2::R)))))))))))) (ws:=P6 (kind,x.r.nx,(u.len:Int),())) (pc fun z=>by
    have:=E8 aW z;simp only[SL,yK,show mO p {g with Ad:=A'}=mO p g from rfl,show gO p {g with Ad:=A'}=gO p g from rfl,C3,D0,E5]at*;omega) rfl rfl (by omega) fun s1 seg1 fF own1=>?_
  refine Sd (n:=x.id) (k:=3) [.i x.r.b,.i x.r.ep,.i x.r.nx,.slice s1.a s1.len s1.cap] (cs:=[.i x.r.b,.i x.r.ep,.i x.r.nx,.slice x.v.a x.v.len x.v.cap]) (T:=133) (Y:=F5 p s2 {g with Ad:=A'}::(kO p s2::(mO p g::(gO p g::(A'++(g.Ab++(D1 g.ns++(seg1++(g.pseg++(g.Aq++(g.Ai++(c2::R)))))))))))) (pc fun z=>by
    rw[show x.o=(x.id,Obj.cells [Value.i x.r.b,.i x.r.ep,.i x.r.nx,.slice x.v.a x.v.len x.v.cap].toArray 133)from rfl];simp only[C3,D0,E5];omega) (by simp) rfl fun L4 bU=>?_
  have zD:=bU.symm.subset NG;refine B5 x.r.nx (C2 (n:=x.id) (off:=2) zD rfl) (H3 (by omega) ?_);refine Sd (n:=x.id) (k:=2) [.i x.r.b,.i x.r.ep,.i (x.r.nx+u.len),.slice s1.a s1.len s1.cap] bU (by simp) rfl fun L5 jD=>?_;obtain⟨x',bC⟩: ∃x':RN,x'=⟨x.r.grown kind u.len,x.id,s1,seg1⟩:=⟨_,rfl⟩;have bH:x'.o=(x.id,Obj.cells [Value.i x.r.b,.i x.r.ep,.i (x.r.nx+u.len),.slice s1.a s1.len s1.cap].toArray 133):=by rw[bC];rfl
  obtain⟨g',dW⟩: ∃g':SG,g'={g with Ad:=A',on:=some x'}:=⟨_,rfl⟩;have aO:F5 p {s2 with op:=some (x.r.grown kind u.len)} g'=F5 p s2 {g with Ad:=A'}:=by
   unfold F5;rw[dW];have:Ic (some x')=Ic g.on:=by rw[hx,bC];rfl
   simp only[this]
  refine .drop (A:=SL p {s2 with op:=some (x.r.grown kind u.len)} g'++R) (J:=[c2]) ⟨g',rfl,?_,by rw[dW],rfl⟩ (pc fun z=>?_)
  ·subst dW;have kK:Y9 (g.ns++(some x').toList)=Y9 (g.ns++g.on.toList):=by
    unfold Y9;rw[hx,NQ,NQ,bC];rfl
   have cL:({s2 with op:=some (x.r.grown kind u.len)}:B0).us=s2.us:=by
    unfold B0.us;rw[aP];show s.rs.map E2.b++_=s.rs.map E2.b++(s.op.map E2.b).toList;rw[ho];rfl
   refine⟨g2X.cfg,g2X.dev,by rw[cL];exact g2X.blk,g2X.que,g2X.gho,g2X.idx,?_,g2X.rs,by rw[bC];rfl,?_,g2X.pd⟩
   ·show Mp _ g.es (Y9 (g.ns++(some x').toList));rw[kK];exact X.mp
   ·intro y hy;rcases NJ.1 hy with hy|hy
    ·exact X.ok y (OA _ hy)
    ·rw[NM.1 hy,bC];unfold RN.Ok;show C5 s1 3 Gx ((x.r.l++[(kind,x.r.nx,(u.len:Int),())]).flatMap P6) seg1;rw[OD,PU];exact own1
  ·have h5:=E8 jD z;rw[<-bH]at h5;have yJ:D1 g'.on.toList=x'.o::seg1:=by rw[dW];refine(Pr x').trans ?_;unfold RN.objs;rw[bC]
   have eA:kO p ({s2 with op:=some (x.r.grown kind u.len)}:B0)=kO p s2:=rfl;simp only[SL,aO,yJ,eA,C3,D0,E5];simp only[dW,show mO p ({g with Ad:=A',on:=some x'}:SG)=mO p g from rfl,show gO p ({g with Ad:=A',on:=some x'}:SG)=gO p g from rfl,C3,D0,E5]at*;omega
 ·rw[NE (by simpa using h0)];refine H0 (KF p s2 {g with Ad:=A'} g2X q.1) aW ?_;rintro _ _ ⟨fB,X',rfl⟩;rw[fB];exact⟨_,NH _,(q.1,()),rfl,.drop (A:=SL p (s2.met q.1) {g with Ad:=A'}++R) (J:=[c2]) ⟨{g with Ad:=A'},rfl,X',rfl,rfl⟩ (pc fun z=>by simp only[C3,D0,E5];omega)⟩
def Xi:Fi PP 78 3 79 (Value.i) (.q none):=Qe (by kernel_rfl) (Ca2 (by kernel_rfl)) (by kernel_rfl)
theorem DT{κ:Type}[DecidableEq κ]: ∀(m:List (κ×Value)) (k:κ) (v:Value),k∉m.map Prod.fst->S7 m k v=m++[(k,v)]
 |[],k,v,_=>rfl
 |p::r,k,v,h=>by
  rw[NS,OC,PS]at h;rw[S7,ND h.1,DT r k v h.2];rfl
theorem Ae3{κ:Type}[DecidableEq κ]: ∀(m:List (κ×Value)) (k:κ),(m.map Prod.fst).Nodup->Cy m k=m.filter fun p=> !decide (p.1=k)
 |[],k,_=>rfl
 |p::r,k,h=>by
  rw[NS,OW]at h;rw[Cy];by_cases e:k=p.1
  ·rw[NE e,List.filter_cons_of_neg (by simp[e])];symm;rw[RA];intro q hq;have:q.1≠k:=fun e2=>h.1 (e▸e2▸OQ hq);simp[this]
  ·rw[ND e,List.filter_cons_of_pos (by simp[Ne.symm e]),Ae3 r k h.2]
def MF(l:List RN):(Y9 l).map Prod.fst=(l.map RN.r).map E2.b:=by unfold Y9;rw[OO,OO];rfl
def SX.keys(X:SX p s g):(Y9 g.all).map Prod.fst=s.us:=by
 rw[MF];unfold SG.all B0.us;rw[NQ,NQ,X.rs,<-X.op];cases g.on<;>rfl
def SX.one(X:SX p s g){o:E2}(ho:s.op=some o): ∃x,g.on=some x/\x.r=o:=by
 have:=X.op;rw[ho]at this;cases h:g.on with
 |none=>rw[h]at this;cases this
 |some x=>rw[h]at this;exact⟨x,rfl,NI this⟩
def SX.non(X:SX p s g)(ho:s.op=none):g.on=none:=by
 have:=X.op;rw[ho]at this;cases h:g.on with
 |none=>rfl
 |some x=>rw[h]at this;cases this
def Bd3(p:SP)(s:B0)(g:SG)(X:SX p s g)(hS:s.sc.c.S<=512)(hb:s.bk.Ok)(G:DG s.d 1)(lE: ∀o,s.op=some o->o.l.length<=300):
  CallF PP 156 #[.q (some ⟨p.n,11,none⟩)] (SL p s g) (SK p s.seals []):=by
 refine(c156 (some ⟨p.n,11,none⟩)).c ?_;refine B7 rfl (B5 (Ic g.on) (H4 (s:=s) (g:=g) (k:=15) (by simp[SL]) rfl) ?_);cases ho:s.op with
 |none=>
  have hn:=X.non ho;refine E9 (by rw[hn];rfl) (.of ?_);have e:s.seals=(s,0):=by unfold B0.seals;rw[ho]
  rw[e];exact⟨g,by simp,X,rfl⟩
 |some o=>
  obtain⟨x,hx,rfl⟩:=X.one ho;have aA:x∈g.all:=by unfold SG.all;rw[hx];simp
  refine D8 (by rw[hx];rfl) ?_;obtain⟨s0,cG⟩: ∃s0:B0,s0={s with op:=none,rs:=s.rs++[x.r]}:=⟨_,rfl⟩;obtain⟨g0,fW⟩: ∃g0:SG,g0={g with ns:=g.ns++[x],on:=none}:=⟨_,rfl⟩;have pQ:g0.all=g.all:=by rw[fW];unfold SG.all;rw[hx];simp
  have cL:s0.us=s.us:=by rw[cG];unfold B0.us;rw[ho];simp
  have X0:SX p s0 g0:=by
   refine⟨by rw[cG];exact X.cfg,by rw[cG,fW];exact X.dev,?_,by rw[cG,fW];exact X.que,by rw[cG,fW];exact X.gho,by rw[cG,fW];exact X.idx,?_,by rw[cG,fW];simp[X.rs],by rw[cG,fW];rfl,by rw[pQ];exact X.ok,by rw[cG,fW];exact X.pd⟩
   ·rw[cL];have e1:s0.ss=s.ss:=by rw[cG]
    have e2:g0.Ab=g.Ab:=by rw[fW]
    rw[e1,e2];exact X.blk
   ·rw[pQ];have e2:g0.es=g.es:=by rw[fW]
    rw[e2];exact X.mp
  have yK:D1 g.on.toList=x.objs:=by rw[hx];exact Pr x
  refine Mw (s:=s) (g:=g) (k:=15) s0 g0 (Y:=kO p s::(mO p g::(gO p g::(g.Ad++(g.Ab++(D1 g.ns++(x.objs++(g.pseg++(g.Aq++g.Ai))))))))) (by unfold SL;rw[yK]) (by decide) (by rw[cG,fW];rfl) fun L1 aH=>?_;have aH:L1.Perm (SL p s0 g0++[]):=pc fun z=>by
   have:=E8 aH z;have e1:kO p s0=kO p s:=by rw[cG];rfl
   have e2:mO p g0=mO p g:=by rw[fW];rfl
   have e3:gO p g0=gO p g:=by rw[fW];rfl
   have e4:D1 g0.ns=D1 g.ns++x.objs:=by rw[fW];show D1 (g.ns++[x])=_;rw[ME,Pr]
   have e5:D1 g0.on.toList=[]:=by rw[fW];rfl
   have e6:g0.Ad=g.Ad/\g0.Ab=g.Ab/\g0.pseg=g.pseg/\g0.Aq=g.Aq/\g0.Ai=g.Ai:=by rw[fW];exact⟨rfl,rfl,rfl,rfl,rfl⟩
   simp only[SL,e1,e2,e3,e4,e5,e6.1,e6.2.1,e6.2.2.1,e6.2.2.2.1,e6.2.2.2.2,C3,D0,E5]at*;omega
  have hS0:s0.sc.c.S<=512:=by rw[cG];exact hS
  have iV:s0.bk.Ok:=by rw[cG];exact hb
  refine B5 (some p.nk.z) (H4 (SL.st aH) rfl) (C9 fun n1 _=>?_);obtain⟨c2,cY⟩: ∃c2:Nat×Obj,c2=(n1,Obj.cells #[.i 1] 3):=⟨_,rfl⟩;rw[<-cY];have hY:(c2::L1).Perm (SL p s0 g0++[c2]):=pc fun z=>by have:=E8 aH z;simp only[C3,D0,E5]at*;omega
  have nI:(n1,Obj.cells (O6 .i64 [(1:Int)]).toArray 3)∈c2::L1:=by rw[cY];exact NG
  refine C4 (Yx hY X0 hS0 ⟨some n1.z,1,1⟩ [(1:Int)] (R4.const 1 (by simp) nI) (by simp) (fun y hy=>by rw[NM.1 hy];omega)) (s0.cost 1,()) (by rw[<-GO];rfl) ?_;refine P2 (H4 (SL.st hY) rfl) ?_;refine AP hY iV 1 (Rc s0.bk (s0.cost 1),()) rfl fun L3 aW=>?_;have X3:=X0.pay 1;have wD:x∈g0.all:=by rw[pQ];exact aA
  have iD:x.o∈L3:=SL.rn aW wD _ (by unfold RN.objs;exact NG);refine B7 (a:=x.id.z) (by rw[hx];rfl) (B5 (some p.m.z) (H4 (SL.st aW) rfl) ?_);refine B5 x.r.b (C2 (n:=x.id) (off:=0) iD rfl) (B5 x.r.ep (C2 (n:=x.id) (off:=1) iD rfl) (B5 x.r.nx (C2 (n:=x.id) (off:=2) iD rfl) (B5 x.v (C2 (n:=x.id) (off:=3) iD rfl) ?_)));have aC:=X.ok x aA;have rP:(s0.pay 1).d=s.d:=by rw[cG];rfl
  have aN: ∀y∈x.seg,y∈D1 g0.ns:=fun y hy=>by rw[fW];exact OY.2 ⟨x,by simp,by unfold RN.objs;simp[hy]⟩
  refine Ap (Bg8 p.m (s0.pay 1).d g0.Ad (F5 p (s0.pay 1) g0::(kO p (s0.pay 1)::(mO p g0::(gO p g0::(g0.Ab++(D1 g0.ns++(D1 g0.on.toList++(g0.pseg++(g0.Aq++(g0.Ai++[c2])))))))))) X3.dev x.v x.r.l (aC.sl.mono fun y hy=>by simp[aN y hy]) (lE x.r ho) (by rw[rP];exact G) x.r.b x.r.ep x.r.nx)
   (pc fun z=>by have:=E8 aW z;simp only[SL,C3,D0,E5]at*;omega) ?_
  rw[rP];rintro _ _ ⟨A',rfl,rfl,cU⟩;refine⟨((U7 s.d x.r.b x.r.ep x.r.nx x.r.l).1,()),rfl,?_⟩;have mE:(U7 s.d x.r.b x.r.ep x.r.nx x.r.l).2.c=s.d.c:=Bh0 ..;have hw:s.seals=(({(s.pay 1).dev (U7 s.d x.r.b x.r.ep x.r.nx x.r.l).2 with op:=none,rs:=s.rs++[x.r]}).met (U7 s.d x.r.b x.r.ep x.r.nx x.r.l).1,(U7 s.d x.r.b x.r.ep x.r.nx x.r.l).1):=by
   unfold B0.seals;rw[ho]
  rw[hw];generalize U7 s.d x.r.b x.r.ep x.r.nx x.r.l=q at cU mE;obtain⟨s2,aP⟩: ∃s2:B0,s2={(s.pay 1).dev q.2 with op:=none,rs:=s.rs++[x.r]}:=⟨_,rfl⟩;have e2:s2=(s0.pay 1).dev q.2:=by rw[aP,cG];rfl
  have X2:SX p s2 {g0 with Ad:=A'}:=by rw[e2];exact{X3 with cfg:=by rw[show((s0.pay 1).dev q.2).d=q.2 from rfl,mE,cG];exact X.cfg,dev:=cU,blk:=X3.blk}
  rw[<-aP];refine H0 (AS p s2 {g0 with Ad:=A'} X2 q.1) (R:=[c2]) (pc fun z=>?_) ?_
  ·rw[e2];simp only[SL,show F5 p ((s0.pay 1).dev q.2) {g0 with Ad:=A'}=F5 p (s0.pay 1) g0 from rfl,show kO p ((s0.pay 1).dev q.2)=kO p (s0.pay 1)from rfl,show mO p {g0 with Ad:=A'}=mO p g0 from rfl,show gO p {g0 with Ad:=A'}=gO p g0 from rfl,C3,D0,E5];omega
  ·rintro _ _ ⟨g',fB,X',rfl⟩;exact⟨_,NH _,(q.1,()),rfl,.drop (A:=SL p (s2.met q.1) g') (J:=[c2]) ⟨g',by simp,X',rfl⟩ (by rw[fB,NP])⟩
def KD(hp:L.Perm (SL p s g++R))(X:SX p s g)(aZ:s.us.Nodup):
  Reads PP 154 #[.q (some ⟨p.n,11,none⟩)] L (.q (match g.ns with|[]=>none|x::_=>x.ptr)):=by
 unfold Reads;refine(c154 (some ⟨p.n,11,none⟩)).c ?_;refine B7 rfl (B5 (some p.nb.z) (H4 (SL.st hp) rfl) ?_);refine C4 (Reads.has (SL.b hp) (Cq1 p.nb s.ss s.us g.Ab X.blk)) (s.us.headD 0,decide (s.us≠[]),()) rfl ?_;have hk:=X.keys;have lk:=Nq (P:=PP) Xi (SL.m hp) X.mp (s.us.headD 0);have cL:s.us=(g.ns.map fun x=>x.r.b)++(g.on.map fun x=>x.r.b).toList:=by
  unfold B0.us;rw[<-X.rs,<-X.op,OO,VV];rfl
 refine V9 (fun _ L'=>L'=L/\ ∃x r,g.ns=x::r) ?_ ?_
 ·rintro _ _ ⟨rfl,x,r,cN⟩;refine B5 (some p.nr) (H4 (SL.st hp) rfl) ?_;refine⟨(x.ptr,()),?_,.of ⟨by rw[cN],rfl⟩⟩;have:(W9 (Y9 g.all) (s.us.headD 0)).getD (.q none)= .q x.ptr:=by
   rw[cL,cN];unfold SG.all Y9;rw[cN,OM,NS,Ie];simp
  rw[this]at lk;exact lk
 ·intro j hj;refine M0 (fun(h:decide (s.us≠[])=true)=>?_) (fun(h:decide (s.us≠[])=false)=>?_)
  ·have hZ:=PF h;refine B5 (Ic g.on) (H4 (SL.st hp) rfl) ?_;cases jE:g.on with
   |none=>
    refine E9 rfl (hj _ _ ⟨rfl,?_⟩);cases cN:g.ns with
    |nil=>rw[cL,cN,jE]at hZ;exact absurd rfl hZ
    |cons x r=>exact⟨x,r,rfl⟩
   |some y=>
    have aA:y∈g.all:=by unfold SG.all;rw[jE];simp
    have hm:y.o∈L:=SL.rn hp aA _ (by unfold RN.objs;exact NG);refine D8 rfl (B5 y.ptr (H4 (SL.st hp) (by rw[jE];rfl)) (B7 (a:=y.id.z) rfl (B5 y.r.b (C2 (n:=y.id) (off:=0) hm rfl) ?_)));refine D6 (fun(he:y.r.b=s.us.headD 0)=>?_) (fun(he: ¬y.r.b=s.us.headD 0)=>?_)
    ·cases cN:g.ns with
     |nil=>exact .of ⟨rfl,rfl⟩
     |cons x r=>
      rw[cL,cN,jE]at he aZ;simp at he aZ;exact absurd he (fun e=>aZ.1.2 e.symm)
    ·cases cN:g.ns with
     |nil=>
      rw[cL,cN,jE]at he;simp at he
     |cons x r=>exact hj _ _ ⟨rfl,x,r,cN⟩
  ·have hn:s.us=[]:=by
    have:=UG h;exact PA.1 this
   rw[cL]at hn;cases cN:g.ns with
   |nil=>exact .of ⟨rfl,rfl⟩
   |cons x r=>rw[cN]at hn;simp at hn
def Bi8(p:SP)(s:B0)(g:SG)(X:SX p s g)(hS:s.sc.c.S<=512)(hb:s.bk.Ok)(G:DG s.d 1)(bG:s.op=none)(bS:0<=s.epoch/\s.epoch<=1073741824)(bN:s.us.length<100000)(b:Int)(pV:Hs s.ss s.us b=true)(oI:b∉s.us):
  CallF PP 159 #[.q (some ⟨p.n,11,none⟩),.i b] (SL p s g) (SK p (s.begins b) []):=by
 refine(c159 (some ⟨p.n,11,none⟩) b).c ?_;have jE:=X.non bG;refine B7 rfl (B5 (some p.nk.z) (H4 (s:=s) (g:=g) (k:=13) (by simp[SL]) rfl) (C9 fun n1 _=>?_));obtain⟨c2,cY⟩: ∃c2:Nat×Obj,c2=(n1,Obj.cells #[.i 1] 3):=⟨_,rfl⟩;rw[<-cY];have hY:(c2::SL p s g).Perm (SL p s g++[c2]):=pc fun z=>by simp only[C3,D0,E5];omega
 have nI:(n1,Obj.cells (O6 .i64 [(1:Int)]).toArray 3)∈c2::SL p s g:=by rw[cY];exact NG
 refine C4 (Yx hY X hS ⟨some n1.z,1,1⟩ [(1:Int)] (R4.const 1 (by simp) nI) (by simp) (fun y hy=>by rw[NM.1 hy];omega)) (s.cost 1,()) (by rw[<-GO];rfl) ?_;refine P2 (H4 (SL.st hY) rfl) ?_;refine AP hY hb 1 (Rc s.bk (s.cost 1),()) rfl fun L3 aW=>?_;have X3:=X.pay 1;refine B5 (some p.m.z) (H4 (SL.st aW) rfl) (B5 s.epoch (H4 (SL.st aW) rfl) (H3 (by omega) ?_));refine Ap (Bt1 p.m s.d g.Ad (F5 p (s.pay 1) g::(kO p (s.pay 1)::(mO p g::(gO p g::(g.Ab++(D1 g.ns++(D1 g.on.toList++(g.pseg++(g.Aq++(g.Ai++[c2])))))))))) X.dev G b (s.epoch+1))
  (pc fun z=>by have:=E8 aW z;simp only[SL,C3,D0,E5]at*;omega) ?_
 rintro _ _ ⟨A',rfl,rfl,cU⟩;refine⟨((U9 s.d b (s.epoch+1)).1,()),rfl,?_⟩;have mE:(U9 s.d b (s.epoch+1)).2.c=s.d.c:=Bt2 ..;have hw:s.begins b=(if(U9 s.d b (s.epoch+1)).1≠0 then(((s.pay 1).dev (U9 s.d b (s.epoch+1)).2).met (U9 s.d b (s.epoch+1)).1,(U9 s.d b (s.epoch+1)).1)else({(s.pay 1).dev (U9 s.d b (s.epoch+1)).2 with epoch:=s.epoch+1,op:=some ⟨b,s.epoch+1,1,[]⟩},0)):=rfl;rw[hw];generalize U9 s.d b (s.epoch+1)=q at cU mE;obtain⟨s2,aP⟩: ∃s2:B0,s2=(s.pay 1).dev q.2:=⟨_,rfl⟩;have X2:SX p s2 {g with Ad:=A'}:=by rw[aP];exact{X3 with cfg:=mE.trans X.cfg,dev:=cU,blk:=X3.blk}
 rw[<-aP];have eqs:F5 p s2 {g with Ad:=A'}=F5 p (s.pay 1) g/\kO p s2=kO p (s.pay 1):=by rw[aP];exact⟨rfl,rfl⟩
 have bU:(A'++(F5 p (s.pay 1) g::(kO p (s.pay 1)::(mO p g::(gO p g::(g.Ab++(D1 g.ns++(D1 g.on.toList++(g.pseg++(g.Aq++(g.Ai++[c2]))))))))))).Perm (SL p s2 {g with Ad:=A'}++[c2]):=pc fun z=>by
  simp only[SL,eqs.1,eqs.2,show mO p {g with Ad:=A'}=mO p g from rfl,show gO p {g with Ad:=A'}=gO p g from rfl,C3,D0,E5];omega
 generalize A'++(F5 p (s.pay 1) g::(kO p (s.pay 1)::(mO p g::(gO p g::(g.Ab++(D1 g.ns++(D1 g.on.toList++(g.pseg++(g.Aq++(g.Ai++[c2]))))))))))=L4 at bU;obtain⟨g2,jJ⟩: ∃g2:SG,g2={g with Ad:=A'}:=⟨_,rfl⟩;rw[<-jJ]at X2 bU;refine D6 (fun(h0:q.1=0)=>?_) (fun(h0: ¬q.1=0)=>?_)
 ·rw[ND (by simpa using h0)];have kR:s2.epoch=s.epoch:=by rw[aP];rfl
  have iX:s2.us=s.us:=by rw[aP];rfl
  have qK:s2.ss=s.ss:=by rw[aP];rfl
  have kH:g2.on=none:=by rw[jJ];exact jE
  refine B5 s2.epoch (H4 (SL.st bU) rfl) (H3 (by omega) ?_);obtain⟨s3,cJ⟩: ∃s3:B0,s3={s2 with epoch:=s2.epoch+1}:=⟨_,rfl⟩;have X3:SX p s3 g2:=by rw[cJ];exact{X2 with cfg:=X2.cfg,dev:=X2.dev,blk:=X2.blk}
  refine Mw (s:=s2) (g:=g2) (k:=16) s3 g2 (Y:=kO p s2::(mO p g2::(gO p g2::(g2.Ad++(g2.Ab++(D1 g2.ns++(D1 g2.on.toList++(g2.pseg++(g2.Aq++(g2.Ai++[c2])))))))))) (pc fun z=>by have:=E8 bU z;simp only[SL,C3,D0,E5]at*;omega) (by decide) (by rw[cJ];rfl) fun L5 jD=>?_;have jD:L5.Perm (SL p s3 g2++[c2]):=pc fun z=>by
   have:=E8 jD z;have e1:kO p s3=kO p s2:=by rw[cJ];rfl
   simp only[SL,e1,C3,D0,E5]at*;omega
  refine B5 (some p.nb.z) (H4 (SL.st jD) rfl) ?_;have qE:s3.us=s.us:=by rw[cJ];exact iX
  have tK:s3.ss=s.ss:=by rw[cJ];exact qK
  have dR:BX p.nb s.ss s.us g2.Ab:=by have:=X3.blk;rwa [qE,tK]at this
  refine H0 (Cq0 p.nb s.ss s.us g2.Ab dR bN b) (R:=F5 p s3 g2::(kO p s3::(mO p g2::(gO p g2::(g2.Ad++(D1 g2.ns++(D1 g2.on.toList++(g2.pseg++(g2.Aq++(g2.Ai++[c2])))))))))) (pc fun z=>by have:=E8 jD z;simp only[SL,C3,D0,E5]at*;omega) ?_;rintro _ Ab' ⟨rfl,oX⟩;rw[NE pV]at oX;refine⟨_,NH _,(Hs s.ss s.us b,()),rfl,?_⟩;have zT:s3.epoch=s.epoch+1:=by rw[cJ];show s2.epoch+1=_;rw[kR]
  refine B5 s3.epoch (H4 (s:=s3) (g:=g2) (k:=16) (by simp) rfl) (C9 fun n2 _=>?_);obtain⟨x,hx⟩: ∃x:RN,x=⟨⟨b,s.epoch+1,1,[]⟩,n2,⟨none,0,0⟩,[]⟩:=⟨_,rfl⟩;have hxo:(n2,Obj.cells #[Value.i b,.i s3.epoch,.i 1,.slice none 0 0] 133)=x.o:=by rw[hx,zT];rfl
  rw[hxo];obtain⟨s4,eH⟩: ∃s4:B0,s4={s3 with op:=some ⟨b,s.epoch+1,1,[]⟩}:=⟨_,rfl⟩;refine Mw (s:=s3) (g:=g2) (k:=15) s4 {g2 with on:=some x} (Y:=x.o::(kO p s3::(mO p g2::(gO p g2::(g2.Ad++(Ab'++(D1 g2.ns++(g2.pseg++(g2.Aq++(g2.Ai++[c2])))))))))) (pc fun z=>by rw[kH];simp only[show D1 (none:Option RN).toList=[]from rfl,C3,D0,E5];omega) (by decide) (by rw[eH,hx];rfl) fun L6 jC=>?_;have de:=jC.symm.subset NG;refine B5 (some p.nr) (H4 de rfl) (B5 x.ptr (H4 de rfl) ?_);refine Pf Xi (r:=p.nr) (es:=g2.es) (clock:=g2.ck) (m:=Y9 g2.all) (Y:=F5 p s4 {g2 with on:=some x}::(x.o::(kO p s3::(gO p g2::(g2.Ad++(Ab'++(D1 g2.ns++(g2.pseg++(g2.Aq++(g2.Ai++[c2])))))))))) (pc fun z=>by have:=E8 jC z;rw[show(p.nr,Obj.map g2.es g2.ck)=mO p g2 from rfl];simp only[C3,D0,E5]at*;omega) X2.mp b (.q x.ptr) fun es' ck' L7 pE kG=>?_;obtain⟨g',dW⟩: ∃g':SG,g'={g2 with on:=some x,Ab:=Ab',es:=es',ck:=ck'}:=⟨_,rfl⟩;have oQ:({s2 with epoch:=s.epoch+1,op:=some ⟨b,s.epoch+1,1,[]⟩}:B0)=s4:=by rw[eH,cJ,kR]
  rw[oQ];have eA:=X2.keys;rw[iX]at eA;refine .drop (A:=SL p s4 g') (J:=[c2]) ⟨g',by simp,?_,rfl⟩ (pc fun z=>?_)
  ·have aA:g'.all=g2.all++[x]:=by rw[dW];unfold SG.all;rw[kH];simp
   have xX:s4.us=s.us++[b]:=by
    have yG:s3.rs=s.rs:=by rw[cJ,aP];rfl
    unfold B0.us;rw[eH];show s3.rs.map E2.b++[b]=_;rw[bG,yG];simp
   refine⟨by rw[eH,cJ];exact X2.cfg,by rw[eH,cJ,dW];exact X2.dev,?_,by rw[eH,cJ,dW];exact X2.que,by rw[eH,cJ,dW];exact X2.gho,by rw[eH,cJ,dW];exact X2.idx,?_,by rw[eH,cJ,dW];exact X2.rs,by rw[eH,dW,hx];rfl,?_,by rw[eH,cJ,dW];exact X2.pd⟩
   ·rw[xX];have e1:s4.ss=s.ss:=by rw[eH];exact tK
    have e2:g'.Ab=Ab':=by rw[dW]
    rw[e1,e2];exact oX
   ·rw[DT _ _ _ (by rw[eA];exact oI)]at pE;rw[aA];have:Y9 (g2.all++[x])=Y9 g2.all++[(b,.q x.ptr)]:=by unfold Y9;rw[NQ,hx];rfl
    rw[this];have e2:g'.es=es':=by rw[dW]
    rw[e2];exact pE
   ·intro y hy;rw[aA]at hy;rcases NJ.1 hy with hy|hy
    ·exact X2.ok y hy
    ·rw[NM.1 hy,hx];exact O5
  ·have h7:=E8 kG z;have e1:F5 p s4 g'=F5 p s4 {g2 with on:=some x}:=by rw[dW];rfl
   have e2:kO p s4=kO p s3:=by rw[eH];rfl
   have e3:mO p g'=(p.nr,Obj.map es' ck'):=by rw[dW];rfl
   have e4:gO p g'=gO p g2:=by rw[dW];rfl
   have e5:D1 g'.on.toList=[x.o]:=by rw[dW];refine(Pr x).trans ?_;unfold RN.objs;rw[hx]
   have e6:g'.Ad=g2.Ad/\g'.Ab=Ab'/\g'.ns=g2.ns/\g'.pseg=g2.pseg/\g'.Aq=g2.Aq/\g'.Ai=g2.Ai:=by rw[dW];exact⟨rfl,rfl,rfl,rfl,rfl,rfl⟩
   simp only[SL,e1,e2,e3,e4,e5,e6.1,e6.2.1,e6.2.2.1,e6.2.2.2.1,e6.2.2.2.2.1,e6.2.2.2.2.2,C3,D0,E5]at*;omega
 ·rw[NE (by simpa using h0)];refine H0 (AS p s2 g2 X2 q.1) bU ?_;rintro _ _ ⟨g',fB,X',rfl⟩;exact⟨_,NH _,(q.1,()),rfl,.drop (A:=SL p (s2.met q.1) g') (J:=[c2]) ⟨g',by simp,X',rfl⟩ (by rw[fB,NP])⟩
def Cj7(f:α->B1)(q:α->Bool)(l:List α)(z:Nat×Obj):cnt (l.flatMap f) z=cnt ((l.filter q).flatMap f) z+cnt ((l.filter fun x=> !q x).flatMap f) z:=by
 have h:=List.filter_append_perm q l;have h2:=Am8 f h z;rw[OD,C3]at h2;exact h2.symm
def KR(p:SP)(s:B0)(g:SG)(X:SX p s g)(ok:G3 s.d)(hw: ∀x∈s.ss,0<=x.wear/\x.wear<=900000000)(aZ:s.us.Nodup)(b:Int)(h1: ∀o,s.op=some o->o.b≠b)(h2:I6 s.ss b=false->b∉s.us):
  CallF PP 158 #[.q (some ⟨p.n,11,none⟩),.i b] (SL p s g) (SK p (s.erase b) []):=by
 refine(c158 (some ⟨p.n,11,none⟩) b).c ?_;refine B7 rfl (B5 (some p.m.z) (H4 (s:=s) (g:=g) (k:=11) (by simp[SL]) rfl) ?_);refine H0 (Cl1 p.m s.d g.Ad X.dev ok b) (R:=F5 p s g::(kO p s::(mO p g::(gO p g::(g.Ab++(D1 g.ns++(D1 g.on.toList++(g.pseg++(g.Aq++g.Ai))))))))) (pc fun z=>by simp only[SL,C3,D0,E5];omega) ?_;rintro _ A' ⟨rfl,cU⟩;refine⟨_,NH _,((M3 s.d b).1,()),rfl,?_⟩;have mE:(M3 s.d b).2.c=s.d.c:=GA ..;have wS:s.erase b=(if(M3 s.d b).1=11 then((s.dev (M3 s.d b).2).met 11,11)else
  ({s.dev (M3 s.d b).2 with ss:=if I6 s.ss b=true then O7 s.ss b (Cl (decide ((M3 s.d b).1=10)))else s.ss,rs:=s.rs.filter fun r=> !decide (r.b=b)},0)):=rfl
 rw[wS];generalize M3 s.d b=q at cU mE;obtain⟨s2,aP⟩: ∃s2:B0,s2=s.dev q.2:=⟨_,rfl⟩;have X2:SX p s2 {g with Ad:=A'}:=by rw[aP];exact{X with cfg:=mE.trans X.cfg,dev:=cU,blk:=X.blk}
 rw[<-aP];have eqs:F5 p s2 {g with Ad:=A'}=F5 p s g/\kO p s2=kO p s:=by rw[aP];exact⟨rfl,rfl⟩
 have hY:(A'++(F5 p s g::(kO p s::(mO p g::(gO p g::(g.Ab++(D1 g.ns++(D1 g.on.toList++(g.pseg++(g.Aq++g.Ai)))))))))).Perm (SL p s2 {g with Ad:=A'}++[]):=pc fun z=>by
  simp only[SL,eqs.1,eqs.2,show mO p {g with Ad:=A'}=mO p g from rfl,show gO p {g with Ad:=A'}=gO p g from rfl,C3,D0,E5];omega
 generalize A'++(F5 p s g::(kO p s::(mO p g::(gO p g::(g.Ab++(D1 g.ns++(D1 g.on.toList++(g.pseg++(g.Aq++g.Ai)))))))))=L2 at hY;obtain⟨g2,jJ⟩: ∃g2:SG,g2={g with Ad:=A'}:=⟨_,rfl⟩;rw[<-jJ]at X2 hY;refine D6 (fun(h0:q.1=11)=>?_) (fun(h0: ¬q.1=11)=>?_)
 ·rw[NE h0,h0];refine H0 (AS p s2 g2 X2 11) hY ?_;rintro _ _ ⟨g',fB,X',rfl⟩;exact⟨_,NH _,(11,()),rfl,.drop (A:=SL p (s2.met 11) g') (J:=[]) ⟨g',by simp,X',rfl⟩ (by rw[fB,NP])⟩
 ·rw[ND h0];have iX:s2.us=s.us:=by rw[aP];rfl
  have qK:s2.ss=s.ss:=by rw[aP];rfl
  have dR:BX p.nb s.ss s.us g2.Ab:=by have:=X2.blk;rwa [iX,qK]at this
  refine B5 (some p.nb.z) (H4 (SL.st hY) rfl) ?_;refine H0 (Cr2 p.nb s.ss s.us g2.Ab dR hw b (decide (q.1=10))) (R:=F5 p s2 g2::(kO p s2::(mO p g2::(gO p g2::(g2.Ad++(D1 g2.ns++(D1 g2.on.toList++(g2.pseg++(g2.Aq++g2.Ai))))))))) (pc fun z=>by have:=E8 hY z;simp only[SL,C3,D0,E5]at*;omega) ?_;rintro _ Ab' ⟨rfl,oX⟩;refine⟨_,NH _,(I6 s.ss b,()),rfl,?_⟩;refine B5 (some p.nr) (H4 (s:=s2) (g:=g2) (k:=14) (by simp) rfl) ?_;refine Aq8 Xi (r:=p.nr) (es:=g2.es) (clock:=g2.ck) (m:=Y9 g2.all) (Y:=F5 p s2 g2::(kO p s2::(gO p g2::(g2.Ad++(Ab'++(D1 g2.ns++(D1 g2.on.toList++(g2.pseg++(g2.Aq++g2.Ai))))))))) (pc fun z=>by rw[show(p.nr,Obj.map g2.es g2.ck)=mO p g2 from rfl];simp only[C3,D0,E5];omega) X2.mp b fun es' ck' L4 pE bU=>?_;obtain⟨s3,cJ⟩: ∃s3:B0,s3={s2 with ss:=if I6 s.ss b=true then O7 s.ss b (Cl (decide (q.1=10)))else s.ss,rs:=s.rs.filter fun r=> !decide (r.b=b)}:=⟨_,rfl⟩;rw[<-cJ];have yH:s2.rs=s.rs:=by rw[aP];rfl
  have uK:s2.op=s.op:=by rw[aP];rfl
  obtain⟨g3,fG⟩: ∃g3:SG,g3={g2 with ns:=g2.ns.filter (fun x=> !decide (x.r.b=b)),Ab:=Ab',es:=es',ck:=ck'}:=⟨_,rfl⟩;have uJ:s3.op=s.op:=by rw[cJ];exact uK
  have tV:s3.rs=s.rs.filter fun r=> !decide (r.b=b):=by rw[cJ]
  have kH:g2.on.map RN.r=s.op:=by rw[X2.op,uK]
  have qE:s3.us=T9 s.us b:=by
   unfold B0.us T9;rw[uJ,tV,QZ];congr 1
   ·rw[VA];congr 1;refine YB fun x _=>?_;simp
   ·cases ho:s.op with
    |none=>rfl
    |some o=>
     have:=h1 o ho;simp[this]
  have pY:g3.all=g2.all.filter fun x=> !decide (x.r.b=b):=by
   rw[fG];unfold SG.all;rw[QZ];congr 1;cases ho:g2.on with
   |none=>rfl
   |some x=>
    rw[ho]at kH;have:=h1 x.r kH.symm;simp[this]
  refine .drop (A:=SL p s3 g3) (J:=(g2.ns.filter fun x=> !!decide (x.r.b=b)).flatMap RN.objs) ⟨g3,by simp,?_,rfl⟩ (pc fun z=>?_)
  ·refine⟨by rw[cJ];exact X2.cfg,by rw[cJ,fG];exact X2.dev,?_,by rw[cJ,fG];exact X2.que,by rw[cJ,fG];exact X2.gho,by rw[cJ,fG];exact X2.idx,?_,?_,by rw[uJ,fG];exact kH,?_,by rw[cJ,fG];exact X2.pd⟩
   ·rw[qE];have e1:s3.ss=if I6 s.ss b=true then O7 s.ss b (Cl (decide (q.1=10)))else s.ss:=by rw[cJ]
    have e2:g3.Ab=Ab':=by rw[fG]
    have e3:(if I6 s.ss b=true then T9 s.us b else s.us)=T9 s.us b:=by
     split
     ·rfl
     ·rename_i hh;have:=h2 (by simpa using hh);unfold T9;symm;rw[RA];intro y hy;have:y≠b:=fun e=>this (e▸hy);simp[this]
    rw[e1,e2,<-e3];exact oX
   ·have hk:=X2.keys;rw[Ae3 _ _ (by rw[hk,iX];exact aZ)]at pE;rw[pY];have:Y9 (g2.all.filter fun x=> !decide (x.r.b=b))=(Y9 g2.all).filter fun p=> !decide (p.1=b):=by
     unfold Y9;rw[VA];rfl
    rw[this];have e2:g3.es=es':=by rw[fG]
    rw[e2];exact pE
   ·rw[tV,fG];show(g2.ns.filter _).map RN.r=_;rw[<-yH,<-X2.rs,VA];rfl
   ·intro y hy;rw[pY]at hy;exact X2.ok y (OI.1 hy).1
  ·have h4:=E8 bU z;have gN:=Cj7 RN.objs (fun x:RN=> !decide (x.r.b=b)) g2.ns z;have e1:F5 p s3 g3=F5 p s2 g2:=by rw[cJ,fG];rfl
   have e2:kO p s3=kO p s2:=by rw[cJ];rfl
   have e3:mO p g3=(p.nr,Obj.map es' ck'):=by rw[fG];rfl
   have e4:gO p g3=gO p g2:=by rw[fG];rfl
   have e6:g3.Ad=g2.Ad/\g3.Ab=Ab'/\g3.ns=g2.ns.filter (fun x=> !decide (x.r.b=b))/\g3.on=g2.on/\g3.pseg=g2.pseg/\g3.Aq=g2.Aq/\g3.Ai=g2.Ai:=by rw[fG];exact⟨rfl,rfl,rfl,rfl,rfl,rfl,rfl⟩
   simp only[SL,e1,e2,e3,e4,e6.1,e6.2.1,e6.2.2.1,e6.2.2.2.1,e6.2.2.2.2.1,e6.2.2.2.2.2.1,e6.2.2.2.2.2.2,D1,C3,D0,E5]at*;omega
def SU(p:SP)(s:B0)(R:B1)(r:Value)(L':B1):Prop:= ∃g',L'=SL p s g'++R/\SX p s g'/\r= .t #[]
def SX.pendLen(X:SX p s g):g.pv.len=s.pend.length:=X.pd.sl.els_len W0 (by decide)
def KA(hp:L.Perm (SL p s g++R))(X:SX p s g)(aQ:s.pend.length<=1000000000)(x:It)(s':B0)(bZ:s'={s with pend:=s.pend++[x]})(hk: ∀g' L',L'.Perm (SL p s' g'++R)->SX p s' g'->K L'):
  ld ⟨p.n,17,none⟩ (.lf .sl) (fun v2=>Cb PP 65 65 65 100 v2 1 [.i x.1,.i x.2.1,.i x.2.2.1] fun s1=>HL.st ⟨p.n,17,none⟩ [.slice s1.a s1.len s1.cap] K) L:=by
 have hl:=X.pendLen;refine B5 g.pv (H4 (SL.st hp) rfl) ?_;refine Iv Qx Vw X.pd (Y:=F5 p s g::(kO p s::(mO p g::(gO p g::(g.Ad++(g.Ab++(D1 g.ns++(D1 g.on.toList++(g.Aq++(g.Ai++R)))))))))) (ws:=P6 x) (pc fun z=>by have:=E8 hp z;simp only[SL,C3,D0,E5]at*;omega) rfl rfl (by omega) fun s1 seg1 fF own1=>?_;refine Mw (s:=s) (g:=g) (k:=17) s' {g with pv:=s1,pseg:=seg1} (Y:=seg1++(kO p s::(mO p g::(gO p g::(g.Ad++(g.Ab++(D1 g.ns++(D1 g.on.toList++(g.Aq++(g.Ai++R)))))))))) (pc fun z=>by simp only[C3,D0,E5];omega) (by decide) (by rw[bZ];rfl) fun L2 hY=>hk {g with pv:=s1,pseg:=seg1} L2 (pc fun z=>?_) ?_
 ·have:=E8 hY z;have e1:kO p s'=kO p s:=by rw[bZ];rfl
  simp only[SL,e1,show mO p {g with pv:=s1,pseg:=seg1}=mO p g from rfl,show gO p {g with pv:=s1,pseg:=seg1}=gO p g from rfl,C3,D0,E5]at*;omega
 ·rw[bZ];refine{X with cfg:=X.cfg,dev:=X.dev,blk:=X.blk,pd:=?_};show C5 s1 3 Bf ((s.pend++[x]).flatMap P6) seg1;rw[OD,PU];exact own1
def KG(p:SP)(s:B0)(g:SG)(X:SX p s g)(hw:1<=s.sc.ways)(key:ByteArray)(hk:key.size<=1000000)(aD:(C6 s.ix (s.hash key)).length<100)(aQ:s.pend.length<=1000000000)(x:It):
  CallF PP 72 #[.p p.n,.w key,.agg (ki3 x)] (SL p s g) (SU p (s.list key x) []):=by
 refine(c72 (some p.n.z) key x).c ?_;have bJ:(SL p s g).Perm (SL p s g++[]):=by rw[NP]
 refine B7 rfl (B5 (some p.ni.z) (H4 (SL.st bJ) rfl) (C4 (My bJ key hk) (((s.hash key:Nat):Int),()) rfl (P2 (H4 (SL.st bJ) rfl) ?_)));refine H0 (Cb8 p.ni s.sc.ways s.ix g.Ai X.idx hw (s.hash key) (Un s key) x aD) (R:=F5 p s g::(kO p s::(mO p g::(gO p g::(g.Ad++(g.Ab++(D1 g.ns++(D1 g.on.toList++(g.pseg++g.Aq))))))))) (pc fun z=>by simp only[SL,C3,D0,E5];omega) ?_;rintro _ Ai' ⟨⟨gn,rfl,mV⟩,rY⟩;refine⟨_,NH _,((gn.b,gn.p,gn.e,()),U0 (I0 (C6 s.ix (s.hash key)) (E1 (s.hash key) x)) s.sc.ways,()),rfl,?_⟩;obtain⟨s1,bM⟩: ∃s1:B0,s1={s with ix:=Da s.ix s.sc.ways (s.hash key) x}:=⟨_,rfl⟩;obtain⟨g1,eM⟩: ∃g1:SG,g1={g with Ai:=Ai'}:=⟨_,rfl⟩;have X1:SX p s1 g1:=by rw[bM,eM];exact{X with cfg:=X.cfg,dev:=X.dev,blk:=X.blk,idx:=rY}
 have aH:(Ai'++(F5 p s g::(kO p s::(mO p g::(gO p g::(g.Ad++(g.Ab++(D1 g.ns++(D1 g.on.toList++(g.pseg++g.Aq)))))))))).Perm (SL p s1 g1++[]):=pc fun z=>by
  have e1:F5 p s1 g1=F5 p s g:=by rw[bM,eM];rfl
  have e2:kO p s1=kO p s:=by rw[bM];rfl
  have e3:mO p g1=mO p g:=by rw[eM];rfl
  have e4:gO p g1=gO p g:=by rw[eM];rfl
  simp only[SL,e1,e2,e3,e4,C3,D0,E5];simp only[eM];omega
 generalize Ai'++(F5 p s g::(kO p s::(mO p g::(gO p g::(g.Ad++(g.Ab++(D1 g.ns++(D1 g.on.toList++(g.pseg++g.Aq)))))))))=L1 at aH;have hl:s.list key x={s1 with pend:=if U0 (I0 (C6 s.ix (s.hash key)) (E1 (s.hash key) x)) s.sc.ways=true then s.pend++[(Jp (C6 s.ix (s.hash key)) s.sc.ways (s.hash key) x).pl]else s.pend}:=by rw[bM];rfl
 have lC:s1.pend=s.pend:=by rw[bM]
 rw[hl];dsimp only;refine M0 (fun h=>?_) (fun h=>?_)
 ·rw[NE h];refine KA (x:=gn.pl) aH X1 (by rw[lC];exact aQ) _ rfl fun g' L' dC X'=>?_;rw[lC,mV]at dC X';exact .drop (A:=SL p _ g') (J:=[]) ⟨g',by simp,X',rfl⟩ dC
 ·rw[ND (by rw[h];decide)];have:({s1 with pend:=s.pend}:B0)=s1:=by rw[<-lC]
  rw[this];exact .drop (A:=SL p s1 g1) (J:=[]) ⟨g1,by simp,X1,rfl⟩ aH
def Cj6{q:α->Bool}{l:List α}{i:Nat}(hi:i<l.length)(hn:(l.take i).find? q=none)(hq:q l[i]=true):l.find? q=some l[i]:=by
 conv=>lhs;rw[<-PR i l]
 rw[YC,hn,OZ hi,TF hq];rfl
def B0.placeV(s:B0)(key:ByteArray):List UInt8:=match s.place key with
 |none=>[]
 |some p=>(C7 s.d p).2.1
def PlK(s:B0)(key:ByteArray)(A:B1)(r:Value)(L':B1):Prop:= ∃(u:B6) (sg:B1),r= .t #[.agg #[.i ((s.place key).getD (0,0,0,())).1,.i ((s.place key).getD (0,0,0,())).2.1,.i ((s.place key).getD (0,0,0,())).2.2.1],.slice u.a u.len u.cap,.b (s.place key).isSome]/\
 L'=sg++A/\C5 u 1 eB (F9 (s.placeV key)) sg
def Vx(p:SP)(s:B0)(g:SG)(X:SX p s g)(ok:G3 s.d)(key:ByteArray)(hk:key.size<=1000000)(aD:(C6 s.ix (s.hash key)).length<100)(wS: ∀x∈P0 (C6 s.ix (s.hash key)) (s.hash key),Q4 .i64 x.2.1):
  CallF PP 54 #[.p p.n,.w key] (SL p s g) (PlK s key (SL p s g)):=by
 refine(c54 (some p.n.z) key).c ?_;have bJ:(SL p s g).Perm (SL p s g++[]):=by rw[NP]
 refine B7 rfl (B5 (some p.ni.z) (H4 (SL.st bJ) rfl) (C4 (My bJ key hk) (((s.hash key:Nat):Int),()) rfl (P2 (H4 (SL.st bJ) rfl) ?_)));refine H0 (Aj0 p.ni s.sc.ways s.ix g.Ai X.idx (s.hash key) (Un s key)) (R:=F5 p s g::(kO p s::(mO p g::(gO p g::(g.Ad++(g.Ab++(D1 g.ns++(D1 g.on.toList++(g.pseg++g.Aq))))))))) (pc fun z=>by simp only[SL,C3,D0,E5];omega) ?_;rintro _ _ ⟨u,seg,rfl,rfl,own⟩;refine⟨seg++SL p s g,pc fun z=>by simp only[SL,C3,D0,E5];omega,(u,()),rfl,?_⟩;dsimp only;have lC:s.place key=(P0 (C6 s.ix (s.hash key)) (s.hash key)).find? fun p=>decide ((C7 s.d p).2.2=0/\M8 (C7 s.d p).1=key):=rfl;have hC:(P0 (C6 s.ix (s.hash key)) (s.hash key)).length<100:=by
  unfold P0;rw[NL];exact Nat.lt_of_le_of_lt (RS ..) aD
 have eC:s.placeV key=match s.place key with|none=>[]|some p=>(C7 s.d p).2.1:=rfl
 generalize P0 (C6 s.ix (s.hash key)) (s.hash key)=l at own lC wS hC;have fI:=own.sl.els_len Sz (by decide);refine G1 (fun z' z L'=> ∃i:Nat,i<=l.length/\z'=l.length-i/\z=((i:Int),())/\(l.take i).find? (fun p=>decide ((C7 s.d p).2.2=0/\M8 (C7 s.d p).1=key))=none/\ ∃J,L'.Perm (seg++(J++SL p s g))) l.length ⟨0,by omega,by omega,rfl,rfl,[],by simp⟩ ?_;rintro z' z L1 ⟨i,hi,rfl,rfl,aT,J,aH⟩;dsimp only;have mM:L1.Perm (SL p s g++(seg++J)):=pc fun z=>by have:=E8 aH z;simp only[C3,D0,E5]at*;omega
 refine D6 (fun(hO:(i:Int)<u.len)=>?_) (fun(aM: ¬(i:Int)<u.len)=>?_)
 ·have hJ:i<l.length:=by omega
  refine Bd Sz (by decide) (own.sl.mono fun x hx=>aH.symm.subset (by simp[hx])) (n:=i) rfl hJ fun a ha=>?_;have gR:=wS _ (NO hJ);refine B5 (sh:=Z1) l[i] ha (B5 (some p.m.z) (H4 (SL.st mM) rfl) ?_);refine H0 (FT p.m s.d g.Ad X.dev ok l[i] gR) (R:=F5 p s g::(kO p s::(mO p g::(gO p g::(g.Ab++(D1 g.ns++(D1 g.on.toList++(g.pseg++(g.Aq++(g.Ai++(seg++J))))))))))) (pc fun z=>by have:=E8 aH z;simp only[SL,C3,D0,E5]at*;omega) ?_;rintro _ _ ⟨q,rfl,rfl,hq,fC⟩;refine⟨_,NH _,(M8 (C7 s.d l[i]).1,q.v,(C7 s.d l[i]).2.2,()),rfl,?_⟩;dsimp only;have more: ¬((C7 s.d l[i]).2.2=0/\M8 (C7 s.d l[i]).1=key)-> ∃k',k'<l.length-i/\ ∃i':Nat,i'<=l.length/\k'=l.length-i'/\(((i:Int)+1,()):D2 [lI])=((i':Int),())/\(l.take i').find? (fun p=>decide ((C7 s.d p).2.2=0/\M8 (C7 s.d p).1=key))=none/\ ∃J',((q.seg++g.Ad)++(F5 p s g::(kO p s::(mO p g::(gO p g::(g.Ab++(D1 g.ns++(D1 g.on.toList++(g.pseg++(g.Aq++(g.Ai++(seg++J)))))))))))).Perm (seg++(J'++SL p s g)):=fun hZ=>
   ⟨l.length-(i+1),by omega,i+1,by omega,rfl,rfl,by rw[OB hJ,YC,aT];simp[hZ],q.seg++J,pc fun z=>by simp only[SL,C3,D0,E5];omega⟩
  refine D6 (fun(h0:(C7 s.d l[i]).2.2=0)=>?_) (fun(h0: ¬(C7 s.d l[i]).2.2=0)=>H3 (by omega) (more fun h=>h0 h.1));refine D6 (fun(h1:M8 (C7 s.d l[i]).1=key)=>?_) (fun(h1: ¬M8 (C7 s.d l[i]).1=key)=>H3 (by omega) (more fun h=>h1 h.2));have hf:s.place key=some l[i]:=by rw[lC];exact Cj6 hJ aT (by simp[h0,h1])
  refine .drop (A:=q.seg++SL p s g) (J:=seg++J) ⟨q.v,q.seg,by rw[hf];rfl,rfl,?_⟩ (pc fun z=>by simp only[SL,C3,D0,E5];omega);rw[eC,hf];show C5 q.v 1 eB (F9 (C7 s.d l[i]).2.1) q.seg;rw[<-fC];exact hq
 ·obtain rfl:i=l.length:=by omega
  rw[OE]at aT;have hf:s.place key=none:=by rw[lC];exact aT
  refine .drop (A:=SL p s g) (J:=seg++J) ⟨⟨none,0,0⟩,[],by rw[hf];rfl,rfl,?_⟩ mM;rw[eC,hf];exact O5
def Ca4(b:List UInt8):(V2 b).1.length<=65536/\(V2 b).2.1.length<=65536:=by
 have h1:=Oy (b:=b) (a:=0) (by omega);have h2:=Oy (b:=b) (a:=(H5 b 0).2.1) h1.2.1;unfold V2
 repeat' split
 all_goals first|exact⟨h1.2.2.1,h2.2.2.1⟩|exact⟨PQ _,PQ _⟩
def An9(d:B8)(p:It):(C7 d p).1.length<=65536/\(C7 d p).2.1.length<=65536:=by
 unfold C7
 repeat' split
 all_goals first|exact Ca4 _|exact⟨PQ _,PQ _⟩
def Ag8(l:List UInt8):(M8 l).size=l.length:=by unfold M8;exact VH
def Bf2(L:B1)(v:B6)(l:List It)(h:Sl L v 3 (l.flatMap Nk))(hl:l.length<=1000000)(x:It):
  CallF PP 246 #[.slice v.a v.len v.cap,.agg (ki3 x)] L fun r L'=>(∃n:Int,r= .i n/\(0<=n↔x∈l))/\L'=L:=by
 refine(c246 v x).c ?_;have bY:=h.els_len Sz (by decide);refine G1 (fun z' z L'=> ∃i:Nat,i<=l.length/\z'=l.length-i/\z=((i:Int),())/\x∉l.take i/\L'=L) l.length ⟨0,by omega,by omega,rfl,by simp,rfl⟩ ?_;rintro z' z L' ⟨i,hi,rfl,rfl,aT,fB⟩;rw[fB];dsimp only;refine D6 (fun(hO:(i:Int)<v.len)=>?_) (fun(aM: ¬(i:Int)<v.len)=>?_)
 ·have hJ:i<l.length:=by omega
  refine Bd Sz (by decide) h (n:=i) rfl hJ fun a ha=>?_;refine B5 (sh:=Z1) l[i] ha (Ap0 x l[i] (D6 (fun he=>?_) (fun he=>?_)))
  ·exact .of ⟨⟨(i:Int),rfl,⟨fun _=>he▸NO hJ,fun _=>by omega⟩⟩,rfl⟩
  ·refine H3 (by omega) ⟨l.length-(i+1),by omega,i+1,by omega,rfl,rfl,?_,rfl⟩;rw[OB hJ,NJ,NM];rintro(h1|h1)
   ·exact aT h1
   ·exact he h1
 ·obtain rfl:i=l.length:=by omega
  rw[OE]at aT;exact .of ⟨⟨-1,rfl,⟨fun h=>absurd h (by decide),fun h=>absurd h aT⟩⟩,rfl⟩
def Bi2(L:B1)(v:B6)(l:List It)(h:Sl L v 3 (l.flatMap Nk))(hl:l.length<=1000000)(x:It):
  Reads PP 232 #[.slice v.a v.len v.cap,.agg (ki3 x)] L (.b (decide (x∈l))):=by
 unfold Reads;refine(c232 v x).c ?_;refine O1 (Bf2 L v l h hl x) ?_;rintro _ _-⟨⟨n,rfl,hn⟩,rfl⟩;refine⟨(n,()),rfl,.of ⟨?_,rfl⟩⟩;congr 1;exact decide_eq_decide.2 hn
def Vy(hp:L.Perm (SL p s g++R))(X:SX p s g){ix':List (List C8)}(h:CallF PP f args g.Ai fun r L'=>r=v/\IX p.ni s.sc.ways ix' L'){k:D2 rs->HP}(r:D2 rs)(hr:v=Dt rs r)
  (s':B0) (bZ:s'={s with ix:=ix'}) (hk: ∀g' L',L'.Perm (SL p s' g'++R)->SX p s' g'->g'.ns=g.ns->k r L'):cl PP f args rs k L:=by
 refine H0 h (R:=F5 p s g::(kO p s::(mO p g::(gO p g::(g.Ad++(g.Ab++(D1 g.ns++(D1 g.on.toList++(g.pseg++(g.Aq++R)))))))))) (pc fun z=>by have:=E8 hp z;simp only[SL,C3,D0,E5]at*;omega) ?_;rintro _ Ai' ⟨rfl,rY⟩;refine⟨_,NH _,r,hr,hk {g with Ai:=Ai'} _ (pc fun z=>?_) ?_ rfl⟩
 ·have e1:F5 p s' {g with Ai:=Ai'}=F5 p s g:=by rw[bZ];rfl
  have e2:kO p s'=kO p s:=by rw[bZ];rfl
  simp only[SL,e1,e2,show mO p {g with Ai:=Ai'}=mO p g from rfl,show gO p {g with Ai:=Ai'}=gO p g from rfl,C3,D0,E5];omega
 ·rw[bZ];exact{X with cfg:=X.cfg,dev:=X.dev,blk:=X.blk,idx:=rY}
def squ(hp:L.Perm (SL p s g++R))(X:SX p s g){q':List QD}(h:CallF PP f args g.Aq fun r L'=>r=v/\Gg p.nq s.sc.small q' L'){k:D2 rs->HP}(r:D2 rs)(hr:v=Dt rs r)
  (s':B0) (bZ:s'={s with q:=q'}) (hk: ∀g' L',L'.Perm (SL p s' g'++R)->SX p s' g'->k r L'):cl PP f args rs k L:=by
 refine H0 h (R:=F5 p s g::(kO p s::(mO p g::(gO p g::(g.Ad++(g.Ab++(D1 g.ns++(D1 g.on.toList++(g.pseg++(g.Ai++R)))))))))) (pc fun z=>by have:=E8 hp z;simp only[SL,C3,D0,E5]at*;omega) ?_;rintro _ Aq' ⟨rfl,ap⟩;refine⟨_,NH _,r,hr,hk {g with Aq:=Aq'} _ (pc fun z=>?_) ?_⟩
 ·have e1:F5 p s' {g with Aq:=Aq'}=F5 p s g:=by rw[bZ];rfl
  have e2:kO p s'=kO p s:=by rw[bZ];rfl
  simp only[SL,e1,e2,show mO p {g with Aq:=Aq'}=mO p g from rfl,show gO p {g with Aq:=Aq'}=gO p g from rfl,C3,D0,E5];omega
 ·rw[bZ];exact{X with cfg:=X.cfg,dev:=X.dev,blk:=X.blk,que:=ap}
def KO(hp:L.Perm (SL p s g++R))(X:SX p s g){gh':List Int}(h:CallF PP f args [gO p g] fun r L'=>r=v/\ ∃o',L'=[(p.ng,o')]/\Ja s.sc.ghost gh' o'){k:D2 rs->HP}(r:D2 rs)(hr:v=Dt rs r)
  (s':B0) (bZ:s'={s with gh:=gh'}) (hk: ∀g' L',L'.Perm (SL p s' g'++R)->SX p s' g'->k r L'):cl PP f args rs k L:=by
 refine H0 h (R:=F5 p s g::(kO p s::(mO p g::(g.Ad++(g.Ab++(D1 g.ns++(D1 g.on.toList++(g.pseg++(g.Aq++(g.Ai++R)))))))))) (pc fun z=>by have:=E8 hp z;simp only[SL,C3,D0,E5]at*;omega) ?_;rintro _ _ ⟨rfl,o',rfl,bH⟩;refine⟨_,NH _,r,hr,hk {g with go:=o'} _ (pc fun z=>?_) ?_⟩
 ·have e1:F5 p s' {g with go:=o'}=F5 p s g:=by rw[bZ];rfl
  have e2:kO p s'=kO p s:=by rw[bZ];rfl
  simp only[SL,e1,e2,show mO p {g with go:=o'}=mO p g from rfl,show gO p {g with go:=o'}=(p.ng,o')from rfl,C3,D0,E5];omega
 ·rw[bZ];exact{X with cfg:=X.cfg,dev:=X.dev,blk:=X.blk,gho:=bH}
def SB(p:SP)(w:B0×Bool)(R:B1)(r:Value)(L':B1):Prop:= ∃g',L'=SL p w.1 g'++R/\SX p w.1 g'/\r= .b w.2
def KP(p:SP)(s:B0)(g:SG)(X:SX p s g)(ok:G3 s.d)(key:ByteArray)(hk:key.size<=1000000)(aD:Aw7 s (s.hash key))(aQ:s.pend.length<=1000000000):
  CallF PP 44 #[.p p.n,.w key] (SL p s g) (SB p (s.forget key) []):=by
 refine(c44 (some p.n.z) key).c ?_;have bJ:(SL p s g).Perm (SL p s g++[]):=by rw[NP]
 refine B7 rfl (B5 (some p.nq.z) (H4 (SL.st bJ) rfl) ?_);obtain⟨s1,bM⟩: ∃s1:B0,s1={s with q:=P7 s.q key}:=⟨_,rfl⟩;refine squ bJ X (Bn9 p.nq s.sc.small s.q g.Aq X.que key) ((T2 s.q key).isSome,()) rfl s1 bM fun g1 L1 aH X1=>?_;have hh:s1.hash key=s.hash key:=by rw[bM];rfl
 have dK:s1.ix=s.ix:=by rw[bM]
 have hd:s1.d=s.d:=by rw[bM]
 have sQ:s.forget key=(match s1.place key with|none=>(s1,(T2 s.q key).isSome)|some x=>({s1.ixdrop (s.hash key) x with pend:=s.pend++[x]},true)):=by rw[bM];rfl
 refine H0 (Vx p s1 g1 X1 (by rw[hd];exact ok) key hk (by rw[dK,hh];exact aD.len) (by rw[dK,hh];exact aD.wf)) aH ?_;rintro _ _ ⟨u,sg,rfl,rfl,own⟩;refine⟨SL p s1 g1++sg,pc fun z=>by simp only[C3,E5];omega,((((s1.place key).getD (0,0,0,())).1,((s1.place key).getD (0,0,0,())).2.1,((s1.place key).getD (0,0,0,())).2.2.1,()),u,(s1.place key).isSome,()),rfl,?_⟩;dsimp only;obtain⟨L2,nY⟩: ∃L2,L2=SL p s1 g1++sg:=⟨_,rfl⟩;rw[<-nY];have hY:L2.Perm (SL p s1 g1++sg):=by rw[nY]
 cases kF:s1.place key with
 |none=>
  refine D8 rfl ?_;rw[kF]at sQ;have e: ∀b:Bool,b=(T2 s.q key).isSome->HL.Ends (SB p (s.forget key) []) (.b b) L2:=fun b hb=>by
   rw[sQ];exact .drop (A:=SL p s1 g1) (J:=sg) ⟨g1,by simp,X1,by rw[hb]⟩ (by simpa using hY)
  exact M0 (fun h=>e _ h.symm) (fun h=>e _ h.symm)
 |some x=>
  refine E9 rfl (B5 (some p.ni.z) (H4 (SL.st hY) rfl) (C4 (My hY key hk) (((s1.hash key:Nat):Int),()) rfl (P2 (H4 (SL.st hY) rfl) ?_)));rw[kF]at sQ;refine Vy hY X1 (Aj1 p.ni s1.sc.ways s1.ix g1.Ai X1.idx (s1.hash key) (Un s1 key) x) ((P3 s1.ix (s1.hash key) x).isSome,()) rfl (s1.ixdrop (s1.hash key) x) rfl fun g3 L3 aW X3 _=>?_;have lC:(s1.ixdrop (s1.hash key) x).pend=s.pend:=by rw[bM];rfl
  refine KA (x:=x) aW X3 (by rw[lC];exact aQ) _ rfl fun g4 L4 bU X4=>?_;have e: ∀b:Bool,b=true->HL.Ends (SB p (s.forget key) []) (.b b) L4:=fun b hb=>by
   rw[sQ];have aO:({s1.ixdrop (s.hash key) x with pend:=s.pend++[x]}:B0)={s1.ixdrop (s1.hash key) x with pend:=(s1.ixdrop (s1.hash key) x).pend++[x]}:=by rw[lC,hh]
   dsimp only;rw[aO];exact .drop (A:=SL p _ g4) (J:=sg) ⟨g4,by simp,X4,by rw[hb]⟩ bU
  exact M0 (fun h=>e _ rfl) (fun h=>e _ rfl)
def IR{y:Int}(hm:(b,Obj.cells #[.i x,.i y] 3)∈L):R4 L ⟨some b.z,2,2⟩ .i64 [x,y]:=R4.const (l:=[x,y]) 2 (by simp) hm
def KC{ov:B6}{oseg:B1}{gs:List PG}(own:C5 ov 1 tB (gs.map PG.val) oseg)(hg: ∀g∈gs,g.Ok)(h1: ∀x∈oseg,x∈L)(h2: ∀x∈E3 gs,x∈L):Af L ov (O8 gs):=by
 refine⟨?_,fun x hx=>?_⟩
 ·have:=own.sl.mono h1;have e:(O8 gs).map Nh=gs.map PG.val:=by unfold O8;rw[OO];rfl
  rw[e];exact this
 ·unfold O8 at hx;obtain⟨y,hy,rfl⟩:=NY.1 hx;exact(hg y hy).sl.mono fun z hz=>h2 z (OY.2 ⟨y,hy,hz⟩)
def Ar3(key val:List UInt8)(c:Cf):(F8 key val c).1.length<=8:=by
 unfold F8;split
 ·simp
 ·split
  ·simp
  ·split
   ·simp
   ·rename_i h;have:=(Py h);simp only[Ek,NL,SW];omega
def MK(p:SP)(w:B0×Int)(ns:List RN)(R:B1)(r:Value)(L':B1):Prop:= ∃g',L'=SL p w.1 g'++R/\SX p w.1 g'/\g'.ns=ns/\r= .i w.2
def Be6(p:SP)(s:B0)(g:SG)(X:SX p s g)(h:B9 s M)(R:B1)(hT:Tab R)(pl:It)(aQ:Q4 .i64 pl.2.1)(x:It)(hx:0<=x.2.2.1/\x.2.2.1<=255)(beside:Int)(nX:0<=beside/\beside<=1000):
  CallF PP 203 #[.p p.n,.agg (ki3 pl),.agg (ki3 x),.i beside] (SL p s g++R) (MK p (s.move pl x.2.2.1 beside) g.ns R):=by
 refine(c203 (some p.n.z) pl x beside).c ?_;have hS:=h.S;have hP:=h.P;have bJ:(SL p s g++R).Perm (SL p s g++R):=NH _;refine B7 rfl (B5 (some p.m.z) (H4 (SL.st bJ) rfl) ?_);refine H0 (FT p.m s.d g.Ad X.dev h.dv pl aQ) (R:=F5 p s g::(kO p s::(mO p g::(gO p g::(g.Ab++(D1 g.ns++(D1 g.on.toList++(g.pseg++(g.Aq++(g.Ai++R)))))))))) (pc fun z=>by simp only[SL,C3,D0,E5];omega) ?_;rintro _ _ ⟨q,rfl,rfl,hq,fC⟩;obtain⟨L1,gA⟩: ∃L1,L1=SL p s g++(q.seg++R):=⟨_,rfl⟩;have aH:L1.Perm (SL p s g++(q.seg++R)):=by rw[gA]
 refine⟨L1,pc fun z=>by rw[gA];simp only[SL,C3,D0,E5];omega,(M8 (C7 s.d pl).1,q.v,(C7 s.d pl).2.2,()),rfl,?_⟩;dsimp only;have fA:=An9 s.d pl;have nS:(M8 (C7 s.d pl).1).size<=1000000:=by rw[Ag8];omega
 have dF:s.move pl x.2.2.1 beside=(if(C7 s.d pl).2.2≠0\/pl∉P0 (C6 s.ix (s.hash (M8 (C7 s.d pl).1))) (s.hash (M8 (C7 s.d pl).1))then(s,0)else
   if Ij s.ix (s.hash (M8 (C7 s.d pl).1)) pl=0\/s.fits (x.2.2.1+beside)=false\/s.pays (x.2.2.1+beside)=false then(s.ixdrop (s.hash (M8 (C7 s.d pl).1)) pl,0)else
   if(F8 (C7 s.d pl).1 (C7 s.d pl).2.1 (H2 s.sc.c)).2≠0 then(s,(F8 (C7 s.d pl).1 (C7 s.d pl).2.1 (H2 s.sc.c)).2)else
   if(s.write 2 (F8 (C7 s.d pl).1 (C7 s.d pl).2.1 (H2 s.sc.c)).1).2.2=0 then({(s.write 2 (F8 (C7 s.d pl).1 (C7 s.d pl).2.1 (H2 s.sc.c)).1).1 with ix:=Cj (s.write 2 (F8 (C7 s.d pl).1 (C7 s.d pl).2.1 (H2 s.sc.c)).1).1.ix (s.hash (M8 (C7 s.d pl).1)) pl (s.write 2 (F8 (C7 s.d pl).1 (C7 s.d pl).2.1 (H2 s.sc.c)).1).2.1},0)
   else((s.write 2 (F8 (C7 s.d pl).1 (C7 s.d pl).2.1 (H2 s.sc.c)).1).1,(s.write 2 (F8 (C7 s.d pl).1 (C7 s.d pl).2.1 (H2 s.sc.c)).1).2.2)):=rfl
 obtain⟨kk,pK⟩: ∃kk,kk=M8 (C7 s.d pl).1:=⟨_,rfl⟩;rw[<-pK]at nS dF⊢;have rA:kk.data.toList=(C7 s.d pl).1:=by rw[pK];rfl
 obtain⟨hh,zN⟩: ∃hh,hh=s.hash kk:=⟨_,rfl⟩;have hO:hh<2^64:=by rw[zN];exact Un s kk
 have aD:=h.row hh;refine C4 (My aH kk nS) ((hh:Int),()) (by rw[zN];rfl) ?_;rw[<-zN]at dF;obtain⟨f,hf⟩: ∃f,f=C7 s.d pl:=⟨_,rfl⟩;rw[<-hf]at dF fC rA fA⊢;have skip: ∀{L2 J:B1},L2.Perm (SL p s g++(J++R))->(f.2.2≠0\/pl∉P0 (C6 s.ix hh) hh)->HL.Ends (MK p (s.move pl x.2.2.1 beside) g.ns R) (.i 0) L2:=fun{L2 J} hp hc=>by
  rw[dF,NE hc];exact .drop (A:=SL p s g++R) (J:=J) ⟨g,rfl,X,rfl,rfl⟩ (pc fun z=>by have:=E8 hp z;simp only[C3]at*;omega)
 refine V9 (fun _ L'=>(f.2.2=0/\pl∈P0 (C6 s.ix hh) hh)/\ ∃J,L'.Perm (SL p s g++(q.seg++(J++R)))) ?_ ?_
 ·rintro _ L2 ⟨fQ,J,hY⟩;rw[ND (by rintro(hn|hn);exact hn fQ.1;exact hn fQ.2)]at dF;have drop: ∀{L3 J3:B1} {rs:List Sh} {K:D2 rs->HP},L3.Perm (SL p s g++(J3++R))->(Ij s.ix hh pl=0\/s.fits (x.2.2.1+beside)=false\/s.pays (x.2.2.1+beside)=false)->
    ld ⟨p.n,21,none⟩ (.lf .ptr) (fun v4=>cl PP 89 #[.q v4,.int .u64 (hh:Int),.agg (ki3 pl)] [.lf .bool] fun r6=>HL.Ends (MK p (s.move pl x.2.2.1 beside) g.ns R) (.i 0)) L3:=fun{L3 J3 rs K} hp hc=>by
   refine B5 (some p.ni.z) (H4 (SL.st hp) rfl) ?_;refine Vy hp X (Aj1 p.ni s.sc.ways s.ix g.Ai X.idx hh hO pl) ((P3 s.ix hh pl).isSome,()) rfl (s.ixdrop hh pl) rfl fun g' L4 bU X4 cy=>?_;rw[dF,NE hc];exact .drop (A:=SL p (s.ixdrop hh pl) g'++R) (J:=J3) ⟨g',rfl,X4,cy,rfl⟩ (pc fun z=>by have:=E8 bU z;simp only[C3]at*;omega)
  refine V9 (fun _ L'=>(Ij s.ix hh pl≠0/\s.fits (x.2.2.1+beside)=true/\s.pays (x.2.2.1+beside)=true)/\ ∃J,L'.Perm (SL p s g++(q.seg++(J++R)))) ?_ ?_
  ·rintro _ L3 ⟨cY,J3,aW⟩;rw[ND (by rintro(hn|hn|hn);exact cY.1 hn;rw[cY.2.1]at hn;cases hn;rw[cY.2.2]at hn;cases hn)]at dF;refine B5 (sh:=Z4) ((s.sc.c.B:Int),(s.sc.c.P:Int),(s.sc.c.S:Int),(s.sc.c.W:Int),()) (Vu (SL.st aW)) ?_;refine H0 (Ar6 (q.seg++R) (hT.mono fun y hy=>by simp[hy]) kk (OK nS (by decide)) q.v f.2.1 (by have:=hq.sl;rw[fC]at this;exact this.mono fun y hy=>by simp[hy]) (H2 s.sc.c) (by show(s.sc.c.P:Int)<=_;omega)) (R:=SL p s g++J3) (pc fun z=>by have:=E8 aW z;simp only[C3]at*;omega) ?_;rintro _ _ ⟨ov,oseg,gs,rfl,rfl,own,iG,dS⟩;rw[rA]at dS⊢;have cI:=Ar3 f.1 f.2.1 (H2 s.sc.c);obtain⟨c,hc⟩: ∃c,c=F8 f.1 f.2.1 (H2 s.sc.c):=⟨_,rfl⟩;rw[<-hc]at dS dF cI⊢;refine⟨_,NH _,(ov,c.2,()),rfl,?_⟩;have bU:((oseg++(E3 gs++(q.seg++R)))++(SL p s g++J3)).Perm (SL p s g++(oseg++(E3 gs++(q.seg++(J3++R))))):=pc fun z=>by simp only[C3];omega
   generalize (oseg++(E3 gs++(q.seg++R)))++(SL p s g++J3)=L4 at bU;dsimp only;refine D6 (fun(h0:c.2=0)=>?_) (fun(h0: ¬c.2=0)=>?_)
   ·rw[ND (by simpa using h0)]at dF;obtain⟨o,ho⟩: ∃o,s.op=some o:=by
     have:=cY.2.1;unfold B0.fits at this;cases bG:s.op with
     |none=>rw[bG]at this;cases this
     |some o=>exact⟨o,rfl⟩
    have uI:=h.op o ho;have lZ:(O8 gs).map Prod.snd=c.1:=by rw[St];exact dS
    have kF:(O8 gs).length<=8:=by rw[<-lZ,NL]at cI;exact cI
    refine Ap (AE p s g X hS.2 h.bk (oseg++(E3 gs++(q.seg++(J3++R)))) ov (O8 gs) (KC own iG (fun y hy=>by simp[hy]) (fun y hy=>by simp[hy])) (by omega) (h.dg _ (by omega)) o ho (by omega) (by omega) 2) bU ?_;rw[lZ];rintro _ _ ⟨g5,rfl,X5,cw,rfl⟩;obtain⟨w,hw⟩: ∃w,w=s.write 2 c.1:=⟨_,rfl⟩;rw[<-hw]at X5 dF⊢;refine⟨(((w.2.1.1,w.2.1.2.1,w.2.1.2.2.1,()),w.2.2,())),rfl,?_⟩;dsimp only;have jD:(SL p w.1 g5++(oseg++(E3 gs++(q.seg++(J3++R))))).Perm (SL p w.1 g5++(oseg++(E3 gs++(q.seg++(J3++R))))):=NH _;refine D6 (fun(h1:w.2.2=0)=>?_) (fun(h1: ¬w.2.2=0)=>?_)
    ·rw[NE h1]at dF;refine B5 (some p.ni.z) (H4 (SL.st jD) rfl) ?_;have dK:w.1.ix=s.ix/\w.1.sc=s.sc:=by
      rw[hw];unfold B0.write;rw[ho];dsimp only;split<;>exact⟨rfl,rfl⟩
     refine Vy jD X5 (Cd1 p.ni w.1.sc.ways w.1.ix g5.Ai X5.idx hh hO pl w.2.1 (by rw[dK.1];exact aD.fr)) ((P3 w.1.ix hh pl).isSome,()) rfl {w.1 with ix:=Cj w.1.ix hh pl w.2.1} rfl fun g6 L6 jC X6 hn6=>?_;rw[dF,h1];exact .drop (A:=SL p _ g6++R) (J:=oseg++(E3 gs++(q.seg++J3))) ⟨g6,rfl,X6,hn6.trans cw,rfl⟩ (pc fun z=>by have:=E8 jC z;simp only[C3]at*;omega)
    ·rw[ND h1]at dF;rw[dF];exact .drop (A:=SL p w.1 g5++R) (J:=oseg++(E3 gs++(q.seg++J3))) ⟨g5,rfl,X5,cw,rfl⟩ (pc fun z=>by simp only[C3];omega)
   ·rw[NE (by simpa using h0)]at dF;rw[dF];exact .drop (A:=SL p s g++R) (J:=oseg++(E3 gs++(q.seg++J3))) ⟨g,rfl,X,rfl,rfl⟩ (pc fun z=>by have:=E8 bU z;simp only[C3]at*;omega)
  ·intro j2 pO;have yR:L2.Perm (SL p s g++((q.seg++J)++R)):=pc fun z=>by have:=E8 hY z;simp only[C3]at*;omega
   refine B5 (some p.ni.z) (H4 (SL.st hY) rfl) ?_;refine C4 (Reads.has (SL.i hY) (Ce0 p.ni s.sc.ways s.ix g.Ai X.idx hh hO pl)) (Ij s.ix hh pl,()) rfl ?_;refine D6 (fun hz=>drop (rs:=[]) (K:=fun _ _=>True) yR (.inl hz)) (fun hz=>?_);refine C9 fun n3 _=>?_;obtain⟨c3,aa⟩: ∃c3:Nat×Obj,c3=(n3,Obj.cells #[.i x.2.2.1,.i beside] 3):=⟨_,rfl⟩;rw[<-aa];have aW:(c3::L2).Perm (SL p s g++(c3::(q.seg++(J++R)))):=pc fun z=>by have:=E8 hY z;simp only[C3,D0]at*;omega
   have kC: ∀y∈[x.2.2.1,beside],0<=y/\y<=(1000000:Nat):=fun y hy=>by
    simp at hy;rcases hy with rfl|rfl<;>omega
   have aP:[x.2.2.1,beside].sum=x.2.2.1+beside:=by simp
   refine C4 (An0 aW X (fun o ho=>by have:=h.op o ho;omega) ⟨some n3.z,2,2⟩ [x.2.2.1,beside] (IR (by rw[aa];exact NG)) (by simp) kC) (s.fits (x.2.2.1+beside),()) (by rw[aP];rfl) ?_;refine M0 (fun oR=>?_) (fun oR=>drop (rs:=[]) (K:=fun _ _=>True) (J3:=c3::(q.seg++J)) (pc fun z=>by have:=E8 aW z;simp only[C3,D0]at*;omega) (.inr (.inl oR)));refine C9 fun n4 _=>?_;obtain⟨c4,dy⟩: ∃c4:Nat×Obj,c4=(n4,Obj.cells #[.i x.2.2.1,.i beside] 3):=⟨_,rfl⟩;rw[<-dy];have bU:(c4::(c3::L2)).Perm (SL p s g++(q.seg++((c3::(c4::J))++R))):=pc fun z=>by have:=E8 aW z;simp only[C3,D0]at*;omega
   refine C4 (CR bU X hS.2 ⟨some n4.z,2,2⟩ [x.2.2.1,beside] (IR (by rw[dy];exact NG)) (by simp) kC) (s.pays (x.2.2.1+beside),()) (by rw[aP];rfl) ?_;refine M0 (fun yQ=>pO _ _ ⟨⟨hz,oR,yQ⟩,_,bU⟩) (fun yQ=>drop (rs:=[]) (K:=fun _ _=>True) (J3:=q.seg++(c3::(c4::J))) (pc fun z=>by have:=E8 bU z;simp only[C3,D0]at*;omega) (.inr (.inr yQ)))
 ·intro j1 eP;refine D6 (fun(h0:f.2.2=0)=>?_) (fun(h0: ¬f.2.2=0)=>skip (J:=q.seg) (pc fun z=>by have:=E8 aH z;simp only[C3]at*;omega) (.inl h0));refine B5 (some p.ni.z) (H4 (SL.st aH) rfl) ?_;refine H0 (Aj0 p.ni s.sc.ways s.ix g.Ai X.idx hh hO) (R:=F5 p s g::(kO p s::(mO p g::(gO p g::(g.Ad++(g.Ab++(D1 g.ns++(D1 g.on.toList++(g.pseg++(g.Aq++(q.seg++R))))))))))) (pc fun z=>by have:=E8 aH z;simp only[SL,C3,D0,E5]at*;omega) ?_;rintro _ _ ⟨u,seg,rfl,rfl,own⟩;refine⟨_,NH _,(u,()),rfl,?_⟩;have hY:((seg++g.Ai)++(F5 p s g::(kO p s::(mO p g::(gO p g::(g.Ad++(g.Ab++(D1 g.ns++(D1 g.on.toList++(g.pseg++(g.Aq++(q.seg++R)))))))))))).Perm (SL p s g++(q.seg++(seg++R))):=pc fun z=>by simp only[SL,C3,D0,E5];omega
  generalize (seg++g.Ai)++(F5 p s g::(kO p s::(mO p g::(gO p g::(g.Ad++(g.Ab++(D1 g.ns++(D1 g.on.toList++(g.pseg++(g.Aq++(q.seg++R)))))))))))=L2 at hY;have oP:(P0 (C6 s.ix hh) hh).length<=1000000:=by
   unfold P0;rw[NL];have:=RS (fun s:C8=>decide (s.part=P8 hh)) (C6 s.ix hh);have:=aD.len;omega
  refine C4 (Bi2 L2 u _ (own.sl.mono fun y hy=>hY.symm.subset (by simp[hy])) oP pl) (decide (pl∈P0 (C6 s.ix hh) hh),()) rfl ?_;refine D6 (fun cC=>eP _ _ ⟨⟨h0,cC⟩,seg,hY⟩) (fun cC=>skip (J:=q.seg++seg) (pc fun z=>by have:=E8 hY z;simp only[C3]at*;omega) (.inr cC))
def MJ(L:B1)(x:It)(n1 m:Nat)(b:Int)(h1:C0 n1.z [.p m] L)(h2:C0 m.z [.i b] L):
  Reads PP 205 #[.agg (ki3 x),.p n1] L (.b (decide (x.1=b))):=by
 unfold Reads;refine(c205 x (some n1.z)).c ?_;exact B7 rfl (B5 (some m.z) h1 (B7 rfl (B5 b h2 (.of ⟨rfl,rfl⟩))))
def Jj(l:List It)(b:Int):List It:=l.filter fun p=> !decide (p.1=b)
def Ac1(l:List It)(b:Int)(y:It):Jj (l++[y]) b=Jj l b++(if y.1=b then[]else[y]):=by
 unfold Jj;rw[QZ];by_cases h:y.1=b<;>simp[h]
def Bf4(L:B1)(v:B6)(l:List It)(h:Sl L v 3 (l.flatMap P6))(hl:l.length<=1000000000)(n1 m:Nat)(b:Int)(h1:C0 n1.z [.p m] L)(h2:C0 m.z [.i b] L):
  Reads PP 235 #[.slice v.a v.len v.cap,.func (.func 205) #[] #[.p n1]] L (.i (match l.findIdx? (fun y=>decide (y.1=b))with|some i=>(i:Int)|none=> -1)):=by
 unfold Reads;refine(c235 v ⟨.func 205,#[],#[.p n1]⟩).c ?_;have bY:=h.els_len W0 (by decide);refine G1 (fun k z L'=>L'=L/\ ∃i:Nat,i<=l.length/\k=l.length-i/\z=((i:Int),())/\ ∀y∈l.take i,y.1≠b) l.length ⟨rfl,0,by omega,by omega,rfl,by simp⟩ ?_;rintro k z L' ⟨fB,i,hi,rfl,rfl,hn⟩;rw[fB];dsimp only;refine D6 (fun(hO:(i:Int)<v.len)=>?_) (fun(aM: ¬(i:Int)<v.len)=>?_)
 ·have hJ:i<l.length:=by omega
  refine Bd W0 (by decide) h (n:=i) rfl hJ fun a ha=>B5 (sh:=Z1) l[i] ha (Fe (by kernel_rfl) (C4 (MJ _ l[i] n1 m b h1 h2) (decide (l[i].1=b),()) rfl ?_));refine D6 (fun(he:l[i].1=b)=>.of ⟨?_,rfl⟩) (fun(he: ¬l[i].1=b)=>H3 (by omega) ⟨l.length-(i+1),by omega,rfl,i+1,by omega,rfl,rfl,fun y hy=>?_⟩)
  ·have:l.findIdx? (fun y=>decide (y.1=b))=some i:=by
    rw[SA];refine⟨hJ,by simpa using he,fun j hj=>?_⟩;have:=hn l[j] (by rw[SY];exact⟨j,by omega,rfl⟩);simpa using this
   rw[this]
  ·rw[OB hJ]at hy;rcases NJ.1 hy with hy|hy
   ·exact hn y hy
   ·rw[NM.1 hy];exact he
 ·obtain rfl:i=l.length:=by omega
  rw[OE]at hn;have:l.findIdx? (fun y=>decide (y.1=b))=none:=by
   rw[SD];intro y hy;simpa using hn y hy
  rw[this];exact .of ⟨rfl,rfl⟩
def Bf0(v:B6)(i h:Nat):G7 v ((i:Nat):Int) ((h:Nat):Int) ((v.cap:Nat):Int) 3=G7 (G7 v ((0:Nat):Int) ((i:Nat):Int) ((v.cap:Nat):Int) 3) ((G7 v ((0:Nat):Int) ((i:Nat):Int) ((v.cap:Nat):Int) 3).len) ((h:Nat):Int) ((G7 v ((0:Nat):Int) ((i:Nat):Int) ((v.cap:Nat):Int) 3).cap) 3:=by
 have ea: ∀o:Option Addr,o.map (·.add 0)=o:=fun o=>by cases o<;>simp[Addr.add]
 simp only[G7,NK,QK,RL,ea,ite_self]
def Bh9(v:B6)(l:List It)(seg Y:B1)(own:C5 v 3 Bf (l.flatMap P6) seg)(hl:l.length<=1000000000)(n1 m:Nat)(b:Int)(h1:C0 n1.z [.p m] Y)(h2:C0 m.z [.i b] Y):
  CallF PP 204 #[.slice v.a v.len v.cap,.func (.func 205) #[] #[.p n1]] (seg++Y)
   fun r L'=> ∃(s:B6) (seg':B1),r= .slice s.a s.len s.cap/\L'=seg'++Y/\C5 s 3 Bf ((Jj l b).flatMap P6) seg':=by
 refine(c204 v ⟨.func 205,#[],#[.p n1]⟩).c ?_;have l1: ∀{sg L:B1},L.Perm (sg++Y)->C0 n1.z [.p m] L:=fun hp=>h1.mono fun x hx=>hp.symm.subset (by simp[hx]);have l2: ∀{sg L:B1},L.Perm (sg++Y)->C0 m.z [.i b] L:=fun hp=>h2.mono fun x hx=>hp.symm.subset (by simp[hx]);have hC:=own.sl.els_len W0 (by decide);have aY:=own.cap;refine C4 (Bf4 _ v l (own.sl.mono fun x hx=>by simp[hx]) hl n1 m b (l1 (NH _)) (l2 (NH _))) (_,()) rfl ?_;cases hf:l.findIdx? (fun y=>decide (y.1=b))with
 |none=>
  rw[SD]at hf;have:Jj l b=l:=by
   unfold Jj;rw[RA];intro y hy;have:=hf y hy;simpa using this
  rw[this];exact E9 rfl (.of ⟨v,seg,rfl,rfl,own⟩)
 |some i0=>
  rw[SA]at hf;obtain⟨lJ,qA,pZ⟩:=hf;have qA:l[i0].1=b:=by simpa using qA
  have mG:Jj (l.take i0) b=l.take i0:=by
   unfold Jj;rw[RA];intro y hy;obtain⟨j,hj,rfl⟩:=SY.1 hy;have:=pZ j (by omega);simpa using this
  have bT:=Ac1 (l.take i0) b l[i0];rw[<-OB lJ,NE qA,mG,NP]at bT;dsimp only;refine D8 (by simp) (H3 (by omega) ?_);refine G1 (fun k z L'=> ∃(i j:Nat) (cur:List It) (sg:B1),i<=j/\j<=l.length/\k=l.length-j/\z=((i:Int),(j:Int),())/\L'.Perm (sg++Y)/\C5 v 3 Bf (cur.flatMap P6) sg/\cur.length=l.length/\i=(Jj (l.take j) b).length/\cur.take i=Jj (l.take j) b/\cur.drop j=l.drop j) (l.length-(i0+1))
   ⟨i0,i0+1,l,seg,by omega,by omega,by omega,rfl,NH _,own,rfl,by rw[bT,NW];omega,by rw[bT],rfl⟩ ?_
  clear bT mG own;rintro k z L' ⟨i,j,cur,sg,nT,hj,rfl,rfl,hp,own,cI,iF,cF,fY⟩;dsimp only;have h0:Sl L' v 3 (cur.flatMap P6):=own.sl.mono fun x hx=>hp.symm.subset (by simp[hx]);refine D6 (fun(hO:(j:Int)<v.len)=>?_) (fun(aM: ¬(j:Int)<v.len)=>?_)
  ·have jI:j<cur.length:=by omega
   have pN:j<l.length:=by omega
   have zZ:cur[j]=l[j]:=by
    have a1:=OZ jI;have a2:=OZ pN;rw[fY,a2]at a1;injection a1 with b1 b2;exact b1.symm
   have nE:cur.drop (j+1)=l.drop (j+1):=by
    rw[<-QB,fY,QB]
   have bT:=Ac1 (l.take j) b l[j];rw[<-OB pN]at bT;refine Bd W0 (by decide) h0 (n:=j) rfl jI fun a ha=>?_;rw[zZ]at ha;refine B5 (sh:=Z1) l[j] ha (Fe (by kernel_rfl) (C4 (MJ _ l[j] n1 m b (l1 hp) (l2 hp)) (decide (l[j].1=b),()) rfl ?_));refine D6 (fun(he:l[j].1=b)=>?_) (fun(he: ¬l[j].1=b)=>?_)
   ·rw[NE he,NP]at bT;exact H3 (by omega) ⟨l.length-(j+1),by omega,i,j+1,cur,sg,by omega,by omega,rfl,rfl,hp,own,cI,by rw[bT];exact iF,by rw[bT];exact cF,nE⟩
   ·rw[ND he]at bT;obtain⟨a2,dZ,hla2⟩:=h0.el W0 (by decide) (show i<cur.length by omega);refine B7 dZ (H7 (show(0:Int)<=(i:Int) by omega) (show(i:Int)<v.len by omega) ?_);rw[NK];refine Vt W0 (by decide) own dZ (show i<cur.length by omega) l[j] hp fun sg' L2 hY own2=>?_;refine H3 (by omega) (H3 (by omega) ⟨l.length-(j+1),by omega,i+1,j+1,cur.set i l[j],sg',by omega,by omega,rfl,rfl,hY,own2,by rw[RQ];exact cI,?_,?_,?_⟩)
    ·rw[bT,NR,<-iF];rfl
    ·rw[bT,<-cF,OB (by rw[RQ];omega),YW (by omega),YX]
    ·rw[YY (by omega)];exact nE
  ·obtain rfl:j=l.length:=by omega
   rw[OE]at iF cF;have own':=own.slc (l:=0) (h:=i) (by omega) (by omega);rw[Yf W0,RY,QK,cF]at own';refine Q2 (l':=i) (h':=v.len) (m':=v.cap) rfl rfl rfl (by omega) aY (NF _) ?_;refine Y3.permL hp (Vb Qx rfl [] Y own' (by simp) (h:=v.len) (by simp only[G7,NK];omega) (by simp only[G7,NK];omega) (Bf0 v i v.len) fun seg2 own2=>?_);refine Q2 (l':=0) (h':=i) (m':=v.cap) rfl rfl rfl (by omega) (by omega) (NF _) (.of ⟨_,seg2,rfl,by simp,own2⟩)
def Bi1(v:B6)(l:List It)(seg:B1)(own:C5 v 3 Bf (l.flatMap P6) seg)(hb:l.length<=1000000000)(k:Nat)(hk:k<=l.length)(h0:0<k):
  CallF PP 60 #[.slice v.a v.len v.cap,.i 0,.i k] seg fun r L'=> ∃s,r= .slice s.a s.len s.cap/\C5 s 3 Bf ((l.drop k).flatMap P6) L':=by
 refine(c60 v 0 k).c ?_;have hC:=own.sl.els_len W0 (by decide);have aY:=own.cap;refine Q2 (l':=0) (h':=k) (m':=v.len) rfl rfl rfl (by omega) (by omega) aY ?_;refine Bp (show¬((0:Int)=(k:Int)) by omega) ?_;refine Q2 (l':=0) (h':=0) (m':=v.cap) rfl rfl rfl (by omega) (by omega) (NF _) ?_;refine Q2 (l':=k) (h':=v.len) (m':=v.cap) rfl rfl rfl (by omega) aY (NF _) ?_;have own2:=own.slc (l:=0) (h:=0) (by omega) (by omega);have src2:=Sl.slc (m:=v.cap) own.sl (by omega) (l:=k) (h':=v.len) (by omega) (NF _) aY;rw[Yf W0]at own2 src2;refine Zk Qx Vw [] [] own2 (by simp) (.sl src2) (Ah7 _) (by simp only[G7,NK];omega) fun s seg' hs _ iJ own'=>?_;rw[<-OD]at own';have e1:(l.drop 0).take (0-0)++(l.drop k).take (v.len-k)=l.drop k:=by
  rw[hC];simp only[QK,VR,NT];exact PZ (by rw[OJ];omega)
 rw[e1]at own';simp only[G7,NK]at hs iJ;have dO:=own'.cap;refine Q2 (l':=s.len) (h':=v.len) (m':=s.cap) rfl rfl rfl (by omega) (by omega) (NF _) ?_;refine Vb Qx rfl [] [] own' (by simp) (h:=v.len) (by omega) (by omega) rfl fun seg2 own2=>?_;exact .of ⟨s,rfl,by simpa using own2⟩
def Bs9{n:Nat}{e:TypeId}:C5 ⟨some n.z,0,0⟩ 3 e [] [(n,Obj.cells #[] e)]:=⟨rfl,NF _,.inr ⟨n,0,#[],(0,0),rfl,rfl,by simp,.inl (NF _),fun i u hu=>by simp at hu⟩⟩
def Bi3(A:B1)(v:B6)(l:List It)(h:Sl A v 3 (l.flatMap P6))(hb:l.length<=1000000000):
  CallF PP 82 #[.slice v.a v.len v.cap] A fun r L'=> ∃(s:B6) (seg:B1),r= .slice s.a s.len s.cap/\L'=seg++A/\C5 s 3 Bf (l.flatMap P6) seg:=by
 refine(c82 v).c ?_;have hC:=h.els_len W0 (by decide);cases ha:v.a with
 |none=>
  have:l=[]:=by
   cases l with
   |nil=>rfl
   |cons x r=>
    obtain⟨a,dZ,_⟩:=h.el W0 (by decide) (i:=0) (by simp);rw[ha]at dZ;cases dZ
  rw[this];exact E9 rfl (.of ⟨⟨none,0,0⟩,[],rfl,rfl,O5⟩)
 |some a=>
  refine D8 rfl (C9 fun n1 _=>?_);refine Cs6 Qx Vw (Bs9 (n:=n1) (e:=100)) (Y:=A) (n:=v.len) (ws:=l.flatMap P6) (NH _) ?_ (Ah7 _) ?_ fun v5 sg5 dp o5=>?_
  ·rw[<-ha];exact .sl (h.mono fun x hx=>NN _ hx)
  ·rw[hC,show({a:=some n1.z,len:=0,cap:=0}:B6).len=0 from rfl];omega
  ·exact .of ⟨v5,sg5,rfl,rfl,by simpa using o5⟩
theorem DY(b ep beside:Int): ∀(l:List It) (x:It) (s:B0),(B0.moves b ep beside l s).2=0->B0.moves b ep beside (l++[x]) s=(if x.1≠2 then((B0.moves b ep beside l s).1,0)else(B0.moves b ep beside l s).1.move (b,x.2.1,ep,()) x.2.2.1 beside)
 |[],x,s,_=>by
  show B0.moves b ep beside [x] s=_;unfold B0.moves;split
  ·rfl
  ·dsimp only[B0.moves];split
   ·rfl
   ·rename_i h;have h:(s.move (b,x.2.1,ep,()) x.2.2.1 beside).2=0:=by simpa using h
    exact Prod.ext rfl h.symm
 |y::r,x,s,h=>by
  rw[OM];unfold B0.moves at h⊢;split
  ·rename_i hy;rw[NE hy]at h;exact DY b ep beside r x s h
  ·rename_i hy;rw[ND hy]at h;dsimp only at h⊢;split
   ·rename_i h0;rw[NE h0]at h;exact absurd h h0
   ·rename_i h0;rw[ND h0]at h;exact DY b ep beside r x _ h
theorem DV(b ep beside:Int): ∀(l r:List It) (s:B0),(B0.moves b ep beside l s).2≠0->B0.moves b ep beside (l++r) s=B0.moves b ep beside l s
 |[],r,s,h=>absurd rfl h
 |y::t,r,s,h=>by
  rw[OM];unfold B0.moves at h⊢;split
  ·rename_i hy;rw[NE hy]at h;exact DV b ep beside t r s h
  ·rename_i hy;rw[ND hy]at h;dsimp only at h⊢;split
   ·rfl
   ·rename_i h0;rw[ND h0]at h;exact DV b ep beside t r _ h
def JT(p:SP)(s:B0)(g:SG)(X:SX p s g)(h:B9 s M)(hM:M<=1000000000)(hd:s.down=false)(R:B1)(hT:Tab R)(x:RN)(t:List RN)(cN:g.ns=x::t)(beside:Int)(nX:0<=beside/\beside<=1000):
  CallF PP 155 #[.p p.n,.q x.ptr,.i beside] (SL p s g++R) (SK p (s.reclaim x.r beside) R):=by
 refine(c155 (some p.n.z) x.ptr beside).c ?_;refine C9 fun n1 _=>?_;obtain⟨c1,fQ⟩: ∃c1:Nat×Obj,c1=(n1,Obj.cells #[.q x.ptr] 79):=⟨_,rfl⟩;rw[<-fQ];have l1: ∀{L:B1},c1∈L->C0 n1.z [.p x.id] L:=fun hm=>C2 (by rw[fQ]at hm;exact hm) rfl;have aA:x∈g.all:=by unfold SG.all;rw[cN];simp
 have xo: ∀{g':SG} {s':B0} {L R':B1},g'.ns=g.ns->L.Perm (SL p s' g'++R')-> ∀y∈x.objs,y∈L:=fun hn hp=>SL.rn hp (by unfold SG.all;rw[hn,cN];simp);have bJ:(c1::(SL p s g++R)).Perm (SL p s g++(c1::R)):=pc fun z=>by simp only[C3,D0];omega
 have qY:x.o∈c1::(SL p s g++R):=xo rfl bJ _ (by unfold RN.objs;exact NG);refine B5 (some x.id.z) (l1 NG) (B7 (a:=x.id.z) rfl (B5 x.v (C2 (n:=x.id) (off:=3) qY rfl) ?_));have aC:=X.ok x aA;have bY:=aC.sl.els_len W0 (by decide);have wQ:x.r∈s.rs:=by rw[<-X.rs,cN];simp
 have jR:=h.it x.r (.inl wQ);have dq:=jR.1;refine G1 (fun z' z L'=> ∃(i:Nat) (g':SG) (J:B1),i<=x.r.l.length/\z'=x.r.l.length-i/\z=((i:Int),())/\(B0.moves x.r.b x.r.ep beside (x.r.l.take i) s).2=0/\SX p (B0.moves x.r.b x.r.ep beside (x.r.l.take i) s).1 g'/\g'.ns=g.ns/\L'.Perm (SL p (B0.moves x.r.b x.r.ep beside (x.r.l.take i) s).1 g'++(c1::(J++R)))) x.r.l.length
  ⟨0,g,[],by omega,by omega,rfl,rfl,X,rfl,bJ⟩ ?_
 rintro z' z L1 ⟨i,g',J,hi,rfl,rfl,h0,X',qX,aH⟩;dsimp only;have nM:Tab (c1::(J++R)):=hT.mono fun y hy=>by simp[hy]
 have vV:c1∈L1:=aH.symm.subset (by simp);have jP:=xo qX aH;have da:x.o∈L1:=jP _ (by unfold RN.objs;exact NG);obtain⟨k1,k2,mv⟩:=B9.moves (b:=x.r.b) (ep:=x.r.ep) (beside:=beside) (x.r.l.take i) h hd;have fb: ∀{L:B1},x.o∈L->C0 x.id.z [.i x.r.b] L:=fun hm=>C2 hm rfl;have fe: ∀{L:B1},x.o∈L->C0 ⟨x.id,1,none⟩ [.i x.r.ep] L:=fun hm=>C2 hm rfl;refine D6 (fun(hO:(i:Int)<x.v.len)=>?_) (fun(aM: ¬(i:Int)<x.v.len)=>?_)
 ·have hJ:i<x.r.l.length:=by omega
  have dt:=jR.2 _ (NO hJ);have aF:=DY x.r.b x.r.ep beside (x.r.l.take i) x.r.l[i] s h0;have aO: ∀r:List It,(B0.moves x.r.b x.r.ep beside (x.r.l.take (i+1)) s).2≠0->B0.moves x.r.b x.r.ep beside x.r.l s=B0.moves x.r.b x.r.ep beside (x.r.l.take (i+1)) s:=fun _ he=>by
   conv=>lhs;rw[<-PR (i+1) x.r.l]
   exact DV x.r.b x.r.ep beside _ _ s he
  rw[OB hJ]at aO;obtain⟨w,hw⟩: ∃w,w=B0.moves x.r.b x.r.ep beside (x.r.l.take i) s:=⟨_,rfl⟩;rw[<-hw]at X' aH k1 aF k2 mv h0;refine Bd W0 (by decide) (aC.sl.mono fun y hy=>jP y (by unfold RN.objs;simp[hy])) (n:=i) rfl hJ fun a ha=>?_;obtain⟨y,hy⟩: ∃y,y=x.r.l[i]:=⟨_,rfl⟩;rw[<-hy]at ha dt aF aO;refine B5 (sh:=Z1) y ha ?_;refine D6 (fun(hk:y.1=2)=>?_) (fun(hk: ¬y.1=2)=>?_)
  ·rw[ND (by simpa using hk)]at aF;refine B5 (some x.id.z) (l1 vV) (B7 rfl (B5 x.r.b (fb da) (B5 (some x.id.z) (l1 vV) (B7 rfl (B5 x.r.ep (fe da) ?_)))));refine Ap (Be6 p w.1 g' X' k1 (c1::(J++R)) nM (x.r.b,y.2.1,x.r.ep,()) (Kd (by show-9223372036854775808<=y.2.1/\y.2.1<=9223372036854775807;omega)) y dt.2 beside nX) aH ?_;rintro _ _ ⟨g2,rfl,X2,iQ,rfl⟩;refine⟨((w.1.move (x.r.b,y.2.1,x.r.ep,()) y.2.2.1 beside).2,()),rfl,?_⟩;refine D6 (fun(h1:(w.1.move (x.r.b,y.2.1,x.r.ep,()) y.2.2.1 beside).2=0)=>?_) (fun(h1: ¬(w.1.move (x.r.b,y.2.1,x.r.ep,()) y.2.2.1 beside).2=0)=>?_)
   ·refine H3 (by omega) ⟨x.r.l.length-(i+1),by omega,i+1,g2,J,by omega,rfl,rfl,?_,?_,iQ.trans qX,?_⟩
    ·rw[OB hJ,<-hy,aF];exact h1
    ·rw[OB hJ,<-hy,aF];exact X2
    ·rw[OB hJ,<-hy,aF]
   ·have aA:=aO [] (by rw[aF];exact h1);rw[aF]at aA;have yL:s.reclaim x.r beside=w.1.move (x.r.b,y.2.1,x.r.ep,()) y.2.2.1 beside:=by
     unfold B0.reclaim;dsimp only;rw[aA,NE h1]
    rw[yL];exact .drop (A:=SL p _ g2++R) (J:=c1::J) ⟨g2,rfl,X2,rfl⟩ (pc fun z=>by simp only[C3,D0];omega)
  ·rw[NE (by simpa using hk)]at aF;refine H3 (by omega) ⟨x.r.l.length-(i+1),by omega,i+1,g',J,by omega,rfl,rfl,?_,?_,qX,?_⟩
   ·rw[OB hJ,<-hy,aF]
   ·rw[OB hJ,<-hy,aF];exact X'
   ·rw[OB hJ,<-hy,aF];exact aH
 ·obtain rfl:i=x.r.l.length:=by omega
  rw[OE]at h0 X' aH k1 k2 mv;obtain⟨w,hw⟩: ∃w,w=B0.moves x.r.b x.r.ep beside x.r.l s:=⟨_,rfl⟩;have yL:s.reclaim x.r beside=B0.erase {w.1 with pend:=w.1.pend.filter fun p=> !decide (p.1=x.r.b)} x.r.b:=by
   unfold B0.reclaim;dsimp only;rw[<-hw,ND];rw[hw];simpa using h0
  rw[<-hw]at X' aH k1 k2 mv h0;rw[yL];refine B7 rfl (B5 g'.pv (H4 (SL.st aH) rfl) ?_);refine Ap (Bh9 g'.pv w.1.pend g'.pseg (F5 p w.1 g'::(kO p w.1::(mO p g'::(gO p g'::(g'.Ad++(g'.Ab++(D1 g'.ns++(D1 g'.on.toList++(g'.Aq++(g'.Ai++(c1::(J++R)))))))))))) X'.pd (OK k1.pl hM) n1 x.id x.r.b (l1 (by simp)) (fb (by
    have:x.o∈D1 g'.ns:=OY.2 ⟨x,by rw[qX,cN];simp,by unfold RN.objs;exact NG⟩;simp[this]))) (pc fun z=>by have:=E8 aH z;simp only[SL,C3,D0,E5]at*;omega) ?_
  rintro _ _ ⟨s1,seg1,rfl,rfl,own1⟩;refine⟨(s1,()),rfl,?_⟩;obtain⟨s2,aP⟩: ∃s2:B0,s2={w.1 with pend:=w.1.pend.filter fun p=> !decide (p.1=x.r.b)}:=⟨_,rfl⟩;obtain⟨g2,jJ⟩: ∃g2:SG,g2={g' with pv:=s1,pseg:=seg1}:=⟨_,rfl⟩;rw[<-aP];refine Mw (s:=w.1) (g:=g') (k:=17) s2 g2 (Y:=seg1++(kO p w.1::(mO p g'::(gO p g'::(g'.Ad++(g'.Ab++(D1 g'.ns++(D1 g'.on.toList++(g'.Aq++(g'.Ai++(c1::(J++R)))))))))))) (pc fun z=>by simp only[C3,D0,E5];omega) (by decide) (by rw[aP,jJ];rfl) fun L2 hY=>?_;have hY:L2.Perm (SL p s2 g2++(c1::(J++R))):=pc fun z=>by
   have:=E8 hY z;have e1:kO p s2=kO p w.1:=by rw[aP];rfl
   have e2:mO p g2=mO p g':=by rw[jJ];rfl
   have e3:gO p g2=gO p g':=by rw[jJ];rfl
   have e4:g2.pseg=seg1/\g2.Ad=g'.Ad/\g2.Ab=g'.Ab/\g2.ns=g'.ns/\g2.on=g'.on/\g2.Aq=g'.Aq/\g2.Ai=g'.Ai:=by rw[jJ];exact⟨rfl,rfl,rfl,rfl,rfl,rfl,rfl⟩
   simp only[SL,e1,e2,e3,e4.1,e4.2.1,e4.2.2.1,e4.2.2.2.1,e4.2.2.2.2.1,e4.2.2.2.2.2.1,e4.2.2.2.2.2.2,C3,D0,E5]at*;omega
  have X2:SX p s2 g2:=by rw[aP,jJ];exact{X' with cfg:=X'.cfg,dev:=X'.dev,blk:=X'.blk,pd:=own1}
  have iQ:g2.ns=g.ns:=by rw[jJ];exact qX
  have zB:x.o∈L2:=xo iQ hY _ (by unfold RN.objs;exact NG);refine B5 (some x.id.z) (l1 (hY.symm.subset (by simp))) (B7 rfl (B5 x.r.b (fb zB) ?_));have eA:B9 s2 M:=by rw[aP];exact k1.cutp x.r.b
  have iX:s2.us=s.us:=by rw[aP];exact mv.us
  have kI: ∀o,s2.op=some o->o.b≠x.r.b:=fun o ho e=>by
   have h3:s2.op.map E2.b=s.op.map E2.b:=by rw[aP];exact mv.ob
   rw[ho]at h3;have aZ:=h.use.1;unfold B0.us at aZ;rw[<-h3,<-X.rs,cN]at aZ;simp[e]at aZ
  refine H0 (KR p s2 g2 X2 eA.dv (fun y hy=>by have:=eA.sw y hy;omega) eA.use.1 x.r.b kI (fun hb=>by
   have:x.r.b∈s2.us:=by rw[iX];unfold B0.us;exact OA _ (OQ wQ)
   have:=eA.use.2 _ this;rw[this]at hb;cases hb)) hY ?_
  rintro _ _ ⟨g3,wK,X3,rfl⟩;rw[NP]at wK;rw[wK];exact⟨_,NH _,((s2.erase x.r.b).2,()),rfl,.drop (A:=SL p (s2.erase x.r.b).1 g3++R) (J:=c1::J) ⟨g3,rfl,X3,rfl⟩ (pc fun z=>by simp only[C3,D0];omega)⟩
def Ak4(n:Int)(k:Nat)(s:B0):B0.frees n (k+1) s=if s.free=0 then(match s.rs with
 |[]=>(s,0)
 |h::_=>if(s.reclaim h n).2≠0 then s.reclaim h n else B0.frees n k (s.reclaim h n).1)else(s,0):=rfl
def IF(s:B0):s.us.length=s.rs.length+(if s.op.isSome=true then 1 else 0):=by
 unfold B0.us;rw[NR,NL];cases s.op<;>rfl
def Cr8{b:Int}(hb:0<=b)(hl:b.toNat<d.bs.length):Kz d b=(match d.bs[b.toNat]? with|some k=>k.bad|none=>false):=by
 unfold Kz E7;rw[NE (by omega)];cases d.bs[b.toNat]?<;>rfl
def Bf9(p:SP)(s:B0)(g:SG)(X:SX p s g)(h:B9 s M)(hM:M<=1000000000)(hd:s.down=false)(R:B1)(hT:Tab R)(n:Int)(hn:0<=n/\n<=1000){J:B1}(hp:L.Perm (SL p s g++(J++R))){K:Value->HP}(hK: ∀v L',HL.Ends (SK p (B0.frees n (s.rs.length+1) s) R) v L'->K v L'):
  lp [] () (fun z1 go1=>ld ⟨p.n,12,none⟩ (.lf .ptr) fun v6=>cl PP 153 #[.q v6] [lI] fun r10=>B3 (decide ((r10.1:Int)=0)) (
   cl PP 154 #[.q (some ⟨p.n,11,none⟩)] [.lf .ptr] fun r11=>B3 (Option.isNone r11.1) (K (.i 0)) (
    cl PP 155 #[.p p.n,.q r11.1,.i n] [lI] fun r12=>B3 (decide ((r12.1:Int)=0)) (go1 ()) (K (.i r12.1)))) (K (.i 0))) L:=by
 refine G1 (fun z' z L'=> ∃(cur:B0) (g':SG) (J:B1),z'=cur.rs.length/\B9 cur M/\cur.down=false/\SX p cur g'/\B0.frees n (s.rs.length+1) s=B0.frees n (cur.rs.length+1) cur/\L'.Perm (SL p cur g'++(J++R))) s.rs.length ⟨s,g,J,rfl,h,hd,X,rfl,hp⟩ ?_;rintro z' z L1 ⟨cur,g',J,rfl,hc,lN,X',nB,aH⟩;dsimp only;rw[nB]at hK;have fin: ∀{L2:B1} {J2:B1},L2.Perm (SL p cur g'++(J2++R))->B0.frees n (cur.rs.length+1) cur=(cur,0)->K (.i 0) L2:=fun{L2 J2} hY he=>by
  refine hK _ _ ?_;rw[he];exact .drop (A:=SL p cur g'++R) (J:=J2) ⟨g',rfl,X',rfl⟩ (pc fun z=>by have:=E8 hY z;simp only[C3]at*;omega)
 rw[Ak4]at fin hK;refine B5 (some p.nb.z) (H4 (SL.st aH) rfl) ?_;refine C4 (Reads.has (SL.b aH) (Au7 p.nb cur.ss cur.us g'.Ab X'.blk)) (cur.free,()) rfl ?_;refine D6 (fun(h0:cur.free=0)=>?_) (fun(h0: ¬cur.free=0)=>fin aH (by rw[ND h0]));rw[NE h0]at fin hK;refine C4 (KD aH X' hc.use.1) ((match g'.ns with|[]=>none|x::_=>x.ptr),()) rfl ?_;have cK:=X'.rs;cases cN:g'.ns with
 |nil=>
  rw[cN]at cK;exact E9 rfl (fin aH (by rw[<-cK];rfl))
 |cons x t=>
  rw[cN]at cK;refine D8 rfl ?_;have rX:Tab (J++R):=hT.mono fun y hy=>by simp[hy]
  refine Ap (JT p cur g' X' hc hM lN (J++R) rX x t cN n hn) aH ?_;rintro _ _ ⟨g2,rfl,X2,rfl⟩;refine⟨((cur.reclaim x.r n).2,()),rfl,?_⟩;have kD:cur.rs=x.r::t.map RN.r:=cK.symm;obtain⟨k1,k2,k3⟩:=hc.reclaim lN kD n;rw[kD]at hK;dsimp only at hK;refine D6 (fun(h1:(cur.reclaim x.r n).2=0)=>?_) (fun(h1: ¬(cur.reclaim x.r n).2=0)=>?_)
  ·obtain⟨a1,a2,a3,a4,a5⟩:=k2 h1;rw[IF,IF,a5]at a2;have hl:(cur.reclaim x.r n).1.rs.length+1=cur.rs.length:=by omega
   refine⟨(cur.reclaim x.r n).1.rs.length,by omega,_,g2,J,rfl,k1,a1,X2,?_,NH _⟩;rw[nB,Ak4,NE h0,kD];dsimp only;rw[ND (by simpa using h1),<-kD,hl]
  ·rw[NE (by simpa using h1)]at hK;exact hK _ _ (.drop (A:=SL p (cur.reclaim x.r n).1 g2++R) (J:=J) ⟨g2,rfl,X2,rfl⟩ (pc fun z=>by simp only[C3];omega))
def Be7(p:SP)(s:B0)(g:SG)(X:SX p s g)(h:B9 s M)(hM:M<=1000000000)(hd:s.down=false)(R:B1)(hT:Tab R)(n:Int)(hn:0<=n/\n<=1000):
  CallF PP 108 #[.p p.n,.i n] (SL p s g++R) (SK p (s.more n) R):=by
 refine(c108 (some p.n.z) n).c ?_;have hS:=h.S;have bJ:(SL p s g++R).Perm (SL p s g++R):=NH _;refine V9 (fun(y:D2 [lI]) L'=>y=(s.sealN,())/\L'=SL p s g++R) ?_ ?_
 ·rintro _ _ ⟨rfl,rfl⟩;dsimp only;refine B7 rfl (C9 fun n1 _=>?_);obtain⟨c1,fQ⟩: ∃c1:Nat×Obj,c1=(n1,Obj.cells #[.i n,.i 1,.i s.sealN] 3):=⟨_,rfl⟩;rw[<-fQ];have aH:(c1::(SL p s g++R)).Perm (SL p s g++(c1::R)):=pc fun z=>by simp only[C3,D0];omega
  have bT:0<=s.sealN/\s.sealN<=1:=by unfold B0.sealN;split<;>decide
  have jP:(n1,Obj.cells (O6 .i64 [n,1,s.sealN]).toArray 3)∈c1::(SL p s g++R):=by rw[fQ];exact NG
  have kC: ∀y∈[n,1,s.sealN],0<=y/\y<=(1000000:Nat):=fun y hy=>by
   simp at hy;rcases hy with rfl|rfl|rfl<;>omega
  have aP:[n,1,s.sealN].sum=n+1+s.sealN:=by simp;omega
  refine C4 (CR aH X hS.2 ⟨some n1.z,3,3⟩ [n,1,s.sealN] (R4.const (l:=[n,1,s.sealN]) 3 (by simp) jP) (by simp) kC) (s.pays (n+1+s.sealN),()) (by rw[aP];rfl) ?_;have aS:s.more n=(if s.pays (n+1+s.sealN)=false then(s,13)else if s.epoch≥1073741824 then(s,7)else if s.free=0 then(match s.rs with
    |[]=>(s,7)
    |h::_=>s.reclaim h n)else if s.seals.2≠0 then s.seals else
   if(if(G5 s.seals.1.ss s.seals.1.us).2.1.dirty then s.seals.1.erase (G5 s.seals.1.ss s.seals.1.us).2.2 else(s.seals.1,0)).2≠0 then(if(G5 s.seals.1.ss s.seals.1.us).2.1.dirty then s.seals.1.erase (G5 s.seals.1.ss s.seals.1.us).2.2 else(s.seals.1,0))else
   if(G5 s.seals.1.ss s.seals.1.us).2.1.dirty=true/\(if(G5 s.seals.1.ss s.seals.1.us).2.1.dirty then s.seals.1.erase (G5 s.seals.1.ss s.seals.1.us).2.2 else(s.seals.1,0)).1.badAt (G5 s.seals.1.ss s.seals.1.us).2.2=true then((if(G5 s.seals.1.ss s.seals.1.us).2.1.dirty then s.seals.1.erase (G5 s.seals.1.ss s.seals.1.us).2.2 else(s.seals.1,0)).1,0)else
   if((if(G5 s.seals.1.ss s.seals.1.us).2.1.dirty then s.seals.1.erase (G5 s.seals.1.ss s.seals.1.us).2.2 else(s.seals.1,0)).1.begins (G5 s.seals.1.ss s.seals.1.us).2.2).2≠0 then(if(G5 s.seals.1.ss s.seals.1.us).2.1.dirty then s.seals.1.erase (G5 s.seals.1.ss s.seals.1.us).2.2 else(s.seals.1,0)).1.begins (G5 s.seals.1.ss s.seals.1.us).2.2 else
   B0.frees n (((if(G5 s.seals.1.ss s.seals.1.us).2.1.dirty then s.seals.1.erase (G5 s.seals.1.ss s.seals.1.us).2.2 else(s.seals.1,0)).1.begins (G5 s.seals.1.ss s.seals.1.us).2.2).1.rs.length+1) ((if(G5 s.seals.1.ss s.seals.1.us).2.1.dirty then s.seals.1.erase (G5 s.seals.1.ss s.seals.1.us).2.2 else(s.seals.1,0)).1.begins (G5 s.seals.1.ss s.seals.1.us).2.2).1):=rfl
  obtain⟨L1,gA⟩: ∃L1,L1=c1::(SL p s g++R):=⟨_,rfl⟩;rw[<-gA]at aH⊢;have fin: ∀(e:Int),s.more n=(s,e)->HL.Ends (SK p (s.more n) R) (.i e) L1:=fun e he=>by
   rw[he];exact .drop (A:=SL p s g++R) (J:=[c1]) ⟨g,rfl,X,rfl⟩ (pc fun z=>by have:=E8 aH z;simp only[C3,D0,E5]at*;omega)
  refine M0 (fun oF=>?_) (fun oF=>fin 13 (by rw[aS,NE oF]));rw[ND (by rw[show s.pays (n+1+s.sealN)=true from oF];decide)]at aS;refine B5 s.epoch (H4 (SL.st aH) rfl) ?_;refine D6 (fun(bS:s.epoch≥1073741824)=>fin 7 (by rw[aS,NE bS])) (fun(bS: ¬s.epoch≥1073741824)=>?_);rw[ND bS]at aS;refine B5 (some p.nb.z) (H4 (SL.st aH) rfl) ?_;refine C4 (Reads.has (SL.b aH) (Au7 p.nb s.ss s.us g.Ab X.blk)) (s.free,()) rfl ?_;have rX:Tab (c1::R):=hT.cons;refine D6 (fun(h0:s.free=0)=>?_) (fun(h0: ¬s.free=0)=>?_)
  ·rw[NE h0]at aS;refine C4 (KD aH X h.use.1) ((match g.ns with|[]=>none|x::_=>x.ptr),()) rfl ?_;have cK:=X.rs;cases cN:g.ns with
   |nil=>
    rw[cN]at cK;exact E9 rfl (fin 7 (by rw[aS,<-cK];rfl))
   |cons x t=>
    rw[cN]at cK;refine D8 rfl ?_;have kD:s.rs=x.r::t.map RN.r:=cK.symm;rw[kD]at aS;dsimp only at aS;refine Ap (JT p s g X h hM hd (c1::R) rX x t cN n hn) aH ?_;rintro _ _ ⟨g2,rfl,X2,rfl⟩;rw[aS];exact⟨((s.reclaim x.r n).2,()),rfl,.drop (A:=SL p (s.reclaim x.r n).1 g2++R) (J:=[c1]) ⟨g2,rfl,X2,rfl⟩ (pc fun z=>by simp only[C3,D0,E5];omega)⟩
  ·rw[ND h0]at aS;obtain⟨s1,s2,s3,s4,s5,s6,s7⟩:=h.seals hd;refine H0 (Bd3 p s g X hS.2 h.bk (h.dg 1 (by decide)) (fun o ho=>by have:=(h.it o (.inr ho)).1;omega)) aH ?_;rintro _ _ ⟨g2,nY,X2,rfl⟩;rw[NP]at nY;rw[nY];refine⟨_,NH _,(s.seals.2,()),rfl,?_⟩;dsimp only;generalize s.seals=w at s1 s2 s3 s4 s5 s6 s7 X2 aS;have hY:(SL p w.1 g2++c1::R).Perm (SL p w.1 g2++c1::R):=NH _;refine D6 (fun(h1:w.2=0)=>?_) (fun(h1: ¬w.2=0)=>?_)
   ·rw[ND (by simpa using h1)]at aS;have cD:w.1.free≠0:=by
     unfold B0.free at h0⊢;rw[s5,s4];exact h0
    obtain⟨z,hz,z1,z2,z3,z4,z5,z6⟩:=s1.picks (s2 h1) s3 cD;have cj:=Ta cD;rw[<-hz]at aS;refine B5 (some p.nb.z) (H4 (SL.st hY) rfl) ?_;refine C4 (Reads.has (SL.b hY) (Cp9 p.nb w.1.ss w.1.us g2.Ab X2.blk)) ((G5 w.1.ss w.1.us).2.2,(G5 w.1.ss w.1.us).2.1.dirty,(G5 w.1.ss w.1.us).1,()) rfl ?_;dsimp only;generalize G5 w.1.ss w.1.us=pk at hz z6 aS cj;obtain⟨q1,q2⟩:=Di cj.1;obtain⟨q3,q4,q5⟩:=El q1;refine V9 (fun _ L'=>z.2=0/\ ¬(pk.2.1.dirty=true/\z.1.badAt pk.2.2=true)/\ ∃g3,SX p z.1 g3/\L'.Perm (SL p z.1 g3++(c1::R))) ?_ ?_
    ·rintro _ L3 ⟨dT,wY,g3,X3,aW⟩;obtain⟨y1,y2,y3,y4,y5⟩:=z6 dT;obtain⟨f1,f2⟩:=y5 wY;rw[ND (by simpa using dT),ND wY]at aS;have kR:z.1.epoch<1073741824:=by rw[z4,s6];omega
     obtain⟨b1,b2⟩:=z1.begins y1 z2 kR f1;refine H0 (Bi8 p z.1 g3 X3 z1.S.2 z1.bk (z1.dg 1 (by decide)) z2 z1.ep (by have:=z1.usl;omega) pk.2.2 f2 (Di f1).2) aW ?_;rintro _ _ ⟨g4,wJ,X4,rfl⟩;rw[NP]at wJ;rw[wJ];refine⟨_,NH _,((z.1.begins pk.2.2).2,()),rfl,?_⟩;dsimp only;generalize z.1.begins pk.2.2=y at b1 b2 X4 aS;refine D6 (fun(h2:y.2=0)=>?_) (fun(h2: ¬y.2=0)=>?_)
     ·rw[ND (by simpa using h2)]at aS;rw[aS];exact Bf9 p y.1 g4 X4 b1 hM (b2 h2).1 R hT n hn (J:=[c1]) (NH _) fun _ _ hk=>hk
     ·rw[NE (by simpa using h2)]at aS;rw[aS];exact .drop (A:=SL p y.1 g4++R) (J:=[c1]) ⟨g4,rfl,X4,rfl⟩ (pc fun z=>by simp only[C3,D0,E5];omega)
    ·intro j2 pO;refine M0 (fun(eD:pk.2.1.dirty=true)=>?_) (fun(eD:pk.2.1.dirty=false)=>?_)
     ·rw[NE eD]at hz;refine H0 (KR p w.1 g2 X2 s1.dv (fun y hy=>by have:=s1.sw y hy;omega) s1.use.1 pk.2.2 (fun o ho=>by rw[s3]at ho;cases ho) (fun hb=>by rw[q1]at hb;cases hb)) hY ?_;rw[<-hz];rintro _ _ ⟨g3,wK,X3,rfl⟩;rw[NP]at wK;rw[wK];refine⟨_,NH _,(z.2,()),rfl,?_⟩;have aW:(SL p z.1 g3++c1::R).Perm (SL p z.1 g3++c1::R):=NH _;dsimp only;refine D6 (fun(dT:z.2=0)=>?_) (fun(dT: ¬z.2=0)=>?_)
      ·refine B5 (some p.m.z) (H4 (SL.st aW) rfl) ?_;refine C4 (Reads.has (SL.d aW) (Av7 p.m z.1.d g3.Ad X3.dev z1.dv pk.2.2)) (Kz z.1.d pk.2.2,()) rfl ?_;have dI:pk.2.2.toNat<z.1.d.bs.length:=by
        have h1:=z1.dv.len;have h2:=s1.dv.len;have h3:=s1.ssl;have h4:z.1.d.c=w.1.d.c:=by rw[z1.cfg,s1.cfg,z5]
        rw[h4]at h1;omega
       have iU:Kz z.1.d pk.2.2=z.1.badAt pk.2.2:=Cr8 q3 dI;rw[iU];refine M0 (fun hb=>?_) (fun hb=>pO _ _ ⟨dT,fun hh=>by rw[show z.1.badAt pk.2.2=false from hb]at hh;exact absurd hh.2 (by decide),g3,X3,aW⟩);rw[ND (by simpa using dT),NE ⟨eD,hb⟩]at aS;rw[aS,dT];exact .drop (A:=SL p z.1 g3++R) (J:=[c1]) ⟨g3,rfl,X3,rfl⟩ (pc fun z=>by simp only[C3,D0,E5];omega)
      ·rw[NE (by simpa using dT)]at aS;rw[aS];exact .drop (A:=SL p z.1 g3++R) (J:=[c1]) ⟨g3,rfl,X3,rfl⟩ (pc fun z=>by simp only[C3,D0,E5];omega)
     ·rw[ND (by rw[eD];decide)]at hz;have nP:z.1=w.1:=by rw[hz]
      exact pO _ _ ⟨by rw[hz],fun hh=>by rw[eD]at hh;exact absurd hh.1 (by decide),g2,by rw[nP];exact X2,by rw[nP]⟩
   ·rw[NE (by simpa using h1)]at aS;rw[aS];exact .drop (A:=SL p w.1 g2++R) (J:=[c1]) ⟨g2,rfl,X2,rfl⟩ (pc fun z=>by simp only[C3,D0,E5];omega)
 ·intro j1 eP;refine B7 rfl (B5 (Ic g.on) (H4 (SL.st bJ) rfl) ?_);have bG:=X.op;cases jE:g.on with
  |none=>
   rw[jE]at bG;exact E9 rfl (eP _ _ ⟨by unfold B0.sealN;rw[<-bG];rfl,rfl⟩)
  |some x=>
   rw[jE]at bG;exact D8 rfl (eP _ _ ⟨by unfold B0.sealN;rw[<-bG];rfl,rfl⟩)
def JS(p:SP)(s:B0)(g:SG)(X:SX p s g)(h:B9 s M)(hM:M<=1000000000)(hd:s.down=false)(R:B1)(hT:Tab R)(n:Int)(hn:0<=n/\n<=1000):
  CallF PP 56 #[.p p.n,.i n] (SL p s g++R) (SK p (s.roomy n) R):=by
 refine(c56 (some p.n.z) n).c ?_;rw[Bk7 hn.1 h hd];refine G1 (fun z' z L'=> ∃(cur:B0) (g':SG) (J:B1),z'=cur.mu2/\B9 cur M/\cur.down=false/\SX p cur g'/\B0.room n (s.mu2+1) s=B0.room n (cur.mu2+1) cur/\L'.Perm (SL p cur g'++(J++R))) s.mu2 ⟨s,g,[],rfl,h,hd,X,rfl,NH _⟩ ?_;rintro z' z L1 ⟨cur,g',J,rfl,hc,lN,X',nB,aH⟩;dsimp only;rw[nB,Je];have hS:=hc.S;have aX: ∀y∈[n],0<=y/\y<=(1000000:Nat):=fun y hy=>by rw[NM.1 hy];omega
 have bM:[n].sum=n:=by simp
 refine B7 rfl (C9 fun n1 _=>?_);obtain⟨c1,fQ⟩: ∃c1:Nat×Obj,c1=(n1,Obj.cells #[.i n] 3):=⟨_,rfl⟩;rw[<-fQ];have hY:(c1::L1).Perm (SL p cur g'++((c1::J)++R)):=pc fun z=>by have:=E8 aH z;simp only[C3,D0]at*;omega
 have jP:(n1,Obj.cells (O6 .i64 [n]).toArray 3)∈c1::L1:=by rw[fQ];exact NG
 refine C4 (An0 hY X' (fun o ho=>by have:=hc.op o ho;omega) ⟨some n1.z,1,1⟩ [n] (R4.const (l:=[n]) 1 (by simp) jP) (by simp) aX) (cur.fits n,()) (by rw[bM];rfl) ?_;refine M0 (fun hf=>?_) (fun hf=>?_)
 ·rw[NE hf];refine C9 fun n2 _=>?_;obtain⟨c2,cY⟩: ∃c2:Nat×Obj,c2=(n2,Obj.cells #[.i n] 3):=⟨_,rfl⟩;rw[<-cY];have aW:(c2::(c1::L1)).Perm (SL p cur g'++((c2::(c1::J))++R)):=pc fun z=>by have:=E8 hY z;simp only[C3,D0]at*;omega
  have dJ:(n2,Obj.cells (O6 .i64 [n]).toArray 3)∈c2::(c1::L1):=by rw[cY];exact NG
  refine C4 (CR aW X' hS.2 ⟨some n2.z,1,1⟩ [n] (R4.const (l:=[n]) 1 (by simp) dJ) (by simp) aX) (cur.pays n,()) (by rw[bM];rfl) ?_;refine M0 (fun oF=>?_) (fun oF=>?_)
  ·rw[NE oF];exact .drop (A:=SL p cur g'++R) (J:=c2::(c1::J)) ⟨g',rfl,X',rfl⟩ (pc fun z=>by have:=E8 aW z;simp only[C3,D0]at*;omega)
  ·rw[ND (by rw[show cur.pays n=false from oF];decide)];exact .drop (A:=SL p cur g'++R) (J:=c2::(c1::J)) ⟨g',rfl,X',rfl⟩ (pc fun z=>by have:=E8 aW z;simp only[C3,D0]at*;omega)
 ·rw[ND (by rw[show cur.fits n=false from hf];decide)];have rX:Tab ((c1::J)++R):=hT.mono fun y hy=>by simp[hy]
  refine Ap (Be7 p cur g' X' hc hM lN ((c1::J)++R) rX n hn) hY ?_;rintro _ _ ⟨g2,rfl,X2,rfl⟩;refine⟨((cur.more n).2,()),rfl,?_⟩;obtain⟨k1,k2,k3⟩:=hc.more lN hn.1;refine D6 (fun(h0:(cur.more n).2=0)=>?_) (fun(h0: ¬(cur.more n).2=0)=>?_)
  ·obtain⟨a1,a2⟩:=k2 h0;refine⟨(cur.more n).1.mu2,a2,(cur.more n).1,g2,c1::J,rfl,k1,a1,X2,?_,NH _⟩;rw[ND (by simpa using h0)];exact MD hn.1 _ k1 a1 a2
  ·rw[NE (by simpa using h0)];exact .drop (A:=SL p (cur.more n).1 g2++R) (J:=c1::J) ⟨g2,rfl,X2,rfl⟩ (pc fun z=>by simp only[C3,D0];omega)
def LD(p:SP)(s:B0)(g:SG)(X:SX p s g)(h:B9 s M)(hM:M<=1000000000)(hd:s.down=false)(R:B1)(hT:Tab R)(key:ByteArray)(hk:key.size<=1000000)(u:B6)(val:List UInt8)(hu:G0 R u val):
  CallF PP 48 #[.p p.n,.w key,.slice u.a u.len u.cap] (SL p s g++R) (SK p (s.adm key val) R):=by
 refine(c48 (some p.n.z) key u).c ?_;have hS:=h.S;have hP:=h.P;have bJ:(SL p s g++R).Perm (SL p s g++R):=NH _;have dY:s.adm key val=(if(F8 key.data.toList val (H2 s.sc.c)).2≠0 then(s,(F8 key.data.toList val (H2 s.sc.c)).2)else
  if(s.roomy (F8 key.data.toList val (H2 s.sc.c)).1.length).2≠0 then s.roomy (F8 key.data.toList val (H2 s.sc.c)).1.length else
  if((s.roomy (F8 key.data.toList val (H2 s.sc.c)).1.length).1.write 2 (F8 key.data.toList val (H2 s.sc.c)).1).2.2=0 then(((s.roomy (F8 key.data.toList val (H2 s.sc.c)).1.length).1.write 2 (F8 key.data.toList val (H2 s.sc.c)).1).1.list key ((s.roomy (F8 key.data.toList val (H2 s.sc.c)).1.length).1.write 2 (F8 key.data.toList val (H2 s.sc.c)).1).2.1,0)
  else(((s.roomy (F8 key.data.toList val (H2 s.sc.c)).1.length).1.write 2 (F8 key.data.toList val (H2 s.sc.c)).1).1,((s.roomy (F8 key.data.toList val (H2 s.sc.c)).1.length).1.write 2 (F8 key.data.toList val (H2 s.sc.c)).1).2.2)):=rfl
 refine B7 rfl (B5 (sh:=Z4) ((s.sc.c.B:Int),(s.sc.c.P:Int),(s.sc.c.S:Int),(s.sc.c.W:Int),()) (Vu (SL.st bJ)) ?_);refine H0 (Ar6 R hT key (OK hk (by decide)) u val hu (H2 s.sc.c) (by show(s.sc.c.P:Int)<=_;omega)) (R:=SL p s g) (pc fun z=>by simp only[C3]at*;omega) ?_;rintro _ _ ⟨ov,oseg,gs,rfl,rfl,own,iG,dS⟩;have cI:=Ar3 key.data.toList val (H2 s.sc.c);obtain⟨c,hc⟩: ∃c,c=F8 key.data.toList val (H2 s.sc.c):=⟨_,rfl⟩;rw[<-hc]at dS dY cI⊢;refine⟨_,NH _,(ov,c.2,()),rfl,?_⟩;have aH:((oseg++(E3 gs++R))++SL p s g).Perm (SL p s g++(oseg++(E3 gs++R))):=OT;generalize (oseg++(E3 gs++R))++SL p s g=L1 at aH;dsimp only;have qS:ov.len=c.1.length:=by
  have:=own.sl.len;rw[NL,OS]at this;rw[this,<-dS,NL]
 refine D6 (fun(h0:c.2=0)=>?_) (fun(h0: ¬c.2=0)=>?_)
 ·rw[ND (by simpa using h0)]at dY;have nM:Tab (oseg++(E3 gs++R)):=hT.mono fun y hy=>by simp[hy]
  have hn:(0:Int)<=(c.1.length:Int)/\(c.1.length:Int)<=1000:=by omega
  have cR:=JS p s g X h hM hd (oseg++(E3 gs++R)) nM (c.1.length:Int) hn;rw[<-qS]at cR;refine Ap cR aH ?_;rw[qS];rintro _ _ ⟨g2,rfl,X2,rfl⟩;obtain⟨k1,k2,k3⟩:=h.roomy hd hn.1;refine⟨((s.roomy (c.1.length:Int)).2,()),rfl,?_⟩;dsimp only;generalize s.roomy (c.1.length:Int)=w at k1 k2 k3 X2 dY;refine D6 (fun(h1:w.2=0)=>?_) (fun(h1: ¬w.2=0)=>?_)
  ·rw[ND (by simpa using h1)]at dY;obtain⟨a1,a2⟩:=k2 h1;obtain⟨o,ho⟩: ∃o,w.1.op=some o:=by
    unfold B0.fits at a2;cases bG:w.1.op with
    |none=>rw[bG]at a2;cases a2
    |some o=>exact⟨o,rfl⟩
   have uI:=k1.op o ho;have lZ:(O8 gs).map Prod.snd=c.1:=by rw[St];exact dS
   have kF:(O8 gs).length<=8:=by rw[<-lZ,NL]at cI;exact cI
   have dM:(O8 gs).length<=1000000:=by omega
   have cZ:0<=o.nx/\o.nx<=1000:=by omega
   have wB:o.l.length<=1000:=by omega
   have hb4:Af (oseg++(E3 gs++R)) ov (O8 gs):=KC own iG (fun y hy=>by simp[hy]) (fun y hy=>by simp[hy]);have nH:=AE p w.1 g2 X2 k1.S.2 k1.bk (oseg++(E3 gs++R)) ov (O8 gs) hb4 dM (k1.dg _ dM) o ho cZ wB 2;rw[qS]at nH;refine Ap nH (NH _) ?_;rw[lZ];rintro _ _ ⟨g3,rfl,X3,hn3,rfl⟩;obtain⟨b1,b2⟩:=k1.write a1 2 c.1;refine⟨((((w.1.write 2 c.1).2.1.1,(w.1.write 2 c.1).2.1.2.1,(w.1.write 2 c.1).2.1.2.2.1,()),(w.1.write 2 c.1).2.2,())),rfl,?_⟩;dsimp only;generalize w.1.write 2 c.1=z at b1 b2 X3 dY;refine D6 (fun(h2:z.2.2=0)=>?_) (fun(h2: ¬z.2.2=0)=>?_)
   ·rw[NE h2]at dY;refine H0 (KG p z.1 g3 X3 b1.wy.1 key hk (b1.row _).len (OK b1.pl hM) z.2.1) (NH _) ?_;rintro _ _ ⟨g4,wJ,X4,rfl⟩;rw[NP]at wJ;rw[wJ];refine⟨_,NH _,(),rfl,?_⟩;rw[dY,h2];exact .drop (A:=SL p (z.1.list key z.2.1) g4++R) (J:=oseg++E3 gs) ⟨g4,rfl,X4,rfl⟩ (pc fun z=>by simp only[C3];omega)
   ·rw[ND h2]at dY;rw[dY];exact .drop (A:=SL p z.1 g3++R) (J:=oseg++E3 gs) ⟨g3,rfl,X3,rfl⟩ (pc fun z=>by simp only[C3];omega)
  ·rw[NE (by simpa using h1)]at dY;rw[dY];exact .drop (A:=SL p w.1 g2++R) (J:=oseg++E3 gs) ⟨g2,rfl,X2,rfl⟩ (pc fun z=>by simp only[C3];omega)
 ·rw[NE (by simpa using h0)]at dY;rw[dY];exact .drop (A:=SL p s g++R) (J:=oseg++E3 gs) ⟨g,rfl,X,rfl⟩ (pc fun z=>by have:=E8 aH z;simp only[C3]at*;omega)
def Az9(k:Nat)(s:B0):B0.trim (k+1) s=if(Gb s.q:Int)>s.sc.small then(match s.q with
  |[]=>(s,0)
  |y::r=>
   if(if y.2.2>0 then({s with q:=r}:B0).adm y.1 y.2.1 else({s with q:=r},8)).2=0 then B0.trim k (if y.2.2>0 then({s with q:=r}:B0).adm y.1 y.2.1 else({s with q:=r},8)).1 else
   if(if y.2.2>0 then({s with q:=r}:B0).adm y.1 y.2.1 else({s with q:=r},8)).2=11 then(if y.2.2>0 then({s with q:=r}:B0).adm y.1 y.2.1 else({s with q:=r},8))else
   B0.trim k {(if y.2.2>0 then({s with q:=r}:B0).adm y.1 y.2.1 else({s with q:=r},8)).1 with gh:=Dz s.sc.ghost (if y.2.2>0 then({s with q:=r}:B0).adm y.1 y.2.1 else({s with q:=r},8)).1.gh (s.hash y.1)})else(s,0):=rfl
def Bc5(p:SP)(s:B0)(g:SG)(X:SX p s g)(h:B9 s M)(k0:Nat)(pM:s.q.length<k0)(hM:M+k0<=1000000000)(hd:s.down=false)(R:B1)(hT:Tab R):
  CallF PP 50 #[.p p.n] (SL p s g++R) (SK p (B0.trim k0 s) R):=by
 refine(c50 (some p.n.z)).c ?_;refine G1 (fun z' z L'=> ∃(cur:B0) (g':SG) (J:B1) (N:Nat),cur.q.length<z'/\N+z'=M+k0/\B9 cur N/\cur.down=false/\SX p cur g'/\B0.trim k0 s=B0.trim z' cur/\L'.Perm (SL p cur g'++(J++R))) k0 ⟨s,g,[],M,pM,rfl,h,hd,X,rfl,NH _⟩ ?_;rintro z' z L1 ⟨cur,g',J,N,fC,hN,hc,lN,X',nB,aH⟩;dsimp only;obtain⟨k,rfl⟩: ∃k,z'=k+1:=⟨z'-1,by omega⟩;rw[nB,Az9];refine B7 rfl (B5 (some p.nq.z) (H4 (SL.st aH) rfl) ?_);refine C4 (Reads.has (SL.q aH) (Bn5 p.nq cur.sc.small cur.q g'.Aq X'.que)) (decide ((Gb cur.q:Int)>cur.sc.small),()) rfl ?_;refine D6 (fun(uH:(Gb cur.q:Int)>cur.sc.small)=>?_) (fun(uH: ¬(Gb cur.q:Int)>cur.sc.small)=>?_)
 ·rw[NE uH];have gZ:=hc.qs;have hq:=X'.que;cases zY:cur.q with
  |nil=>
   have:=hc.sm;rw[zY]at uH;exact absurd uH (by show¬((0:Nat):Int)>_;omega)
  |cons y r=>
   rw[zY]at gZ hq fC;dsimp only;refine B5 (some p.nq.z) (H4 (SL.st aH) rfl) ?_;refine H0 (Bn3 p.nq cur.sc.small y r g'.Aq hq) (R:=F5 p cur g'::(kO p cur::(mO p g'::(gO p g'::(g'.Ad++(g'.Ab++(D1 g'.ns++(D1 g'.on.toList++(g'.pseg++(g'.Ai++(J++R))))))))))) (pc fun z=>by have:=E8 aH z;simp only[SL,C3,D0,E5]at*;omega) ?_;rintro _ _ ⟨u,seg,Aq',rfl,rfl,nX,oE⟩;refine⟨_,NH _,((y.1,u,y.2.2,()),true,()),rfl,?_⟩;dsimp only;obtain⟨s1,bM⟩: ∃s1:B0,s1={cur with q:=r}:=⟨_,rfl⟩;obtain⟨g1,eM⟩: ∃g1:SG,g1={g' with Aq:=Aq'}:=⟨_,rfl⟩;have X1:SX p s1 g1:=by rw[bM,eM];exact{X' with cfg:=X'.cfg,dev:=X'.dev,blk:=X'.blk,que:=oE}
   have hY:((Aq'++seg)++(F5 p cur g'::(kO p cur::(mO p g'::(gO p g'::(g'.Ad++(g'.Ab++(D1 g'.ns++(D1 g'.on.toList++(g'.pseg++(g'.Ai++(J++R)))))))))))).Perm (SL p s1 g1++(seg++(J++R))):=pc fun z=>by
    have e1:F5 p s1 g1=F5 p cur g':=by rw[bM,eM];rfl
    have e2:kO p s1=kO p cur:=by rw[bM];rfl
    have e3:mO p g1=mO p g':=by rw[eM];rfl
    have e4:gO p g1=gO p g':=by rw[eM];rfl
    simp only[SL,e1,e2,e3,e4,C3,D0,E5];simp only[eM];omega
   generalize (Aq'++seg)++(F5 p cur g'::(kO p cur::(mO p g'::(gO p g'::(g'.Ad++(g'.Ab++(D1 g'.ns++(D1 g'.on.toList++(g'.pseg++(g'.Ai++(J++R)))))))))))=L2 at hY;have h1:B9 s1 N:=by rw[bM];exact hc.setq (fun e he=>gZ e (NN _ he)) (by have:=hc.ql;rw[zY]at this;simp at this;omega)
   have dB:s1.down=false:=by rw[bM];exact lN
   have nS:=gZ y (by simp);rw[<-bM];obtain⟨w,hw⟩: ∃w,w=(if y.2.2>0 then s1.adm y.1 y.2.1 else(s1,8)):=⟨_,rfl⟩;rw[<-hw];have hwk:B9 w.1 (N+1)/\w.1.sc=cur.sc/\(w.2≠11->w.1.down=false)/\w.1.q.length<=r.length:=by
    rw[hw];split
    ·have ha:=h1.adm dB y.1 y.2.1;exact⟨ha.1,ha.2.trans (by rw[bM]),fun hn=>(Jw _ _ _ hn).trans dB,by rw[(Ol s1 y.1 y.2.1).1,bM];exact NF _⟩
    ·exact⟨h1.upto (by omega),by rw[bM],fun _=>dB,by rw[bM];exact NF _⟩
   have hash:s1.hash y.1=cur.hash y.1:=by rw[bM];rfl
   refine V9 (fun(y1:D2 [lI]) L'=>y1=(w.2,())/\ ∃(g2:SG) (J2:B1),SX p w.1 g2/\L'.Perm (SL p w.1 g2++(J2++R))) ?_ ?_
   ·rintro _ L3 ⟨rfl,g2,J2,X2,aW⟩;dsimp only;obtain⟨w1,w2,w3,w4⟩:=hwk;simp only[NU]at fC;refine D6 (fun(h0:w.2=0)=>?_) (fun(h0: ¬w.2=0)=>?_)
    ·rw[NE h0];exact⟨k,by omega,w.1,g2,J2,N+1,by omega,by omega,w1,w3 (by rw[h0];decide),X2,rfl,aW⟩
    ·rw[ND h0];refine D6 (fun(h11:w.2=11)=>?_) (fun(h11: ¬w.2=11)=>?_)
     ·rw[NE h11];exact .drop (A:=SL p w.1 g2++R) (J:=J2) ⟨g2,rfl,X2,rfl⟩ (pc fun z=>by have:=E8 aW z;simp only[C3]at*;omega)
     ·rw[ND h11];have yD:w.1.hash y.1=cur.hash y.1:=by unfold B0.hash;rw[w2]
      refine B5 (some p.ng.z) (H4 (SL.st aW) rfl) ?_;refine C4 (My aW y.1 (by omega)) (((w.1.hash y.1:Nat):Int),()) rfl ?_;refine P2 (H4 (SL.st aW) rfl) ?_;have dS:=w1.gl;refine KO aW X2 (Ct4 p.ng w.1.sc.ghost w.1.gh g2.go X2.gho dS w1.gs.2 (w.1.hash y.1:Nat)) () rfl {w.1 with gh:=Dz w.1.sc.ghost w.1.gh (w.1.hash y.1)} rfl fun g3 L4 bU X3=>?_;refine⟨k,by omega,_,g3,J2,N+1,by exact(show w.1.q.length<k by omega),by omega,w1.setgh (Pp w1.gs.1 dS _),w3 h11,X3,?_,bU⟩;rw[yD,w2]
   ·intro j1 eP;have rX:Tab (seg++(J++R)):=hT.mono fun z hz=>by simp[hz]
    refine D6 (fun(cD:y.2.2>0)=>?_) (fun(cD: ¬y.2.2>0)=>?_)
    ·rw[NE cD]at hw;refine Ap (LD p s1 g1 X1 h1 (by omega) dB (seg++(J++R)) rX y.1 (by omega) u y.2.1 (nX.mono fun z hz=>by simp[hz])) hY ?_;rw[<-hw];rintro _ _ ⟨g2,rfl,X2,rfl⟩;exact⟨(w.2,()),rfl,eP _ _ ⟨rfl,g2,seg++J,X2,pc fun z=>by simp only[C3];omega⟩⟩
    ·rw[ND cD]at hw;refine eP _ _ ⟨by rw[hw],g1,seg++J,by rw[hw];exact X1,by rw[hw];exact hY.trans (by rw[NZ])⟩
 ·rw[ND uH];exact .drop (A:=SL p cur g'++R) (J:=J) ⟨g',rfl,X',rfl⟩ (pc fun z=>by have:=E8 aH z;simp only[C3]at*;omega)
def Be2(p:SP)(s:B0)(g:SG)(X:SX p s g)(h:M5 s M)(hM:M<=900000000)(R:B1)(hT:Tab R)(key:ByteArray)(u:B6)(val:List UInt8)(hu:G0 R u val):
  CallF PP 9 #[.p p.n,.w key,.slice u.a u.len u.cap] (SL p s g++R) (SK p (s.put key val) R):=by
 refine(c9 (some p.n.z) key u).c ?_;have bJ:(SL p s g++R).Perm (SL p s g++R):=NH _;have fI:=hu.len;have eC:s.put key val=(if s.asked key≠0 then(s,s.asked key)else if val.length>65536 then(s,4)else
  if Q3 key.size val.length (H2 s.sc.c)=0 then((s.forget key).1,14)else
  if((s.hash key:Nat):Int)∈(s.forget key).1.gh then
   (if(({(s.forget key).1 with gh:=(s.forget key).1.gh.erase ((s.hash key:Nat):Int)}:B0).adm key val).2=0\/(({(s.forget key).1 with gh:=(s.forget key).1.gh.erase ((s.hash key:Nat):Int)}:B0).adm key val).2=11 then({(s.forget key).1 with gh:=(s.forget key).1.gh.erase ((s.hash key:Nat):Int)}:B0).adm key val else(({(s.forget key).1 with gh:=(s.forget key).1.gh.erase ((s.hash key:Nat):Int)}:B0).adm key val).1.putYoung key val)
  else(s.forget key).1.putYoung key val):=rfl
 refine C4 (Sj bJ key) (s.asked key,()) rfl ?_;refine D6 (fun(ha:s.asked key=0)=>?_) (fun(ha: ¬s.asked key=0)=>?_)
 ·rw[ND (by simpa using ha)]at eC;obtain⟨hd,hk⟩:=Mj ha;refine D6 (fun(hl:(u.len:Int)>65536)=>?_) (fun(hl: ¬(u.len:Int)>65536)=>?_)
  ·rw[NE (by omega)]at eC;rw[eC];exact .of ⟨g,rfl,X,rfl⟩
  ·rw[ND (by omega)]at eC;refine H0 (KP p s g X h.ok.dv key (by omega) (h.ok.row _) (OK h.ok.pl (by omega))) bJ ?_;rintro _ _ ⟨g1,gA,X1,rfl⟩;rw[NP]at gA;rw[gA];refine⟨_,NH _,((s.forget key).2,()),rfl,?_⟩;obtain⟨f1,f2,f3,f4,f5⟩:=h.ok.forget key;have fK:(s.forget key).1.q.length<=65536:=by rw[f4];exact OK (Iq _ _) (h.q hd)
   have dB:(s.forget key).1.down=false:=f2.trans hd;have sN:(s.forget key).1.hash key=s.hash key:=by unfold B0.hash;rw[f3]
   rw[<-f3]at eC;generalize (s.forget key).1=s1 at f1 f2 f3 f4 f5 fK dB sN X1 eC;have hP:=f1.P;have aH:(SL p s1 g1++R).Perm (SL p s1 g1++R):=NH _;refine B7 rfl (B5 (sh:=Z4) ((s1.sc.c.B:Int),(s1.sc.c.P:Int),(s1.sc.c.S:Int),(s1.sc.c.W:Int),()) (Vu (SL.st aH)) ?_);refine C4 (Ab6 _ (hT.mono fun y hy=>by simp[hy]) key.size u.len (H2 s1.sc.c) (by show(s1.sc.c.P:Int)<=_;omega)) (Q3 key.size u.len (H2 s1.sc.c),()) rfl ?_;dsimp only;rw[fI];refine D6 (fun(h0:Q3 key.size val.length (H2 s1.sc.c)=0)=>?_) (fun(h0: ¬Q3 key.size val.length (H2 s1.sc.c)=0)=>?_)
   ·rw[NE h0]at eC;rw[eC];exact .of ⟨g1,rfl,X1,rfl⟩
   ·rw[ND h0]at eC;refine V9 (fun _ L'=> ∃(s2:B0) (g2:SG),s.put key val=s2.putYoung key val/\B9 s2 (M+2)/\s2.down=false/\s2.q.length<=65536/\SX p s2 g2/\L'.Perm (SL p s2 g2++R)) ?_ ?_
    ·rintro _ L2 ⟨s2,g2,he,k1,k2,k3,X2,hY⟩;rw[he];refine B5 (some p.nq.z) (H4 (SL.st hY) rfl) ?_;rw[<-fI];refine H0 (Bn2 p.nq s2.sc.small s2.q g2.Aq R X2.que (by omega) key (by omega) u val hu (by omega)) (R:=F5 p s2 g2::(kO p s2::(mO p g2::(gO p g2::(g2.Ad++(g2.Ab++(D1 g2.ns++(D1 g2.on.toList++(g2.pseg++g2.Ai))))))))) (pc fun z=>by have:=E8 hY z;simp only[SL,C3,D0,E5]at*;omega) ?_;rintro _ _ ⟨rfl,Aq',rfl,oE⟩;refine⟨_,NH _,(),rfl,?_⟩;obtain⟨s3,cJ⟩: ∃s3:B0,s3={s2 with q:=P7 s2.q key++[(key,val,0)]}:=⟨_,rfl⟩;obtain⟨g3,fG⟩: ∃g3:SG,g3={g2 with Aq:=Aq'}:=⟨_,rfl⟩;have X3:SX p s3 g3:=by rw[cJ,fG];exact{X2 with cfg:=X2.cfg,dev:=X2.dev,blk:=X2.blk,que:=oE}
     have aW:((Aq'++R)++(F5 p s2 g2::(kO p s2::(mO p g2::(gO p g2::(g2.Ad++(g2.Ab++(D1 g2.ns++(D1 g2.on.toList++(g2.pseg++g2.Ai)))))))))).Perm (SL p s3 g3++R):=pc fun z=>by
      have e1:F5 p s3 g3=F5 p s2 g2:=by rw[cJ,fG];rfl
      have e2:kO p s3=kO p s2:=by rw[cJ];rfl
      have e3:mO p g3=mO p g2:=by rw[fG];rfl
      have e4:gO p g3=gO p g2:=by rw[fG];rfl
      simp only[SL,e1,e2,e3,e4,C3,D0,E5];simp only[fG];omega
     generalize (Aq'++R)++(F5 p s2 g2::(kO p s2::(mO p g2::(gO p g2::(g2.Ad++(g2.Ab++(D1 g2.ns++(D1 g2.on.toList++(g2.pseg++g2.Ai)))))))))=L3 at aW;have hy:=k1.putYoung k2 k3 (val:=val) hk (by omega);have uY:s3.q.length<s2.q.length+2:=by rw[cJ];show(P7 s2.q key++[(key,val,0)]).length<_;rw[NR];have:=Iq s2.q key;simp;omega
     refine Ap (Bc5 p s3 g3 X3 (M:=M+2) (by rw[cJ];exact hy.1) (s2.q.length+2) uY (by omega) (by rw[cJ];exact k2) R hT) aW ?_;have oF:s2.putYoung key val=B0.trim (s2.q.length+2) s3:=by rw[cJ];rfl
     rw[<-oF];rintro _ _ ⟨g4,rfl,X4,rfl⟩;exact⟨((s2.putYoung key val).2,()),rfl,.of ⟨g4,rfl,X4,rfl⟩⟩
    ·intro j1 eP;refine B5 (some p.ng.z) (H4 (SL.st aH) rfl) ?_;refine C4 (My aH key (by omega)) (((s1.hash key:Nat):Int),()) rfl ?_;refine P2 (H4 (SL.st aH) rfl) ?_;rw[sN];obtain⟨s2,aP⟩: ∃s2:B0,s2={s1 with gh:=s1.gh.erase ((s.hash key:Nat):Int)}:=⟨_,rfl⟩;rw[<-aP]at eC;refine KO aH X1 (Aq2 p.ng s1.sc.ghost s1.gh g1.go X1.gho ((s.hash key:Nat):Int)) (decide (((s.hash key:Nat):Int)∈s1.gh),()) rfl s2 aP fun g2 L2 hY X2=>?_;have k1:B9 s2 (M+1):=by
      rw[aP];refine f1.setgh ?_;have h1:=f1.gl;have h2:(s1.gh.erase ((s.hash key:Nat):Int)).length<=s1.gh.length:=TK;omega
     have fP:s2.down=false:=by rw[aP];exact dB
     have gK:s2.q=s1.q:=by rw[aP]
     refine D6 (fun(cC:((s.hash key:Nat):Int)∈s1.gh)=>?_) (fun(cC: ¬((s.hash key:Nat):Int)∈s1.gh)=>?_)
     ·rw[NE cC]at eC;have cR:=LD p s2 g2 X2 k1 (by omega) fP R hT key (by omega) u val hu;rw[fI]at cR;refine Ap cR hY ?_;rintro _ _ ⟨g3,rfl,X3,rfl⟩;have a1:=(k1.adm fP key val).1;have a3:=(Ol s2 key val).1;have a4:=Jw s2 key val;generalize s2.adm key val=w at X3 a1 a3 a4 eC;refine⟨(w.2,()),rfl,?_⟩;refine D6 (fun(h1:w.2=0)=>?_) (fun(h1: ¬w.2=0)=>?_)
      ·rw[NE (.inl h1)]at eC;rw[eC];exact .of ⟨g3,rfl,X3,rfl⟩
      ·refine D6 (fun(h2:w.2=11)=>?_) (fun(h2: ¬w.2=11)=>?_)
       ·rw[NE (.inr h2)]at eC;rw[eC];exact .of ⟨g3,rfl,X3,rfl⟩
       ·rw[ND (by rintro(hh|hh);exact h1 hh;exact h2 hh)]at eC;exact eP _ _ ⟨w.1,g3,eC,a1,(a4 h2).trans fP,by rw[a3,gK];exact fK,X3,NH _⟩
     ·rw[ND cC]at eC;have e:s2=s1:=by rw[aP,XY cC]
      exact eP _ _ ⟨s2,g2,by rw[eC,e],k1.upto (by omega),fP,by rw[gK];exact fK,X2,hY⟩
 ·rw[NE (by simpa using ha)]at eC;rw[eC];exact .of ⟨g,rfl,X,rfl⟩
def Cn4{l:List QD}{k:ByteArray}(h:T2 l k=none):Gc l k=l:=by
 unfold T2 at h;rw[RR]at h;unfold Gc;conv=>rhs;rw[<-YD l]
 refine TA fun e he=>?_;rw[ND (fun e2=>h e he (by simp[e2]))];rfl
def GK(p:SP)(w:B0×List UInt8×Int)(R:B1)(r:Value)(L':B1):Prop:= ∃(g':SG) (u:B6) (sg:B1),L'=sg++(SL p w.1 g'++R)/\SX p w.1 g'/\C5 u 1 eB (F9 w.2.1) sg/\r= .t #[.slice u.a u.len u.cap,.i w.2.2]
def Bf8(p:SP)(s:B0)(g:SG)(X:SX p s g)(h:B9 s M)(key:ByteArray):
  CallF PP 12 #[.p p.n,.w key] (SL p s g) (GK p (s.get key) []):=by
 refine(c12 (some p.n.z) key).c ?_;have bJ:(SL p s g).Perm (SL p s g++[]):=by rw[NP]
 have eR:s.get key=(if s.asked key≠0 then(s,[],s.asked key)else match T2 s.q key with
  |some e=>({s with q:=Gc s.q key},e.2.1,0)
  |none=>match s.place key with
   |none=>(s,[],8)
   |some p=>({s with ix:=iset s.ix (s.hash key) (Bv (C6 s.ix (s.hash key)) (E1 (s.hash key) p))},(C7 s.d p).2.1,0)):=rfl
 refine C4 (Sj bJ key) (s.asked key,()) rfl ?_;refine D6 (fun(ha:s.asked key=0)=>?_) (fun(ha: ¬s.asked key=0)=>?_)
 ·rw[ND (by simpa using ha)]at eR;obtain⟨hd,hk⟩:=Mj ha;refine B7 rfl (B5 (some p.nq.z) (H4 (SL.st bJ) rfl) ?_);refine H0 (Bn8 p.nq s.sc.small s.q g.Aq X.que key) (R:=F5 p s g::(kO p s::(mO p g::(gO p g::(g.Ad++(g.Ab++(D1 g.ns++(D1 g.on.toList++(g.pseg++g.Ai))))))))) (pc fun z=>by simp only[SL,C3,D0,E5];omega) ?_;rintro _ _ ⟨u,seg,Aq',rfl,rfl,own,oE⟩;refine⟨_,NH _,(u,(T2 s.q key).isSome,()),rfl,?_⟩;obtain⟨s1,bM⟩: ∃s1:B0,s1={s with q:=Gc s.q key}:=⟨_,rfl⟩;obtain⟨g1,eM⟩: ∃g1:SG,g1={g with Aq:=Aq'}:=⟨_,rfl⟩;have X1:SX p s1 g1:=by rw[bM,eM];exact{X with cfg:=X.cfg,dev:=X.dev,blk:=X.blk,que:=oE}
  have aH:((seg++Aq')++(F5 p s g::(kO p s::(mO p g::(gO p g::(g.Ad++(g.Ab++(D1 g.ns++(D1 g.on.toList++(g.pseg++g.Ai)))))))))).Perm (SL p s1 g1++seg):=pc fun z=>by
   have e1:F5 p s1 g1=F5 p s g:=by rw[bM,eM];rfl
   have e2:kO p s1=kO p s:=by rw[bM];rfl
   have e3:mO p g1=mO p g:=by rw[eM];rfl
   have e4:gO p g1=gO p g:=by rw[eM];rfl
   simp only[SL,e1,e2,e3,e4,C3,D0,E5];simp only[eM];omega
  generalize (seg++Aq')++(F5 p s g::(kO p s::(mO p g::(gO p g::(g.Ad++(g.Ab++(D1 g.ns++(D1 g.on.toList++(g.pseg++g.Ai)))))))))=L1 at aH;cases hf:T2 s.q key with
  |some e=>
   rw[hf]at eR own;refine E9 rfl ?_;rw[eR];refine .drop (A:=seg++SL p s1 g1) (J:=[]) ⟨g1,u,seg,by rw[bM,NP],by rw[<-bM];exact X1,own,rfl⟩ (pc fun z=>by have:=E8 aH z;simp only[C3,E5]at*;omega)
  |none=>
   rw[hf]at eR;refine D8 rfl ?_;have e:s1=s:=by rw[bM,Cn4 hf]
   rw[e]at X1 aH;dsimp only at eR;refine H0 (Vx p s g1 X1 h.dv key (by omega) (h.row _).len (h.row _).wf) aH ?_;rintro _ _ ⟨v,sg,rfl,rfl,own2⟩;refine⟨(SL p s g1++(sg++seg)),pc fun z=>by simp only[C3];omega,((((s.place key).getD (0,0,0,())).1,((s.place key).getD (0,0,0,())).2.1,((s.place key).getD (0,0,0,())).2.2.1,()),v,(s.place key).isSome,()),rfl,?_⟩;dsimp only;have hY:(SL p s g1++(sg++seg)).Perm (SL p s g1++(sg++seg)):=NH _;unfold B0.placeV at own2;cases aQ:s.place key with
   |none=>
    rw[aQ]at eR;refine D8 rfl ?_;rw[eR];exact .drop (A:=SL p s g1) (J:=sg++seg) ⟨g1,⟨none,0,0⟩,[],by simp,X1,O5,rfl⟩ hY
   |some x=>
    rw[aQ]at eR own2;refine E9 rfl (B5 (some p.ni.z) (H4 (SL.st hY) rfl) (C4 (My hY key (by omega)) (((s.hash key:Nat):Int),()) rfl (P2 (H4 (SL.st hY) rfl) ?_)));refine Vy hY X1 (Cd8 p.ni s.sc.ways s.ix g1.Ai X1.idx (s.hash key) (Un s key) x (h.row _).fr) ((P3 s.ix (s.hash key) x).isSome,()) rfl {s with ix:=iset s.ix (s.hash key) (Bv (C6 s.ix (s.hash key)) (E1 (s.hash key) x))} rfl fun g3 L3 aW X3 _=>?_;rw[eR];exact .drop (A:=sg++SL p _ g3) (J:=seg) ⟨g3,v,sg,by rw[NP],X3,own2,rfl⟩ (pc fun z=>by have:=E8 aW z;simp only[C3]at*;omega)
 ·rw[NE (by simpa using ha)]at eR;rw[eR];exact .of ⟨g,⟨none,0,0⟩,[],by simp,X,O5,rfl⟩
def PK(w:List UInt8×Int)(A:B1)(r:Value)(L':B1):Prop:= ∃(u:B6) (sg:B1),L'=sg++A/\C5 u 1 eB (F9 w.1) sg/\r= .t #[.slice u.a u.len u.cap,.i w.2]
def KB(p:SP)(s:B0)(g:SG)(X:SX p s g)(h:B9 s M)(key:ByteArray):
  CallF PP 24 #[.p p.n,.w key] (SL p s g) (PK (s.peek key) (SL p s g)):=by
 refine(c24 (some p.n.z) key).c ?_;have bJ:(SL p s g).Perm (SL p s g++[]):=by rw[NP]
 have eR:s.peek key=(if s.asked key≠0 then([],s.asked key)else match T2 s.q key with
  |some e=>(e.2.1,0)
  |none=>match s.place key with
   |none=>([],8)
   |some p=>((C7 s.d p).2.1,0)):=rfl
 refine C4 (Sj bJ key) (s.asked key,()) rfl ?_;refine D6 (fun(ha:s.asked key=0)=>?_) (fun(ha: ¬s.asked key=0)=>?_)
 ·rw[ND (by simpa using ha)]at eR;obtain⟨hd,hk⟩:=Mj ha;refine B7 rfl (B5 (some p.nq.z) (H4 (SL.st bJ) rfl) ?_);refine H0 (Bn4 p.nq s.sc.small s.q g.Aq X.que key) (R:=F5 p s g::(kO p s::(mO p g::(gO p g::(g.Ad++(g.Ab++(D1 g.ns++(D1 g.on.toList++(g.pseg++g.Ai))))))))) (pc fun z=>by simp only[SL,C3,D0,E5];omega) ?_;rintro _ _ ⟨u,seg,rfl,rfl,own⟩;refine⟨SL p s g++seg,pc fun z=>by simp only[SL,C3,D0,E5];omega,(u,(T2 s.q key).isSome,()),rfl,?_⟩;cases hf:T2 s.q key with
  |some e=>
   rw[hf]at eR own;refine E9 rfl ?_;rw[eR];exact .drop (A:=seg++SL p s g) (J:=[]) ⟨u,seg,rfl,own,rfl⟩ (pc fun z=>by simp only[C3,E5];omega)
  |none=>
   rw[hf]at eR;refine D8 rfl ?_;dsimp only at eR;refine H0 (Vx p s g X h.dv key (by omega) (h.row _).len (h.row _).wf) (NH _) ?_;rintro _ _ ⟨v,sg,rfl,rfl,own2⟩;refine⟨_,NH _,((((s.place key).getD (0,0,0,())).1,((s.place key).getD (0,0,0,())).2.1,((s.place key).getD (0,0,0,())).2.2.1,()),v,(s.place key).isSome,()),rfl,?_⟩;dsimp only;unfold B0.placeV at own2;cases aQ:s.place key with
   |none=>
    rw[aQ]at eR;refine D8 rfl ?_;rw[eR];exact .drop (A:=SL p s g) (J:=sg++seg) ⟨⟨none,0,0⟩,[],by simp,O5,rfl⟩ (pc fun z=>by simp only[C3];omega)
   |some x=>
    rw[aQ]at eR own2;refine E9 rfl ?_;rw[eR];exact .drop (A:=sg++SL p s g) (J:=seg) ⟨v,sg,rfl,own2,rfl⟩ (NH _)
 ·rw[NE (by simpa using ha)]at eR;rw[eR];exact .of ⟨⟨none,0,0⟩,[],by simp,O5,rfl⟩
def DK(p:SP)(w:B0×Bool×Int)(R:B1)(r:Value)(L':B1):Prop:= ∃g',L'=SL p w.1 g'++R/\SX p w.1 g'/\r= .t #[.b w.2.1,.i w.2.2]
def Bi0(p:SP)(s:B0)(g:SG)(X:SX p s g)(h:B9 s M)(hM:M<=1000000000)(key:ByteArray):
  CallF PP 14 #[.p p.n,.w key] (SL p s g) (DK p (s.delete key) []):=by
 refine(c14 (some p.n.z) key).c ?_;have bJ:(SL p s g).Perm (SL p s g++[]):=by rw[NP]
 have sS:s.delete key=(if s.asked key≠0 then(s,false,s.asked key)else((s.forget key).1,(s.forget key).2,0)):=rfl;refine C4 (Sj bJ key) (s.asked key,()) rfl ?_;refine D6 (fun(ha:s.asked key=0)=>?_) (fun(ha: ¬s.asked key=0)=>?_)
 ·rw[ND (by simpa using ha)]at sS;obtain⟨hd,hk⟩:=Mj ha;refine O1 (KP p s g X h.dv key (by omega) (h.row _) (OK h.pl hM)) ?_;rintro _ _-⟨g1,rfl,X1,rfl⟩;rw[sS];exact⟨((s.forget key).2,()),rfl,.of ⟨g1,rfl,X1,rfl⟩⟩
 ·rw[NE (by simpa using ha)]at sS;rw[sS];exact .of ⟨g,by simp,X,rfl⟩
def KN(p:SP)(s:B0)(g:SG)(X:SX p s g)(h:B9 s M)(key:ByteArray):
  Reads PP 27 #[.p p.n,.w key] (SL p s g) (.i (s.has key)):=by
 unfold Reads;refine(c27 (some p.n.z) key).c ?_;have bJ:(SL p s g).Perm (SL p s g++[]):=by rw[NP]
 have nU:s.has key=(if s.asked key≠0 then 0 else if(T2 s.q key).isSome then 1 else if(s.place key).isSome then 2 else 0):=rfl;refine C4 (Sj bJ key) (s.asked key,()) rfl ?_;refine D6 (fun(ha:s.asked key=0)=>?_) (fun(ha: ¬s.asked key=0)=>?_)
 ·rw[ND (by simpa using ha)]at nU;obtain⟨hd,hk⟩:=Mj ha;refine B7 rfl (B5 (some p.nq.z) (H4 (SL.st bJ) rfl) ?_);refine C4 (Reads.has (SL.q bJ) (Bn7 p.nq s.sc.small s.q g.Aq X.que key)) ((T2 s.q key).isSome,()) rfl ?_;refine M0 (fun(hf:(T2 s.q key).isSome=true)=>?_) (fun(hf:(T2 s.q key).isSome=false)=>?_)
  ·rw[NE hf]at nU;rw[nU];exact .of ⟨rfl,rfl⟩
  ·rw[ND (by rw[hf];decide)]at nU;refine O1 (Vx p s g X h.dv key (by omega) (h.row _).len (h.row _).wf) ?_;rintro _ _-⟨v,sg,rfl,rfl,own2⟩;refine⟨((((s.place key).getD (0,0,0,())).1,((s.place key).getD (0,0,0,())).2.1,((s.place key).getD (0,0,0,())).2.2.1,()),v,(s.place key).isSome,()),rfl,?_⟩;dsimp only;refine M0 (fun(aQ:(s.place key).isSome=true)=>?_) (fun(aQ:(s.place key).isSome=false)=>?_)
   ·rw[NE aQ]at nU;rw[nU];exact .drop (A:=SL p s g) (J:=sg) ⟨rfl,rfl⟩ OT
   ·rw[ND (by rw[aQ];decide)]at nU;rw[nU];exact .drop (A:=SL p s g) (J:=sg) ⟨rfl,rfl⟩ OT
 ·rw[NE (by simpa using ha)]at nU;rw[nU];exact .of ⟨rfl,rfl⟩
def Bc8(p:SP)(s:B0)(g:SG)(X:SX p s g)(hb:s.bk.Ok)(now:Int):
  CallF PP 18 #[.p p.n,.i now] (SL p s g) (SU p (s.tick now) []):=by
 refine(c18 (some p.n.z) now).c ?_;have bJ:(SL p s g).Perm (SL p s g++[]):=by rw[NP]
 refine C4 (AF bJ) (!s.down,()) rfl ?_;unfold B0.tick;refine M0 (fun(hu:(!s.down)=true)=>?_) (fun(hu:(!s.down)=false)=>?_)
 ·have hd:s.down=false:=by simpa using hu
  rw[ND (by rw[hd];decide)];refine B7 rfl (B5 (some p.nk.z) (H4 (SL.st bJ) rfl) ?_);refine H0 (Ba7 p.nk s.bk hb now) (R:=F5 p s g::(mO p g::(gO p g::(g.Ad++(g.Ab++(D1 g.ns++(D1 g.on.toList++(g.pseg++(g.Aq++g.Ai))))))))) (pc fun z=>by simp only[SL,kO,C3,D0,E5];omega) ?_;rintro _ _ ⟨rfl,rfl⟩;refine⟨_,NH _,(),rfl,?_⟩;refine .drop (A:=SL p {s with bk:=Mh s.bk now} g) (J:=[]) ⟨g,by simp,{X with cfg:=X.cfg,dev:=X.dev,blk:=X.blk},rfl⟩ (pc fun z=>?_);have e1:kO p {s with bk:=Mh s.bk now}=(p.nk,Ca (Mh s.bk now)):=rfl;have e2:F5 p {s with bk:=Mh s.bk now} g=F5 p s g:=rfl;simp only[SL,e1,e2,C3,D0,E5];omega
 ·have hd:s.down=true:=by simpa using hu
  rw[NE hd];exact .of ⟨g,by simp,X,rfl⟩
def B0.flN(s:B0):Nat:=min s.pend.length (E0 s.sc.c.S/6).toNat
def Ci5(k:Nat)(s:B0):B0.flushes (k+1) s=match s.pend with
  |[]=>(s,0)
  |p::r=>
   if(s.roomy 1).2≠0 then s.roomy 1 else
   if(s.roomy 1).1.flN=0 then((s.roomy 1).1,0)else
   if(K9 ((s.roomy 1).1.pend.take (s.roomy 1).1.flN)).2≠0 then((s.roomy 1).1,(K9 ((s.roomy 1).1.pend.take (s.roomy 1).1.flN)).2)else
   if((s.roomy 1).1.write 3 [(K9 ((s.roomy 1).1.pend.take (s.roomy 1).1.flN)).1]).2.2≠0 then(((s.roomy 1).1.write 3 [(K9 ((s.roomy 1).1.pend.take (s.roomy 1).1.flN)).1]).1,((s.roomy 1).1.write 3 [(K9 ((s.roomy 1).1.pend.take (s.roomy 1).1.flN)).1]).2.2)else
   B0.flushes k {((s.roomy 1).1.write 3 [(K9 ((s.roomy 1).1.pend.take (s.roomy 1).1.flN)).1]).1 with pend:=((s.roomy 1).1.write 3 [(K9 ((s.roomy 1).1.pend.take (s.roomy 1).1.flN)).1]).1.pend.drop (s.roomy 1).1.flN}:=rfl
def Bt4{n:Nat}{g:PG}(hg:g.Ok)(h1:(n,Obj.cells #[.slice g.v.a g.v.len g.v.cap] 37)∈L)(h2: ∀x∈g.seg,x∈L):Af L ⟨some n.z,1,1⟩ [(g.v,g.l)]:=by
 refine⟨⟨rfl,NF _,.inr ⟨n.z,rfl,C2 h1 rfl⟩⟩,fun x hx=>?_⟩;rw[NM.1 hx];exact hg.sl.mono h2
def KQ(p:SP)(s:B0)(g:SG)(X:SX p s g)(h:B9 s M)(hM:M<=900000000)(R:B1)(hT:Tab R):
  CallF PP 16 #[.p p.n] (SL p s g++R) (SK p s.flush R):=by
 refine(c16 (some p.n.z)).c ?_;have bJ:(SL p s g++R).Perm (SL p s g++R):=NH _;have fA:s.flush=(if s.down=true then(s,11)else B0.flushes (s.pend.length+1) s):=rfl;refine D8 rfl (B7 rfl (B5 s.down (H4 (SL.st bJ) rfl) ?_));refine M0 (fun(hd:s.down=true)=>?_) (fun(hd:s.down=false)=>?_)
 ·rw[NE hd]at fA;rw[fA];exact .of ⟨g,rfl,X,rfl⟩
 rw[ND (by rw[hd];decide)]at fA;rw[fA];refine G1 (fun z' z L'=> ∃(cur:B0) (g':SG) (J:B1),cur.pend.length<z'/\B9 cur M/\cur.down=false/\SX p cur g'/\B0.flushes (s.pend.length+1) s=B0.flushes z' cur/\L'.Perm (SL p cur g'++(J++R))) (s.pend.length+1) ⟨s,g,[],by omega,h,hd,X,rfl,NH _⟩ ?_;rintro z' z L1 ⟨cur,g',J,aQ,hc,lN,X',nB,aH⟩;dsimp only;obtain⟨k,rfl⟩: ∃k,z'=k+1:=⟨z'-1,by omega⟩;rw[nB,Ci5];have qQ:=X'.pendLen;refine B5 g'.pv (H4 (SL.st aH) rfl) ?_;cases dw:cur.pend with
 |nil=>
  rw[dw]at qQ;refine Bp (show¬((g'.pv.len:Int)>0) by rw[qQ];simp) ?_;exact .drop (A:=SL p cur g'++R) (J:=J) ⟨g',rfl,X',rfl⟩ (pc fun z=>by have:=E8 aH z;simp only[C3]at*;omega)
 |cons x0 r0=>
  rw[dw,NU]at qQ;refine Ew (show(g'.pv.len:Int)>0 by omega) ?_;dsimp only;have nM:Tab (J++R):=hT.mono fun y hy=>by simp[hy]
  refine Ap (JS p cur g' X' hc (by omega) lN (J++R) nM 1 (by decide)) aH ?_;rintro _ _ ⟨g2,rfl,X2,rfl⟩;obtain⟨k1,k2,k3⟩:=hc.roomy lN (n:=1) (by decide);have kp:(cur.roomy 1).1.pend.length<=cur.pend.length:=BG 1 _ cur;refine⟨((cur.roomy 1).2,()),rfl,?_⟩;dsimp only;generalize cur.roomy 1=w at k1 k2 k3 kp X2;have hY:(SL p w.1 g2++(J++R)).Perm (SL p w.1 g2++(J++R)):=NH _;refine D6 (fun(h0:w.2=0)=>?_) (fun(h0: ¬w.2=0)=>?_)
  ·rw[ND (by simpa using h0)];obtain⟨a1,a2⟩:=k2 h0;refine B5 g2.pv (H4 (SL.st hY) rfl) (B5 (w.1.sc.c.S:Int) ((Vu (SL.st hY)).one 2 rfl) ?_);refine C4 (Pu _ (w.1.sc.c.S:Int)) (E0 w.1.sc.c.S,()) rfl ?_;refine P2 (H4 (SL.st hY) rfl) ?_;have hS:=k1.S;have gY:0<=E0 (w.1.sc.c.S:Int)/\E0 (w.1.sc.c.S:Int)<=496:=by
    by_cases hz:E0 (w.1.sc.c.S:Int)=0
    ·omega
    ·have:=Nd hz;omega
   have sS:Int.tdiv (E0 (w.1.sc.c.S:Int)) 6=E0 (w.1.sc.c.S:Int)/6:=TZ gY.1;have yN:=X2.pendLen;have jF:N8 (g2.pv.len:Int) (E0 (w.1.sc.c.S:Int)/6)=(w.1.flN:Int):=by
    unfold B0.flN N8;rw[yN];split<;>omega
   have vI:w.1.flN<=w.1.pend.length:=by unfold B0.flN;omega
   have oP:w.1.flN<=82:=by unfold B0.flN;omega
   dsimp only;rw[sS];refine H3 (by omega) ?_;rw[jF];refine D6 (fun(hz:(w.1.flN:Int)=0)=>?_) (fun(hz: ¬(w.1.flN:Int)=0)=>?_)
   ·rw[NE (by omega)];exact .drop (A:=SL p w.1 g2++R) (J:=J) ⟨g2,rfl,X2,rfl⟩ (pc fun z=>by simp only[C3];omega)
   ·rw[ND (by omega)];refine B5 g2.pv (H4 (SL.st hY) rfl) ?_;have aY:=X2.pd.cap;refine Be9 W0 (by decide) (A:=g2.pseg) (C5.sl X2.pd) (i':=0) (j':=w.1.flN) (m':=g2.pv.cap) rfl rfl rfl (by omega) vI (by omega) (NF _) fun s1 bM _ tM=>?_;rw[RY,QK]at tM;refine O1 (Bz8 (SL p w.1 g2++(J++R)) s1 (w.1.pend.take w.1.flN) (tM.mono (SL.ps hY)) (by rw[NW];omega)) ?_;rintro _ _-⟨q,rfl,rfl,hq,fC⟩;refine⟨(q.v,(K9 (w.1.pend.take w.1.flN)).2,()),rfl,?_⟩;dsimp only;refine D6 (fun(h1:(K9 (w.1.pend.take w.1.flN)).2=0)=>?_) (fun(h1: ¬(K9 (w.1.pend.take w.1.flN)).2=0)=>?_)
    ·rw[ND (by simpa using h1)];refine C9 fun n1 _=>?_;obtain⟨c1,fQ⟩: ∃c1:Nat×Obj,c1=(n1,Obj.cells #[.slice q.v.a q.v.len q.v.cap] 37):=⟨_,rfl⟩;rw[<-fQ];have aW:(c1::(q.seg++(SL p w.1 g2++(J++R)))).Perm (SL p w.1 g2++(c1::(q.seg++(J++R)))):=pc fun z=>by simp only[C3,D0];omega
     obtain⟨o,ho⟩: ∃o,w.1.op=some o:=by
      unfold B0.fits at a2;cases bG:w.1.op with
      |none=>rw[bG]at a2;cases a2
      |some o=>exact⟨o,rfl⟩
     have uI:=k1.op o ho;have cR:=AE p w.1 g2 X2 k1.S.2 k1.bk (c1::(q.seg++(J++R))) ⟨some n1.z,1,1⟩ [(q.v,q.l)] (Bt4 hq (by rw[fQ];exact NG) (fun y hy=>by simp[hy])) (by simp) (k1.dg _ (by simp)) o ho (by omega) (by omega) 3;rw[show[(q.v,q.l)].map Prod.snd=[(K9 (w.1.pend.take w.1.flN)).1] by simp[fC]]at cR;refine Ap cR aW ?_;rintro _ _ ⟨g3,rfl,X3,hn3,rfl⟩;obtain⟨b1,b2⟩:=k1.write a1 3 [(K9 (w.1.pend.take w.1.flN)).1];have bp:(w.1.write 3 [(K9 (w.1.pend.take w.1.flN)).1]).1.pend=w.1.pend:=(Mv.write w.1 3 _).pend;generalize w.1.write 3 [(K9 (w.1.pend.take w.1.flN)).1]=z at b1 b2 bp X3;refine⟨((z.2.1.1,z.2.1.2.1,z.2.1.2.2.1,()),z.2.2,()),rfl,?_⟩;dsimp only;have bU:(SL p z.1 g3++(c1::(q.seg++(J++R)))).Perm (SL p z.1 g3++(c1::(q.seg++(J++R)))):=NH _;refine D6 (fun(h2:z.2.2=0)=>?_) (fun(h2: ¬z.2.2=0)=>?_)
     ·rw[ND (by simpa using h2)];refine B5 g3.pv (H4 (SL.st bU) rfl) ?_;refine H0 (Bi1 g3.pv z.1.pend g3.pseg X3.pd (OK b1.pl (by omega)) w.1.flN (by rw[bp];exact vI) (by omega)) (R:=F5 p z.1 g3::(kO p z.1::(mO p g3::(gO p g3::(g3.Ad++(g3.Ab++(D1 g3.ns++(D1 g3.on.toList++(g3.Aq++(g3.Ai++(c1::(q.seg++(J++R))))))))))))) (pc fun z=>by simp only[SL,C3,D0,E5];omega) ?_;rintro _ pseg' ⟨v',rfl,own'⟩;refine⟨_,NH _,(v',()),rfl,?_⟩;obtain⟨s4,eH⟩: ∃s4:B0,s4={z.1 with pend:=z.1.pend.drop w.1.flN}:=⟨_,rfl⟩;obtain⟨g4,oO⟩: ∃g4:SG,g4={g3 with pv:=v',pseg:=pseg'}:=⟨_,rfl⟩;rw[<-eH];refine Mw (s:=z.1) (g:=g3) (k:=17) s4 g4 (Y:=pseg'++(kO p z.1::(mO p g3::(gO p g3::(g3.Ad++(g3.Ab++(D1 g3.ns++(D1 g3.on.toList++(g3.Aq++(g3.Ai++(c1::(q.seg++(J++R))))))))))))) (pc fun z=>by simp only[C3,D0,E5];omega) (by decide) (by rw[eH,oO];rfl) fun L5 jD=>?_;have X4:SX p s4 g4:=by rw[eH,oO];exact{X3 with cfg:=X3.cfg,dev:=X3.dev,blk:=X3.blk,pd:=own'}
      refine⟨k,by omega,s4,g4,c1::(q.seg++J),?_,?_,?_,X4,rfl,pc fun z'=>?_⟩
      ·rw[eH];show(z.1.pend.drop w.1.flN).length<k;rw[OJ,bp];omega
      ·rw[eH];exact b1.dropp _
      ·rw[eH];exact b2 h2
      ·have:=E8 jD z';have e1:kO p s4=kO p z.1:=by rw[eH];rfl
       have e2:mO p g4=mO p g3:=by rw[oO];rfl
       have e3:gO p g4=gO p g3:=by rw[oO];rfl
       have e4:g4.pseg=pseg'/\g4.Ad=g3.Ad/\g4.Ab=g3.Ab/\g4.ns=g3.ns/\g4.on=g3.on/\g4.Aq=g3.Aq/\g4.Ai=g3.Ai:=by rw[oO];exact⟨rfl,rfl,rfl,rfl,rfl,rfl,rfl⟩
       simp only[SL,e1,e2,e3,e4.1,e4.2.1,e4.2.2.1,e4.2.2.2.1,e4.2.2.2.2.1,e4.2.2.2.2.2.1,e4.2.2.2.2.2.2,C3,D0,E5]at*;omega
     ·rw[NE (by simpa using h2)];exact .drop (A:=SL p z.1 g3++R) (J:=c1::(q.seg++J)) ⟨g3,rfl,X3,rfl⟩ (pc fun z=>by simp only[C3,D0];omega)
    ·rw[NE (by simpa using h1)];exact .drop (A:=SL p w.1 g2++R) (J:=q.seg++J) ⟨g2,rfl,X2,rfl⟩ (pc fun z=>by simp only[C3,D0];omega)
  ·rw[NE (by simpa using h0)];exact .drop (A:=SL p w.1 g2++R) (J:=J) ⟨g2,rfl,X2,rfl⟩ (pc fun z=>by simp only[C3];omega)
section
variable {p:SP} {s:B0} {g:SG}
def Ba2(hp:L.Perm (SL p s g++R))(hf:Oe PP f=true){cap:Array Value}{v:Int}(hr:Reads PP f cap L (.i v)):Reads PP 79 #[.p p.n,.func (.func f) #[] cap] L (.i (if s.down=true then 0 else v)):=by
 unfold Reads;refine(c79 (some p.n.z) ⟨.func f,#[],cap⟩).c ?_;refine C4 (AF hp) (!s.down,()) rfl ?_;refine M0 (fun(hu:(!s.down)=true)=>?_) (fun(hu:(!s.down)=false)=>?_)
 ·rw[ND (by simpa using hu)];refine Fe hf ?_;have e:(#[]++#[]++cap:Array Value)=cap:=by simp
  rw[e];exact C4 hr (v,()) rfl (.of ⟨rfl,rfl⟩)
 ·rw[NE (by simpa using hu)];exact .of ⟨rfl,rfl⟩
def KH(X:SX p s g):Reads PP 31 #[.p p.n] (SL p s g) (.i (if s.down=true then 0 else(ilen s.ix:Int))):=by
 unfold Reads;refine(c31 (some p.n.z)).c ?_;refine C9 fun n1 _=>B5 (some p.n.z) (C2 NG rfl) ?_;obtain⟨c1,fQ⟩: ∃c1:Nat×Obj,c1=(n1,Obj.cells #[.q (some p.n.z)] 27):=⟨_,rfl⟩;have hp:((n1,Obj.cells #[.q (some p.n.z)] 27)::SL p s g).Perm (SL p s g++[c1]):=by rw[fQ];exact pc fun z=>by simp only[C3,D0,E5];omega
 refine C4 (Ba2 hp (by kernel_rfl) (v:=(ilen s.ix:Int)) ?_) (_,()) rfl (.drop (A:=SL p s g) (J:=[c1]) ⟨rfl,rfl⟩ hp);unfold Reads;refine(c80 (some n1.z)).c ?_;refine B7 rfl (B5 (some p.n.z) (C2 NG rfl) (B7 rfl (B5 (some p.ni.z) (H4 (SL.st hp) rfl) ?_)));exact C4 (Reads.has (SL.i hp) (Cd7 p.ni s.sc.ways s.ix g.Ai X.idx)) ((ilen s.ix:Int),()) rfl (.of ⟨rfl,rfl⟩)
def Be3(X:SX p s g)(hl:s.pend.length<=1000000000):CallF PP 32 #[.p p.n] (SL p s g) fun r L'=> ∃(u:B6) (sg:B1),r= .slice u.a u.len u.cap/\L'=sg++SL p s g/\C5 u 3 Bf ((if s.down=true then[]else s.pend).flatMap P6) sg:=by
 refine(c32 (some p.n.z)).c ?_;have bJ:(SL p s g).Perm (SL p s g++[]):=by rw[NP]
 refine C4 (AF bJ) (!s.down,()) rfl ?_;refine M0 (fun(hu:(!s.down)=true)=>?_) (fun(hu:(!s.down)=false)=>?_)
 ·rw[ND (by simpa using hu)];refine B7 rfl (B5 g.pv (H4 (SL.st bJ) rfl) ?_);refine O1 (Bi3 (SL p s g) g.pv s.pend (X.pd.sl.mono (SL.ps bJ)) hl) ?_;rintro _ _-⟨u,sg,rfl,rfl,own⟩;exact⟨(u,()),rfl,.of ⟨u,sg,rfl,rfl,own⟩⟩
 ·rw[NE (by simpa using hu)];exact .of ⟨⟨none,0,0⟩,[],rfl,rfl,O5⟩
end
end Go.Proofs.YtieboeindnpnaaaGreatDoor
