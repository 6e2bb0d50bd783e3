/-
  It is proved what the functions that the law PlainFlush reaches compute, part 1. There are no further conditions than those that each theorem names.
-/
import Derived.Test.YtieboeindnpnaaaGreatDoorMPlainFlush0
import Derived.Maps.RangeRun
import Derived.Test.YtieboeindnpnaaaGreatDoorProg
import Derived.KernelRfl
set_option linter.defProp false
set_option linter.unusedVariables false
set_option linter.unusedSimpArgs false
namespace Go.HL
variable{ad:Addr}{es:Array MapEntry}{seen:Array Nat}{args:Array Value}{G J L L2 R' X Y seg:B1}{v:B6}{f:FuncId}{A A' B B' N a k k' kE:HP}{j m y:Int}{rs:List Sh}{cs vs ws:List Value}{clock i' j' len m' n off r sz:Nat}{fz:Nat×Nat}{x:Nat×Obj}{o:Obj}{s:Sem Value}{sh:Sh}{α:Type}{T e et kt t2 ty:TypeId}{K:Value->HP}
def Fr(R:B1)(N' N:HP):Prop:= ∀L L2 J,N' L->L2.Perm (L++(R++J))->N L2
def M4(a:Option Addr)(len:Nat)(i:Int)(sz:Nat)(k:Addr->HP):HP:=B4 a fun ad=>D5 i len (k (ad.add (i.toNat*sz)))
def D9(e:Int)(k:Int->HP):HP:=k (IntKind.i64.wrap e)
def Cb(P:Program)(t t2 ty e:TypeId)(v:B6)(n:Nat)(ws:List Value)(k:B6->HP):HP:=fun L=>
 ∀m,Y3 P (Builtin.append_ #[t,t2] ty #[.slice v.a v.len v.cap,.slice (some ⟨m,0,none⟩) n n]) (fun r L'=> ∃s L0,r= .slice s.a s.len s.cap/\L'.Perm ((m,Obj.cells ws.toArray e)::L0)/\k s L0) ((m,Obj.cells ws.toArray e)::L)
def Xl(sh:Sh)(cs:List Value)(off:Nat):Option (F7 sh):=
 match sh with
 | .lf l=>match cs.drop off with|v::_=>l.of v|[]=>none
 | .agg ls=>Tu ls ((cs.drop off).take ls.length)
def Kc:List Value->Nat->List Value->Option (List Value)
 |cs,0,[]=>some cs
 |c::cs,0,w::ws=>match Kc cs 0 ws with|some r=>some (w::r)|none=>none
 |c::cs,i+1,ws=>match Kc cs i ws with|some r=>some (c::r)|none=>none
 |[],_,_=>none
def Jr:B1->Nat->Option (Nat×Obj)
 |p::r,0=>some p
 |p::r,i+1=>Jr r i
 |[],_=>none
def Sf:B1->Nat->Nat×Obj->Option B1
 |p::r,0,x=>some (x::r)
 |p::r,i+1,x=>match Sf r i x with|some r'=>some (p::r')|none=>none
 |[],_,_=>none
def Uy:B1->Nat->Option B1
 |p::r,0=>some r
 |p::r,i+1=>match Uy r i with|some r'=>some (p::r')|none=>none
 |[],_=>none
theorem Qr: ∀{R:B1} {i:Nat} {p:Nat×Obj},Jr R i=some p-> ∃A B,R=A++p::B/\(∀x R',Sf R i x=some R'->R'=A++x::B)/\(∀R',Uy R i=some R'->R'=A++B)
 |p::r,0,q,h=>by
  simp only[Jr,RJ]at h;subst h;exact⟨[],r,rfl,fun x R' h=>by simp only[Sf,RJ]at h;exact h.symm,fun R' h=>by simp only[Uy,RJ]at h;exact h.symm⟩
 |p::r,i+1,q,h=>by
  simp only[Jr]at h;obtain⟨A,B,rfl,h1,h2⟩:=Qr h;refine⟨p::A,B,rfl,fun x R' h=>?_,fun R' h=>?_⟩
  ·simp only[Sf]at h;split at h
   ·rename_i r' hr;obtain rfl:=NI h;rw[h1 _ _ hr];rfl
   ·cases h
  ·simp only[Uy]at h;split at h
   ·rename_i r' hr;obtain rfl:=NI h;rw[h2 _ hr];rfl
   ·cases h
 |[],_,_,h=>by simp[Jr]at h
def Bz0{x:F7 sh}(h:Xl sh cs off=some x): ∀(i:Nat) (v:Value),(sh.vals x)[i]?=some v->cs[off+i]?=some v:=by
 intro i v hv;cases sh with
 |lf l=>
  simp only[Xl]at h;split at h
  ·rename_i u r hu;have:=Lf.of_spec h;cases i with
   |zero=>
    have h2:l.val x=v:=by simpa[Sh.vals]using hv
    have h3:(cs.drop off)[0]?=some u:=by rw[hu];rfl
    rw[RW]at h3;rw[h3,<-this,h2]
   |succ i=>simp[Sh.vals]at hv
  ·cases h
 |agg ls=>
  simp only[Xl]at h;have h1:=EL h;have h3:((cs.drop off).take ls.length)[i]?=some v:=by rw[<-h1];exact hv
  rw[RF]at h3;split at h3
  ·rwa [RW]at h3
  ·cases h3
theorem Zy: ∀(cs:List Value) (off:Nat) (ws cs':List Value),Kc cs off ws=some cs'->off+ws.length<=cs.length/\wr cs.toArray off ws=cs'.toArray
 |cs,0,[],cs',h=>by cases cs<;>simp only[Kc,RJ]at h<;>subst h<;>exact⟨by simp,rfl⟩
 |c::cs,0,w::ws,cs',h=>by
  simp only[Kc]at h;split at h
  ·rename_i r hr;obtain rfl:=NI h;obtain⟨h1,h2⟩:=Zy cs 0 ws r hr;have hl:(0:Nat)+(w::ws).length<=(c::cs).length:=by simp only[NU]at*;omega
   refine⟨hl,?_⟩;apply TQ;intro j;rw[Hg _ _ _ _ (by simpa using hl)];cases j with
   |zero=>simp
   |succ j=>
    have h3:=Hg ws cs.toArray 0 j (by simpa using h1);rw[h2]at h3;simp only[TE,TC,NU,QO,QK,PQ,true_and]at h3⊢;rw[h3];by_cases hj:j<ws.length
    ·rw[NE hj,NE (by omega)]
    ·rw[ND hj,ND (by omega)]
  ·cases h
 |c::cs,i+1,ws,cs',h=>by
  simp only[Kc]at h;split at h
  ·rename_i r hr;obtain rfl:=NI h;obtain⟨h1,h2⟩:=Zy cs i ws r hr;have hl:i+1+ws.length<=(c::cs).length:=by simp only[NU];omega
   refine⟨hl,?_⟩;apply TQ;intro j;rw[Hg _ _ _ _ (by simpa using hl)];cases j with
   |zero=>simp
   |succ j=>
    have h3:=Hg ws cs.toArray i j (by simpa using h1);rw[h2]at h3;simp only[TE,TC]at h3⊢;rw[h3];by_cases hj:i<=j/\j<i+ws.length
    ·rw[NE hj,NE (by omega),show j+1-(i+1)=j-i by omega]
    ·rw[ND hj,ND (by omega)]
  ·cases h
 |[],0,w::ws,_,h=>by simp[Kc]at h
 |[],i+1,ws,_,h=>by simp[Kc]at h
def Bw2{A2 B2 A B:B1}{y:Nat×Obj}(hp:(A2++x::B2).Perm (L++(A++x::B++J))):(A2++y::B2).Perm (L++(A++y::B++J)):=by
 classical
 rw[ON];intro z;have:=hp.count_eq z;simp only[OP,OV]at this⊢;omega
def EB{A B:B1}:x∈L++(A++x::B++J):=OG _ (OA _ (OG _ NG))
def O3.sub(h:O3 L2)(hp:L2.Perm (L++G)):O3 L:=by
 obtain⟨E,F,w,hw⟩:=h;exact⟨E,G++F,w,by rw[<-NZ];exact hw.perm (hp.append_right F)⟩
def C0.perm(h:C0 ad vs L)(hp:L2.Perm (L++G)):C0 ad vs L2:=h.mono fun p hq=>hp.symm.subset (OA _ hq)
section
variable {P:Program} {R:B1}
def Ch7{b:HP}(h:Fr [] a b)(ha:a L):b L:=h L L [] ha (by simp)
def R9{v:Value}:Fr R (Ends K v) (Ends K v):=by
 rintro L L2 J ⟨A,B,hp,hK⟩ h2;exact⟨A,B++(R++J),by rw[<-NZ];exact h2.trans (hp.append_right _),hK⟩
def FJ:Fr R ff N:=fun _ _ _ h=>h.elim
def Il{k' k:Nat->HP}(h: ∀n,Fr R (k' n) (k n)):Fr R (nw o k') (nw o k):=fun L L2 J hN hp n hs=>
 h n _ _ J (hN n (hs.sub (G:=R++J) (hp.cons _))) (hp.cons _)
def U3{k:Nat->HP}(h: ∀n,Fr ((n,o)::R) k' (k n)):Fr R k' (nw o k):=fun L L2 J hN hp n hs=>
 h n L _ J hN ((hp.cons _).trans PC.symm)
def U4{k' k:F7 sh->HP}(h: ∀x,Fr R (k' x) (k x)):Fr R (ld ad sh k') (ld ad sh k):=fun L L2 J ⟨x,hx,hk⟩ hp=>⟨x,hx.perm hp,h x _ _ J hk hp⟩
def H8(i off:Nat){k:F7 sh->HP}{x:F7 sh}(hi:Jr R i=some (n,Obj.cells cs.toArray T fz))(dY:ad=⟨n,off,none⟩)(hx:Xl sh cs off=some x)(h:Fr R k' (k x)):Fr R k' (ld ad sh k):=by
 intro L L2 J hk hp;obtain⟨A,B,rfl,_⟩:=Qr hi;subst dY;refine⟨x,⟨_,T,fz,hp.symm.subset EB,rfl,fun j v hv=>?_⟩,h _ _ J hk hp⟩;simpa using Bz0 hx j v hv
def Up(h:Fr R k' k):Fr R (st ad ws k') (st ad ws k):=by
 rintro L L2 J ⟨A,B,c,T,fz,rfl,hs,h1,h2,hk⟩ hp;obtain⟨A2,B2,rfl⟩:=RB (hp.symm.subset (show(ad.block,Obj.cells c T fz)∈(A++(ad.block,Obj.cells c T fz)::B)++(R++J) by simp));refine⟨A2,B2,c,T,fz,rfl,hs,h1,h2,h _ _ J hk ?_⟩;have h3:(A2++B2).Perm (A++(B++(R++J))):=by
  have h4:((ad.block,Obj.cells c T fz)::(A2++B2)).Perm ((ad.block,Obj.cells c T fz)::(A++(B++(R++J)))):=by
   refine PC.symm.trans (hp.trans ?_);rw[NZ,OM];exact PC
  exact(TH _).1 h4
 refine PC.trans (((h3.cons _)).trans ?_);rw[NZ,OM];exact PC.symm
def S9(i off:Nat){cs':List Value}(hi:Jr R i=some (n,Obj.cells cs.toArray T (0,0)))(dY:ad=⟨n,off,none⟩)(hw:Kc cs off ws=some cs')(hs:Sf R i (n,Obj.cells cs'.toArray T (0,0))=some R')(h:Fr R' k' k):Fr R k' (st ad ws k):=by
 intro L L2 J hk hp;obtain⟨A,B,rfl,cM,_⟩:=Qr hi;obtain rfl:=cM _ _ hs;subst dY;obtain⟨h1,h2⟩:=Zy _ _ _ _ hw;obtain⟨A2,B2,rfl⟩:=RB (hp.symm.subset (EB (L:=L)));refine⟨A2,B2,_,T,(0,0),rfl,rfl,by simpa using h1,fun j hj=>by simp,?_⟩;simp only[h2];exact h _ _ J hk (Bw2 hp)
def Ak9{b:HP}(hp:R.Perm R')(h:Fr R' a b):Fr R a b:=fun L L2 J ha h2=>h L L2 J ha (h2.trans ((hp.append_right J).append_left L))
def S3(i:Nat){b:HP}{p:Nat×Obj}(hi:Jr R i=some p)(hd:Uy R i=some R')(h:Fr (p::R') a b):Fr R a b:=by
 obtain⟨A,B,rfl,_,rO⟩:=Qr hi;obtain rfl:=rO _ hd;exact Ak9 PC h
def S6{b:HP}(h:Fr R' a b)(hR:R=R'++G):Fr R a b:=by
 subst hR;intro L L2 J ha hp;exact h L L2 (G++J) ha (by rw[NZ]at hp;exact hp)
def Al1(h:Fr R k' k):Fr R (keep (C0 ad vs) k') (keep (C0 ad vs) k):=fun L L2 J ⟨h1,h2⟩ hp=>⟨h1.perm hp,h _ _ J h2 hp⟩
def Cc.perm{v:Value}(h:Cc P s v L)(hp:L2.Perm (L++G)):Cc P s v L2:=fun E F w hw=>h E (G++F) w (by rw[<-NZ];exact hw.perm (hp.append_right F))
def Y3.fr(h:Y3 P s K L)(hp:L2.Perm (L++G)):Y3 P s (fun v L'=> ∃L0,L'=L0++G/\K v L0) L2:=by
 intro E F w hw;obtain⟨v,w',L',h1,h2,h3⟩:=h E (G++F) w (by rw[<-NZ];exact hw.perm (hp.append_right F));exact⟨v,w',L'++G,h1,by rw[NZ];exact h2,L',rfl,h3⟩
def Y3.mono{K':Value->HP}(h:Y3 P s K L)(hk: ∀v L',K v L'->K' v L'):Y3 P s K' L:=by
 intro E F w hw;obtain⟨v,w',L',h1,h2,h3⟩:=h E F w hw;exact⟨v,w',L',h1,h2,hk _ _ h3⟩
def Hm(i off:Nat)(hi:Jr R i=some (n,Obj.cells cs.toArray T fz))(dY:ad=⟨n,off,none⟩)(hx:(cs.drop off).take vs.length=vs)(h:Fr R k' k):Fr R k' (keep (C0 ad vs) k):=by
 intro L L2 J hk hp;obtain⟨A,B,rfl,_⟩:=Qr hi;subst dY;exact⟨C2 (hp.symm.subset EB) (by simpa using hx),h _ _ J hk hp⟩
def CallF.fr(h:CallF P f args L K)(hp:L2.Perm (L++G)):CallF P f args L2 fun v L'=> ∃L0,L'=L0++G/\K v L0:=CallF.perm hp.symm (CallF.frame (R:=G) h)
def Q8{k' k:D2 rs->HP}(h: ∀r,Fr R (k' r) (k r)):Fr R (cl P f args rs k') (cl P f args rs k):=fun L L2 J hc hp=>
 CallF.mono (CallF.fr hc hp) (by rintro v L'-⟨L0,rfl,r,hr,hk⟩;exact⟨r,hr,h r _ _ J hk (NH _)⟩)
def Al3{f:Fn}{captured:Array Value}{k' k:D2 rs->HP}(h: ∀r,Fr R (k' r) (k r)):Fr R (U5 P f args captured rs k') (U5 P f args captured rs k):=fun L L2 J ⟨g,h1,h2,hc⟩ hp=>
 ⟨g,h1,h2,CallF.mono (CallF.fr hc hp) (by rintro v L'-⟨L0,rfl,r,hr,hk⟩;exact⟨r,hr,h r _ _ J hk (NH _)⟩)⟩
def X9{t:Bool}(h1:Fr R A' A)(h2:Fr R B' B):Fr R (B3 t A' B') (B3 t A B):=by cases t<;>assumption
def FI{t:Bool}(h1:Fr R A' A)(h2:Fr R B' B):Fr R (B3 t B' A') (B3 (!t) A B):=by cases t<;>assumption
def Ho{x:Int}(h1:Fr R A' A)(h2:Fr R B' B):Fr R (B3 (decide (x=y)) A' B') (B3 (x==y) A B):=by
 by_cases h:x=y
 ·rw[OH h,beq_iff_eq.2 h];exact h1
 ·rw[OF h,beq_eq_false_iff_ne.2 h];exact h2
def Ez{x:Int}(h1:Fr R A' A)(h2:Fr R B' B):Fr R (B3 (decide (x=y)) B' A') (B3 (x !=y) A B):=by
 by_cases h:x=y
 ·rw[OH h];simp only[bne,beq_iff_eq.2 h,Bool.not_true];exact h2
 ·rw[OF h];simp only[bne,beq_eq_false_iff_ne.2 h,Bool.not_false];exact h1
def Al2{x y:ByteArray}(h1:Fr R A' A)(h2:Fr R B' B):Fr R (B3 (decide (x=y)) A' B') (B3 (x.toList==y.toList) A B):=by rw[AJ];exact X9 h1 h2
def Ci0{x y:ByteArray}(h1:Fr R A' A)(h2:Fr R B' B):Fr R (B3 (decide (x=y)) B' A') (B3 (!(x.toList==y.toList)) A B):=by rw[AJ];exact FI h1 h2
def Yd{p:Option Addr}{k' k:Addr->HP}(h: ∀a,p=some a->Fr R (k' a) (k a)):Fr R (B4 p k') (B4 p k):=by
 cases p with
 |none=>exact FJ
 |some a=>exact h a rfl
def Al0{p:Option Addr}{a:Addr}{k:Addr->HP}(hp:p=some a)(h:Fr R k' (k a)):Fr R k' (B4 p k):=by subst hp;exact h
def FF{p:Prop}(h:Fr R k' k):Fr R (Q7 p k') (Q7 p k):=fun L L2 J ⟨h1,h2⟩ hp=>⟨h1,h _ _ J h2 hp⟩
def Ch8{p:Prop}(hq:p)(h:Fr R k' k):Fr R k' (Q7 p k):=fun L L2 J h2 hp=>⟨hq,h _ _ J h2 hp⟩
def Ch9{i n:Int}(h:Fr R k' k):Fr R (D5 i n k') (D5 i n k):=FF h
def Fa{a:Option Addr}{i:Int}{k':Addr->HP}{k:Addr->HP}(h: ∀b,(a=some b/\0<=i/\i<len)->Fr R (k' (b.add (i.toNat*sz))) (k b)):Fr R (M4 a len i sz k') (B4 a fun b=>D5 i len (k b)):=by
 cases a with
 |none=>exact FJ
 |some b=>
  rintro L L2 J ⟨h1,h2⟩ hp;exact⟨h1,h _ ⟨rfl,h1⟩ _ _ J h2 hp⟩
def Ci1{a:Option Addr}{i:Int}{b:Addr}{k:Addr->HP}(he:a=some b/\0<=i/\i<len)(h:Fr R k' (k b)):Fr R k' (B4 a fun b=>D5 i len (k b)):=by
 obtain⟨rfl,h1⟩:=he;intro L L2 J h2 hp;exact⟨h1,h _ _ J h2 hp⟩
def Ch6{l h':Int}{k' k:B6->HP}(h: ∀s,Fr R (k' s) (k s)):Fr R (slc v l h' m sz k') (slc v l h' m sz k):=FF (h _)
def S8{e:Int}{k':Int->HP}(h:Fr R (k' (IntKind.i64.wrap e)) N):Fr R (D9 e k') N:=h
def FE{k' k:F7 sh->HP}(h: ∀r,Fr R (k' r) (k r)):Fr R (Y8 P s sh k') (Y8 P s sh k):=fun L L2 J ⟨r,h1,h2⟩ hp=>⟨r,h1,h r _ _ J h2 hp⟩
def Yc{sh:List Sh}{k' k:D2 sh->HP}(h: ∀r,Fr R (k' r) (k r)):Fr R (S4 P s sh k') (S4 P s sh k):=fun L L2 J ⟨r,h1,h2⟩ hp=>⟨r,h1.perm hp,h r _ _ J h2 hp⟩
def Ch5{a b:Option Sh}{k' k:Iy a->Iy b->HP}(h: ∀x y,Fr R (k' x y) (k x y)):Fr R (Se P s a b k') (Se P s a b k):=fun L L2 J ⟨x,y,h1,h2⟩ hp=>⟨x,y,h1.perm hp,h x y _ _ J h2 hp⟩
def Ak8{sh:List Sh}{k' k:D2 sh->HP}(h: ∀r,Fr R (k' r) (k r)):Fr R (F3 P s sh k') (F3 P s sh k):=fun L L2 J hc hp=>
 (Y3.fr hc hp).mono (by rintro v L' ⟨L0,rfl,r,hr,hk⟩;exact⟨r,hr,h r _ _ J hk (NH _)⟩)
def Ch4{a b:Option Sh}{kE':HP}{k' k:Iy a->Iy b->HP}(h0:Fr R kE' kE)(h: ∀x y,Fr R (k' x y) (k x y)):Fr R (Pm P s a b kE' k') (Pm P s a b kE k):=fun L L2 J hc hp=>
 (Y3.fr hc hp).mono (by
  rintro v L' ⟨L0,rfl,⟨hv,hk⟩|⟨x,y,hv,hk⟩⟩
  ·exact .inl ⟨hv,h0 _ _ J hk (NH _)⟩
  ·exact .inr ⟨x,y,hv,h x y _ _ J hk (NH _)⟩)
def FD{s:Sem Unit}(h:Fr R k' k):Fr R (Aw P s k') (Aw P s k):=by
 intro L L2 J hc hp E F w hw;obtain⟨w',L',h1,h2,h3⟩:=hc E ((R++J)++F) w (by rw[<-NZ];exact hw.perm (hp.append_right F));exact⟨w',L'++(R++J),h1,by rw[NZ];exact h2,h _ _ J h3 (NH _)⟩
def Uq(i:Nat){t:TypeId}{m:Nat}{k':B6->HP}{k:D2 [.lf .sl]->HP}(hi:Jr R i=some (m,Obj.cells ws.toArray e (0,0)))(h: ∀s:B6,Fr R (k' s) (k (s,()))):
  Fr R (Cb P t t2 ty e v n ws k') (F3 P (Builtin.append_ #[t,t2] ty #[.slice v.a v.len v.cap,.slice (some ⟨m,0,none⟩) n n]) [.lf .sl] k):=by
 intro L L2 J hc hp;obtain⟨A,B,rfl,_⟩:=Qr hi;have hY:L2.Perm (((m,Obj.cells ws.toArray e (0,0))::L)++(A++B++J)):=hp.trans (by
  classical
  rw[ON];intro z;simp only[OP,OV];omega)
 refine(Y3.fr (hc m) hY).mono ?_;rintro r L' ⟨L0,rfl,s,L1,rfl,aW,hk⟩;refine⟨(s,()),rfl,h s L1 _ J hk ?_⟩
 classical
 rw[ON];intro z;have:=aW.count_eq z;simp only[OP,OV]at this⊢;omega
def Ye{sh sh':List Sh}{x0:D2 sh}{x0':D2 sh'}{body:D2 sh->(D2 sh->HP)->HP}{body':D2 sh'->(D2 sh'->HP)->HP}{C:B1}(M:D2 sh'->B1)(pr:D2 sh'->D2 sh)(hx:pr x0'=x0)(hR:R=M x0'++C)
  (h: ∀(go':D2 sh'->HP) (go:D2 sh->HP),(∀x,Fr (M x++C) (go' x) (go (pr x)))-> ∀x,Fr (M x++C) (body' x go') (body (pr x) go)):Fr R (lp sh' x0' body') (lp sh x0 body):=by
 rintro L L2 J ⟨I,⟨k0,an⟩,hI⟩ hp;subst hx hR;refine⟨fun k x L2=> ∃x' L1 J1,pr x'=x/\L2.Perm (L1++((M x'++C)++J1))/\I k x' L1,⟨k0,x0',L,J,rfl,hp,an⟩,?_⟩;rintro k _ L2 ⟨x',L1,J1,rfl,aH,nZ⟩;refine h (fun x L''=> ∃k',k'<k/\I k' x L'') _ ?_ x' L1 L2 J1 (hI k x' L1 nZ) aH;rintro x L3 L4 J3 ⟨k',cA,h3⟩ aW;exact⟨k',cA,x,L3,J3,rfl,aW,h3⟩
def Hl{sh:List Sh}{x0:D2 sh}{body body':D2 sh->(D2 sh->HP)->HP}
  (h: ∀(go' go:D2 sh->HP),(∀x,Fr R (go' x) (go x))-> ∀x,Fr R (body' x go') (body x go)):Fr R (lp sh x0 body') (lp sh x0 body):=
 Ye (C:=R) (fun _=>[]) id rfl rfl h
def FG{b b':α->HP}{r r':(α->HP)->HP}
 (hb: ∀y,Fr R (b' y) (b y)) (hr: ∀(j' j:α->HP),(∀y,Fr R (j' y) (j y))->Fr R (r' j') (r j)):Fr R (jn b' r') (jn b r):=hr b' b hb
end
section
variable {P:Program} {L A:B1}
def H3{e:Int}{k:Int->HP}(h: -9223372036854775808<=e/\e<=9223372036854775807)(hk:k e L):D9 e k L:=by
 unfold D9;rw[D7 h.1 h.2];exact hk
def Cl7(h:Sl L v sz vs)(aE:0<sz){i:Int}(hi:i=n)(hn:n<v.len){k:Addr->HP}(hk: ∀a,C0 a ((vs.drop (n*sz)).take sz) L->k a L):M4 v.a v.len i sz k L:=by
 subst hi;obtain⟨a,ha,hl⟩:=h.at' hn aE;refine B7 ha (H7 (by omega) (by omega) (hk _ ?_));rw[NK];refine hl.sub (n*sz) fun j u hu=>?_;rw[RF]at hu;split at hu
 ·rwa [RW]at hu
 ·cases hu
def Bd{enc:α->List Value}(aE: ∀x,(enc x).length=sz)(bF:0<sz){l:List α}(h:Sl L v sz (l.flatMap enc)){i:Int}(hi:i=n)(hn:n<l.length){k:Addr->HP}(hk: ∀a,C0 a (enc l[n]) L->k a L):M4 v.a v.len i sz k L:=by
 subst hi;obtain⟨a,ha,hl⟩:=h.el aE bF hn;refine B7 ha (H7 (by omega) (by have:=h.els_len aE bF;omega) (hk _ ?_));rw[NK];exact hl
def Ap4{ik:IntKind}{l:List Int}(h:R4 L v ik l){i:Int}(hi:i=n)(hn:n<l.length){k:Addr->HP}(hk: ∀a,C0 a [.int ik l[n]] L->k a L):M4 v.a v.len i 1 k L:=by
 subst hi;obtain⟨a,ha⟩:=h.some hn;refine B7 ha (H7 (by omega) (by have:=h.len;omega) (hk _ (h.rd hn ha _ (by rw[NK]))))
def Yp(h:Sl L v 1 vs){i:Int}(hi:i=n)(hn:n<vs.length){k:Addr->HP}(hk: ∀a,C0 a [vs[n]] L->k a L):M4 v.a v.len i 1 k L:=by
 have hl:=h.len;refine Cl7 h (by decide) hi (by omega) fun a ha=>hk a ?_;have e:(vs.drop (n*1)).take 1=[vs[n]]:=by rw[OS,OZ hn];rfl
 rw[<-e];exact ha
def Be8(h:Sl A v sz vs)(aE:0<sz){i:Int}(hi:i=i')(hj:j=j')(hm:m=m')(h1:i'<=j')(h2:j'<=v.len)(h3:j'<=m')(h4:m'<=v.cap){k:B6->HP}
  (hk: ∀s:B6,s.len=j'-i'->s.cap=m'-i'->Sl A s sz ((vs.drop (i'*sz)).take ((j'-i')*sz))->k s L):slc v i j m sz k L:=
 Q2 hi hj hm h1 h3 h4 (hk _ (by simp[G7]) (by simp[G7]) (Sl.slc h aE h1 h2 h3))
def Be9{enc:α->List Value}(aE: ∀x,(enc x).length=sz)(bF:0<sz){l:List α}(h:Sl A v sz (l.flatMap enc)){i:Int}(hi:i=i')(hj:j=j')(hm:m=m')(h1:i'<=j')(h2:j'<=l.length)(h3:j'<=m')(h4:m'<=v.cap){k:B6->HP}
  (hk: ∀s:B6,s.len=j'-i'->s.cap=m'-i'->Sl A s sz (((l.drop i').take (j'-i')).flatMap enc)->k s L):slc v i j m sz k L:=
 Be8 h bF hi hj hm h1 (by rw[h.els_len aE bF];exact h2) h3 h4 fun s a b c=>hk s a b (by rw[Yf aE]at c;exact c)
def GZ{t:TypeId}{bytes:Nat}{z:List Value}(hT:V4 P t e sz bytes z)(h2:W6 P t2)(X Y:B1)(own:C5 v sz e vs seg)(hL:L=X++seg++Y)(hn:n*sz=ws.length)(iN:ws.all Bt=true)
  (hb:(v.len+n)*bytes<=140737488355328) {k:B6->HP} (hk: ∀v' seg',v'.len=v.len+n->C5 v' sz e (vs++ws) seg'->k v' (X++seg'++Y)):Cb P t t2 ty e v n ws k L:=by
 subst hL;intro m;refine Y3.mono (Q1 hT h2 ((m,Obj.cells ws.toArray e)::X) Y own (by simp) (n:=n) (ws:=ws) (Src.sl (v:=⟨some ⟨m,0,none⟩,n,n⟩) ⟨hn,NF _,.inr ⟨_,rfl,C2 NG (by simp)⟩⟩) iN hb (k:=fun r L'=> ∃L0,L'=(m,Obj.cells ws.toArray e)::L0/\k r.1 L0) fun v' seg' h1 h2=>⟨_,rfl,hk v' seg' h1 h2⟩) ?_;rintro r L' ⟨x,rfl,L0,rfl,pM⟩;exact⟨x.1,L0,rfl,NH _,pM⟩
open Classical in
noncomputable def cnt(L:B1)(z:Nat×Obj):Nat:=L.count z
open Classical in
noncomputable def As0(p z:Nat×Obj):Nat:=if p==z then 1 else 0
open Classical in
def C3(X Y:B1)(z:Nat×Obj):cnt (X++Y) z=cnt X z+cnt Y z:=by unfold cnt;exact OP
open Classical in
def D0(p:Nat×Obj)(Y:B1)(z:Nat×Obj):cnt (p::Y) z=cnt Y z+As0 p z:=by unfold cnt As0;exact OV
open Classical in
def E5(z:Nat×Obj):cnt [] z=0:=by unfold cnt;exact PJ
def pc(h: ∀z,cnt X z=cnt Y z):X.Perm Y:=by
 classical
 rw[ON];intro z;have:=h z;unfold cnt at this;exact this
open Classical in
def E8(h:X.Perm Y)(z:Nat×Obj):cnt X z=cnt Y z:=by
 unfold cnt;exact h.count_eq z
def Jg(h:L.Perm (A++Y)): ∀p∈A,p∈L:=fun p hp=>h.symm.subset (by simp[hp])
def Iv{t:TypeId}{bytes:Nat}{z:List Value}(hT:V4 P t e sz bytes z)(h2:W6 P t2)(own:C5 v sz e vs seg)(hL:L.Perm (seg++Y))(hn:n*sz=ws.length)(iN:ws.all Bt=true)
  (hb:(v.len+n)*bytes<=140737488355328) {k:B6->HP} (hk: ∀v' seg',v'.len=v.len+n->C5 v' sz e (vs++ws) seg'->k v' (seg'++Y)):Cb P t t2 ty e v n ws k L:=fun m=>
 Y3.permL (hL.cons _) (GZ hT h2 [] Y own rfl hn iN hb hk m)
def Cs6{t:TypeId}{bytes:Nat}{z:List Value}(hT:V4 P t e sz bytes z)(h2:W6 P t2){x:Value}(own:C5 v sz e vs seg)(hL:L.Perm (seg++Y))(src:Src L x sz n ws)(iN:ws.all Bt=true)
  (hb:(v.len+n)*bytes<=140737488355328) {k:D2 [.lf .sl]->HP} (hk: ∀v' seg',v'.len=v.len+n->C5 v' sz e (vs++ws) seg'->k (v',()) (seg'++Y)):F3 P (Builtin.append_ #[t,t2] ty #[.slice v.a v.len v.cap,x]) [.lf .sl] k L:=by
 refine Y3.permL hL (Q1 hT h2 [] Y own rfl (n:=n) (ws:=ws) ?_ iN hb hk);cases src with
 |sl h=>exact .sl (h.mono fun p hq=>hL.subset hq)
 |str s=>exact .str s
def Mx{c:Array Value}(hL:L.Perm ((n,Obj.cells c T fz)::Y))(dY:ad=⟨n,off,none⟩)(aE:off+ws.length<=c.size)
  (eS:fz.2<=fz.1\/c.size<=fz.1) (c':Array Value) (hc:wr c off ws=c') (hk: ∀L',L'.Perm ((n,Obj.cells c' T fz)::Y)->k L'):st ad ws k L:=by
 obtain⟨A2,B2,rfl⟩:=RB (hL.symm.subset (NG));exact F6 A2 B2 dY rfl aE eS c' hc (hk _ (PC.trans (((TH _).1 (PC.symm.trans hL)).cons _)))
def Ap{k:D2 rs->HP}(h:CallF P f args A K)(hp:L.Perm A)(hk: ∀v L',K v L'-> ∃r,v=Dt rs r/\k r L'):cl P f args rs k L:=
 O1 (CallF.perm hp.symm h) fun v L' _ hK=>hk v L' hK
def Kd{n:Int}(h: -9223372036854775808<=n/\n<=9223372036854775807):Q4 .i64 n:=by
 show(Lit.int .i64 n).wf=true;simp only[Lit.wf,PO,QR];exact h
def C0.hd{v:Value}(h:C0 ad (v::vs) L):C0 ad [v] L:=h.pre fun i u hu=>by
 cases i with
 |zero=>exact hu
 |succ i=>simp at hu
def Kp: ∀p∈A,p∈X++A:=fun _ h=>OG _ h
def Ae0: ∀p∈A,p∈A++X:=fun _ h=>OA _ h
def D6{p:Prop}[Decidable p]{A:HP}(h1:p->A L)(h2: ¬p->B L):B3 (decide p) A B L:=D3 h1 h2
end
set_option linter.unusedSectionVars false
section
variable {P:Program} {L A Y:B1}
def Bs7(own:C5 v sz T vs seg){p:Nat}(hp:p+ws.length<=vs.length)(iN:0<ws.length){a:Addr}(ha:v.a=some a)(dY:ad=Addr.add a p)
  (hL:L.Perm (seg++Y)) (hk: ∀seg' L',L'.Perm (seg'++Y)->C5 v sz T (Bm vs p ws) seg'->k L'):st ad ws k L:=by
 subst dY;rcases own.row with⟨dA,_,_⟩|⟨b,off,c,fz,dA,rfl,aE,eS,hc⟩
 ·rw[ha]at dA;cases dA
 ·rw[ha]at dA;obtain rfl:=NI dA;have hC:=own.len;have aY:=own.cap;have bV:=PD sz aY;refine Mx (n:=b) (off:=off+p) (c:=c) (T:=T) (fz:=fz) (Y:=Y) hL (Fh (ad:=⟨b,off,none⟩) rfl p) (by omega) (by omega) _ rfl fun L' fB=>?_;refine hk [(b,Obj.cells (wr c (off+p) ws) T fz)] L' fB ⟨by rw[BT _ _ _ hp];exact hC,aY,.inr ⟨b,off,_,fz,ha,rfl,by rw[Bi];exact aE,by rw[Bi];exact eS,fun i u hu=>?_⟩⟩;rw[Sv _ _ _ hp]at hu;rw[Hg _ _ _ _ (by omega)];split at hu
  ·rw[NE (by omega),show off+i-(off+p)=i-p by omega];exact hu
  ·rw[ND (by omega)];exact hc i u hu
def Bp2{enc:α->List Value}(aE: ∀x,(enc x).length=sz)(bF:0<sz){l:List α}(hn:n<l.length)(x:α):Bm (l.flatMap enc) (n*sz) (enc x)=(l.set n x).flatMap enc:=by
 have fA:=Ea aE l;have oP:=Ea aE (l.set n x);rw[RQ]at oP;have h0:n*sz+sz<=l.length*sz:=by rw[<-QV];exact PD sz hn
 apply UL;intro i;rw[Sv _ _ _ (by rw[aE,fA];exact h0),aE];by_cases hi:i<l.length*sz
 ·have hq:i/sz<l.length:=by rw[Nat.div_lt_iff_lt_mul bF];exact hi
  have hr:i%sz<sz:=QP _ bF;have eZ:i=i/sz*sz+i%sz:=by rw[VK];exact(Nat.div_add_mod i sz).symm
  generalize i/sz=q at hq eZ;generalize i%sz=r at hr eZ;subst eZ;rw[Yg aE (l.set n x) q (by simpa using hq) r hr,Yg aE l q hq r hr,List.getElem_set];by_cases wW:n=q
  ·subst wW;rw[NE (by omega),NE rfl];congr 1;omega
  ·rw[ND,ND wW];intro hc;rcases PY n q with h|h
   ·have:=PD sz (show n+1<=q by omega);rw[QV]at this;omega
   ·have:=PD sz (show q+1<=n by omega);rw[QV]at this;omega
 ·rw[ND (by omega),SI (by omega),SI (by omega)]
def Uu{enc:α->List Value}(aE: ∀x,(enc x).length=sz)(bF:0<sz){l:List α}(own:C5 v sz T (l.flatMap enc) seg)(hs: ∀p∈seg,p∈L){i:Int}(hi:i=n)(hn:n<l.length){k:Addr->HP}
  (hk: ∀b,v.a=some b->C0 (Addr.add b (n*sz)) (enc l[n]) L->k (Addr.add b (n*sz)) L):M4 v.a v.len i sz k L:=by
 subst hi;obtain⟨a,ha,hl⟩:=own.sl.el aE bF hn;refine B7 ha (H7 (by omega) (by have:=own.sl.els_len aE bF;omega) ?_);rw[NK];exact hk a ha (hl.mono hs)
def Vt{enc:α->List Value}(aE: ∀x,(enc x).length=sz)(bF:0<sz){l:List α}(own:C5 v sz T (l.flatMap enc) seg){b:Addr}(hb:v.a=some b)(hn:n<l.length)(x:α)(hL:L.Perm (seg++Y))
  (hk: ∀seg' L',L'.Perm (seg'++Y)->C5 v sz T ((l.set n x).flatMap enc) seg'->k L'):st (Addr.add b (n*sz)) (enc x) k L:=by
 have h0:n*sz+sz<=l.length*sz:=by rw[<-QV];exact PD sz hn
 refine Bs7 own (p:=n*sz) (by rw[aE,Ea aE];exact h0) (by rw[aE];exact bF) hb rfl hL fun seg' L' fB o=>hk seg' L' fB ?_;rw[Bp2 aE bF hn]at o;exact o
variable {κ:Type} [DecidableEq κ]
def Pf{t:TypeId}{kv:κ->Value}{z:Value}(hT:Fi P t kt et kv z){m:List (κ×Value)}(hL:L.Perm ((r,Obj.map es clock)::Y))(h:Mp kv es m)(k:κ)(v:Value){K:HP}
  (hk: ∀es' clock' L',Mp kv es' (S7 m k v)->L'.Perm ((r,Obj.map es' clock')::Y)->K L'):Aw P (Instr.mapUpdate t (.map (some r)) (kv k) v) K L:=by
 obtain⟨A2,B2,rfl⟩:=RB (hL.symm.subset NG);refine IG hT A2 B2 rfl h k v fun es' clock' hm=>hk es' clock' _ hm ?_;exact PC.trans (((TH _).1 (PC.symm.trans hL)).cons _)
def Aq8{t:TypeId}{kv:κ->Value}{z:Value}(hT:Fi P t kt et kv z){m:List (κ×Value)}(hL:L.Perm ((r,Obj.map es clock)::Y))(h:Mp kv es m)(k:κ){K:D2 []->HP}
  (hk: ∀es' clock' L',Mp kv es' (Cy m k)->L'.Perm ((r,Obj.map es' clock')::Y)->K () L'):F3 P (Builtin.delete_ #[t,t2] ty #[.map (some r),kv k]) [] K L:=by
 obtain⟨A2,B2,rfl⟩:=RB (hL.symm.subset NG);refine Aq9 hT A2 B2 rfl h k fun es' clock' hm=>hk es' clock' _ hm ?_;exact PC.trans (((TH _).1 (PC.symm.trans hL)).cons _)
def EC(k:κ):W9 ([]:List (κ×Value)) k=none:=rfl
def Ie(p:κ×Value)(m:List (κ×Value))(k:κ):W9 (p::m) k=if k=p.1 then some p.2 else W9 m k:=by
 unfold W9;by_cases h:k=p.1
 ·rw[NE h,TF (by simpa using h)];rfl
 ·rw[ND h,TV (by simpa using h)]
theorem Tl: ∀(m:List (κ×Value)) (k:κ) (v:Value) (k':κ),W9 (S7 m k v) k'=if k'=k then some v else W9 m k'
 |[],k,v,k'=>by rw[S7,Ie]
 |p::r,k,v,k'=>by
  rw[S7];by_cases h:k=p.1
  ·rw[NE h,Ie,Ie];by_cases h2:k'=k
   ·subst h2;simp
   ·simp only[h2,if_false];rw[ND (fun e=>h2 (e.trans h.symm))]
  ·rw[ND h,Ie,Ie,Tl r k v k'];by_cases h2:k'=p.1
   ·rw[NE h2,NE h2,ND (fun e=>h (e.symm.trans h2))]
   ·rw[ND h2,ND h2]
theorem Ad0: ∀(m:List (κ×Value)) (k:κ) (v:Value),(m.map Prod.fst).Nodup->((S7 m k v).map Prod.fst).Nodup/\ ∀x,x∈(S7 m k v).map Prod.fst↔x=k\/x∈m.map Prod.fst
 |[],k,v,_=>by simp[S7]
 |p::r,k,v,h=>by
  rw[S7];rw[NS,OW]at h;by_cases hk:k=p.1
  ·rw[NE hk];subst hk;refine⟨by simpa using h,fun x=>by simp⟩
  ·rw[ND hk];obtain⟨h1,h2⟩:=Ad0 r k v h.2;refine⟨?_,fun x=>?_⟩
   ·rw[NS,OW];exact⟨fun hx=>((h2 _).1 hx).elim (fun e=>hk e.symm) h.1,h1⟩
   ·rw[NS,OC,h2,NS,OC];constructor
    ·rintro(a|a|a)<;>simp[a]
    ·rintro(a|a|a)<;>simp[a]
def Bw5{m:List (κ×Value)}{k:κ}(h:k∉m.map Prod.fst):W9 m k=none:=by
 induction m with
 |nil=>rfl
 |cons p r ih=>
  rw[NS,OC,PS]at h;rw[Ie,ND h.1,ih h.2]
theorem Ad9: ∀(m:List (κ×Value)) (k k':κ),(m.map Prod.fst).Nodup->W9 (Cy m k) k'=if k'=k then none else W9 m k'
 |[],k,k',_=>by simp[Cy,EC]
 |p::r,k,k',h=>by
  rw[Cy];rw[NS,OW]at h;by_cases hk:k=p.1
  ·rw[NE hk,Ie];by_cases h2:k'=k
   ·rw[NE h2,h2,hk];exact Bw5 h.1
   ·rw[ND h2,ND (fun e=>h2 (e.trans hk.symm))]
  ·rw[ND hk,Ie,Ie,Ad9 r k k' h.2];by_cases h2:k'=p.1
   ·rw[NE h2,NE h2,ND (fun e=>hk (e.symm.trans h2))]
   ·rw[ND h2,ND h2]
theorem Ae2: ∀(m:List (κ×Value)) (k:κ),(m.map Prod.fst).Nodup->((Cy m k).map Prod.fst).Nodup/\ ∀x,x∈(Cy m k).map Prod.fst->x∈m.map Prod.fst
 |[],k,_=>by simp[Cy]
 |p::r,k,h=>by
  rw[Cy];rw[NS,OW]at h;by_cases hk:k=p.1
  ·rw[NE hk];exact⟨h.2,fun x hx=>by simp[hx]⟩
  ·rw[ND hk];obtain⟨h1,h2⟩:=Ae2 r k h.2;refine⟨?_,fun x hx=>?_⟩
   ·rw[NS,OW];exact⟨fun hx=>h.1 (h2 _ hx),h1⟩
   ·rw[NS,OC]at hx⊢;exact hx.imp id (h2 x)
end
section
variable {P:Program} {L Y:B1} {κ:Type} [DecidableEq κ]
structure Kb(es:Array MapEntry)(clock:Nat):Prop where
 nd:(es.toList.map (·.born)).Nodup
 lt: ∀e∈es.toList,e.born<clock
def Kb.nil(c:Nat):Kb #[] c:=⟨by simp,by simp⟩
def Bv8(es:List MapEntry)(k:Value)(v:Value): ∀i,(es.modify i fun e=>{e with key:=k,val:=v}).map (·.born)=es.map (·.born):=by
 induction es with
 |nil=>intro i;simp
 |cons e r ih=>
  intro i;cases i with
  |zero=>simp
  |succ i=>simp only[YL,NS,ih]
def Az3{t:TypeId}{kv:κ->Value}{z:Value}(hT:Fi P t kt et kv z){m:List (κ×Value)}(A B:B1)(hL:L=A++(r,Obj.map es clock)::B)(h:Mp kv es m)(iV:Kb es clock)(k:κ)(v:Value){K:HP}
  (hk: ∀es' clock',Mp kv es' (S7 m k v)->Kb es' clock'->K (A++(r,Obj.map es' clock')::B)):Aw P (Instr.mapUpdate t (.map (some r)) (kv k) v) K L:=by
 subst hL;intro E F w hw;have hb:w.heap[r]?=some (Obj.map es clock):=hw.blk (r,Obj.map es clock) (by simp);have iP:J4 E w (A++(r,Obj.map es clock)::(B++F)):=by simpa using hw
 obtain⟨i1,i2⟩:=BR (kv:=kv) k v es.toList m 0 h;cases hf:V0 m k 0 with
 |none=>
  refine⟨{w with heap:=w.heap.setIfInBounds r (Obj.map (es.push {key:=kv k,val:=v,born:=clock}) (clock+1))},A++(r,Obj.map (es.push {key:=kv k,val:=v,born:=clock}) (clock+1))::B,?_,?_,hk _ _ ?_ ?_⟩
  ·simp only[Instr.mapUpdate,Sem.run_bind,K5 hT.und,Result.andThen_ok,Kg hb,hT.key.chk,Na hT.key h,hf];exact Mz _ hb
  ·simpa using iP.put (Obj.map (es.push {key:=kv k,val:=v,born:=clock}) (clock+1))
  ·unfold Mp at h⊢;rw[i1 hf,VN,NQ,NQ,h];rfl
  ·refine⟨?_,fun e he=>?_⟩
   ·rw[VN,NQ,RC,QA];refine⟨iV.nd,by simp,fun x hx y hy=>?_⟩;obtain⟨e,he,rfl⟩:=NY.1 hx;have:=iV.lt e he;simp at hy;omega
   ·rw[VN]at he;rcases NJ.1 he with he|he
    ·have:=iV.lt e he;omega
    ·rw[NM.1 he];exact Nat.lt_succ_self _
 |some p=>
  obtain⟨i,u⟩:=p;obtain⟨a1,a2,a3,a4⟩:=i2 i u hf;rw[QK]at a2 a3 a4;have kP:((es[i]?).map (·.key)).getD (kv k)=kv k:=by
   rw[XA]at a3;rw[a3];rfl
  refine⟨{w with heap:=w.heap.setIfInBounds r (Obj.map (es.modify i fun e=>{e with key:=kv k,val:=v}) clock)},A++(r,Obj.map (es.modify i fun e=>{e with key:=kv k,val:=v}) clock)::B,?_,?_,hk _ _ ?_ ?_⟩
  ·simp only[Instr.mapUpdate,Sem.run_bind,K5 hT.und,Result.andThen_ok,Kg hb,hT.key.chk,Na hT.key h,hf,kP,Instr.keyThatStays,hT.key.bits,if_true,Sem.run_pure];exact Mz _ hb
  ·simpa using iP.put (Obj.map (es.modify i fun e=>{e with key:=kv k,val:=v}) clock)
  ·unfold Mp;rw[VO];exact a4
  ·have hm:=Bv8 es.toList (kv k) v i;refine⟨?_,fun e he=>?_⟩
   ·rw[VO,hm];exact iV.nd
   ·rw[VO]at he;have h1:e.born∈(es.toList.modify i fun e=>{e with key:=kv k,val:=v}).map (·.born):=OQ he;rw[hm]at h1;obtain⟨e',lM,h2⟩:=NY.1 h1;have:=iV.lt e' lM;omega
def Az2{t:TypeId}{kv:κ->Value}{z:Value}(hT:Fi P t kt et kv z){m:List (κ×Value)}(hL:L.Perm ((r,Obj.map es clock)::Y))(h:Mp kv es m)(iV:Kb es clock)(k:κ)(v:Value){K:HP}
  (hk: ∀es' clock' L',Mp kv es' (S7 m k v)->Kb es' clock'->L'.Perm ((r,Obj.map es' clock')::Y)->K L'):Aw P (Instr.mapUpdate t (.map (some r)) (kv k) v) K L:=by
 obtain⟨A2,B2,rfl⟩:=RB (hL.symm.subset NG);refine Az3 hT A2 B2 rfl h iV k v fun es' clock' hm hb=>hk es' clock' _ hm hb ?_;exact PC.trans (((TH _).1 (PC.symm.trans hL)).cons _)
def Bw8{t:TypeId}(hu:P.underlying t=some (.map kt et))(hL:L.Perm ((r,Obj.map es clock)::Y)){K:D2 []->HP}
  (hk: ∀L',L'.Perm ((r,Obj.map #[] clock)::Y)->K () L'):F3 P (Builtin.clear_ #[t] ty #[.map (some r)]) [] K L:=by
 obtain⟨A,B,rfl⟩:=RB (hL.symm.subset NG);intro E F w hw;have hb:w.heap[r]?=some (Obj.map es clock):=hw.blk (r,Obj.map es clock) (by simp);have iP:J4 E w (A++(r,Obj.map es clock)::(B++F)):=by simpa using hw
 refine⟨.tuple #[],{w with heap:=w.heap.setIfInBounds r (Obj.map #[] clock)},A++(r,Obj.map #[] clock)::B,?_,by simpa using iP.put (Obj.map #[] clock),(),rfl,hk _ (PC.trans (((TH _).1 (PC.symm.trans hL)).cons _))⟩;have h1:(setObj r (Obj.map #[] clock)).run P w= .ok () {w with heap:=w.heap.setIfInBounds r (Obj.map #[] clock)}:=Mz _ hb;simp only[Builtin.clear_,TE,XC,Sem.run_bind,K5 hu,Result.andThen_ok,Kg hb,h1,Sem.run_pure]
def Bm1{t:TypeId}(hu:P.underlying t=some (.map kt et))(hm:(r,Obj.map es clock)∈L){K:D2 [.lf .ptr]->HP}
  (hk: ∀n,K (some ⟨n,0,none⟩,()) ((n,Obj.mapIter (some r) clock #[] clock)::L)):F3 P (Instr.range t (.map (some r))) [.lf .ptr] K L:=by
 intro E F w hw;have hb:w.heap[r]?=some (Obj.map es clock):=hw.blk _ (OA F hm);refine⟨_,_,_,?_,hw.push (Obj.mapIter (some r) clock #[] clock),(some ⟨w.heap.size,0,none⟩,()),rfl,hk w.heap.size⟩;simp only[Instr.range,Sem.run_bind,K5 hu,Result.andThen_ok,Kg hb,Sem.run_pure,run_newObj];rfl
def Bu6(hL:L.Perm ((n,Obj.mapIter (some r) clock seen clock)::Y))(hm:(r,Obj.map es clock)∈Y)(hb:Kb es clock){kM:Iy none->Iy none->HP}
  (hE:(∀e∈es.toList,e.born∈seen.toList)->kE L) (hM: ∀e L',e∈es.toList->e.born∉seen.toList->L'.Perm ((n,Obj.mapIter (some r) clock (seen.push e.born) clock)::Y)->kM e.key e.val L'):
  Pm P (Instr.next (.pointer (some ⟨n,0,none⟩)) false ty) none none kE kM L:=by
 intro E F w hw;have lU:=hw.perm (hL.append_right F);have hr:w.heap[n]?=some (Obj.mapIter (some r) clock seen clock):=lU.blk (n,_) (by simp);have vX:w.heap[r]?=some (Obj.map es clock):=lU.blk (r,_) (by simp[hm]);rcases run_next_at (P:=P) w ty n r clock clock seen es clock hr vX hb.lt (NF _)with⟨h0,h1⟩|⟨e,he,w1,gS,h1⟩
 ·refine⟨_,w,L,h1,hw,.inl ⟨rfl,hE fun e he=>?_⟩⟩;have:leftOf es seen=#[]:=Array.eq_empty_of_size_eq_zero h0;unfold leftOf at this;rw[Array.filter_eq_empty_iff]at this;have h2:=this e (by simpa using he);simpa using h2
 ·obtain⟨A,B,rfl⟩:=RB (hL.symm.subset NG);have hw3:J4 E w1 (A++(n,Obj.mapIter (some r) clock seen clock)::(B++F)):=by
   rcases gS with rfl|rfl
   ·simpa using hw
   ·have:=hw.drew (w.drawn+1);simpa using this
  refine⟨_,_,A++(n,Obj.mapIter (some r) clock (seen.push e.born) clock)::B,h1,by simpa[ChangeMaps.setBlock]using hw3.put (Obj.mapIter (some r) clock (seen.push e.born) clock),.inr ⟨e.key,e.val,rfl,hM e _ ?_ ?_ ?_⟩⟩
  ·unfold leftOf at he;simp at he;simpa using he.1
  ·unfold leftOf at he;simp at he;simpa using he.2
  ·exact PC.trans (((TH _).1 (PC.symm.trans hL)).cons _)
def Cl5{since:Nat}{e:MapEntry}(hi:(n,Obj.mapIter (some r) since (seen.push e.born) clock)∈L)(hm:(r,Obj.map es clock)∈L)(hb:Kb es clock)(he:e∈es.toList):
  Cc P (Instr.entry (.pointer (some ⟨n,0,none⟩))) (.tuple #[e.key,e.val]) L:=by
 intro E F w hw;exact run_entry_at w n r since seen es clock e (hw.blk _ (OA F hi)) (hw.blk _ (OA F hm)) he hb.nd
end
@[reducible] def _root_.Go.Value.i (n : Int) : Value := .int .i64 n
@[reducible] def _root_.Go.Value.sv (v : B6) : Value := .slice v.a v.len v.cap
@[reducible] def _root_.Go.Value.q (p : Option Addr) : Value := .pointer p
@[reducible] def _root_.Go.Value.t (vs : Array Value) : Value := .tuple vs
@[reducible] def _root_.Go.Value.w (s : ByteArray) : Value := .string s
@[reducible] def _root_.Go.Value.b (b : Bool) : Value := .bool b
@[reducible] def lI : Sh := .lf (.int .i64)
def Hn:D4:=⟨[],[],[]⟩
@[reducible] def _root_.Nat.z (n : Nat) : Addr := ⟨n, 0, none⟩
@[reducible] def _root_.Go.Value.p (n : Nat) : Value := .pointer (some n.z)
@[reducible] def _root_.Go.HL.Z1 : Sh := .agg [.int .i64, .int .i64, .int .i64]
@[reducible] def _root_.Go.HL.Z2 : Sh := .agg [.int .i64, .int .i64, .int .i64, .int .i64, .int .i64]
@[reducible] def _root_.Go.HL.Z3 : Sh := .agg [.int .i64, .int .i64, .int .i64, .int .i64, .int .i64, .int .i64, .int .i64, .int .i64, .int .i64, .int .i64, .int .i64]
@[reducible] def _root_.Go.HL.Z4 : Sh := .agg [.int .i64, .int .i64, .int .i64, .int .i64]
@[reducible] def _root_.Go.HL.Z5 : Sh := .agg [.int .i64, .int .i64, .sl]
@[reducible] def _root_.Go.HL.Z6 : Sh := .agg [.str, .int .i64, .int .i64, .int .i64]
@[reducible] def _root_.Go.HL.Z7 : Sh := .agg [.int .i64, .bool, .bool]
@[reducible] def _root_.Go.HL.Z8 : Sh := .agg [.int .u8, .int .u8, .int .u8, .int .u8, .int .u8, .int .u8, .int .u8, .int .u8]
@[reducible] def _root_.Go.HL.Z9 : Sh := .agg [.int .i64, .int .i64]
@[reducible] def _root_.Go.HL.Z10 : Sh := .agg [.int .i64, .bool, .sl]
@[reducible] def _root_.Go.HL.Z11 : Sh := .agg [.sl, .sl, .int .i64]
@[reducible] def _root_.Go.HL.Z12 : Sh := .agg [.str, .sl, .int .i64]
@[reducible] def _root_.Go.HL.ki11 {α : Type} (x : Int × Int × Int × Int × Int × Int × Int × Int × Int × Int × Int × α) : Array Value := #[.i x.1, .i x.2.1, .i x.2.2.1, .i x.2.2.2.1, .i x.2.2.2.2.1, .i x.2.2.2.2.2.1, .i x.2.2.2.2.2.2.1, .i x.2.2.2.2.2.2.2.1, .i x.2.2.2.2.2.2.2.2.1, .i x.2.2.2.2.2.2.2.2.2.1, .i x.2.2.2.2.2.2.2.2.2.2.1]
@[reducible] def _root_.Go.HL.ki4 {α : Type} (x : Int × Int × Int × Int × α) : Array Value := #[.i x.1, .i x.2.1, .i x.2.2.1, .i x.2.2.2.1]
@[reducible] def _root_.Go.HL.ki3 {α : Type} (x : Int × Int × Int × α) : Array Value := #[.i x.1, .i x.2.1, .i x.2.2.1]
@[reducible] def _root_.Go.HL.kwb {α : Type} (x : ByteArray × Bool × α) : Array Value := #[.w x.1, .b x.2.1]
@[reducible] def _root_.Go.HL.kii {α : Type} (x : Int × Int × α) : Array Value := #[.i x.1, .i x.2.1]
@[reducible] def _root_.Go.HL.kvvi {α : Type} (x : B6 × B6 × Int × α) : Array Value := #[.sv x.1, .sv x.2.1, .i x.2.2.1]
@[reducible] def _root_.Go.HL.kwi3 {α : Type} (x : ByteArray × Int × Int × Int × α) : Array Value := #[.w x.1, .i x.2.1, .i x.2.2.1, .i x.2.2.2.1]
@[reducible] def _root_.Go.HL.ki5 {α : Type} (x : Int × Int × Int × Int × Int × α) : Array Value := #[.i x.1, .i x.2.1, .i x.2.2.1, .i x.2.2.2.1, .i x.2.2.2.2.1]
@[reducible] def _root_.Go.HL.kwvi {α : Type} (x : ByteArray × B6 × Int × α) : Array Value := #[.w x.1, .sv x.2.1, .i x.2.2.1]
@[reducible] def _root_.Go.HL.kiiv {α : Type} (x : Int × Int × B6 × α) : Array Value := #[.i x.1, .i x.2.1, .sv x.2.2.1]
@[reducible] def _root_.Go.HL.kibv {α : Type} (x : Int × Bool × B6 × α) : Array Value := #[.i x.1, .b x.2.1, .sv x.2.2.1]
@[reducible] def _root_.Go.HL.kibb {α : Type} (x : Int × Bool × Bool × α) : Array Value := #[.i x.1, .b x.2.1, .b x.2.2.1]
set_option maxRecDepth 100000
end Go.HL
namespace Go.Proofs.YtieboeindnpnaaaGreatDoor
open Go.HL
variable{A L R:B1}{v:B6}{f:FuncId}{n w:Int}{b p:List UInt8}{a:List Value}{i:Nat}{e:TypeId}
noncomputable abbrev PP:Program:=Tryz.prog
def Bu4:Iz PP:=by unfold Iz;kernel_rfl
def Bw0:PP.follows .mixedOrders=true:=by kernel_rfl
abbrev HX:=Value->HP
variable{t:HX->HP}
def CF(f:FuncId)(a:List Value)(t:HX->HP):Prop:= ∃H fn,PP.funcs[f]?=some fn/\Nw PP H fn a=t
def CF.mk{fn:Func}(H:D4)(h:PP.funcs[f]?=some fn)(e:Nw PP H fn a=t:=by kernel_rfl):CF f a t:=⟨H,fn,h,e⟩
def CF.c{K:HX}(h:CF f a t)(k:t (HL.Ends K) L):CallF PP f a.toArray L K:=by
 obtain⟨H,fn,hf,he⟩:=h;exact CallF.of Bu4 Bw0 hf (congrFun he _) k
def CF.r{v:Value}(h:CF f a t)(k:t (HL.Ends fun v' L'=>v'=v/\L'=L) L):Reads PP f a.toArray L v:=CF.c h k
structure CC(f:FuncId)(a:Array Value)(t:HX->HP):Prop where
 c: ∀{K:HX} {L:B1},t (HL.Ends K) L->CallF PP f a L K
def FC{R':B1}{a b:HP}(A:B1)(h:Fr R' a b)(hR:R=A++R'):Fr R a b:=Ak9 (by rw[hR];exact OT) (S6 h rfl)
def CF.cc{s:HX->HP}(h:CF f a t)(k: ∀K,Fr [] (s (HL.Ends K)) (t (HL.Ends K)):=by
  intro K
  repeat' first
   |exact R9
   |with_reducible refine S8 ?_
   |with_reducible refine Q8 fun _=>?_
   |with_reducible refine U4 fun _=>?_
   |with_reducible refine X9 ?_ ?_
   |with_reducible refine Ho ?_ ?_
   |with_reducible refine FI ?_ ?_
   |with_reducible refine Ez ?_ ?_
   |with_reducible refine Fa fun _ _=>?_
   |with_reducible refine Yd fun _ _=>?_
   |with_reducible refine Al0 (by assumption) ?_
   |with_reducible refine Ci1 (by assumption) ?_
   |with_reducible refine Up ?_
   |with_reducible refine Il fun _=>?_
   |with_reducible refine U3 fun _=>?_
   |with_reducible refine Hl fun _ _ _ _=>?_
   |with_reducible refine FG (fun _=>?_) fun _ _ _=>?_
   |refine H8 0 _ rfl rfl rfl ?_
   |refine H8 1 _ rfl rfl rfl ?_
   |refine H8 2 _ rfl rfl rfl ?_
   |refine H8 3 _ rfl rfl rfl ?_
   |refine S9 0 _ rfl rfl rfl rfl ?_
   |refine S9 1 _ rfl rfl rfl rfl ?_
   |refine S9 2 _ rfl rfl rfl rfl ?_
   |refine S9 3 _ rfl rfl rfl rfl ?_
   |refine Hm 0 _ rfl rfl rfl ?_
   |refine Hm 1 _ rfl rfl rfl ?_
   |with_reducible refine Al1 ?_
   |with_reducible refine fr_keepR ?_
   |with_reducible refine Ak8 fun _=>?_
   |with_reducible refine Yc fun _=>?_
   |with_reducible refine FE fun _=>?_
   |with_reducible refine fr_smA fun _=>?_
   |with_reducible refine FD ?_
   |with_reducible refine Ch4 ?_ fun _ _=>?_
   |with_reducible refine Ch5 fun _ _=>?_
   |with_reducible refine Ch6 fun _=>?_
   |with_reducible refine fr_sls fun _=>?_
   |with_reducible refine Al3 fun _=>?_
   |with_reducible refine Ch9 ?_
   |with_reducible refine FF ?_
   |refine Ch8 (by decide) ?_
   |with_reducible refine Al2 ?_ ?_
   |with_reducible refine Ci0 ?_ ?_
   |refine Uq (v:=_) 0 rfl fun _=>?_
   |exact S6 (by apply_assumption) rfl
   |exact FC [_] (by apply_assumption) rfl
   |exact FC [_,_] (by apply_assumption) rfl
   |exact FC [_,_,_] (by apply_assumption) rfl
   |exact FJ):CC f a.toArray s:=⟨fun x=>CF.c h (Ch7 (k _) x)⟩
def h5:D4:=⟨[(0,[(9,lI)])],[(4,[]),(7,[]),(13,[])],[]⟩
def e5(a:F7 Z3) b:CF 5 [.agg (ki11 a),.sv b] fun c=>nw (.cells (ki11 a) 25) fun a=>ld a.z Z3 fun d=>cl PP 6 #[.agg (ki11 d)] [.lf .ptr,.lf .ptr] fun d=>jn (fun e:D2 []=>ld a.z Z3 fun e=>cl PP 26 #[.agg (ki11 e),.q d.1,.q d.2.1,.sv b] [.lf .ptr] fun e=>jn (fun f:D2 []=>cl PP 19 #[.q d.2.1,.i 0,.i 0] [] fun f=>cl PP 16 #[.q e.1] [lI] fun f=>B3 ((f.1:Int) !=0) (cl PP 8 #[] [.lf .bool] fun a=>c (.b a.1)) (ld a.z Z3 fun a=>cl PP 21 #[.agg (ki11 a),.q d.2.1,.i 0] [.lf .ptr,lI] fun a=>jn (fun d:D2 []=>lp [lI] (0,()) fun d f=>B3 (decide ((d.1:Int)<b.len)) (B4 b.a fun g=>D5 d.1 b.len<|ld (Addr.add (g.add (d.1.toNat*5)) 1) (.lf .str) fun b=>cl PP 27 #[.q e.1,.w b] [lI] fun g=>cl PP 27 #[.q a.1,.w b] [lI] fun h=>B3 (!(((g.1:Int)==2)==((h.1:Int)==2))) (c (.b false)) (cl PP 24 #[.q e.1,.w b] [.lf .sl,lI] fun e=>cl PP 24 #[.q a.1,.w b] [.lf .sl,lI] fun a=>B3 ((g.1:Int)==2) (B3 ((a.2.1:Int) !=0) (c (.b false)) (cl PP 33 #[.sv e.1,.sv a.1] [.lf .bool] fun b=>B3 (!b.1) (c (.b false)) (B3 (!((g.1:Int)==2)) (B3 ((a.2.1:Int)==0) (c (.b false)) (f (IntKind.i64.wrap (d.1+1),()))) (f (IntKind.i64.wrap (d.1+1),()))))) (B3 (!((g.1:Int)==2)) (B3 ((a.2.1:Int)==0) (c (.b false)) (f (IntKind.i64.wrap (d.1+1),()))) (f (IntKind.i64.wrap (d.1+1),()))))) (cl PP 8 #[] [.lf .bool] fun a=>c (.b a.1))) fun b=>B3 ((a.2.1:Int) !=0) (c (.b false)) (cl PP 31 #[.q a.1] [lI] fun d=>cl PP 31 #[.q e.1] [lI] fun e=>B3 ((d.1:Int) !=e.1) (c (.b false)) (cl PP 32 #[.q a.1] [.lf .sl] fun a=>B3 ((a.1.len:Int) !=0) (c (.b false)) (b (())))))) fun a=>B3 (Option.isNone e.1) (B3 (!(Option.isNone e.1)) (cl PP 8 #[] [.lf .bool] fun a=>c (.b a.1)) (c (.b false))) (cl PP 22 #[.q d.2.1] [.lf .bool] fun b=>B3 b.1 (B3 (!(Option.isNone e.1)) (cl PP 8 #[] [.lf .bool] fun a=>c (.b a.1)) (c (.b false))) (a (())))) fun a=>B3 (Option.isNone d.1) (cl PP 8 #[] [.lf .bool] fun a=>c (.b a.1)) (cl PP 7 #[.sv b,.i 120,.i 300] [.lf .bool] fun b=>B3 (!b.1) (cl PP 8 #[] [.lf .bool] fun a=>c (.b a.1)) (a (()))):=CF.mk h5 Tryz.func5
def e6(a:F7 Z3):CF 6 [.agg (ki11 a)] fun b=>nw (.cells (ki11 a) 25) fun a=>ld a.z Z4 fun c=>cl PP 34 #[.agg (ki4 c)] [.lf .ptr,lI] fun c=>B3 ((c.2.1:Int) !=0) (b (.t #[.q none,.q none])) (ld a.z Z3 fun a=>cl PP 21 #[.agg (ki11 a),.q c.1,.i 0] [.lf .ptr,lI] fun a=>B3 ((a.2.1:Int) !=0) (b (.t #[.q none,.q none])) (b (.t #[.q a.1,.q c.1]))):=CF.mk Hn Tryz.func6
def h7:D4:=⟨[(0,[(7,lI)])],[],[]⟩
def e7 a b c:CF 7 [.sv a,.i b,.i c] fun d=>lp [lI] (0,()) fun e f=>B3 (decide ((e.1:Int)<a.len)) (B3 (decide ((e.1:Int)<=b)) (B4 a.a fun b=>D5 e.1 a.len<|ld (Addr.add (b.add (e.1.toNat*5)) 1) (.lf .str) fun b=>B3 (decide ((b.size:Int)>c)) (d (.b false)) (B4 a.a fun b=>D5 e.1 a.len<|ld (Addr.add (b.add (e.1.toNat*5)) 2) (.lf .sl) fun a=>B3 (decide ((a.len:Int)>c)) (d (.b false)) (f (IntKind.i64.wrap (e.1+1),())))) (d (.b (decide ((a.len:Int)<=b))))) (d (.b (decide ((a.len:Int)<=b)))):=CF.mk h7 Tryz.func7
def e8:CF 8 [] fun a=>cl PP 35 #[] [.lf .ptr] fun b=>cl PP 36 #[.q b.1,.w (ByteArray.mk #[97]),.w (ByteArray.mk #[49])] [] fun c=>cl PP 36 #[.q b.1,.w (ByteArray.mk #[97]),.w (ByteArray.mk #[50])] [] fun c=>cl PP 37 #[.q b.1,.w (ByteArray.mk #[97]),.w (ByteArray.mk #[50]),.b true] [.lf .bool] fun c=>cl PP 37 #[.q b.1,.w (ByteArray.mk #[97]),.w (ByteArray.mk #[49]),.b true] [.lf .bool] fun d=>cl PP 38 #[.q b.1,.w (ByteArray.mk #[97]),.w (ByteArray.mk #[49]),.b true] [.lf .bool] fun e=>cl PP 37 #[.q b.1,.w (ByteArray.mk #[97]),.w (ByteArray.mk #[49]),.b true] [.lf .bool] fun f=>cl PP 36 #[.q b.1,.w (ByteArray.mk #[97]),.w (ByteArray.mk #[50])] [] fun g=>cl PP 39 #[.q b.1] [] fun g=>cl PP 38 #[.q b.1,.w (ByteArray.mk #[97]),.w (ByteArray.mk #[49]),.b true] [.lf .bool] fun g=>cl PP 36 #[.q b.1,.w (ByteArray.mk #[66]),.w (ByteArray.mk #[120])] [] fun h=>cl PP 40 #[.q b.1,.w (ByteArray.mk #[66])] [] fun h=>cl PP 36 #[.q none,.w (ByteArray.mk #[97]),.w (ByteArray.mk #[49])] [] fun h=>B3 c.1 (B3 (!d.1) (B3 e.1 (B3 f.1 (B3 (!g.1) (cl PP 37 #[.q b.1,.w (ByteArray.mk #[66]),.w (ByteArray.mk #[]),.b false] [.lf .bool] fun c=>B3 c.1 (cl PP 37 #[.q b.1,.w (ByteArray.mk #[66]),.w (ByteArray.mk #[120]),.b true] [.lf .bool] fun c=>B3 (!c.1) (cl PP 38 #[.q b.1,.w (ByteArray.mk #[66]),.w (ByteArray.mk #[120]),.b true] [.lf .bool] fun c=>B3 c.1 (cl PP 42 #[.q b.1] [.lf .sl] fun b=>nw (.cells #[.w (ByteArray.mk #[66]),.w (ByteArray.mk #[97])] 9) fun c=>cl PP 41 #[.sv b.1,.slice (some c.z) 2 2] [.lf .bool] fun b=>B3 b.1 (cl PP 37 #[.q none,.w (ByteArray.mk #[97]),.w (ByteArray.mk #[]),.b false] [.lf .bool] fun b=>B3 b.1 (cl PP 38 #[.q none,.w (ByteArray.mk #[97]),.w (ByteArray.mk #[49]),.b true] [.lf .bool] fun b=>B3 (!b.1) (cl PP 42 #[.q none] [.lf .sl] fun b=>a (.b ((b.1.len:Int)==0))) (a (.b false))) (a (.b false))) (a (.b false))) (a (.b false))) (a (.b false))) (a (.b false))) (a (.b false))) (a (.b false))) (a (.b false))) (a (.b false))) (a (.b false)):=CF.mk Hn Tryz.func8
def h9:D4:=⟨[],[(13,[])],[(9,[0,1,2,3,5,6,4,7,8])]⟩
def e9 a b(c:B6):CF 9 [.q a,.w b,.slice c.a c.len c.cap] fun d=>cl PP 43 #[.q a,.w b] [lI] fun e=>B3 ((e.1:Int) !=0) (d (.i e.1)) (B3 (decide ((c.len:Int)>65536)) (d (.i 4)) (cl PP 44 #[.q a,.w b] [.lf .bool] fun e=>B4 a fun e=>ld e Z4 fun e=>cl PP 45 #[.i b.size,.i c.len,.agg (ki4 e)] [lI] fun e=>B3 ((e.1:Int)==0) (d (.i 14)) (jn (fun e:D2 []=>B4 a fun e=>ld (e.add 19) (.lf .ptr) fun e=>cl PP 49 #[.q e,.w b,.slice c.a c.len c.cap] [] fun b=>cl PP 50 #[.q a] [lI] fun a=>d (.i a.1)) fun e=>B4 a fun f=>ld (Addr.add (f.add 19) 1) (.lf .ptr) fun g=>cl PP 47 #[.q a,.w b] [.lf (.int .u64)] fun h=>keep (C0 (Addr.add (f.add 19) 1) [.q g])<|cl PP 46 #[.q g,.int .u64 h.1] [.lf .bool] fun f=>B3 f.1 (cl PP 48 #[.q a,.w b,.slice c.a c.len c.cap] [lI] fun a=>B3 ((a.1:Int)==0) (d (.i a.1)) (B3 ((a.1:Int)==11) (d (.i a.1)) (e (())))) (e (()))))):=CF.mk h9 Tryz.func9
def h12:D4:=⟨[],[],[(10,[0,1,2,3,5,6,4,8,7,9])]⟩
def e12 a b:CF 12 [.q a,.w b] fun c=>cl PP 43 #[.q a,.w b] [lI] fun d=>B3 ((d.1:Int) !=0) (c (.t #[.slice none 0 0,.i d.1])) (B4 a fun d=>ld (d.add 19) (.lf .ptr) fun d=>cl PP 53 #[.q d,.w b] [.lf .sl,.lf .bool] fun d=>B3 d.2.1 (c (.t #[.sv d.1,.i 0])) (cl PP 54 #[.q a,.w b] [Z1,.lf .sl,.lf .bool] fun d=>nw (.cells #[.i 0,.i 0,.i 0] 100) fun e=>st e.z [.i d.1.1,.i d.1.2.1,.i d.1.2.2.1]<|B3 (!d.2.2.1) (c (.t #[.slice none 0 0,.i 8])) (B4 a fun f=>ld (Addr.add (f.add 19) 2) (.lf .ptr) fun g=>ld e.z Z1 fun h=>cl PP 47 #[.q a,.w b] [.lf (.int .u64)] fun a=>keep (C0 e.z [.i h.1,.i h.2.1,.i h.2.2.1])<|keep (C0 (Addr.add (f.add 19) 2) [.q g])<|cl PP 55 #[.q g,.int .u64 a.1,.agg (ki3 h)] [.lf .bool] fun a=>c (.t #[.sv d.2.1,.i 0])))):=CF.mk h12 Tryz.func12
def e14 a b:CF 14 [.q a,.w b] fun c=>cl PP 43 #[.q a,.w b] [lI] fun d=>B3 ((d.1:Int) !=0) (c (.t #[.b false,.i d.1])) (cl PP 44 #[.q a,.w b] [.lf .bool] fun a=>c (.t #[.b a.1,.i 0])):=CF.mk Hn Tryz.func14
def e15 a:CF 15 [.q a] fun b=>B3 (!(Option.isNone a)) (B4 a fun a=>ld (a.add 2) (.lf .bool) fun a=>b (.b a)) (b (.b false)):=CF.mk Hn Tryz.func15
def h16:D4:=⟨[(0,[])],[],[(9,[0,1,2,3,6,7,8,9,10,4,5,11,12,13,14,15])]⟩
def e16 a:CF 16 [.q a] fun b=>B3 (Option.isNone a) (b (.i 1)) (B4 a fun c=>ld (Addr.add (c.add 11) 7) (.lf .bool) fun c=>B3 c (b (.i 11)) (lp [] (()) fun c d=>B4 a fun c=>ld (Addr.add (c.add 11) 6) (.lf .sl) fun c=>B3 (decide ((c.len:Int)>0)) (cl PP 56 #[.q a,.i 1] [lI] fun c=>B3 ((c.1:Int) !=0) (b (.i c.1)) (B4 a fun c=>B4 a fun e=>ld (Addr.add (c.add 11) 6) (.lf .sl) fun f=>ld (e.add 2) (lI) fun e=>cl PP 57 #[.i e] [lI] fun e=>keep (C0 (Addr.add (c.add 11) 6) [.sv f])<|Q7 ((6:Int)≠0)<|B3 ((N8 f.len (IntKind.i64.wrap (Int.tdiv e.1 6)):Int)==0) (b (.i 0)) (B4 a fun c=>ld (Addr.add (c.add 11) 6) (.lf .sl) fun c=>slc ⟨c.a,c.len,c.cap⟩ 0 (N8 f.len (IntKind.i64.wrap (Int.tdiv e.1 6))) c.cap 3 fun c=>cl PP 58 #[.sv c] [.lf .sl,lI] fun c=>B3 ((c.2.1:Int) !=0) (b (.i c.2.1)) (B4 a fun g=>nw (.cells #[.slice c.1.a c.1.len c.1.cap] 37) fun c=>cl PP 59 #[.q (some (g.add 11)),.i 3,.slice (some c.z) 1 1] [Z1,lI] fun c=>nw (.cells #[.i 0,.i 0,.i 0] 100) fun g=>st g.z [.i c.1.1,.i c.1.2.1,.i c.1.2.2.1]<|B3 ((c.2.1:Int) !=0) (b (.i c.2.1)) (B4 a fun b=>ld (Addr.add (b.add 11) 6) (.lf .sl) fun b=>cl PP 60 #[.sv b,.i 0,.i (N8 f.len (IntKind.i64.wrap (Int.tdiv e.1 6)))] [.lf .sl] fun b=>B4 a fun a=>st (Addr.add (a.add 11) 6) [.slice b.1.a b.1.len b.1.cap]<|d (())))))) (b (.i 0)))):=CF.mk h16 Tryz.func16
def e18 a b:CF 18 [.q a,.i b] fun c=>cl PP 61 #[.q a] [.lf .bool] fun d=>B3 d.1 (B4 a fun a=>ld (Addr.add (a.add 11) 2) (.lf .ptr) fun a=>cl PP 62 #[.q a,.i b] [] fun a=>c (.t #[])) (c (.t #[])):=CF.mk Hn Tryz.func18
def e19 a b c:CF 19 [.q a,.i b,.i c] fun d=>B3 (!(Option.isNone a)) (B4 a fun e=>ld (e.add 2) (.lf .bool) fun e=>B3 (!e) (B4 a fun e=>st e [.i (L9 b 0)]<|B4 a fun a=>st (a.add 1) [.i c]<|d (.t #[])) (d (.t #[]))) (d (.t #[])):=CF.mk Hn Tryz.func19
def e20 a:CF 20 [.q a] fun b=>B3 (!(Option.isNone a)) (B4 a fun c=>st (c.add 2) [.b false]<|B4 a fun a=>st a [.i 0]<|b (.t #[])) (b (.t #[])):=CF.mk Hn Tryz.func20
def e21(a:F7 Z3) b c:CF 21 [.agg (ki11 a),.q b,.i c] fun d=>nw (.cells (ki11 a) 25) fun a=>B3 (Option.isNone b) (d (.t #[.q none,.i 1])) (ld (Addr.add a.z 4) (lI) fun e=>ld (Addr.add a.z 5) (lI) fun f=>cl PP 63 #[.i e,.i f] [.lf .ptr,lI] fun e=>jn (fun f:D2 []=>cl PP 66 #[.q b] [Z11,lI] fun f=>nw (.cells #[.slice none 0 0,.slice none 0 0,.i 0] 122) fun g=>st g.z [.slice f.1.1.a f.1.1.len f.1.1.cap,.slice f.1.2.1.a f.1.2.1.len f.1.2.1.cap,.i f.1.2.2.1]<|B3 ((f.2.1:Int) !=0) (d (.t #[.q none,.i f.2.1])) (ld a.z Z3 fun f=>ld (Addr.add a.z 8) (lI) fun h=>ld (Addr.add a.z 9) (lI) fun i=>ld (Addr.add g.z 2) (lI) fun j=>ld (Addr.add a.z 6) (lI) fun k=>ld (Addr.add a.z 7) (lI) fun l=>cl PP 67 #[.i h,.i i,.i c,.i 0] [.lf .ptr] fun c=>keep (C0 (Addr.add a.z 7) [.i l])<|keep (C0 (Addr.add a.z 6) [.i k])<|keep (C0 (Addr.add g.z 2) [.i j])<|keep (C0 a.z [.i f.1,.i f.2.1,.i f.2.2.1,.i f.2.2.2.1,.i f.2.2.2.2.1,.i f.2.2.2.2.2.1,.i f.2.2.2.2.2.2.1,.i f.2.2.2.2.2.2.2.1,.i f.2.2.2.2.2.2.2.2.1,.i f.2.2.2.2.2.2.2.2.2.1,.i f.2.2.2.2.2.2.2.2.2.2.1])<|cl PP 68 #[.i k] [.lf .ptr] fun h=>keep (C0 (Addr.add a.z 7) [.i l])<|keep (C0 (Addr.add g.z 2) [.i j])<|keep (C0 a.z [.i f.1,.i f.2.1,.i f.2.2.1,.i f.2.2.2.1,.i f.2.2.2.2.1,.i f.2.2.2.2.2.1,.i f.2.2.2.2.2.2.1,.i f.2.2.2.2.2.2.2.1,.i f.2.2.2.2.2.2.2.2.1,.i f.2.2.2.2.2.2.2.2.2.1,.i f.2.2.2.2.2.2.2.2.2.2.1])<|cl PP 69 #[.i l] [.lf .ptr] fun i=>keep (C0 (Addr.add g.z 2) [.i j])<|keep (C0 a.z [.i f.1,.i f.2.1,.i f.2.2.1,.i f.2.2.2.1,.i f.2.2.2.2.1,.i f.2.2.2.2.2.1,.i f.2.2.2.2.2.2.1,.i f.2.2.2.2.2.2.2.1,.i f.2.2.2.2.2.2.2.2.1,.i f.2.2.2.2.2.2.2.2.2.1,.i f.2.2.2.2.2.2.2.2.2.2.1])<|nw (.map #[] 0) fun a=>nw (.cells #[.i f.1,.i f.2.1,.i f.2.2.1,.i f.2.2.2.1,.i f.2.2.2.2.1,.i f.2.2.2.2.2.1,.i f.2.2.2.2.2.2.1,.i f.2.2.2.2.2.2.2.1,.i f.2.2.2.2.2.2.2.2.1,.i f.2.2.2.2.2.2.2.2.2.1,.i f.2.2.2.2.2.2.2.2.2.2.1,.q b,.q none,.q c.1,.map (some a),.q none,.i j,.slice none 0 0,.b false,.q h.1,.q i.1,.q e.1] 88) fun a=>ld g.z (.lf .sl) fun c=>lp [.lf .sl,lI] (⟨none,0,0⟩,0,()) fun e f=>B3 (decide ((e.2.1:Int)<c.len)) (B4 c.a fun b=>D5 e.2.1 c.len<|ld (b.add (e.2.1.toNat*3)) Z5 fun b=>nw (.cells #[.i 0,.i 0,.slice none 0 0] 131) fun c=>st c.z [.i b.1,.i b.2.1,.slice b.2.2.1.a b.2.2.1.len b.2.2.1.cap]<|ld c.z (lI) fun b=>nw (.cells #[.i b] 3) fun b=>F3 PP (Builtin.append_ #[128,128] 128 #[.sv e.1,.slice (some b.z) 1 1]) [.lf .sl] fun b=>ld (Addr.add (Addr.add a.z 11) 3) (.lf .map) fun a=>ld c.z (lI) fun d=>ld c.z (lI) fun g=>ld (Addr.add c.z 1) (lI) fun h=>ld (Addr.add c.z 2) (.lf .sl) fun c=>nw (.cells #[.i g,.i h,.i 0,.slice c.a c.len c.cap] 133) fun c=>Aw PP (Instr.mapUpdate 78 (.map a) (.i d) (.p c))<|f (⟨b.1.a,b.1.len,b.1.cap⟩,IntKind.i64.wrap (e.2.1+1),())) (cl PP 71 #[.q b] [.lf .sl] fun b=>cl PP 70 #[.sv b.1,.sv e.1] [.lf .ptr,lI] fun b=>st (Addr.add (Addr.add a.z 11) 1) [.q b.1]<|B3 ((b.2.1:Int) !=0) (d (.t #[.q none,.i b.2.1])) (ld (Addr.add g.z 1) (.lf .sl) fun b=>lp [lI] (0,()) fun c e=>B3 (decide ((c.1:Int)<b.len)) (B4 b.a fun d=>D5 c.1 b.len<|ld (d.add (c.1.toNat*4)) Z6 fun b=>nw (.cells #[.w ByteArray.empty,.i 0,.i 0,.i 0] 139) fun d=>st d.z [.w b.1,.i b.2.1,.i b.2.2.1,.i b.2.2.2.1]<|ld d.z (.lf .str) fun b=>ld (Addr.add d.z 1) Z1 fun d=>cl PP 72 #[.p a,.w b,.agg (ki3 d)] [] fun a=>e (IntKind.i64.wrap (c.1+1),())) (d (.t #[.p a,.i 0])))))) fun c=>ld a.z Z4 fun f=>cl PP 64 #[.q b] [Z4] fun b=>keep (C0 a.z [.i f.1,.i f.2.1,.i f.2.2.1,.i f.2.2.2.1])<|Y8 PP (binOp .neq 23 (.agg (ki4 b.1)) (.agg (ki4 f))) (.lf .bool) fun b=>B3 b (d (.t #[.q none,.i 30])) (B3 ((e.2.1:Int) !=0) (d (.t #[.q none,.i 30])) (ld a.z Z3 fun a=>cl PP 65 #[.agg (ki11 a)] [.lf .bool] fun a=>B3 (!a.1) (d (.t #[.q none,.i 30])) (c (()))))):=CF.mk ⟨[(0,[(12,.lf .sl),(74,lI)]),(2,[(116,lI)])],[(6,[])],[(15,[0,1,2,3,5,7,9,11,4,6,8,10,12,13,14,15]),(9,[1,2,4,6,9,12,15,18,0,3,5,10,13,16,7,14,17,19,8,11,20,21,22]),(4,[0,2,3,1,4,5,6,7,8,9,10,11,12,13])]⟩ Tryz.func21
def e22 a:CF 22 [.q a] fun b=>cl PP 29 #[.q a] [.lf .sl] fun a=>lp [lI] (0,()) fun c d=>B3 (decide ((c.1:Int)<a.1.len)) (B4 a.1.a fun e=>D5 c.1 a.1.len<|ld (Addr.add (e.add (c.1.toNat*4)) 3) (.lf .sl) fun e=>cl PP 73 #[.sv e] [Z2,.lf .sl,lI] fun e=>nw (.cells #[.i 0,.i 0,.i 0,.i 0,.i 0] 142) fun f=>st f.z [.i e.1.1,.i e.1.2.1,.i e.1.2.2.1,.i e.1.2.2.2.1,.i e.1.2.2.2.2.1]<|B3 ((e.2.2.1:Int)==0) (B4 a.1.a fun e=>D5 c.1 a.1.len<|B4 a.1.a fun f=>D5 c.1 a.1.len<|ld (Addr.add (e.add (c.1.toNat*4)) 3) (.lf .sl) fun a=>ld (Addr.add (f.add (c.1.toNat*4)) 2) (.lf .sl) fun e=>cl PP 33 #[.sv a,.sv e] [.lf .bool] fun a=>B3 (!a.1) (b (.b true)) (d (IntKind.i64.wrap (c.1+1),()))) (d (IntKind.i64.wrap (c.1+1),()))) (b (.b false)):=CF.mk ⟨[(0,[(4,lI)])],[],[(6,[0,1,2,3,4,5,6,8,9,10,11,7,12,13,14,15])]⟩ Tryz.func22
def e24 a b:CF 24 [.q a,.w b] fun c=>cl PP 43 #[.q a,.w b] [lI] fun d=>B3 ((d.1:Int) !=0) (c (.t #[.slice none 0 0,.i d.1])) (B4 a fun d=>ld (d.add 19) (.lf .ptr) fun d=>cl PP 75 #[.q d,.w b] [.lf .sl,.lf .bool] fun d=>B3 d.2.1 (c (.t #[.sv d.1,.i 0])) (cl PP 54 #[.q a,.w b] [Z1,.lf .sl,.lf .bool] fun a=>nw (.cells #[.i 0,.i 0,.i 0] 100) fun b=>st b.z [.i a.1.1,.i a.1.2.1,.i a.1.2.2.1]<|B3 (!a.2.2.1) (c (.t #[.slice none 0 0,.i 8])) (c (.t #[.sv a.2.1,.i 0])))):=CF.mk Hn Tryz.func24
set_option maxRecDepth 100000
def e26(a:F7 Z3) b c d:CF 26 [.agg (ki11 a),.q b,.q c,.sv d] fun e=>nw (.cells (ki11 a) 25) fun a=>lp [.lf .ptr,lI,lI] (b,0,0,()) fun b f=>B3 (decide ((b.2.2.1:Int)<d.len)) (B4 d.a fun g=>D5 b.2.2.1 d.len<|ld (g.add (b.2.2.1.toNat*5)) (.agg [.int .i64,.str,.sl,.int .i64,.int .i64]) fun d=>nw (.cells #[.i 0,.w ByteArray.empty,.slice none 0 0,.i 0,.i 0] 39) fun g=>st g.z [.i d.1,.w d.2.1,.slice d.2.2.1.a d.2.2.1.len d.2.2.1.cap,.i d.2.2.2.1,.i d.2.2.2.2.1]<|ld g.z (lI) fun d=>B3 ((d:Int)==0) (ld (Addr.add g.z 1) (.lf .str) fun a=>ld (Addr.add g.z 2) (.lf .sl) fun c=>cl PP 9 #[.q b.1,.w a,.sv c] [lI] fun a=>f (b.1,b.2.1,IntKind.i64.wrap (b.2.2.1+1),())) (B3 ((d:Int)==1) (ld (Addr.add g.z 1) (.lf .str) fun a=>cl PP 12 #[.q b.1,.w a] [.lf .sl,lI] fun a=>f (b.1,b.2.1,IntKind.i64.wrap (b.2.2.1+1),())) (B3 ((d:Int)==2) (ld (Addr.add g.z 1) (.lf .str) fun a=>cl PP 14 #[.q b.1,.w a] [.lf .bool,lI] fun a=>f (b.1,b.2.1,IntKind.i64.wrap (b.2.2.1+1),())) (B3 ((d:Int)==3) (cl PP 16 #[.q b.1] [lI] fun a=>f (b.1,b.2.1,IntKind.i64.wrap (b.2.2.1+1),())) (B3 ((d:Int)==4) (ld (Addr.add g.z 3) (lI) fun a=>cl PP 18 #[.q b.1,.i a] [] fun c=>f (b.1,a,IntKind.i64.wrap (b.2.2.1+1),())) (B3 ((d:Int)==5) (ld (Addr.add g.z 3) (lI) fun a=>ld (Addr.add g.z 4) (lI) fun d=>cl PP 19 #[.q c,.i a,.i d] [] fun a=>f (b.1,b.2.1,IntKind.i64.wrap (b.2.2.1+1),())) (B3 ((d:Int)==6) (cl PP 20 #[.q c] [] fun d=>ld a.z Z3 fun a=>cl PP 21 #[.agg (ki11 a),.q c,.i b.2.1] [.lf .ptr,lI] fun a=>B3 ((a.2.1:Int) !=0) (e (.q none)) (f (a.1,b.2.1,IntKind.i64.wrap (b.2.2.1+1),()))) (f (b.1,b.2.1,IntKind.i64.wrap (b.2.2.1+1),()))))))))) (e (.q b.1)):=CF.mk ⟨[(0,[(1,.lf .ptr),(9,lI),(10,lI)])],[],[]⟩ Tryz.func26
def e27 a b:CF 27 [.q a,.w b] fun c=>cl PP 43 #[.q a,.w b] [lI] fun d=>B3 ((d.1:Int) !=0) (c (.i 0)) (B4 a fun d=>ld (d.add 19) (.lf .ptr) fun d=>cl PP 76 #[.q d,.w b] [.lf .bool] fun d=>B3 d.1 (c (.i 1)) (cl PP 54 #[.q a,.w b] [Z1,.lf .sl,.lf .bool] fun a=>nw (.cells #[.i 0,.i 0,.i 0] 100) fun b=>st b.z [.i a.1.1,.i a.1.2.1,.i a.1.2.2.1]<|B3 a.2.2.1 (c (.i 2)) (c (.i 0)))):=CF.mk Hn Tryz.func27
def e29 a:CF 29 [.q a] fun b=>B3 (Option.isNone a) (b (.slice none 0 0)) (B4 a fun a=>ld (a.add 9) (.lf .sl) fun a=>lp [.lf .sl,lI] (⟨none,0,0⟩,0,()) fun c d=>B3 (decide ((c.2.1:Int)<a.len)) (B4 a.a fun b=>D5 c.2.1 a.len<|ld (b.add (c.2.1.toNat*4)) (.agg [.int .i64,.int .i64,.sl,.sl]) fun a=>nw (.cells #[.i 0,.i 0,.slice none 0 0,.slice none 0 0] 146) fun b=>st b.z [.i a.1,.i a.2.1,.slice a.2.2.1.a a.2.2.1.len a.2.2.1.cap,.slice a.2.2.2.1.a a.2.2.2.1.len a.2.2.2.1.cap]<|ld (Addr.add b.z 2) (.lf .sl) fun a=>ld (Addr.add b.z 3) (.lf .sl) fun e=>nw (.cells #[] 5) fun f=>F3 PP (Builtin.append_ #[37,37] 37 #[.slice (some f.z) 0 0,.sv a]) [.lf .sl] fun a=>keep (C0 (Addr.add b.z 3) [.sv e])<|nw (.cells #[] 5) fun f=>F3 PP (Builtin.append_ #[37,37] 37 #[.slice (some f.z) 0 0,.sv e]) [.lf .sl] fun e=>st (Addr.add b.z 2) [.slice a.1.a a.1.len a.1.cap]<|st (Addr.add b.z 3) [.slice e.1.a e.1.len e.1.cap]<|ld b.z (.agg [.int .i64,.int .i64,.sl,.sl]) fun a=>nw (.cells #[.i a.1,.i a.2.1,.slice a.2.2.1.a a.2.2.1.len a.2.2.1.cap,.slice a.2.2.2.1.a a.2.2.2.1.len a.2.2.2.1.cap] 146) fun a=>F3 PP (Builtin.append_ #[61,61] 61 #[.sv c.1,.slice (some a.z) 1 1]) [.lf .sl] fun a=>d (⟨a.1.a,a.1.len,a.1.cap⟩,IntKind.i64.wrap (c.2.1+1),())) (b (.sv c.1))):=CF.mk ⟨[(0,[(3,.lf .sl),(13,lI)])],[],[(7,[1,5,2,6,0,3,8,4,7,9,10,11])]⟩ Tryz.func29
def e31 a:CF 31 [.q a] fun b=>nw (.cells #[.q a] 27) fun a=>ld a.z (.lf .ptr) fun c=>cl PP 79 #[.q c,.func (.func 80) #[] #[.p a]] [lI] fun a=>b (.i a.1):=CF.mk Hn Tryz.func31
def e32 a:CF 32 [.q a] fun b=>cl PP 61 #[.q a] [.lf .bool] fun c=>B3 (!c.1) (b (.slice none 0 0)) (B4 a fun a=>ld (Addr.add (a.add 11) 6) (.lf .sl) fun a=>cl PP 82 #[.sv a] [.lf .sl] fun a=>b (.sv a.1)):=CF.mk Hn Tryz.func32
def e33 a b:CF 33 [.sv a,.sv b] fun c=>S4 PP (Conv.bytesToString (.sv a)) [.lf .str] fun a=>S4 PP (Conv.bytesToString (.sv b)) [.lf .str] fun b=>c (.b (ByteArray.toList a.1==ByteArray.toList b.1)):=CF.mk Hn Tryz.func33
def e34(a:F7 Z4):CF 34 [.agg (ki4 a)] fun b=>nw (.cells (ki4 a) 23) fun a=>ld a.z (lI) fun c=>cl PP 83 #[.i c,.i 2,.i 16] [.lf .bool] fun c=>B3 c.1 (ld (Addr.add a.z 1) (lI) fun c=>cl PP 83 #[.i c,.i 4,.i 16] [.lf .bool] fun c=>B3 (!c.1) (b (.t #[.q none,.i 30])) (ld (Addr.add a.z 2) (lI) fun c=>cl PP 83 #[.i c,.i 64,.i 512] [.lf .bool] fun c=>B3 (!c.1) (b (.t #[.q none,.i 30])) (ld (Addr.add a.z 3) (lI) fun c=>cl PP 83 #[.i c,.i 1,.i 1048576] [.lf .bool] fun c=>B3 (!c.1) (b (.t #[.q none,.i 30])) (ld a.z Z4 fun c=>nw (.cells #[.i 0,.i 0,.b false,.i c.1,.i c.2.1,.i c.2.2.1,.i c.2.2.2.1,.slice none 0 0,.i 0,.slice none 0 0] 108) fun c=>ld a.z (lI) fun d=>lp [lI] (0,()) fun e f=>B3 (decide ((e.1:Int)<d)) (ld (Addr.add a.z 1) (lI) fun b=>Hz PP (Instr.makeSlice 153 (.i b) (.i b)) (.lf .sl) fun b=>nw (.cells #[.slice b.a b.len b.cap,.i 0,.i 0,.b false] 155) fun b=>ld (Addr.add a.z 1) (lI) fun d=>ld (Addr.add a.z 2) (lI) fun a=>cl PP 84 #[.p b,.i d,.i a] [] fun a=>ld (Addr.add c.z 7) (.lf .sl) fun a=>nw (.cells #[.q (some b.z)] 152) fun b=>F3 PP (Builtin.append_ #[106,106] 106 #[.sv a,.slice (some b.z) 1 1]) [.lf .sl] fun a=>st (Addr.add c.z 7) [.slice a.1.a a.1.len a.1.cap]<|f (IntKind.i64.wrap (e.1+1),())) (b (.t #[.p c,.i 0])))))) (b (.t #[.q none,.i 30])):=CF.mk ⟨[(0,[(34,lI)])],[],[]⟩ Tryz.func34
def e35:CF 35 [] fun a=>nw (.map #[] 0) fun b=>nw (.cells #[.map (some b)] 158) fun b=>a (.p b):=CF.mk Hn Tryz.func35
def e36 a b c:CF 36 [.q a,.w b,.w c] fun d=>B3 (Option.isNone a) (d (.t #[])) (cl PP 85 #[.q a,.w b] [.lf .ptr] fun e=>jn (fun a:D2 [.lf .ptr]=>B4 a.1 fun b=>st b [.w c,.b true]<|B4 a.1 fun a=>ld (a.add 2) (.lf .map) fun a=>Aw PP (Instr.mapUpdate 161 (.map a) (.w c) (.b true))<|d (.t #[])) fun c=>B3 (Option.isNone e.1) (nw (.map #[] 0) fun d=>nw (.cells #[.w ByteArray.empty,.b false,.map (some d)] 165) fun d=>B4 a fun a=>ld a (.lf .map) fun a=>Aw PP (Instr.mapUpdate 156 (.map a) (.w b) (.p d))<|c ((some d.z),())) (c (e.1,()))):=CF.mk ⟨[],[(5,[(6,.lf .ptr)])],[]⟩ Tryz.func36
def e37 a b c d:CF 37 [.q a,.w b,.w c,.b d] fun e=>cl PP 85 #[.q a,.w b] [.lf .ptr] fun a=>B3 (!d) (e (.b true)) (B3 (!(Option.isNone a.1)) (B4 a.1 fun a=>ld a (.agg [.str,.bool]) fun a=>Y8 PP (binOp .eql 163 (.agg (kwb a)) (.agg #[.w c,.b true])) (.lf .bool) fun a=>e (.b a)) (e (.b false))):=CF.mk Hn Tryz.func37
def e38 a b c d:CF 38 [.q a,.w b,.w c,.b d] fun e=>cl PP 85 #[.q a,.w b] [.lf .ptr] fun a=>B3 (Option.isNone a.1) (e (.b (!d))) (B3 (!d) (B4 a.1 fun a=>st a [.w ByteArray.empty,.b false]<|e (.b true)) (B4 a.1 fun b=>ld (b.add 2) (.lf .map) fun b=>S4 PP (Instr.lookup 161 (.map b) (.w c) false) [.lf .bool] fun b=>B3 (!b.1) (e (.b false)) (B4 a.1 fun b=>st b [.w c,.b true]<|cl PP 86 #[.q a.1] [] fun a=>e (.b true)))):=CF.mk Hn Tryz.func38
def e39 a:CF 39 [.q a] fun b=>B3 (Option.isNone a) (b (.t #[])) (cl PP 42 #[.q a] [.lf .sl] fun c=>lp [lI] (0,()) fun d e=>B3 (decide ((d.1:Int)<c.1.len)) (B4 c.1.a fun b=>D5 d.1 c.1.len<|ld (b.add (d.1.toNat*1)) (.lf .str) fun b=>B4 a fun a=>ld a (.lf .map) fun a=>S4 PP (Instr.lookup 156 (.map a) (.w b) false) [.lf .ptr] fun a=>cl PP 86 #[.q a.1] [] fun a=>e (IntKind.i64.wrap (d.1+1),())) (b (.t #[]))):=CF.mk ⟨[(0,[(9,lI)])],[],[]⟩ Tryz.func39
def e40 a b:CF 40 [.q a,.w b] fun c=>cl PP 85 #[.q a,.w b] [.lf .ptr] fun a=>B3 (!(Option.isNone a.1)) (B4 a.1 fun a=>st a [.w ByteArray.empty,.b false]<|c (.t #[])) (c (.t #[])):=CF.mk Hn Tryz.func40
def h41:D4:=⟨[(0,[(5,lI)])],[],[(6,[0,1,2,4,5,6,3,7,8])]⟩
def e41 a b:CF 41 [.sv a,.sv b] fun c=>B3 ((a.len:Int) !=b.len) (c (.b false)) (lp [lI] (0,()) fun d e=>B3 (decide ((d.1:Int)<a.len)) (B4 a.a fun f=>D5 d.1 a.len<|B4 b.a fun a=>D5 d.1 b.len<|ld (f.add (d.1.toNat*1)) (.lf .str) fun b=>ld (a.add (d.1.toNat*1)) (.lf .str) fun a=>B3 (!(ByteArray.toList b==ByteArray.toList a)) (c (.b false)) (e (IntKind.i64.wrap (d.1+1),()))) (c (.b true))):=CF.mk h41 Tryz.func41
def e42 a:CF 42 [.q a] fun b=>B3 (Option.isNone a) (b (.slice none 0 0)) (B4 a fun a=>ld a (.lf .map) fun a=>F3 PP (Instr.range 156 (.map a)) [.lf .ptr] fun a=>lp [.lf .sl] (⟨none,0,0⟩,()) fun c d=>Pm PP (Instr.next (.q a.1) false 0) none none (cl PP 87 #[.sv c.1] [] fun a=>b (.sv c.1)) fun b e=>Se PP (Instr.entry (.q a.1)) (some (.lf .str)) none fun a b=>nw (.cells #[.w a] 9) fun a=>F3 PP (Builtin.append_ #[55,55] 55 #[.sv c.1,.slice (some a.z) 1 1]) [.lf .sl] fun a=>d (⟨a.1.a,a.1.len,a.1.cap⟩,())):=CF.mk ⟨[(0,[(3,.lf .sl)])],[],[]⟩ Tryz.func42
def e43 a b:CF 43 [.q a,.w b] fun c=>B3 (Option.isNone a) (c (.i 1)) (B4 a fun a=>ld (Addr.add (a.add 11) 7) (.lf .bool) fun a=>B3 a (c (.i 11)) (B3 (ByteArray.toList b==ByteArray.toList (ByteArray.mk #[])) (c (.i 2)) (B3 (decide ((b.size:Int)>255)) (c (.i 2)) (c (.i 0))))):=CF.mk Hn Tryz.func43
def e44 a b:CF 44 [.q a,.w b] fun c=>B4 a fun d=>ld (d.add 19) (.lf .ptr) fun d=>cl PP 88 #[.q d,.w b] [.lf .bool] fun d=>cl PP 54 #[.q a,.w b] [Z1,.lf .sl,.lf .bool] fun e=>nw (.cells #[.i 0,.i 0,.i 0] 100) fun f=>st f.z [.i e.1.1,.i e.1.2.1,.i e.1.2.2.1]<|B3 e.2.2.1 (B4 a fun g=>ld (Addr.add (g.add 19) 2) (.lf .ptr) fun h=>ld f.z Z1 fun i=>cl PP 47 #[.q a,.w b] [.lf (.int .u64)] fun b=>keep (C0 f.z [.i i.1,.i i.2.1,.i i.2.2.1])<|keep (C0 (Addr.add (g.add 19) 2) [.q h])<|cl PP 89 #[.q h,.int .u64 b.1,.agg (ki3 i)] [.lf .bool] fun b=>B4 a fun b=>ld (Addr.add (b.add 11) 6) (.lf .sl) fun b=>ld f.z Z1 fun f=>nw (.cells (ki3 f) 100) fun f=>F3 PP (Builtin.append_ #[65,65] 65 #[.sv b,.slice (some f.z) 1 1]) [.lf .sl] fun b=>B4 a fun a=>st (Addr.add (a.add 11) 6) [.slice b.1.a b.1.len b.1.cap]<|B3 d.1 (c (.b true)) (c (.b e.2.2.1))) (B3 d.1 (c (.b true)) (c (.b e.2.2.1))):=CF.mk ⟨[],[],[(5,[0,1,2,3,4,5,6,7,8,9,10,11,12]),(4,[0,1,2,3,5,6,4,8,7,9])]⟩ Tryz.func44
def e45 a b(c:F7 Z4):CF 45 [.i a,.i b,.agg (ki4 c)] fun d=>nw (.cells (ki4 c) 23) fun c=>ld (Addr.add c.z 2) (lI) fun e=>cl PP 57 #[.i e] [lI] fun e=>cl PP 90 #[.i a] [.lf .bool] fun f=>B3 (!f.1) (d (.i 0)) (B3 (decide ((b:Int)<0)) (d (.i 0)) (B3 (decide ((b:Int)>65536)) (d (.i 0)) (B3 ((e.1:Int)==0) (d (.i 0)) (Q7 ((e.1:Int)≠0)<|ld (Addr.add c.z 1) (lI) fun c=>cl PP 91 #[.i (IntKind.i64.wrap (Int.tdiv (IntKind.i64.wrap ((IntKind.i64.wrap ((IntKind.i64.wrap ((IntKind.i64.wrap (a+b))+12))+e.1))-1)) e.1)),.i c] [lI] fun a=>d (.i a.1))))):=CF.mk ⟨[],[],[(4,[0,1,2,3,4,5,6,7,8,9,10,11,12])]⟩ Tryz.func45
def e46 a(b:Int):CF 46 [.q a,.int .u64 b] fun c=>B3 (Option.isNone a) (c (.b false)) (cl PP 92 #[.q a] [.lf .sl] fun d=>cl PP 93 #[.sv d.1,.int .u64 b] [lI] fun b=>B3 (decide ((b.1:Int)<0)) (c (.b false)) (cl PP 95 #[.sv d.1,.i b.1,.i (IntKind.i64.wrap (b.1+1))] [.lf .sl] fun b=>cl PP 94 #[.q a,.sv b.1] [] fun a=>c (.b true))):=CF.mk Hn Tryz.func46
def e47 a b:CF 47 [.q a,.w b] fun c=>B4 a fun a=>ld (a.add 10) (lI) fun a=>cl PP 96 #[.i a,.w b] [.lf (.int .u64)] fun a=>c (.int .u64 a.1):=CF.mk Hn Tryz.func47
def e48 a b(c:B6):CF 48 [.q a,.w b,.slice c.a c.len c.cap] fun d=>B4 a fun e=>ld e Z4 fun e=>cl PP 97 #[.w b,.slice c.a c.len c.cap,.agg (ki4 e)] [.lf .sl,lI] fun c=>B3 ((c.2.1:Int) !=0) (d (.i c.2.1)) (cl PP 56 #[.q a,.i c.1.len] [lI] fun e=>B3 ((e.1:Int) !=0) (d (.i e.1)) (B4 a fun e=>cl PP 59 #[.q (some (e.add 11)),.i 2,.slice c.1.a c.1.len c.1.cap] [Z1,lI] fun c=>nw (.cells #[.i 0,.i 0,.i 0] 100) fun e=>st e.z [.i c.1.1,.i c.1.2.1,.i c.1.2.2.1]<|B3 ((c.2.1:Int)==0) (ld e.z Z1 fun e=>cl PP 72 #[.q a,.w b,.agg (ki3 e)] [] fun a=>d (.i c.2.1)) (d (.i c.2.1)))):=CF.mk Hn Tryz.func48
def e49 a b c:CF 49 [.q a,.w b,.sv c] fun d=>B3 (Option.isNone a) (d (.t #[])) (cl PP 88 #[.q a,.w b] [.lf .bool] fun e=>B4 a fun e=>ld (e.add 3) (.lf .ptr) fun f=>nw (.cells #[] 5) fun g=>F3 PP (Builtin.append_ #[37,37] 37 #[.slice (some g.z) 0 0,.sv c]) [.lf .sl] fun c=>keep (C0 (e.add 3) [.q f])<|nw (.cells #[.w b,.slice c.1.a c.1.len c.1.cap,.i 0,.q f,.q none] 184) fun c=>jn (fun e:D2 []=>B4 a fun e=>st (e.add 3) [.p c]<|B4 a fun e=>ld (e.add 1) (lI) fun f=>cl PP 98 #[.p c] [lI] fun g=>keep (C0 (e.add 1) [.i f])<|B4 a fun e=>st (e.add 1) [.i (IntKind.i64.wrap (f+g.1))]<|B4 a fun a=>ld (a.add 4) (.lf .map) fun a=>Aw PP (Instr.mapUpdate 180 (.map a) (.w b) (.p c))<|d (.t #[])) fun b=>B4 a fun d=>ld (d.add 3) (.lf .ptr) fun d=>B3 (!(Option.isNone d)) (B4 a fun a=>ld (a.add 3) (.lf .ptr) fun a=>B4 a fun a=>st (a.add 4) [.p c]<|b (())) (B4 a fun a=>st (a.add 2) [.p c]<|b (()))):=CF.mk ⟨[],[(6,[])],[(7,[0,1,2,4,3,5,6,7,8,9]),(2,[0,2,5,6,7,8,1,3,4,9,10,11])]⟩ Tryz.func49
def e50 a:CF 50 [.q a] fun b=>lp [] (()) fun c d=>B4 a fun c=>ld (c.add 19) (.lf .ptr) fun c=>cl PP 99 #[.q c] [.lf .bool] fun c=>B3 c.1 (B4 a fun c=>ld (c.add 19) (.lf .ptr) fun c=>cl PP 100 #[.q c] [Z12,.lf .bool] fun c=>nw (.cells #[.w ByteArray.empty,.slice none 0 0,.i 0] 179) fun e=>st e.z [.w c.1.1,.slice c.1.2.1.a c.1.2.1.len c.1.2.1.cap,.i c.1.2.2.1]<|jn (fun c:D2 [lI]=>B3 ((c.1:Int)==0) (d (())) (B3 ((c.1:Int)==11) (b (.i c.1)) (B4 a fun b=>ld (Addr.add (b.add 19) 1) (.lf .ptr) fun c=>ld e.z (.lf .str) fun e=>cl PP 47 #[.q a,.w e] [.lf (.int .u64)] fun a=>keep (C0 (Addr.add (b.add 19) 1) [.q c])<|cl PP 101 #[.q c,.int .u64 a.1] [] fun a=>d (())))) fun b=>ld (Addr.add e.z 2) (lI) fun c=>B3 (decide ((c:Int)>0)) (ld e.z (.lf .str) fun c=>ld (Addr.add e.z 1) (.lf .sl) fun d=>cl PP 48 #[.q a,.w c,.sv d] [lI] fun a=>b (a.1,())) (b (8,()))) (b (.i 0)):=CF.mk ⟨[(0,[])],[(6,[(5,lI)])],[(7,[0,1,2,3,5,6,4,7,8,9])]⟩ Tryz.func50
def e53 a b:CF 53 [.q a,.w b] fun c=>cl PP 102 #[.q a,.w b] [.lf .ptr] fun a=>B3 (Option.isNone a.1) (c (.t #[.slice none 0 0,.b false])) (B4 a.1 fun b=>ld (b.add 2) (lI) fun b=>B4 a.1 fun d=>st (d.add 2) [.i (N8 (IntKind.i64.wrap (b+1)) 3)]<|nw (.cells #[] 5) fun b=>B4 a.1 fun a=>ld (a.add 1) (.lf .sl) fun a=>F3 PP (Builtin.append_ #[37,37] 37 #[.slice (some b.z) 0 0,.sv a]) [.lf .sl] fun a=>c (.t #[.sv a.1,.b true])):=CF.mk Hn Tryz.func53
def e54 a b:CF 54 [.q a,.w b] fun c=>nw (.cells #[.i 0,.i 0,.i 0] 100) fun d=>B4 a fun e=>ld (Addr.add (e.add 19) 2) (.lf .ptr) fun f=>cl PP 47 #[.q a,.w b] [.lf (.int .u64)] fun g=>keep (C0 (Addr.add (e.add 19) 2) [.q f])<|cl PP 103 #[.q f,.int .u64 g.1] [.lf .sl] fun e=>lp [lI] (0,()) fun f g=>B3 (decide ((f.1:Int)<e.1.len)) (B4 e.1.a fun h=>D5 f.1 e.1.len<|ld (h.add (f.1.toNat*3)) Z1 fun e=>nw (.cells #[.i 0,.i 0,.i 0] 100) fun h=>st h.z [.i e.1,.i e.2.1,.i e.2.2.1]<|B4 a fun a=>ld (a.add 11) (.lf .ptr) fun a=>ld h.z Z1 fun e=>cl PP 104 #[.q a,.agg (ki3 e)] [.lf .str,.lf .sl,lI] fun a=>B3 ((a.2.2.1:Int)==0) (B3 (ByteArray.toList a.1==ByteArray.toList b) (ld h.z Z1 fun b=>st d.z [.i b.1,.i b.2.1,.i b.2.2.1]<|ld d.z Z1 fun b=>c (.t #[.agg (ki3 b),.sv a.2.1,.b true])) (g (IntKind.i64.wrap (f.1+1),()))) (g (IntKind.i64.wrap (f.1+1),()))) (st d.z [.i 0,.i 0,.i 0]<|ld d.z Z1 fun a=>c (.t #[.agg (ki3 a),.slice none 0 0,.b false])):=CF.mk ⟨[(0,[(22,lI)])],[],[(4,[0,1,2,3,4,5,6,7,8,9,10,11,12,13]),(1,[0,1,2,3,5,6,10,4,7,8,9])]⟩ Tryz.func54
def e55 a(b:Int)(c:F7 Z1):CF 55 [.q a,.int .u64 b,.agg (ki3 c)] fun d=>nw (.cells (ki3 c) 100) fun c=>ld c.z Z1 fun c=>cl PP 105 #[.q a,.int .u64 b,.agg (ki3 c),.func (.func 106) #[] #[]] [.lf .bool] fun a=>d (.b a.1):=CF.mk Hn Tryz.func55
def e56 a b:CF 56 [.q a,.i b] fun c=>lp [] (()) fun d e=>B4 a fun d=>nw (.cells #[.i b] 3) fun f=>cl PP 107 #[.q (some (d.add 11)),.slice (some f.z) 1 1] [.lf .bool] fun d=>B3 (!d.1) (cl PP 108 #[.q a,.i b] [lI] fun a=>B3 ((a.1:Int) !=0) (c (.i a.1)) (e (()))) (B4 a fun a=>nw (.cells #[.i b] 3) fun b=>cl PP 109 #[.q (some (a.add 11)),.slice (some b.z) 1 1] [.lf .bool] fun a=>B3 (!a.1) (c (.i 13)) (c (.i 0))):=CF.mk ⟨[(0,[])],[],[]⟩ Tryz.func56
def e57 a:CF 57 [.i a] fun b=>cl PP 110 #[.i a] [.lf .bool] fun c=>B3 (!c.1) (b (.i 0)) (b (.i (IntKind.i64.wrap (a-16)))):=CF.mk Hn Tryz.func57
def e58 a:CF 58 [.sv a] fun b=>lp [.lf .sl,lI] (⟨none,0,0⟩,0,()) fun c d=>B3 (decide ((c.2.1:Int)<a.len)) (B4 a.a fun e=>D5 c.2.1 a.len<|ld (e.add (c.2.1.toNat*3)) Z1 fun a=>nw (.cells #[.i 0,.i 0,.i 0] 100) fun e=>st e.z [.i a.1,.i a.2.1,.i a.2.2.1]<|ld e.z Z1 fun a=>cl PP 111 #[.agg (ki3 a)] [.lf .bool] fun a=>B3 (!a.1) (b (.t #[.slice none 0 0,.i 3])) (ld e.z (lI) fun a=>ld (Addr.add e.z 1) (lI) fun b=>nw (.cells #[.i a,.i b] 3) fun a=>cl PP 112 #[.sv c.1,.slice (some a.z) 2 2] [.lf .sl,.lf .bool] fun a=>ld (Addr.add e.z 2) (lI) fun b=>cl PP 113 #[.sv a.1,.i b,.i 4] [.lf .sl,lI] fun a=>d (⟨a.1.a,a.1.len,a.1.cap⟩,IntKind.i64.wrap (c.2.1+1),()))) (b (.t #[.sv c.1,.i 0])):=CF.mk ⟨[(0,[(4,.lf .sl),(9,lI)])],[],[]⟩ Tryz.func58
def e59 a b c:CF 59 [.q a,.i b,.sv c] fun d=>nw (.cells #[.i 0,.i 0,.i 0] 100) fun e=>B4 a fun f=>ld (f.add 4) (.lf .ptr) fun f=>B4 a fun g=>ld (g.add 2) (.lf .ptr) fun h=>nw (.cells #[.i c.len] 3) fun i=>cl PP 115 #[.q a,.slice (some i.z) 1 1] [lI] fun i=>keep (C0 (g.add 2) [.q h])<|cl PP 114 #[.q h,.i i.1] [.lf .bool] fun g=>B4 f fun g=>B4 f fun h=>B4 f fun i=>ld g (lI) fun g=>ld (h.add 2) (lI) fun h=>ld (i.add 1) (lI) fun i=>nw (.cells #[.i 0,.i 0,.i 0] 100) fun j=>st j.z [.i g,.i h,.i i]<|B4 a fun g=>B4 f fun h=>B4 f fun i=>B4 f fun k=>ld g (.lf .ptr) fun g=>ld h (lI) fun h=>ld (i.add 1) (lI) fun i=>ld (k.add 2) (lI) fun k=>cl PP 116 #[.q g,.i h,.i i,.i k,.i b,.sv c] [lI] fun g=>B3 ((g.1:Int) !=0) (ld j.z Z1 fun b=>cl PP 117 #[.q a,.i g.1] [lI] fun a=>keep (C0 j.z [.i b.1,.i b.2.1,.i b.2.2.1])<|st e.z [.i b.1,.i b.2.1,.i b.2.2.1]<|ld e.z Z1 fun b=>d (.t #[.agg (ki3 b),.i a.1])) (B4 f fun a=>B4 f fun g=>ld (a.add 3) (.lf .sl) fun a=>ld (g.add 2) (lI) fun g=>nw (.cells #[.i b,.i g,.i c.len] 208) fun b=>F3 PP (Builtin.append_ #[129,129] 129 #[.sv a,.slice (some b.z) 1 1]) [.lf .sl] fun a=>B4 f fun b=>st (b.add 3) [.slice a.1.a a.1.len a.1.cap]<|B4 f fun a=>ld (a.add 2) (lI) fun a=>B4 f fun b=>st (b.add 2) [.i (IntKind.i64.wrap (a+c.len))]<|ld j.z Z1 fun a=>st e.z [.i a.1,.i a.2.1,.i a.2.2.1]<|ld e.z Z1 fun a=>d (.t #[.agg (ki3 a),.i 0])):=CF.mk ⟨[],[],[(7,[0,1,2,3,5,6,7,8,10,11,4,9,12,13,14,15,16,17]),(6,[1,2,0,3,4,5]),(4,[0,1,2,4,5,6,8,9,10,12,13,14,16,17,3,7,11,15,18,19]),(3,[0,1,2,4,5,6,8,9,10,3,7,11,12,13,14]),(2,[0,1,2,4,5,6,3,7,8,9])]⟩ Tryz.func59
def e60 a b c:CF 60 [.sv a,.i b,.i c] fun d=>slc ⟨a.a,a.len,a.cap⟩ b c a.len 3 fun e=>B3 ((b:Int)==c) (d (.sv a)) (slc ⟨a.a,a.len,a.cap⟩ 0 b a.cap 3 fun b=>slc ⟨a.a,a.len,a.cap⟩ c a.len a.cap 3 fun c=>F3 PP (Builtin.append_ #[65,65] 65 #[.sv b,.sv c]) [.lf .sl] fun b=>slc ⟨b.1.a,b.1.len,b.1.cap⟩ b.1.len a.len b.1.cap 3 fun a=>F3 PP (Builtin.clear_ #[65] 0 #[.sv a]) [] fun a=>d (.sv b.1)):=CF.mk ⟨[],[],[(5,[0,1,2,3,4,5,6,7])]⟩ Tryz.func60
def e61 a:CF 61 [.q a] fun b=>B3 (!(Option.isNone a)) (B4 a fun a=>ld (Addr.add (a.add 11) 7) (.lf .bool) fun a=>b (.b (!a))) (b (.b false)):=CF.mk Hn Tryz.func61
def e62 a b:CF 62 [.q a,.i b] fun c=>B3 (Option.isNone a) (c (.t #[])) (B4 a fun d=>ld d Z9 fun e=>nw (.cells #[.i 253402300799] 3) fun f=>cl PP 119 #[.i b,.slice (some f.z) 1 1] [lI] fun b=>keep (C0 d [.i e.1,.i e.2.1])<|cl PP 118 #[.agg (kii e),.i b.1] [lI,Z9] fun b=>nw (.cells #[.i 0,.i 0] 210) fun d=>st d.z [.i b.2.1.1,.i b.2.1.2.1]<|B4 a fun e=>B4 a fun f=>ld (e.add 3) (lI) fun e=>ld (f.add 2) (lI) fun f=>ld d.z Z9 fun g=>nw (.cells #[.i f] 3) fun f=>cl PP 119 #[.i (IntKind.i64.wrap (e+b.1)),.slice (some f.z) 1 1] [lI] fun b=>keep (C0 d.z [.i g.1,.i g.2.1])<|B4 a fun e=>st (e.add 3) [.i b.1]<|keep (C0 d.z [.i g.1,.i g.2.1])<|B4 a fun a=>st a [.i g.1,.i g.2.1]<|c (.t #[])):=CF.mk ⟨[],[],[(2,[0,1,2,3,4,6,8,9,10,5,7,11,14,12,13,15,16,17,18,19,20]),(1,[0,1,2,4,3,5,6,7,8,9,10,11,12,13])]⟩ Tryz.func62
def e63 a b:CF 63 [.i a,.i b] fun c=>B3 (decide ((a:Int)<1)) (c (.t #[.q none,.i 30])) (B3 (decide ((a:Int)>64)) (c (.t #[.q none,.i 30])) (B3 (decide ((b:Int)<1)) (c (.t #[.q none,.i 30])) (B3 (decide ((b:Int)>8)) (c (.t #[.q none,.i 30])) (Hz PP (Instr.makeSlice 216 (.i a) (.i a)) (.lf .sl) fun a=>nw (.cells #[.i b,.slice a.a a.len a.cap] 218) fun a=>c (.t #[.p a,.i 0]))))):=CF.mk Hn Tryz.func63
def e64 a:CF 64 [.q a] fun b=>nw (.cells #[.i 0,.i 0,.i 0,.i 0] 23) fun c=>B3 (Option.isNone a) (st c.z [.i 0,.i 0,.i 0,.i 0]<|ld c.z Z4 fun a=>b (.agg (ki4 a))) (B4 a fun a=>ld (a.add 3) Z4 fun a=>st c.z [.i a.1,.i a.2.1,.i a.2.2.1,.i a.2.2.2.1]<|ld c.z Z4 fun a=>b (.agg (ki4 a))):=CF.mk Hn Tryz.func64
def h65:D4:=⟨[],[],[(3,[0,1,2,3,4,5,6,10,11,7,8,9,12,13,14,15,16])]⟩
def e65(a:F7 Z3):CF 65 [.agg (ki11 a)] fun b=>nw (.cells (ki11 a) 25) fun a=>ld (Addr.add a.z 6) (lI) fun c=>cl PP 120 #[.i c,.i 65536] [.lf .bool] fun c=>B3 c.1 (ld (Addr.add a.z 7) (lI) fun c=>cl PP 120 #[.i c,.i 64] [.lf .bool] fun c=>ld (Addr.add a.z 8) (lI) fun d=>cl PP 120 #[.i d,.i 1048576] [.lf .bool] fun d=>B3 d.1 (ld (Addr.add a.z 9) (lI) fun d=>cl PP 120 #[.i d,.i 1073741824] [.lf .bool] fun d=>B3 c.1 (B3 d.1 (ld (Addr.add a.z 1) (lI) fun c=>ld (Addr.add a.z 2) (lI) fun d=>cl PP 57 #[.i d] [lI] fun d=>keep (C0 (Addr.add a.z 1) [.i c])<|b (.b (decide ((IntKind.i64.wrap (3*(IntKind.i64.wrap (c-2))):Int)<=d.1)))) (b (.b false))) (b (.b false))) (B3 c.1 (b (.b false)) (b (.b false)))) (ld (Addr.add a.z 8) (lI) fun c=>cl PP 120 #[.i c,.i 1048576] [.lf .bool] fun c=>B3 c.1 (ld (Addr.add a.z 9) (lI) fun a=>cl PP 120 #[.i a,.i 1073741824] [.lf .bool] fun a=>b (.b false)) (b (.b false))):=CF.mk h65 Tryz.func65
def h66:D4:=⟨[(1,[(41,lI)]),(3,[(62,lI)]),(5,[(78,lI)])],[],[]⟩
def e66 a:CF 66 [.q a] fun b=>nw (.cells #[.q a] 28) fun a=>nw (.cells #[.slice none 0 0,.slice none 0 0,.i 0] 122) fun c=>ld a.z (.lf .ptr) fun d=>B3 (Option.isNone d) (st c.z [.slice none 0 0,.slice none 0 0,.i 0]<|ld c.z Z11 fun a=>b (.t #[.agg (kvvi a),.i 1])) (ld a.z (.lf .ptr) fun d=>cl PP 15 #[.q d] [.lf .bool] fun d=>B3 d.1 (st c.z [.slice none 0 0,.slice none 0 0,.i 0]<|ld c.z Z11 fun a=>b (.t #[.agg (kvvi a),.i 11])) (ld a.z (.lf .ptr) fun d=>cl PP 121 #[.q d] [.lf .sl,.lf .sl,lI] fun d=>nw (.cells #[.slice none 0 0] 220) fun e=>st e.z [.slice d.2.1.a d.2.1.len d.2.1.cap]<|B3 ((d.2.2.1:Int) !=0) (st c.z [.slice none 0 0,.slice none 0 0,.i 0]<|ld c.z Z11 fun a=>b (.t #[.agg (kvvi a),.i d.2.2.1])) (nw (.cells #[.slice none 0 0,.slice none 0 0,.i 0] 122) fun f=>st f.z [.slice d.1.a d.1.len d.1.cap,.slice none 0 0,.i 0]<|lp [lI] (0,()) fun g h=>B3 (decide ((g.1:Int)<d.1.len)) (B4 d.1.a fun a=>D5 g.1 d.1.len<|ld (a.add (g.1.toNat*3)) Z5 fun a=>nw (.cells #[.i 0,.i 0,.slice none 0 0] 131) fun b=>st b.z [.i a.1,.i a.2.1,.slice a.2.2.1.a a.2.2.1.len a.2.2.1.cap]<|ld (Addr.add f.z 2) (lI) fun a=>ld (Addr.add b.z 1) (lI) fun b=>st (Addr.add f.z 2) [.i (L9 a b)]<|h (IntKind.i64.wrap (g.1+1),())) (nw (.cells #[.slice none 0 0] 120) fun g=>nw (.map #[] 0) fun h=>nw (.cells #[.map none] 223) fun i=>st i.z [.map (some h)]<|cl PP 122 #[.sv d.1,.i 2,.func (.func 123) #[] #[.p a,.p g,.p i]] [] fun a=>nw (.map #[] 0) fun a=>nw (.cells #[.map none] 226) fun h=>st h.z [.map (some a)]<|cl PP 122 #[.sv d.1,.i 3,.func (.func 124) #[] #[.p e,.p h]] [] fun a=>ld g.z (.lf .sl) fun a=>lp [lI] (0,()) fun d e=>B3 (decide ((d.1:Int)<a.len)) (B4 a.a fun b=>D5 d.1 a.len<|ld (b.add (d.1.toNat*4)) Z6 fun a=>nw (.cells #[.w ByteArray.empty,.i 0,.i 0,.i 0] 139) fun b=>st b.z [.w a.1,.i a.2.1,.i a.2.2.1,.i a.2.2.2.1]<|ld h.z (.lf .map) fun a=>ld i.z (.lf .map) fun c=>ld b.z (.lf .str) fun f=>S4 PP (Instr.lookup 223 (.map c) (.w f) false) [Z1] fun c=>S4 PP (Instr.lookup 226 (.map a) (.agg (ki3 c.1)) false) [.lf .bool] fun a=>B3 a.1 (ld i.z (.lf .map) fun a=>ld b.z (.lf .str) fun b=>F3 PP (Builtin.delete_ #[223,9] 0 #[.map a,.w b]) [] fun a=>e (IntKind.i64.wrap (d.1+1),())) (e (IntKind.i64.wrap (d.1+1),()))) (ld g.z (.lf .sl) fun a=>lp [lI] (0,()) fun d e=>B3 (decide ((d.1:Int)<a.len)) (B4 a.a fun b=>D5 d.1 a.len<|ld (b.add (d.1.toNat*4)) Z6 fun a=>nw (.cells #[.w ByteArray.empty,.i 0,.i 0,.i 0] 139) fun b=>st b.z [.w a.1,.i a.2.1,.i a.2.2.1,.i a.2.2.2.1]<|ld i.z (.lf .map) fun a=>ld b.z (.lf .str) fun c=>S4 PP (Instr.lookup 223 (.map a) (.w c) true) [Z1,.lf .bool] fun a=>nw (.cells #[.i 0,.i 0,.i 0] 100) fun c=>st c.z [.i a.1.1,.i a.1.2.1,.i a.1.2.2.1]<|B3 a.2.1 (ld c.z Z1 fun a=>ld (Addr.add b.z 1) Z1 fun c=>Y8 PP (binOp .eql 100 (.agg (ki3 a)) (.agg (ki3 c))) (.lf .bool) fun a=>B3 a (ld (Addr.add f.z 1) (.lf .sl) fun a=>ld b.z Z6 fun b=>nw (.cells (kwi3 b) 139) fun b=>F3 PP (Builtin.append_ #[120,120] 120 #[.sv a,.slice (some b.z) 1 1]) [.lf .sl] fun a=>st (Addr.add f.z 1) [.slice a.1.a a.1.len a.1.cap]<|e (IntKind.i64.wrap (d.1+1),())) (e (IntKind.i64.wrap (d.1+1),()))) (e (IntKind.i64.wrap (d.1+1),()))) (ld f.z Z11 fun a=>st c.z [.slice a.1.a a.1.len a.1.cap,.slice a.2.1.a a.2.1.len a.2.1.cap,.i a.2.2.1]<|ld c.z Z11 fun a=>b (.t #[.agg (kvvi a),.i 0]))))))):=CF.mk h66 Tryz.func66
def e67 a b c d:CF 67 [.i a,.i b,.i c,.i d] fun e=>nw (.cells #[.i 1048576] 3) fun f=>cl PP 119 #[.i a,.slice (some f.z) 1 1] [lI] fun a=>nw (.cells #[.i 253402300799] 3) fun f=>cl PP 119 #[.i c,.slice (some f.z) 1 1] [lI] fun c=>nw (.cells #[.i 1073741824] 3) fun f=>cl PP 119 #[.i b,.slice (some f.z) 1 1] [lI] fun b=>nw (.cells #[.i a.1,.i c.1,.i b.1,.i 0] 214) fun a=>ld (Addr.add a.z 2) (lI) fun b=>nw (.cells #[.i b] 3) fun b=>cl PP 119 #[.i d,.slice (some b.z) 1 1] [lI] fun b=>st (Addr.add a.z 3) [.i b.1]<|e (.p a):=CF.mk Hn Tryz.func67
def e68 a:CF 68 [.i a] fun b=>nw (.map #[] 0) fun c=>nw (.cells #[.i (L9 a 0),.i 0,.q none,.q none,.map (some c)] 182) fun a=>b (.p a):=CF.mk Hn Tryz.func68
set_option maxRecDepth 100000
def e69 a:CF 69 [.i a] fun b=>nw (.cells #[.i (N8 (L9 a 0) 64),.int .u64 0,.int .u64 0,.int .u64 0,.int .u64 0,.int .u64 0,.int .u64 0,.int .u64 0,.int .u64 0,.int .u64 0,.int .u64 0,.int .u64 0,.int .u64 0,.int .u64 0,.int .u64 0,.int .u64 0,.int .u64 0,.int .u64 0,.int .u64 0,.int .u64 0,.int .u64 0,.int .u64 0,.int .u64 0,.int .u64 0,.int .u64 0,.int .u64 0,.int .u64 0,.int .u64 0,.int .u64 0,.int .u64 0,.int .u64 0,.int .u64 0,.int .u64 0,.int .u64 0,.int .u64 0,.int .u64 0,.int .u64 0,.int .u64 0,.int .u64 0,.int .u64 0,.int .u64 0,.int .u64 0,.int .u64 0,.int .u64 0,.int .u64 0,.int .u64 0,.int .u64 0,.int .u64 0,.int .u64 0,.int .u64 0,.int .u64 0,.int .u64 0,.int .u64 0,.int .u64 0,.int .u64 0,.int .u64 0,.int .u64 0,.int .u64 0,.int .u64 0,.int .u64 0,.int .u64 0,.int .u64 0,.int .u64 0,.int .u64 0,.int .u64 0,.i 0,.i 0] 233) fun a=>b (.p a):=CF.mk Hn Tryz.func69
def e70 a b:CF 70 [.sv a,.sv b] fun c=>B3 (decide ((a.len:Int)<1)) (c (.t #[.q none,.i 2])) (B3 (decide ((a.len:Int)>16)) (c (.t #[.q none,.i 2])) (cl PP 127 #[.sv a] [.lf .sl] fun d=>nw (.cells #[.slice d.1.a d.1.len d.1.cap,.slice none 0 0] 238) fun d=>lp [lI] (0,()) fun e f=>B3 (decide ((e.1:Int)<a.len)) (B4 a.a fun b=>D5 e.1 a.len<|ld (b.add (e.1.toNat*3)) Z7 fun a=>nw (.cells #[.i 0,.b false,.b false] 236) fun b=>st b.z [.i a.1,.b a.2.1,.b a.2.2.1]<|ld b.z (lI) fun a=>B3 (decide ((a:Int)<0)) (c (.t #[.q none,.i 2])) (ld b.z (lI) fun a=>B3 (decide ((a:Int)>1048576)) (c (.t #[.q none,.i 2])) (f (IntKind.i64.wrap (e.1+1),())))) (lp [lI] (0,()) fun a e=>B3 (decide ((a.1:Int)<b.len)) (B4 b.a fun f=>D5 a.1 b.len<|ld (f.add (a.1.toNat*1)) (lI) fun b=>cl PP 128 #[.p d,.i b] [.lf .bool] fun f=>B3 (!f.1) (c (.t #[.q none,.i 2])) (ld d.z (.lf .sl) fun c=>B4 c.a fun f=>D5 b c.len<|st (Addr.add (f.add (b.toNat*3)) 2) [.b false]<|ld (Addr.add d.z 1) (.lf .sl) fun c=>nw (.cells #[.i b] 3) fun b=>F3 PP (Builtin.append_ #[128,128] 128 #[.sv c,.slice (some b.z) 1 1]) [.lf .sl] fun b=>st (Addr.add d.z 1) [.slice b.1.a b.1.len b.1.cap]<|e (IntKind.i64.wrap (a.1+1),()))) (c (.t #[.p d,.i 0]))))):=CF.mk ⟨[(0,[(25,lI)]),(2,[(40,lI)])],[],[]⟩ Tryz.func70
def e71 a:CF 71 [.q a] fun b=>cl PP 64 #[.q a] [Z4] fun c=>lp [.lf .sl,lI] (⟨none,0,0⟩,0,()) fun d e=>B3 (decide ((d.2.1:Int)<c.1.1)) (cl PP 77 #[.q a,.i d.2.1] [lI] fun b=>cl PP 129 #[.q a,.i d.2.1] [.lf .bool] fun c=>cl PP 130 #[.q a,.i d.2.1] [lI] fun a=>nw (.cells #[.i b.1,.b c.1,.b ((a.1:Int) !=0)] 236) fun a=>F3 PP (Builtin.append_ #[136,136] 136 #[.sv d.1,.slice (some a.z) 1 1]) [.lf .sl] fun a=>e (⟨a.1.a,a.1.len,a.1.cap⟩,IntKind.i64.wrap (d.2.1+1),())) (b (.sv d.1)):=CF.mk ⟨[(0,[(3,.lf .sl),(8,lI)])],[],[]⟩ Tryz.func71
def e72 a b(c:F7 Z1):CF 72 [.q a,.w b,.agg (ki3 c)] fun d=>nw (.cells (ki3 c) 100) fun c=>B4 a fun e=>ld (Addr.add (e.add 19) 2) (.lf .ptr) fun f=>ld c.z Z1 fun g=>cl PP 47 #[.q a,.w b] [.lf (.int .u64)] fun b=>keep (C0 c.z [.i g.1,.i g.2.1,.i g.2.2.1])<|keep (C0 (Addr.add (e.add 19) 2) [.q f])<|cl PP 131 #[.q f,.int .u64 b.1,.agg (ki3 g)] [Z1,.lf .bool] fun b=>nw (.cells #[.i 0,.i 0,.i 0] 100) fun c=>st c.z [.i b.1.1,.i b.1.2.1,.i b.1.2.2.1]<|B3 b.2.1 (B4 a fun b=>ld (Addr.add (b.add 11) 6) (.lf .sl) fun b=>ld c.z Z1 fun c=>nw (.cells (ki3 c) 100) fun c=>F3 PP (Builtin.append_ #[65,65] 65 #[.sv b,.slice (some c.z) 1 1]) [.lf .sl] fun b=>B4 a fun a=>st (Addr.add (a.add 11) 6) [.slice b.1.a b.1.len b.1.cap]<|d (.t #[])) (d (.t #[])):=CF.mk ⟨[],[],[(3,[0,1,2,3,4,5,6,7,8,9,10,11,12]),(1,[0,1,2,3,5,6,4,8,7,9,10,11,12,13,14,15])]⟩ Tryz.func72
def e73 a:CF 73 [.sv a] fun b=>nw (.cells #[.i 0,.i 0,.i 0,.i 0,.i 0] 142) fun c=>cl PP 132 #[.i a.len] [.lf .bool] fun d=>B3 (!d.1) (st c.z [.i 0,.i 0,.i 0,.i 0,.i 0]<|ld c.z Z2 fun a=>b (.t #[.agg (ki5 a),.slice none 0 0,.i 2])) (cl PP 133 #[.sv a] [.lf .bool] fun d=>B3 d.1 (st c.z [.i 0,.i 0,.i 0,.i 0,.i 0]<|ld c.z Z2 fun a=>b (.t #[.agg (ki5 a),.slice none 0 0,.i 15])) (cl PP 134 #[.sv a,.i (IntKind.i64.wrap (a.len-4)),.i 4] [lI,lI] fun d=>slc ⟨a.a,a.len,a.cap⟩ 0 (IntKind.i64.wrap (a.len-4)) a.cap 1 fun e=>cl PP 135 #[.sv e] [lI] fun e=>B3 ((d.1:Int) !=e.1) (st c.z [.i 0,.i 0,.i 0,.i 0,.i 0]<|ld c.z Z2 fun a=>b (.t #[.agg (ki5 a),.slice none 0 0,.i 12])) (cl PP 134 #[.sv a,.i 4,.i 4] [lI,lI] fun d=>cl PP 134 #[.sv a,.i 10,.i 2] [lI,lI] fun e=>B4 a.a fun f=>D5 0 a.len<|B4 a.a fun g=>D5 1 a.len<|B4 a.a fun h=>D5 2 a.len<|B4 a.a fun i=>D5 8 a.len<|ld (f.add ((0:Int).toNat*1)) (.lf (.int .u8)) fun f=>ld (g.add ((1:Int).toNat*1)) (.lf (.int .u8)) fun g=>ld (h.add ((2:Int).toNat*1)) (.lf (.int .u8)) fun h=>ld (i.add ((8:Int).toNat*1)) (.lf (.int .u8)) fun i=>nw (.cells #[.i 0,.i 0,.i 0,.i 0,.i 0] 142) fun j=>st j.z [.i (IntKind.i64.wrap f),.i (IntKind.i64.wrap g),.i (IntKind.i64.wrap h),.i d.1,.i (IntKind.i64.wrap i)]<|B3 (decide ((e.1:Int)>(IntKind.i64.wrap (a.len-16)))) (st c.z [.i 0,.i 0,.i 0,.i 0,.i 0]<|ld c.z Z2 fun a=>b (.t #[.agg (ki5 a),.slice none 0 0,.i 5])) (nw (.cells #[] 5) fun d=>slc ⟨a.a,a.len,a.cap⟩ 12 (IntKind.i64.wrap (12+e.1)) a.cap 1 fun e=>F3 PP (Builtin.append_ #[37,37] 37 #[.slice (some d.z) 0 0,.sv e]) [.lf .sl] fun d=>ld j.z Z2 fun e=>cl PP 136 #[.agg (ki5 e),.sv d.1,.i a.len] [.lf .sl,lI] fun e=>B3 ((e.2.1:Int) !=0) (st c.z [.i 0,.i 0,.i 0,.i 0,.i 0]<|ld c.z Z2 fun a=>b (.t #[.agg (ki5 a),.slice none 0 0,.i 5])) (S4 PP (Conv.bytesToString (.sv e.1)) [.lf .str] fun e=>S4 PP (Conv.bytesToString (.sv a)) [.lf .str] fun a=>B3 (!(ByteArray.toList e.1==ByteArray.toList a.1)) (st c.z [.i 0,.i 0,.i 0,.i 0,.i 0]<|ld c.z Z2 fun a=>b (.t #[.agg (ki5 a),.slice none 0 0,.i 5])) (ld j.z Z2 fun a=>st c.z [.i a.1,.i a.2.1,.i a.2.2.1,.i a.2.2.2.1,.i a.2.2.2.2.1]<|ld c.z Z2 fun a=>b (.t #[.agg (ki5 a),.sv d.1,.i 0]))))))):=CF.mk ⟨[],[],[(10,[0,1,4,5,8,9,12,13,14,2,3,6,7,10,11,15,16,17,18,19])]⟩ Tryz.func73
def e75 a b:CF 75 [.q a,.w b] fun c=>cl PP 102 #[.q a,.w b] [.lf .ptr] fun a=>B3 (Option.isNone a.1) (c (.t #[.slice none 0 0,.b false])) (nw (.cells #[] 5) fun b=>B4 a.1 fun a=>ld (a.add 1) (.lf .sl) fun a=>F3 PP (Builtin.append_ #[37,37] 37 #[.slice (some b.z) 0 0,.sv a]) [.lf .sl] fun a=>c (.t #[.sv a.1,.b true])):=CF.mk Hn Tryz.func75
def e76 a b:CF 76 [.q a,.w b] fun c=>cl PP 102 #[.q a,.w b] [.lf .ptr] fun a=>c (.b (!(Option.isNone a.1))):=CF.mk Hn Tryz.func76
def e77 a b:CF 77 [.q a,.i b] fun c=>cl PP 137 #[.q a,.i b] [.lf .ptr] fun a=>B3 (!(Option.isNone a.1)) (B4 a.1 fun a=>ld (a.add 2) (lI) fun a=>c (.i a)) (c (.i 0)):=CF.mk Hn Tryz.func77
def e79 a(b:Y5):CF 79 [.q a,.func b.fn b.first b.captured] fun c=>cl PP 61 #[.q a] [.lf .bool] fun a=>B3 (!a.1) (c (.i 0)) (U5 PP b.fn (b.first++#[]) b.captured [lI] fun a=>c (.i a.1)):=CF.mk Hn Tryz.func79
def e80 a:CF 80 [.q a] fun b=>B4 a fun a=>ld a (.lf .ptr) fun a=>B4 a fun a=>ld (Addr.add (a.add 19) 2) (.lf .ptr) fun a=>cl PP 81 #[.q a] [lI] fun a=>b (.i a.1):=CF.mk Hn Tryz.func80
def e81 a:CF 81 [.q a] fun b=>B3 (!(Option.isNone a)) (B4 a fun a=>ld (a.add 1) (.lf .sl) fun a=>lp [lI,lI] (0,0,()) fun c d=>B3 (decide ((c.2.1:Int)<a.len)) (B4 a.a fun b=>D5 c.2.1 a.len<|ld (b.add (c.2.1.toNat*1)) (.lf .sl) fun a=>d (IntKind.i64.wrap (c.1+a.len),IntKind.i64.wrap (c.2.1+1),())) (b (.i c.1))) (b (.i 0)):=CF.mk ⟨[(0,[(3,lI),(13,lI)])],[],[]⟩ Tryz.func81
def e82(a:B6):CF 82 [.slice a.a a.len a.cap] fun b=>B3 (Option.isNone a.a) (b (.slice none 0 0)) (nw (.cells #[] 100) fun c=>F3 PP (Builtin.append_ #[65,65] 65 #[.slice (some c.z) 0 0,.slice a.a a.len a.cap]) [.lf .sl] fun a=>b (.slice a.1.a a.1.len a.1.cap)):=CF.mk Hn Tryz.func82
def e83 a b c:CF 83 [.i a,.i b,.i c] fun d=>B3 (decide ((a:Int)≥b)) (d (.b (decide ((a:Int)<=c)))) (d (.b false)):=CF.mk Hn Tryz.func83
def e84 a b c:CF 84 [.q a,.i b,.i c] fun d=>lp [lI] (0,()) fun e f=>B3 (decide ((e.1:Int)<b)) (B4 a fun a=>ld a (.lf .sl) fun b=>cl PP 139 #[.i c] [.lf .sl] fun c=>keep (C0 a [.sv b])<|B4 b.a fun a=>D5 e.1 b.len<|st (a.add (e.1.toNat*1)) [.slice c.1.a c.1.len c.1.cap]<|f (IntKind.i64.wrap (e.1+1),())) (d (.t #[])):=CF.mk ⟨[(0,[(8,lI)])],[],[(3,[0,1,2,4,5,3,6,7,8])]⟩ Tryz.func84
def e85 a b:CF 85 [.q a,.w b] fun c=>B3 (Option.isNone a) (c (.q none)) (B4 a fun a=>ld a (.lf .map) fun a=>S4 PP (Instr.lookup 156 (.map a) (.w b) false) [.lf .ptr] fun a=>c (.q a.1)):=CF.mk Hn Tryz.func85
def e86 a:CF 86 [.q a] fun b=>B4 a fun c=>ld (c.add 2) (.lf .map) fun c=>F3 PP (Builtin.clear_ #[161] 0 #[.map c]) [] fun c=>B4 a fun c=>ld (c.add 1) (.lf .bool) fun c=>B3 c (B4 a fun c=>B4 a fun a=>ld (c.add 2) (.lf .map) fun c=>ld a (.lf .str) fun a=>Aw PP (Instr.mapUpdate 161 (.map c) (.w a) (.b true))<|b (.t #[])) (b (.t #[])):=CF.mk ⟨[],[],[(2,[0,1,2,4,5,6,7,3,8,9])]⟩ Tryz.func86
def e87 a:CF 87 [.sv a] fun b=>cl PP 141 #[.int .u64 (IntKind.u64.wrap a.len)] [lI] fun c=>cl PP 140 #[.sv a,.i 0,.i a.len,.i c.1] [] fun a=>b (.t #[]):=CF.mk Hn Tryz.func87
def e88 a b:CF 88 [.q a,.w b] fun c=>cl PP 102 #[.q a,.w b] [.lf .ptr] fun b=>B3 (Option.isNone b.1) (c (.b false)) (cl PP 142 #[.q a,.q b.1] [] fun a=>c (.b true)):=CF.mk Hn Tryz.func88
def e89 a(b:Int)(c:F7 Z1):CF 89 [.q a,.int .u64 b,.agg (ki3 c)] fun d=>nw (.cells (ki3 c) 100) fun c=>ld c.z Z1 fun c=>cl PP 143 #[.q a,.int .u64 b,.agg (ki3 c)] [Z2,.lf .bool] fun a=>nw (.cells #[.i 0,.i 0,.i 0,.i 0,.i 0] 197) fun b=>st b.z [.i a.1.1,.i a.1.2.1,.i a.1.2.2.1,.i a.1.2.2.2.1,.i a.1.2.2.2.2.1]<|d (.b a.2.1):=CF.mk Hn Tryz.func89
def e90 a:CF 90 [.i a] fun b=>B3 (decide ((a:Int)≥1)) (b (.b (decide ((a:Int)<=255)))) (b (.b false)):=CF.mk Hn Tryz.func90
def e91 a b:CF 91 [.i a,.i b] fun c=>B3 (decide ((a:Int)<1)) (c (.i 0)) (B3 (decide ((b:Int)<2)) (c (.i 0)) (ld ⟨0,0,none⟩ Z4 fun d=>lp [lI] (0,()) fun e f=>B3 (decide ((e.1:Int)<4)) (Y8 PP (Instr.index 257 (.agg (ki4 d)) (.i e.1)) (lI) fun d=>B3 (decide ((d:Int)≥a)) (B3 (decide ((d:Int)<=(IntKind.i64.wrap (b-2)))) (c (.i d)) (f (IntKind.i64.wrap (e.1+1),()))) (f (IntKind.i64.wrap (e.1+1),()))) (c (.i 0)))):=CF.mk ⟨[(0,[(14,lI)])],[],[]⟩ Tryz.func91
def e92 a:CF 92 [.q a] fun b=>B4 a fun c=>ld (c.add 66) (lI) fun c=>lp [.lf .sl,lI] (⟨none,0,0⟩,0,()) fun d e=>B3 (decide ((d.2.1:Int)<c)) (B4 a fun b=>B4 a fun a=>ld (b.add 65) (lI) fun b=>Q7 ((64:Int)≠0)<|D5 (Int.tmod (IntKind.i64.wrap (b+d.2.1)) 64) 64<|ld (Addr.add (a.add 1) ((Int.tmod (IntKind.i64.wrap (b+d.2.1)) 64).toNat*1)) (.lf (.int .u64)) fun a=>nw (.cells #[.int .u64 a] 90) fun a=>F3 PP (Builtin.append_ #[169,169] 169 #[.sv d.1,.slice (some a.z) 1 1]) [.lf .sl] fun a=>e (⟨a.1.a,a.1.len,a.1.cap⟩,IntKind.i64.wrap (d.2.1+1),())) (b (.sv d.1)):=CF.mk ⟨[(0,[(3,.lf .sl),(9,lI)])],[],[(5,[0,1,2,3,4,6,9,10,5,7,8,11,12,13,14,15])]⟩ Tryz.func92
def e93 a(b:Int):CF 93 [.sv a,.int .u64 b] fun c=>lp [lI] (0,()) fun d e=>B3 (decide ((d.1:Int)<a.len)) (B4 a.a fun f=>D5 d.1 a.len<|ld (f.add (d.1.toNat*1)) (.lf (.int .u64)) fun a=>B3 ((b:Int)==a) (c (.i d.1)) (e (IntKind.i64.wrap (d.1+1),()))) (c (.i (-1))):=CF.mk ⟨[(0,[(9,lI)])],[],[]⟩ Tryz.func93
def e94 a b:CF 94 [.q a,.sv b] fun c=>B4 a fun d=>slc ⟨some (d.add 1),64,64⟩ 0 64 64 1 fun d=>F3 PP (Builtin.copy_ #[169,169] 3 #[.sv d,.sv b]) [lI] fun b=>B4 a fun d=>st (d.add 65) [.i 0]<|B4 a fun a=>st (a.add 66) [.i b.1]<|c (.t #[]):=CF.mk Hn Tryz.func94
def e95 a b c:CF 95 [.sv a,.i b,.i c] fun d=>slc ⟨a.a,a.len,a.cap⟩ b c a.len 1 fun e=>B3 ((b:Int)==c) (d (.sv a)) (slc ⟨a.a,a.len,a.cap⟩ 0 b a.cap 1 fun b=>slc ⟨a.a,a.len,a.cap⟩ c a.len a.cap 1 fun c=>F3 PP (Builtin.append_ #[169,169] 169 #[.sv b,.sv c]) [.lf .sl] fun b=>slc ⟨b.1.a,b.1.len,b.1.cap⟩ b.1.len a.len b.1.cap 1 fun a=>F3 PP (Builtin.clear_ #[169] 0 #[.sv a]) [] fun a=>d (.sv b.1)):=CF.mk ⟨[],[],[(5,[0,1,2,3,4,5,6,7])]⟩ Tryz.func95
def e96 a b:CF 96 [.i a,.w b] fun c=>Hz PP (Conv.stringToBytes 5 b) (.lf .sl) fun d=>cl PP 144 #[.int .u64 (P9 .xor .u64 (IntKind.u64.wrap a) 11400714819323198485),.sv d] [.lf (.int .u64)] fun a=>Q7 ((0:Int)<=32)<|c (.int .u64 (P9 .xor .u64 (IntKind.u64.wrap ((P9 .xor .u64 a.1 (IntKind.u64.wrap b.size))*11400714819323198485)) (Int.fdiv (IntKind.u64.wrap ((P9 .xor .u64 a.1 (IntKind.u64.wrap b.size))*11400714819323198485)) (2^(min (32:Int).toNat IntKind.u64.bits))))):=CF.mk Hn Tryz.func96
def e97 a b(c:F7 Z4):CF 97 [.w a,.sv b,.agg (ki4 c)] fun d=>nw (.cells (ki4 c) 23) fun c=>cl PP 90 #[.i a.size] [.lf .bool] fun e=>B3 (!e.1) (d (.t #[.slice none 0 0,.i 2])) (B3 (decide ((b.len:Int)>65536)) (d (.t #[.slice none 0 0,.i 4])) (ld c.z Z4 fun e=>cl PP 45 #[.i a.size,.i b.len,.agg (ki4 e)] [lI] fun e=>B3 ((e.1:Int)==0) (d (.t #[.slice none 0 0,.i 14])) (cl PP 145 #[.slice none 0 0,.w a] [.lf .sl,lI] fun a=>S4 PP (Conv.bytesToString (.sv b)) [.lf .str] fun b=>cl PP 145 #[.slice none 0 0,.w b.1] [.lf .sl,lI] fun b=>nw (.cells #[.slice a.1.a a.1.len a.1.cap,.slice b.1.a b.1.len b.1.cap] 37) fun a=>cl PP 146 #[.slice (some a.z) 2 2] [.lf .sl] fun a=>cl PP 147 #[.sv a.1] [lI] fun b=>cl PP 113 #[.sv a.1,.i b.1,.i 4] [.lf .sl,lI] fun a=>lp [.lf .sl,.lf .sl,lI] (⟨a.1.a,a.1.len,a.1.cap⟩,⟨none,0,0⟩,0,()) fun a b=>B3 (decide ((a.2.2.1:Int)<e.1)) (ld (Addr.add c.z 2) (lI) fun c=>cl PP 57 #[.i c] [lI] fun c=>slc ⟨a.1.a,a.1.len,a.1.cap⟩ 0 (N8 a.1.len c.1) a.1.cap 1 fun d=>nw (.cells #[.slice d.a d.len d.cap] 37) fun d=>cl PP 146 #[.slice (some d.z) 1 1] [.lf .sl] fun d=>nw (.cells #[.slice d.1.a d.1.len d.1.cap] 37) fun d=>F3 PP (Builtin.append_ #[153,153] 153 #[.sv a.2.1,.slice (some d.z) 1 1]) [.lf .sl] fun d=>slc ⟨a.1.a,a.1.len,a.1.cap⟩ (N8 a.1.len c.1) a.1.len a.1.cap 1 fun c=>b (⟨c.a,c.len,c.cap⟩,⟨d.1.a,d.1.len,d.1.cap⟩,IntKind.i64.wrap (a.2.2.1+1),())) (d (.t #[.sv a.2.1,.i 0]))))):=CF.mk ⟨[(1,[(13,.lf .sl),(14,.lf .sl),(56,lI)])],[],[]⟩ Tryz.func97
def e98 a:CF 98 [.q a] fun b=>B4 a fun c=>B4 a fun a=>ld c (.lf .str) fun c=>ld (a.add 1) (.lf .sl) fun a=>b (.i (IntKind.i64.wrap (c.size+a.len))):=CF.mk ⟨[],[],[(1,[0,1,2,3,6,7,8,9,4,5,10,11,12,13])]⟩ Tryz.func98
def e99 a:CF 99 [.q a] fun b=>B3 (!(Option.isNone a)) (B4 a fun c=>B4 a fun a=>ld (c.add 1) (lI) fun c=>ld a (lI) fun a=>b (.b (decide ((c:Int)>a)))) (b (.b false)):=CF.mk ⟨[],[],[(1,[0,1,2,3,4,5,7,8,9,6,10,11,12,13])]⟩ Tryz.func99
def e100 a:CF 100 [.q a] fun b=>nw (.cells #[.w ByteArray.empty,.slice none 0 0,.i 0] 179) fun c=>B3 (Option.isNone a) (st c.z [.w ByteArray.empty,.slice none 0 0,.i 0]<|ld c.z Z12 fun a=>b (.t #[.agg (kwvi a),.b false])) (B4 a fun d=>ld (d.add 2) (.lf .ptr) fun d=>B3 (Option.isNone d) (st c.z [.w ByteArray.empty,.slice none 0 0,.i 0]<|ld c.z Z12 fun a=>b (.t #[.agg (kwvi a),.b false])) (B4 a fun d=>ld (d.add 2) (.lf .ptr) fun d=>cl PP 142 #[.q a,.q d] [] fun a=>B4 d fun a=>ld a Z12 fun a=>st c.z [.w a.1,.slice a.2.1.a a.2.1.len a.2.1.cap,.i a.2.2.1]<|ld c.z Z12 fun a=>b (.t #[.agg (kwvi a),.b true]))):=CF.mk Hn Tryz.func100
def e101 a(b:Int):CF 101 [.q a,.int .u64 b] fun c=>B3 (Option.isNone a) (c (.t #[])) (B4 a fun d=>ld d (lI) fun d=>B3 ((d:Int)==0) (c (.t #[])) (cl PP 46 #[.q a,.int .u64 b] [.lf .bool] fun d=>jn (fun d:D2 []=>B4 a fun d=>B4 a fun e=>B4 a fun f=>ld (d.add 65) (lI) fun d=>ld (e.add 66) (lI) fun e=>Q7 ((64:Int)≠0)<|D5 (Int.tmod (IntKind.i64.wrap (d+e)) 64) 64<|st (Addr.add (f.add 1) ((Int.tmod (IntKind.i64.wrap (d+e)) 64).toNat*1)) [.int .u64 b]<|B4 a fun b=>ld (b.add 66) (lI) fun b=>B4 a fun a=>st (a.add 66) [.i (IntKind.i64.wrap (b+1))]<|c (.t #[])) fun b=>B4 a fun c=>B4 a fun d=>ld (c.add 66) (lI) fun c=>ld d (lI) fun d=>B3 ((c:Int)==d) (B4 a fun c=>ld (c.add 65) (lI) fun c=>Q7 ((64:Int)≠0)<|B4 a fun d=>st (d.add 65) [.i (Int.tmod (IntKind.i64.wrap (c+1)) 64)]<|B4 a fun c=>ld (c.add 66) (lI) fun c=>B4 a fun a=>st (a.add 66) [.i (IntKind.i64.wrap (c-1))]<|b (())) (b (())))):=CF.mk ⟨[],[(5,[])],[(5,[0,1,2,3,5,6,7,11,12,13,4,8,9,10,14,15]),(2,[0,1,2,4,5,6,3,7,8])]⟩ Tryz.func101
def e102 a b:CF 102 [.q a,.w b] fun c=>B3 (Option.isNone a) (c (.q none)) (B4 a fun a=>ld (a.add 4) (.lf .map) fun a=>S4 PP (Instr.lookup 180 (.map a) (.w b) false) [.lf .ptr] fun a=>c (.q a.1)):=CF.mk Hn Tryz.func102
def e103 a(b:Int):CF 103 [.q a,.int .u64 b] fun c=>B3 (Option.isNone a) (c (.slice none 0 0)) (cl PP 138 #[.q a,.int .u64 b] [.lf .ptr] fun a=>B4 a.1 fun a=>ld a (.lf .sl) fun a=>lp [.lf .sl,lI] (⟨none,0,0⟩,0,()) fun d e=>B3 (decide ((d.2.1:Int)<a.len)) (B4 a.a fun c=>D5 d.2.1 a.len<|ld (c.add (d.2.1.toNat*5)) Z2 fun a=>nw (.cells #[.i 0,.i 0,.i 0,.i 0,.i 0] 197) fun c=>st c.z [.i a.1,.i a.2.1,.i a.2.2.1,.i a.2.2.2.1,.i a.2.2.2.2.1]<|ld c.z (lI) fun a=>cl PP 148 #[.int .u64 b] [lI] fun b=>keep (C0 c.z [.i a])<|B3 ((a:Int)==b.1) (ld (Addr.add c.z 1) Z1 fun a=>nw (.cells (ki3 a) 100) fun a=>F3 PP (Builtin.append_ #[65,65] 65 #[.sv d.1,.slice (some a.z) 1 1]) [.lf .sl] fun a=>e (⟨a.1.a,a.1.len,a.1.cap⟩,IntKind.i64.wrap (d.2.1+1),())) (e (⟨d.1.a,d.1.len,d.1.cap⟩,IntKind.i64.wrap (d.2.1+1),()))) (c (.sv d.1))):=CF.mk ⟨[(0,[(5,.lf .sl),(16,lI)])],[],[(7,[0,1,3,2,4,5])]⟩ Tryz.func103
def e104 a(b:F7 Z1):CF 104 [.q a,.agg (ki3 b)] fun c=>nw (.cells (ki3 b) 100) fun b=>ld b.z (lI) fun d=>cl PP 149 #[.q a,.i d,.i 0] [.lf .sl,lI] fun d=>B3 ((d.2.1:Int) !=0) (c (.t #[.w (ByteArray.mk #[]),.slice none 0 0,.i d.2.1])) (lp [.lf .sl,lI] (⟨none,0,0⟩,1,()) fun d e=>B3 (decide ((d.1.len:Int)<d.2.1)) (ld b.z (lI) fun f=>ld (Addr.add b.z 1) (lI) fun g=>cl PP 149 #[.q a,.i f,.i (IntKind.i64.wrap (g+d.1.len))] [.lf .sl,lI] fun a=>B3 ((a.2.1:Int) !=0) (c (.t #[.w (ByteArray.mk #[]),.slice none 0 0,.i 8])) (cl PP 150 #[.sv a.1] [Z2,.lf .sl,lI] fun a=>nw (.cells #[.i 0,.i 0,.i 0,.i 0,.i 0] 142) fun f=>st f.z [.i a.1.1,.i a.1.2.1,.i a.1.2.2.1,.i a.1.2.2.2.1,.i a.1.2.2.2.2.1]<|B3 ((a.2.2.1:Int) !=0) (c (.t #[.w (ByteArray.mk #[]),.slice none 0 0,.i 8])) (jn (fun b:D2 [lI]=>nw (.cells #[.slice a.2.1.a a.2.1.len a.2.1.cap] 37) fun a=>F3 PP (Builtin.append_ #[153,153] 153 #[.sv d.1,.slice (some a.z) 1 1]) [.lf .sl] fun a=>e (⟨a.1.a,a.1.len,a.1.cap⟩,b.1,())) fun a=>B3 ((d.1.len:Int)==0) (ld f.z (lI) fun d=>B3 ((d:Int) !=2) (c (.t #[.w (ByteArray.mk #[]),.slice none 0 0,.i 8])) (ld (Addr.add f.z 1) (lI) fun d=>B3 ((d:Int) !=0) (c (.t #[.w (ByteArray.mk #[]),.slice none 0 0,.i 8])) (ld (Addr.add f.z 3) (lI) fun d=>ld (Addr.add b.z 2) (lI) fun e=>B3 ((d:Int) !=e) (c (.t #[.w (ByteArray.mk #[]),.slice none 0 0,.i 8])) (ld (Addr.add f.z 4) (lI) fun d=>ld (Addr.add b.z 1) (lI) fun b=>B3 ((d:Int) !=b) (c (.t #[.w (ByteArray.mk #[]),.slice none 0 0,.i 8])) (ld (Addr.add f.z 2) (lI) fun b=>a (b,())))))) (a (d.2.1,()))))) (cl PP 151 #[.sv d.1] [.lf .str,.lf .sl,lI] fun a=>c (.t (kwvi a)))):=CF.mk ⟨[(0,[(9,.lf .sl),(10,lI)])],[(17,[(10,lI)])],[]⟩ Tryz.func104
def e105 a(b:Int)(c:F7 Z1)(d:Y5):CF 105 [.q a,.int .u64 b,.agg (ki3 c),.func d.fn d.first d.captured] fun e=>nw (.cells (ki3 c) 100) fun c=>B3 (Option.isNone a) (e (.b false)) (ld c.z Z1 fun f=>cl PP 138 #[.q a,.int .u64 b] [.lf .ptr] fun a=>keep (C0 c.z [.i f.1,.i f.2.1,.i f.2.2.1])<|B4 a.1 fun a=>ld a (.lf .sl) fun c=>cl PP 152 #[.int .u64 b,.agg (ki3 f)] [Z4] fun b=>keep (C0 a [.sv c])<|nw (.cells #[.i 0,.i 0,.i 0,.i 0] 195) fun a=>st a.z [.i b.1.1,.i b.1.2.1,.i b.1.2.2.1,.i b.1.2.2.2.1]<|lp [lI] (0,()) fun b f=>B3 (decide ((b.1:Int)<c.len)) (B4 c.a fun g=>D5 b.1 c.len<|ld (g.add (b.1.toNat*5)) Z4 fun g=>ld a.z Z4 fun a=>Y8 PP (binOp .eql 195 (.agg (ki4 g)) (.agg (ki4 a))) (.lf .bool) fun a=>B3 a (B4 c.a fun a=>D5 b.1 c.len<|U5 PP d.fn (d.first++#[.q (some (a.add (b.1.toNat*5)))]) d.captured [] fun a=>e (.b true)) (f (IntKind.i64.wrap (b.1+1),()))) (e (.b false))):=CF.mk ⟨[(0,[(24,lI)])],[],[(7,[0,1,2,3,4,5,6]),(3,[0,1,5,6,2,3,4,7,8,9,10])]⟩ Tryz.func105
def e106 a:CF 106 [.q a] fun b=>B4 a fun c=>ld (c.add 4) (lI) fun c=>B4 a fun a=>st (a.add 4) [.i (N8 (IntKind.i64.wrap (c+1)) 3)]<|b (.t #[]):=CF.mk Hn Tryz.func106
def e107 a b:CF 107 [.q a,.sv b] fun c=>B4 a fun d=>ld (d.add 4) (.lf .ptr) fun d=>B3 (Option.isNone d) (c (.b false)) (B4 a fun d=>ld (d.add 4) (.lf .ptr) fun d=>B4 d fun d=>ld (d.add 2) (lI) fun d=>lp [lI,lI] (d,0,()) fun d e=>B3 (decide ((d.2.1:Int)<b.len)) (B4 b.a fun a=>D5 d.2.1 b.len<|ld (a.add (d.2.1.toNat*1)) (lI) fun a=>e (IntKind.i64.wrap (d.1+a),IntKind.i64.wrap (d.2.1+1),())) (B4 a fun a=>ld a (.lf .ptr) fun a=>cl PP 64 #[.q a] [Z4] fun a=>c (.b (decide ((d.1:Int)<a.1.2.1))))):=CF.mk ⟨[(0,[(5,lI),(22,lI)])],[],[]⟩ Tryz.func107
def e108 a b:CF 108 [.q a,.i b] fun c=>jn (fun d:D2 [lI]=>B4 a fun e=>nw (.cells #[.i b,.i 1,.i d.1] 3) fun d=>cl PP 109 #[.q (some (e.add 11)),.slice (some d.z) 3 3] [.lf .bool] fun d=>B3 (!d.1) (c (.i 13)) (B4 a fun d=>ld (Addr.add (d.add 11) 5) (lI) fun d=>B3 (decide ((d:Int)≥1073741824)) (c (.i 7)) (B4 a fun d=>ld (Addr.add (d.add 11) 1) (.lf .ptr) fun d=>cl PP 153 #[.q d] [lI] fun d=>B3 ((d.1:Int)==0) (B4 a fun d=>cl PP 154 #[.q (some (d.add 11))] [.lf .ptr] fun d=>B3 (Option.isNone d.1) (c (.i 7)) (cl PP 155 #[.q a,.q d.1,.i b] [lI] fun a=>c (.i a.1))) (B4 a fun d=>cl PP 156 #[.q (some (d.add 11))] [lI] fun d=>B3 ((d.1:Int) !=0) (c (.i d.1)) (B4 a fun d=>ld (Addr.add (d.add 11) 1) (.lf .ptr) fun d=>cl PP 157 #[.q d] [lI,.lf .bool,.lf .bool] fun d=>jn (fun e:D2 []=>B4 a fun e=>cl PP 159 #[.q (some (e.add 11)),.i d.1] [lI] fun d=>B3 ((d.1:Int) !=0) (c (.i d.1)) (lp [] (()) fun d e=>B4 a fun d=>ld (Addr.add (d.add 11) 1) (.lf .ptr) fun d=>cl PP 153 #[.q d] [lI] fun d=>B3 ((d.1:Int)==0) (B4 a fun d=>cl PP 154 #[.q (some (d.add 11))] [.lf .ptr] fun d=>B3 (Option.isNone d.1) (c (.i 0)) (cl PP 155 #[.q a,.q d.1,.i b] [lI] fun a=>B3 ((a.1:Int) !=0) (c (.i a.1)) (e (())))) (c (.i 0)))) fun b=>B3 d.2.1 (B4 a fun e=>cl PP 158 #[.q (some (e.add 11)),.i d.1] [lI] fun e=>B3 ((e.1:Int) !=0) (c (.i e.1)) (B4 a fun a=>ld (a.add 11) (.lf .ptr) fun a=>cl PP 129 #[.q a,.i d.1] [.lf .bool] fun a=>B3 a.1 (c (.i e.1)) (b (())))) (b (()))))))) fun b=>B4 a fun a=>ld (Addr.add (a.add 11) 4) (.lf .ptr) fun a=>B3 (!(Option.isNone a)) (b (1,())) (b (0,())):=CF.mk ⟨[(1,[])],[(4,[(5,lI)]),(21,[])],[]⟩ Tryz.func108
def e109 a b:CF 109 [.q a,.sv b] fun c=>B4 a fun d=>ld (d.add 2) (.lf .ptr) fun d=>cl PP 160 #[.q d] [lI] fun d=>cl PP 115 #[.q a,.sv b] [lI] fun a=>c (.b (decide ((d.1:Int)≥a.1))):=CF.mk Hn Tryz.func109
def e110 a:CF 110 [.i a] fun b=>B3 (decide ((a:Int)≥64)) (b (.b (decide ((a:Int)<=512)))) (b (.b false)):=CF.mk Hn Tryz.func110
def e111(a:F7 Z1):CF 111 [.agg (ki3 a)] fun b=>nw (.cells (ki3 a) 100) fun a=>ld a.z (lI) fun c=>B3 (decide ((c:Int)≥0)) (ld a.z (lI) fun c=>B3 (decide ((c:Int)<16)) (ld (Addr.add a.z 1) (lI) fun c=>B3 (decide ((c:Int)≥0)) (ld (Addr.add a.z 1) (lI) fun c=>B3 (decide ((c:Int)<16)) (ld (Addr.add a.z 2) (lI) fun c=>B3 (decide ((c:Int)≥1)) (ld (Addr.add a.z 2) (lI) fun a=>b (.b (decide ((a:Int)<=1073741824)))) (b (.b false))) (b (.b false))) (b (.b false))) (b (.b false))) (b (.b false)):=CF.mk Hn Tryz.func111
def e112 a b:CF 112 [.sv a,.sv b] fun c=>lp [.lf .sl,lI] (⟨a.a,a.len,a.cap⟩,0,()) fun a d=>B3 (decide ((a.2.1:Int)<b.len)) (B4 b.a fun e=>D5 a.2.1 b.len<|ld (e.add (a.2.1.toNat*1)) (lI) fun b=>B3 (decide ((b:Int)<0)) (c (.t #[.slice none 0 0,.b false])) (B3 (decide ((b:Int)>255)) (c (.t #[.slice none 0 0,.b false])) (nw (.cells #[.int .u8 (IntKind.u8.wrap b)] 5) fun b=>F3 PP (Builtin.append_ #[37,37] 37 #[.sv a.1,.slice (some b.z) 1 1]) [.lf .sl] fun b=>d (⟨b.1.a,b.1.len,b.1.cap⟩,IntKind.i64.wrap (a.2.1+1),())))) (c (.t #[.sv a.1,.b true])):=CF.mk ⟨[(0,[(0,.lf .sl),(10,lI)])],[],[]⟩ Tryz.func112
def e113 a b c:CF 113 [.sv a,.i b,.i c] fun d=>B3 (decide ((c:Int)<1)) (d (.t #[.slice none 0 0,.i 2])) (B3 (decide ((c:Int)>7)) (d (.t #[.slice none 0 0,.i 2])) (B3 (decide ((b:Int)<0)) (d (.t #[.slice none 0 0,.i 3])) (Q7 ((0:Int)<=(IntKind.i64.wrap (8*c)))<|B3 ((Int.fdiv b (2^(min (IntKind.i64.wrap (8*c):Int).toNat IntKind.i64.bits)):Int) !=0) (d (.t #[.slice none 0 0,.i 3])) (cl PP 161 #[.i b] [Z8] fun b=>nw (.cells #[.int .u8 0,.int .u8 0,.int .u8 0,.int .u8 0,.int .u8 0,.int .u8 0,.int .u8 0,.int .u8 0] 271) fun e=>st e.z [.int .u8 b.1.1,.int .u8 b.1.2.1,.int .u8 b.1.2.2.1,.int .u8 b.1.2.2.2.1,.int .u8 b.1.2.2.2.2.1,.int .u8 b.1.2.2.2.2.2.1,.int .u8 b.1.2.2.2.2.2.2.1,.int .u8 b.1.2.2.2.2.2.2.2.1]<|Hz PP (Instr.makeSlice 37 (.i 0) (.i (IntKind.i64.wrap (a.len+c)))) (.lf .sl) fun b=>F3 PP (Builtin.append_ #[37,37] 37 #[.sv b,.sv a]) [.lf .sl] fun a=>slc ⟨some e.z,8,8⟩ 0 c 8 1 fun b=>F3 PP (Builtin.append_ #[37,37] 37 #[.sv a.1,.sv b]) [.lf .sl] fun a=>d (.t #[.sv a.1,.i 0]))))):=CF.mk Hn Tryz.func113
def e114 a b:CF 114 [.q a,.i b] fun c=>B3 (Option.isNone a) (c (.b false)) (B3 (decide ((b:Int)<0)) (c (.b false)) (B4 a fun d=>ld (d.add 3) (lI) fun d=>B3 (decide ((b:Int)>d)) (c (.b false)) (B4 a fun d=>ld (d.add 3) (lI) fun d=>B4 a fun a=>st (a.add 3) [.i (IntKind.i64.wrap (d-b))]<|c (.b true)))):=CF.mk Hn Tryz.func114
def e115 a b:CF 115 [.q a,.sv b] fun c=>lp [lI,lI] (0,0,()) fun d e=>B3 (decide ((d.2.1:Int)<b.len)) (B4 b.a fun a=>D5 d.2.1 b.len<|ld (a.add (d.2.1.toNat*1)) (lI) fun a=>e (IntKind.i64.wrap (d.1+a),IntKind.i64.wrap (d.2.1+1),())) (B4 a fun a=>ld a (.lf .ptr) fun a=>cl PP 64 #[.q a] [Z4] fun a=>c (.i (IntKind.i64.wrap (d.1*a.1.2.2.1)))):=CF.mk ⟨[(0,[(5,lI),(10,lI)])],[],[]⟩ Tryz.func115
def e116 a b c d e f:CF 116 [.q a,.i b,.i c,.i d,.i e,.sv f] fun g=>B3 ((f.len:Int)==0) (g (.i 2)) (nw (.cells #[.i 0,.i 0,.i 0,.i 0,.i 0] 142) fun h=>st h.z [.i e,.i 0,.i f.len,.i c,.i d]<|lp [lI] (0,()) fun c d=>B3 (decide ((c.1:Int)<f.len)) (B4 f.a fun e=>D5 c.1 f.len<|ld (e.add (c.1.toNat*1)) (.lf .sl) fun e=>st (Addr.add h.z 1) [.i c.1]<|ld h.z Z2 fun f=>cl PP 162 #[.q a,.i b,.agg (ki5 f),.sv e] [lI] fun a=>B3 ((a.1:Int) !=0) (g (.i a.1)) (ld (Addr.add h.z 4) (lI) fun a=>st (Addr.add h.z 4) [.i (IntKind.i64.wrap (a+1))]<|d (IntKind.i64.wrap (c.1+1),()))) (g (.i 0))):=CF.mk ⟨[(0,[(28,lI)])],[],[]⟩ Tryz.func116
def e117 a b:CF 117 [.q a,.i b] fun c=>B4 a fun d=>ld (d.add 7) (.lf .bool) fun d=>B3 d (B4 a fun a=>st (a.add 7) [.b true]<|c (.i b)) (B4 a fun a=>st (a.add 7) [.b ((b:Int)==11)]<|c (.i b)):=CF.mk Hn Tryz.func117
def e118(a:F7 Z9) b:CF 118 [.agg (kii a),.i b] fun c=>nw (.cells (kii a) 210) fun a=>nw (.cells #[.i 0,.i 0] 210) fun d=>ld (Addr.add a.z 1) (lI) fun e=>B3 (decide ((b:Int)<=e)) (ld a.z Z9 fun a=>st d.z [.i a.1,.i a.2.1]<|ld d.z Z9 fun a=>c (.t #[.i 0,.agg (kii a)])) (ld a.z (lI) fun e=>ld (Addr.add a.z 1) (lI) fun f=>ld a.z (lI) fun a=>st d.z [.i a,.i b]<|ld d.z Z9 fun a=>c (.t #[.i (IntKind.i64.wrap (e*(IntKind.i64.wrap (b-f)))),.agg (kii a)])):=CF.mk ⟨[],[],[(3,[0,2,3,7,9,1,4,5,6,11,8,10,12]),(2,[1,0,2])]⟩ Tryz.func118
def e119 a b:CF 119 [.i a,.sv b] fun c=>lp [lI,lI] (a,0,()) fun a d=>B3 (decide ((a.2.1:Int)<b.len)) (B4 b.a fun c=>D5 a.2.1 b.len<|ld (c.add (a.2.1.toNat*1)) (lI) fun b=>d (N8 a.1 b,IntKind.i64.wrap (a.2.1+1),())) (c (.i (L9 a.1 0))):=CF.mk ⟨[(0,[(0,lI),(9,lI)])],[],[]⟩ Tryz.func119
def e120 a b:CF 120 [.i a,.i b] fun c=>B3 (decide ((a:Int)≥0)) (c (.b (decide ((a:Int)<=b)))) (c (.b false)):=CF.mk Hn Tryz.func120
def e121 a:CF 121 [.q a] fun b=>cl PP 64 #[.q a] [Z4] fun c=>lp [.lf .sl,.lf .sl,lI] (⟨none,0,0⟩,⟨none,0,0⟩,0,()) fun d e=>B3 (decide ((d.2.2.1:Int)<c.1.1)) (cl PP 163 #[.q a,.i d.2.2.1] [.lf .sl,lI] fun a=>B3 ((a.2.1:Int) !=0) (b (.t #[.slice none 0 0,.slice none 0 0,.i a.2.1])) (nw (.cells #[.slice a.1.a a.1.len a.1.cap] 153) fun b=>F3 PP (Builtin.append_ #[220,220] 220 #[.sv d.2.1,.slice (some b.z) 1 1]) [.lf .sl] fun b=>cl PP 164 #[.sv a.1] [Z10,.lf .bool] fun a=>nw (.cells #[.i 0,.b false,.slice none 0 0] 276) fun c=>st c.z [.i a.1.1,.b a.1.2.1,.slice a.1.2.2.1.a a.1.2.2.1.len a.1.2.2.1.cap]<|B3 a.2.1 (ld c.z (lI) fun a=>ld (Addr.add c.z 2) (.lf .sl) fun c=>nw (.cells #[.i d.2.2.1,.i a,.slice c.a c.len c.cap] 131) fun a=>F3 PP (Builtin.append_ #[119,119] 119 #[.sv d.1,.slice (some a.z) 1 1]) [.lf .sl] fun a=>e (⟨a.1.a,a.1.len,a.1.cap⟩,⟨b.1.a,b.1.len,b.1.cap⟩,IntKind.i64.wrap (d.2.2.1+1),())) (e (⟨d.1.a,d.1.len,d.1.cap⟩,⟨b.1.a,b.1.len,b.1.cap⟩,IntKind.i64.wrap (d.2.2.1+1),())))) (cl PP 165 #[.sv d.1,.func (.func 166) #[] #[]] [] fun a=>b (.t #[.sv d.1,.sv d.2.1,.i 0])):=CF.mk ⟨[(0,[(5,.lf .sl),(6,.lf .sl),(15,lI)])],[],[]⟩ Tryz.func121
set_option maxRecDepth 100000
def e122(a:B6) b(c:Y5):CF 122 [.slice a.a a.len a.cap,.i b,.func c.fn c.first c.captured] fun d=>lp [lI] (0,()) fun e f=>B3 (decide ((e.1:Int)<a.len)) (B4 a.a fun d=>D5 e.1 a.len<|ld (d.add (e.1.toNat*3)) Z5 fun a=>nw (.cells #[.i 0,.i 0,.slice none 0 0] 131) fun d=>st d.z [.i a.1,.i a.2.1,.slice a.2.2.1.a a.2.2.1.len a.2.2.1.cap]<|ld (Addr.add d.z 2) (.lf .sl) fun a=>lp [lI] (0,()) fun g h=>B3 (decide ((g.1:Int)<a.len)) (B4 a.a fun e=>D5 g.1 a.len<|ld (e.add (g.1.toNat*3)) Z1 fun a=>nw (.cells #[.i 0,.i 0,.i 0] 208) fun e=>st e.z [.i a.1,.i a.2.1,.i a.2.2.1]<|ld e.z (lI) fun a=>B3 ((a:Int)==b) (ld d.z Z5 fun a=>ld e.z Z1 fun b=>U5 PP c.fn (c.first++#[.agg #[.i a.1,.i a.2.1,.slice a.2.2.1.a a.2.2.1.len a.2.2.1.cap],.agg (ki3 b)]) c.captured [] fun a=>h (IntKind.i64.wrap (g.1+1),())) (h (IntKind.i64.wrap (g.1+1),()))) (f (IntKind.i64.wrap (e.1+1),()))) (d (.t #[])):=CF.mk ⟨[(0,[(12,lI)]),(2,[(19,lI)])],[],[]⟩ Tryz.func122
def e123(a:F7 Z5)(b:F7 Z1) c d e:CF 123 [.agg (kiiv a),.agg (ki3 b),.q c,.q d,.q e] fun f=>nw (.cells #[.i a.1,.i a.2.1,.slice a.2.2.1.a a.2.2.1.len a.2.2.1.cap] 131) fun a=>nw (.cells (ki3 b) 208) fun b=>ld a.z (lI) fun g=>ld (Addr.add b.z 1) (lI) fun b=>ld (Addr.add a.z 1) (lI) fun a=>nw (.cells #[.i 0,.i 0,.i 0] 100) fun h=>st h.z [.i g,.i b,.i a]<|B4 c fun a=>ld a (.lf .ptr) fun a=>ld h.z Z1 fun b=>cl PP 104 #[.q a,.agg (ki3 b)] [.lf .str,.lf .sl,lI] fun a=>B3 ((a.2.2.1:Int)==0) (B4 d fun b=>ld b (.lf .sl) fun b=>ld h.z Z1 fun c=>nw (.cells #[.w a.1,.i c.1,.i c.2.1,.i c.2.2.1] 139) fun c=>F3 PP (Builtin.append_ #[120,120] 120 #[.sv b,.slice (some c.z) 1 1]) [.lf .sl] fun b=>B4 d fun c=>st c [.slice b.1.a b.1.len b.1.cap]<|B4 e fun b=>ld b (.lf .map) fun b=>ld h.z Z1 fun c=>Aw PP (Instr.mapUpdate 223 (.map b) (.w a.1) (.agg (ki3 c)))<|f (.t #[])) (f (.t #[])):=CF.mk Hn Tryz.func123
def e124(a:F7 Z5)(b:F7 Z1) c d:CF 124 [.agg (kiiv a),.agg (ki3 b),.q c,.q d] fun e=>nw (.cells #[.i a.1,.i a.2.1,.slice a.2.2.1.a a.2.2.1.len a.2.2.1.cap] 131) fun a=>nw (.cells (ki3 b) 208) fun b=>B4 c fun c=>ld c (.lf .sl) fun c=>ld a.z (lI) fun a=>B4 c.a fun f=>D5 a c.len<|ld (f.add (a.toNat*1)) (.lf .sl) fun a=>ld b.z Z1 fun b=>cl PP 125 #[.sv a,.agg (ki3 b)] [.lf .sl] fun a=>lp [lI] (0,()) fun b c=>B3 (decide ((b.1:Int)<a.1.len)) (B4 a.1.a fun e=>D5 b.1 a.1.len<|ld (e.add (b.1.toNat*1)) (.lf .sl) fun a=>cl PP 126 #[.sv a] [.lf .sl,lI] fun a=>lp [lI] (0,()) fun e f=>B3 (decide ((e.1:Int)<a.1.len)) (B4 a.1.a fun b=>D5 e.1 a.1.len<|ld (b.add (e.1.toNat*3)) Z1 fun a=>nw (.cells #[.i 0,.i 0,.i 0] 100) fun b=>st b.z [.i a.1,.i a.2.1,.i a.2.2.1]<|B4 d fun a=>ld a (.lf .map) fun a=>ld b.z Z1 fun b=>Aw PP (Instr.mapUpdate 226 (.map a) (.agg (ki3 b)) (.b true))<|f (IntKind.i64.wrap (e.1+1),())) (c (IntKind.i64.wrap (b.1+1),()))) (e (.t #[])):=CF.mk ⟨[(0,[(20,lI)]),(2,[(31,lI)])],[],[(1,[1,8,0,2,3,4,5,6,7])]⟩ Tryz.func124
def e125 a(b:F7 Z1):CF 125 [.sv a,.agg (ki3 b)] fun c=>nw (.cells (ki3 b) 208) fun b=>lp [.lf .sl,lI] (⟨none,0,0⟩,0,()) fun d e=>ld (Addr.add b.z 2) (lI) fun f=>B3 (decide ((d.2.1:Int)<f)) (ld (Addr.add b.z 1) (lI) fun f=>B3 (decide ((f:Int)<0)) (c (.slice none 0 0)) (ld (Addr.add b.z 1) (lI) fun f=>B3 (decide ((f:Int)≥(IntKind.i64.wrap (a.len-d.2.1)))) (c (.slice none 0 0)) (ld (Addr.add b.z 1) (lI) fun b=>B4 a.a fun f=>D5 (IntKind.i64.wrap (b+d.2.1)) a.len<|ld (f.add ((IntKind.i64.wrap (b+d.2.1)).toNat*1)) (.lf .sl) fun a=>cl PP 150 #[.sv a] [Z2,.lf .sl,lI] fun a=>nw (.cells #[.i 0,.i 0,.i 0,.i 0,.i 0] 142) fun b=>st b.z [.i a.1.1,.i a.1.2.1,.i a.1.2.2.1,.i a.1.2.2.2.1,.i a.1.2.2.2.2.1]<|B3 ((a.2.2.1:Int) !=0) (c (.slice none 0 0)) (nw (.cells #[.slice a.2.1.a a.2.1.len a.2.1.cap] 37) fun a=>F3 PP (Builtin.append_ #[153,153] 153 #[.sv d.1,.slice (some a.z) 1 1]) [.lf .sl] fun a=>e (⟨a.1.a,a.1.len,a.1.cap⟩,IntKind.i64.wrap (d.2.1+1),()))))) (c (.sv d.1)):=CF.mk ⟨[(0,[(5,.lf .sl),(6,lI)])],[],[]⟩ Tryz.func125
def e126 a:CF 126 [.sv a] fun b=>Q7 ((6:Int)≠0)<|B3 ((Int.tmod a.len 6:Int) !=0) (b (.t #[.slice none 0 0,.i 5])) (lp [.lf .sl,.lf .sl] (⟨none,0,0⟩,⟨a.a,a.len,a.cap⟩,()) fun a c=>B3 (decide ((a.2.1.len:Int)>0)) (cl PP 167 #[.sv a.2.1,.i 2,.i 4] [lI,lI] fun d=>B4 a.2.1.a fun e=>D5 0 a.2.1.len<|B4 a.2.1.a fun f=>D5 1 a.2.1.len<|ld (e.add ((0:Int).toNat*1)) (.lf (.int .u8)) fun e=>ld (f.add ((1:Int).toNat*1)) (.lf (.int .u8)) fun f=>nw (.cells #[.i 0,.i 0,.i 0] 100) fun g=>st g.z [.i (IntKind.i64.wrap e),.i (IntKind.i64.wrap f),.i d.1]<|ld g.z Z1 fun d=>cl PP 111 #[.agg (ki3 d)] [.lf .bool] fun d=>B3 (!d.1) (b (.t #[.slice none 0 0,.i 5])) (ld g.z Z1 fun b=>nw (.cells (ki3 b) 100) fun b=>F3 PP (Builtin.append_ #[65,65] 65 #[.sv a.1,.slice (some b.z) 1 1]) [.lf .sl] fun b=>slc ⟨a.2.1.a,a.2.1.len,a.2.1.cap⟩ 6 a.2.1.len a.2.1.cap 1 fun a=>c (⟨b.1.a,b.1.len,b.1.cap⟩,⟨a.a,a.len,a.cap⟩,()))) (b (.t #[.sv a.1,.i 0]))):=CF.mk ⟨[(0,[(4,.lf .sl),(5,.lf .sl)])],[],[(8,[0,1,4,5,8,2,3,6,7,9,10,11])]⟩ Tryz.func126
def e127 a:CF 127 [.sv a] fun b=>B3 (Option.isNone a.a) (b (.slice none 0 0)) (nw (.cells #[] 236) fun c=>F3 PP (Builtin.append_ #[136,136] 136 #[.slice (some c.z) 0 0,.sv a]) [.lf .sl] fun a=>b (.sv a.1)):=CF.mk Hn Tryz.func127
def e128 a b:CF 128 [.q a,.i b] fun c=>cl PP 168 #[.q a,.i b] [.lf .bool] fun d=>B3 d.1 (B4 a fun a=>ld (a.add 1) (.lf .sl) fun a=>cl PP 169 #[.sv a,.i b] [.lf .bool] fun a=>c (.b (!a.1))) (c (.b false)):=CF.mk Hn Tryz.func128
def e129 a b:CF 129 [.q a,.i b] fun c=>cl PP 137 #[.q a,.i b] [.lf .ptr] fun a=>B3 (!(Option.isNone a.1)) (B4 a.1 fun a=>ld (a.add 3) (.lf .bool) fun a=>c (.b a)) (c (.b false)):=CF.mk Hn Tryz.func129
def e130 a b:CF 130 [.q a,.i b] fun c=>cl PP 137 #[.q a,.i b] [.lf .ptr] fun a=>B3 (!(Option.isNone a.1)) (B4 a.1 fun a=>ld (a.add 1) (lI) fun a=>c (.i a)) (c (.i 0)):=CF.mk Hn Tryz.func130
def e131 a(b:Int)(c:F7 Z1):CF 131 [.q a,.int .u64 b,.agg (ki3 c)] fun d=>nw (.cells (ki3 c) 100) fun c=>nw (.cells #[.i 0,.i 0,.i 0] 100) fun e=>B3 (Option.isNone a) (st e.z [.i 0,.i 0,.i 0]<|ld e.z Z1 fun a=>d (.t #[.agg (ki3 a),.b false])) (ld c.z Z1 fun f=>cl PP 143 #[.q a,.int .u64 b,.agg (ki3 f)] [Z2,.lf .bool] fun f=>cl PP 138 #[.q a,.int .u64 b] [.lf .ptr] fun f=>nw (.cells #[.i 0,.i 0,.i 0,.i 0,.i 0] 197) fun g=>B4 f.1 fun h=>B4 a fun i=>ld h (.lf .sl) fun h=>ld i (lI) fun i=>jn (fun f:D2 []=>ld c.z Z1 fun c=>cl PP 152 #[.int .u64 b,.agg (ki3 c)] [Z4] fun c=>cl PP 171 #[.q a,.int .u64 b,.agg #[.i c.1.1,.i c.1.2.1,.i c.1.2.2.1,.i c.1.2.2.2.1,.i 0]] [] fun a=>ld (Addr.add g.z 1) Z1 fun a=>st e.z [.i a.1,.i a.2.1,.i a.2.2.1]<|ld e.z Z1 fun a=>d (.t #[.agg (ki3 a),.b ((h.len:Int)==i)])) fun a=>B3 ((h.len:Int)==i) (B4 f.1 fun b=>ld b (.lf .sl) fun b=>B4 b.a fun c=>D5 0 b.len<|ld (c.add ((0:Int).toNat*5)) Z2 fun b=>st g.z [.i b.1,.i b.2.1,.i b.2.2.1,.i b.2.2.2.1,.i b.2.2.2.2.1]<|B4 f.1 fun b=>ld b (.lf .sl) fun b=>cl PP 170 #[.sv b,.i 0,.i 1] [.lf .sl] fun b=>B4 f.1 fun c=>st c [.slice b.1.a b.1.len b.1.cap]<|a (())) (a (()))):=CF.mk ⟨[],[(10,[])],[(6,[0,1,4,5,6,2,3,7,8,9])]⟩ Tryz.func131
def e132 a:CF 132 [.i a] fun b=>B3 (decide ((a:Int)≥64)) (b (.b (decide ((a:Int)<=512)))) (b (.b false)):=CF.mk Hn Tryz.func132
def e133 a:CF 133 [.sv a] fun b=>lp [lI] (0,()) fun c d=>B3 (decide ((c.1:Int)<a.len)) (B4 a.a fun e=>D5 c.1 a.len<|ld (e.add (c.1.toNat*1)) (.lf (.int .u8)) fun a=>B3 ((a:Int) !=255) (b (.b false)) (d (IntKind.i64.wrap (c.1+1),()))) (b (.b true)):=CF.mk ⟨[(0,[(3,lI)])],[],[]⟩ Tryz.func133
def e134 a b c:CF 134 [.sv a,.i b,.i c] fun d=>B3 (decide ((c:Int)<1)) (d (.t #[.i 0,.i 2])) (B3 (decide ((c:Int)>7)) (d (.t #[.i 0,.i 2])) (B3 (decide ((b:Int)<0)) (d (.t #[.i 0,.i 6])) (B3 (decide ((b:Int)>a.len)) (d (.t #[.i 0,.i 6])) (B3 (decide ((IntKind.i64.wrap (a.len-b):Int)<c)) (d (.t #[.i 0,.i 6])) (lp [lI,lI] (0,IntKind.i64.wrap (c-1),()) fun c e=>B3 (decide ((c.2.1:Int)≥0)) (B4 a.a fun d=>D5 (IntKind.i64.wrap (b+c.2.1)) a.len<|ld (d.add ((IntKind.i64.wrap (b+c.2.1)).toNat*1)) (.lf (.int .u8)) fun a=>e (IntKind.i64.wrap ((IntKind.i64.wrap (256*c.1))+(IntKind.i64.wrap a)),IntKind.i64.wrap (c.2.1-1),())) (d (.t #[.i c.1,.i 0]))))))):=CF.mk ⟨[(0,[(8,lI),(9,lI)])],[],[]⟩ Tryz.func134
def e135 a:CF 135 [.sv a] fun b=>cl PP 172 #[.i 0,.sv a] [lI] fun a=>b (.i a.1):=CF.mk Hn Tryz.func135
def e136(a:F7 Z2) b c:CF 136 [.agg (ki5 a),.sv b,.i c] fun d=>nw (.cells (ki5 a) 142) fun a=>cl PP 132 #[.i c] [.lf .bool] fun e=>B3 (!e.1) (d (.t #[.slice none 0 0,.i 2])) (ld a.z Z2 fun e=>cl PP 173 #[.agg (ki5 e)] [lI] fun e=>B3 ((e.1:Int) !=0) (d (.t #[.slice none 0 0,.i e.1])) (B3 (decide ((b.len:Int)>(IntKind.i64.wrap (c-16)))) (d (.t #[.slice none 0 0,.i 4])) (ld a.z (lI) fun e=>ld (Addr.add a.z 1) (lI) fun f=>ld (Addr.add a.z 2) (lI) fun g=>nw (.cells #[.int .u8 (IntKind.u8.wrap e),.int .u8 (IntKind.u8.wrap f),.int .u8 (IntKind.u8.wrap g),.int .u8 165] 5) fun e=>ld (Addr.add a.z 3) (lI) fun f=>cl PP 174 #[.slice (some e.z) 4 4,.i f,.i 4] [.lf .sl,lI] fun e=>ld (Addr.add a.z 4) (lI) fun a=>nw (.cells #[.int .u8 (IntKind.u8.wrap a),.int .u8 0] 5) fun a=>F3 PP (Builtin.append_ #[37,37] 37 #[.sv e.1,.slice (some a.z) 2 2]) [.lf .sl] fun a=>cl PP 174 #[.sv a.1,.i b.len,.i 2] [.lf .sl,lI] fun a=>F3 PP (Builtin.append_ #[37,37] 37 #[.sv a.1,.sv b]) [.lf .sl] fun a=>lp [.lf .sl] (⟨a.1.a,a.1.len,a.1.cap⟩,()) fun a b=>B3 (decide ((a.1.len:Int)<(IntKind.i64.wrap (c-4)))) (nw (.cells #[.int .u8 0] 5) fun c=>F3 PP (Builtin.append_ #[37,37] 37 #[.sv a.1,.slice (some c.z) 1 1]) [.lf .sl] fun a=>b (⟨a.1.a,a.1.len,a.1.cap⟩,())) (cl PP 135 #[.sv a.1] [lI] fun b=>cl PP 174 #[.sv a.1,.i b.1,.i 4] [.lf .sl,lI] fun a=>d (.t #[.sv a.1,.i 0]))))):=CF.mk ⟨[(0,[(9,.lf .sl)])],[],[]⟩ Tryz.func136
def e137 a b:CF 137 [.q a,.i b] fun c=>B3 (Option.isNone a) (c (.q none)) (B4 a fun d=>ld (d.add 7) (.lf .sl) fun d=>cl PP 83 #[.i b,.i 0,.i (IntKind.i64.wrap (d.len-1))] [.lf .bool] fun d=>B3 (!d.1) (c (.q none)) (B4 a fun a=>ld (a.add 7) (.lf .sl) fun a=>B4 a.a fun d=>D5 b a.len<|ld (d.add (b.toNat*1)) (.lf .ptr) fun a=>c (.q a))):=CF.mk Hn Tryz.func137
def e138 a(b:Int):CF 138 [.q a,.int .u64 b] fun c=>B4 a fun d=>B4 a fun a=>ld (d.add 1) (.lf .sl) fun e=>ld (a.add 1) (.lf .sl) fun a=>cl PP 175 #[.int .u64 b,.i a.len] [lI] fun a=>keep (C0 (d.add 1) [.sv e])<|B4 e.a fun b=>D5 a.1 e.len<|c (.q (some (b.add (a.1.toNat*1)))):=CF.mk ⟨[],[],[(1,[0,1,2,4,5,6,7,3,8,9,10,11,12])]⟩ Tryz.func138
def e139 a:CF 139 [.i a] fun b=>Hz PP (Instr.makeSlice 37 (.i a) (.i a)) (.lf .sl) fun a=>lp [lI] (0,()) fun c d=>B3 (decide ((c.1:Int)<a.len)) (B4 a.a fun b=>D5 c.1 a.len<|st (b.add (c.1.toNat*1)) [.int .u8 255]<|d (IntKind.i64.wrap (c.1+1),())) (b (.sv a)):=CF.mk ⟨[(0,[(9,lI)])],[],[]⟩ Tryz.func139
def e140 a b c d:CF 140 [.sv a,.i b,.i c,.i d] fun e=>lp [lI,lI,lI,.lf .bool,.lf .bool] (b,c,d,true,true,()) fun b c=>B3 (decide ((IntKind.i64.wrap (b.2.1-b.1):Int)<=12)) (cl PP 176 #[.sv a,.i b.1,.i b.2.1] [] fun a=>e (.t #[])) (B3 ((b.2.2.1:Int)==0) (cl PP 177 #[.sv a,.i b.1,.i b.2.1] [] fun a=>e (.t #[])) (jn (fun d:D2 [lI]=>cl PP 179 #[.sv a,.i b.1,.i b.2.1] [lI,lI] fun f=>jn (fun f:D2 [lI,lI]=>jn (fun e:D2 []=>jn (fun e:D2 [lI]=>cl PP 184 #[.sv a,.i e.1,.i b.2.1,.i f.1] [lI,.lf .bool] fun f=>Q7 ((8:Int)≠0)<|B3 (decide ((IntKind.i64.wrap (f.1-e.1):Int)<(IntKind.i64.wrap (b.2.1-f.1)))) (cl PP 140 #[.sv a,.i e.1,.i f.1,.i d.1] [] fun a=>c (IntKind.i64.wrap (f.1+1),b.2.1,d.1,decide ((IntKind.i64.wrap (f.1-e.1):Int)≥(IntKind.i64.wrap (Int.tdiv (IntKind.i64.wrap (b.2.1-b.1)) 8))),f.2.1,())) (cl PP 140 #[.sv a,.i (IntKind.i64.wrap (f.1+1)),.i b.2.1,.i d.1] [] fun a=>c (e.1,f.1,d.1,decide ((IntKind.i64.wrap (b.2.1-f.1):Int)≥(IntKind.i64.wrap (Int.tdiv (IntKind.i64.wrap (b.2.1-b.1)) 8))),f.2.1,()))) fun e=>B3 (decide ((b.1:Int)>0)) (B4 a.a fun g=>D5 (IntKind.i64.wrap (b.1-1)) a.len<|B4 a.a fun h=>D5 f.1 a.len<|ld (g.add ((IntKind.i64.wrap (b.1-1)).toNat*1)) (.lf .str) fun g=>ld (h.add (f.1.toNat*1)) (.lf .str) fun h=>cl PP 182 #[.w g,.w h] [.lf .bool] fun g=>B3 (!g.1) (cl PP 183 #[.sv a,.i b.1,.i b.2.1,.i f.1] [lI] fun a=>c (a.1,b.2.1,d.1,b.2.2.2.1,b.2.2.2.2.1,())) (e (b.1,()))) (e (b.1,()))) fun c=>B3 b.2.2.2.1 (B3 b.2.2.2.2.1 (B3 ((f.2.1:Int)==1) (cl PP 181 #[.sv a,.i b.1,.i b.2.1] [.lf .bool] fun a=>B3 a.1 (e (.t #[])) (c (()))) (c (()))) (c (()))) (c (()))) fun c=>B3 ((f.2.1:Int)==2) (cl PP 180 #[.sv a,.i b.1,.i b.2.1] [] fun a=>c (IntKind.i64.wrap ((IntKind.i64.wrap (b.2.1-1))-(IntKind.i64.wrap (f.1-b.1))),1,())) (c (f.1,f.2.1,()))) fun c=>B3 (!b.2.2.2.1) (cl PP 178 #[.sv a,.i b.1,.i b.2.1] [] fun a=>c (IntKind.i64.wrap (b.2.2.1-1),())) (c (b.2.2.1,())))):=CF.mk ⟨[(0,[(1,lI),(2,lI),(3,lI),(8,.lf .bool),(9,.lf .bool)])],[(10,[(3,lI)]),(15,[(11,lI),(12,lI)]),(17,[]),(20,[(1,lI)])],[(17,[0,1,2,3,4,5,6,8,9,10,7,11,12,13,14])]⟩ Tryz.func140
def e141(a:Int):CF 141 [.int .u64 a] fun b=>cl PP 186 #[.int .u64 a] [lI] fun a=>b (.i a.1):=CF.mk Hn Tryz.func141
def e142 a b:CF 142 [.q a,.q b] fun c=>jn (fun d:D2 []=>jn (fun d:D2 []=>B4 a fun d=>ld (d.add 1) (lI) fun e=>cl PP 98 #[.q b] [lI] fun f=>keep (C0 (d.add 1) [.i e])<|B4 a fun d=>st (d.add 1) [.i (IntKind.i64.wrap (e-f.1))]<|B4 a fun a=>B4 b fun b=>ld (a.add 4) (.lf .map) fun a=>ld b (.lf .str) fun b=>F3 PP (Builtin.delete_ #[180,9] 0 #[.map a,.w b]) [] fun a=>c (.t #[])) fun c=>B4 b fun d=>ld (d.add 4) (.lf .ptr) fun d=>B3 (!(Option.isNone d)) (B4 b fun a=>B4 b fun b=>ld (a.add 4) (.lf .ptr) fun a=>ld (b.add 3) (.lf .ptr) fun b=>B4 a fun a=>st (a.add 3) [.q b]<|c (())) (B4 b fun b=>ld (b.add 3) (.lf .ptr) fun b=>B4 a fun a=>st (a.add 3) [.q b]<|c (()))) fun c=>B4 b fun d=>ld (d.add 3) (.lf .ptr) fun d=>B3 (!(Option.isNone d)) (B4 b fun a=>B4 b fun b=>ld (a.add 3) (.lf .ptr) fun a=>ld (b.add 4) (.lf .ptr) fun b=>B4 a fun a=>st (a.add 4) [.q b]<|c (())) (B4 b fun b=>ld (b.add 4) (.lf .ptr) fun b=>B4 a fun a=>st (a.add 2) [.q b]<|c (())):=CF.mk ⟨[],[(3,[]),(6,[])],[(7,[0,1,2,4,5,6,7,3,8,9]),(6,[0,1,2,4,3,5,6,7,8,9]),(4,[0,1,2,4,5,6,3,7,8,9,10]),(1,[0,1,2,4,5,6,3,7,8,9,10])]⟩ Tryz.func142
def e143 a(b:Int)(c:F7 Z1):CF 143 [.q a,.int .u64 b,.agg (ki3 c)] fun d=>nw (.cells (ki3 c) 100) fun c=>nw (.cells #[.i 0,.i 0,.i 0,.i 0,.i 0] 197) fun e=>B3 (Option.isNone a) (st e.z [.i 0,.i 0,.i 0,.i 0,.i 0]<|ld e.z Z2 fun a=>d (.t #[.agg (ki5 a),.b false])) (ld c.z Z1 fun f=>cl PP 138 #[.q a,.int .u64 b] [.lf .ptr] fun a=>keep (C0 c.z [.i f.1,.i f.2.1,.i f.2.2.1])<|cl PP 152 #[.int .u64 b,.agg (ki3 f)] [Z4] fun b=>nw (.cells #[.i 0,.i 0,.i 0,.i 0] 195) fun c=>st c.z [.i b.1.1,.i b.1.2.1,.i b.1.2.2.1,.i b.1.2.2.2.1]<|B4 a.1 fun b=>ld b (.lf .sl) fun b=>cl PP 187 #[.sv b,.func (.func 188) #[] #[.p c]] [lI] fun b=>B3 (decide ((b.1:Int)<0)) (st e.z [.i 0,.i 0,.i 0,.i 0,.i 0]<|ld e.z Z2 fun a=>d (.t #[.agg (ki5 a),.b false])) (B4 a.1 fun c=>ld c (.lf .sl) fun c=>B4 c.a fun f=>D5 b.1 c.len<|ld (f.add (b.1.toNat*5)) Z2 fun c=>nw (.cells #[.i 0,.i 0,.i 0,.i 0,.i 0] 197) fun f=>st f.z [.i c.1,.i c.2.1,.i c.2.2.1,.i c.2.2.2.1,.i c.2.2.2.2.1]<|B4 a.1 fun c=>ld c (.lf .sl) fun c=>cl PP 170 #[.sv c,.i b.1,.i (IntKind.i64.wrap (b.1+1))] [.lf .sl] fun b=>B4 a.1 fun a=>st a [.slice b.1.a b.1.len b.1.cap]<|ld f.z Z2 fun a=>st e.z [.i a.1,.i a.2.1,.i a.2.2.1,.i a.2.2.2.1,.i a.2.2.2.2.1]<|ld e.z Z2 fun a=>d (.t #[.agg (ki5 a),.b true]))):=CF.mk ⟨[],[],[(3,[0,1,3,4,2,5,6,7,8])]⟩ Tryz.func143
def e144(a:Int) b:CF 144 [.int .u64 a,.sv b] fun c=>lp [.lf (.int .u64),lI] (a,0,()) fun a d=>B3 (decide ((a.2.1:Int)<b.len)) (B4 b.a fun c=>D5 a.2.1 b.len<|ld (c.add (a.2.1.toNat*1)) (.lf (.int .u8)) fun b=>Q7 ((0:Int)<=29)<|d (P9 .xor .u64 (IntKind.u64.wrap ((P9 .xor .u64 a.1 (IntKind.u64.wrap b))*1099511628211)) (Int.fdiv (IntKind.u64.wrap ((P9 .xor .u64 a.1 (IntKind.u64.wrap b))*1099511628211)) (2^(min (29:Int).toNat IntKind.u64.bits))),IntKind.i64.wrap (a.2.1+1),())) (c (.int .u64 a.1)):=CF.mk ⟨[(0,[(0,.lf (.int .u64)),(9,lI)])],[],[]⟩ Tryz.func144
def e145 a b:CF 145 [.sv a,.w b] fun c=>B3 (decide ((b.size:Int)>65536)) (c (.t #[.slice none 0 0,.i 4])) (cl PP 113 #[.sv a,.i b.size,.i 4] [.lf .sl,lI] fun a=>F3 PP (Builtin.append_ #[37,9] 37 #[.sv a.1,.w b]) [.lf .sl] fun b=>c (.t #[.sv b.1,.i a.2.1])):=CF.mk Hn Tryz.func145
def e146 a:CF 146 [.sv a] fun b=>cl PP 189 #[.sv a] [.lf .sl] fun a=>b (.sv a.1):=CF.mk Hn Tryz.func146
def e147 a:CF 147 [.sv a] fun b=>cl PP 190 #[.i 0,.sv a] [lI] fun a=>b (.i a.1):=CF.mk Hn Tryz.func147
def e148(a:Int):CF 148 [.int .u64 a] fun b=>Q7 ((0:Int)<=48)<|b (.i (IntKind.i64.wrap (Int.fdiv a (2^(min (48:Int).toNat IntKind.u64.bits))))):=CF.mk Hn Tryz.func148
def e149 a b c:CF 149 [.q a,.i b,.i c] fun d=>cl PP 191 #[.q a,.i b,.i c] [.lf .ptr,lI] fun b=>B3 ((b.2.1:Int) !=0) (d (.t #[.slice none 0 0,.i b.2.1])) (B4 b.1 fun e=>ld (e.add 3) (.lf .bool) fun e=>B3 e (B4 a fun a=>ld (Addr.add (a.add 3) 2) (lI) fun a=>cl PP 139 #[.i a] [.lf .sl] fun a=>d (.t #[.sv a.1,.i 0])) (nw (.cells #[] 5) fun a=>B4 b.1 fun b=>ld b (.lf .sl) fun b=>B4 b.a fun e=>D5 c b.len<|ld (e.add (c.toNat*1)) (.lf .sl) fun b=>F3 PP (Builtin.append_ #[37,37] 37 #[.slice (some a.z) 0 0,.sv b]) [.lf .sl] fun a=>d (.t #[.sv a.1,.i 0]))):=CF.mk Hn Tryz.func149
def e150 a:CF 150 [.sv a] fun b=>nw (.cells #[.i 0,.i 0,.i 0,.i 0,.i 0] 142) fun c=>cl PP 110 #[.i a.len] [.lf .bool] fun d=>B3 (!d.1) (st c.z [.i 0,.i 0,.i 0,.i 0,.i 0]<|ld c.z Z2 fun a=>b (.t #[.agg (ki5 a),.slice none 0 0,.i 2])) (cl PP 192 #[.sv a] [.lf .bool] fun d=>B3 d.1 (st c.z [.i 0,.i 0,.i 0,.i 0,.i 0]<|ld c.z Z2 fun a=>b (.t #[.agg (ki5 a),.slice none 0 0,.i 15])) (slc ⟨a.a,a.len,a.cap⟩ 0 (IntKind.i64.wrap (a.len-4)) a.cap 1 fun d=>cl PP 194 #[.sv a,.i (IntKind.i64.wrap (a.len-4)),.i 4] [lI] fun e=>cl PP 193 #[.sv d,.i e.1] [.lf .bool] fun d=>B3 (!d.1) (st c.z [.i 0,.i 0,.i 0,.i 0,.i 0]<|ld c.z Z2 fun a=>b (.t #[.agg (ki5 a),.slice none 0 0,.i 12])) (B4 a.a fun d=>D5 0 a.len<|B4 a.a fun e=>D5 1 a.len<|B4 a.a fun f=>D5 2 a.len<|B4 a.a fun g=>D5 8 a.len<|ld (d.add ((0:Int).toNat*1)) (.lf (.int .u8)) fun h=>ld (e.add ((1:Int).toNat*1)) (.lf (.int .u8)) fun i=>ld (f.add ((2:Int).toNat*1)) (.lf (.int .u8)) fun j=>ld (g.add ((8:Int).toNat*1)) (.lf (.int .u8)) fun k=>cl PP 194 #[.sv a,.i 4,.i 4] [lI] fun l=>keep (C0 (g.add ((8:Int).toNat*1)) [.int .u8 k])<|keep (C0 (f.add ((2:Int).toNat*1)) [.int .u8 j])<|keep (C0 (e.add ((1:Int).toNat*1)) [.int .u8 i])<|keep (C0 (d.add ((0:Int).toNat*1)) [.int .u8 h])<|nw (.cells #[.i 0,.i 0,.i 0,.i 0,.i 0] 142) fun d=>st d.z [.i (IntKind.i64.wrap h),.i (IntKind.i64.wrap i),.i (IntKind.i64.wrap j),.i l.1,.i (IntKind.i64.wrap k)]<|cl PP 194 #[.sv a,.i 10,.i 2] [lI] fun e=>B4 a.a fun f=>D5 3 a.len<|ld (f.add ((3:Int).toNat*1)) (.lf (.int .u8)) fun f=>B3 ((f:Int) !=165) (st c.z [.i 0,.i 0,.i 0,.i 0,.i 0]<|ld c.z Z2 fun a=>b (.t #[.agg (ki5 a),.slice none 0 0,.i 5])) (B4 a.a fun f=>D5 9 a.len<|ld (f.add ((9:Int).toNat*1)) (.lf (.int .u8)) fun f=>B3 ((f:Int) !=0) (st c.z [.i 0,.i 0,.i 0,.i 0,.i 0]<|ld c.z Z2 fun a=>b (.t #[.agg (ki5 a),.slice none 0 0,.i 5])) (cl PP 57 #[.i a.len] [lI] fun f=>B3 (decide ((e.1:Int)>f.1)) (st c.z [.i 0,.i 0,.i 0,.i 0,.i 0]<|ld c.z Z2 fun a=>b (.t #[.agg (ki5 a),.slice none 0 0,.i 5])) (ld d.z Z2 fun f=>cl PP 195 #[.agg (ki5 f)] [lI] fun f=>B3 ((f.1:Int) !=0) (st c.z [.i 0,.i 0,.i 0,.i 0,.i 0]<|ld c.z Z2 fun a=>b (.t #[.agg (ki5 a),.slice none 0 0,.i 5])) (slc ⟨a.a,a.len,a.cap⟩ (IntKind.i64.wrap (12+e.1)) (IntKind.i64.wrap (a.len-4)) a.cap 1 fun f=>lp [lI] (0,()) fun g h=>B3 (decide ((g.1:Int)<f.len)) (B4 f.a fun a=>D5 g.1 f.len<|ld (a.add (g.1.toNat*1)) (.lf (.int .u8)) fun a=>B3 ((a:Int) !=0) (st c.z [.i 0,.i 0,.i 0,.i 0,.i 0]<|ld c.z Z2 fun a=>b (.t #[.agg (ki5 a),.slice none 0 0,.i 5])) (h (IntKind.i64.wrap (g.1+1),()))) (slc ⟨a.a,a.len,a.cap⟩ 12 (IntKind.i64.wrap (12+e.1)) a.cap 1 fun a=>ld d.z Z2 fun e=>nw (.cells #[] 5) fun f=>F3 PP (Builtin.append_ #[37,37] 37 #[.slice (some f.z) 0 0,.sv a]) [.lf .sl] fun a=>keep (C0 d.z [.i e.1,.i e.2.1,.i e.2.2.1,.i e.2.2.2.1,.i e.2.2.2.2.1])<|st c.z [.i e.1,.i e.2.1,.i e.2.2.1,.i e.2.2.2.1,.i e.2.2.2.2.1]<|ld c.z Z2 fun c=>b (.t #[.agg (ki5 c),.sv a.1,.i 0]))))))))):=CF.mk ⟨[(1,[(84,lI)])],[],[(19,[2,3,4,0,1,5,6,7,8]),(8,[0,1,4,5,8,9,12,14,15,2,3,6,7,10,11,16,17,13,18,19,20]),(6,[0,1,2,3,4,5,6,7])]⟩ Tryz.func150
def e151 a:CF 151 [.sv a] fun b=>cl PP 146 #[.sv a] [.lf .sl] fun a=>cl PP 196 #[.sv a.1] [.lf .ptr] fun c=>cl PP 197 #[.q c.1] [.lf .str,lI] fun d=>B3 ((d.2.1:Int) !=0) (b (.t #[.w (ByteArray.mk #[]),.slice none 0 0,.i d.2.1])) (cl PP 197 #[.q c.1] [.lf .str,lI] fun e=>B3 ((e.2.1:Int) !=0) (b (.t #[.w (ByteArray.mk #[]),.slice none 0 0,.i e.2.1])) (cl PP 198 #[.q c.1] [lI] fun f=>cl PP 199 #[.q c.1,.i 4] [lI,lI] fun g=>B3 ((g.2.1:Int) !=0) (b (.t #[.w (ByteArray.mk #[]),.slice none 0 0,.i g.2.1])) (cl PP 198 #[.q c.1] [lI] fun c=>B3 (decide ((c.1:Int)>0)) (b (.t #[.w (ByteArray.mk #[]),.slice none 0 0,.i 5])) (cl PP 90 #[.i d.1.size] [.lf .bool] fun c=>B3 (!c.1) (b (.t #[.w (ByteArray.mk #[]),.slice none 0 0,.i 5])) (slc ⟨a.1.a,a.1.len,a.1.cap⟩ 0 (IntKind.i64.wrap (a.1.len-f.1)) a.1.cap 1 fun a=>cl PP 193 #[.sv a,.i g.1] [.lf .bool] fun a=>B3 (!a.1) (b (.t #[.w (ByteArray.mk #[]),.slice none 0 0,.i 12])) (Hz PP (Conv.stringToBytes 5 e.1) (.lf .sl) fun a=>b (.t #[.w d.1,.sv a,.i 0]))))))):=CF.mk Hn Tryz.func151
def e152(a:Int)(b:F7 Z1):CF 152 [.int .u64 a,.agg (ki3 b)] fun c=>nw (.cells (ki3 b) 100) fun b=>nw (.cells #[.i 0,.i 0,.i 0,.i 0] 195) fun d=>ld b.z Z1 fun e=>cl PP 148 #[.int .u64 a] [lI] fun a=>keep (C0 b.z [.i e.1,.i e.2.1,.i e.2.2.1])<|st d.z [.i a.1,.i e.1,.i e.2.1,.i e.2.2.1]<|ld d.z Z4 fun a=>c (.agg (ki4 a)):=CF.mk ⟨[],[],[(1,[0,2,1,3,4])]⟩ Tryz.func152
def e153 a:CF 153 [.q a] fun b=>nw (.cells #[.i 0] 3) fun c=>st c.z [.i 0]<|cl PP 200 #[.q a,.func (.func 128) #[.q a] #[],.func (.func 201) #[] #[.p c]] [] fun a=>ld c.z (lI) fun a=>b (.i a):=CF.mk Hn Tryz.func153
def e154 a:CF 154 [.q a] fun b=>B4 a fun c=>ld (c.add 1) (.lf .ptr) fun c=>cl PP 202 #[.q c] [lI,.lf .bool] fun c=>jn (fun d:D2 []=>B4 a fun a=>ld (a.add 3) (.lf .map) fun a=>S4 PP (Instr.lookup 78 (.map a) (.i c.1) false) [.lf .ptr] fun a=>b (.q a.1)) fun d=>B3 (!c.2.1) (b (.q none)) (B4 a fun e=>ld (e.add 4) (.lf .ptr) fun e=>B3 (!(Option.isNone e)) (B4 a fun a=>ld (a.add 4) (.lf .ptr) fun a=>B4 a fun a=>ld a (lI) fun a=>B3 ((a:Int)==c.1) (b (.q none)) (d (()))) (d (()))):=CF.mk ⟨[],[(4,[])],[]⟩ Tryz.func154
def e155 a b c:CF 155 [.q a,.q b,.i c] fun d=>nw (.cells #[.q b] 79) fun b=>ld b.z (.lf .ptr) fun e=>B4 e fun e=>ld (e.add 3) (.lf .sl) fun e=>lp [lI] (0,()) fun f g=>B3 (decide ((f.1:Int)<e.len)) (B4 e.a fun h=>D5 f.1 e.len<|ld (h.add (f.1.toNat*3)) Z1 fun e=>nw (.cells #[.i 0,.i 0,.i 0] 208) fun h=>st h.z [.i e.1,.i e.2.1,.i e.2.2.1]<|ld h.z (lI) fun e=>B3 ((e:Int) !=2) (g (IntKind.i64.wrap (f.1+1),())) (ld b.z (.lf .ptr) fun e=>B4 e fun e=>ld e (lI) fun e=>ld (Addr.add h.z 1) (lI) fun i=>ld b.z (.lf .ptr) fun b=>B4 b fun b=>ld (b.add 1) (lI) fun b=>ld h.z Z1 fun h=>cl PP 203 #[.q a,.agg #[.i e,.i i,.i b],.agg (ki3 h),.i c] [lI] fun a=>B3 ((a.1:Int) !=0) (d (.i a.1)) (g (IntKind.i64.wrap (f.1+1),())))) (B4 a fun c=>ld (Addr.add (c.add 11) 6) (.lf .sl) fun c=>cl PP 204 #[.sv c,.func (.func 205) #[] #[.p b]] [.lf .sl] fun c=>B4 a fun e=>st (Addr.add (e.add 11) 6) [.slice c.1.a c.1.len c.1.cap]<|B4 a fun a=>ld b.z (.lf .ptr) fun b=>B4 b fun b=>ld b (lI) fun b=>cl PP 158 #[.q (some (a.add 11)),.i b] [lI] fun a=>d (.i a.1)):=CF.mk ⟨[(0,[(15,lI)])],[],[(10,[0,1,2,3,4,5,6,7,8]),(5,[0,5,13,1,2,3,4,6,7,8,9,10,11,12,14,15])]⟩ Tryz.func155
def e156 a:CF 156 [.q a] fun b=>B4 a fun c=>ld (c.add 4) (.lf .ptr) fun c=>B3 (Option.isNone c) (b (.i 0)) (B4 a fun d=>st (d.add 4) [.q none]<|B4 a fun d=>ld (d.add 2) (.lf .ptr) fun e=>nw (.cells #[.i 1] 3) fun f=>cl PP 115 #[.q a,.slice (some f.z) 1 1] [lI] fun f=>keep (C0 (d.add 2) [.q e])<|cl PP 114 #[.q e,.i f.1] [.lf .bool] fun d=>B4 a fun d=>B4 c fun e=>B4 c fun f=>B4 c fun g=>B4 c fun c=>ld d (.lf .ptr) fun d=>ld e (lI) fun e=>ld (f.add 1) (lI) fun f=>ld (g.add 2) (lI) fun g=>ld (c.add 3) (.lf .sl) fun c=>cl PP 206 #[.q d,.i e,.i f,.i g,.sv c] [lI] fun c=>cl PP 117 #[.q a,.i c.1] [lI] fun a=>b (.i a.1)):=CF.mk ⟨[],[],[(6,[0,1,2,3,5,6,7,9,10,11,13,14,15,17,18,19,4,8,12,16,20,21,22,23]),(5,[0,1,2,4,3,5,6,7])]⟩ Tryz.func156
def e157 a:CF 157 [.q a] fun b=>nw (.cells #[.i 0,.b false,.b false] 236) fun c=>nw (.cells #[.i 0] 3) fun d=>nw (.cells #[.b false] 4) fun e=>st d.z [.i 0]<|st e.z [.b false]<|cl PP 200 #[.q a,.func (.func 128) #[.q a] #[],.func (.func 207) #[] #[.p e,.p c,.p d]] [] fun a=>ld d.z (lI) fun a=>ld (Addr.add c.z 2) (.lf .bool) fun c=>ld e.z (.lf .bool) fun d=>b (.t #[.i a,.b c,.b d]):=CF.mk ⟨[],[],[(4,[1,0,4,2,5,3,6])]⟩ Tryz.func157
def e158 a b:CF 158 [.q a,.i b] fun c=>B4 a fun d=>ld d (.lf .ptr) fun d=>cl PP 209 #[.q d,.i b] [lI] fun d=>B3 ((d.1:Int)==11) (cl PP 117 #[.q a,.i d.1] [lI] fun a=>c (.i a.1)) (B4 a fun e=>ld (e.add 1) (.lf .ptr) fun e=>cl PP 210 #[.q e,.i b,.b ((d.1:Int)==10)] [.lf .bool] fun d=>B4 a fun a=>ld (a.add 3) (.lf .map) fun a=>F3 PP (Builtin.delete_ #[78,3] 0 #[.map a,.i b]) [] fun a=>c (.i 0)):=CF.mk Hn Tryz.func158
def e159 a b:CF 159 [.q a,.i b] fun c=>B4 a fun d=>ld (d.add 2) (.lf .ptr) fun e=>nw (.cells #[.i 1] 3) fun f=>cl PP 115 #[.q a,.slice (some f.z) 1 1] [lI] fun f=>keep (C0 (d.add 2) [.q e])<|cl PP 114 #[.q e,.i f.1] [.lf .bool] fun d=>B4 a fun d=>B4 a fun e=>ld d (.lf .ptr) fun d=>ld (e.add 5) (lI) fun e=>cl PP 211 #[.q d,.i b,.i (IntKind.i64.wrap (e+1))] [lI] fun d=>B3 ((d.1:Int) !=0) (cl PP 117 #[.q a,.i d.1] [lI] fun a=>c (.i a.1)) (B4 a fun d=>ld (d.add 5) (lI) fun d=>B4 a fun e=>st (e.add 5) [.i (IntKind.i64.wrap (d+1))]<|B4 a fun d=>ld (d.add 1) (.lf .ptr) fun d=>cl PP 212 #[.q d,.i b] [.lf .bool] fun d=>B4 a fun d=>ld (d.add 5) (lI) fun d=>nw (.cells #[.i b,.i d,.i 1,.slice none 0 0] 133) fun d=>B4 a fun e=>st (e.add 4) [.p d]<|B4 a fun d=>B4 a fun a=>ld (d.add 3) (.lf .map) fun d=>ld (a.add 4) (.lf .ptr) fun a=>Aw PP (Instr.mapUpdate 78 (.map d) (.i b) (.q a))<|c (.i 0)):=CF.mk ⟨[],[],[(8,[0,1,2,4,5,6,7,3,8,9]),(2,[0,1,2,4,5,6,7,3,8,9,10,11]),(1,[0,1,2,4,3,5,6,7])]⟩ Tryz.func159
def e160 a:CF 160 [.q a] fun b=>B3 (Option.isNone a) (b (.i 0)) (B4 a fun a=>ld (a.add 3) (lI) fun a=>b (.i a)):=CF.mk Hn Tryz.func160
def e161 a:CF 161 [.i a] fun b=>nw (.cells #[.int .u8 0,.int .u8 0,.int .u8 0,.int .u8 0,.int .u8 0,.int .u8 0,.int .u8 0,.int .u8 0] 271) fun c=>nw (.cells #[.int .u8 0,.int .u8 0,.int .u8 0,.int .u8 0,.int .u8 0,.int .u8 0,.int .u8 0,.int .u8 0] 271) fun d=>lp [lI] (0,()) fun e f=>B3 (decide ((e.1:Int)<8)) (Q7 ((0:Int)<=(IntKind.i64.wrap (8*e.1)))<|D5 e.1 8<|st (Addr.add d.z (e.1.toNat*1)) [.int .u8 (IntKind.u8.wrap (Int.fdiv a (2^(min (IntKind.i64.wrap (8*e.1):Int).toNat IntKind.i64.bits))))]<|f (IntKind.i64.wrap (e.1+1),())) (ld d.z Z8 fun a=>st c.z [.int .u8 a.1,.int .u8 a.2.1,.int .u8 a.2.2.1,.int .u8 a.2.2.2.1,.int .u8 a.2.2.2.2.1,.int .u8 a.2.2.2.2.2.1,.int .u8 a.2.2.2.2.2.2.1,.int .u8 a.2.2.2.2.2.2.2.1]<|ld c.z Z8 fun a=>b (.agg #[.int .u8 a.1,.int .u8 a.2.1,.int .u8 a.2.2.1,.int .u8 a.2.2.2.1,.int .u8 a.2.2.2.2.1,.int .u8 a.2.2.2.2.2.1,.int .u8 a.2.2.2.2.2.2.1,.int .u8 a.2.2.2.2.2.2.2.1])):=CF.mk ⟨[(0,[(5,lI)])],[],[]⟩ Tryz.func161
def e162 a b(c:F7 Z2) d:CF 162 [.q a,.i b,.agg (ki5 c),.sv d] fun e=>nw (.cells (ki5 c) 142) fun c=>ld c.z Z2 fun f=>cl PP 64 #[.q a] [Z4] fun g=>keep (C0 c.z [.i f.1,.i f.2.1,.i f.2.2.1,.i f.2.2.2.1,.i f.2.2.2.2.1])<|cl PP 213 #[.agg (ki5 f),.sv d,.i g.1.2.2.1] [.lf .sl,lI] fun d=>B3 ((d.2.1:Int) !=0) (e (.i d.2.1)) (ld (Addr.add c.z 4) (lI) fun c=>cl PP 214 #[.q a,.i b,.i c,.sv d.1] [lI] fun a=>e (.i a.1)):=CF.mk ⟨[],[],[(1,[1,2,0,3,4,5,6,7,8,9,10])]⟩ Tryz.func162
def e163 a b:CF 163 [.q a,.i b] fun c=>B3 (Option.isNone a) (c (.t #[.slice none 0 0,.i 1])) (cl PP 64 #[.q a] [Z4] fun d=>lp [.lf .sl,lI] (⟨none,0,0⟩,0,()) fun e f=>B3 (decide ((e.2.1:Int)<d.1.2.1)) (cl PP 149 #[.q a,.i b,.i e.2.1] [.lf .sl,lI] fun a=>B3 ((a.2.1:Int) !=0) (c (.t #[.slice none 0 0,.i a.2.1])) (nw (.cells #[.slice a.1.a a.1.len a.1.cap] 37) fun a=>F3 PP (Builtin.append_ #[153,153] 153 #[.sv e.1,.slice (some a.z) 1 1]) [.lf .sl] fun a=>f (⟨a.1.a,a.1.len,a.1.cap⟩,IntKind.i64.wrap (e.2.1+1),()))) (c (.t #[.sv e.1,.i 0]))):=CF.mk ⟨[(0,[(6,.lf .sl),(15,lI)])],[],[]⟩ Tryz.func163
set_option maxRecDepth 100000
def e164 a:CF 164 [.sv a] fun b=>nw (.cells #[.i 0,.b false,.slice none 0 0] 276) fun c=>cl PP 215 #[.sv a] [.lf .ptr] fun a=>B4 a.1 fun d=>ld d (.lf .sl) fun d=>B3 ((d.len:Int)==0) (st c.z [.i 0,.b false,.slice none 0 0]<|ld c.z Z10 fun a=>b (.t #[.agg (kibv a),.b false])) (B4 a.1 fun d=>ld d (.lf .sl) fun d=>B4 d.a fun e=>D5 0 d.len<|ld (Addr.add (e.add ((0:Int).toNat*7)) 3) (lI) fun d=>B4 a.1 fun e=>st (e.add 1) [.i d]<|cl PP 216 #[.q a.1,.i 0,.agg #[.i 1,.i 0,.i 1,.i 0,.i 0]] [.lf .sl,.lf .bool] fun d=>B3 (!d.2.1) (st c.z [.i 0,.b false,.slice none 0 0]<|ld c.z Z10 fun a=>b (.t #[.agg (kibv a),.b false])) (B3 (decide ((d.1.len:Int)>0)) (st c.z [.i 0,.b false,.slice none 0 0]<|ld c.z Z10 fun a=>b (.t #[.agg (kibv a),.b false])) (jn (fun d:D2 []=>B4 a.1 fun d=>ld (d.add 1) (lI) fun e=>cl PP 218 #[.q a.1,.func (.func 219) #[.q a.1] #[]] [.lf .sl] fun a=>keep (C0 (d.add 1) [.i e])<|st c.z [.i e,.b false,.slice a.1.a a.1.len a.1.cap]<|ld c.z Z10 fun a=>b (.t #[.agg (kibv a),.b true])) fun d=>B4 a.1 fun e=>ld (e.add 2) (lI) fun e=>B3 (decide ((e:Int)>0)) (cl PP 217 #[.q a.1] [.lf .sl,.lf .bool] fun e=>B3 e.2.1 (B4 a.1 fun a=>ld (a.add 1) (lI) fun a=>st c.z [.i a,.b true,.slice e.1.a e.1.len e.1.cap]<|ld c.z Z10 fun a=>b (.t #[.agg (kibv a),.b true])) (d (()))) (d (()))))):=CF.mk ⟨[],[(12,[])],[(12,[0,1,2,4,5,6,3,7,8,9,10])]⟩ Tryz.func164
def e165(a:B6)(b:Y5):CF 165 [.slice a.a a.len a.cap,.func b.fn b.first b.captured] fun c=>cl PP 220 #[.slice a.a a.len a.cap,.i a.len,.func b.fn b.first b.captured] [] fun a=>c (.t #[]):=CF.mk Hn Tryz.func165
def e166(a:F7 Z5)(b:F7 Z5):CF 166 [.agg (kiiv a),.agg (kiiv b)] fun c=>nw (.cells #[.i a.1,.i a.2.1,.slice a.2.2.1.a a.2.2.1.len a.2.2.1.cap] 131) fun a=>nw (.cells #[.i b.1,.i b.2.1,.slice b.2.2.1.a b.2.2.1.len b.2.2.1.cap] 131) fun b=>ld (Addr.add a.z 1) (lI) fun a=>ld (Addr.add b.z 1) (lI) fun b=>c (.i (IntKind.i64.wrap (a-b))):=CF.mk Hn Tryz.func166
def e167 a b c:CF 167 [.sv a,.i b,.i c] fun d=>B3 (decide ((c:Int)<1)) (d (.t #[.i 0,.i 2])) (B3 (decide ((c:Int)>7)) (d (.t #[.i 0,.i 2])) (B3 (decide ((b:Int)<0)) (d (.t #[.i 0,.i 6])) (B3 (decide ((b:Int)>a.len)) (d (.t #[.i 0,.i 6])) (B3 (decide ((c:Int)>(IntKind.i64.wrap (a.len-b)))) (d (.t #[.i 0,.i 6])) (lp [lI,lI,lI] (0,1,0,()) fun e f=>B3 (decide ((e.2.2.1:Int)<c)) (B4 a.a fun c=>D5 (IntKind.i64.wrap (b+e.2.2.1)) a.len<|ld (c.add ((IntKind.i64.wrap (b+e.2.2.1)).toNat*1)) (.lf (.int .u8)) fun a=>f (IntKind.i64.wrap (e.1+(IntKind.i64.wrap (e.2.1*(IntKind.i64.wrap a)))),IntKind.i64.wrap (e.2.1*256),IntKind.i64.wrap (e.2.2.1+1),())) (d (.t #[.i e.1,.i 0]))))))):=CF.mk ⟨[(1,[(8,lI),(9,lI),(36,lI)])],[],[]⟩ Tryz.func167
def e168 a b:CF 168 [.q a,.i b] fun c=>B3 (!(Option.isNone a)) (B3 (decide ((b:Int)≥0)) (B4 a fun d=>ld d (.lf .sl) fun d=>B3 (decide ((b:Int)<d.len)) (B4 a fun a=>ld a (.lf .sl) fun a=>B4 a.a fun d=>D5 b a.len<|ld (Addr.add (d.add (b.toNat*3)) 1) (.lf .bool) fun a=>c (.b (!a))) (c (.b false))) (c (.b false))) (c (.b false)):=CF.mk Hn Tryz.func168
def e169 a b:CF 169 [.sv a,.i b] fun c=>cl PP 221 #[.sv a,.i b] [lI] fun a=>c (.b (decide ((a.1:Int)≥0))):=CF.mk Hn Tryz.func169
def e170 a b c:CF 170 [.sv a,.i b,.i c] fun d=>slc ⟨a.a,a.len,a.cap⟩ b c a.len 5 fun e=>B3 ((b:Int)==c) (d (.sv a)) (slc ⟨a.a,a.len,a.cap⟩ 0 b a.cap 5 fun b=>slc ⟨a.a,a.len,a.cap⟩ c a.len a.cap 5 fun c=>F3 PP (Builtin.append_ #[247,247] 247 #[.sv b,.sv c]) [.lf .sl] fun b=>slc ⟨b.1.a,b.1.len,b.1.cap⟩ b.1.len a.len b.1.cap 5 fun a=>F3 PP (Builtin.clear_ #[247] 0 #[.sv a]) [] fun a=>d (.sv b.1)):=CF.mk ⟨[],[],[(5,[0,1,2,3,4,5,6,7])]⟩ Tryz.func170
def e171 a(b:Int)(c:F7 Z2):CF 171 [.q a,.int .u64 b,.agg (ki5 c)] fun d=>nw (.cells (ki5 c) 197) fun c=>cl PP 138 #[.q a,.int .u64 b] [.lf .ptr] fun a=>B4 a.1 fun b=>ld b (.lf .sl) fun b=>ld c.z Z2 fun c=>nw (.cells (ki5 c) 197) fun c=>F3 PP (Builtin.append_ #[247,247] 247 #[.sv b,.slice (some c.z) 1 1]) [.lf .sl] fun b=>B4 a.1 fun a=>st a [.slice b.1.a b.1.len b.1.cap]<|d (.t #[]):=CF.mk ⟨[],[],[(2,[0,1,2,3,4,5,6,7,8])]⟩ Tryz.func171
def e172 a b:CF 172 [.i a,.sv b] fun c=>cl PP 222 #[.i a] [.lf (.int .u32)] fun a=>lp [lI,lI] (IntKind.i64.wrap (P9 .xor .u32 IntKind.u32.max a.1),0,()) fun a d=>B3 (decide ((a.2.1:Int)<b.len)) (B4 b.a fun c=>D5 a.2.1 b.len<|ld (c.add (a.2.1.toNat*1)) (.lf (.int .u8)) fun b=>cl PP 223 #[.i a.1,.int .u8 b] [lI] fun b=>d (b.1,IntKind.i64.wrap (a.2.1+1),())) (cl PP 222 #[.i a.1] [.lf (.int .u32)] fun a=>c (.i (IntKind.i64.wrap (P9 .xor .u32 IntKind.u32.max a.1)))):=CF.mk ⟨[(0,[(5,lI),(6,lI)])],[],[]⟩ Tryz.func172
def e173(a:F7 Z2):CF 173 [.agg (ki5 a)] fun b=>nw (.cells (ki5 a) 142) fun a=>ld a.z (lI) fun c=>B3 (decide ((c:Int)<1)) (b (.i 16)) (ld a.z (lI) fun c=>B3 (decide ((c:Int)>4)) (b (.i 16)) (ld (Addr.add a.z 2) (lI) fun c=>B3 (decide ((c:Int)<1)) (b (.i 3)) (ld (Addr.add a.z 2) (lI) fun c=>B3 (decide ((c:Int)>16)) (b (.i 3)) (ld (Addr.add a.z 1) (lI) fun c=>B3 (decide ((c:Int)<0)) (b (.i 3)) (ld (Addr.add a.z 1) (lI) fun c=>ld (Addr.add a.z 2) (lI) fun d=>B3 (decide ((c:Int)≥d)) (b (.i 3)) (ld (Addr.add a.z 3) (lI) fun c=>B3 (decide ((c:Int)<1)) (b (.i 3)) (ld (Addr.add a.z 3) (lI) fun c=>B3 (decide ((c:Int)>1073741824)) (b (.i 3)) (ld (Addr.add a.z 4) (lI) fun c=>B3 (decide ((c:Int)<0)) (b (.i 3)) (ld (Addr.add a.z 4) (lI) fun a=>B3 (decide ((a:Int)>15)) (b (.i 3)) (b (.i 0))))))))))):=CF.mk Hn Tryz.func173
def e174 a b c:CF 174 [.sv a,.i b,.i c] fun d=>B3 (decide ((c:Int)<1)) (d (.t #[.slice none 0 0,.i 2])) (B3 (decide ((c:Int)>7)) (d (.t #[.slice none 0 0,.i 2])) (nw (.cells #[] 5) fun e=>F3 PP (Builtin.append_ #[37,37] 37 #[.slice (some e.z) 0 0,.sv a]) [.lf .sl] fun a=>lp [.lf .sl,lI,lI] (⟨a.1.a,a.1.len,a.1.cap⟩,b,0,()) fun a e=>B3 (decide ((a.2.2.1:Int)<c)) (Q7 ((256:Int)≠0)<|nw (.cells #[.int .u8 (IntKind.u8.wrap (Int.tmod a.2.1 256))] 5) fun b=>F3 PP (Builtin.append_ #[37,37] 37 #[.sv a.1,.slice (some b.z) 1 1]) [.lf .sl] fun b=>Q7 ((256:Int)≠0)<|e (⟨b.1.a,b.1.len,b.1.cap⟩,IntKind.i64.wrap (Int.tdiv a.2.1 256),IntKind.i64.wrap (a.2.2.1+1),())) (B3 (decide ((b:Int)<0)) (d (.t #[.slice none 0 0,.i 3])) (B3 (decide ((a.2.1:Int)>0)) (d (.t #[.slice none 0 0,.i 3])) (d (.t #[.sv a.1,.i 0])))))):=CF.mk ⟨[(0,[(8,.lf .sl),(9,lI),(10,lI)])],[],[]⟩ Tryz.func174
def e175(a:Int) b:CF 175 [.int .u64 a,.i b] fun c=>B3 (decide ((b:Int)<1)) (c (.i 0)) (Q7 ((IntKind.u64.wrap b:Int)≠0)<|c (.i (IntKind.i64.wrap (Int.tmod a (IntKind.u64.wrap b))))):=CF.mk Hn Tryz.func175
def e176 a b c:CF 176 [.sv a,.i b,.i c] fun d=>lp [lI] (IntKind.i64.wrap (b+1),()) fun e f=>B3 (decide ((e.1:Int)<c)) (lp [lI] (e.1,()) fun c d=>jn (fun b:D2 []=>B4 a.a fun b=>D5 (IntKind.i64.wrap (c.1-1)) a.len<|B4 a.a fun e=>D5 c.1 a.len<|ld (b.add ((IntKind.i64.wrap (c.1-1)).toNat*1)) (.lf .str) fun b=>ld (e.add (c.1.toNat*1)) (.lf .str) fun e=>B4 a.a fun f=>D5 c.1 a.len<|st (f.add (c.1.toNat*1)) [.w b]<|B4 a.a fun b=>D5 (IntKind.i64.wrap (c.1-1)) a.len<|st (b.add ((IntKind.i64.wrap (c.1-1)).toNat*1)) [.w e]<|d (IntKind.i64.wrap (c.1-1),())) fun d=>B3 (decide ((c.1:Int)>b)) (B4 a.a fun b=>D5 c.1 a.len<|B4 a.a fun g=>D5 (IntKind.i64.wrap (c.1-1)) a.len<|ld (b.add (c.1.toNat*1)) (.lf .str) fun a=>ld (g.add ((IntKind.i64.wrap (c.1-1)).toNat*1)) (.lf .str) fun b=>cl PP 182 #[.w a,.w b] [.lf .bool] fun a=>B3 a.1 (d (())) (f (IntKind.i64.wrap (e.1+1),()))) (f (IntKind.i64.wrap (e.1+1),()))) (d (.t #[])):=CF.mk ⟨[(0,[(6,lI)]),(2,[(7,lI)])],[(6,[])],[(6,[0,1,2,3,4,5,6,7,8,10,11,12,9,13,14,15,16,17]),(4,[0,1,2,3,4,5,6,8,9,10,11,7,12,13,14])]⟩ Tryz.func176
def e182 a b:CF 182 [.w a,.w b] fun c=>cl PP 229 #[.w a] [.lf .bool] fun d=>B3 d.1 (cl PP 229 #[.w b] [.lf .bool] fun d=>B3 (!d.1) (c (.b true)) (c (.b (Op.bytesLess (ByteArray.toList a) (ByteArray.toList b))))) (c (.b (Op.bytesLess (ByteArray.toList a) (ByteArray.toList b)))):=CF.mk Hn Tryz.func182
def e186(a:Int):CF 186 [.int .u64 a] fun b=>jn (fun a:D2 [.lf (.int .u64),lI]=>jn (fun a:D2 [.lf (.int .u64),lI]=>jn (fun a:D2 [.lf (.int .u64),lI]=>D5 (IntKind.u8.wrap a.1) (ByteArray.mk #[0,1,2,2,3,3,3,3,4,4,4,4,4,4,4,4,5,5,5,5,5,5,5,5,5,5,5,5,5,5,5,5,6,6,6,6,6,6,6,6,6,6,6,6,6,6,6,6,6,6,6,6,6,6,6,6,6,6,6,6,6,6,6,6,7,7,7,7,7,7,7,7,7,7,7,7,7,7,7,7,7,7,7,7,7,7,7,7,7,7,7,7,7,7,7,7,7,7,7,7,7,7,7,7,7,7,7,7,7,7,7,7,7,7,7,7,7,7,7,7,7,7,7,7,7,7,7,7,8,8,8,8,8,8,8,8,8,8,8,8,8,8,8,8,8,8,8,8,8,8,8,8,8,8,8,8,8,8,8,8,8,8,8,8,8,8,8,8,8,8,8,8,8,8,8,8,8,8,8,8,8,8,8,8,8,8,8,8,8,8,8,8,8,8,8,8,8,8,8,8,8,8,8,8,8,8,8,8,8,8,8,8,8,8,8,8,8,8,8,8,8,8,8,8,8,8,8,8,8,8,8,8,8,8,8,8,8,8,8,8,8,8,8,8,8,8,8,8,8,8,8,8,8,8,8,8]).size<|b (.i (IntKind.i64.wrap (a.2.1+(IntKind.i64.wrap (Og (ByteArray.mk #[0,1,2,2,3,3,3,3,4,4,4,4,4,4,4,4,5,5,5,5,5,5,5,5,5,5,5,5,5,5,5,5,6,6,6,6,6,6,6,6,6,6,6,6,6,6,6,6,6,6,6,6,6,6,6,6,6,6,6,6,6,6,6,6,7,7,7,7,7,7,7,7,7,7,7,7,7,7,7,7,7,7,7,7,7,7,7,7,7,7,7,7,7,7,7,7,7,7,7,7,7,7,7,7,7,7,7,7,7,7,7,7,7,7,7,7,7,7,7,7,7,7,7,7,7,7,7,7,8,8,8,8,8,8,8,8,8,8,8,8,8,8,8,8,8,8,8,8,8,8,8,8,8,8,8,8,8,8,8,8,8,8,8,8,8,8,8,8,8,8,8,8,8,8,8,8,8,8,8,8,8,8,8,8,8,8,8,8,8,8,8,8,8,8,8,8,8,8,8,8,8,8,8,8,8,8,8,8,8,8,8,8,8,8,8,8,8,8,8,8,8,8,8,8,8,8,8,8,8,8,8,8,8,8,8,8,8,8,8,8,8,8,8,8,8,8,8,8,8,8,8,8,8,8,8,8]) (IntKind.u8.wrap a.1))))))) fun b=>B3 (decide ((a.1:Int)≥256)) (Q7 ((0:Int)<=8)<|b (Int.fdiv a.1 (2^(min (8:Int).toNat IntKind.u64.bits)),IntKind.i64.wrap (a.2.1+8),())) (b (a.1,a.2.1,()))) fun b=>B3 (decide ((a.1:Int)≥65536)) (Q7 ((0:Int)<=16)<|b (Int.fdiv a.1 (2^(min (16:Int).toNat IntKind.u64.bits)),IntKind.i64.wrap (a.2.1+16),())) (b (a.1,a.2.1,()))) fun b=>B3 (decide ((a:Int)≥4294967296)) (Q7 ((0:Int)<=32)<|b (Int.fdiv a (2^(min (32:Int).toNat IntKind.u64.bits)),32,())) (b (a,0,())):=CF.mk ⟨[],[(4,[(0,.lf (.int .u64)),(2,lI)]),(7,[(0,.lf (.int .u64)),(2,lI)]),(10,[(0,.lf (.int .u64)),(2,lI)])],[]⟩ Tryz.func186
def e187(a:B6)(b:Y5):CF 187 [.slice a.a a.len a.cap,.func b.fn b.first b.captured] fun c=>lp [lI] (0,()) fun d e=>B3 (decide ((d.1:Int)<a.len)) (B4 a.a fun f=>D5 d.1 a.len<|ld (f.add (d.1.toNat*5)) Z2 fun a=>U5 PP b.fn (b.first++#[.agg (ki5 a)]) b.captured [.lf .bool] fun a=>B3 a.1 (c (.i d.1)) (e (IntKind.i64.wrap (d.1+1),()))) (c (.i (-1))):=CF.mk ⟨[(0,[(8,lI)])],[],[]⟩ Tryz.func187
def e188(a:F7 Z2) b:CF 188 [.agg (ki5 a),.q b] fun c=>nw (.cells (ki5 a) 197) fun a=>ld a.z Z4 fun a=>B4 b fun b=>ld b Z4 fun b=>Y8 PP (binOp .eql 195 (.agg (ki4 a)) (.agg (ki4 b))) (.lf .bool) fun a=>c (.b a):=CF.mk Hn Tryz.func188
def e189 a:CF 189 [.sv a] fun b=>lp [lI,lI] (0,0,()) fun c d=>B3 (decide ((c.2.1:Int)<a.len)) (B4 a.a fun b=>D5 c.2.1 a.len<|ld (b.add (c.2.1.toNat*1)) (.lf .sl) fun a=>B3 (decide ((IntKind.i64.wrap (c.1+a.len):Int)<0)) (ff) (d (IntKind.i64.wrap (c.1+a.len),IntKind.i64.wrap (c.2.1+1),()))) (cl PP 230 #[.slice none 0 0,.i c.1] [.lf .sl] fun c=>lp [.lf .sl,lI] (⟨c.1.a,c.1.len,c.1.cap⟩,0,()) fun c d=>B3 (decide ((c.2.1:Int)<a.len)) (B4 a.a fun b=>D5 c.2.1 a.len<|ld (b.add (c.2.1.toNat*1)) (.lf .sl) fun a=>F3 PP (Builtin.append_ #[37,37] 37 #[.sv c.1,.sv a]) [.lf .sl] fun a=>d (⟨a.1.a,a.1.len,a.1.cap⟩,IntKind.i64.wrap (c.2.1+1),())) (b (.sv c.1))):=CF.mk ⟨[(0,[(3,lI),(11,lI)]),(2,[(6,.lf .sl),(27,lI)])],[],[]⟩ Tryz.func189
def e190 a b:CF 190 [.i a,.sv b] fun c=>cl PP 231 #[.int .u32 (P9 .xor .u32 IntKind.u32.max (IntKind.u32.wrap a)),.sv b] [.lf (.int .u32)] fun a=>c (.i (IntKind.i64.wrap (P9 .xor .u32 IntKind.u32.max a.1))):=CF.mk Hn Tryz.func190
def e191 a b c:CF 191 [.q a,.i b,.i c] fun d=>B3 (Option.isNone a) (d (.t #[.q none,.i 1])) (B4 a fun e=>ld (e.add 2) (.lf .bool) fun e=>B3 e (d (.t #[.q none,.i 11])) (cl PP 137 #[.q a,.i b] [.lf .ptr] fun b=>B3 (Option.isNone b.1) (d (.t #[.q none,.i 2])) (B4 a fun a=>ld (Addr.add (a.add 3) 1) (lI) fun a=>cl PP 83 #[.i c,.i 0,.i (IntKind.i64.wrap (a-1))] [.lf .bool] fun a=>B3 (!a.1) (d (.t #[.q none,.i 2])) (d (.t #[.q b.1,.i 0]))))):=CF.mk Hn Tryz.func191
def e192 a:CF 192 [.sv a] fun b=>lp [lI] (0,()) fun c d=>B3 (decide ((c.1:Int)<a.len)) (B4 a.a fun e=>D5 c.1 a.len<|ld (e.add (c.1.toNat*1)) (.lf (.int .u8)) fun a=>B3 ((a:Int) !=255) (b (.b false)) (d (IntKind.i64.wrap (c.1+1),()))) (b (.b true)):=CF.mk ⟨[(0,[(7,lI)])],[],[]⟩ Tryz.func192
def e193 a b:CF 193 [.sv a,.i b] fun c=>cl PP 147 #[.sv a] [lI] fun a=>c (.b ((a.1:Int)==b)):=CF.mk Hn Tryz.func193
def e194 a b c:CF 194 [.sv a,.i b,.i c] fun d=>cl PP 167 #[.sv a,.i b,.i c] [lI,lI] fun a=>d (.i a.1):=CF.mk Hn Tryz.func194
set_option maxRecDepth 100000
def e195(a:F7 Z2):CF 195 [.agg (ki5 a)] fun b=>nw (.cells (ki5 a) 142) fun a=>ld a.z (lI) fun c=>B3 (decide ((c:Int)<1)) (b (.i 16)) (ld a.z (lI) fun c=>B3 (decide ((c:Int)>4)) (b (.i 16)) (ld (Addr.add a.z 2) (lI) fun c=>B3 (decide ((c:Int)<1)) (b (.i 3)) (ld (Addr.add a.z 2) (lI) fun c=>B3 (decide ((c:Int)>16)) (b (.i 3)) (ld (Addr.add a.z 1) (lI) fun c=>B3 (decide ((c:Int)<0)) (b (.i 3)) (ld (Addr.add a.z 1) (lI) fun c=>ld (Addr.add a.z 2) (lI) fun d=>B3 (decide ((c:Int)≥d)) (b (.i 3)) (ld (Addr.add a.z 3) (lI) fun c=>B3 (decide ((c:Int)<1)) (b (.i 3)) (ld (Addr.add a.z 3) (lI) fun c=>B3 (decide ((c:Int)>1073741824)) (b (.i 3)) (ld (Addr.add a.z 4) (lI) fun c=>B3 (decide ((c:Int)<0)) (b (.i 3)) (ld (Addr.add a.z 4) (lI) fun a=>B3 (decide ((a:Int)≥16)) (b (.i 3)) (b (.i 0))))))))))):=CF.mk Hn Tryz.func195
def e196 a:CF 196 [.sv a] fun b=>nw (.cells #[] 5) fun c=>F3 PP (Builtin.append_ #[37,37] 37 #[.slice (some c.z) 0 0,.sv a]) [.lf .sl] fun a=>nw (.cells #[.slice a.1.a a.1.len a.1.cap,.i 0] 347) fun a=>b (.p a):=CF.mk Hn Tryz.func196
def e197 a:CF 197 [.q a] fun b=>B3 (Option.isNone a) (b (.t #[.w (ByteArray.mk #[]),.i 1])) (B4 a fun c=>B4 a fun d=>ld c (.lf .sl) fun c=>ld (d.add 1) (lI) fun d=>cl PP 167 #[.sv c,.i d,.i 4] [lI,lI] fun c=>B3 ((c.2.1:Int) !=0) (b (.t #[.w (ByteArray.mk #[]),.i c.2.1])) (B4 a fun d=>ld (d.add 1) (lI) fun d=>B3 (decide ((c.1:Int)>65536)) (b (.t #[.w (ByteArray.mk #[]),.i 4])) (B4 a fun e=>ld e (.lf .sl) fun e=>B3 (decide ((c.1:Int)>(IntKind.i64.wrap (e.len-(IntKind.i64.wrap (d+4)))))) (b (.t #[.w (ByteArray.mk #[]),.i 6])) (B4 a fun e=>st (e.add 1) [.i (IntKind.i64.wrap ((IntKind.i64.wrap (d+4))+c.1))]<|B4 a fun c=>B4 a fun a=>ld c (.lf .sl) fun c=>ld (a.add 1) (lI) fun a=>slc ⟨c.a,c.len,c.cap⟩ (IntKind.i64.wrap (d+4)) a c.cap 1 fun a=>S4 PP (Conv.bytesToString (.sv a)) [.lf .str] fun a=>b (.t #[.w a.1,.i 0]))))):=CF.mk ⟨[],[],[(12,[0,1,2,4,5,6,7,3,8,9,10,11,12]),(3,[0,1,2,4,5,6,3,7,8,9,10,11,12,13])]⟩ Tryz.func197
def e198 a:CF 198 [.q a] fun b=>B3 (Option.isNone a) (b (.i 0)) (B4 a fun c=>B4 a fun a=>ld c (.lf .sl) fun c=>ld (a.add 1) (lI) fun a=>b (.i (IntKind.i64.wrap (c.len-a)))):=CF.mk ⟨[],[],[(3,[0,1,2,5,6,7,3,4,8,9,10])]⟩ Tryz.func198
def e199 a b:CF 199 [.q a,.i b] fun c=>B3 (Option.isNone a) (c (.t #[.i 0,.i 1])) (B4 a fun d=>B4 a fun e=>ld d (.lf .sl) fun d=>ld (e.add 1) (lI) fun e=>cl PP 167 #[.sv d,.i e,.i b] [lI,lI] fun d=>B3 ((d.2.1:Int)==0) (B4 a fun e=>ld (e.add 1) (lI) fun e=>B4 a fun a=>st (a.add 1) [.i (IntKind.i64.wrap (e+b))]<|c (.t (kii d))) (c (.t (kii d)))):=CF.mk ⟨[],[],[(3,[0,1,2,4,5,6,8,3,7,9,10,11,12,13,14])]⟩ Tryz.func199
def e200 a(b:Y5)(c:Y5):CF 200 [.q a,.func b.fn b.first b.captured,.func c.fn c.first c.captured] fun d=>B3 (Option.isNone a) (d (.t #[])) (B4 a fun e=>ld e (.lf .sl) fun e=>lp [lI] (0,()) fun f g=>B3 (decide ((f.1:Int)<e.len)) (U5 PP b.fn (b.first++#[.i f.1]) b.captured [.lf .bool] fun b=>B3 b.1 (B4 a fun a=>ld a (.lf .sl) fun a=>B4 a.a fun b=>D5 f.1 a.len<|ld (b.add (f.1.toNat*3)) Z7 fun a=>U5 PP c.fn (c.first++#[.i f.1,.agg (kibb a)]) c.captured [] fun a=>g (IntKind.i64.wrap (f.1+1),())) (g (IntKind.i64.wrap (f.1+1),()))) (d (.t #[]))):=CF.mk ⟨[(0,[(14,lI)])],[],[]⟩ Tryz.func200
def e201 a(b:F7 Z7) c:CF 201 [.i a,.agg (kibb b),.q c] fun a=>nw (.cells (kibb b) 236) fun b=>B4 c fun b=>ld b (lI) fun b=>B4 c fun c=>st c [.i (IntKind.i64.wrap (b+1))]<|a (.t #[]):=CF.mk Hn Tryz.func201
def e202 a:CF 202 [.q a] fun b=>B3 (Option.isNone a) (b (.t #[.i 0,.b false])) (B4 a fun c=>ld (c.add 1) (.lf .sl) fun c=>B3 ((c.len:Int)==0) (b (.t #[.i 0,.b false])) (B4 a fun a=>ld (a.add 1) (.lf .sl) fun a=>B4 a.a fun c=>D5 0 a.len<|ld (c.add ((0:Int).toNat*1)) (lI) fun a=>b (.t #[.i a,.b true]))):=CF.mk Hn Tryz.func202
def e203 a(b:F7 Z1)(c:F7 Z1) d:CF 203 [.q a,.agg (ki3 b),.agg (ki3 c),.i d] fun e=>nw (.cells (ki3 b) 100) fun b=>nw (.cells (ki3 c) 208) fun c=>B4 a fun f=>ld (f.add 11) (.lf .ptr) fun f=>ld b.z Z1 fun g=>cl PP 104 #[.q f,.agg (ki3 g)] [.lf .str,.lf .sl,lI] fun f=>cl PP 47 #[.q a,.w f.1] [.lf (.int .u64)] fun g=>jn (fun h:D2 []=>jn (fun c:D2 []=>B4 a fun c=>ld c Z4 fun c=>cl PP 97 #[.w f.1,.sv f.2.1,.agg (ki4 c)] [.lf .sl,lI] fun c=>B3 ((c.2.1:Int) !=0) (e (.i c.2.1)) (B4 a fun d=>cl PP 59 #[.q (some (d.add 11)),.i 2,.sv c.1] [Z1,lI] fun c=>nw (.cells #[.i 0,.i 0,.i 0] 100) fun d=>st d.z [.i c.1.1,.i c.1.2.1,.i c.1.2.2.1]<|B3 ((c.2.1:Int)==0) (B4 a fun a=>ld (Addr.add (a.add 19) 2) (.lf .ptr) fun a=>ld b.z Z1 fun b=>ld d.z Z1 fun d=>cl PP 234 #[.q a,.int .u64 g.1,.agg (ki3 b),.agg (ki3 d)] [.lf .bool] fun a=>e (.i c.2.1)) (e (.i c.2.1)))) fun f=>B4 a fun h=>ld (Addr.add (h.add 19) 2) (.lf .ptr) fun h=>ld b.z Z1 fun i=>cl PP 233 #[.q h,.int .u64 g.1,.agg (ki3 i)] [lI] fun h=>B3 ((h.1:Int)==0) (B4 a fun a=>ld (Addr.add (a.add 19) 2) (.lf .ptr) fun a=>ld b.z Z1 fun b=>cl PP 89 #[.q a,.int .u64 g.1,.agg (ki3 b)] [.lf .bool] fun a=>e (.i 0)) (B4 a fun h=>ld (Addr.add c.z 2) (lI) fun i=>nw (.cells #[.i i,.i d] 3) fun i=>cl PP 107 #[.q (some (h.add 11)),.slice (some i.z) 2 2] [.lf .bool] fun h=>B3 (!h.1) (B4 a fun a=>ld (Addr.add (a.add 19) 2) (.lf .ptr) fun a=>ld b.z Z1 fun b=>cl PP 89 #[.q a,.int .u64 g.1,.agg (ki3 b)] [.lf .bool] fun a=>e (.i 0)) (B4 a fun h=>ld (Addr.add c.z 2) (lI) fun c=>nw (.cells #[.i c,.i d] 3) fun c=>cl PP 109 #[.q (some (h.add 11)),.slice (some c.z) 2 2] [.lf .bool] fun c=>B3 (!c.1) (B4 a fun a=>ld (Addr.add (a.add 19) 2) (.lf .ptr) fun a=>ld b.z Z1 fun b=>cl PP 89 #[.q a,.int .u64 g.1,.agg (ki3 b)] [.lf .bool] fun a=>e (.i 0)) (f (()))))) fun c=>B3 ((f.2.2.1:Int) !=0) (e (.i 0)) (B4 a fun a=>ld (Addr.add (a.add 19) 2) (.lf .ptr) fun a=>ld b.z Z1 fun d=>cl PP 103 #[.q a,.int .u64 g.1] [.lf .sl] fun a=>keep (C0 b.z [.i d.1,.i d.2.1,.i d.2.2.1])<|cl PP 232 #[.sv a.1,.agg (ki3 d)] [.lf .bool] fun a=>B3 (!a.1) (e (.i 0)) (c (()))):=CF.mk ⟨[],[(5,[]),(8,[])],[(13,[0,1,2,3,5,4,6,7,8]),(6,[0,1,2,3,5,4,6,7]),(5,[0,1,2,3,5,4,6,7,8,9,10,11,12,13,15,14,16,17,18,19,20,21,22,23,24,26,25,27,28,29,30]),(3,[0,1,2,3,4,5,6,8,7,10,9,11,12,13]),(1,[0,1,2,3,4,5,6,7,8,9,10,11,12,13])]⟩ Tryz.func203
def e204(a:B6)(b:Y5):CF 204 [.slice a.a a.len a.cap,.func b.fn b.first b.captured] fun c=>cl PP 235 #[.slice a.a a.len a.cap,.func b.fn b.first b.captured] [lI] fun d=>B3 ((d.1:Int)==(-1)) (c (.sv a)) (lp [lI,lI] (d.1,IntKind.i64.wrap (d.1+1),()) fun d e=>B3 (decide ((d.2.1:Int)<a.len)) (B4 a.a fun c=>D5 d.2.1 a.len<|ld (c.add (d.2.1.toNat*3)) Z1 fun c=>nw (.cells #[.i 0,.i 0,.i 0] 100) fun f=>st f.z [.i c.1,.i c.2.1,.i c.2.2.1]<|ld f.z Z1 fun c=>U5 PP b.fn (b.first++#[.agg (ki3 c)]) b.captured [.lf .bool] fun b=>B3 (!b.1) (ld f.z Z1 fun b=>B4 a.a fun c=>D5 d.1 a.len<|st (c.add (d.1.toNat*3)) [.i b.1,.i b.2.1,.i b.2.2.1]<|e (IntKind.i64.wrap (d.1+1),IntKind.i64.wrap (d.2.1+1),())) (e (d.1,IntKind.i64.wrap (d.2.1+1),()))) (slc ⟨a.a,a.len,a.cap⟩ d.1 a.len a.cap 3 fun b=>F3 PP (Builtin.clear_ #[65] 0 #[.sv b]) [] fun b=>slc ⟨a.a,a.len,a.cap⟩ 0 d.1 a.cap 3 fun a=>c (.sv a))):=CF.mk ⟨[(0,[(5,lI),(6,lI)])],[],[]⟩ Tryz.func204
def e205(a:F7 Z1) b:CF 205 [.agg (ki3 a),.q b] fun c=>nw (.cells (ki3 a) 100) fun a=>ld a.z (lI) fun a=>B4 b fun b=>ld b (.lf .ptr) fun b=>B4 b fun b=>ld b (lI) fun b=>c (.b ((a:Int)==b)):=CF.mk ⟨[],[],[(1,[0,1,2,3,4,5,6,7])]⟩ Tryz.func205
def e206 a b c d e:CF 206 [.q a,.i b,.i c,.i d,.sv e] fun f=>lp [.lf .sl,lI] (⟨none,0,0⟩,0,()) fun g h=>B3 (decide ((g.2.1:Int)<e.len)) (B4 e.a fun a=>D5 g.2.1 e.len<|ld (a.add (g.2.1.toNat*3)) Z1 fun a=>nw (.cells #[.i 0,.i 0,.i 0] 208) fun b=>st b.z [.i a.1,.i a.2.1,.i a.2.2.1]<|ld b.z (lI) fun a=>ld (Addr.add b.z 1) (lI) fun c=>ld (Addr.add b.z 2) (lI) fun b=>nw (.cells #[.i a,.i c,.i b] 3) fun a=>cl PP 112 #[.sv g.1,.slice (some a.z) 3 3] [.lf .sl,.lf .bool] fun a=>B3 (!a.2.1) (f (.i 3)) (h (⟨a.1.a,a.1.len,a.1.cap⟩,IntKind.i64.wrap (g.2.1+1),()))) (cl PP 162 #[.q a,.i b,.agg #[.i 4,.i 0,.i 1,.i c,.i d],.sv g.1] [lI] fun a=>f (.i a.1)):=CF.mk ⟨[(0,[(11,.lf .sl),(18,lI)])],[],[]⟩ Tryz.func206
def e207 a(b:F7 Z7) c d e:CF 207 [.i a,.agg (kibb b),.q c,.q d,.q e] fun f=>nw (.cells (kibb b) 236) fun b=>B4 c fun g=>ld g (.lf .bool) fun g=>B3 (!g) (ld b.z Z7 fun g=>B4 e fun e=>st e [.i a]<|keep (C0 b.z [.i g.1,.b g.2.1,.b g.2.2.1])<|B4 d fun a=>st a [.i g.1,.b g.2.1,.b g.2.2.1]<|B4 c fun a=>st a [.b true]<|f (.t #[])) (ld b.z Z7 fun g=>B4 d fun h=>ld h Z7 fun i=>cl PP 208 #[.agg (kibb g)] [lI] fun g=>keep (C0 h [.i i.1,.b i.2.1,.b i.2.2.1])<|cl PP 208 #[.agg (kibb i)] [lI] fun h=>B3 (decide ((g.1:Int)<h.1)) (ld b.z Z7 fun g=>B4 e fun e=>st e [.i a]<|keep (C0 b.z [.i g.1,.b g.2.1,.b g.2.2.1])<|B4 d fun a=>st a [.i g.1,.b g.2.1,.b g.2.2.1]<|B4 c fun a=>st a [.b true]<|f (.t #[])) (f (.t #[]))):=CF.mk ⟨[],[],[(2,[0,1,2,3,4]),(1,[0,1,2,3,5,4,6,7,8])]⟩ Tryz.func207
def e208(a:F7 Z7):CF 208 [.agg (kibb a)] fun b=>nw (.cells (kibb a) 236) fun a=>ld (Addr.add a.z 2) (.lf .bool) fun c=>B3 c (ld a.z (lI) fun a=>b (.i (IntKind.i64.wrap (a+1)))) (ld a.z (lI) fun a=>b (.i a)):=CF.mk Hn Tryz.func208
def e209 a b:CF 209 [.q a,.i b] fun c=>cl PP 191 #[.q a,.i b,.i 0] [.lf .ptr,lI] fun b=>B3 ((b.2.1:Int) !=0) (c (.i b.2.1)) (B4 b.1 fun d=>ld (d.add 3) (.lf .bool) fun d=>B3 d (c (.i 10)) (B4 a fun d=>cl PP 236 #[.q (some d)] [.lf .bool] fun d=>B3 d.1 (B4 a fun d=>B4 a fun e=>B4 a fun f=>ld (Addr.add (e.add 3) 1) (lI) fun e=>ld (Addr.add (f.add 3) 2) (lI) fun g=>cl PP 237 #[.q (some d),.i e] [lI] fun d=>keep (C0 (Addr.add (f.add 3) 2) [.i g])<|cl PP 84 #[.q b.1,.i d.1,.i g] [] fun d=>B4 a fun a=>ld (Addr.add (a.add 3) 1) (lI) fun a=>B4 b.1 fun b=>st (b.add 1) [.i a]<|c (.i 11)) (B4 a fun d=>B4 a fun e=>ld (Addr.add (d.add 3) 1) (lI) fun d=>ld (Addr.add (e.add 3) 2) (lI) fun e=>cl PP 84 #[.q b.1,.i d,.i e] [] fun d=>B4 a fun a=>ld (Addr.add (a.add 3) 3) (lI) fun a=>cl PP 238 #[.q b.1,.i a] [.lf .bool] fun a=>B3 a.1 (c (.i 10)) (c (.i 0))))):=CF.mk ⟨[],[],[(10,[0,1,2,3,4,6,7,8,9,5,10,11]),(7,[0,1,2,3,4,5,6,7,10,11,12,13,8,14,9,15])]⟩ Tryz.func209
def e210 a b c:CF 210 [.q a,.i b,.b c] fun d=>nw (.cells #[.b c] 4) fun c=>cl PP 239 #[.q a,.i b,.func (.func 240) #[] #[.p c]] [.lf .bool] fun a=>d (.b a.1):=CF.mk Hn Tryz.func210
def e211 a b c:CF 211 [.q a,.i b,.i c] fun d=>cl PP 162 #[.q a,.i b,.agg #[.i 1,.i 0,.i 1,.i c,.i 0],.slice none 0 0] [lI] fun a=>d (.i a.1):=CF.mk Hn Tryz.func211
def e212 a b:CF 212 [.q a,.i b] fun c=>cl PP 128 #[.q a,.i b] [.lf .bool] fun d=>B3 (!d.1) (c (.b false)) (B4 a fun d=>ld d (.lf .sl) fun d=>B4 d.a fun e=>D5 b d.len<|ld (Addr.add (e.add (b.toNat*3)) 2) (.lf .bool) fun d=>B3 d (c (.b false)) (B4 a fun d=>ld (d.add 1) (.lf .sl) fun d=>nw (.cells #[.i b] 3) fun b=>F3 PP (Builtin.append_ #[128,128] 128 #[.sv d,.slice (some b.z) 1 1]) [.lf .sl] fun b=>B4 a fun a=>st (a.add 1) [.slice b.1.a b.1.len b.1.cap]<|c (.b true))):=CF.mk Hn Tryz.func212
def e213(a:F7 Z2) b c:CF 213 [.agg (ki5 a),.sv b,.i c] fun d=>nw (.cells (ki5 a) 142) fun a=>cl PP 110 #[.i c] [.lf .bool] fun e=>B3 (!e.1) (d (.t #[.slice none 0 0,.i 2])) (ld a.z Z2 fun e=>cl PP 195 #[.agg (ki5 e)] [lI] fun e=>B3 ((e.1:Int) !=0) (d (.t #[.slice none 0 0,.i e.1])) (cl PP 57 #[.i c] [lI] fun e=>B3 (decide ((b.len:Int)>e.1)) (d (.t #[.slice none 0 0,.i 4])) (ld a.z (lI) fun e=>ld (Addr.add a.z 1) (lI) fun f=>ld (Addr.add a.z 2) (lI) fun g=>ld (Addr.add a.z 3) (lI) fun h=>ld (Addr.add a.z 4) (lI) fun a=>nw (.cells #[.i e,.i 1,.i f,.i 1,.i g,.i 1,.i 165,.i 1,.i h,.i 4,.i a,.i 1,.i 0,.i 1,.i b.len,.i 2] 357) fun a=>cl PP 241 #[.slice none 0 0,.slice (some a.z) 8 8] [.lf .sl] fun a=>Hz PP (Instr.makeSlice 37 (.i (IntKind.i64.wrap (c-4))) (.i (IntKind.i64.wrap (c-4)))) (.lf .sl) fun c=>F3 PP (Builtin.copy_ #[37,37] 3 #[.sv c,.sv a.1]) [lI] fun a=>slc ⟨c.a,c.len,c.cap⟩ a.1 c.len c.cap 1 fun a=>F3 PP (Builtin.copy_ #[37,37] 3 #[.sv a,.sv b]) [lI] fun a=>cl PP 147 #[.sv c] [lI] fun a=>nw (.cells #[.i a.1,.i 4] 357) fun a=>cl PP 241 #[.sv c,.slice (some a.z) 1 1] [.lf .sl] fun a=>d (.t #[.sv a.1,.i 0])))):=CF.mk Hn Tryz.func213
def e214 a b c d:CF 214 [.q a,.i b,.i c,.sv d] fun e=>cl PP 191 #[.q a,.i b,.i c] [.lf .ptr,lI] fun f=>B3 ((f.2.1:Int) !=0) (e (.i f.2.1)) (B4 a fun g=>ld (Addr.add (g.add 3) 2) (lI) fun g=>B3 ((d.len:Int) !=g) (e (.i 2)) (B4 f.1 fun g=>ld (g.add 3) (.lf .bool) fun g=>B3 g (e (.i 10)) (B4 f.1 fun g=>ld (g.add 1) (lI) fun g=>B3 ((g:Int) !=c) (e (.i 9)) (B4 a fun g=>ld (Addr.add (g.add 3) 2) (lI) fun g=>cl PP 139 #[.i g] [.lf .sl] fun g=>B4 f.1 fun h=>ld h (.lf .sl) fun h=>B4 h.a fun i=>D5 c h.len<|st (i.add (c.toNat*1)) [.slice g.1.a g.1.len g.1.cap]<|B4 f.1 fun h=>ld (h.add 1) (lI) fun h=>B4 f.1 fun f=>st (f.add 1) [.i (IntKind.i64.wrap (h+1))]<|B4 a fun f=>B4 a fun h=>ld (f.add 8) (lI) fun f=>ld (Addr.add (h.add 3) 2) (lI) fun h=>B4 a fun i=>st (i.add 8) [.i (IntKind.i64.wrap (f+h))]<|B4 a fun f=>cl PP 236 #[.q (some f)] [.lf .bool] fun f=>B3 (!f.1) (F3 PP (Builtin.copy_ #[37,37] 3 #[.sv g.1,.sv d]) [lI] fun a=>e (.i 0)) (B4 a fun f=>B4 a fun h=>ld (Addr.add (h.add 3) 2) (lI) fun h=>cl PP 237 #[.q (some f),.i h] [lI] fun f=>slc ⟨d.a,d.len,d.cap⟩ 0 f.1 d.cap 1 fun f=>F3 PP (Builtin.copy_ #[37,37] 3 #[.sv g.1,.sv f]) [lI] fun f=>B4 a fun f=>ld (f.add 9) (.lf .sl) fun h=>nw (.cells #[] 5) fun i=>F3 PP (Builtin.append_ #[37,37] 37 #[.slice (some i.z) 0 0,.sv d]) [.lf .sl] fun d=>keep (C0 (f.add 9) [.sv h])<|nw (.cells #[] 5) fun i=>F3 PP (Builtin.append_ #[37,37] 37 #[.slice (some i.z) 0 0,.sv g.1]) [.lf .sl] fun g=>keep (C0 (f.add 9) [.sv h])<|nw (.cells #[.i b,.i c,.slice d.1.a d.1.len d.1.cap,.slice g.1.a g.1.len g.1.cap] 146) fun b=>F3 PP (Builtin.append_ #[61,61] 61 #[.sv h,.slice (some b.z) 1 1]) [.lf .sl] fun b=>B4 a fun a=>st (a.add 9) [.slice b.1.a b.1.len b.1.cap]<|e (.i 11)))))):=CF.mk ⟨[],[],[(18,[0,1,2,3,5,6,8,11,4,7,9,10,12,13,14,15,16,17,18]),(17,[0,1,2,3,4,5,6,7,8,9,10,11,12]),(13,[0,1,2,4,5,6,7,3,8,9,10,11,12])]⟩ Tryz.func214
def e215 a:CF 215 [.sv a] fun b=>nw (.cells #[.slice none 0 0,.i 0,.i 0] 326) fun c=>slc ⟨a.a,a.len,a.cap⟩ 0 (N8 a.len 16) a.cap 1 fun a=>lp [lI] (0,()) fun d e=>B3 (decide ((d.1:Int)<a.len)) (B4 a.a fun b=>D5 d.1 a.len<|ld (b.add (d.1.toNat*1)) (.lf .sl) fun a=>cl PP 150 #[.sv a] [Z2,.lf .sl,lI] fun b=>nw (.cells #[.i 0,.i 0,.i 0,.i 0,.i 0] 142) fun f=>st f.z [.i b.1.1,.i b.1.2.1,.i b.1.2.2.1,.i b.1.2.2.2.1,.i b.1.2.2.2.2.1]<|ld c.z (.lf .sl) fun g=>ld f.z Z2 fun f=>nw (.cells #[.i f.1,.i f.2.1,.i f.2.2.1,.i f.2.2.2.1,.i f.2.2.2.2.1,.slice b.2.1.a b.2.1.len b.2.1.cap,.b ((b.2.2.1:Int)==0)] 328) fun b=>F3 PP (Builtin.append_ #[324,324] 324 #[.sv g,.slice (some b.z) 1 1]) [.lf .sl] fun b=>st c.z [.slice b.1.a b.1.len b.1.cap]<|cl PP 192 #[.sv a] [.lf .bool] fun a=>B3 (!a.1) (st (Addr.add c.z 2) [.i d.1]<|e (IntKind.i64.wrap (d.1+1),())) (e (IntKind.i64.wrap (d.1+1),()))) (b (.p c)):=CF.mk ⟨[(0,[(17,lI)])],[],[(6,[0,1,2,3,6,7,8,4,5,9,10,11,12,13,14])]⟩ Tryz.func215
def e216 a b(c:F7 Z2):CF 216 [.q a,.i b,.agg (ki5 c)] fun d=>nw (.cells (ki5 c) 142) fun c=>B4 a fun e=>ld (e.add 1) (lI) fun e=>st (Addr.add c.z 3) [.i e]<|st (Addr.add c.z 4) [.i b]<|B3 (decide ((b:Int)<0)) (d (.t #[.slice none 0 0,.b false])) (B4 a fun e=>ld e (.lf .sl) fun e=>B3 (decide ((b:Int)≥e.len)) (d (.t #[.slice none 0 0,.b false])) (B4 a fun e=>ld e (.lf .sl) fun e=>B4 e.a fun f=>D5 b e.len<|ld (Addr.add (f.add (b.toNat*7)) 6) (.lf .bool) fun e=>B3 (!e) (d (.t #[.slice none 0 0,.b false])) (B4 a fun e=>ld e (.lf .sl) fun e=>B4 e.a fun f=>D5 b e.len<|ld (f.add (b.toNat*7)) Z2 fun e=>ld c.z Z2 fun c=>Y8 PP (binOp .neq 142 (.agg (ki5 e)) (.agg (ki5 c))) (.lf .bool) fun c=>B3 c (d (.t #[.slice none 0 0,.b false])) (B4 a fun a=>ld a (.lf .sl) fun a=>B4 a.a fun c=>D5 b a.len<|ld (Addr.add (c.add (b.toNat*7)) 5) (.lf .sl) fun a=>d (.t #[.sv a,.b true]))))):=CF.mk ⟨[],[],[(2,[0,1,2,3,4,5,6,7,8,9,10,11,12,13,14,16,15,17,18,19,20,21,22,23,24,25,27,26,28,29,30,31,32,33])]⟩ Tryz.func216
def e217 a:CF 217 [.q a] fun b=>B4 a fun c=>ld (c.add 2) (lI) fun c=>cl PP 216 #[.q a,.i c,.agg #[.i 4,.i 0,.i 1,.i 0,.i 0]] [.lf .sl,.lf .bool] fun c=>B3 (!c.2.1) (b (.t #[.slice none 0 0,.b false])) (Q7 ((3:Int)≠0)<|B3 ((Int.tmod c.1.len 3:Int) !=0) (b (.t #[.slice none 0 0,.b false])) (lp [.lf .sl,.lf .sl,lI] (⟨c.1.a,c.1.len,c.1.cap⟩,⟨none,0,0⟩,1,()) fun c d=>B3 (decide ((c.1.len:Int)>0)) (B4 c.1.a fun a=>D5 0 c.1.len<|B4 c.1.a fun e=>D5 1 c.1.len<|B4 c.1.a fun f=>D5 2 c.1.len<|ld (a.add ((0:Int).toNat*1)) (.lf (.int .u8)) fun a=>ld (e.add ((1:Int).toNat*1)) (.lf (.int .u8)) fun e=>ld (f.add ((2:Int).toNat*1)) (.lf (.int .u8)) fun f=>nw (.cells #[.i 0,.i 0,.i 0] 208) fun g=>st g.z [.i (IntKind.i64.wrap a),.i (IntKind.i64.wrap e),.i (IntKind.i64.wrap f)]<|ld g.z (lI) fun a=>cl PP 242 #[.i a] [.lf .bool] fun a=>B3 (!a.1) (b (.t #[.slice none 0 0,.b false])) (ld (Addr.add g.z 2) (lI) fun a=>B3 ((a:Int)==0) (b (.t #[.slice none 0 0,.b false])) (ld (Addr.add g.z 1) (lI) fun a=>B3 ((a:Int) !=c.2.2.1) (b (.t #[.slice none 0 0,.b false])) (ld (Addr.add g.z 2) (lI) fun a=>ld g.z Z1 fun b=>nw (.cells (ki3 b) 208) fun b=>F3 PP (Builtin.append_ #[129,129] 129 #[.sv c.2.1,.slice (some b.z) 1 1]) [.lf .sl] fun b=>slc ⟨c.1.a,c.1.len,c.1.cap⟩ 3 c.1.len c.1.cap 1 fun e=>d (⟨e.a,e.len,e.cap⟩,⟨b.1.a,b.1.len,b.1.cap⟩,IntKind.i64.wrap (c.2.2.1+a),()))))) (B4 a fun a=>ld (a.add 2) (lI) fun a=>b (.t #[.sv c.2.1,.b ((c.2.2.1:Int)==a)])))):=CF.mk ⟨[(0,[(4,.lf .sl),(6,.lf .sl),(7,lI)])],[],[(13,[0,1,2,3,4,7,5,6,8]),(8,[0,1,4,5,8,9,2,3,6,7,10,11,12,13,14])]⟩ Tryz.func217
def e218 a(b:Y5):CF 218 [.q a,.func b.fn b.first b.captured] fun c=>lp [.lf .sl,lI] (⟨none,0,0⟩,1,()) fun d e=>B4 a fun a=>ld (a.add 2) (lI) fun a=>B3 (decide ((d.2.1:Int)<=a)) (U5 PP b.fn (b.first++#[.i d.2.1]) b.captured [Z1,.lf .bool] fun a=>nw (.cells #[.i 0,.i 0,.i 0] 208) fun b=>st b.z [.i a.1.1,.i a.1.2.1,.i a.1.2.2.1]<|B3 (!a.2.1) (e (⟨d.1.a,d.1.len,d.1.cap⟩,IntKind.i64.wrap (d.2.1+1),())) (ld b.z Z1 fun a=>nw (.cells (ki3 a) 208) fun a=>F3 PP (Builtin.append_ #[129,129] 129 #[.sv d.1,.slice (some a.z) 1 1]) [.lf .sl] fun a=>ld (Addr.add b.z 2) (lI) fun b=>e (⟨a.1.a,a.1.len,a.1.cap⟩,IntKind.i64.wrap ((IntKind.i64.wrap (d.2.1+(IntKind.i64.wrap (b-1))))+1),()))) (c (.sv d.1)):=CF.mk ⟨[(0,[(5,.lf .sl),(6,lI)])],[],[]⟩ Tryz.func218
def e219 a b:CF 219 [.q a,.i b] fun c=>nw (.cells #[.i 0,.i 0,.i 0] 208) fun d=>B4 a fun e=>ld e (.lf .sl) fun e=>B4 e.a fun f=>D5 b e.len<|ld (f.add (b.toNat*7)) (.agg [.int .i64,.int .i64,.int .i64,.int .i64,.int .i64,.sl,.bool]) fun e=>nw (.cells #[.i 0,.i 0,.i 0,.i 0,.i 0,.slice none 0 0,.b false] 328) fun f=>st f.z [.i e.1,.i e.2.1,.i e.2.2.1,.i e.2.2.2.1,.i e.2.2.2.2.1,.slice e.2.2.2.2.2.1.a e.2.2.2.2.2.1.len e.2.2.2.2.2.1.cap,.b e.2.2.2.2.2.2.1]<|ld (Addr.add f.z 6) (.lf .bool) fun e=>B3 (!e) (st d.z [.i 0,.i 0,.i 0]<|ld d.z Z1 fun a=>c (.t #[.agg (ki3 a),.b false])) (ld f.z (lI) fun e=>cl PP 242 #[.i e] [.lf .bool] fun e=>B3 (!e.1) (st d.z [.i 0,.i 0,.i 0]<|ld d.z Z1 fun a=>c (.t #[.agg (ki3 a),.b false])) (ld (Addr.add f.z 2) (lI) fun e=>lp [lI] (0,()) fun g h=>B3 (decide ((g.1:Int)<e)) (ld f.z (lI) fun e=>ld (Addr.add f.z 2) (lI) fun f=>cl PP 216 #[.q a,.i (IntKind.i64.wrap (b+g.1)),.agg #[.i e,.i g.1,.i f,.i 0,.i 0]] [.lf .sl,.lf .bool] fun a=>B3 (!a.2.1) (st d.z [.i 0,.i 0,.i 0]<|ld d.z Z1 fun a=>c (.t #[.agg (ki3 a),.b false])) (h (IntKind.i64.wrap (g.1+1),()))) (ld f.z (lI) fun a=>ld (Addr.add f.z 2) (lI) fun e=>st d.z [.i a,.i b,.i e]<|ld d.z Z1 fun a=>c (.t #[.agg (ki3 a),.b true])))):=CF.mk ⟨[(0,[(31,lI)])],[],[]⟩ Tryz.func219
def e220(a:B6) b(c:Y5):CF 220 [.slice a.a a.len a.cap,.i b,.func c.fn c.first c.captured] fun d=>lp [lI,lI] (0,20,()) fun e f=>B3 (decide ((e.2.1:Int)<=b)) (cl PP 243 #[.slice a.a a.len a.cap,.i e.1,.i e.2.1,.func c.fn c.first c.captured] [] fun a=>f (e.2.1,IntKind.i64.wrap (e.2.1+20),())) (cl PP 243 #[.slice a.a a.len a.cap,.i e.1,.i b,.func c.fn c.first c.captured] [] fun e=>lp [lI] (20,()) fun e f=>B3 (decide ((e.1:Int)<b)) (lp [lI,lI] (0,IntKind.i64.wrap (2*e.1),()) fun d g=>B3 (decide ((d.2.1:Int)<=b)) (cl PP 244 #[.slice a.a a.len a.cap,.i d.1,.i (IntKind.i64.wrap (d.1+e.1)),.i d.2.1,.func c.fn c.first c.captured] [] fun a=>g (d.2.1,IntKind.i64.wrap (d.2.1+(IntKind.i64.wrap (2*e.1))),())) (B3 (decide ((IntKind.i64.wrap (d.1+e.1):Int)<b)) (cl PP 244 #[.slice a.a a.len a.cap,.i d.1,.i (IntKind.i64.wrap (d.1+e.1)),.i b,.func c.fn c.first c.captured] [] fun a=>f (IntKind.i64.wrap (e.1*2),())) (f (IntKind.i64.wrap (e.1*2),())))) (d (.t #[]))):=CF.mk ⟨[(0,[(7,lI),(8,lI)]),(2,[(6,lI)]),(4,[(7,lI),(8,lI)])],[],[]⟩ Tryz.func220
def e221 a b:CF 221 [.sv a,.i b] fun c=>lp [lI] (0,()) fun d e=>B3 (decide ((d.1:Int)<a.len)) (B4 a.a fun f=>D5 d.1 a.len<|ld (f.add (d.1.toNat*1)) (lI) fun a=>B3 ((b:Int)==a) (c (.i d.1)) (e (IntKind.i64.wrap (d.1+1),()))) (c (.i (-1))):=CF.mk ⟨[(0,[(8,lI)])],[],[]⟩ Tryz.func221
def e222 a:CF 222 [.i a] fun b=>b (.int .u32 (IntKind.u32.wrap (IntKind.u64.wrap a))):=CF.mk Hn Tryz.func222
def e223 a(b:Int):CF 223 [.i a,.int .u8 b] fun c=>cl PP 222 #[.i a] [.lf (.int .u32)] fun a=>lp [.lf (.int .u32),lI] (P9 .xor .u32 a.1 (IntKind.u32.wrap b),0,()) fun a b=>B3 (decide ((a.2.1:Int)<8)) (Q7 ((2:Int)≠0)<|Q7 ((2:Int)≠0)<|B3 ((Int.tmod a.1 2:Int)==1) (b (P9 .xor .u32 (IntKind.u32.wrap (Int.tdiv a.1 2)) 2197175160,IntKind.i64.wrap (a.2.1+1),())) (b (IntKind.u32.wrap (Int.tdiv a.1 2),IntKind.i64.wrap (a.2.1+1),()))) (c (.i (IntKind.i64.wrap a.1))):=CF.mk ⟨[(0,[(5,.lf (.int .u32)),(6,lI)])],[],[]⟩ Tryz.func223
def e229 a:CF 229 [.w a] fun b=>b (.b (!(ByteArray.toList a==ByteArray.toList a))):=CF.mk Hn Tryz.func229
def e230 a b:CF 230 [.sv a,.i b] fun c=>jn (fun d:D2 []=>B3 (decide ((IntKind.i64.wrap (b-(IntKind.i64.wrap (a.cap-a.len))):Int)>0)) (slc ⟨a.a,a.len,a.cap⟩ 0 a.cap a.cap 1 fun d=>F3 PP (Builtin.append_ #[37,3] 37 #[.sv d,.i (IntKind.i64.wrap (b-(IntKind.i64.wrap (a.cap-a.len))))]) [.lf .sl] fun b=>slc ⟨b.1.a,b.1.len,b.1.cap⟩ 0 a.len b.1.cap 1 fun a=>c (.sv a)) (c (.sv a))) fun a=>B3 (decide ((b:Int)<0)) (ff) (a (())):=CF.mk ⟨[],[(3,[])],[]⟩ Tryz.func230
def e231(a:Int) b:CF 231 [.int .u32 a,.sv b] fun c=>lp [.lf (.int .u32),lI] (a,0,()) fun a d=>B3 (decide ((a.2.1:Int)<b.len)) (B4 b.a fun c=>D5 a.2.1 b.len<|ld (c.add (a.2.1.toNat*1)) (.lf (.int .u8)) fun b=>lp [.lf (.int .u32),lI] (P9 .xor .u32 a.1 (IntKind.u32.wrap b),0,()) fun b c=>B3 (decide ((b.2.1:Int)<8)) (Q7 ((0:Int)<=1)<|c (P9 .xor .u32 (Int.fdiv b.1 (2^(min (1:Int).toNat IntKind.u32.bits))) (P9 .and .u32 2197175160 (IntKind.u32.wrap (0-(P9 .and .u32 b.1 1)))),IntKind.i64.wrap (b.2.1+1),())) (d (b.1,IntKind.i64.wrap (a.2.1+1),()))) (c (.int .u32 a.1)):=CF.mk ⟨[(0,[(0,.lf (.int .u32)),(10,lI)]),(2,[(0,.lf (.int .u32)),(18,lI)])],[],[]⟩ Tryz.func231
def e232 a(b:F7 Z1):CF 232 [.sv a,.agg (ki3 b)] fun c=>nw (.cells (ki3 b) 100) fun b=>ld b.z Z1 fun b=>cl PP 246 #[.sv a,.agg (ki3 b)] [lI] fun a=>c (.b (decide ((a.1:Int)≥0))):=CF.mk Hn Tryz.func232
def e233 a(b:Int)(c:F7 Z1):CF 233 [.q a,.int .u64 b,.agg (ki3 c)] fun d=>nw (.cells (ki3 c) 100) fun c=>nw (.cells #[.i 0] 3) fun e=>st e.z [.i 0]<|ld c.z Z1 fun c=>cl PP 105 #[.q a,.int .u64 b,.agg (ki3 c),.func (.func 247) #[] #[.p e]] [.lf .bool] fun a=>ld e.z (lI) fun a=>d (.i a):=CF.mk Hn Tryz.func233
def e234 a(b:Int)(c:F7 Z1)(d:F7 Z1):CF 234 [.q a,.int .u64 b,.agg (ki3 c),.agg (ki3 d)] fun e=>nw (.cells (ki3 c) 100) fun c=>nw (.cells (ki3 d) 100) fun d=>ld c.z Z1 fun c=>cl PP 143 #[.q a,.int .u64 b,.agg (ki3 c)] [Z2,.lf .bool] fun c=>nw (.cells #[.i 0,.i 0,.i 0,.i 0,.i 0] 197) fun f=>st f.z [.i c.1.1,.i c.1.2.1,.i c.1.2.2.1,.i c.1.2.2.2.1,.i c.1.2.2.2.2.1]<|B3 c.2.1 (ld d.z Z1 fun g=>cl PP 143 #[.q a,.int .u64 b,.agg (ki3 g)] [Z2,.lf .bool] fun g=>ld d.z Z1 fun d=>ld (Addr.add f.z 4) (lI) fun g=>cl PP 152 #[.int .u64 b,.agg (ki3 d)] [Z4] fun d=>keep (C0 (Addr.add f.z 4) [.i g])<|cl PP 171 #[.q a,.int .u64 b,.agg #[.i d.1.1,.i d.1.2.1,.i d.1.2.2.1,.i d.1.2.2.2.1,.i (L9 (IntKind.i64.wrap (g-1)) 0)]] [] fun a=>e (.b c.2.1)) (e (.b c.2.1)):=CF.mk ⟨[],[],[(4,[0,1,2,5,3,6,7,8,4,9,10])]⟩ Tryz.func234
def e235(a:B6)(b:Y5):CF 235 [.slice a.a a.len a.cap,.func b.fn b.first b.captured] fun c=>lp [lI] (0,()) fun d e=>B3 (decide ((d.1:Int)<a.len)) (B4 a.a fun f=>D5 d.1 a.len<|ld (f.add (d.1.toNat*3)) Z1 fun a=>U5 PP b.fn (b.first++#[.agg (ki3 a)]) b.captured [.lf .bool] fun a=>B3 a.1 (c (.i d.1)) (e (IntKind.i64.wrap (d.1+1),()))) (c (.i (-1))):=CF.mk ⟨[(0,[(8,lI)])],[],[]⟩ Tryz.func235
def e236 a:CF 236 [.q a] fun b=>B4 a fun c=>ld c (lI) fun c=>B3 ((c:Int)==0) (b (.b false)) (B4 a fun c=>ld c (lI) fun c=>B4 a fun d=>st d [.i (IntKind.i64.wrap (c-1))]<|B4 a fun c=>ld c (lI) fun c=>B4 a fun d=>st (d.add 2) [.b ((c:Int)==0)]<|B4 a fun a=>ld (a.add 2) (.lf .bool) fun a=>b (.b a)):=CF.mk Hn Tryz.func236
def e237 a b:CF 237 [.q a,.i b] fun c=>B4 a fun a=>ld (a.add 1) (lI) fun a=>c (.i (N8 (L9 a 0) b)):=CF.mk Hn Tryz.func237
def e238 a b:CF 238 [.q a,.i b] fun c=>B4 a fun d=>st (d.add 1) [.i 0]<|B4 a fun d=>ld (d.add 2) (lI) fun d=>B4 a fun e=>st (e.add 2) [.i (IntKind.i64.wrap (d+1))]<|B4 a fun d=>ld (d.add 2) (lI) fun d=>B4 a fun e=>st (e.add 3) [.b ((d:Int)==b)]<|B4 a fun a=>ld (a.add 3) (.lf .bool) fun a=>c (.b a):=CF.mk Hn Tryz.func238
set_option maxRecDepth 100000
def e239 a b(c:Y5):CF 239 [.q a,.i b,.func c.fn c.first c.captured] fun d=>nw (.cells #[.i b] 3) fun b=>ld b.z (lI) fun e=>cl PP 168 #[.q a,.i e] [.lf .bool] fun e=>B3 (!e.1) (d (.b false)) (B4 a fun e=>ld (e.add 1) (.lf .sl) fun e=>cl PP 248 #[.sv e,.func (.func 249) #[] #[.p b]] [.lf .sl] fun e=>B4 a fun f=>st (f.add 1) [.slice e.1.a e.1.len e.1.cap]<|B4 a fun a=>ld a (.lf .sl) fun a=>ld b.z (lI) fun b=>B4 a.a fun e=>D5 b a.len<|U5 PP c.fn (c.first++#[.q (some (e.add (b.toNat*3)))]) c.captured [] fun a=>d (.b true)):=CF.mk ⟨[],[],[(4,[0,1,2,3,4,5,6,7])]⟩ Tryz.func239
def e240 a b:CF 240 [.q a,.q b] fun c=>B4 a fun d=>ld d (lI) fun d=>B4 a fun e=>st e [.i (IntKind.i64.wrap (d+1))]<|B4 b fun b=>ld b (.lf .bool) fun b=>B4 a fun d=>st (d.add 1) [.b b]<|B4 a fun a=>st (a.add 2) [.b false]<|c (.t #[]):=CF.mk Hn Tryz.func240
def e241 a b:CF 241 [.sv a,.sv b] fun c=>lp [.lf .sl,lI] (⟨a.a,a.len,a.cap⟩,0,()) fun a d=>B3 (decide ((a.2.1:Int)<b.len)) (B4 b.a fun c=>D5 a.2.1 b.len<|ld (c.add (a.2.1.toNat*2)) Z9 fun b=>nw (.cells #[.i 0,.i 0] 357) fun c=>st c.z [.i b.1,.i b.2.1]<|ld c.z (lI) fun b=>ld (Addr.add c.z 1) (lI) fun c=>cl PP 113 #[.sv a.1,.i b,.i c] [.lf .sl,lI] fun b=>d (⟨b.1.a,b.1.len,b.1.cap⟩,IntKind.i64.wrap (a.2.1+1),())) (c (.sv a.1)):=CF.mk ⟨[(0,[(0,.lf .sl),(9,lI)])],[],[]⟩ Tryz.func241
def e242 a:CF 242 [.i a] fun b=>B3 ((a:Int)==2) (b (.b true)) (b (.b ((a:Int)==3))):=CF.mk Hn Tryz.func242
def e243(a:B6) b c(d:Y5):CF 243 [.slice a.a a.len a.cap,.i b,.i c,.func d.fn d.first d.captured] fun e=>lp [lI] (IntKind.i64.wrap (b+1),()) fun f g=>B3 (decide ((f.1:Int)<c)) (lp [lI] (f.1,()) fun c e=>jn (fun b:D2 []=>B4 a.a fun b=>D5 (IntKind.i64.wrap (c.1-1)) a.len<|B4 a.a fun d=>D5 c.1 a.len<|ld (b.add ((IntKind.i64.wrap (c.1-1)).toNat*3)) Z5 fun b=>ld (d.add (c.1.toNat*3)) Z5 fun d=>B4 a.a fun f=>D5 c.1 a.len<|st (f.add (c.1.toNat*3)) [.i b.1,.i b.2.1,.slice b.2.2.1.a b.2.2.1.len b.2.2.1.cap]<|B4 a.a fun b=>D5 (IntKind.i64.wrap (c.1-1)) a.len<|st (b.add ((IntKind.i64.wrap (c.1-1)).toNat*3)) [.i d.1,.i d.2.1,.slice d.2.2.1.a d.2.2.1.len d.2.2.1.cap]<|e (IntKind.i64.wrap (c.1-1),())) fun e=>B3 (decide ((c.1:Int)>b)) (B4 a.a fun b=>D5 c.1 a.len<|B4 a.a fun h=>D5 (IntKind.i64.wrap (c.1-1)) a.len<|ld (b.add (c.1.toNat*3)) Z5 fun a=>ld (h.add ((IntKind.i64.wrap (c.1-1)).toNat*3)) Z5 fun b=>U5 PP d.fn (d.first++#[.agg #[.i a.1,.i a.2.1,.slice a.2.2.1.a a.2.2.1.len a.2.2.1.cap],.agg #[.i b.1,.i b.2.1,.slice b.2.2.1.a b.2.2.1.len b.2.2.1.cap]]) d.captured [lI] fun a=>B3 (decide ((a.1:Int)<0)) (e (())) (g (IntKind.i64.wrap (f.1+1),()))) (g (IntKind.i64.wrap (f.1+1),()))) (e (.t #[])):=CF.mk ⟨[(0,[(8,lI)]),(2,[(9,lI)])],[(6,[])],[(6,[0,1,2,3,4,5,6,7,8,10,11,12,9,13,14,15,16,17]),(4,[0,1,2,3,4,5,6,7,9,10,11,12,8,13,14,15,16])]⟩ Tryz.func243
def e246 a(b:F7 Z1):CF 246 [.sv a,.agg (ki3 b)] fun c=>nw (.cells (ki3 b) 100) fun b=>lp [lI] (0,()) fun d e=>B3 (decide ((d.1:Int)<a.len)) (B4 a.a fun f=>D5 d.1 a.len<|ld b.z Z1 fun a=>ld (f.add (d.1.toNat*3)) Z1 fun b=>Y8 PP (binOp .eql 100 (.agg (ki3 a)) (.agg (ki3 b))) (.lf .bool) fun a=>B3 a (c (.i d.1)) (e (IntKind.i64.wrap (d.1+1),()))) (c (.i (-1))):=CF.mk ⟨[(0,[(8,lI)])],[],[(4,[1,2,3,0,4,5])]⟩ Tryz.func246
def e247 a b:CF 247 [.q a,.q b] fun c=>B4 a fun a=>ld (a.add 4) (lI) fun a=>B4 b fun b=>st b [.i a]<|c (.t #[]):=CF.mk Hn Tryz.func247
def e248(a:B6)(b:Y5):CF 248 [.slice a.a a.len a.cap,.func b.fn b.first b.captured] fun c=>cl PP 251 #[.slice a.a a.len a.cap,.func b.fn b.first b.captured] [lI] fun d=>B3 ((d.1:Int)==(-1)) (c (.sv a)) (lp [lI,lI] (d.1,IntKind.i64.wrap (d.1+1),()) fun d e=>B3 (decide ((d.2.1:Int)<a.len)) (B4 a.a fun c=>D5 d.2.1 a.len<|ld (c.add (d.2.1.toNat*1)) (lI) fun c=>U5 PP b.fn (b.first++#[.i c]) b.captured [.lf .bool] fun b=>B3 (!b.1) (B4 a.a fun b=>D5 d.1 a.len<|st (b.add (d.1.toNat*1)) [.i c]<|e (IntKind.i64.wrap (d.1+1),IntKind.i64.wrap (d.2.1+1),())) (e (d.1,IntKind.i64.wrap (d.2.1+1),()))) (slc ⟨a.a,a.len,a.cap⟩ d.1 a.len a.cap 1 fun b=>F3 PP (Builtin.clear_ #[128] 0 #[.sv b]) [] fun b=>slc ⟨a.a,a.len,a.cap⟩ 0 d.1 a.cap 1 fun a=>c (.sv a))):=CF.mk ⟨[(0,[(5,lI),(6,lI)])],[],[]⟩ Tryz.func248
def e249 a b:CF 249 [.i a,.q b] fun c=>B4 b fun b=>ld b (lI) fun b=>c (.b ((a:Int)==b)):=CF.mk Hn Tryz.func249
def e251(a:B6)(b:Y5):CF 251 [.slice a.a a.len a.cap,.func b.fn b.first b.captured] fun c=>lp [lI] (0,()) fun d e=>B3 (decide ((d.1:Int)<a.len)) (B4 a.a fun f=>D5 d.1 a.len<|ld (f.add (d.1.toNat*1)) (lI) fun a=>U5 PP b.fn (b.first++#[.i a]) b.captured [.lf .bool] fun a=>B3 a.1 (c (.i d.1)) (e (IntKind.i64.wrap (d.1+1),()))) (c (.i (-1))):=CF.mk ⟨[(0,[(8,lI)])],[],[]⟩ Tryz.func251
abbrev tB:TypeId:=37
abbrev eB:TypeId:=5
def Vr:PP.underlying tB=some (.slice eB):=by kernel_rfl
def Be:V4 PP tB eB 1 1 [.int .u8 0]:=De (by kernel_rfl) (by kernel_rfl) rfl (by decide) (by decide)
def Dp:W6 PP tB:=.inl ⟨eB,by kernel_rfl⟩
def Bd6:W6 PP 9:=.inr (by kernel_rfl)
def Ar9{b:Nat}{l:List UInt8}{T:TypeId}{fz:Nat×Nat}(cap:Nat)(hc:l.length<=cap)(hm:(b,Obj.cells (F9 l).toArray T fz)∈L):G0 L ⟨some b.z,l.length,cap⟩ l:=
 ⟨by rw[Y1];simp,hc,.inr ⟨_,rfl,.blk hm fun i v hv=>by simpa using hv⟩⟩
def Km{n:Nat}:C5 ⟨some n.z,0,0⟩ 1 e [] [(n,Obj.cells #[] e)]:=⟨rfl,NF _,.inr ⟨n,0,#[],(0,0),rfl,rfl,by simp,.inl (NF _),fun i u hu=>by simp at hu⟩⟩
def O5{sz:Nat}:C5 ⟨none,0,0⟩ sz e [] []:=⟨by simp,NF _,.inl ⟨rfl,rfl,rfl⟩⟩
def G2(n i:Nat):UInt8:=UInt8.ofNat (n/256^i)
def E4(n w:Nat):List UInt8:=(List.range w).map (G2 n)
def Df(n w:Nat):(E4 n w).length=w:=by simp[E4]
def GL(n w:Nat):E4 n (w+1)=E4 n w++[G2 n w]:=by simp[E4,TX]
def Aq5(n w:Nat):E4 n (w+1)=UInt8.ofNat n::E4 (n/256) w:=by
 induction w with
 |zero=>simp[E4,G2]
 |succ w ih=>
  rw[GL n (w+1),ih,GL (n/256) w];have:G2 n (w+1)=G2 (n/256) w:=by
   unfold G2;rw[TY,VK,YM]
  rw[this];rfl
def I8:List UInt8->Nat
 |[]=>0
 |x::r=>x.toNat+256*I8 r
theorem DO: ∀l:List UInt8,I8 l<256^l.length
 |[]=>by simp[I8]
 |x::r=>by
  have h1:=DO r;have h2:=x.toNat_lt;rw[NU,TY];simp only[I8];omega
def Bt7(l:List UInt8)(x:UInt8):I8 (l++[x])=I8 l+256^l.length*x.toNat:=by
 induction l with
 |nil=>simp[I8]
 |cons y r ih=>
  rw[OM];simp only[I8,ih,NU,TY];rw[Nat.mul_add,<-TR,VK (256^r.length) 256,Nat.mul_assoc]
def Pz(w:Nat): ∀n,n<256^w->I8 (E4 n w)=n:=by
 induction w with
 |zero=>intro n h;simp at h;subst h;rfl
 |succ w ih=>
  intro n h;rw[Aq5];simp only[I8];rw[ih (n/256) (by rw[TY]at h;omega)];have:(UInt8.ofNat n).toNat=n%256:=by simp
  rw[this];exact Nat.mod_add_div n 256
def Y6(b:List UInt8)(n w:Int):List UInt8×Int:=
 if w<1\/7<w then([],2)else if n<0\/((256^w.toNat:Nat):Int)<=n then([],3)else(b++E4 n.toNat w.toNat,0)
def Vl(h:w<1\/7<w):Y6 b n w=([],2):=by unfold Y6;rw[NE h]
def IB(h: ¬(w<1\/7<w))(h2:n<0):Y6 b n w=([],3):=by unfold Y6;rw[ND h,NE (Or.inl h2)]
def IC(h: ¬(w<1\/7<w))(h2:((256^w.toNat:Nat):Int)<=n):Y6 b n w=([],3):=by unfold Y6;rw[ND h,NE (Or.inr h2)]
def Lg(h: ¬(w<1\/7<w))(h1: ¬n<0)(h2:n.toNat<256^w.toNat):Y6 b n w=(b++E4 n.toNat w.toNat,0):=by
 unfold Y6;rw[ND h,ND];rintro(h3|h3)
 ·exact h1 h3
 ·generalize 256^w.toNat=q at h2 h3;omega
def Rk(b:List UInt8)(n w:Int)(A:B1)(v:Value)(L':B1):Prop:= ∃(s:B6) (seg:B1),v= .t #[.slice s.a s.len s.cap,.i (Y6 b n w).2]/\L'=seg++A/\C5 s 1 eB (F9 (Y6 b n w).1) seg
def Rk.err{e:Int}(h:Y6 b n w=([],e)):Rk b n w A (.t #[.slice none 0 0,.i e]) A:=
 ⟨⟨none,0,0⟩,[],by rw[h],rfl,by rw[h];exact O5⟩
def KL(n:Nat)(i:Nat):Int.fdiv (n:Int) (2^(8*i))=((n/256^i:Nat):Int):=by
 rw[UI _ (UJ (Int.pow_pos (by omega)))];have:(2:Int)^(8*i)=((256^i:Nat):Int):=by rw[Int.pow_mul,Int.natCast_pow];rfl
 rw[this,Int.natCast_ediv]
def HW(n i:Nat):IntKind.u8.wrap ((n/256^i:Nat):Int)=((G2 n i).toNat:Int):=by
 rw[AA,TT];unfold G2;have:(UInt8.ofNat (n/256^i)).toNat=n/256^i%256:=by simp
 rw[this];omega
def Aq6(n:Nat):E4 n 8=[G2 n 0,G2 n 1,G2 n 2,G2 n 3,G2 n 4,G2 n 5,G2 n 6,G2 n 7]:=rfl
def HZ(c:Array Value)(hc:c.size=8)(a b c' d e f g h:UInt8):wr c 0 [.int .u8 a.toNat,.int .u8 b.toNat,.int .u8 c'.toNat,.int .u8 d.toNat,.int .u8 e.toNat,.int .u8 f.toNat,.int .u8 g.toNat,.int .u8 h.toNat]=(F9 [a,b,c',d,e,f,g,h]).toArray:=HY _ _ (by rw[hc];rfl)
def Ux(n k:Nat):Array Value:=((List.range 8).map fun j=>Value.int .u8 (if j<k then(G2 n j).toNat else 0)).toArray
def Bt5(L:B1)(n:Nat):Reads PP 161 #[.i n] L (.agg (F9 (E4 n 8)).toArray):=by
 refine(e161 n).r ?_;refine C9 fun n1 _=>C9 fun n2 _=>?_;refine G1 (fun k z L'=> ∃i,i<=8/\k=8-i/\z=((i:Int),())/\L'=(n2,Obj.cells (Ux n i) 271)::(n1,Obj.cells #[.int .u8 0,.int .u8 0,.int .u8 0,.int .u8 0,.int .u8 0,.int .u8 0,.int .u8 0,.int .u8 0] 271)::L) 8 ⟨0,by omega,by omega,rfl,rfl⟩ ?_;rintro k z L' ⟨i,hi,rfl,rfl,rfl⟩;refine D3 (fun(hO:(i:Int)<8)=>?_) (fun(aM: ¬(i:Int)<8)=>?_)
 ·have hw:IntKind.i64.wrap (8*(i:Int))=((8*i:Nat):Int):=by rw[D7 (by omega) (by omega)];omega
  have hm:min (8*i) IntKind.i64.bits=8*i:=QF (show 8*i<=64 by omega);simp only[hw,NK,hm,KL,HW,OS];refine Dv (by omega) (H7 (by omega) hO (F6 (n:=n2) (off:=i) [] _ (by rw[Fh (ad:=n2.z) rfl,QO]) rfl ?_ (.inl (NF _)) (Ux n (i+1)) ?_ ?_))
  ·have:(Ux n i).size=8:=by simp[Ux]
   rw[this];simp only[NU,OX];omega
  ·rcases(show i=0\/i=1\/i=2\/i=3\/i=4\/i=5\/i=6\/i=7 by omega)with rfl|rfl|rfl|rfl|rfl|rfl|rfl|rfl<;>rfl
  ·refine⟨8-(i+1),by omega,i+1,by omega,rfl,?_,rfl⟩;rw[D7 (by first|omega|(simp only;omega)) (by first|omega|(simp only;omega))];rfl
 ·obtain rfl:i=8:=by omega
  refine B5 ((G2 n 0).toNat,(G2 n 1).toNat,(G2 n 2).toNat,(G2 n 3).toNat,(G2 n 4).toNat,(G2 n 5).toNat,(G2 n 6).toNat,(G2 n 7).toNat,()) (C2 NG rfl) ?_;rw[Aq6];refine F6 [(n2,Obj.cells (Ux n 8) 271)] L rfl rfl (by simp) (.inl (NF _)) _ (HZ _ rfl _ _ _ _ _ _ _ _) ?_;refine B5 ((G2 n 0).toNat,(G2 n 1).toNat,(G2 n 2).toNat,(G2 n 3).toNat,(G2 n 4).toNat,(G2 n 5).toNat,(G2 n 6).toNat,(G2 n 7).toNat,()) (C2 (NN _ NG) rfl) ?_;exact .drop (A:=L) (J:=[_,_]) ⟨rfl,rfl⟩ (OT (l₁:=[_,_]))
def CH{w:Nat}(h:w<=7):256^w<=72057594037927936:=UK (n:=256) (by omega) h
def Vm(A:B1)(v:B6)(b:List UInt8)(hb:G0 A v b)(hl:b.length<=1000000)(n w:Int)(hn:n<=9223372036854775807):
  CallF PP 113 #[.slice v.a v.len v.cap,.i n,.i w] A (Rk b n w A):=by
 refine(e113 v n w).c ?_;have hC:=hb.len;refine D3 (fun(h1:w<1)=>.of (.err (Vl (by omega)))) (fun(h1: ¬w<1)=>?_);refine D3 (fun(h2:w>7)=>.of (.err (Vl (by omega)))) (fun(h2: ¬w>7)=>?_);refine D3 (fun(h3:n<0)=>.of (.err (IB (by omega) h3))) (fun(h3: ¬n<0)=>?_);obtain⟨m,rfl⟩: ∃m:Nat,n=m:=⟨n.toNat,by omega⟩;obtain⟨u,rfl⟩: ∃u:Nat,w=u:=⟨w.toNat,by omega⟩;have kG:=CH (w:=u) (by omega);have hw:IntKind.i64.wrap (8*(u:Int))=((8*u:Nat):Int):=by rw[D7 (by omega) (by omega)];omega
 have hm:min (8*u) IntKind.i64.bits=8*u:=QF (show 8*u<=64 by omega);simp only[hw,NK,hm,KL];refine Dv (by omega) (Bb (fun(h4:((m/256^u:Nat):Int)≠0)=>.of (.err ?_)) (fun(h4:((m/256^u:Nat):Int)=0)=>?_))
 ·refine IC (by omega) ?_;rw[NK];have:256^u<=m:=by
   refine WL fun hO=>h4 ?_;simp[VL hO]
  generalize 256^u=q at this;omega
 ·have hO:m<256^u:=by
   refine Nat.lt_of_not_le fun bV=>?_;have:=Nat.div_pos bV (XH (by omega));omega
  have dQ:Y6 b m u=(b++E4 m u,0):=by
   have:=Lg (b:=b) (n:=m) (w:=u) (by omega) (by omega) (by simpa using hO);simpa using this
  refine C4 (Bt5 A m) (((G2 m 0).toNat,(G2 m 1).toNat,(G2 m 2).toNat,(G2 m 3).toNat,(G2 m 4).toNat,(G2 m 5).toNat,(G2 m 6).toNat,(G2 m 7).toNat,()),()) rfl ?_;refine C9 fun n1 _=>F6 [] A rfl rfl (by simp) (.inl (NF _)) (F9 (E4 m 8)).toArray (by rw[Aq6];exact HZ _ rfl _ _ _ _ _ _ _ _) ?_;have hc:IntKind.i64.wrap ((v.len:Int)+(u:Int))=((v.len+u:Nat):Int):=by rw[D7 (by omega) (by omega)];omega
  rw[hc];refine Tp (l:=0) (c:=v.len+u) Be (by omega) (by omega) fun n2 ob own0 _ _=>?_;have z0:Cp [Value.int .u8 0] 0=[]:=rfl;rw[z0]at own0;refine Q1 Be Dp [] ([(n1,Obj.cells (F9 (E4 m 8)).toArray 271)]++A) own0 (by simp) (.sl (hb.mono fun p hp=>by simp[hp])) (Ac _) (by simp only;omega) fun s1 seg1 bM own1=>?_;simp only at bM;refine Q2 (l':=0) (h':=u) (m':=8) rfl rfl rfl (by omega) (by omega) (NF _) ?_;have hd:G0 ([]++seg1++([(n1,Obj.cells (F9 (E4 m 8)).toArray 271)]++A)) ⟨some n1.z,8,8⟩ (E4 m 8):=Ar9 (l:=E4 m 8) (T:=271) (fz:=(0,0)) 8 (by rw[Df];exact NF _) (by simp);have fP:=Sl.slc (l:=0) (h':=u) (m:=8) hd (by omega) (by omega) (by simp only;omega) (by omega);rw[Jv]at fP;have e1:((E4 m 8).drop 0).take (u-0)=E4 m u:=by
   rcases(show u=1\/u=2\/u=3\/u=4\/u=5\/u=6\/u=7 by omega)with rfl|rfl|rfl|rfl|rfl|rfl|rfl<;>rfl
  rw[e1]at fP;refine Q1 Be Dp [] ([(n1,Obj.cells (F9 (E4 m 8)).toArray 271)]++A) own1 rfl (.sl fP) (Ac _) (by simp only[G7,NK];omega) fun s2 seg2 aP own2=>?_;rw[NT,<-Mg]at own2;refine .drop (A:=seg2++A) (J:=[(n1,Obj.cells (F9 (E4 m 8)).toArray 271)]) ⟨s2,seg2,by rw[dQ],rfl,by rw[dQ];exact own2⟩ ?_;have h1:([(n1,Obj.cells (F9 (E4 m 8)).toArray 271)]++A).Perm (A++[(n1,Obj.cells (F9 (E4 m 8)).toArray 271)]):=OT;simpa[NZ]using XI seg2 h1
def Ba8(n i:Nat):Int.tdiv ((n/256^i:Nat):Int) 256=((n/256^(i+1):Nat):Int):=by
 rw[TZ (XJ _),TY,<-YM];omega
def Ba5(n i:Nat):IntKind.u8.wrap (Int.tmod ((n/256^i:Nat):Int) 256)=((G2 n i).toNat:Int):=by
 rw[TI (XJ _),AA,TT];unfold G2;have:(UInt8.ofNat (n/256^i)).toNat=n/256^i%256:=by simp
 rw[this];omega
def Ba6(x:Int): ∃d:UInt8,IntKind.u8.wrap x=(d.toNat:Int):=by
 refine⟨UInt8.ofNat (BitVec.ofInt 8 x).toNat,?_⟩;rw[AA];have h:=(BitVec.ofInt 8 x).isLt;have:(UInt8.ofNat (BitVec.ofInt 8 x).toNat).toNat=(BitVec.ofInt 8 x).toNat%256:=by simp
 rw[this];omega
def BF(A:B1)(v:B6)(b:List UInt8)(hb:G0 A v b)(hl:b.length<=1000000)(n w:Int)(hn:n<=9223372036854775807)(cz: -9223372036854775808<=n):
  CallF PP 174 #[.slice v.a v.len v.cap,.i n,.i w] A (Rk b n w A):=by
 refine(e174 v n w).c ?_;have hC:=hb.len;refine D3 (fun(h1:w<1)=>.of (.err (Vl (by omega)))) (fun(h1: ¬w<1)=>?_);refine D3 (fun(h2:w>7)=>.of (.err (Vl (by omega)))) (fun(h2: ¬w>7)=>?_);obtain⟨u,rfl⟩: ∃u:Nat,w=u:=⟨w.toNat,by omega⟩;refine C9 fun q _=>Q1 Be Dp [] A Km (by simp) (.sl hb.cons) (Ac _) (by simp only;omega) fun s0 seg0 cG own0=>?_;simp only at cG;refine G1 (fun k z L'=> ∃(i:Nat) (s:B6) (left:Int) (bs:List UInt8) (seg J:B1),i<=u/\k=u-i/\z=(s,left,(i:Int),())/\L'=J++seg++A/\bs.length=i/\C5 s 1 eB (F9 (b++bs)) seg/\ -9223372036854775808<=left/\left<=9223372036854775807/\
   (0<=n->bs=E4 n.toNat i/\left=((n.toNat/256^i:Nat):Int))) u
  ⟨0,s0,n,[],seg0,[],by omega,by omega,rfl,by simp,rfl,by simpa using own0,cz,hn,fun h0=>⟨rfl,by rw[Nat.pow_zero,Nat.div_one];omega⟩⟩ ?_
 rintro k z L' ⟨i,s,left,bs,seg,J,hi,rfl,rfl,rfl,nX,own,fD,sM,hd⟩;have aU:=own.sl.len;rw[Y1,NR]at aU;refine D3 (fun(hO:(i:Int)<u)=>?_) (fun(aM: ¬(i:Int)<u)=>?_)
 ·obtain⟨d,cO⟩:=Ba6 (Int.tmod left 256);have hq: -9223372036854775808<=Int.tdiv left 256/\Int.tdiv left 256<=9223372036854775807:=by
   rcases Int.lt_or_le left 0 with hneg|bF
   ·have:Int.tdiv left 256= -(Int.tdiv (-left) 256):=by rw[Int.neg_tdiv,Int.neg_neg]
    have h2:Int.tdiv (-left) 256=(-left)/256:=TZ (by omega);omega
   ·have h2:Int.tdiv left 256=left/256:=TZ bF;omega
  simp only[cO];refine Dv (by decide) (C9 fun m _=>Q1 Be Dp ((m,Obj.cells #[.int .u8 (d.toNat:Int)] eB)::J) A own rfl (.sl (Ar9 (l:=[d]) 1 (NF _) NG)) (Ac _) (by simp only[NU,OX];omega) fun s' seg' bZ own'=>?_);rw[<-Mg,NZ]at own';refine Dv (by decide) ⟨u-(i+1),by omega,i+1,s',Int.tdiv left 256,bs++[d],seg',(m,Obj.cells #[.int .u8 (d.toNat:Int)] eB)::J,by omega,rfl,?_,rfl,by simp[nX],own',hq.1,hq.2,fun h0=>?_⟩
  ·rw[D7 (n:=Int.tdiv left 256) hq.1 hq.2,D7 (by first|omega|(simp only;omega)) (by first|omega|(simp only;omega))];rfl
  ·obtain⟨e1,e2⟩:=hd h0;rw[e2,Ba5]at cO;have fP:G2 n.toNat i=d:=UQ.1 (by omega);rw[e1,e2,Ba8,GL,fP];exact⟨rfl,rfl⟩
 ·obtain rfl:i=u:=by omega
  have fin: ∀{v:Value},Rk b n i A v A->HL.Ends (Rk b n i A) v (J++seg++A):=fun h=>.drop (A:=A) (J:=J++seg) h OT;refine D3 (fun(h3:n<0)=>fin (.err (IB (by omega) h3))) (fun(h3: ¬n<0)=>?_);obtain⟨e1,e2⟩:=hd (by omega);have bF:0<256^i:=XH (by omega);refine D3 (fun(h4:left>0)=>fin (.err ?_)) (fun(h4: ¬left>0)=>?_)
  ·refine IC (by omega) ?_;rw[NK];have:256^i<=n.toNat:=by
    refine WL fun hO=>?_;rw[VL hO]at e2;omega
   generalize 256^i=q at this;omega
  ·have hO:n.toNat<256^i:=by
    refine Nat.lt_of_not_le fun bV=>?_;have:=Nat.div_pos bV bF;omega
   have dQ:Y6 b n i=(b++E4 n.toNat i,0):=by
    have:=Lg (b:=b) (n:=n) (w:=i) (by omega) h3 (by simpa using hO);simpa using this
   rw[e1]at own;refine .drop (A:=seg++A) (J:=J) ⟨s,seg,by rw[dQ],rfl,by rw[dQ];exact own⟩ ?_;rw[NZ];exact OT
abbrev Fk:TypeId:=153
def Uv:V4 PP Fk tB 1 24 [.slice none 0 0]:=De (by kernel_rfl) (by kernel_rfl) rfl (by decide) (by decide)
def Vv:W6 PP Fk:=.inl ⟨tB,by kernel_rfl⟩
structure PG where
 v:B6
 seg:B1
 l:List UInt8
def PG.Ok(g:PG):Prop:=C5 g.v 1 eB (F9 g.l) g.seg
def PG.val(g:PG):Value:=.slice g.v.a g.v.len g.v.cap
def E3(l:List PG):B1:=l.flatMap PG.seg
def Kk(a b:List PG):E3 (a++b)=E3 a++E3 b:=OD
def Tc(a:PG)(b:List PG):E3 (a::b)=a.seg++E3 b:=rfl
def Tb(a:PG):E3 [a]=a.seg:=by simp[E3]
def Lp:PG:=⟨⟨none,0,0⟩,[],[]⟩
def Td:Lp.Ok:=O5
abbrev PV:=B6×List UInt8
variable{l:List PV}
def Nh(x:PV):Value:=.slice x.1.a x.1.len x.1.cap
def O8(l:List PG):List PV:=l.map fun g=>(g.v,g.l)
def Bo5(l:List PG):(O8 l).map Nh=l.map PG.val:=by unfold O8;rw[OO];rfl
def S0(l:List PV):List UInt8:=l.flatMap Prod.snd
structure Af(L:B1)(v:B6)(l:List PV):Prop where
 sl:Sl L v 1 (l.map Nh)
 val: ∀x∈l,G0 L x.1 x.2
def Af.mono(h:Af L v l)(hs: ∀p∈L,p∈R):Af R v l:=⟨h.sl.mono hs,fun x hx=>Sl.mono (h.val x hx) hs⟩
def Af.len(h:Af L v l):v.len=l.length:=by have:=h.sl.len;rw[NL]at this;omega
def Af.at'(h:Af L v l)(hi:i<l.length): ∃a,v.a=some a/\C0 (a.add ((i:Int).toNat*1)) [Nh l[i]] L:=by
 have hl:=h.len;obtain⟨a,ha,cH⟩:=h.sl.at' (i:=i) (by omega) (by decide);refine⟨a,ha,?_⟩;rw[NK,OS];exact cH.one i (by rw[OU,NV hi];rfl)
def CU{gs:List PG}{seg:B1}(own:C5 v 1 tB (gs.map PG.val) seg)(hg: ∀g∈gs,g.Ok)(h1: ∀x∈seg,x∈L)(h2: ∀x∈E3 gs,x∈L):Af L v (O8 gs):=by
 refine⟨by rw[Bo5];exact own.sl.mono h1,fun x hx=>?_⟩;obtain⟨g,rK,rfl⟩:=NY.1 hx;exact Sl.mono (hg g rK).sl fun y hy=>h2 y (OY.2 ⟨g,rK,hy⟩)
def As5(l:List PV)(i:Nat):(S0 (l.take i)).length<=(S0 l).length:=by
 conv=>rhs;rw[<-PR i l]
 unfold S0;rw[OD,NR];omega
def As6(l:List PV)(hi:i<l.length):S0 (l.take (i+1))=S0 (l.take i)++l[i].2:=by
 unfold S0;rw[OB hi,OD,PU]
def J5(b:List UInt8)(at' w:Int):Int×Int:=
 if w<1\/7<w then(0,2)else if at'<0\/(b.length:Int)<at'+w then(0,6)else((I8 ((b.drop at'.toNat).take w.toNat):Int),0)
def Vo{a:Int}(h:w<1\/7<w):J5 b a w=(0,2):=by unfold J5;rw[NE h]
def Pc{a:Int}(h: ¬(w<1\/7<w))(h2:a<0\/(b.length:Int)<a+w):J5 b a w=(0,6):=by unfold J5;rw[ND h,NE h2]
def Ru{a w:Nat}(h:1<=w)(h7:w<=7)(h2:a+w<=b.length):J5 b a w=((I8 ((b.drop a).take w):Int),0):=by
 unfold J5;rw[ND (by omega),ND (by omega),NK,NK]
def NA(w:Nat)(h:w<=7):0<256^w/\256^w<=72057594037927936:=⟨XH (by omega),CH h⟩
def DP{l:List UInt8}{w:Nat}(hl:l.length<=w)(hw:w<=7):I8 l<256^w:=XB (DO l) (UK (by omega) hl)
def Pd(b:List UInt8)(a w:Int):0<=(J5 b a w).1/\(J5 b a w).1<72057594037927936/\((J5 b a w).2=0\/(J5 b a w).2=2\/(J5 b a w).2=6)/\((J5 b a w).2=0->0<=a/\1<=w/\w<=7/\a+w<=b.length):=by
 unfold J5;split
 ·exact⟨by simp,by simp,.inr (.inl rfl),fun h=>absurd h (by decide)⟩
 ·split
  ·exact⟨by simp,by simp,.inr (.inr rfl),fun h=>absurd h (by decide)⟩
  ·have h1:=DP (l:=(b.drop a.toNat).take w.toNat) (w:=w.toNat) (VJ _ _) (by omega);have h2:=CH (w:=w.toNat) (by omega);refine⟨by simp only;omega,by simp only;omega,.inl rfl,fun _=>⟨by omega,by omega,by omega,by omega⟩⟩
def Ba9(b:List UInt8)(a i:Nat)(h:a+i<b.length):(b.drop a).take (i+1)=(b.drop a).take i++[b[a+i]]:=by
 rw[OB (by rw[OJ];omega)];congr 2;simp
def Vp(L:B1)(v:B6)(b:List UInt8)(hb:G0 L v b)(hl:b.length<=1000000000)(a w:Int):
  Reads PP 167 #[.slice v.a v.len v.cap,.i a,.i w] L (.t #[.i (J5 b a w).1,.i (J5 b a w).2]):=by
 refine(e167 v a w).r ?_;have hC:=hb.len;refine D3 (fun(h1:w<1)=>.of ⟨by rw[Vo (by omega)],rfl⟩) (fun(h1: ¬w<1)=>?_);refine D3 (fun(h2:w>7)=>.of ⟨by rw[Vo (by omega)],rfl⟩) (fun(h2: ¬w>7)=>?_);refine D3 (fun(h3:a<0)=>.of ⟨by rw[Pc (by omega) (.inl h3)],rfl⟩) (fun(h3: ¬a<0)=>?_);refine D3 (fun(h4:a>v.len)=>.of ⟨by rw[Pc (by omega) (.inr (by omega))],rfl⟩) (fun(h4: ¬a>v.len)=>?_);rw[D7 (n:=(v.len:Int)-a) (by omega) (by omega)];refine D3 (fun(h5:w>(v.len:Int)-a)=>.of ⟨by rw[Pc (by omega) (.inr (by omega))],rfl⟩) (fun(h5: ¬w>(v.len:Int)-a)=>?_);obtain⟨a,rfl⟩: ∃u:Nat,a=u:=⟨a.toNat,by omega⟩;obtain⟨w,rfl⟩: ∃u:Nat,w=u:=⟨w.toNat,by omega⟩;have cX:a+w<=b.length:=by omega
 rw[Ru (by omega) (by omega) cX];refine G1 (fun k z L'=>L'=L/\ ∃i:Nat,i<=w/\k=w-i/\z=((I8 ((b.drop a).take i):Int),((256^i:Nat):Int),(i:Int),())) w ⟨rfl,0,by omega,by omega,rfl⟩ ?_;rintro k z L ⟨rfl,i,hi,rfl,rfl⟩;refine D3 (fun(hO:(i:Int)<w)=>?_) (fun(aM: ¬(i:Int)<w)=>?_)
 ·have rU:a+i<b.length:=by omega
  obtain⟨ad,ha⟩:=hb.some rU;have e1:IntKind.i64.wrap ((a:Int)+i)=((a+i:Nat):Int):=by rw[D7 (by omega) (by omega)];omega
  simp only[e1];refine B7 ha (H7 (by omega) (by omega) (B5 (b[a+i].toNat:Int) (hb.rd rU ha _ (by omega)) ?_));have hp:=NA i (by omega);have hx:=b[a+i].toNat_lt;have hn:=DP (l:=(b.drop a).take i) (w:=i) (VJ _ _) (by omega);have uX:256^i<=281474976710656:=OK (UK (by omega) (show i<=6 by omega)) (by decide);have hm:256^i*b[a+i].toNat<=281474976710656*255:=Nat.mul_le_mul uX (by omega);refine⟨w-(i+1),by omega,rfl,i+1,by omega,rfl,?_⟩;have hli:((b.drop a).take i).length=i:=by rw[NW,OJ];omega
  rw[Ba9 b a i rU,Bt7,hli];have e2:((256^i:Nat):Int)*(b[a+i].toNat:Int)=((256^i*b[a+i].toNat:Nat):Int):=by rw[TD]
  have e3:((256^i:Nat):Int)*256=((256^(i+1):Nat):Int):=by rw[TY,TD];rfl
  have aH:=NA (i+1) (by omega);simp only[D7 (n:=(b[a+i].toNat:Int)) (by omega) (by omega),e2,e3];generalize 256^i*b[a+i].toNat=q at hm⊢;generalize 256^(i+1)=q2 at aH⊢;generalize 256^i=q3 at hn uX;rw[D7 (n:=(q:Int)) (by omega) (by omega),D7 (n:=(I8 ((b.drop a).take i):Int)+q) (by omega) (by omega),D7 (n:=(q2:Int)) (by omega) (by omega),D7 (n:=(i:Int)+1) (by omega) (by omega)];simp only[XK,Int.cast_ofNat_Int]
 ·obtain rfl:i=w:=by omega
  exact .of ⟨rfl,rfl⟩
def BH(L:B1)(v:B6)(b:List UInt8)(hb:G0 L v b)(hl:b.length<=1000000000)(a w:Int):
  Reads PP 134 #[.slice v.a v.len v.cap,.i a,.i w] L (.t #[.i (J5 b a w).1,.i (J5 b a w).2]):=by
 refine(e134 v a w).r ?_;have hC:=hb.len;refine D3 (fun(h1:w<1)=>.of ⟨by rw[Vo (by omega)],rfl⟩) (fun(h1: ¬w<1)=>?_);refine D3 (fun(h2:w>7)=>.of ⟨by rw[Vo (by omega)],rfl⟩) (fun(h2: ¬w>7)=>?_);refine D3 (fun(h3:a<0)=>.of ⟨by rw[Pc (by omega) (.inl h3)],rfl⟩) (fun(h3: ¬a<0)=>?_);refine D3 (fun(h4:a>v.len)=>.of ⟨by rw[Pc (by omega) (.inr (by omega))],rfl⟩) (fun(h4: ¬a>v.len)=>?_);rw[D7 (n:=(v.len:Int)-a) (by omega) (by omega)];refine D3 (fun(h5:(v.len:Int)-a<w)=>.of ⟨by rw[Pc (by omega) (.inr (by omega))],rfl⟩) (fun(h5: ¬(v.len:Int)-a<w)=>?_);obtain⟨a,rfl⟩: ∃u:Nat,a=u:=⟨a.toNat,by omega⟩;obtain⟨w,rfl⟩: ∃u:Nat,w=u:=⟨w.toNat,by omega⟩;have cX:a+w<=b.length:=by omega
 rw[Ru (by omega) (by omega) cX];refine G1 (fun k z L'=>L'=L/\k<=w/\z=((I8 ((b.drop (a+k)).take (w-k)):Int),(k:Int)-1,())) w ⟨rfl,NF _,by rw[D7 (by omega) (by omega),SQ];rfl⟩ ?_;rintro k z L ⟨rfl,hk,rfl⟩;refine D3 (fun(aM:(k:Int)-1≥0)=>?_) (fun(hO: ¬(k:Int)-1≥0)=>?_)
 ·obtain⟨j,rfl⟩: ∃j,k=j+1:=⟨k-1,by omega⟩;have eP:((j+1:Nat):Int)-1=j:=by omega
  have rU:a+j<b.length:=by omega
  obtain⟨ad,ha⟩:=hb.some rU;have e1:IntKind.i64.wrap ((a:Int)+j)=((a+j:Nat):Int):=by rw[D7 (by omega) (by omega)];omega
  simp only[eP,e1];refine B7 ha (H7 (by omega) (by omega) (B5 (b[a+j].toNat:Int) (hb.rd rU ha _ (by omega)) ?_));refine⟨j,by omega,rfl,by omega,?_⟩;have e2:(b.drop (a+j)).take (w-j)=b[a+j]::(b.drop (a+(j+1))).take (w-(j+1)):=by
   rw[OZ rU,show w-j=(w-(j+1))+1 by omega,List.take_succ_cons];rfl
  rw[e2];simp only[I8];have hx:=b[a+j].toNat_lt;have hn:=DP (l:=(b.drop (a+(j+1))).take (w-(j+1))) (w:=6) (by rw[NW];omega) (by omega);have h6:256^6=281474976710656:=by decide
  rw[D7 (n:=(b[a+j].toNat:Int)) (by omega) (by omega),D7 (n:=256*(I8 ((b.drop (a+(j+1))).take (w-(j+1))):Int)) (by omega) (by omega),D7 (n:=256*(I8 ((b.drop (a+(j+1))).take (w-(j+1))):Int)+b[a+j].toNat) (by omega) (by omega),D7 (n:=(j:Int)-1) (by omega) (by omega)];refine Prod.ext ?_ rfl;simp only[XK,TD,Int.cast_ofNat_Int];exact Int.add_comm _ _
 ·obtain rfl:k=0:=by omega
  exact .of ⟨rfl,rfl⟩
def Bi9(L:B1)(u v:B6)(a:List UInt8)(hu:G0 L u a)(hv:G0 L v a):Reads PP 33 #[.slice u.a u.len u.cap,.slice v.a v.len v.cap] L (.b true):=by
 refine(e33 u v).r ?_;exact Mi hu (Mi hv (.of ⟨by simp,rfl⟩))
def Yw(c:BitVec 32):BitVec 32:=(c>>>1)^^^(2197175160#32&&& -(c&&&1#32))
def Me:Nat->BitVec 32->BitVec 32
 |0,c=>c
 |n+1,c=>Yw (Me n c)
def GN(c:BitVec 32)(b:UInt8):BitVec 32:=Me 8 (c^^^BitVec.ofNat 32 b.toNat)
def Jt(c:BitVec 32)(l:List UInt8):BitVec 32:=l.foldl GN c
def Ar7(c:BitVec 32)(l:List UInt8)(b:UInt8):Jt c (l++[b])=GN (Jt c l) b:=by simp[Jt]
def Cs9(c:BitVec 32):c&&&1#32=if c.getLsbD 0 then 1#32 else 0#32:=by
 apply BitVec.eq_of_getLsbD_eq;intro i hi;rw[BitVec.getLsbD_and,BitVec.getLsbD_one];by_cases h:i=0
 ·subst h;cases ha:c.getLsbD 0<;>simp[ha]
 ·cases ha:c.getLsbD 0<;>simp[h]
def Cn9(c:BitVec 32):Yw c=(c>>>1)^^^(if c.getLsbD 0 then 2197175160#32 else 0#32):=by
 unfold Yw;rw[Cs9];cases c.getLsbD 0
 ·rfl
 ·have:2197175160#32&&& -1#32=2197175160#32:=by decide
  simp only[if_true,this]
def Bf6(d:BitVec 32):Int.fdiv (d.toNat:Int) (2^(min (1:Int).toNat IntKind.u32.bits))=((d>>>1).toNat:Int):=by
 have:(2:Int)^(min (1:Int).toNat IntKind.u32.bits)=2:=rfl;rw[this,XE,XF,UI _ (by omega)];rfl
def Bu8(d:BitVec 32):IntKind.u32.wrap (0-(d.toNat:Int))=((-d).toNat:Int):=by
 rw[Ms];congr 2;rw[Int.zero_sub,BitVec.ofInt_neg,Hr]
def Cn8(d:BitVec 32):P9 .xor .u32 (Int.fdiv (d.toNat:Int) (2^(min (1:Int).toNat IntKind.u32.bits))) (P9 .and .u32 2197175160 (IntKind.u32.wrap (0-P9 .and .u32 d.toNat 1)))=((Yw d).toNat:Int):=by
 rw[Bf6,show(1:Int)=((1#32:BitVec 32).toNat:Int)from rfl,(Vd _ _).2.1,Bu8,show(2197175160:Int)=((2197175160#32:BitVec 32).toNat:Int)from rfl,(Vd _ _).2.1,(Vd _ _).1];rfl
def Bc9(L:B1)(v:B6)(l:List UInt8)(h:G0 L v l)(hb:l.length<=1000000)(c:BitVec 32):Reads PP 231 #[.int .u32 c.toNat,.slice v.a v.len v.cap] L (.int .u32 (Jt c l).toNat):=by
 refine(e231 c.toNat v).r ?_;have hC:=h.len;refine G1 (fun k z L'=>L'=L/\ ∃i,i<=l.length/\k=l.length-i/\z=(((Jt c (l.take i)).toNat:Int),(i:Int),())) l.length ⟨rfl,0,by omega,by omega,rfl⟩ ?_;rintro k z L ⟨rfl,i,hi,rfl,rfl⟩;refine D3 (fun(hO:(i:Int)<v.len)=>?_) (fun(aM: ¬(i:Int)<v.len)=>?_)
 ·have eX:i<l.length:=by omega
  obtain⟨ad,ha⟩:=h.some eX;refine B7 ha (H7 (show(0:Int)<=i by omega) hO (B5 (l[i].toNat:Int) (h.rd eX ha _ (by simp)) ?_));refine G1 (fun k z L'=>L'=L/\ ∃j,j<=8/\k=8-j/\z=(((Me j (Jt c (l.take i)^^^BitVec.ofNat 32 l[i].toNat)).toNat:Int),(j:Int),())) 8 ⟨rfl,0,by omega,by omega,?_⟩ ?_
  ·simp only[Ms];rw[show(BitVec.ofInt 32 (l[i].toNat:Int))=BitVec.ofNat 32 l[i].toNat from rfl,(Vd _ _).1];rfl
  ·rintro k z L ⟨rfl,j,hj,rfl,rfl⟩;refine D3 (fun(hO:(j:Int)<8)=>?_) (fun(aM: ¬(j:Int)<8)=>?_)
   ·refine Dv (by decide) ⟨8-(j+1),by omega,rfl,j+1,by omega,rfl,?_⟩;rw[D7 (by simp only;omega) (by simp only;omega)];exact Prod.ext (Cn8 _) rfl
   ·refine⟨l.length-(i+1),by omega,rfl,i+1,by omega,rfl,?_⟩;obtain rfl:j=8:=by omega
    rw[D7 (by simp only;omega) (by simp only;omega),OB eX,Ar7];rfl
 ·refine .of ⟨?_,rfl⟩;obtain rfl:i=l.length:=by omega
  rw[OE]
def Fs(n:Int):BitVec 32:=BitVec.ofInt 32 n
def Ir(n:Int)(l:List UInt8):Int:=((~~~ Jt (~~~ Fs n) l).toNat:Int)
def K0(l:List UInt8):Int:=Ir 0 l
def Oc(n:Int)(l:List UInt8):0<=Ir n l/\Ir n l<4294967296:=by
 unfold Ir;have:=(~~~ Jt (~~~ Fs n) l).isLt;omega
def Xc(d:BitVec 32):P9 .xor .u32 IntKind.u32.max (d.toNat:Int)=((~~~ d).toNat:Int):=by
 rw[show(IntKind.u32.max:Int)=((BitVec.allOnes 32).toNat:Int)from rfl,(Vd _ _).1,BitVec.allOnes_xor]
def Bv7(L:B1)(v:B6)(l:List UInt8)(h:G0 L v l)(hb:l.length<=1000000)(n:Int):Reads PP 190 #[.i n,.slice v.a v.len v.cap] L (.i (Ir n l)):=by
 refine(e190 n v).r ?_;rw[Ms,Xc];refine C4 (Bc9 L v l h hb (~~~ Fs n)) (((Jt (~~~ Fs n) l).toNat:Int),()) rfl ?_;refine .of ⟨?_,rfl⟩;have:=Oc n l;simp only[Xc];rw[D7 (by have:=Oc n l;unfold Ir at this;omega) (by have:=Oc n l;unfold Ir at this;omega)];rfl
def AG(L:B1)(v:B6)(l:List UInt8)(h:G0 L v l)(hb:l.length<=1000000):Reads PP 147 #[.slice v.a v.len v.cap] L (.i (K0 l)):=by
 refine(e147 v).r ?_;refine C4 (Bv7 L v l h hb 0) (Ir 0 l,()) rfl ?_;exact .of ⟨rfl,rfl⟩
def As3(L:B1)(v:B6)(l:List UInt8)(h:G0 L v l)(hb:l.length<=1000000)(n:Int):Reads PP 193 #[.slice v.a v.len v.cap,.i n] L (.b (K0 l==n)):=by
 refine(e193 v n).r ?_;refine C4 (AG L v l h hb) (K0 l,()) rfl ?_;exact .of ⟨rfl,rfl⟩
def EH(L:B1)(n:Int):Reads PP 222 #[.i n] L (.int .u32 (Fs n).toNat):=by
 refine(e222 n).r ?_;refine .of ⟨?_,rfl⟩;rw[Ms,Vq];unfold Fs;congr 2;simp only[TT];omega
def Ae8(d:BitVec 32):Fs (d.toNat:Int)=d:=Hr d
def Aj9(d:BitVec 32):IntKind.u32.wrap (Int.tdiv d.toNat 2)=((d>>>1).toNat:Int):=by
 have h0:(0:Int)<=(d.toNat:Int):=XJ _;have h1:=d.isLt;rw[TZ h0,Az1 (n:=(d.toNat:Int)/2) (by omega) (by omega),XE,XF];rfl
def Bk4(L:B1)(n:Int)(x:UInt8):Reads PP 223 #[.i n,.int .u8 x.toNat] L (.i (GN (Fs n) x).toNat):=by
 refine(e223 n x.toNat).r ?_;refine C4 (EH L n) (_,()) rfl ?_;refine G1 (fun k z L'=>L'=L/\ ∃j,j<=8/\k=8-j/\z=(((Me j (Fs n^^^BitVec.ofNat 32 x.toNat)).toNat:Int),(j:Int),())) 8 ⟨rfl,0,by omega,by omega,?_⟩ ?_
 ·simp only[HS,Ms,Hr,Ac2];rfl
 ·rintro k z L ⟨rfl,j,hj,rfl,rfl⟩;generalize hd:Me j (Fs n^^^BitVec.ofNat 32 x.toNat)=d;have uM:Int.tmod (d.toNat:Int) 2=if d.getLsbD 0 then 1 else 0:=by
   rw[TI (by omega)];have:d.getLsbD 0=decide (d.toNat%2=1):=by simp[BitVec.getLsbD,Nat.testBit_zero]
   rw[this];by_cases h:d.toNat%2=1
   ·simp[h];omega
   ·simp[h];omega
  have gW:Me (j+1) (Fs n^^^BitVec.ofNat 32 x.toNat)=(d>>>1)^^^(if d.getLsbD 0 then 2197175160#32 else 0#32):=by rw[Me,hd,Cn9]
  refine D3 (fun(hO:(j:Int)<8)=>?_) (fun(aM: ¬(j:Int)<8)=>?_)
  ·refine Dv (by decide) (Dv (by decide) ?_);refine Ex (fun(h1:Int.tmod (d.toNat:Int) 2=1)=>?_) (fun(h1:Int.tmod (d.toNat:Int) 2≠1)=>?_)
   ·refine⟨8-(j+1),by omega,rfl,j+1,by omega,rfl,?_⟩;rw[D7 (by simp only;omega) (by simp only;omega),gW];have h2:d.getLsbD 0=true:=by
     rw[uM]at h1;cases h3:d.getLsbD 0
     ·rw[h3]at h1;cases h1
     ·rfl
    simp only[Aj9,HS,Hr,h2,if_true];rfl
   ·refine⟨8-(j+1),by omega,rfl,j+1,by omega,rfl,?_⟩;rw[D7 (by simp only;omega) (by simp only;omega),gW];have h2:d.getLsbD 0=false:=by
     rw[uM]at h1;cases h3:d.getLsbD 0
     ·rfl
     ·rw[h3]at h1;exact absurd rfl h1
    simp only[Aj9,h2,QN,if_false,BitVec.xor_zero];rfl
  ·obtain rfl:j=8:=by omega
   refine .of ⟨?_,rfl⟩;rw[<-hd,D7 (by simp only;omega) (by have:=(Me 8 (Fs n^^^BitVec.ofNat 32 x.toNat)).isLt;simp only;omega)];rfl
def Bk8(L:B1)(v:B6)(l:List UInt8)(h:G0 L v l)(hb:l.length<=1000000)(n:Int):Reads PP 172 #[.i n,.slice v.a v.len v.cap] L (.i (Ir n l)):=by
 refine(e172 n v).r ?_;have hC:=h.len;refine C4 (EH L n) (_,()) rfl ?_;refine G1 (fun k z L'=>L'=L/\ ∃i,i<=l.length/\k=l.length-i/\z=(((Jt (~~~ Fs n) (l.take i)).toNat:Int),(i:Int),())) l.length ⟨rfl,0,by omega,by omega,?_⟩ ?_
 ·have:=(~~~ Fs n).isLt;rw[Xc,D7 (by omega) (by omega)];rfl
 rintro k z L ⟨rfl,i,hi,rfl,rfl⟩;refine D3 (fun(hO:(i:Int)<v.len)=>?_) (fun(aM: ¬(i:Int)<v.len)=>?_)
 ·have eX:i<l.length:=by omega
  obtain⟨ad,ha⟩:=h.some eX;refine B7 ha (H7 (show(0:Int)<=i by omega) hO (B5 (l[i].toNat:Int) (h.rd eX ha _ (by simp)) ?_));refine C4 (Bk4 _ _ _) (_,()) rfl ⟨l.length-(i+1),by omega,rfl,i+1,by omega,rfl,?_⟩;rw[D7 (by simp only;omega) (by simp only;omega),OB eX,Ar7,Ae8];rfl
 ·obtain rfl:i=l.length:=by omega
  refine C4 (EH _ _) (_,()) rfl (.of ⟨?_,rfl⟩);have:=Oc n l;simp only[Xc,Ae8,OE];unfold Ir at this⊢;rw[D7 (by omega) (by omega)]
def LZ(L:B1)(v:B6)(l:List UInt8)(h:G0 L v l)(hb:l.length<=1000000):Reads PP 135 #[.slice v.a v.len v.cap] L (.i (K0 l)):=by
 refine(e135 v).r ?_;refine C4 (Bk8 L v l h hb 0) (Ir 0 l,()) rfl ?_;exact .of ⟨rfl,rfl⟩
def Cq(n:Int):Bool:=decide (64<=n/\n<=512)
def E0(n:Int):Int:=if 64<=n/\n<=512 then n-16 else 0
def BY(L:B1)(n:Int):Reads PP 110 #[.i n] L (.b (Cq n)):=by
 refine(e110 n).r ?_;refine D3 (fun(h:n≥64)=>.of ⟨?_,rfl⟩) (fun(h: ¬n≥64)=>.of ⟨?_,rfl⟩)
 ·unfold Cq;congr 1;rw[UR];omega
 ·unfold Cq;rw[OF (by omega)]
def MA(L:B1)(n:Int):Reads PP 132 #[.i n] L (.b (Cq n)):=by
 refine(e132 n).r ?_;refine D3 (fun(h:n≥64)=>.of ⟨?_,rfl⟩) (fun(h: ¬n≥64)=>.of ⟨?_,rfl⟩)
 ·unfold Cq;congr 1;rw[UR];omega
 ·unfold Cq;rw[OF (by omega)]
def Sa(h:Cq n=true):64<=n/\n<=512:=PF h
def Sb(h:Cq n=false): ¬(64<=n/\n<=512):=UG h
def Pu(L:B1)(n:Int):Reads PP 57 #[.i n] L (.i (E0 n)):=by
 refine(e57 n).r ?_;refine C4 (BY _ n) (Cq n,()) rfl ?_;cases h:Cq n with
 |false=>exact E9 rfl (.of ⟨by unfold E0;rw[ND (Sb h)],rfl⟩)
 |true=>
  have:=Sa h;refine D8 rfl (.of ⟨?_,rfl⟩);unfold E0;rw[NE this,D7 (by omega) (by omega)]
abbrev Hd:=Int×Int×Int×Int×Int×Unit
variable{h:Hd}
def Ya(h:Hd):List Value:=[.i h.1,.i h.2.1,.i h.2.2.1,.i h.2.2.2.1,.i h.2.2.2.2.1]
def J7(h:Hd):Int:=if h.1<1\/h.1>4 then 16 else if h.2.2.1<1\/h.2.2.1>16\/h.2.1<0\/h.2.1≥h.2.2.1\/h.2.2.2.1<1\/h.2.2.2.1>1073741824\/h.2.2.2.2.1<0\/h.2.2.2.2.1>15 then 3 else 0
def Xz(c:h.1<1\/h.1>4):J7 h=16:=by unfold J7;rw[NE c]
def Ei(c: ¬(h.1<1\/h.1>4))(d:h.2.2.1<1\/h.2.2.1>16\/h.2.1<0\/h.2.1≥h.2.2.1\/h.2.2.2.1<1\/h.2.2.2.1>1073741824\/h.2.2.2.2.1<0\/h.2.2.2.2.1>15):J7 h=3:=by unfold J7;rw[ND c,NE d]
def Ak0(c: ¬(h.1<1\/h.1>4))(d: ¬(h.2.2.1<1\/h.2.2.1>16\/h.2.1<0\/h.2.1≥h.2.2.1\/h.2.2.2.1<1\/h.2.2.2.1>1073741824\/h.2.2.2.2.1<0\/h.2.2.2.2.1>15)):J7 h=0:=by unfold J7;rw[ND c,ND d]
def Ik(e:J7 h=0):1<=h.1/\h.1<=4/\1<=h.2.2.1/\h.2.2.1<=16/\0<=h.2.1/\h.2.1<h.2.2.1/\1<=h.2.2.2.1/\h.2.2.2.1<=1073741824/\0<=h.2.2.2.2.1/\h.2.2.2.2.1<=15:=by
 unfold J7 at e;split at e
 ·cases e
 ·split at e
  ·cases e
  ·omega
def Ab1(L:B1)(h:Hd):Reads PP 195 #[.agg (ki5 h)] L (.i (J7 h)):=by
 refine(e195 h).r ?_;refine C9 fun n1 _=>?_;generalize ho:(n1,Obj.cells (ki5 h) 142)=o1;have l0:C0 n1.z [.i h.1] (o1::L):=by subst ho;exact C2 NG rfl
 have l1:C0 (Addr.add n1.z 1) [.i h.2.1] (o1::L):=by subst ho;exact C2 NG rfl
 have l2:C0 (Addr.add n1.z 2) [.i h.2.2.1] (o1::L):=by subst ho;exact C2 NG rfl
 have l3:C0 (Addr.add n1.z 3) [.i h.2.2.2.1] (o1::L):=by subst ho;exact C2 NG rfl
 have l4:C0 (Addr.add n1.z 4) [.i h.2.2.2.2.1] (o1::L):=by subst ho;exact C2 NG rfl
 clear ho;refine B5 h.1 l0 (D3 (fun(c:h.1<1)=>.cons (.of ⟨by rw[Xz (.inl c)],rfl⟩)) (fun(c1: ¬h.1<1)=>?_));refine B5 h.1 l0 (D3 (fun(c:h.1>4)=>.cons (.of ⟨by rw[Xz (.inr c)],rfl⟩)) (fun(c2: ¬h.1>4)=>?_));refine B5 h.2.2.1 l2 (D3 (fun(c:h.2.2.1<1)=>.cons (.of ⟨by rw[Ei (by omega) (by omega)],rfl⟩)) (fun(c3: ¬h.2.2.1<1)=>?_));refine B5 h.2.2.1 l2 (D3 (fun(c:h.2.2.1>16)=>.cons (.of ⟨by rw[Ei (by omega) (by omega)],rfl⟩)) (fun(c4: ¬h.2.2.1>16)=>?_));refine B5 h.2.1 l1 (D3 (fun(c:h.2.1<0)=>.cons (.of ⟨by rw[Ei (by omega) (by omega)],rfl⟩)) (fun(c5: ¬h.2.1<0)=>?_));refine B5 h.2.1 l1 (B5 h.2.2.1 l2 (D3 (fun(c:h.2.1≥h.2.2.1)=>.cons (.of ⟨by rw[Ei (by omega) (by omega)],rfl⟩)) (fun(c6: ¬h.2.1≥h.2.2.1)=>?_)));refine B5 h.2.2.2.1 l3 (D3 (fun(c:h.2.2.2.1<1)=>.cons (.of ⟨by rw[Ei (by omega) (by omega)],rfl⟩)) (fun(c7: ¬h.2.2.2.1<1)=>?_));refine B5 h.2.2.2.1 l3 (D3 (fun(c:h.2.2.2.1>1073741824)=>.cons (.of ⟨by rw[Ei (by omega) (by omega)],rfl⟩)) (fun(c8: ¬h.2.2.2.1>1073741824)=>?_));refine B5 h.2.2.2.2.1 l4 (D3 (fun(c:h.2.2.2.2.1<0)=>.cons (.of ⟨by rw[Ei (by omega) (by omega)],rfl⟩)) (fun(c9: ¬h.2.2.2.2.1<0)=>?_));refine B5 h.2.2.2.2.1 l4 (D3 (fun(c:h.2.2.2.2.1≥16)=>.cons (.of ⟨by rw[Ei (by omega) (by omega)],rfl⟩)) (fun(c10: ¬h.2.2.2.2.1≥16)=>.cons (.of ⟨by rw[Ak0 (by omega) (by omega)],rfl⟩)))
def Bk5(L:B1)(h:Hd):Reads PP 173 #[.agg (ki5 h)] L (.i (J7 h)):=by
 refine(e173 h).r ?_;refine C9 fun n1 _=>?_;generalize ho:(n1,Obj.cells (ki5 h) 142)=o1;have l0:C0 n1.z [.i h.1] (o1::L):=by subst ho;exact C2 NG rfl
 have l1:C0 (Addr.add n1.z 1) [.i h.2.1] (o1::L):=by subst ho;exact C2 NG rfl
 have l2:C0 (Addr.add n1.z 2) [.i h.2.2.1] (o1::L):=by subst ho;exact C2 NG rfl
 have l3:C0 (Addr.add n1.z 3) [.i h.2.2.2.1] (o1::L):=by subst ho;exact C2 NG rfl
 have l4:C0 (Addr.add n1.z 4) [.i h.2.2.2.2.1] (o1::L):=by subst ho;exact C2 NG rfl
 clear ho;refine B5 h.1 l0 (D3 (fun(c:h.1<1)=>.cons (.of ⟨by rw[Xz (.inl c)],rfl⟩)) (fun(c1: ¬h.1<1)=>?_));refine B5 h.1 l0 (D3 (fun(c:h.1>4)=>.cons (.of ⟨by rw[Xz (.inr c)],rfl⟩)) (fun(c2: ¬h.1>4)=>?_));refine B5 h.2.2.1 l2 (D3 (fun(c:h.2.2.1<1)=>.cons (.of ⟨by rw[Ei (by omega) (by omega)],rfl⟩)) (fun(c3: ¬h.2.2.1<1)=>?_));refine B5 h.2.2.1 l2 (D3 (fun(c:h.2.2.1>16)=>.cons (.of ⟨by rw[Ei (by omega) (by omega)],rfl⟩)) (fun(c4: ¬h.2.2.1>16)=>?_));refine B5 h.2.1 l1 (D3 (fun(c:h.2.1<0)=>.cons (.of ⟨by rw[Ei (by omega) (by omega)],rfl⟩)) (fun(c5: ¬h.2.1<0)=>?_));refine B5 h.2.1 l1 (B5 h.2.2.1 l2 (D3 (fun(c:h.2.1≥h.2.2.1)=>.cons (.of ⟨by rw[Ei (by omega) (by omega)],rfl⟩)) (fun(c6: ¬h.2.1≥h.2.2.1)=>?_)));refine B5 h.2.2.2.1 l3 (D3 (fun(c:h.2.2.2.1<1)=>.cons (.of ⟨by rw[Ei (by omega) (by omega)],rfl⟩)) (fun(c7: ¬h.2.2.2.1<1)=>?_));refine B5 h.2.2.2.1 l3 (D3 (fun(c:h.2.2.2.1>1073741824)=>.cons (.of ⟨by rw[Ei (by omega) (by omega)],rfl⟩)) (fun(c8: ¬h.2.2.2.1>1073741824)=>?_));refine B5 h.2.2.2.2.1 l4 (D3 (fun(c:h.2.2.2.2.1<0)=>.cons (.of ⟨by rw[Ei (by omega) (by omega)],rfl⟩)) (fun(c9: ¬h.2.2.2.2.1<0)=>?_));refine B5 h.2.2.2.2.1 l4 (D3 (fun(c:h.2.2.2.2.1>15)=>.cons (.of ⟨by rw[Ei (by omega) (by omega)],rfl⟩)) (fun(c10: ¬h.2.2.2.2.1>15)=>.cons (.of ⟨by rw[Ak0 (by omega) (by omega)],rfl⟩)))
abbrev Lb:=Int×Int×Unit
def Wt(x:Lb):List Value:=[.i x.1,.i x.2.1]
def NB(x:Lb):(Wt x).length=2:=rfl
def Gm(b:List UInt8)(l:List Lb):List UInt8:=l.foldl (fun b x=>(Y6 b x.1 x.2.1).1) b
def Bo8(b:List UInt8)(l:List Lb)(x:Lb):Gm b (l++[x])=(Y6 (Gm b l) x.1 x.2.1).1:=by simp[Gm]
def Ay1(b:List UInt8)(n w:Int):(Y6 b n w).1.length<=b.length+7:=by
 unfold Y6;split
 ·simp
 ·split
  ·simp
  ·simp only[NR,Df];omega
def Bo9(b:List UInt8)(l:List Lb):(Gm b l).length<=b.length+7*l.length:=by
 induction l generalizing b with
 |nil=>simp[Gm]
 |cons x r ih=>
  have h1:=ih (Y6 b x.1 x.2.1).1;have h2:=Ay1 b x.1 x.2.1;have h3:Gm b (x::r)=Gm (Y6 b x.1 x.2.1).1 r:=rfl;rw[h3,NU];omega
def MZ(A:B1)(v:B6)(b:List UInt8)(hb:G0 A v b)(hl:b.length<=1000)(u:B6)(l:List Lb)(hu:Sl A u 2 (l.flatMap Wt))(hZ:0<l.length)(iR:l.length<=100)(hn: ∀x∈l,x.1<=9223372036854775807):
  CallF PP 241 #[.slice v.a v.len v.cap,.slice u.a u.len u.cap] A fun r L'=> ∃(s:B6) (seg:B1),r= .slice s.a s.len s.cap/\L'=seg++A/\C5 s 1 eB (F9 (Gm b l)) seg:=by
 refine(e241 v u).c ?_;have fI:=hu.els_len NB (by decide);refine G1 (fun k z L'=> ∃(i:Nat) (s:B6) (J:B1),i<=l.length/\k=l.length-i/\z=(s,(i:Int),())/\L'=J++A/\G0 L' s (Gm b (l.take i))/\(0<i-> ∃(seg J':B1),J=seg++J'/\C5 s 1 eB (F9 (Gm b (l.take i))) seg)) l.length
  ⟨0,v,[],by omega,by omega,rfl,rfl,hb,fun h=>by omega⟩ ?_
 rintro k z L' ⟨i,s,J,hi,rfl,rfl,rfl,hs,uG⟩;refine D3 (fun(hO:(i:Int)<u.len)=>?_) (fun(aM: ¬(i:Int)<u.len)=>?_)
 ·have hJ:i<l.length:=by omega
  obtain⟨a,ha,la⟩:=(hu.right (R:=J)).el NB (by decide) hJ;refine B7 ha (H7 (show(0:Int)<=(i:Int) by omega) hO (B5 l[i] (by rw[NK];exact la) ?_));have dI:=Bo9 b (l.take i);rw[NW,QF hi]at dI;have bT:=Bo8 b (l.take i) l[i];rw[<-OB hJ]at bT;have gL:=hn _ (NO hJ);generalize l[i]=x at bT gL⊢;refine C9 fun n1 _=>F6 [] _ rfl rfl (by simp) (.inl (NF _)) (kii x) rfl ?_;rw[NT];refine B5 x.1 (C2 NG rfl) (B5 x.2.1 (C2 NG rfl) ?_);generalize (n1,Obj.cells (kii x) 357)=o1;refine K3 [] [] (Vm (o1::(J++A)) s _ hs.cons (by omega) x.1 x.2.1 gL) (by simp) ?_;rintro _ _-⟨s',seg,rfl,rfl,own⟩;rw[NP,NT];rw[<-bT]at own;refine⟨(s',_,()),rfl,l.length-(i+1),by omega,i+1,s',seg++(o1::J),by omega,rfl,?_,by simp,own.sl.left,fun _=>⟨seg,o1::J,rfl,own⟩⟩;show(s',IntKind.i64.wrap ((i:Int)+1),())=_;rw[D7 (by omega) (by omega)];rfl
 ·obtain rfl:i=l.length:=by omega
  rw[OE]at uG;obtain⟨seg,J',rfl,own⟩:=uG hZ;refine .drop (A:=seg++A) (J:=J') ⟨s,seg,rfl,rfl,own⟩ ?_;rw[NZ,NZ];exact XI _ OT
def Fv(h:Hd)(n:Nat):List UInt8:=E4 h.1.toNat 1++E4 h.2.1.toNat 1++E4 h.2.2.1.toNat 1++E4 165 1++E4 h.2.2.2.1.toNat 4++E4 h.2.2.2.2.1.toNat 1++E4 0 1++E4 n 2
def Jq(h:Hd)(n:Nat):(Fv h n).length=12:=by simp[Fv,Df]
def X8(h:Hd)(p:List UInt8)(size:Nat):List UInt8:=Fv h p.length++p++List.replicate (size-16-p.length) 0
def Ly{size:Nat}(h1:16<=size)(h2:p.length<=size-16):(X8 h p size).length=size-4:=by
 unfold X8;rw[NR,NR,Jq,PE];omega
def I9(h:Hd)(p:List UInt8)(size:Nat):List UInt8:=X8 h p size++E4 (K0 (X8 h p size)).toNat 4
def O9(h:Hd)(p:List UInt8)(size:Int):List UInt8×Int:=
 if¬(64<=size/\size<=512)then([],2)else if J7 h≠0 then([],J7 h)else if(p.length:Int)>size-16 then([],4)else(I9 h p size.toNat,0)
def Hx(h:Hd)(p:List UInt8)(size:Int)(A:B1)(v:Value)(L':B1):Prop:= ∃(s:B6) (seg:B1),v= .t #[.slice s.a s.len s.cap,.i (O9 h p size).2]/\L'=seg++A/\C5 s 1 eB (F9 (O9 h p size).1) seg
def Hx.err{size:Int}{e:Int}(he:O9 h p size=([],e)):Hx h p size A (.t #[.slice none 0 0,.i e]) A:=⟨⟨none,0,0⟩,[],by rw[he],rfl,by rw[he];exact O5⟩
def Yv(l:List UInt8):0<=K0 l/\K0 l<4294967296:=Oc 0 l
def Tg(h:Hd)(n:Nat):List Lb:=[(h.1,1,()),(h.2.1,1,()),(h.2.2.1,1,()),(165,1,()),(h.2.2.2.1,4,()),(h.2.2.2.2.1,1,()),(0,1,()),((n:Int),2,())]
def Pa(b:List UInt8)(h0:0<=n)(h1:n<256):(Y6 b n 1).1=b++E4 n.toNat 1:=by
 rw[Lg (by decide) (by omega) (by show n.toNat<256;omega)];rfl
def Vn(b:List UInt8)(h0:0<=n)(h1:n<4294967296):(Y6 b n 4).1=b++E4 n.toNat 4:=by
 rw[Lg (by decide) (by omega) (by show n.toNat<4294967296;omega)];rfl
def ID(b:List UInt8)(h0:0<=n)(h1:n<65536):(Y6 b n 2).1=b++E4 n.toNat 2:=by
 rw[Lg (by decide) (by omega) (by show n.toNat<65536;omega)];rfl
def Bo6(e:J7 h=0){n:Nat}(hn:n<65536):Gm [] (Tg h n)=Fv h n:=by
 have:=Ik e;unfold Tg Gm;simp only[RU,List.foldl_nil];rw[Pa (n:=h.1) _ (by omega) (by omega),Pa (n:=h.2.1) _ (by omega) (by omega),Pa (n:=h.2.2.1) _ (by omega) (by omega),Pa (n:=165) _ (by omega) (by omega),Vn (n:=h.2.2.2.1) _ (by omega) (by omega),Pa (n:=h.2.2.2.2.1) _ (by omega) (by omega),Pa (n:=0) _ (by omega) (by omega),ID (n:=(n:Int)) _ (by omega) (by omega)];unfold Fv;simp
def Bo7(b:List UInt8):Gm b [(K0 b,4,())]=b++E4 (K0 b).toNat 4:=by
 have:=Yv b;exact Vn (n:=K0 b) b (by omega) (by omega)
def Cq2{S:Nat}(h1:64<=S)(h2:p.length<=S-16):
  Bm (Bm (Cp [.int .u8 0] (S-4)) 0 (F9 (Fv h p.length))) (12*1) (F9 p)=F9 (X8 h p S):=by
 rw[HO,Zb,Zb];congr 1;unfold X8;rw[VR,NT,Jq,QO,OS,SR (Jq h _),<-QB,TG (Jq h _),QB,YN];congr 2;omega
def Br5(A:B1)(h:Hd)(v:B6)(p:List UInt8)(hv:G0 A v p)(size:Int)(hs: -9223372036854775808<=size/\size<=9223372036854775807):
  CallF PP 213 #[.agg (ki5 h),.slice v.a v.len v.cap,.i size] A (Hx h p size A):=by
 refine(e213 h v size).c ?_;have bY:=hv.len;refine C9 fun n1 _=>?_;generalize ho:(n1,Obj.cells (ki5 h) 142)=o1;have lh:C0 n1.z (Ya h) (o1::A):=by subst ho;exact C2 NG rfl
 clear ho;refine C4 (BY _ size) (Cq size,()) rfl ?_;cases aE:Cq size with
 |false=>exact E9 rfl (.cons (.of (Hx.err (by unfold O9;rw[NE (Sb aE)]))))
 |true=>
  have hS:=Sa aE;refine D8 rfl (B5 h lh (C4 (Ab1 _ h) (J7 h,()) rfl ?_));refine Bb (fun(he:J7 h≠0)=>.cons (.of (Hx.err (by unfold O9;rw[ND (by simpa using hS),NE he])))) (fun(he:J7 h=0)=>?_);refine C4 (Pu _ size) (E0 size,()) rfl ?_;have aK:E0 size=size-16:=by unfold E0;rw[NE hS]
  rw[aK];refine D3 (fun(hl:(v.len:Int)>size-16)=>.cons (.of (Hx.err (by unfold O9;rw[ND (by simpa using hS),ND (by simpa using he),NE (by omega)])))) (fun(hl: ¬(v.len:Int)>size-16)=>?_);obtain⟨S,rfl⟩: ∃S:Nat,size=S:=⟨size.toNat,by omega⟩;have oN:O9 h p S=(I9 h p S,0):=by
   unfold O9;rw[ND (by simpa using hS),ND (by simpa using he),ND (by omega),NK]
  unfold Hx;rw[oN];refine B5 h.1 (lh.pre fun i u hu=>by cases i with|zero=>exact hu|succ i=>exact absurd (show(none:Option Value)=some u from hu) (by simp)) (B5 h.2.1 (lh.one 1 rfl) (B5 h.2.2.1 (lh.one 2 rfl) (B5 h.2.2.2.1 (lh.one 3 rfl) (B5 h.2.2.2.2.1 (lh.one 4 rfl) (C9 fun n2 _=>?_)))));have qD:((v.len:Nat):Int)=((p.length:Nat):Int):=by omega
  rw[qD];have uN:Sl ((n2,Obj.cells #[.i h.1,.i 1,.i h.2.1,.i 1,.i h.2.2.1,.i 1,.i 165,.i 1,.i h.2.2.2.1,.i 4,.i h.2.2.2.2.1,.i 1,.i 0,.i 1,.i ((p.length:Nat):Int),.i 2] 357)::o1::A) ⟨some n2.z,8,8⟩ 2 ((Tg h p.length).flatMap Wt):=
   ⟨rfl,NF _,.inr ⟨_,rfl,C2 NG rfl⟩⟩
  have aC:=Ik he;generalize (n2,Obj.cells #[.i h.1,.i 1,.i h.2.1,.i 1,.i h.2.2.1,.i 1,.i 165,.i 1,.i h.2.2.2.1,.i 4,.i h.2.2.2.2.1,.i 1,.i 0,.i 1,.i ((p.length:Nat):Int),.i 2] 357)=o2 at uN⊢;refine K3 [] [] (MZ (o2::o1::A) ⟨none,0,0⟩ [] (Sl.nil 1) (by decide) ⟨some n2.z,8,8⟩ (Tg h p.length) uN (by show 0<8;decide) (by show 8<=100;decide) ?_) (by simp) ?_
  ·intro x hx;unfold Tg at hx;simp only[OC,VS,or_false]at hx;rcases hx with rfl|rfl|rfl|rfl|rfl|rfl|rfl|rfl<;>simp only<;>omega
  rintro _ _-⟨s4,seg4,rfl,rfl,own4⟩;rw[Bo6 he (by omega)]at own4;rw[NP,NT];have eH:=own4.sl.len;rw[Y1,Jq]at eH;refine⟨(s4,()),rfl,?_⟩;have hw:IntKind.i64.wrap ((S:Int)-4)=((S-4:Nat):Int):=by rw[D7 (by omega) (by omega)];omega
  simp only[hw];refine Tp Be (l:=S-4) (c:=S-4) (NF _) (by omega) fun n7 ob own7 _ _=>?_;refine Yy (T:=eB) (sz:=1) (l:=0) (a:=n7.z) Vr (by kernel_rfl) [] (seg4++(o2::o1::A)) own7 rfl rfl rfl (by simp) (.cons (own4.sl.left)) (Ac _) fun seg7 own7'=>?_;have jP:min s4.len (S-4)=12:=by omega
  simp only[jP,OS,NT]at own7'⊢;rw[PZ (by rw[Y1,Jq];omega)]at own7';refine Q2 (l':=12) (h':=S-4) (m':=S-4) rfl rfl rfl (by omega) (by omega) (NF _) ?_;have hd:(G7 ⟨some n7.z,S-4,S-4⟩ ((12:Nat):Int) ((S-4:Nat):Int) ((S-4:Nat):Int) 1).a=some (Addr.add n7.z (12*1)):=by
   simp only[G7,NK];rw[ND (by omega)];rfl
  have pR:(G7 ⟨some n7.z,S-4,S-4⟩ ((12:Nat):Int) ((S-4:Nat):Int) ((S-4:Nat):Int) 1).len=S-16:=by
   simp only[G7,NK];omega
  generalize G7 ⟨some n7.z,S-4,S-4⟩ ((12:Nat):Int) ((S-4:Nat):Int) ((S-4:Nat):Int) 1=d at hd pR⊢;refine Yy (T:=eB) (sz:=1) (l:=12) (a:=n7.z) Vr (by kernel_rfl) [] (seg4++(o2::o1::A)) own7' rfl rfl hd (by simp only;omega) (hv.cons.cons.right.right) (Ac _) fun seg8 own8=>?_;have dJ:min v.len d.len=p.length:=by omega
  simp only[dJ,OS,NT]at own8⊢;rw[PZ (by rw[Y1];omega),Cq2 (by omega) (by omega)]at own8;have dI:=Ly (h:=h) (p:=p) (size:=S) (by omega) (by omega);have iM:I9 h p S=X8 h p S++E4 (K0 (X8 h p S)).toNat 4:=rfl;rw[iM];generalize X8 h p S=body at own8 dI⊢;refine C4 (AG _ ⟨some n7.z,S-4,S-4⟩ body own8.sl.left (by omega)) (K0 body,()) rfl (C9 fun n3 _=>?_);have dH:=Yv body;have mB:Sl ((n3,Obj.cells #[.i (K0 body),.i 4] 357)::(seg8++(seg4++(o2::o1::A)))) ⟨some n3.z,1,1⟩ 2 ([((K0 body,4,()):Lb)].flatMap Wt):=⟨rfl,NF _,.inr ⟨_,rfl,C2 NG rfl⟩⟩;refine K3 [] [] (MZ ((n3,Obj.cells #[.i (K0 body),.i 4] 357)::(seg8++(seg4++(o2::o1::A)))) ⟨some n7.z,S-4,S-4⟩ body own8.sl.left.cons (by omega) ⟨some n3.z,1,1⟩ _ mB (by show 0<1;decide) (by show 1<=100;decide) (fun x hx=>by rw[NM.1 hx];simp only;omega)) (by simp) ?_;rintro _ _-⟨s9,seg9,rfl,rfl,own9⟩;rw[Bo7]at own9;rw[NP,NT];refine⟨(s9,()),rfl,.drop (A:=seg9++A) (J:=(n3,Obj.cells #[.i (K0 body),.i 4] 357)::(seg8++(seg4++[o2,o1]))) ⟨s9,seg9,rfl,rfl,own9⟩ ?_⟩
  classical
  rw[ON];intro x;simp only[PM,OM,OP,OV,PJ];omega
end Go.Proofs.YtieboeindnpnaaaGreatDoor
