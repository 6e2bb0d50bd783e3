/-
  It is proved what the functions that the law StoreServes reaches compute, part 1. There are no further conditions than those that each theorem names.
-/
import Derived.Test.YtbaoieipijmakaaGreatDoorMStoreServes0
import Derived.Test.YtbaoieipijmakaaGreatDoorProg
import Derived.KernelRfl
set_option linter.unusedVariables false
set_option linter.unusedSimpArgs false
namespace Go.HL
def Fr(R:A4)(N' N:HP):Prop:= ∀L L2 J,N' L->L2.Perm (L++(R++J))->N L2
def elp(a:Option Addr)(len:Nat)(i:Int)(sz:Nat)(k:Addr->HP):HP:=A8 a fun ad=>ixn i len (k (ad.add (i.toNat*sz)))
def w64(e:Int)(k:Int->HP):HP:=k (IntKind.i64.wrap e)
def apv(P:Program)(t t2 ty e:TypeId)(v:SlV)(n:Nat)(ws:List Value)(k:SlV->HP):HP:=fun L=>
 ∀m,Az5 P (Builtin.append_ #[t,t2] ty #[.slice v.a v.len v.cap,.slice (some ⟨m,0,none⟩) n n]) (fun r L'=> ∃s L0,r= .slice s.a s.len s.cap/\L'.Perm ((m,Obj.cells ws.toArray e)::L0)/\k s L0) ((m,Obj.cells ws.toArray e)::L)
def ldX(sh:Sh)(cs:List Value)(off:Nat):Option (ShV sh):=
 match sh with
 | .lf l=>match cs.drop off with|v::_=>l.of v|[]=>none
 | .agg ls=>Cn0 ls ((cs.drop off).take ls.length)
def wrO:List Value->Nat->List Value->Option (List Value)
 |cs,0,[]=>some cs
 |c::cs,0,w::ws=>match wrO cs 0 ws with|some r=>some (w::r)|none=>none
 |c::cs,i+1,ws=>match wrO cs i ws with|some r=>some (c::r)|none=>none
 |[],_,_=>none
def Cw1:A4->Nat->Option (Nat×Obj)
 |p::r,0=>some p
 |p::r,i+1=>Cw1 r i
 |[],_=>none
def setO:A4->Nat->Nat×Obj->Option A4
 |p::r,0,x=>some (x::r)
 |p::r,i+1,x=>match setO r i x with|some r'=>some (p::r')|none=>none
 |[],_,_=>none
def delO:A4->Nat->Option A4
 |p::r,0=>some r
 |p::r,i+1=>match delO r i with|some r'=>some (p::r')|none=>none
 |[],_=>none
theorem Ae4: ∀{R:A4} {i:Nat} {p:Nat×Obj},Cw1 R i=some p-> ∃A B,R=A++p::B/\(∀x R',setO R i x=some R'->R'=A++x::B)/\(∀R',delO R i=some R'->R'=A++B)
 |p::r,0,q,h=>by
  simp only[Cw1,Dz1]at h;subst h;exact⟨[],r,rfl,fun x R' h=>by simp only[setO,Dz1]at h;exact h.symm,fun R' h=>by simp only[delO,Dz1]at h;exact h.symm⟩
 |p::r,i+1,q,h=>by
  simp only[Cw1]at h;obtain⟨A,B,rfl,h1,h2⟩:=Ae4 h;refine⟨p::A,B,rfl,fun x R' h=>?_,fun R' h=>?_⟩
  ·simp only[setO]at h;split at h
   ·rename_i r' hr;obtain rfl:=Dq9 h;rw[h1 _ _ hr];rfl
   ·cases h
  ·simp only[delO]at h;split at h
   ·rename_i r' hr;obtain rfl:=Dq9 h;rw[h2 _ hr];rfl
   ·cases h
 |[],_,_,h=>by simp[Cw1]at h
theorem C33{sh:Sh}{cs:List Value}{off:Nat}{x:ShV sh}(h:ldX sh cs off=some x): ∀(i:Nat) (v:Value),(sh.vals x)[i]?=some v->cs[off+i]?=some v:=by
 intro i v hv;cases sh with
 |lf l=>
  simp only[ldX]at h;split at h
  ·rename_i u r hu;have:=Lf.of_spec h;cases i with
   |zero=>
    have h2:l.val x=v:=by simpa[Sh.vals]using hv
    have h3:(cs.drop off)[0]?=some u:=by rw[hu];rfl
    rw[D05]at h3;rw[h3,<-this,h2]
   |succ i=>simp[Sh.vals]at hv
  ·cases h
 |agg ls=>
  simp only[ldX]at h;have h1:=At9 h;have h3:((cs.drop off).take ls.length)[i]?=some v:=by rw[<-h1];exact hv
  rw[Dy8]at h3;split at h3
  ·rwa [D05]at h3
  ·cases h3
theorem Bc9: ∀(cs:List Value) (off:Nat) (ws cs':List Value),wrO cs off ws=some cs'->off+ws.length<=cs.length/\wr cs.toArray off ws=cs'.toArray
 |cs,0,[],cs',h=>by cases cs<;>simp only[wrO,Dz1]at h<;>subst h<;>exact⟨by simp,rfl⟩
 |c::cs,0,w::ws,cs',h=>by
  simp only[wrO]at h;split at h
  ·rename_i r hr;obtain rfl:=Dq9 h;obtain⟨h1,h2⟩:=Bc9 cs 0 ws r hr;have hl:(0:Nat)+(w::ws).length<=(c::cs).length:=by simp only[Dr8]at*;omega
   refine⟨hl,?_⟩;apply D33;intro j;rw[Ag1 _ _ _ _ (by simpa using hl)];cases j with
   |zero=>simp
   |succ j=>
    have h3:=Ag1 ws cs.toArray 0 j (by simpa using h1);rw[h2]at h3;simp only[D26,D23,Dr8,Dy2,Dx4,Dv6,true_and]at h3⊢;rw[h3];by_cases hj:j<ws.length
    ·rw[Dq5 hj,Dq5 (by omega)]
    ·rw[Dq4 hj,Dq4 (by omega)]
  ·cases h
 |c::cs,i+1,ws,cs',h=>by
  simp only[wrO]at h;split at h
  ·rename_i r hr;obtain rfl:=Dq9 h;obtain⟨h1,h2⟩:=Bc9 cs i ws r hr;have hl:i+1+ws.length<=(c::cs).length:=by simp only[Dr8];omega
   refine⟨hl,?_⟩;apply D33;intro j;rw[Ag1 _ _ _ _ (by simpa using hl)];cases j with
   |zero=>simp
   |succ j=>
    have h3:=Ag1 ws cs.toArray i j (by simpa using h1);rw[h2]at h3;simp only[D26,D23]at h3⊢;rw[h3];by_cases hj:i<=j/\j<i+ws.length
    ·rw[Dq5 hj,Dq5 (by omega),show j+1-(i+1)=j-i by omega]
    ·rw[Dq4 hj,Dq4 (by omega)]
  ·cases h
 |[],0,w::ws,_,h=>by simp[wrO]at h
 |[],i+1,ws,_,h=>by simp[wrO]at h
theorem C23{A2 B2 L A B J:A4}{x y:Nat×Obj}(hp:(A2++x::B2).Perm (L++(A++x::B++J))):(A2++y::B2).Perm (L++(A++y::B++J)):=by
 classical
 rw[Dt9];intro z;have:=hp.count_eq z;simp only[Du0,Dv0]at this⊢;omega
theorem By8{L A B J:A4}{x:Nat×Obj}:x∈L++(A++x::B++J):=Du2 _ (Ds8 _ (Du2 _ Dq7))
theorem Sat.sub{L L2 G:A4}(h:Sat L2)(hp:L2.Perm (L++G)):Sat L:=by
 obtain⟨E,F,w,hw⟩:=h;exact⟨E,G++F,w,by rw[<-Ds5];exact hw.perm (hp.append_right F)⟩
theorem C9.perm{ad:Addr}{vs:List Value}{L L2 G:A4}(h:C9 ad vs L)(hp:L2.Perm (L++G)):C9 ad vs L2:=h.mono fun p hq=>hp.symm.subset (Ds8 _ hq)
section
variable {P:Program} {R:A4}
theorem fr_run{a b:HP}{L:A4}(h:Fr [] a b)(ha:a L):b L:=h L L [] ha (by simp)
theorem A7{K:Value->HP}{v:Value}:Fr R (Ends K v) (Ends K v):=by
 rintro L L2 J ⟨A,B,hp,hK⟩ h2;exact⟨A,B++(R++J),by rw[<-Ds5];exact h2.trans (hp.append_right _),hK⟩
theorem fr_ff{N:HP}:Fr R ff N:=fun _ _ _ h=>h.elim
theorem U0{o:Obj}{k' k:Nat->HP}(h: ∀n,Fr R (k' n) (k n)):Fr R (nw o k') (nw o k):=fun L L2 J hN hp n hs=>
 h n _ _ J (hN n (hs.sub (G:=R++J) (hp.cons _))) (hp.cons _)
theorem D2{o:Obj}{k':HP}{k:Nat->HP}(h: ∀n,Fr ((n,o)::R) k' (k n)):Fr R k' (nw o k):=fun L L2 J hN hp n hs=>
 h n L _ J hN ((hp.cons _).trans Dw4.symm)
theorem B8{ad:Addr}{sh:Sh}{k' k:ShV sh->HP}(h: ∀x,Fr R (k' x) (k x)):Fr R (ld ad sh k') (ld ad sh k):=fun L L2 J ⟨x,hx,hk⟩ hp=>⟨x,hx.perm hp,h x _ _ J hk hp⟩
theorem B3(i off:Nat){ad:Addr}{sh:Sh}{k':HP}{k:ShV sh->HP}{n:Nat}{cs:List Value}{T:TypeId}{fz:Nat×Nat}{x:ShV sh}(hi:Cw1 R i=some (n,Obj.cells cs.toArray T fz))(dR:ad=⟨n,off,none⟩)(hx:ldX sh cs off=some x)(h:Fr R k' (k x)):Fr R k' (ld ad sh k):=by
 intro L L2 J hk hp;obtain⟨A,B,rfl,_⟩:=Ae4 hi;subst dR;refine⟨x,⟨_,T,fz,hp.symm.subset By8,rfl,fun j v hv=>?_⟩,h _ _ J hk hp⟩;simpa using C33 hx j v hv
theorem Ae5{ad:Addr}{ws:List Value}{k' k:HP}(h:Fr R k' k):Fr R (st ad ws k') (st ad ws k):=by
 rintro L L2 J ⟨A,B,c,T,fz,rfl,hs,h1,h2,hk⟩ hp;obtain⟨A2,B2,rfl⟩:=D31 (hp.symm.subset (show(ad.block,Obj.cells c T fz)∈(A++(ad.block,Obj.cells c T fz)::B)++(R++J) by simp));refine⟨A2,B2,c,T,fz,rfl,hs,h1,h2,h _ _ J hk ?_⟩;have h3:(A2++B2).Perm (A++(B++(R++J))):=by
  have h4:((ad.block,Obj.cells c T fz)::(A2++B2)).Perm ((ad.block,Obj.cells c T fz)::(A++(B++(R++J)))):=by
   refine Dw4.symm.trans (hp.trans ?_);rw[Ds5,Dt7];exact Dw4
  exact(D80 _).1 h4
 refine Dw4.trans (((h3.cons _)).trans ?_);rw[Ds5,Dt7];exact Dw4.symm
theorem G2(i off:Nat){ad:Addr}{ws cs cs':List Value}{k' k:HP}{n:Nat}{T:TypeId}{R':A4}(hi:Cw1 R i=some (n,Obj.cells cs.toArray T (0,0)))(dR:ad=⟨n,off,none⟩)(hw:wrO cs off ws=some cs')(hs:setO R i (n,Obj.cells cs'.toArray T (0,0))=some R')(h:Fr R' k' k):Fr R k' (st ad ws k):=by
 intro L L2 J hk hp;obtain⟨A,B,rfl,cF,_⟩:=Ae4 hi;obtain rfl:=cF _ _ hs;subst dR;obtain⟨h1,h2⟩:=Bc9 _ _ _ _ hw;obtain⟨A2,B2,rfl⟩:=D31 (hp.symm.subset (By8 (L:=L)));refine⟨A2,B2,_,T,(0,0),rfl,rfl,by simpa using h1,fun j hj=>by simp,?_⟩;simp only[h2];exact h _ _ J hk (C23 hp)
theorem Dn2{R':A4}{a b:HP}(hp:R.Perm R')(h:Fr R' a b):Fr R a b:=fun L L2 J ha h2=>h L L2 J ha (h2.trans ((hp.append_right J).append_left L))
theorem H7(i:Nat){a b:HP}{p:Nat×Obj}{R':A4}(hi:Cw1 R i=some p)(hd:delO R i=some R')(h:Fr (p::R') a b):Fr R a b:=by
 obtain⟨A,B,rfl,_,qQ⟩:=Ae4 hi;obtain rfl:=qQ _ hd;exact Dn2 Dw4 h
theorem E8{R' G:A4}{a b:HP}(h:Fr R' a b)(hR:R=R'++G):Fr R a b:=by
 subst hR;intro L L2 J ha hp;exact h L L2 (G++J) ha (by rw[Ds5]at hp;exact hp)
theorem S9{ad:Addr}{vs:List Value}{k' k:HP}(h:Fr R k' k):Fr R (keep (C9 ad vs) k') (keep (C9 ad vs) k):=fun L L2 J ⟨h1,h2⟩ hp=>⟨h1.perm hp,h _ _ J h2 hp⟩
theorem RdV.perm{s:Sem Value}{v:Value}{L L2 G:A4}(h:RdV P s v L)(hp:L2.Perm (L++G)):RdV P s v L2:=fun E F w hw=>h E (G++F) w (by rw[<-Ds5];exact hw.perm (hp.append_right F))
theorem Az5.fr{s:Sem Value}{K:Value->HP}{L L2 G:A4}(h:Az5 P s K L)(hp:L2.Perm (L++G)):Az5 P s (fun v L'=> ∃L0,L'=L0++G/\K v L0) L2:=by
 intro E F w hw;obtain⟨v,w',L',h1,h2,h3⟩:=h E (G++F) w (by rw[<-Ds5];exact hw.perm (hp.append_right F));exact⟨v,w',L'++G,h1,by rw[Ds5];exact h2,L',rfl,h3⟩
theorem Az5.mono{s:Sem Value}{K K':Value->HP}{L:A4}(h:Az5 P s K L)(hk: ∀v L',K v L'->K' v L'):Az5 P s K' L:=by
 intro E F w hw;obtain⟨v,w',L',h1,h2,h3⟩:=h E F w hw;exact⟨v,w',L',h1,h2,hk _ _ h3⟩
theorem M8(i off:Nat){ad:Addr}{vs cs:List Value}{k' k:HP}{n:Nat}{T:TypeId}{fz:Nat×Nat}(hi:Cw1 R i=some (n,Obj.cells cs.toArray T fz))(dR:ad=⟨n,off,none⟩)(hx:(cs.drop off).take vs.length=vs)(h:Fr R k' k):Fr R k' (keep (C9 ad vs) k):=by
 intro L L2 J hk hp;obtain⟨A,B,rfl,_⟩:=Ae4 hi;subst dR;exact⟨ldB (hp.symm.subset By8) (by simpa using hx),h _ _ J hk hp⟩
theorem CallF.fr{f:FuncId}{args:Array Value}{K:Value->HP}{L L2 G:A4}(h:CallF P f args L K)(hp:L2.Perm (L++G)):CallF P f args L2 fun v L'=> ∃L0,L'=L0++G/\K v L0:=CallF.perm hp.symm (CallF.frame (R:=G) h)
theorem B0{f:FuncId}{args:Array Value}{rs:List Sh}{k' k:RsV rs->HP}(h: ∀r,Fr R (k' r) (k r)):Fr R (cl P f args rs k') (cl P f args rs k):=fun L L2 J hc hp=>
 CallF.mono (CallF.fr hc hp) (by rintro v L'-⟨L0,rfl,r,hr,hk⟩;exact⟨r,hr,h r _ _ J hk (Dq8 _)⟩)
theorem Bb2{f:Fn}{args captured:Array Value}{rs:List Sh}{k' k:RsV rs->HP}(h: ∀r,Fr R (k' r) (k r)):Fr R (clv P f args captured rs k') (clv P f args captured rs k):=fun L L2 J ⟨g,h1,h2,hc⟩ hp=>
 ⟨g,h1,h2,CallF.mono (CallF.fr hc hp) (by rintro v L'-⟨L0,rfl,r,hr,hk⟩;exact⟨r,hr,h r _ _ J hk (Dq8 _)⟩)⟩
theorem B9{t:Bool}{A' A B' B:HP}(h1:Fr R A' A)(h2:Fr R B' B):Fr R (ifB t A' B') (ifB t A B):=by cases t<;>assumption
theorem K0{t:Bool}{A' A B' B:HP}(h1:Fr R A' A)(h2:Fr R B' B):Fr R (ifB t B' A') (ifB (!t) A B):=by cases t<;>assumption
theorem C8{x y:Int}{A' A B' B:HP}(h1:Fr R A' A)(h2:Fr R B' B):Fr R (ifB (decide (x=y)) A' B') (ifB (x==y) A B):=by
 by_cases h:x=y
 ·rw[Dt2 h,beq_iff_eq.2 h];exact h1
 ·rw[Ds7 h,beq_eq_false_iff_ne.2 h];exact h2
theorem E1{x y:Int}{A' A B' B:HP}(h1:Fr R A' A)(h2:Fr R B' B):Fr R (ifB (decide (x=y)) B' A') (ifB (x !=y) A B):=by
 by_cases h:x=y
 ·rw[Dt2 h];simp only[bne,beq_iff_eq.2 h,Bool.not_true];exact h2
 ·rw[Ds7 h];simp only[bne,beq_eq_false_iff_ne.2 h,Bool.not_false];exact h1
theorem Cq7{x y:ByteArray}{A' A B' B:HP}(h1:Fr R A' A)(h2:Fr R B' B):Fr R (ifB (decide (x=y)) A' B') (ifB (x.toList==y.toList) A B):=by rw[Df6];exact B9 h1 h2
theorem C2{p:Option Addr}{k' k:Addr->HP}(h: ∀a,p=some a->Fr R (k' a) (k a)):Fr R (A8 p k') (A8 p k):=by
 cases p with
 |none=>exact fr_ff
 |some a=>exact h a rfl
theorem B1{p:Option Addr}{a:Addr}{k':HP}{k:Addr->HP}(hp:p=some a)(h:Fr R k' (k a)):Fr R k' (A8 p k):=by subst hp;exact h
theorem fr_req{p:Prop}{k' k:HP}(h:Fr R k' k):Fr R (req p k') (req p k):=fun L L2 J ⟨h1,h2⟩ hp=>⟨h1,h _ _ J h2 hp⟩
theorem Dn1{p:Prop}{k' k:HP}(hq:p)(h:Fr R k' k):Fr R k' (req p k):=fun L L2 J h2 hp=>⟨hq,h _ _ J h2 hp⟩
theorem H8{a:Option Addr}{len:Nat}{i:Int}{sz:Nat}{k':Addr->HP}{k:Addr->HP}(h: ∀b,(a=some b/\0<=i/\i<len)->Fr R (k' (b.add (i.toNat*sz))) (k b)):Fr R (elp a len i sz k') (A8 a fun b=>ixn i len (k b)):=by
 cases a with
 |none=>exact fr_ff
 |some b=>
  rintro L L2 J ⟨h1,h2⟩ hp;exact⟨h1,h _ ⟨rfl,h1⟩ _ _ J h2 hp⟩
theorem B00{a:Option Addr}{len:Nat}{i:Int}{b:Addr}{k':HP}{k:Addr->HP}(he:a=some b/\0<=i/\i<len)(h:Fr R k' (k b)):Fr R k' (A8 a fun b=>ixn i len (k b)):=by
 obtain⟨rfl,h1⟩:=he;intro L L2 J h2 hp;exact⟨h1,h _ _ J h2 hp⟩
theorem A52{v:SlV}{l h' m:Int}{sz:Nat}{k' k:SlV->HP}(h: ∀s,Fr R (k' s) (k s)):Fr R (slc v l h' m sz k') (slc v l h' m sz k):=fr_req (h _)
theorem D0{e:Int}{k':Int->HP}{N:HP}(h:Fr R (k' (IntKind.i64.wrap e)) N):Fr R (w64 e k') N:=h
theorem Cq6{s:Sem Value}{sh:Sh}{k' k:ShV sh->HP}(h: ∀r,Fr R (k' r) (k r)):Fr R (smP P s sh k') (smP P s sh k):=fun L L2 J ⟨r,h1,h2⟩ hp=>⟨r,h1,h r _ _ J h2 hp⟩
theorem Br8{s:Sem Value}{sh:List Sh}{k' k:RsV sh->HP}(h: ∀r,Fr R (k' r) (k r)):Fr R (smR P s sh k') (smR P s sh k):=fun L L2 J ⟨r,h1,h2⟩ hp=>⟨r,h1.perm hp,h r _ _ J h2 hp⟩
theorem Am3{s:Sem Value}{sh:List Sh}{k' k:RsV sh->HP}(h: ∀r,Fr R (k' r) (k r)):Fr R (smW P s sh k') (smW P s sh k):=fun L L2 J hc hp=>
 (Az5.fr hc hp).mono (by rintro v L' ⟨L0,rfl,r,hr,hk⟩;exact⟨r,hr,h r _ _ J hk (Dq8 _)⟩)
theorem B66{s:Sem Unit}{k' k:HP}(h:Fr R k' k):Fr R (smU P s k') (smU P s k):=by
 intro L L2 J hc hp E F w hw;obtain⟨w',L',h1,h2,h3⟩:=hc E ((R++J)++F) w (by rw[<-Ds5];exact hw.perm (hp.append_right F));exact⟨w',L'++(R++J),h1,by rw[Ds5];exact h2,h _ _ J h3 (Dq8 _)⟩
theorem Ae6(i:Nat){t t2 ty e:TypeId}{v:SlV}{n m:Nat}{ws:List Value}{k':SlV->HP}{k:RsV [.lf .sl]->HP}(hi:Cw1 R i=some (m,Obj.cells ws.toArray e (0,0)))(h: ∀s:SlV,Fr R (k' s) (k (s,()))):
  Fr R (apv P t t2 ty e v n ws k') (smW P (Builtin.append_ #[t,t2] ty #[.slice v.a v.len v.cap,.slice (some ⟨m,0,none⟩) n n]) [.lf .sl] k):=by
 intro L L2 J hc hp;obtain⟨A,B,rfl,_⟩:=Ae4 hi;have aH:L2.Perm (((m,Obj.cells ws.toArray e (0,0))::L)++(A++B++J)):=hp.trans (by
  classical
  rw[Dt9];intro z;simp only[Du0,Dv0];omega)
 refine(Az5.fr (hc m) aH).mono ?_;rintro r L' ⟨L0,rfl,s,L1,rfl,aZ,hk⟩;refine⟨(s,()),rfl,h s L1 _ J hk ?_⟩
 classical
 rw[Dt9];intro z;have:=aZ.count_eq z;simp only[Du0,Dv0]at this⊢;omega
theorem C61{sh sh':List Sh}{x0:RsV sh}{x0':RsV sh'}{body:RsV sh->(RsV sh->HP)->HP}{body':RsV sh'->(RsV sh'->HP)->HP}{C:A4}(M:RsV sh'->A4)(pr:RsV sh'->RsV sh)(hx:pr x0'=x0)(hR:R=M x0'++C)
  (h: ∀(go':RsV sh'->HP) (go:RsV sh->HP),(∀x,Fr (M x++C) (go' x) (go (pr x)))-> ∀x,Fr (M x++C) (body' x go') (body (pr x) go)):Fr R (lp sh' x0' body') (lp sh x0 body):=by
 rintro L L2 J ⟨I,⟨k0,zZ⟩,hI⟩ hp;subst hx hR;refine⟨fun k x L2=> ∃x' L1 J1,pr x'=x/\L2.Perm (L1++((M x'++C)++J1))/\I k x' L1,⟨k0,x0',L,J,rfl,hp,zZ⟩,?_⟩;rintro k _ L2 ⟨x',L1,J1,rfl,aL,mV⟩;refine h (fun x L''=> ∃k',k'<k/\I k' x L'') _ ?_ x' L1 L2 J1 (hI k x' L1 mV) aL;rintro x L3 L4 J3 ⟨k',cU,h3⟩ aZ;exact⟨k',cU,x,L3,J3,rfl,aZ,h3⟩
theorem K9{sh:List Sh}{x0:RsV sh}{body body':RsV sh->(RsV sh->HP)->HP}
  (h: ∀(go' go:RsV sh->HP),(∀x,Fr R (go' x) (go x))-> ∀x,Fr R (body' x go') (body x go)):Fr R (lp sh x0 body') (lp sh x0 body):=
 C61 (C:=R) (fun _=>[]) id rfl rfl h
theorem U8{α:Type}{b b':α->HP}{r r':(α->HP)->HP}
 (hb: ∀y,Fr R (b' y) (b y)) (hr: ∀(j' j:α->HP),(∀y,Fr R (j' y) (j y))->Fr R (r' j') (r j)):Fr R (jn b' r') (jn b r):=hr b' b hb
end
section
variable {P:Program} {L A:A4}
theorem D6{e:Int}{k:Int->HP}(h: -9223372036854775808<=e/\e<=9223372036854775807)(hk:k e L):w64 e k L:=by
 unfold w64;rw[C1 h.1 h.2];exact hk
theorem elp_of{v:SlV}{sz:Nat}{vs:List Value}(h:Sl L v sz vs)(aC:0<sz){i:Int}{n:Nat}(hi:i=n)(hn:n<v.len){k:Addr->HP}(hk: ∀a,C9 a ((vs.drop (n*sz)).take sz) L->k a L):elp v.a v.len i sz k L:=by
 subst hi;obtain⟨a,ha,hl⟩:=h.at' hn aC;refine A5 ha (D9 (by omega) (by omega) (hk _ ?_));rw[Dr0];refine hl.sub (n*sz) fun j u hu=>?_;rw[Dy8]at hu;split at hu
 ·rwa [D05]at hu
 ·cases hu
theorem W5{α:Type}{enc:α->List Value}{sz:Nat}(aC: ∀x,(enc x).length=sz)(bH:0<sz){v:SlV}{l:List α}(h:Sl L v sz (l.flatMap enc)){i:Int}{n:Nat}(hi:i=n)(hn:n<l.length){k:Addr->HP}(hk: ∀a,C9 a (enc l[n]) L->k a L):elp v.a v.len i sz k L:=by
 subst hi;obtain⟨a,ha,hl⟩:=h.el aC bH hn;refine A5 ha (D9 (by omega) (by have:=h.els_len aC bH;omega) (hk _ ?_));rw[Dr0];exact hl
theorem elp_i{v:SlV}{ik:IntKind}{l:List Int}(h:ISl L v ik l){i:Int}{n:Nat}(hi:i=n)(hn:n<l.length){k:Addr->HP}(hk: ∀a,C9 a [.int ik l[n]] L->k a L):elp v.a v.len i 1 k L:=by
 subst hi;obtain⟨a,ha⟩:=h.some hn;refine A5 ha (D9 (by omega) (by have:=h.len;omega) (hk _ (h.rd hn ha _ (by rw[Dr0]))))
theorem C68{v:SlV}{vs:List Value}(h:Sl L v 1 vs){i:Int}{n:Nat}(hi:i=n)(hn:n<vs.length){k:Addr->HP}(hk: ∀a,C9 a [vs[n]] L->k a L):elp v.a v.len i 1 k L:=by
 have hl:=h.len;refine elp_of h (by decide) hi (by omega) fun a ha=>hk a ?_;have e:(vs.drop (n*1)).take 1=[vs[n]]:=by rw[Dt8,Dv1 hn];rfl
 rw[<-e];exact ha
theorem slc_sl{v:SlV}{sz:Nat}{vs:List Value}(h:Sl A v sz vs)(aC:0<sz){i j m:Int}{i' j' m':Nat}(hi:i=i')(hj:j=j')(hm:m=m')(h1:i'<=j')(h2:j'<=v.len)(h3:j'<=m')(h4:m'<=v.cap){k:SlV->HP}
  (hk: ∀s:SlV,s.len=j'-i'->s.cap=m'-i'->Sl A s sz ((vs.drop (i'*sz)).take ((j'-i')*sz))->k s L):slc v i j m sz k L:=
 K7 hi hj hm h1 h3 h4 (hk _ (by simp[Q0]) (by simp[Q0]) (Sl.slc h aC h1 h2 h3))
theorem slc_el{α:Type}{enc:α->List Value}{sz:Nat}(aC: ∀x,(enc x).length=sz)(bH:0<sz){v:SlV}{l:List α}(h:Sl A v sz (l.flatMap enc)){i j m:Int}{i' j' m':Nat}(hi:i=i')(hj:j=j')(hm:m=m')(h1:i'<=j')(h2:j'<=l.length)(h3:j'<=m')(h4:m'<=v.cap){k:SlV->HP}
  (hk: ∀s:SlV,s.len=j'-i'->s.cap=m'-i'->Sl A s sz (((l.drop i').take (j'-i')).flatMap enc)->k s L):slc v i j m sz k L:=
 slc_sl h bH hi hj hm h1 (by rw[h.els_len aC bH];exact h2) h3 h4 fun s a b c=>hk s a b (by rw[Ay8 aC]at c;exact c)
theorem Cu6{t t2 ty e:TypeId}{sz bytes:Nat}{z:List Value}(hT:V4 P t e sz bytes z)(h2:Ax5 P t2){v:SlV}{vs ws:List Value}{n:Nat}{seg:A4}(X Y:A4)(own:Own v sz e vs seg)(hL:L=X++seg++Y)(hn:n*sz=ws.length)(gB:ws.all T6=true)
  (hb:(v.len+n)*bytes<=140737488355328) {k:SlV->HP} (hk: ∀v' seg',v'.len=v.len+n->Own v' sz e (vs++ws) seg'->k v' (X++seg'++Y)):apv P t t2 ty e v n ws k L:=by
 subst hL;intro m;refine Az5.mono (E6 hT h2 ((m,Obj.cells ws.toArray e)::X) Y own (by simp) (n:=n) (ws:=ws) (Src.sl (v:=⟨some ⟨m,0,none⟩,n,n⟩) ⟨hn,Dq6 _,.inr ⟨_,rfl,ldB Dq7 (by simp)⟩⟩) gB hb (k:=fun r L'=> ∃L0,L'=(m,Obj.cells ws.toArray e)::L0/\k r.1 L0) fun v' seg' h1 h2=>⟨_,rfl,hk v' seg' h1 h2⟩) ?_;rintro r L' ⟨x,rfl,L0,rfl,kK⟩;exact⟨x.1,L0,rfl,Dq8 _,kK⟩
open Classical in
noncomputable def cnt(L:A4)(z:Nat×Obj):Nat:=L.count z
open Classical in
noncomputable def cn1(p z:Nat×Obj):Nat:=if p==z then 1 else 0
open Classical in
theorem B4(X Y:A4)(z:Nat×Obj):cnt (X++Y) z=cnt X z+cnt Y z:=by unfold cnt;exact Du0
open Classical in
theorem C5(p:Nat×Obj)(Y:A4)(z:Nat×Obj):cnt (p::Y) z=cnt Y z+cn1 p z:=by unfold cnt cn1;exact Dv0
open Classical in
theorem D5(z:Nat×Obj):cnt [] z=0:=by unfold cnt;exact Dv7
theorem pc{X Y:A4}(h: ∀z,cnt X z=cnt Y z):X.Perm Y:=by
 classical
 rw[Dt9];intro z;have:=h z;unfold cnt at this;exact this
open Classical in
theorem pcn{X Y:A4}(h:X.Perm Y)(z:Nat×Obj):cnt X z=cnt Y z:=by
 unfold cnt;exact h.count_eq z
theorem Ca9{Y:A4}(h:L.Perm (A++Y)): ∀p∈A,p∈L:=fun p hp=>h.symm.subset (by simp[hp])
theorem Am5{t t2 ty e:TypeId}{sz bytes:Nat}{z:List Value}(hT:V4 P t e sz bytes z)(h2:Ax5 P t2){v:SlV}{vs ws:List Value}{n:Nat}{seg Y:A4}(own:Own v sz e vs seg)(hL:L.Perm (seg++Y))(hn:n*sz=ws.length)(gB:ws.all T6=true)
  (hb:(v.len+n)*bytes<=140737488355328) {k:SlV->HP} (hk: ∀v' seg',v'.len=v.len+n->Own v' sz e (vs++ws) seg'->k v' (seg'++Y)):apv P t t2 ty e v n ws k L:=fun m=>
 Az5.permL (hL.cons _) (Cu6 hT h2 [] Y own rfl hn gB hb hk m)
theorem app_pm{t t2 ty e:TypeId}{sz bytes:Nat}{z:List Value}(hT:V4 P t e sz bytes z)(h2:Ax5 P t2){v:SlV}{vs ws:List Value}{x:Value}{n:Nat}{seg Y:A4}(own:Own v sz e vs seg)(hL:L.Perm (seg++Y))(src:Src L x sz n ws)(gB:ws.all T6=true)
  (hb:(v.len+n)*bytes<=140737488355328) {k:RsV [.lf .sl]->HP} (hk: ∀v' seg',v'.len=v.len+n->Own v' sz e (vs++ws) seg'->k (v',()) (seg'++Y)):smW P (Builtin.append_ #[t,t2] ty #[.slice v.a v.len v.cap,x]) [.lf .sl] k L:=by
 refine Az5.permL hL (E6 hT h2 [] Y own rfl (n:=n) (ws:=ws) ?_ gB hb hk);cases src with
 |sl h=>exact .sl (h.mono fun p hq=>hL.subset hq)
 |str s=>exact .str s
theorem B97{ad:Addr}{ws:List Value}{k:HP}{n off:Nat}{c:Array Value}{T:TypeId}{fz:Nat×Nat}{Y:A4}(hL:L.Perm ((n,Obj.cells c T fz)::Y))(dR:ad=⟨n,off,none⟩)(aC:off+ws.length<=c.size)
  (eP:fz.2<=fz.1\/c.size<=fz.1) (c':Array Value) (hc:wr c off ws=c') (hk: ∀L',L'.Perm ((n,Obj.cells c' T fz)::Y)->k L'):st ad ws k L:=by
 obtain⟨A2,B2,rfl⟩:=D31 (hL.symm.subset (Dq7));exact E4 A2 B2 dR rfl aC eP c' hc (hk _ (Dw4.trans (((D80 _).1 (Dw4.symm.trans hL)).cons _)))
theorem Au8{f:FuncId}{args:Array Value}{rs:List Sh}{k:RsV rs->HP}{K:Value->HP}(h:CallF P f args A K)(hp:L.Perm A)(hk: ∀v L',K v L'-> ∃r,v=Ah7 rs r/\k r L'):cl P f args rs k L:=
 S8 (CallF.perm hp.symm h) fun v L' _ hK=>hk v L' hK
theorem Bd3{n:Int}(h: -9223372036854775808<=n/\n<=9223372036854775807):S0 .i64 n:=by
 show(Lit.int .i64 n).wf=true;simp only[Lit.wf,Dv4,Dy0];exact h
theorem C9.hd{ad:Addr}{v:Value}{vs:List Value}(h:C9 ad (v::vs) L):C9 ad [v] L:=h.pre fun i u hu=>by
 cases i with
 |zero=>exact hu
 |succ i=>simp at hu
theorem Bf9{X:A4}: ∀p∈A,p∈X++A:=fun _ h=>Du2 _ h
theorem mem_l{X:A4}: ∀p∈A,p∈A++X:=fun _ h=>Ds8 _ h
theorem B6{p:Prop}[Decidable p]{A B:HP}(h1:p->A L)(h2: ¬p->B L):ifB (decide p) A B L:=C0 h1 h2
end
set_option linter.unusedSectionVars false
section
variable {P:Program} {L A Y:A4}
theorem own_st{v:SlV}{sz:Nat}{T:TypeId}{vs ws:List Value}{seg:A4}(own:Own v sz T vs seg){p:Nat}(hp:p+ws.length<=vs.length)(gB:0<ws.length){a ad:Addr}(ha:v.a=some a)(dR:ad=Addr.add a p){k:HP}
  (hL:L.Perm (seg++Y)) (hk: ∀seg' L',L'.Perm (seg'++Y)->Own v sz T (A77 vs p ws) seg'->k L'):st ad ws k L:=by
 subst dR;rcases own.row with⟨cQ,_,_⟩|⟨b,off,c,fz,cQ,rfl,aC,eP,hc⟩
 ·rw[ha]at cQ;cases cQ
 ·rw[ha]at cQ;obtain rfl:=Dq9 cQ;have hC:=own.len;have aU:=own.cap;have bS:=Du9 sz aU;refine B97 (n:=b) (off:=off+p) (c:=c) (T:=T) (fz:=fz) (Y:=Y) hL (P2 (ad:=⟨b,off,none⟩) rfl p) (by omega) (by omega) _ rfl fun L' eY=>?_;refine hk [(b,Obj.cells (wr c (off+p) ws) T fz)] L' eY ⟨by rw[Be4 _ _ _ hp];exact hC,aU,.inr ⟨b,off,_,fz,ha,rfl,by rw[N7];exact aC,by rw[N7];exact eP,fun i u hu=>?_⟩⟩;rw[Ap2 _ _ _ hp]at hu;rw[Ag1 _ _ _ _ (by omega)];split at hu
  ·rw[Dq5 (by omega),show off+i-(off+p)=i-p by omega];exact hu
  ·rw[Dq4 (by omega)];exact hc i u hu
theorem C14{α:Type}{enc:α->List Value}{sz:Nat}(aC: ∀x,(enc x).length=sz)(bH:0<sz){l:List α}{n:Nat}(hn:n<l.length)(x:α):A77 (l.flatMap enc) (n*sz) (enc x)=(l.set n x).flatMap enc:=by
 have fM:=O5 aC l;have nO:=O5 aC (l.set n x);rw[Dz4]at nO;have h0:n*sz+sz<=l.length*sz:=by rw[<-Dx9];exact Du9 sz hn
 apply D51;intro i;rw[Ap2 _ _ _ (by rw[aC,fM];exact h0),aC];by_cases hi:i<l.length*sz
 ·have hq:i/sz<l.length:=by rw[Nat.div_lt_iff_lt_mul bH];exact hi
  have hr:i%sz<sz:=Dx6 _ bH;have eV:i=i/sz*sz+i%sz:=by rw[D77];exact(Nat.div_add_mod i sz).symm
  generalize i/sz=q at hq eV;generalize i%sz=r at hr eV;subst eV;rw[Bh9 aC (l.set n x) q (by simpa using hq) r hr,Bh9 aC l q hq r hr,List.getElem_set];by_cases bt:n=q
  ·subst bt;rw[Dq5 (by omega),Dq5 rfl];congr 1;omega
  ·rw[Dq4,Dq4 bt];intro hc;rcases Dw8 n q with h|h
   ·have:=Du9 sz (show n+1<=q by omega);rw[Dx9]at this;omega
   ·have:=Du9 sz (show q+1<=n by omega);rw[Dx9]at this;omega
 ·rw[Dq4 (by omega),D12 (by omega),D12 (by omega)]
theorem A58{α:Type}{enc:α->List Value}{sz:Nat}(aC: ∀x,(enc x).length=sz)(bH:0<sz){v:SlV}{T:TypeId}{l:List α}{seg:A4}(own:Own v sz T (l.flatMap enc) seg)(hs: ∀p∈seg,p∈L){i:Int}{n:Nat}(hi:i=n)(hn:n<l.length){k:Addr->HP}
  (hk: ∀b,v.a=some b->C9 (Addr.add b (n*sz)) (enc l[n]) L->k (Addr.add b (n*sz)) L):elp v.a v.len i sz k L:=by
 subst hi;obtain⟨a,ha,hl⟩:=own.sl.el aC bH hn;refine A5 ha (D9 (by omega) (by have:=own.sl.els_len aC bH;omega) ?_);rw[Dr0];exact hk a ha (hl.mono hs)
theorem Cg1{α:Type}{enc:α->List Value}{sz:Nat}(aC: ∀x,(enc x).length=sz)(bH:0<sz){v:SlV}{T:TypeId}{l:List α}{seg:A4}(own:Own v sz T (l.flatMap enc) seg){b:Addr}(hb:v.a=some b){n:Nat}(hn:n<l.length)(x:α)(hL:L.Perm (seg++Y)){k:HP}
  (hk: ∀seg' L',L'.Perm (seg'++Y)->Own v sz T ((l.set n x).flatMap enc) seg'->k L'):st (Addr.add b (n*sz)) (enc x) k L:=by
 have h0:n*sz+sz<=l.length*sz:=by rw[<-Dx9];exact Du9 sz hn
 refine own_st own (p:=n*sz) (by rw[aC,O5 aC];exact h0) (by rw[aC];exact bH) hb rfl hL fun seg' L' eY o=>hk seg' L' eY ?_;rw[C14 aC bH hn]at o;exact o
variable {κ:Type} [DecidableEq κ]
theorem Ao3{t kt et:TypeId}{kv:κ->Value}{z:Value}(hT:Cv5 P t kt et kv z){r:Nat}{es:Array MapEntry}{clock:Nat}{m:List (κ×Value)}(hL:L.Perm ((r,Obj.map es clock)::Y))(h:Mp kv es m)(k:κ)(v:Value){K:HP}
  (hk: ∀es' clock' L',Mp kv es' (A79 m k v)->L'.Perm ((r,Obj.map es' clock')::Y)->K L'):smU P (Instr.mapUpdate t (.map (some r)) (kv k) v) K L:=by
 obtain⟨A2,B2,rfl⟩:=D31 (hL.symm.subset Dq7);refine Bl7 hT A2 B2 rfl h k v fun es' clock' hm=>hk es' clock' _ hm ?_;exact Dw4.trans (((D80 _).1 (Dw4.symm.trans hL)).cons _)
theorem Bt6{t t2 ty kt et:TypeId}{kv:κ->Value}{z:Value}(hT:Cv5 P t kt et kv z){r:Nat}{es:Array MapEntry}{clock:Nat}{m:List (κ×Value)}(hL:L.Perm ((r,Obj.map es clock)::Y))(h:Mp kv es m)(k:κ){K:RsV []->HP}
  (hk: ∀es' clock' L',Mp kv es' (Bl0 m k)->L'.Perm ((r,Obj.map es' clock')::Y)->K () L'):smW P (Builtin.delete_ #[t,t2] ty #[.map (some r),kv k]) [] K L:=by
 obtain⟨A2,B2,rfl⟩:=D31 (hL.symm.subset Dq7);refine Bt7 hT A2 B2 rfl h k fun es' clock' hm=>hk es' clock' _ hm ?_;exact Dw4.trans (((D80 _).1 (Dw4.symm.trans hL)).cons _)
theorem C25(k:κ):A36 ([]:List (κ×Value)) k=none:=rfl
theorem S4(p:κ×Value)(m:List (κ×Value))(k:κ):A36 (p::m) k=if k=p.1 then some p.2 else A36 m k:=by
 unfold A36;by_cases h:k=p.1
 ·rw[Dq5 h,D39 (by simpa using h)];rfl
 ·rw[Dq4 h,D53 (by simpa using h)]
theorem A35: ∀(m:List (κ×Value)) (k:κ) (v:Value) (k':κ),A36 (A79 m k v) k'=if k'=k then some v else A36 m k'
 |[],k,v,k'=>by rw[A79,S4]
 |p::r,k,v,k'=>by
  rw[A79];by_cases h:k=p.1
  ·rw[Dq5 h,S4,S4];by_cases h2:k'=k
   ·subst h2;simp
   ·simp only[h2,if_false];rw[Dq4 (fun e=>h2 (e.trans h.symm))]
  ·rw[Dq4 h,S4,S4,A35 r k v k'];by_cases h2:k'=p.1
   ·rw[Dq5 h2,Dq5 h2,Dq4 (fun e=>h (e.symm.trans h2))]
   ·rw[Dq4 h2,Dq4 h2]
theorem Bp9: ∀(m:List (κ×Value)) (k:κ) (v:Value),(m.map Prod.fst).Nodup->((A79 m k v).map Prod.fst).Nodup/\ ∀x,x∈(A79 m k v).map Prod.fst↔x=k\/x∈m.map Prod.fst
 |[],k,v,_=>by simp[A79]
 |p::r,k,v,h=>by
  rw[A79];rw[Ds3,Dv9]at h;by_cases hk:k=p.1
  ·rw[Dq5 hk];subst hk;refine⟨by simpa using h,fun x=>by simp⟩
  ·rw[Dq4 hk];obtain⟨h1,h2⟩:=Bp9 r k v h.2;refine⟨?_,fun x=>?_⟩
   ·rw[Ds3,Dv9];exact⟨fun hx=>((h2 _).1 hx).elim (fun e=>hk e.symm) h.1,h1⟩
   ·rw[Ds3,Dt5,h2,Ds3,Dt5];constructor
    ·rintro(a|a|a)<;>simp[a]
    ·rintro(a|a|a)<;>simp[a]
theorem Cm2{m:List (κ×Value)}{k:κ}(h:k∉m.map Prod.fst):A36 m k=none:=by
 induction m with
 |nil=>rfl
 |cons p r ih=>
  rw[Ds3,Dt5,Du4]at h;rw[S4,Dq4 h.1,ih h.2]
theorem Bq0: ∀(m:List (κ×Value)) (k k':κ),(m.map Prod.fst).Nodup->A36 (Bl0 m k) k'=if k'=k then none else A36 m k'
 |[],k,k',_=>by simp[Bl0,C25]
 |p::r,k,k',h=>by
  rw[Bl0];rw[Ds3,Dv9]at h;by_cases hk:k=p.1
  ·rw[Dq5 hk,S4];by_cases h2:k'=k
   ·rw[Dq5 h2,h2,hk];exact Cm2 h.1
   ·rw[Dq4 h2,Dq4 (fun e=>h2 (e.trans hk.symm))]
  ·rw[Dq4 hk,S4,S4,Bq0 r k k' h.2];by_cases h2:k'=p.1
   ·rw[Dq5 h2,Dq5 h2,Dq4 (fun e=>hk (e.symm.trans h2))]
   ·rw[Dq4 h2,Dq4 h2]
theorem Bq2: ∀(m:List (κ×Value)) (k:κ),(m.map Prod.fst).Nodup->((Bl0 m k).map Prod.fst).Nodup/\ ∀x,x∈(Bl0 m k).map Prod.fst->x∈m.map Prod.fst
 |[],k,_=>by simp[Bl0]
 |p::r,k,h=>by
  rw[Bl0];rw[Ds3,Dv9]at h;by_cases hk:k=p.1
  ·rw[Dq5 hk];exact⟨h.2,fun x hx=>by simp[hx]⟩
  ·rw[Dq4 hk];obtain⟨h1,h2⟩:=Bq2 r k h.2;refine⟨?_,fun x hx=>?_⟩
   ·rw[Ds3,Dv9];exact⟨fun hx=>h.1 (h2 _ hx),h1⟩
   ·rw[Ds3,Dt5]at hx⊢;exact hx.imp id (h2 x)
end
@[reducible] def _root_.Go.Value.i (n : Int) : Value := .int .i64 n
@[reducible] def _root_.Go.Value.sv (v : SlV) : Value := .slice v.a v.len v.cap
@[reducible] def _root_.Go.Value.q (p : Option Addr) : Value := .pointer p
@[reducible] def _root_.Go.Value.t (vs : Array Value) : Value := .tuple vs
@[reducible] def _root_.Go.Value.w (s : ByteArray) : Value := .string s
@[reducible] def _root_.Go.Value.b (b : Bool) : Value := .bool b
@[reducible] def lI : Sh := .lf (.int .i64)
def Hn:D1:=⟨[],[],[]⟩
@[reducible] def _root_.Nat.z (n : Nat) : Addr := ⟨n, 0, none⟩
@[reducible] def _root_.Go.Value.p (n : Nat) : Value := .pointer (some n.z)
@[reducible] def _root_.Go.HL.Z1 : Sh := .agg [.int .i64, .int .i64, .int .i64]
@[reducible] def _root_.Go.HL.Z2 : Sh := .agg [.int .i64, .int .i64, .int .i64, .int .i64, .int .i64, .int .i64, .int .i64, .int .i64, .int .i64, .int .i64, .int .i64]
@[reducible] def _root_.Go.HL.Z3 : Sh := .agg [.int .i64, .int .i64, .int .i64, .int .i64, .int .i64]
@[reducible] def _root_.Go.HL.Z4 : Sh := .agg [.int .i64, .int .i64, .int .i64, .int .i64]
@[reducible] def _root_.Go.HL.Z5 : Sh := .agg [.int .i64, .int .i64, .sl]
@[reducible] def _root_.Go.HL.Z6 : Sh := .agg [.str, .int .i64, .int .i64, .int .i64]
@[reducible] def _root_.Go.HL.Z7 : Sh := .agg [.int .i64, .bool, .bool]
@[reducible] def _root_.Go.HL.Z8 : Sh := .agg [.int .u8, .int .u8, .int .u8, .int .u8, .int .u8, .int .u8, .int .u8, .int .u8]
@[reducible] def _root_.Go.HL.Z9 : Sh := .agg [.int .i64, .int .i64]
@[reducible] def _root_.Go.HL.Z10 : Sh := .agg [.int .i64, .str, .sl, .int .i64, .int .i64]
@[reducible] def _root_.Go.HL.Z11 : Sh := .agg [.int .i64, .bool, .sl]
@[reducible] def _root_.Go.HL.Z12 : Sh := .agg [.sl, .sl, .int .i64]
@[reducible] def _root_.Go.HL.Z13 : Sh := .agg [.str, .sl, .int .i64]
@[reducible] def _root_.Go.HL.ki11 {α : Type} (x : Int × Int × Int × Int × Int × Int × Int × Int × Int × Int × Int × α) : Array Value := #[.i x.1, .i x.2.1, .i x.2.2.1, .i x.2.2.2.1, .i x.2.2.2.2.1, .i x.2.2.2.2.2.1, .i x.2.2.2.2.2.2.1, .i x.2.2.2.2.2.2.2.1, .i x.2.2.2.2.2.2.2.2.1, .i x.2.2.2.2.2.2.2.2.2.1, .i x.2.2.2.2.2.2.2.2.2.2.1]
@[reducible] def _root_.Go.HL.kiwvii {α : Type} (x : Int × ByteArray × SlV × Int × Int × α) : Array Value := #[.i x.1, .w x.2.1, .sv x.2.2.1, .i x.2.2.2.1, .i x.2.2.2.2.1]
@[reducible] def _root_.Go.HL.ki4 {α : Type} (x : Int × Int × Int × Int × α) : Array Value := #[.i x.1, .i x.2.1, .i x.2.2.1, .i x.2.2.2.1]
@[reducible] def _root_.Go.HL.ki3 {α : Type} (x : Int × Int × Int × α) : Array Value := #[.i x.1, .i x.2.1, .i x.2.2.1]
@[reducible] def _root_.Go.HL.kii {α : Type} (x : Int × Int × α) : Array Value := #[.i x.1, .i x.2.1]
@[reducible] def _root_.Go.HL.kvvi {α : Type} (x : SlV × SlV × Int × α) : Array Value := #[.sv x.1, .sv x.2.1, .i x.2.2.1]
@[reducible] def _root_.Go.HL.kwi3 {α : Type} (x : ByteArray × Int × Int × Int × α) : Array Value := #[.w x.1, .i x.2.1, .i x.2.2.1, .i x.2.2.2.1]
@[reducible] def _root_.Go.HL.kwvi {α : Type} (x : ByteArray × SlV × Int × α) : Array Value := #[.w x.1, .sv x.2.1, .i x.2.2.1]
@[reducible] def _root_.Go.HL.kibb {α : Type} (x : Int × Bool × Bool × α) : Array Value := #[.i x.1, .b x.2.1, .b x.2.2.1]
@[reducible] def _root_.Go.HL.ki5 {α : Type} (x : Int × Int × Int × Int × Int × α) : Array Value := #[.i x.1, .i x.2.1, .i x.2.2.1, .i x.2.2.2.1, .i x.2.2.2.2.1]
@[reducible] def _root_.Go.HL.kiiv {α : Type} (x : Int × Int × SlV × α) : Array Value := #[.i x.1, .i x.2.1, .sv x.2.2.1]
@[reducible] def _root_.Go.HL.kibv {α : Type} (x : Int × Bool × SlV × α) : Array Value := #[.i x.1, .b x.2.1, .sv x.2.2.1]
set_option maxRecDepth 100000
end Go.HL
namespace Go.Proofs.YtbaoieipijmakaaGreatDoor
open Go.HL
noncomputable abbrev PP:Program:=Tryz.prog
theorem noNum:A67 PP:=by unfold A67;kernel_rfl
theorem mixed:PP.follows .mixedOrders=true:=by kernel_rfl
abbrev HX:=Value->HP
def CF(f:FuncId)(a:List Value)(t:HX->HP):Prop:= ∃H fn,PP.funcs[f]?=some fn/\A54 PP H fn a=t
theorem CF.mk{f:FuncId}{fn:Func}{a:List Value}{t:HX->HP}(H:D1)(h:PP.funcs[f]?=some fn)(e:A54 PP H fn a=t):CF f a t:=⟨H,fn,h,e⟩
theorem CF.c{f:FuncId}{a:List Value}{t:HX->HP}{K:HX}{L:A4}(h:CF f a t)(k:t (HL.Ends K) L):CallF PP f a.toArray L K:=by
 obtain⟨H,fn,hf,he⟩:=h;exact CallF.of noNum mixed hf (congrFun he _) k
theorem CF.r{f:FuncId}{a:List Value}{t:HX->HP}{v:Value}{L:A4}(h:CF f a t)(k:t (HL.Ends fun v' L'=>v'=v/\L'=L) L):Reads PP f a.toArray L v:=CF.c h k
structure CC(f:FuncId)(a:Array Value)(t:HX->HP):Prop where
 c: ∀{K:HX} {L:A4},t (HL.Ends K) L->CallF PP f a L K
theorem CF.cc{f:FuncId}{a:List Value}{s t:HX->HP}(h:CF f a t)(k: ∀K,Fr [] (s (HL.Ends K)) (t (HL.Ends K))):CC f a.toArray s:=⟨fun x=>CF.c h (fr_run (k _) x)⟩
def h3:D1:=⟨[(0,[(9,.lf .ptr),(11,lI),(12,lI)]),(2,[(15,.lf .bool),(16,lI)])],[(4,[]),(10,[(11,lI)]),(25,[]),(27,[])],[(18,[0,1,2,3,4,5,6,7,8,11,12,13,9,10,14,15,16]),(10,[1,2,3,4,5,7,0,6,8,9])]⟩
theorem e3(x0:ShV Z2)(x1:SlV)(x2:ByteArray)(x3:SlV):CF 3 [.agg (ki11 x0),.sv x1,.w x2,.sv x3] fun K=>
  nw (.cells (ki11 x0) 25) fun n1=>
  ld n1.z Z2 fun v1=>
  cl PP 8 #[.agg (ki11 v1)] [.lf .ptr,.lf .ptr] fun r1=>
  jn (fun y1:RsV []=>
   lp [.lf .ptr,lI,lI] (r1.1,0,0,()) fun z1 go1=>
    ifB (decide ((z1.2.2.1:Int)<x1.len)) (
     jn (fun y2:RsV [lI]=>
      A8 x1.a fun a3=>
      ixn z1.2.2.1 x1.len<|
      ld n1.z Z2 fun v4=>
      ld (a3.add (z1.2.2.1.toNat*5)) Z10 fun v5=>
      cl PP 11 #[.agg (ki11 v4),.q z1.1,.q r1.2.1,.agg (kiwvii v5),.i y2.1] [.lf .ptr] fun r8=>
      ifB (Option.isNone r8.1) (
       K (.b false)) (
       go1 (r8.1,y2.1,IntKind.i64.wrap (z1.2.2.1+1),()))) fun j2=>
     A8 x1.a fun a1=>
      ixn z1.2.2.1 x1.len<|
      ld (a1.add (z1.2.2.1.toNat*5)) (lI) fun v2=>
      ifB ((v2:Int)==4) (
       A8 x1.a fun a2=>
       ixn z1.2.2.1 x1.len<|
       ld (Addr.add (a2.add (z1.2.2.1.toNat*5)) 3) (lI) fun v3=>
       j2 (v3,())) (
       j2 (z1.2.1,()))) (
     cl PP 12 #[.q r1.2.1,.i 0,.i 0] [] fun r9=>
     cl PP 13 #[.q z1.1,.w x2] [.lf .bool] fun r10=>
     cl PP 14 #[.q z1.1] [lI] fun r11=>
     lp [.lf .bool,lI] (false,0,()) fun z2 go2=>
      ld n1.z (lI) fun v6=>
      ifB (decide ((z2.2.1:Int)<v6)) (
       ifB z2.1 (
        go2 (true,IntKind.i64.wrap (z2.2.1+1),())) (
        cl PP 15 #[.q r1.2.1,.i z2.2.1] [.lf .bool] fun r12=>
        ifB r12.1 (
         go2 (true,IntKind.i64.wrap (z2.2.1+1),())) (
         ld (Addr.add n1.z 3) (lI) fun v7=>
         cl PP 16 #[.q r1.2.1,.i z2.2.1] [lI] fun r13=>
         keep (C9 (Addr.add n1.z 3) [.i v7])<|
         go2 (decide ((IntKind.i64.wrap (r13.1+1):Int)≥v7),IntKind.i64.wrap (z2.2.1+1),())))) (
       cl PP 17 #[.q z1.1,.w x2,.sv x3] [lI] fun r14=>
       ifB ((r14.1:Int) !=0) (
        ifB ((r14.1:Int)==11) (
         cl PP 18 #[.q r1.2.1] [.lf .bool] fun r15=>
         ifB r15.1 (
          cl PP 19 #[.q z1.1,.w x2] [lI] fun r16=>
          ifB ((r16.1:Int)==0) (
           cl PP 10 #[] [.lf .bool] fun r17=>
           K (.b r17.1)) (
           K (.b false))) (
          ifB ((r14.1:Int)==14) (
           cl PP 19 #[.q z1.1,.w x2] [lI] fun r18=>
           ifB ((r18.1:Int)==0) (
            cl PP 10 #[] [.lf .bool] fun r19=>
            K (.b r19.1)) (
            K (.b false))) (
           K (.b false)))) (
         ifB ((r14.1:Int)==14) (
          cl PP 19 #[.q z1.1,.w x2] [lI] fun r20=>
          ifB ((r20.1:Int)==0) (
           cl PP 10 #[] [.lf .bool] fun r21=>
           K (.b r21.1)) (
           K (.b false))) (
          K (.b false)))) (
        cl PP 20 #[.q z1.1,.w x2] [.lf .sl,lI] fun r22=>
        jn (fun y3:RsV []=>
         jn (fun y4:RsV []=>
          ifB ((r22.2.1:Int)==0) (
           cl PP 21 #[.sv r22.1,.sv x3] [.lf .bool] fun r24=>
           ifB r24.1 (
            cl PP 10 #[] [.lf .bool] fun r25=>
            K (.b r25.1)) (
            ifB ((r22.2.1:Int)==8) (
             ifB ((r22.1.len:Int)==0) (
              cl PP 10 #[] [.lf .bool] fun r26=>
              K (.b r26.1)) (
              K (.b false))) (
             K (.b false)))) (
           ifB ((r22.2.1:Int)==8) (
            ifB ((r22.1.len:Int)==0) (
             cl PP 10 #[] [.lf .bool] fun r27=>
             K (.b r27.1)) (
             K (.b false))) (
            K (.b false)))) fun j4=>
         ld (Addr.add n1.z 6) (lI) fun v9=>
          ifB (decide ((IntKind.i64.wrap (x2.size+x3.len):Int)<=v9)) (
           ifB ((r22.2.1:Int) !=0) (
            K (.b false)) (
            j4 (()))) (
           j4 (()))) fun j3=>
        ifB r10.1 (
          ifB (!z2.1) (
           ld (Addr.add n1.z 2) (lI) fun v8=>
           ifB (decide ((r11.1:Int)≥(IntKind.i64.wrap (10*v8)))) (
            cl PP 19 #[.q z1.1,.w x2] [lI] fun r23=>
            ifB ((r23.1:Int) !=2) (
             K (.b false)) (
             j3 (()))) (
            j3 (()))) (
           j3 (()))) (
          j3 (())))))) fun j1=>
  ifB (Option.isNone r1.1) (
    cl PP 10 #[] [.lf .bool] fun r2=>
    K (.b r2.1)) (
    cl PP 9 #[.sv x1,.i 150,.i 700] [.lf .bool] fun r3=>
    ifB (!r3.1) (
     cl PP 10 #[] [.lf .bool] fun r4=>
     K (.b r4.1)) (
     ifB (decide ((x2.size:Int)>255)) (
      cl PP 10 #[] [.lf .bool] fun r5=>
      K (.b r5.1)) (
      ifB (decide ((x2.size:Int)<1)) (
       cl PP 10 #[] [.lf .bool] fun r6=>
       K (.b r6.1)) (
       ifB (decide ((x3.len:Int)>700)) (
        cl PP 10 #[] [.lf .bool] fun r7=>
        K (.b r7.1)) (
        j1 (()))))))
  :=CF.mk h3 Tryz.func3 (by kernel_rfl)
theorem e8(x0:ShV Z2):CF 8 [.agg (ki11 x0)] fun K=>
  nw (.cells (ki11 x0) 25) fun n1=>
  ld n1.z Z4 fun v1=>
  cl PP 35 #[.agg (ki4 v1)] [.lf .ptr,lI] fun r1=>
  ifB ((r1.2.1:Int) !=0) (
   K (.t #[.q none,.q none])) (
   ld n1.z Z2 fun v2=>
   cl PP 36 #[.agg (ki11 v2),.q r1.1,.i 0] [.lf .ptr,lI] fun r2=>
   ifB ((r2.2.1:Int) !=0) (
    K (.t #[.q none,.q none])) (
    K (.t #[.q r2.1,.q r1.1])))
  :=CF.mk Hn Tryz.func8 (by kernel_rfl)
def h9:D1:=⟨[(0,[(7,lI)])],[(4,[]),(6,[])],[]⟩
theorem e9(x0:SlV)(x1:Int)(x2:Int):CF 9 [.sv x0,.i x1,.i x2] fun K=>
  jn (fun y1:RsV []=>
   K (.b (decide ((x0.len:Int)<=x1)))) fun j1=>
  lp [lI] (0,()) fun z1 go1=>
    jn (fun y2:RsV []=>
     A8 x0.a fun a1=>
     ixn z1.1 x0.len<|
     ld (Addr.add (a1.add (z1.1.toNat*5)) 1) (.lf .str) fun v1=>
     ifB (decide ((v1.size:Int)>x2)) (
      K (.b false)) (
      A8 x0.a fun a2=>
      ixn z1.1 x0.len<|
      ld (Addr.add (a2.add (z1.1.toNat*5)) 2) (.lf .sl) fun v2=>
      ifB (decide ((v2.len:Int)>x2)) (
       K (.b false)) (
       go1 (IntKind.i64.wrap (z1.1+1),())))) fun j2=>
    ifB (decide ((z1.1:Int)<x0.len)) (
      ifB (decide ((z1.1:Int)<=x1)) (
       j2 (())) (
       j1 (()))) (
      j1 (()))
  :=CF.mk h9 Tryz.func9 (by kernel_rfl)
def h10:D1:=⟨[],[(6,[])],[]⟩
theorem e10:CF 10 [] fun K=>
  cl PP 37 #[] [Z2] fun r1=>
  cl PP 35 #[.agg (ki4 r1.1)] [.lf .ptr,lI] fun r2=>
  cl PP 37 #[] [Z2] fun r3=>
  cl PP 36 #[.agg (ki11 r3.1),.q r2.1,.i 0] [.lf .ptr,lI] fun r4=>
  cl PP 37 #[] [Z2] fun r5=>
  cl PP 36 #[.agg (ki11 r5.1),.q none,.i 0] [.lf .ptr,lI] fun r6=>
  jn (fun y1:RsV []=>
   cl PP 24 #[.q r4.1,.i 9] [] fun r7=>
   nw (.cells #[.int .u8 49,.int .u8 50,.int .u8 51,.int .u8 52,.int .u8 53] 5) fun n1=>
   smW PP (convert 27 27 (.slice (some n1.z) 5 5)) [.lf .sl] fun v1=>
   cl PP 17 #[.q r4.1,.w (ByteArray.mk #[97]),.sv v1.1] [lI] fun r8=>
   nw (.cells #[.int .u8 49,.int .u8 50,.int .u8 51,.int .u8 52,.int .u8 53] 5) fun n2=>
   smW PP (convert 27 27 (.slice (some n2.z) 5 5)) [.lf .sl] fun v2=>
   cl PP 17 #[.q r4.1,.w (ByteArray.mk #[98]),.sv v2.1] [lI] fun r9=>
   nw (.cells #[.int .u8 49] 5) fun n3=>
   smW PP (convert 27 27 (.slice (some n3.z) 1 1)) [.lf .sl] fun v3=>
   cl PP 17 #[.q r4.1,.w (ByteArray.mk #[99]),.sv v3.1] [lI] fun r10=>
   cl PP 13 #[.q r4.1,.w (ByteArray.mk #[97])] [.lf .bool] fun r11=>
   cl PP 19 #[.q r4.1,.w (ByteArray.mk #[98])] [lI] fun r12=>
   nw (.cells #[.int .u8 49] 5) fun n4=>
   smW PP (convert 27 27 (.slice (some n4.z) 1 1)) [.lf .sl] fun v4=>
   cl PP 17 #[.q r4.1,.w (ByteArray.mk #[97]),.sv v4.1] [lI] fun r13=>
   cl PP 25 #[.q r4.1,.w (ByteArray.mk #[97])] [.lf .sl,lI] fun r14=>
   cl PP 26 #[.q r4.1,.w (ByteArray.mk #[97])] [.lf .bool,lI] fun r15=>
   cl PP 31 #[.q r4.1] [.lf .sl] fun r16=>
   cl PP 27 #[.q r4.1] [lI] fun r17=>
   cl PP 25 #[.q r4.1,.w (ByteArray.mk #[97])] [.lf .sl,lI] fun r18=>
   ifB ((r8.1:Int)==0) (
    ifB ((r9.1:Int)==0) (
     ifB ((r10.1:Int)==0) (
      ifB r11.1 (
       ifB ((r12.1:Int)==1) (
        ifB ((r13.1:Int)==0) (
         smR PP (Conv.bytesToString (.sv r14.1)) [.lf .str] fun v5=>
         ifB (ByteArray.toList v5.1==ByteArray.toList (ByteArray.mk #[49])) (
          ifB ((r14.2.1:Int)==0) (
           ifB r15.1 (
            ifB ((r15.2.1:Int)==0) (
             ifB ((r16.1.len:Int)==1) (
              ifB ((r17.1:Int)==0) (
               cl PP 31 #[.q r4.1] [.lf .sl] fun r19=>
               ifB ((r19.1.len:Int)==0) (
                ifB ((r18.2.1:Int)==8) (
                 cl PP 27 #[.q none] [lI] fun r20=>
                 ifB ((r20.1:Int)==1) (
                  cl PP 30 #[.q r4.1] [lI] fun r21=>
                  ifB ((r21.1:Int)==2) (
                   cl PP 29 #[.q r4.1] [lI] fun r22=>
                   ifB ((r22.1:Int)==0) (
                    cl PP 14 #[.q r4.1] [lI] fun r23=>
                    K (.b ((r23.1:Int)==3808))) (
                    K (.b false))) (
                   K (.b false))) (
                  K (.b false))) (
                 K (.b false))) (
                K (.b false))) (
               K (.b false))) (
              K (.b false))) (
             K (.b false))) (
            K (.b false))) (
           K (.b false))) (
          K (.b false))) (
         K (.b false))) (
        K (.b false))) (
       K (.b false))) (
      K (.b false))) (
     K (.b false))) (
    K (.b false))) fun j1=>
  ifB ((r2.2.1:Int) !=0) (
    K (.b false)) (
    ifB ((r4.2.1:Int) !=0) (
     K (.b false)) (
     ifB ((r6.2.1:Int) !=1) (
      K (.b false)) (
      j1 (()))))
  :=CF.mk h10 Tryz.func10 (by kernel_rfl)
theorem e11(x0:ShV Z2)(x1:Option Addr)(x2:Option Addr)(x3:ShV Z10)(x4:Int):CF 11 [.agg (ki11 x0),.q x1,.q x2,.agg (kiwvii x3),.i x4] fun K=>
  nw (.cells (ki11 x0) 25) fun n1=>
  nw (.cells #[.i x3.1,.w x3.2.1,.slice x3.2.2.1.a x3.2.2.1.len x3.2.2.1.cap,.i x3.2.2.2.1,.i x3.2.2.2.2.1] 35) fun n2=>
  ld n2.z (lI) fun v1=>
  ifB ((v1:Int)==0) (
   ld (Addr.add n2.z 1) (.lf .str) fun v2=>
   ld (Addr.add n2.z 2) (.lf .sl) fun v3=>
   cl PP 17 #[.q x1,.w v2,.sv v3] [lI] fun r1=>
   K (.q x1)) (
   ifB ((v1:Int)==1) (
    ld (Addr.add n2.z 1) (.lf .str) fun v4=>
    cl PP 25 #[.q x1,.w v4] [.lf .sl,lI] fun r2=>
    K (.q x1)) (
    ifB ((v1:Int)==2) (
     ld (Addr.add n2.z 1) (.lf .str) fun v5=>
     cl PP 26 #[.q x1,.w v5] [.lf .bool,lI] fun r3=>
     K (.q x1)) (
     ifB ((v1:Int)==3) (
      cl PP 27 #[.q x1] [lI] fun r4=>
      K (.q x1)) (
      ifB ((v1:Int)==4) (
       cl PP 24 #[.q x1,.i x4] [] fun r5=>
       K (.q x1)) (
       ifB ((v1:Int)==5) (
        ld (Addr.add n2.z 3) (lI) fun v6=>
        ld (Addr.add n2.z 4) (lI) fun v7=>
        cl PP 12 #[.q x2,.i v6,.i v7] [] fun r6=>
        K (.q x1)) (
        ifB ((v1:Int)==6) (
         cl PP 38 #[.q x2] [] fun r7=>
         ld n1.z Z2 fun v8=>
         cl PP 36 #[.agg (ki11 v8),.q x2,.i x4] [.lf .ptr,lI] fun r8=>
         ifB ((r8.2.1:Int) !=0) (
          K (.q none)) (
          K (.q r8.1))) (
         ld (Addr.add n2.z 1) (.lf .str) fun v9=>
         cl PP 20 #[.q x1,.w v9] [.lf .sl,lI] fun r9=>
         K (.q x1))))))))
  :=CF.mk Hn Tryz.func11 (by kernel_rfl)
theorem e12(x0:Option Addr)(x1:Int)(x2:Int):CF 12 [.q x0,.i x1,.i x2] fun K=>
  ifB (!(Option.isNone x0)) (
   A8 x0 fun a1=>
   ld (a1.add 2) (.lf .bool) fun v1=>
   ifB (!v1) (
    A8 x0 fun a2=>
    st a2 [.i (Aa2 x1 0)]<|
    A8 x0 fun a3=>
    st (a3.add 1) [.i x2]<|
    K (.t #[])) (
    K (.t #[]))) (
   K (.t #[]))
  :=CF.mk Hn Tryz.func12 (by kernel_rfl)
def h13:D1:=⟨[],[],[(1,[0,1,2,3,4,5,6,7,8,10,11,9,12,13,14,15])]⟩
theorem e13(x0:Option Addr)(x1:ByteArray):CF 13 [.q x0,.w x1] fun K=>
  cl PP 39 #[.q x0,.w x1] [lI] fun r1=>
  ifB ((r1.1:Int)==0) (
   A8 x0 fun a1=>
   ld (Addr.add (a1.add 19) 1) (.lf .ptr) fun v1=>
   cl PP 41 #[.q x0,.w x1] [.lf (.int .u64)] fun r2=>
   keep (C9 (Addr.add (a1.add 19) 1) [.q v1])<|
   cl PP 40 #[.q v1,.int .u64 r2.1] [.lf .bool] fun r3=>
   K (.b r3.1)) (
   K (.b false))
  :=CF.mk h13 Tryz.func13 (by kernel_rfl)
theorem e14(x0:Option Addr):CF 14 [.q x0] fun K=>
 nw (.cells #[.q x0] 28) fun n1=>
 ld n1.z (.lf .ptr) fun v1=>
 cl PP 42 #[.q v1,.func (.func 43) #[] #[.p n1]] [lI] fun r1=>
 K (.i r1.1)
 :=CF.mk Hn Tryz.func14 (by kernel_rfl)
theorem e15(x0:Option Addr)(x1:Int):CF 15 [.q x0,.i x1] fun K=>
  cl PP 45 #[.q x0,.i x1] [.lf .ptr] fun r1=>
  ifB (!(Option.isNone r1.1)) (
   A8 r1.1 fun a1=>
   ld (a1.add 3) (.lf .bool) fun v1=>
   K (.b v1)) (
   K (.b false))
  :=CF.mk Hn Tryz.func15 (by kernel_rfl)
theorem e16(x0:Option Addr)(x1:Int):CF 16 [.q x0,.i x1] fun K=>
  cl PP 45 #[.q x0,.i x1] [.lf .ptr] fun r1=>
  ifB (!(Option.isNone r1.1)) (
   A8 r1.1 fun a1=>
   ld (a1.add 2) (lI) fun v1=>
   K (.i v1)) (
   K (.i 0))
  :=CF.mk Hn Tryz.func16 (by kernel_rfl)
def h17:D1:=⟨[],[(13,[])],[(9,[0,1,2,3,5,6,4,7,8])]⟩
theorem e17(x0:Option Addr)(x1:ByteArray)(x2:SlV):CF 17 [.q x0,.w x1,.slice x2.a x2.len x2.cap] fun K=>
  cl PP 39 #[.q x0,.w x1] [lI] fun r1=>
  ifB ((r1.1:Int) !=0) (
   K (.i r1.1)) (
   ifB (decide ((x2.len:Int)>65536)) (
    K (.i 4)) (
    cl PP 46 #[.q x0,.w x1] [.lf .bool] fun r2=>
    A8 x0 fun a1=>
    ld a1 Z4 fun v1=>
    cl PP 47 #[.i x1.size,.i x2.len,.agg (ki4 v1)] [lI] fun r3=>
    ifB ((r3.1:Int)==0) (
     K (.i 14)) (
     jn (fun y1:RsV []=>
      A8 x0 fun a3=>
      ld (a3.add 19) (.lf .ptr) fun v3=>
      cl PP 50 #[.q v3,.w x1,.slice x2.a x2.len x2.cap] [] fun r7=>
      cl PP 51 #[.q x0] [lI] fun r8=>
      K (.i r8.1)) fun j1=>
     A8 x0 fun a2=>
      ld (Addr.add (a2.add 19) 1) (.lf .ptr) fun v2=>
      cl PP 41 #[.q x0,.w x1] [.lf (.int .u64)] fun r4=>
      keep (C9 (Addr.add (a2.add 19) 1) [.q v2])<|
      cl PP 48 #[.q v2,.int .u64 r4.1] [.lf .bool] fun r5=>
      ifB r5.1 (
       cl PP 49 #[.q x0,.w x1,.slice x2.a x2.len x2.cap] [lI] fun r6=>
       ifB ((r6.1:Int)==0) (
        K (.i r6.1)) (
        ifB ((r6.1:Int)==11) (
         K (.i r6.1)) (
         j1 (())))) (
       j1 (())))))
  :=CF.mk h17 Tryz.func17 (by kernel_rfl)
theorem e18(x0:Option Addr):CF 18 [.q x0] fun K=>
  ifB (!(Option.isNone x0)) (
   A8 x0 fun a1=>
   ld (a1.add 2) (.lf .bool) fun v1=>
   K (.b v1)) (
   K (.b false))
  :=CF.mk Hn Tryz.func18 (by kernel_rfl)
theorem e19(x0:Option Addr)(x1:ByteArray):CF 19 [.q x0,.w x1] fun K=>
  cl PP 39 #[.q x0,.w x1] [lI] fun r1=>
  ifB ((r1.1:Int) !=0) (
   K (.i 0)) (
   A8 x0 fun a1=>
   ld (a1.add 19) (.lf .ptr) fun v1=>
   cl PP 52 #[.q v1,.w x1] [.lf .bool] fun r2=>
   ifB r2.1 (
    K (.i 1)) (
    cl PP 53 #[.q x0,.w x1] [Z1,.lf .sl,.lf .bool] fun r3=>
    nw (.cells #[.i 0,.i 0,.i 0] 102) fun n1=>
    st n1.z [.i r3.1.1,.i r3.1.2.1,.i r3.1.2.2.1]<|
    ifB r3.2.2.1 (
     K (.i 2)) (
     K (.i 0))))
  :=CF.mk Hn Tryz.func19 (by kernel_rfl)
theorem e20(x0:Option Addr)(x1:ByteArray):CF 20 [.q x0,.w x1] fun K=>
  cl PP 39 #[.q x0,.w x1] [lI] fun r1=>
  ifB ((r1.1:Int) !=0) (
   K (.t #[.slice none 0 0,.i r1.1])) (
   A8 x0 fun a1=>
   ld (a1.add 19) (.lf .ptr) fun v1=>
   cl PP 54 #[.q v1,.w x1] [.lf .sl,.lf .bool] fun r2=>
   ifB r2.2.1 (
    K (.t #[.sv r2.1,.i 0])) (
    cl PP 53 #[.q x0,.w x1] [Z1,.lf .sl,.lf .bool] fun r3=>
    nw (.cells #[.i 0,.i 0,.i 0] 102) fun n1=>
    st n1.z [.i r3.1.1,.i r3.1.2.1,.i r3.1.2.2.1]<|
    ifB (!r3.2.2.1) (
     K (.t #[.slice none 0 0,.i 8])) (
     K (.t #[.sv r3.2.1,.i 0]))))
  :=CF.mk Hn Tryz.func20 (by kernel_rfl)
theorem e21(x0:SlV)(x1:SlV):CF 21 [.sv x0,.sv x1] fun K=>
 smR PP (Conv.bytesToString (.sv x0)) [.lf .str] fun v1=>
 smR PP (Conv.bytesToString (.sv x1)) [.lf .str] fun v2=>
 K (.b (ByteArray.toList v1.1==ByteArray.toList v2.1))
 :=CF.mk Hn Tryz.func21 (by kernel_rfl)
theorem e24(x0:Option Addr)(x1:Int):CF 24 [.q x0,.i x1] fun K=>
  cl PP 57 #[.q x0] [.lf .bool] fun r1=>
  ifB r1.1 (
   A8 x0 fun a1=>
   ld (Addr.add (a1.add 11) 2) (.lf .ptr) fun v1=>
   cl PP 58 #[.q v1,.i x1] [] fun r2=>
   K (.t #[])) (
   K (.t #[]))
  :=CF.mk Hn Tryz.func24 (by kernel_rfl)
def h25:D1:=⟨[],[],[(10,[0,1,2,3,5,6,4,8,7,9])]⟩
theorem e25(x0:Option Addr)(x1:ByteArray):CF 25 [.q x0,.w x1] fun K=>
  cl PP 39 #[.q x0,.w x1] [lI] fun r1=>
  ifB ((r1.1:Int) !=0) (
   K (.t #[.slice none 0 0,.i r1.1])) (
   A8 x0 fun a1=>
   ld (a1.add 19) (.lf .ptr) fun v1=>
   cl PP 59 #[.q v1,.w x1] [.lf .sl,.lf .bool] fun r2=>
   ifB r2.2.1 (
    K (.t #[.sv r2.1,.i 0])) (
    cl PP 53 #[.q x0,.w x1] [Z1,.lf .sl,.lf .bool] fun r3=>
    nw (.cells #[.i 0,.i 0,.i 0] 102) fun n1=>
    st n1.z [.i r3.1.1,.i r3.1.2.1,.i r3.1.2.2.1]<|
    ifB (!r3.2.2.1) (
     K (.t #[.slice none 0 0,.i 8])) (
     A8 x0 fun a2=>
     ld (Addr.add (a2.add 19) 2) (.lf .ptr) fun v2=>
     ld n1.z Z1 fun v3=>
     cl PP 41 #[.q x0,.w x1] [.lf (.int .u64)] fun r4=>
     keep (C9 n1.z [.i v3.1,.i v3.2.1,.i v3.2.2.1])<|
     keep (C9 (Addr.add (a2.add 19) 2) [.q v2])<|
     cl PP 60 #[.q v2,.int .u64 r4.1,.agg (ki3 v3)] [.lf .bool] fun r5=>
     K (.t #[.sv r3.2.1,.i 0]))))
  :=CF.mk h25 Tryz.func25 (by kernel_rfl)
theorem e26(x0:Option Addr)(x1:ByteArray):CF 26 [.q x0,.w x1] fun K=>
  cl PP 39 #[.q x0,.w x1] [lI] fun r1=>
  ifB ((r1.1:Int) !=0) (
   K (.t #[.b false,.i r1.1])) (
   cl PP 46 #[.q x0,.w x1] [.lf .bool] fun r2=>
   K (.t #[.b r2.1,.i 0]))
  :=CF.mk Hn Tryz.func26 (by kernel_rfl)
def h27:D1:=⟨[(0,[])],[],[(9,[0,1,2,3,6,7,8,9,10,4,5,11,12,13,14,15])]⟩
theorem e27(x0:Option Addr):CF 27 [.q x0] fun K=>
  ifB (Option.isNone x0) (
   K (.i 1)) (
   A8 x0 fun a1=>
   ld (Addr.add (a1.add 11) 7) (.lf .bool) fun v1=>
   ifB v1 (
    K (.i 11)) (
    lp [] (()) fun z1 go1=>
     A8 x0 fun a2=>
     ld (Addr.add (a2.add 11) 6) (.lf .sl) fun v2=>
     ifB (decide ((v2.len:Int)>0)) (
      cl PP 61 #[.q x0,.i 1] [lI] fun r1=>
      ifB ((r1.1:Int) !=0) (
       K (.i r1.1)) (
       A8 x0 fun a3=>
       A8 x0 fun a4=>
       ld (Addr.add (a3.add 11) 6) (.lf .sl) fun v3=>
       ld (a4.add 2) (lI) fun v4=>
       cl PP 62 #[.i v4] [lI] fun r2=>
       keep (C9 (Addr.add (a3.add 11) 6) [.sv v3])<|
       req ((6:Int)≠0)<|
       ifB ((Ad3 v3.len (IntKind.i64.wrap (Int.tdiv r2.1 6)):Int)==0) (
        K (.i 0)) (
        A8 x0 fun a5=>
        ld (Addr.add (a5.add 11) 6) (.lf .sl) fun v5=>
        slc ⟨v5.a,v5.len,v5.cap⟩ 0 (Ad3 v3.len (IntKind.i64.wrap (Int.tdiv r2.1 6))) v5.cap 3 fun s1=>
        cl PP 63 #[.sv s1] [.lf .sl,lI] fun r3=>
        ifB ((r3.2.1:Int) !=0) (
         K (.i r3.2.1)) (
         A8 x0 fun a6=>
         nw (.cells #[.slice r3.1.a r3.1.len r3.1.cap] 27) fun n1=>
         cl PP 64 #[.q (some (a6.add 11)),.i 3,.slice (some n1.z) 1 1] [Z1,lI] fun r4=>
         nw (.cells #[.i 0,.i 0,.i 0] 102) fun n2=>
         st n2.z [.i r4.1.1,.i r4.1.2.1,.i r4.1.2.2.1]<|
         ifB ((r4.2.1:Int) !=0) (
          K (.i r4.2.1)) (
          A8 x0 fun a7=>
          ld (Addr.add (a7.add 11) 6) (.lf .sl) fun v6=>
          cl PP 65 #[.sv v6,.i 0,.i (Ad3 v3.len (IntKind.i64.wrap (Int.tdiv r2.1 6)))] [.lf .sl] fun r5=>
          A8 x0 fun a8=>
          st (Addr.add (a8.add 11) 6) [.slice r5.1.a r5.1.len r5.1.cap]<|
          go1 (())))))) (
      K (.i 0))))
  :=CF.mk h27 Tryz.func27 (by kernel_rfl)
theorem e29(x0:Option Addr):CF 29 [.q x0] fun K=>
 nw (.cells #[.q x0] 28) fun n1=>
 ld n1.z (.lf .ptr) fun v1=>
 cl PP 42 #[.q v1,.func (.func 67) #[] #[.p n1]] [lI] fun r1=>
 K (.i r1.1)
 :=CF.mk Hn Tryz.func29 (by kernel_rfl)
theorem e30(x0:Option Addr):CF 30 [.q x0] fun K=>
 nw (.cells #[.q x0] 28) fun n1=>
 ld n1.z (.lf .ptr) fun v1=>
 cl PP 42 #[.q v1,.func (.func 69) #[] #[.p n1]] [lI] fun r1=>
 K (.i r1.1)
 :=CF.mk Hn Tryz.func30 (by kernel_rfl)
theorem e31(x0:Option Addr):CF 31 [.q x0] fun K=>
  cl PP 57 #[.q x0] [.lf .bool] fun r1=>
  ifB (!r1.1) (
   K (.slice none 0 0)) (
   A8 x0 fun a1=>
   ld (Addr.add (a1.add 11) 6) (.lf .sl) fun v1=>
   cl PP 71 #[.sv v1] [.lf .sl] fun r2=>
   K (.sv r2.1))
  :=CF.mk Hn Tryz.func31 (by kernel_rfl)
set_option maxRecDepth 100000
def h35:D1:=⟨[(0,[(34,lI)])],[],[]⟩
theorem e35(x0:ShV Z4):CF 35 [.agg (ki4 x0)] fun K=>
  nw (.cells (ki4 x0) 23) fun n1=>
  ld n1.z (lI) fun v1=>
  cl PP 90 #[.i v1,.i 2,.i 16] [.lf .bool] fun r1=>
  ifB r1.1 (
   ld (Addr.add n1.z 1) (lI) fun v2=>
   cl PP 90 #[.i v2,.i 4,.i 16] [.lf .bool] fun r2=>
   ifB (!r2.1) (
    K (.t #[.q none,.i 30])) (
    ld (Addr.add n1.z 2) (lI) fun v3=>
    cl PP 90 #[.i v3,.i 64,.i 512] [.lf .bool] fun r3=>
    ifB (!r3.1) (
     K (.t #[.q none,.i 30])) (
     ld (Addr.add n1.z 3) (lI) fun v4=>
     cl PP 90 #[.i v4,.i 1,.i 1048576] [.lf .bool] fun r4=>
     ifB (!r4.1) (
      K (.t #[.q none,.i 30])) (
      ld n1.z Z4 fun v5=>
      nw (.cells #[.i 0,.i 0,.b false,.i v5.1,.i v5.2.1,.i v5.2.2.1,.i v5.2.2.2.1,.slice none 0 0,.i 0,.slice none 0 0] 75) fun n2=>
      ld n1.z (lI) fun v6=>
      lp [lI] (0,()) fun z1 go1=>
       ifB (decide ((z1.1:Int)<v6)) (
        ld (Addr.add n1.z 1) (lI) fun v7=>
        smA PP (Instr.makeSlice 96 (.i v7) (.i v7)) (.lf .sl) fun v8=>
        nw (.cells #[.slice v8.a v8.len v8.cap,.i 0,.i 0,.b false] 98) fun n3=>
        ld (Addr.add n1.z 1) (lI) fun v9=>
        ld (Addr.add n1.z 2) (lI) fun v10=>
        cl PP 91 #[.p n3,.i v9,.i v10] [] fun r5=>
        ld (Addr.add n2.z 7) (.lf .sl) fun v11=>
        nw (.cells #[.q (some n3.z)] 94) fun n4=>
        smW PP (Builtin.append_ #[72,72] 72 #[.sv v11,.slice (some n4.z) 1 1]) [.lf .sl] fun v12=>
        st (Addr.add n2.z 7) [.slice v12.1.a v12.1.len v12.1.cap]<|
        go1 (IntKind.i64.wrap (z1.1+1),())) (
        K (.t #[.p n2,.i 0])))))) (
   K (.t #[.q none,.i 30]))
  :=CF.mk h35 Tryz.func35 (by kernel_rfl)
def h36:D1:=⟨[(0,[(12,.lf .sl),(74,lI)]),(2,[(116,lI)])],[(6,[])],[(15,[0,1,2,3,5,7,9,11,4,6,8,10,12,13,14,15]),(9,[1,2,4,6,9,12,15,18,0,3,5,10,13,16,7,14,17,19,8,11,20,21,22]),(4,[0,2,3,1,4,5,6,7,8,9,10,11,12,13])]⟩
theorem e36(x0:ShV Z2)(x1:Option Addr)(x2:Int):CF 36 [.agg (ki11 x0),.q x1,.i x2] fun K=>
  nw (.cells (ki11 x0) 25) fun n1=>
  ifB (Option.isNone x1) (
   K (.t #[.q none,.i 1])) (
   ld (Addr.add n1.z 4) (lI) fun v1=>
   ld (Addr.add n1.z 5) (lI) fun v2=>
   cl PP 92 #[.i v1,.i v2] [.lf .ptr,lI] fun r1=>
   jn (fun y1:RsV []=>
    cl PP 95 #[.q x1] [Z12,lI] fun r4=>
    nw (.cells #[.slice none 0 0,.slice none 0 0,.i 0] 146) fun n2=>
    st n2.z [.slice r4.1.1.a r4.1.1.len r4.1.1.cap,.slice r4.1.2.1.a r4.1.2.1.len r4.1.2.1.cap,.i r4.1.2.2.1]<|
    ifB ((r4.2.1:Int) !=0) (
     K (.t #[.q none,.i r4.2.1])) (
     ld n1.z Z2 fun v6=>
     ld (Addr.add n1.z 8) (lI) fun v7=>
     ld (Addr.add n1.z 9) (lI) fun v8=>
     ld (Addr.add n2.z 2) (lI) fun v9=>
     ld (Addr.add n1.z 6) (lI) fun v10=>
     ld (Addr.add n1.z 7) (lI) fun v11=>
     cl PP 96 #[.i v7,.i v8,.i x2,.i 0] [.lf .ptr] fun r5=>
     keep (C9 (Addr.add n1.z 7) [.i v11])<|
     keep (C9 (Addr.add n1.z 6) [.i v10])<|
     keep (C9 (Addr.add n2.z 2) [.i v9])<|
     keep (C9 n1.z [.i v6.1,.i v6.2.1,.i v6.2.2.1,.i v6.2.2.2.1,.i v6.2.2.2.2.1,.i v6.2.2.2.2.2.1,.i v6.2.2.2.2.2.2.1,.i v6.2.2.2.2.2.2.2.1,.i v6.2.2.2.2.2.2.2.2.1,.i v6.2.2.2.2.2.2.2.2.2.1,.i v6.2.2.2.2.2.2.2.2.2.2.1])<|
     cl PP 97 #[.i v10] [.lf .ptr] fun r6=>
     keep (C9 (Addr.add n1.z 7) [.i v11])<|
     keep (C9 (Addr.add n2.z 2) [.i v9])<|
     keep (C9 n1.z [.i v6.1,.i v6.2.1,.i v6.2.2.1,.i v6.2.2.2.1,.i v6.2.2.2.2.1,.i v6.2.2.2.2.2.1,.i v6.2.2.2.2.2.2.1,.i v6.2.2.2.2.2.2.2.1,.i v6.2.2.2.2.2.2.2.2.1,.i v6.2.2.2.2.2.2.2.2.2.1,.i v6.2.2.2.2.2.2.2.2.2.2.1])<|
     cl PP 98 #[.i v11] [.lf .ptr] fun r7=>
     keep (C9 (Addr.add n2.z 2) [.i v9])<|
     keep (C9 n1.z [.i v6.1,.i v6.2.1,.i v6.2.2.1,.i v6.2.2.2.1,.i v6.2.2.2.2.1,.i v6.2.2.2.2.2.1,.i v6.2.2.2.2.2.2.1,.i v6.2.2.2.2.2.2.2.1,.i v6.2.2.2.2.2.2.2.2.1,.i v6.2.2.2.2.2.2.2.2.2.1,.i v6.2.2.2.2.2.2.2.2.2.2.1])<|
     nw (.map #[] 0) fun n3=>
     nw (.cells #[.i v6.1,.i v6.2.1,.i v6.2.2.1,.i v6.2.2.2.1,.i v6.2.2.2.2.1,.i v6.2.2.2.2.2.1,.i v6.2.2.2.2.2.2.1,.i v6.2.2.2.2.2.2.2.1,.i v6.2.2.2.2.2.2.2.2.1,.i v6.2.2.2.2.2.2.2.2.2.1,.i v6.2.2.2.2.2.2.2.2.2.2.1,.q x1,.q none,.q r5.1,.map (some n3),.q none,.i v9,.slice none 0 0,.b false,.q r6.1,.q r7.1,.q r1.1] 89) fun n4=>
     ld n2.z (.lf .sl) fun v12=>
     lp [.lf .sl,lI] (⟨none,0,0⟩,0,()) fun z1 go1=>
      ifB (decide ((z1.2.1:Int)<v12.len)) (
       A8 v12.a fun a1=>
       ixn z1.2.1 v12.len<|
       ld (a1.add (z1.2.1.toNat*3)) Z5 fun v13=>
       nw (.cells #[.i 0,.i 0,.slice none 0 0] 154) fun n5=>
       st n5.z [.i v13.1,.i v13.2.1,.slice v13.2.2.1.a v13.2.2.1.len v13.2.2.1.cap]<|
       ld n5.z (lI) fun v14=>
       nw (.cells #[.i v14] 3) fun n6=>
       smW PP (Builtin.append_ #[49,49] 49 #[.sv z1.1,.slice (some n6.z) 1 1]) [.lf .sl] fun v15=>
       ld (Addr.add (Addr.add n4.z 11) 3) (.lf .map) fun v16=>
       ld n5.z (lI) fun v17=>
       ld n5.z (lI) fun v18=>
       ld (Addr.add n5.z 1) (lI) fun v19=>
       ld (Addr.add n5.z 2) (.lf .sl) fun v20=>
       nw (.cells #[.i v18,.i v19,.i 0,.slice v20.a v20.len v20.cap] 156) fun n7=>
       smU PP (Instr.mapUpdate 79 (.map v16) (.i v17) (.p n7))<|
       go1 (⟨v15.1.a,v15.1.len,v15.1.cap⟩,IntKind.i64.wrap (z1.2.1+1),())) (
       cl PP 100 #[.q x1] [.lf .sl] fun r8=>
       cl PP 99 #[.sv r8.1,.sv z1.1] [.lf .ptr,lI] fun r9=>
       st (Addr.add (Addr.add n4.z 11) 1) [.q r9.1]<|
       ifB ((r9.2.1:Int) !=0) (
        K (.t #[.q none,.i r9.2.1])) (
        ld (Addr.add n2.z 1) (.lf .sl) fun v21=>
        lp [lI] (0,()) fun z2 go2=>
         ifB (decide ((z2.1:Int)<v21.len)) (
          A8 v21.a fun a2=>
          ixn z2.1 v21.len<|
          ld (a2.add (z2.1.toNat*4)) Z6 fun v22=>
          nw (.cells #[.w ByteArray.empty,.i 0,.i 0,.i 0] 162) fun n8=>
          st n8.z [.w v22.1,.i v22.2.1,.i v22.2.2.1,.i v22.2.2.2.1]<|
          ld n8.z (.lf .str) fun v23=>
          ld (Addr.add n8.z 1) Z1 fun v24=>
          cl PP 101 #[.p n4,.w v23,.agg (ki3 v24)] [] fun r10=>
          go2 (IntKind.i64.wrap (z2.1+1),())) (
          K (.t #[.p n4,.i 0])))))) fun j1=>
   ld n1.z Z4 fun v3=>
    cl PP 93 #[.q x1] [Z4] fun r2=>
    keep (C9 n1.z [.i v3.1,.i v3.2.1,.i v3.2.2.1,.i v3.2.2.2.1])<|
    smP PP (binOp .neq 23 (.agg (ki4 r2.1)) (.agg (ki4 v3))) (.lf .bool) fun v4=>
    ifB v4 (
     K (.t #[.q none,.i 30])) (
     ifB ((r1.2.1:Int) !=0) (
      K (.t #[.q none,.i 30])) (
      ld n1.z Z2 fun v5=>
      cl PP 94 #[.agg (ki11 v5)] [.lf .bool] fun r3=>
      ifB (!r3.1) (
       K (.t #[.q none,.i 30])) (
       j1 (())))))
  :=CF.mk h36 Tryz.func36 (by kernel_rfl)
theorem e37:CF 37 [] fun K=>
 nw (.cells #[.i 0,.i 0,.i 0,.i 0,.i 0,.i 0,.i 0,.i 0,.i 0,.i 0,.i 0] 25) fun n1=>
 st n1.z [.i 4,.i 8,.i 64,.i 1000,.i 4,.i 4,.i 12,.i 8,.i 1000,.i 4000,.i 0]<|
 ld n1.z Z2 fun v1=>
 K (.agg (ki11 v1))
 :=CF.mk Hn Tryz.func37 (by kernel_rfl)
theorem e38(x0:Option Addr):CF 38 [.q x0] fun K=>
  ifB (!(Option.isNone x0)) (
   A8 x0 fun a1=>
   st (a1.add 2) [.b false]<|
   A8 x0 fun a2=>
   st a2 [.i 0]<|
   K (.t #[])) (
   K (.t #[]))
  :=CF.mk Hn Tryz.func38 (by kernel_rfl)
theorem e39(x0:Option Addr)(x1:ByteArray):CF 39 [.q x0,.w x1] fun K=>
  ifB (Option.isNone x0) (
   K (.i 1)) (
   A8 x0 fun a1=>
   ld (Addr.add (a1.add 11) 7) (.lf .bool) fun v1=>
   ifB v1 (
    K (.i 11)) (
    ifB (ByteArray.toList x1==ByteArray.toList (ByteArray.mk #[])) (
     K (.i 2)) (
     ifB (decide ((x1.size:Int)>255)) (
      K (.i 2)) (
      K (.i 0)))))
  :=CF.mk Hn Tryz.func39 (by kernel_rfl)
theorem e40(x0:Option Addr)(x1:Int):CF 40 [.q x0,.int .u64 x1] fun K=>
  ifB (!(Option.isNone x0)) (
   cl PP 103 #[.q x0] [.lf .sl] fun r1=>
   cl PP 102 #[.sv r1.1,.int .u64 x1] [lI] fun r2=>
   K (.b (decide ((r2.1:Int)≥0)))) (
   K (.b false))
  :=CF.mk Hn Tryz.func40 (by kernel_rfl)
theorem e41(x0:Option Addr)(x1:ByteArray):CF 41 [.q x0,.w x1] fun K=>
 A8 x0 fun a1=>
 ld (a1.add 10) (lI) fun v1=>
 cl PP 104 #[.i v1,.w x1] [.lf (.int .u64)] fun r1=>
 K (.int .u64 r1.1)
 :=CF.mk Hn Tryz.func41 (by kernel_rfl)
theorem e42(x0:Option Addr)(x1:FnV):CF 42 [.q x0,.func x1.fn x1.first x1.captured] fun K=>
  cl PP 57 #[.q x0] [.lf .bool] fun r1=>
  ifB (!r1.1) (
   K (.i 0)) (
   clv PP x1.fn (x1.first++#[]) x1.captured [lI] fun r2=>
   K (.i r2.1))
  :=CF.mk Hn Tryz.func42 (by kernel_rfl)
theorem e43(x0:Option Addr):CF 43 [.q x0] fun K=>
 A8 x0 fun a1=>
 ld a1 (.lf .ptr) fun v1=>
 A8 v1 fun a2=>
 ld (Addr.add (a2.add 11) 2) (.lf .ptr) fun v2=>
 cl PP 44 #[.q v2] [lI] fun r1=>
 K (.i r1.1)
 :=CF.mk Hn Tryz.func43 (by kernel_rfl)
theorem e44(x0:Option Addr):CF 44 [.q x0] fun K=>
  ifB (Option.isNone x0) (
   K (.i 0)) (
   A8 x0 fun a1=>
   ld (a1.add 3) (lI) fun v1=>
   K (.i v1))
  :=CF.mk Hn Tryz.func44 (by kernel_rfl)
theorem e45(x0:Option Addr)(x1:Int):CF 45 [.q x0,.i x1] fun K=>
  ifB (Option.isNone x0) (
   K (.q none)) (
   A8 x0 fun a1=>
   ld (a1.add 7) (.lf .sl) fun v1=>
   cl PP 90 #[.i x1,.i 0,.i (IntKind.i64.wrap (v1.len-1))] [.lf .bool] fun r1=>
   ifB (!r1.1) (
    K (.q none)) (
    A8 x0 fun a2=>
    ld (a2.add 7) (.lf .sl) fun v2=>
    A8 v2.a fun a3=>
    ixn x1 v2.len<|
    ld (a3.add (x1.toNat*1)) (.lf .ptr) fun v3=>
    K (.q v3)))
  :=CF.mk Hn Tryz.func45 (by kernel_rfl)
def h46:D1:=⟨[],[],[(5,[0,1,2,3,4,5,6,7,8,9,10,11,12]),(4,[0,1,2,3,5,6,4,8,7,9])]⟩
theorem e46(x0:Option Addr)(x1:ByteArray):CF 46 [.q x0,.w x1] fun K=>
  A8 x0 fun a1=>
  ld (a1.add 19) (.lf .ptr) fun v1=>
  cl PP 105 #[.q v1,.w x1] [.lf .bool] fun r1=>
  cl PP 53 #[.q x0,.w x1] [Z1,.lf .sl,.lf .bool] fun r2=>
  nw (.cells #[.i 0,.i 0,.i 0] 102) fun n1=>
  st n1.z [.i r2.1.1,.i r2.1.2.1,.i r2.1.2.2.1]<|
  ifB r2.2.2.1 (
   A8 x0 fun a2=>
   ld (Addr.add (a2.add 19) 2) (.lf .ptr) fun v2=>
   ld n1.z Z1 fun v3=>
   cl PP 41 #[.q x0,.w x1] [.lf (.int .u64)] fun r3=>
   keep (C9 n1.z [.i v3.1,.i v3.2.1,.i v3.2.2.1])<|
   keep (C9 (Addr.add (a2.add 19) 2) [.q v2])<|
   cl PP 106 #[.q v2,.int .u64 r3.1,.agg (ki3 v3)] [.lf .bool] fun r4=>
   A8 x0 fun a3=>
   ld (Addr.add (a3.add 11) 6) (.lf .sl) fun v4=>
   ld n1.z Z1 fun v5=>
   nw (.cells (ki3 v5) 102) fun n2=>
   smW PP (Builtin.append_ #[55,55] 55 #[.sv v4,.slice (some n2.z) 1 1]) [.lf .sl] fun v6=>
   A8 x0 fun a4=>
   st (Addr.add (a4.add 11) 6) [.slice v6.1.a v6.1.len v6.1.cap]<|
   ifB r1.1 (
    K (.b true)) (
    K (.b r2.2.2.1))) (
   ifB r1.1 (
    K (.b true)) (
    K (.b r2.2.2.1)))
  :=CF.mk h46 Tryz.func46 (by kernel_rfl)
def h47:D1:=⟨[],[],[(4,[0,1,2,3,4,5,6,7,8,9,10,11,12])]⟩
theorem e47(x0:Int)(x1:Int)(x2:ShV Z4):CF 47 [.i x0,.i x1,.agg (ki4 x2)] fun K=>
  nw (.cells (ki4 x2) 23) fun n1=>
  ld (Addr.add n1.z 2) (lI) fun v1=>
  cl PP 62 #[.i v1] [lI] fun r1=>
  cl PP 107 #[.i x0] [.lf .bool] fun r2=>
  ifB (!r2.1) (
   K (.i 0)) (
   ifB (decide ((x1:Int)<0)) (
    K (.i 0)) (
    ifB (decide ((x1:Int)>65536)) (
     K (.i 0)) (
     ifB ((r1.1:Int)==0) (
      K (.i 0)) (
      req ((r1.1:Int)≠0)<|
      ld (Addr.add n1.z 1) (lI) fun v2=>
      cl PP 108 #[.i (IntKind.i64.wrap (Int.tdiv (IntKind.i64.wrap ((IntKind.i64.wrap ((IntKind.i64.wrap ((IntKind.i64.wrap (x0+x1))+12))+r1.1))-1)) r1.1)),.i v2] [lI] fun r3=>
      K (.i r3.1)))))
  :=CF.mk h47 Tryz.func47 (by kernel_rfl)
theorem e48(x0:Option Addr)(x1:Int):CF 48 [.q x0,.int .u64 x1] fun K=>
  ifB (Option.isNone x0) (
   K (.b false)) (
   cl PP 103 #[.q x0] [.lf .sl] fun r1=>
   cl PP 102 #[.sv r1.1,.int .u64 x1] [lI] fun r2=>
   ifB (decide ((r2.1:Int)<0)) (
    K (.b false)) (
    cl PP 110 #[.sv r1.1,.i r2.1,.i (IntKind.i64.wrap (r2.1+1))] [.lf .sl] fun r3=>
    cl PP 109 #[.q x0,.sv r3.1] [] fun r4=>
    K (.b true)))
  :=CF.mk Hn Tryz.func48 (by kernel_rfl)
theorem e49(x0:Option Addr)(x1:ByteArray)(x2:SlV):CF 49 [.q x0,.w x1,.slice x2.a x2.len x2.cap] fun K=>
  A8 x0 fun a1=>
  ld a1 Z4 fun v1=>
  cl PP 111 #[.w x1,.slice x2.a x2.len x2.cap,.agg (ki4 v1)] [.lf .sl,lI] fun r1=>
  ifB ((r1.2.1:Int) !=0) (
   K (.i r1.2.1)) (
   cl PP 61 #[.q x0,.i r1.1.len] [lI] fun r2=>
   ifB ((r2.1:Int) !=0) (
    K (.i r2.1)) (
    A8 x0 fun a2=>
    cl PP 64 #[.q (some (a2.add 11)),.i 2,.slice r1.1.a r1.1.len r1.1.cap] [Z1,lI] fun r3=>
    nw (.cells #[.i 0,.i 0,.i 0] 102) fun n1=>
    st n1.z [.i r3.1.1,.i r3.1.2.1,.i r3.1.2.2.1]<|
    ifB ((r3.2.1:Int)==0) (
     ld n1.z Z1 fun v2=>
     cl PP 101 #[.q x0,.w x1,.agg (ki3 v2)] [] fun r4=>
     K (.i r3.2.1)) (
     K (.i r3.2.1))))
  :=CF.mk Hn Tryz.func49 (by kernel_rfl)
def h50:D1:=⟨[],[(6,[])],[(7,[0,1,2,4,3,5,6,7,8,9]),(2,[0,2,5,6,7,8,1,3,4,9,10,11])]⟩
theorem e50(x0:Option Addr)(x1:ByteArray)(x2:SlV):CF 50 [.q x0,.w x1,.sv x2] fun K=>
  ifB (Option.isNone x0) (
   K (.t #[])) (
   cl PP 105 #[.q x0,.w x1] [.lf .bool] fun r1=>
   A8 x0 fun a1=>
   ld (a1.add 3) (.lf .ptr) fun v1=>
   nw (.cells #[] 5) fun n1=>
   smW PP (Builtin.append_ #[27,27] 27 #[.slice (some n1.z) 0 0,.sv x2]) [.lf .sl] fun v2=>
   keep (C9 (a1.add 3) [.q v1])<|
   nw (.cells #[.w x1,.slice v2.1.a v2.1.len v2.1.cap,.i 0,.q v1,.q none] 184) fun n2=>
   jn (fun y1:RsV []=>
    A8 x0 fun a6=>
    st (a6.add 3) [.p n2]<|
    A8 x0 fun a7=>
    ld (a7.add 1) (lI) fun v5=>
    cl PP 112 #[.p n2] [lI] fun r2=>
    keep (C9 (a7.add 1) [.i v5])<|
    A8 x0 fun a8=>
    st (a8.add 1) [.i (IntKind.i64.wrap (v5+r2.1))]<|
    A8 x0 fun a9=>
    ld (a9.add 4) (.lf .map) fun v6=>
    smU PP (Instr.mapUpdate 180 (.map v6) (.w x1) (.p n2))<|
    K (.t #[])) fun j1=>
   A8 x0 fun a2=>
    ld (a2.add 3) (.lf .ptr) fun v3=>
    ifB (!(Option.isNone v3)) (
     A8 x0 fun a3=>
     ld (a3.add 3) (.lf .ptr) fun v4=>
     A8 v4 fun a4=>
     st (a4.add 4) [.p n2]<|
     j1 (())) (
     A8 x0 fun a5=>
     st (a5.add 2) [.p n2]<|
     j1 (())))
  :=CF.mk h50 Tryz.func50 (by kernel_rfl)
def h51:D1:=⟨[(0,[])],[(6,[(5,lI)])],[(7,[0,1,2,3,5,6,4,7,8,9])]⟩
theorem e51(x0:Option Addr):CF 51 [.q x0] fun K=>
  lp [] (()) fun z1 go1=>
   A8 x0 fun a1=>
   ld (a1.add 19) (.lf .ptr) fun v1=>
   cl PP 113 #[.q v1] [.lf .bool] fun r1=>
   ifB r1.1 (
    A8 x0 fun a2=>
    ld (a2.add 19) (.lf .ptr) fun v2=>
    cl PP 114 #[.q v2] [Z13,.lf .bool] fun r2=>
    nw (.cells #[.w ByteArray.empty,.slice none 0 0,.i 0] 179) fun n1=>
    st n1.z [.w r2.1.1,.slice r2.1.2.1.a r2.1.2.1.len r2.1.2.1.cap,.i r2.1.2.2.1]<|
    jn (fun y1:RsV [lI]=>
     ifB ((y1.1:Int)==0) (
      go1 (())) (
      ifB ((y1.1:Int)==11) (
       K (.i y1.1)) (
       A8 x0 fun a3=>
       ld (Addr.add (a3.add 19) 1) (.lf .ptr) fun v6=>
       ld n1.z (.lf .str) fun v7=>
       cl PP 41 #[.q x0,.w v7] [.lf (.int .u64)] fun r4=>
       keep (C9 (Addr.add (a3.add 19) 1) [.q v6])<|
       cl PP 115 #[.q v6,.int .u64 r4.1] [] fun r5=>
       go1 (())))) fun j1=>
    ld (Addr.add n1.z 2) (lI) fun v3=>
     ifB (decide ((v3:Int)>0)) (
      ld n1.z (.lf .str) fun v4=>
      ld (Addr.add n1.z 1) (.lf .sl) fun v5=>
      cl PP 49 #[.q x0,.w v4,.sv v5] [lI] fun r3=>
      j1 (r3.1,())) (
      j1 (8,()))) (
    K (.i 0))
  :=CF.mk h51 Tryz.func51 (by kernel_rfl)
theorem e52(x0:Option Addr)(x1:ByteArray):CF 52 [.q x0,.w x1] fun K=>
 cl PP 116 #[.q x0,.w x1] [.lf .ptr] fun r1=>
 K (.b (!(Option.isNone r1.1)))
 :=CF.mk Hn Tryz.func52 (by kernel_rfl)
def h53:D1:=⟨[(0,[(22,lI)])],[],[(4,[0,1,2,3,4,5,6,7,8,9,10,11,12,13]),(1,[0,1,2,3,5,6,10,4,7,8,9])]⟩
theorem e53(x0:Option Addr)(x1:ByteArray):CF 53 [.q x0,.w x1] fun K=>
  nw (.cells #[.i 0,.i 0,.i 0] 102) fun n1=>
  A8 x0 fun a1=>
  ld (Addr.add (a1.add 19) 2) (.lf .ptr) fun v1=>
  cl PP 41 #[.q x0,.w x1] [.lf (.int .u64)] fun r1=>
  keep (C9 (Addr.add (a1.add 19) 2) [.q v1])<|
  cl PP 117 #[.q v1,.int .u64 r1.1] [.lf .sl] fun r2=>
  lp [lI] (0,()) fun z1 go1=>
   ifB (decide ((z1.1:Int)<r2.1.len)) (
    A8 r2.1.a fun a2=>
    ixn z1.1 r2.1.len<|
    ld (a2.add (z1.1.toNat*3)) Z1 fun v2=>
    nw (.cells #[.i 0,.i 0,.i 0] 102) fun n2=>
    st n2.z [.i v2.1,.i v2.2.1,.i v2.2.2.1]<|
    A8 x0 fun a3=>
    ld (a3.add 11) (.lf .ptr) fun v3=>
    ld n2.z Z1 fun v4=>
    cl PP 118 #[.q v3,.agg (ki3 v4)] [.lf .str,.lf .sl,lI] fun r3=>
    ifB ((r3.2.2.1:Int)==0) (
     ifB (ByteArray.toList r3.1==ByteArray.toList x1) (
      ld n2.z Z1 fun v5=>
      st n1.z [.i v5.1,.i v5.2.1,.i v5.2.2.1]<|
      ld n1.z Z1 fun v6=>
      K (.t #[.agg (ki3 v6),.sv r3.2.1,.b true])) (
      go1 (IntKind.i64.wrap (z1.1+1),()))) (
     go1 (IntKind.i64.wrap (z1.1+1),()))) (
    st n1.z [.i 0,.i 0,.i 0]<|
    ld n1.z Z1 fun v7=>
    K (.t #[.agg (ki3 v7),.slice none 0 0,.b false]))
  :=CF.mk h53 Tryz.func53 (by kernel_rfl)
theorem e54(x0:Option Addr)(x1:ByteArray):CF 54 [.q x0,.w x1] fun K=>
  cl PP 116 #[.q x0,.w x1] [.lf .ptr] fun r1=>
  ifB (Option.isNone r1.1) (
   K (.t #[.slice none 0 0,.b false])) (
   nw (.cells #[] 5) fun n1=>
   A8 r1.1 fun a1=>
   ld (a1.add 1) (.lf .sl) fun v1=>
   smW PP (Builtin.append_ #[27,27] 27 #[.slice (some n1.z) 0 0,.sv v1]) [.lf .sl] fun v2=>
   K (.t #[.sv v2.1,.b true]))
  :=CF.mk Hn Tryz.func54 (by kernel_rfl)
theorem e57(x0:Option Addr):CF 57 [.q x0] fun K=>
  ifB (!(Option.isNone x0)) (
   A8 x0 fun a1=>
   ld (Addr.add (a1.add 11) 7) (.lf .bool) fun v1=>
   K (.b (!v1))) (
   K (.b false))
  :=CF.mk Hn Tryz.func57 (by kernel_rfl)
def h58:D1:=⟨[],[],[(2,[0,1,2,3,4,6,8,9,10,5,7,11,14,12,13,15,16,17,18,19,20]),(1,[0,1,2,4,3,5,6,7,8,9,10,11,12,13])]⟩
theorem e58(x0:Option Addr)(x1:Int):CF 58 [.q x0,.i x1] fun K=>
  ifB (Option.isNone x0) (
   K (.t #[])) (
   A8 x0 fun a1=>
   ld a1 Z9 fun v1=>
   nw (.cells #[.i 253402300799] 3) fun n1=>
   cl PP 123 #[.i x1,.slice (some n1.z) 1 1] [lI] fun r1=>
   keep (C9 a1 [.i v1.1,.i v1.2.1])<|
   cl PP 122 #[.agg (kii v1),.i r1.1] [lI,Z9] fun r2=>
   nw (.cells #[.i 0,.i 0] 169) fun n2=>
   st n2.z [.i r2.2.1.1,.i r2.2.1.2.1]<|
   A8 x0 fun a2=>
   A8 x0 fun a3=>
   ld (a2.add 3) (lI) fun v2=>
   ld (a3.add 2) (lI) fun v3=>
   ld n2.z Z9 fun v4=>
   nw (.cells #[.i v3] 3) fun n3=>
   cl PP 123 #[.i (IntKind.i64.wrap (v2+r2.1)),.slice (some n3.z) 1 1] [lI] fun r3=>
   keep (C9 n2.z [.i v4.1,.i v4.2.1])<|
   A8 x0 fun a4=>
   st (a4.add 3) [.i r3.1]<|
   keep (C9 n2.z [.i v4.1,.i v4.2.1])<|
   A8 x0 fun a5=>
   st a5 [.i v4.1,.i v4.2.1]<|
   K (.t #[]))
  :=CF.mk h58 Tryz.func58 (by kernel_rfl)
theorem e59(x0:Option Addr)(x1:ByteArray):CF 59 [.q x0,.w x1] fun K=>
  cl PP 116 #[.q x0,.w x1] [.lf .ptr] fun r1=>
  ifB (Option.isNone r1.1) (
   K (.t #[.slice none 0 0,.b false])) (
   A8 r1.1 fun a1=>
   ld (a1.add 2) (lI) fun v1=>
   A8 r1.1 fun a2=>
   st (a2.add 2) [.i (Ad3 (IntKind.i64.wrap (v1+1)) 3)]<|
   nw (.cells #[] 5) fun n1=>
   A8 r1.1 fun a3=>
   ld (a3.add 1) (.lf .sl) fun v2=>
   smW PP (Builtin.append_ #[27,27] 27 #[.slice (some n1.z) 0 0,.sv v2]) [.lf .sl] fun v3=>
   K (.t #[.sv v3.1,.b true]))
  :=CF.mk Hn Tryz.func59 (by kernel_rfl)
theorem e60(x0:Option Addr)(x1:Int)(x2:ShV Z1):CF 60 [.q x0,.int .u64 x1,.agg (ki3 x2)] fun K=>
 nw (.cells (ki3 x2) 102) fun n1=>
 ld n1.z Z1 fun v1=>
 cl PP 124 #[.q x0,.int .u64 x1,.agg (ki3 v1),.func (.func 125) #[] #[]] [.lf .bool] fun r1=>
 K (.b r1.1)
 :=CF.mk Hn Tryz.func60 (by kernel_rfl)
def h61:D1:=⟨[(0,[])],[],[]⟩
theorem e61(x0:Option Addr)(x1:Int):CF 61 [.q x0,.i x1] fun K=>
  lp [] (()) fun z1 go1=>
   A8 x0 fun a1=>
   nw (.cells #[.i x1] 3) fun n1=>
   cl PP 126 #[.q (some (a1.add 11)),.slice (some n1.z) 1 1] [.lf .bool] fun r1=>
   ifB (!r1.1) (
    cl PP 127 #[.q x0,.i x1] [lI] fun r2=>
    ifB ((r2.1:Int) !=0) (
     K (.i r2.1)) (
     go1 (()))) (
    A8 x0 fun a2=>
    nw (.cells #[.i x1] 3) fun n2=>
    cl PP 128 #[.q (some (a2.add 11)),.slice (some n2.z) 1 1] [.lf .bool] fun r3=>
    ifB (!r3.1) (
     K (.i 13)) (
     K (.i 0)))
  :=CF.mk h61 Tryz.func61 (by kernel_rfl)
theorem e62(x0:Int):CF 62 [.i x0] fun K=>
  cl PP 129 #[.i x0] [.lf .bool] fun r1=>
  ifB (!r1.1) (
   K (.i 0)) (
   K (.i (IntKind.i64.wrap (x0-16))))
  :=CF.mk Hn Tryz.func62 (by kernel_rfl)
def h63:D1:=⟨[(0,[(4,.lf .sl),(9,lI)])],[],[]⟩
theorem e63(x0:SlV):CF 63 [.sv x0] fun K=>
  lp [.lf .sl,lI] (⟨none,0,0⟩,0,()) fun z1 go1=>
   ifB (decide ((z1.2.1:Int)<x0.len)) (
    A8 x0.a fun a1=>
    ixn z1.2.1 x0.len<|
    ld (a1.add (z1.2.1.toNat*3)) Z1 fun v1=>
    nw (.cells #[.i 0,.i 0,.i 0] 102) fun n1=>
    st n1.z [.i v1.1,.i v1.2.1,.i v1.2.2.1]<|
    ld n1.z Z1 fun v2=>
    cl PP 130 #[.agg (ki3 v2)] [.lf .bool] fun r1=>
    ifB (!r1.1) (
     K (.t #[.slice none 0 0,.i 3])) (
     ld n1.z (lI) fun v3=>
     ld (Addr.add n1.z 1) (lI) fun v4=>
     nw (.cells #[.i v3,.i v4] 3) fun n2=>
     cl PP 131 #[.sv z1.1,.slice (some n2.z) 2 2] [.lf .sl,.lf .bool] fun r2=>
     ld (Addr.add n1.z 2) (lI) fun v5=>
     cl PP 132 #[.sv r2.1,.i v5,.i 4] [.lf .sl,lI] fun r3=>
     go1 (⟨r3.1.a,r3.1.len,r3.1.cap⟩,IntKind.i64.wrap (z1.2.1+1),()))) (
    K (.t #[.sv z1.1,.i 0]))
  :=CF.mk h63 Tryz.func63 (by kernel_rfl)
def h64:D1:=⟨[],[],[(7,[0,1,2,3,5,6,7,8,10,11,4,9,12,13,14,15,16,17]),(6,[1,2,0,3,4,5]),(4,[0,1,2,4,5,6,8,9,10,12,13,14,16,17,3,7,11,15,18,19]),(3,[0,1,2,4,5,6,8,9,10,3,7,11,12,13,14]),(2,[0,1,2,4,5,6,3,7,8,9])]⟩
theorem e64(x0:Option Addr)(x1:Int)(x2:SlV):CF 64 [.q x0,.i x1,.sv x2] fun K=>
  nw (.cells #[.i 0,.i 0,.i 0] 102) fun n1=>
  A8 x0 fun a1=>
  ld (a1.add 4) (.lf .ptr) fun v1=>
  A8 x0 fun a2=>
  ld (a2.add 2) (.lf .ptr) fun v2=>
  nw (.cells #[.i x2.len] 3) fun n2=>
  cl PP 134 #[.q x0,.slice (some n2.z) 1 1] [lI] fun r1=>
  keep (C9 (a2.add 2) [.q v2])<|
  cl PP 133 #[.q v2,.i r1.1] [.lf .bool] fun r2=>
  A8 v1 fun a3=>
  A8 v1 fun a4=>
  A8 v1 fun a5=>
  ld a3 (lI) fun v3=>
  ld (a4.add 2) (lI) fun v4=>
  ld (a5.add 1) (lI) fun v5=>
  nw (.cells #[.i 0,.i 0,.i 0] 102) fun n3=>
  st n3.z [.i v3,.i v4,.i v5]<|
  A8 x0 fun a6=>
  A8 v1 fun a7=>
  A8 v1 fun a8=>
  A8 v1 fun a9=>
  ld a6 (.lf .ptr) fun v6=>
  ld a7 (lI) fun v7=>
  ld (a8.add 1) (lI) fun v8=>
  ld (a9.add 2) (lI) fun v9=>
  cl PP 135 #[.q v6,.i v7,.i v8,.i v9,.i x1,.sv x2] [lI] fun r3=>
  ifB ((r3.1:Int) !=0) (
   ld n3.z Z1 fun v10=>
   cl PP 136 #[.q x0,.i r3.1] [lI] fun r4=>
   keep (C9 n3.z [.i v10.1,.i v10.2.1,.i v10.2.2.1])<|
   st n1.z [.i v10.1,.i v10.2.1,.i v10.2.2.1]<|
   ld n1.z Z1 fun v11=>
   K (.t #[.agg (ki3 v11),.i r4.1])) (
   A8 v1 fun a10=>
   A8 v1 fun a11=>
   ld (a10.add 3) (.lf .sl) fun v12=>
   ld (a11.add 2) (lI) fun v13=>
   nw (.cells #[.i x1,.i v13,.i x2.len] 215) fun n4=>
   smW PP (Builtin.append_ #[152,152] 152 #[.sv v12,.slice (some n4.z) 1 1]) [.lf .sl] fun v14=>
   A8 v1 fun a12=>
   st (a12.add 3) [.slice v14.1.a v14.1.len v14.1.cap]<|
   A8 v1 fun a13=>
   ld (a13.add 2) (lI) fun v15=>
   A8 v1 fun a14=>
   st (a14.add 2) [.i (IntKind.i64.wrap (v15+x2.len))]<|
   ld n3.z Z1 fun v16=>
   st n1.z [.i v16.1,.i v16.2.1,.i v16.2.2.1]<|
   ld n1.z Z1 fun v17=>
   K (.t #[.agg (ki3 v17),.i 0]))
  :=CF.mk h64 Tryz.func64 (by kernel_rfl)
def h65:D1:=⟨[],[],[(5,[0,1,2,3,4,5,6,7])]⟩
theorem e65(x0:SlV)(x1:Int)(x2:Int):CF 65 [.sv x0,.i x1,.i x2] fun K=>
  slc ⟨x0.a,x0.len,x0.cap⟩ x1 x2 x0.len 3 fun s1=>
  ifB ((x1:Int)==x2) (
   K (.sv x0)) (
   slc ⟨x0.a,x0.len,x0.cap⟩ 0 x1 x0.cap 3 fun s2=>
   slc ⟨x0.a,x0.len,x0.cap⟩ x2 x0.len x0.cap 3 fun s3=>
   smW PP (Builtin.append_ #[55,55] 55 #[.sv s2,.sv s3]) [.lf .sl] fun v1=>
   slc ⟨v1.1.a,v1.1.len,v1.1.cap⟩ v1.1.len x0.len v1.1.cap 3 fun s4=>
   smW PP (Builtin.clear_ #[55] 0 #[.sv s4]) [] fun v2=>
   K (.sv v1.1))
  :=CF.mk h65 Tryz.func65 (by kernel_rfl)
theorem e67(x0:Option Addr):CF 67 [.q x0] fun K=>
 A8 x0 fun a1=>
 ld a1 (.lf .ptr) fun v1=>
 A8 v1 fun a2=>
 ld (Addr.add (a2.add 19) 2) (.lf .ptr) fun v2=>
 cl PP 68 #[.q v2] [lI] fun r1=>
 K (.i r1.1)
 :=CF.mk Hn Tryz.func67 (by kernel_rfl)
set_option maxRecDepth 100000
def h68:D1:=⟨[(0,[(3,lI),(13,lI)])],[],[]⟩
theorem e68(x0:Option Addr):CF 68 [.q x0] fun K=>
  ifB (!(Option.isNone x0)) (
   A8 x0 fun a1=>
   ld (a1.add 1) (.lf .sl) fun v1=>
   lp [lI,lI] (0,0,()) fun z1 go1=>
    ifB (decide ((z1.2.1:Int)<v1.len)) (
     A8 v1.a fun a2=>
     ixn z1.2.1 v1.len<|
     ld (a2.add (z1.2.1.toNat*1)) (.lf .sl) fun v2=>
     go1 (IntKind.i64.wrap (z1.1+v2.len),IntKind.i64.wrap (z1.2.1+1),())) (
     K (.i z1.1))) (
   K (.i 0))
  :=CF.mk h68 Tryz.func68 (by kernel_rfl)
theorem e69(x0:Option Addr):CF 69 [.q x0] fun K=>
 A8 x0 fun a1=>
 ld a1 (.lf .ptr) fun v1=>
 A8 v1 fun a2=>
 ld (a2.add 19) (.lf .ptr) fun v2=>
 cl PP 70 #[.q v2] [lI] fun r1=>
 K (.i r1.1)
 :=CF.mk Hn Tryz.func69 (by kernel_rfl)
theorem e70(x0:Option Addr):CF 70 [.q x0] fun K=>
  ifB (Option.isNone x0) (
   K (.i 0)) (
   A8 x0 fun a1=>
   ld (a1.add 4) (.lf .map) fun v1=>
   smR PP (Builtin.len_ #[180] 3 #[.map v1]) [lI] fun v2=>
   K (.i v2.1))
  :=CF.mk Hn Tryz.func70 (by kernel_rfl)
theorem e71(x0:SlV):CF 71 [.slice x0.a x0.len x0.cap] fun K=>
  ifB (Option.isNone x0.a) (
   K (.slice none 0 0)) (
   nw (.cells #[] 102) fun n1=>
   smW PP (Builtin.append_ #[55,55] 55 #[.slice (some n1.z) 0 0,.slice x0.a x0.len x0.cap]) [.lf .sl] fun v1=>
   K (.slice v1.1.a v1.1.len v1.1.cap))
  :=CF.mk Hn Tryz.func71 (by kernel_rfl)
theorem e82(x0:Option Addr)(x1:Int):CF 82 [.q x0,.i x1] fun K=>
  cl PP 45 #[.q x0,.i x1] [.lf .ptr] fun r1=>
  ifB (!(Option.isNone r1.1)) (
   A8 r1.1 fun a1=>
   ld (a1.add 1) (lI) fun v1=>
   K (.i v1)) (
   K (.i 0))
  :=CF.mk Hn Tryz.func82 (by kernel_rfl)
theorem e90(x0:Int)(x1:Int)(x2:Int):CF 90 [.i x0,.i x1,.i x2] fun K=>
  ifB (decide ((x0:Int)≥x1)) (
   K (.b (decide ((x0:Int)<=x2)))) (
   K (.b false))
  :=CF.mk Hn Tryz.func90 (by kernel_rfl)
def h91:D1:=⟨[(0,[(8,lI)])],[],[(3,[0,1,2,4,5,3,6,7,8])]⟩
theorem e91(x0:Option Addr)(x1:Int)(x2:Int):CF 91 [.q x0,.i x1,.i x2] fun K=>
  lp [lI] (0,()) fun z1 go1=>
   ifB (decide ((z1.1:Int)<x1)) (
    A8 x0 fun a1=>
    ld a1 (.lf .sl) fun v1=>
    cl PP 163 #[.i x2] [.lf .sl] fun r1=>
    keep (C9 a1 [.sv v1])<|
    A8 v1.a fun a2=>
    ixn z1.1 v1.len<|
    st (a2.add (z1.1.toNat*1)) [.slice r1.1.a r1.1.len r1.1.cap]<|
    go1 (IntKind.i64.wrap (z1.1+1),())) (
    K (.t #[]))
  :=CF.mk h91 Tryz.func91 (by kernel_rfl)
theorem e92(x0:Int)(x1:Int):CF 92 [.i x0,.i x1] fun K=>
  ifB (decide ((x0:Int)<1)) (
   K (.t #[.q none,.i 30])) (
   ifB (decide ((x0:Int)>64)) (
    K (.t #[.q none,.i 30])) (
    ifB (decide ((x1:Int)<1)) (
     K (.t #[.q none,.i 30])) (
     ifB (decide ((x1:Int)>8)) (
      K (.t #[.q none,.i 30])) (
      smA PP (Instr.makeSlice 219 (.i x0) (.i x0)) (.lf .sl) fun v1=>
      nw (.cells #[.i x1,.slice v1.a v1.len v1.cap] 221) fun n1=>
      K (.t #[.p n1,.i 0])))))
  :=CF.mk Hn Tryz.func92 (by kernel_rfl)
theorem e93(x0:Option Addr):CF 93 [.q x0] fun K=>
  nw (.cells #[.i 0,.i 0,.i 0,.i 0] 23) fun n1=>
  ifB (Option.isNone x0) (
   st n1.z [.i 0,.i 0,.i 0,.i 0]<|
   ld n1.z Z4 fun v1=>
   K (.agg (ki4 v1))) (
   A8 x0 fun a1=>
   ld (a1.add 3) Z4 fun v2=>
   st n1.z [.i v2.1,.i v2.2.1,.i v2.2.2.1,.i v2.2.2.2.1]<|
   ld n1.z Z4 fun v3=>
   K (.agg (ki4 v3)))
  :=CF.mk Hn Tryz.func93 (by kernel_rfl)
def h94:D1:=⟨[],[],[(3,[0,1,2,3,4,5,6,10,11,7,8,9,12,13,14,15,16])]⟩
theorem e94(x0:ShV Z2):CF 94 [.agg (ki11 x0)] fun K=>
  nw (.cells (ki11 x0) 25) fun n1=>
  ld (Addr.add n1.z 6) (lI) fun v1=>
  cl PP 164 #[.i v1,.i 65536] [.lf .bool] fun r1=>
  ifB r1.1 (
   ld (Addr.add n1.z 7) (lI) fun v2=>
   cl PP 164 #[.i v2,.i 64] [.lf .bool] fun r2=>
   ld (Addr.add n1.z 8) (lI) fun v3=>
   cl PP 164 #[.i v3,.i 1048576] [.lf .bool] fun r3=>
   ifB r3.1 (
    ld (Addr.add n1.z 9) (lI) fun v4=>
    cl PP 164 #[.i v4,.i 1073741824] [.lf .bool] fun r4=>
    ifB r2.1 (
     ifB r4.1 (
      ld (Addr.add n1.z 1) (lI) fun v5=>
      ld (Addr.add n1.z 2) (lI) fun v6=>
      cl PP 62 #[.i v6] [lI] fun r5=>
      keep (C9 (Addr.add n1.z 1) [.i v5])<|
      K (.b (decide ((IntKind.i64.wrap (3*(IntKind.i64.wrap (v5-2))):Int)<=r5.1)))) (
      K (.b false))) (
     K (.b false))) (
    ifB r2.1 (
     K (.b false)) (
     K (.b false)))) (
   ld (Addr.add n1.z 8) (lI) fun v7=>
   cl PP 164 #[.i v7,.i 1048576] [.lf .bool] fun r6=>
   ifB r6.1 (
    ld (Addr.add n1.z 9) (lI) fun v8=>
    cl PP 164 #[.i v8,.i 1073741824] [.lf .bool] fun r7=>
    K (.b false)) (
    K (.b false)))
  :=CF.mk h94 Tryz.func94 (by kernel_rfl)
def h95:D1:=⟨[(1,[(41,lI)]),(3,[(62,lI)]),(5,[(78,lI)])],[],[]⟩
theorem e95(x0:Option Addr):CF 95 [.q x0] fun K=>
  nw (.cells #[.q x0] 29) fun n1=>
  nw (.cells #[.slice none 0 0,.slice none 0 0,.i 0] 146) fun n2=>
  ld n1.z (.lf .ptr) fun v1=>
  ifB (Option.isNone v1) (
   st n2.z [.slice none 0 0,.slice none 0 0,.i 0]<|
   ld n2.z Z12 fun v2=>
   K (.t #[.agg (kvvi v2),.i 1])) (
   ld n1.z (.lf .ptr) fun v3=>
   cl PP 18 #[.q v3] [.lf .bool] fun r1=>
   ifB r1.1 (
    st n2.z [.slice none 0 0,.slice none 0 0,.i 0]<|
    ld n2.z Z12 fun v4=>
    K (.t #[.agg (kvvi v4),.i 11])) (
    ld n1.z (.lf .ptr) fun v5=>
    cl PP 165 #[.q v5] [.lf .sl,.lf .sl,lI] fun r2=>
    nw (.cells #[.slice none 0 0] 243) fun n3=>
    st n3.z [.slice r2.2.1.a r2.2.1.len r2.2.1.cap]<|
    ifB ((r2.2.2.1:Int) !=0) (
     st n2.z [.slice none 0 0,.slice none 0 0,.i 0]<|
     ld n2.z Z12 fun v6=>
     K (.t #[.agg (kvvi v6),.i r2.2.2.1])) (
     nw (.cells #[.slice none 0 0,.slice none 0 0,.i 0] 146) fun n4=>
     st n4.z [.slice r2.1.a r2.1.len r2.1.cap,.slice none 0 0,.i 0]<|
     lp [lI] (0,()) fun z1 go1=>
      ifB (decide ((z1.1:Int)<r2.1.len)) (
       A8 r2.1.a fun a1=>
       ixn z1.1 r2.1.len<|
       ld (a1.add (z1.1.toNat*3)) Z5 fun v7=>
       nw (.cells #[.i 0,.i 0,.slice none 0 0] 154) fun n5=>
       st n5.z [.i v7.1,.i v7.2.1,.slice v7.2.2.1.a v7.2.2.1.len v7.2.2.1.cap]<|
       ld (Addr.add n4.z 2) (lI) fun v8=>
       ld (Addr.add n5.z 1) (lI) fun v9=>
       st (Addr.add n4.z 2) [.i (Aa2 v8 v9)]<|
       go1 (IntKind.i64.wrap (z1.1+1),())) (
       nw (.cells #[.slice none 0 0] 144) fun n6=>
       nw (.map #[] 0) fun n7=>
       nw (.cells #[.map none] 246) fun n8=>
       st n8.z [.map (some n7)]<|
       cl PP 166 #[.sv r2.1,.i 2,.func (.func 167) #[] #[.p n1,.p n6,.p n8]] [] fun r3=>
       nw (.map #[] 0) fun n9=>
       nw (.cells #[.map none] 249) fun n10=>
       st n10.z [.map (some n9)]<|
       cl PP 166 #[.sv r2.1,.i 3,.func (.func 168) #[] #[.p n3,.p n10]] [] fun r4=>
       ld n6.z (.lf .sl) fun v10=>
       lp [lI] (0,()) fun z2 go2=>
        ifB (decide ((z2.1:Int)<v10.len)) (
         A8 v10.a fun a2=>
         ixn z2.1 v10.len<|
         ld (a2.add (z2.1.toNat*4)) Z6 fun v11=>
         nw (.cells #[.w ByteArray.empty,.i 0,.i 0,.i 0] 162) fun n11=>
         st n11.z [.w v11.1,.i v11.2.1,.i v11.2.2.1,.i v11.2.2.2.1]<|
         ld n10.z (.lf .map) fun v12=>
         ld n8.z (.lf .map) fun v13=>
         ld n11.z (.lf .str) fun v14=>
         smR PP (Instr.lookup 246 (.map v13) (.w v14) false) [Z1] fun v15=>
         smR PP (Instr.lookup 249 (.map v12) (.agg (ki3 v15.1)) false) [.lf .bool] fun v16=>
         ifB v16.1 (
          ld n8.z (.lf .map) fun v17=>
          ld n11.z (.lf .str) fun v18=>
          smW PP (Builtin.delete_ #[246,9] 0 #[.map v17,.w v18]) [] fun v19=>
          go2 (IntKind.i64.wrap (z2.1+1),())) (
          go2 (IntKind.i64.wrap (z2.1+1),()))) (
         ld n6.z (.lf .sl) fun v20=>
         lp [lI] (0,()) fun z3 go3=>
          ifB (decide ((z3.1:Int)<v20.len)) (
           A8 v20.a fun a3=>
           ixn z3.1 v20.len<|
           ld (a3.add (z3.1.toNat*4)) Z6 fun v21=>
           nw (.cells #[.w ByteArray.empty,.i 0,.i 0,.i 0] 162) fun n12=>
           st n12.z [.w v21.1,.i v21.2.1,.i v21.2.2.1,.i v21.2.2.2.1]<|
           ld n8.z (.lf .map) fun v22=>
           ld n12.z (.lf .str) fun v23=>
           smR PP (Instr.lookup 246 (.map v22) (.w v23) true) [Z1,.lf .bool] fun v24=>
           nw (.cells #[.i 0,.i 0,.i 0] 102) fun n13=>
           st n13.z [.i v24.1.1,.i v24.1.2.1,.i v24.1.2.2.1]<|
           ifB v24.2.1 (
            ld n13.z Z1 fun v25=>
            ld (Addr.add n12.z 1) Z1 fun v26=>
            smP PP (binOp .eql 102 (.agg (ki3 v25)) (.agg (ki3 v26))) (.lf .bool) fun v27=>
            ifB v27 (
             ld (Addr.add n4.z 1) (.lf .sl) fun v28=>
             ld n12.z Z6 fun v29=>
             nw (.cells (kwi3 v29) 162) fun n14=>
             smW PP (Builtin.append_ #[144,144] 144 #[.sv v28,.slice (some n14.z) 1 1]) [.lf .sl] fun v30=>
             st (Addr.add n4.z 1) [.slice v30.1.a v30.1.len v30.1.cap]<|
             go3 (IntKind.i64.wrap (z3.1+1),())) (
             go3 (IntKind.i64.wrap (z3.1+1),()))) (
            go3 (IntKind.i64.wrap (z3.1+1),()))) (
           ld n4.z Z12 fun v31=>
           st n2.z [.slice v31.1.a v31.1.len v31.1.cap,.slice v31.2.1.a v31.2.1.len v31.2.1.cap,.i v31.2.2.1]<|
           ld n2.z Z12 fun v32=>
           K (.t #[.agg (kvvi v32),.i 0])))))))
  :=CF.mk h95 Tryz.func95 (by kernel_rfl)
theorem e96(x0:Int)(x1:Int)(x2:Int)(x3:Int):CF 96 [.i x0,.i x1,.i x2,.i x3] fun K=>
 nw (.cells #[.i 1048576] 3) fun n1=>
 cl PP 123 #[.i x0,.slice (some n1.z) 1 1] [lI] fun r1=>
 nw (.cells #[.i 253402300799] 3) fun n2=>
 cl PP 123 #[.i x2,.slice (some n2.z) 1 1] [lI] fun r2=>
 nw (.cells #[.i 1073741824] 3) fun n3=>
 cl PP 123 #[.i x1,.slice (some n3.z) 1 1] [lI] fun r3=>
 nw (.cells #[.i r1.1,.i r2.1,.i r3.1,.i 0] 171) fun n4=>
 ld (Addr.add n4.z 2) (lI) fun v1=>
 nw (.cells #[.i v1] 3) fun n5=>
 cl PP 123 #[.i x3,.slice (some n5.z) 1 1] [lI] fun r4=>
 st (Addr.add n4.z 3) [.i r4.1]<|
 K (.p n4)
 :=CF.mk Hn Tryz.func96 (by kernel_rfl)
theorem e97(x0:Int):CF 97 [.i x0] fun K=>
 nw (.map #[] 0) fun n1=>
 nw (.cells #[.i (Aa2 x0 0),.i 0,.q none,.q none,.map (some n1)] 182) fun n2=>
 K (.p n2)
 :=CF.mk Hn Tryz.func97 (by kernel_rfl)
theorem e98(x0:Int):CF 98 [.i x0] fun K=>
 nw (.cells #[.i (Ad3 (Aa2 x0 0) 64),.int .u64 0,.int .u64 0,.int .u64 0,.int .u64 0,.int .u64 0,.int .u64 0,.int .u64 0,.int .u64 0,.int .u64 0,.int .u64 0,.int .u64 0,.int .u64 0,.int .u64 0,.int .u64 0,.int .u64 0,.int .u64 0,.int .u64 0,.int .u64 0,.int .u64 0,.int .u64 0,.int .u64 0,.int .u64 0,.int .u64 0,.int .u64 0,.int .u64 0,.int .u64 0,.int .u64 0,.int .u64 0,.int .u64 0,.int .u64 0,.int .u64 0,.int .u64 0,.int .u64 0,.int .u64 0,.int .u64 0,.int .u64 0,.int .u64 0,.int .u64 0,.int .u64 0,.int .u64 0,.int .u64 0,.int .u64 0,.int .u64 0,.int .u64 0,.int .u64 0,.int .u64 0,.int .u64 0,.int .u64 0,.int .u64 0,.int .u64 0,.int .u64 0,.int .u64 0,.int .u64 0,.int .u64 0,.int .u64 0,.int .u64 0,.int .u64 0,.int .u64 0,.int .u64 0,.int .u64 0,.int .u64 0,.int .u64 0,.int .u64 0,.int .u64 0,.i 0,.i 0] 256) fun n1=>
 K (.p n1)
 :=CF.mk Hn Tryz.func98 (by kernel_rfl)
def h99:D1:=⟨[(0,[(25,lI)]),(2,[(40,lI)])],[],[]⟩
theorem e99(x0:SlV)(x1:SlV):CF 99 [.sv x0,.sv x1] fun K=>
  ifB (decide ((x0.len:Int)<1)) (
   K (.t #[.q none,.i 2])) (
   ifB (decide ((x0.len:Int)>16)) (
    K (.t #[.q none,.i 2])) (
    cl PP 171 #[.sv x0] [.lf .sl] fun r1=>
    nw (.cells #[.slice r1.1.a r1.1.len r1.1.cap,.slice none 0 0] 259) fun n1=>
    lp [lI] (0,()) fun z1 go1=>
     ifB (decide ((z1.1:Int)<x0.len)) (
      A8 x0.a fun a1=>
      ixn z1.1 x0.len<|
      ld (a1.add (z1.1.toNat*3)) Z7 fun v1=>
      nw (.cells #[.i 0,.b false,.b false] 194) fun n2=>
      st n2.z [.i v1.1,.b v1.2.1,.b v1.2.2.1]<|
      ld n2.z (lI) fun v2=>
      ifB (decide ((v2:Int)<0)) (
       K (.t #[.q none,.i 2])) (
       ld n2.z (lI) fun v3=>
       ifB (decide ((v3:Int)>1048576)) (
        K (.t #[.q none,.i 2])) (
        go1 (IntKind.i64.wrap (z1.1+1),())))) (
      lp [lI] (0,()) fun z2 go2=>
       ifB (decide ((z2.1:Int)<x1.len)) (
        A8 x1.a fun a2=>
        ixn z2.1 x1.len<|
        ld (a2.add (z2.1.toNat*1)) (lI) fun v4=>
        cl PP 172 #[.p n1,.i v4] [.lf .bool] fun r2=>
        ifB (!r2.1) (
         K (.t #[.q none,.i 2])) (
         ld n1.z (.lf .sl) fun v5=>
         A8 v5.a fun a3=>
         ixn v4 v5.len<|
         st (Addr.add (a3.add (v4.toNat*3)) 2) [.b false]<|
         ld (Addr.add n1.z 1) (.lf .sl) fun v6=>
         nw (.cells #[.i v4] 3) fun n3=>
         smW PP (Builtin.append_ #[49,49] 49 #[.sv v6,.slice (some n3.z) 1 1]) [.lf .sl] fun v7=>
         st (Addr.add n1.z 1) [.slice v7.1.a v7.1.len v7.1.cap]<|
         go2 (IntKind.i64.wrap (z2.1+1),()))) (
        K (.t #[.p n1,.i 0])))))
  :=CF.mk h99 Tryz.func99 (by kernel_rfl)
def h100:D1:=⟨[(0,[(3,.lf .sl),(8,lI)])],[],[]⟩
theorem e100(x0:Option Addr):CF 100 [.q x0] fun K=>
  cl PP 93 #[.q x0] [Z4] fun r1=>
  lp [.lf .sl,lI] (⟨none,0,0⟩,0,()) fun z1 go1=>
   ifB (decide ((z1.2.1:Int)<r1.1.1)) (
    cl PP 16 #[.q x0,.i z1.2.1] [lI] fun r2=>
    cl PP 15 #[.q x0,.i z1.2.1] [.lf .bool] fun r3=>
    cl PP 82 #[.q x0,.i z1.2.1] [lI] fun r4=>
    nw (.cells #[.i r2.1,.b r3.1,.b ((r4.1:Int) !=0)] 194) fun n1=>
    smW PP (Builtin.append_ #[159,159] 159 #[.sv z1.1,.slice (some n1.z) 1 1]) [.lf .sl] fun v1=>
    go1 (⟨v1.1.a,v1.1.len,v1.1.cap⟩,IntKind.i64.wrap (z1.2.1+1),())) (
    K (.sv z1.1))
  :=CF.mk h100 Tryz.func100 (by kernel_rfl)
def h101:D1:=⟨[],[],[(3,[0,1,2,3,4,5,6,7,8,9,10,11,12]),(1,[0,1,2,3,5,6,4,8,7,9,10,11,12,13,14,15])]⟩
theorem e101(x0:Option Addr)(x1:ByteArray)(x2:ShV Z1):CF 101 [.q x0,.w x1,.agg (ki3 x2)] fun K=>
  nw (.cells (ki3 x2) 102) fun n1=>
  A8 x0 fun a1=>
  ld (Addr.add (a1.add 19) 2) (.lf .ptr) fun v1=>
  ld n1.z Z1 fun v2=>
  cl PP 41 #[.q x0,.w x1] [.lf (.int .u64)] fun r1=>
  keep (C9 n1.z [.i v2.1,.i v2.2.1,.i v2.2.2.1])<|
  keep (C9 (Addr.add (a1.add 19) 2) [.q v1])<|
  cl PP 173 #[.q v1,.int .u64 r1.1,.agg (ki3 v2)] [Z1,.lf .bool] fun r2=>
  nw (.cells #[.i 0,.i 0,.i 0] 102) fun n2=>
  st n2.z [.i r2.1.1,.i r2.1.2.1,.i r2.1.2.2.1]<|
  ifB r2.2.1 (
   A8 x0 fun a2=>
   ld (Addr.add (a2.add 11) 6) (.lf .sl) fun v3=>
   ld n2.z Z1 fun v4=>
   nw (.cells (ki3 v4) 102) fun n3=>
   smW PP (Builtin.append_ #[55,55] 55 #[.sv v3,.slice (some n3.z) 1 1]) [.lf .sl] fun v5=>
   A8 x0 fun a3=>
   st (Addr.add (a3.add 11) 6) [.slice v5.1.a v5.1.len v5.1.cap]<|
   K (.t #[])) (
   K (.t #[]))
  :=CF.mk h101 Tryz.func101 (by kernel_rfl)
def h102:D1:=⟨[(0,[(9,lI)])],[],[]⟩
theorem e102(x0:SlV)(x1:Int):CF 102 [.sv x0,.int .u64 x1] fun K=>
  lp [lI] (0,()) fun z1 go1=>
   ifB (decide ((z1.1:Int)<x0.len)) (
    A8 x0.a fun a1=>
    ixn z1.1 x0.len<|
    ld (a1.add (z1.1.toNat*1)) (.lf (.int .u64)) fun v1=>
    ifB ((x1:Int)==v1) (
     K (.i z1.1)) (
     go1 (IntKind.i64.wrap (z1.1+1),()))) (
    K (.i (-1)))
  :=CF.mk h102 Tryz.func102 (by kernel_rfl)
def h103:D1:=⟨[(0,[(3,.lf .sl),(9,lI)])],[],[(5,[0,1,2,3,4,6,9,10,5,7,8,11,12,13,14,15])]⟩
theorem e103(x0:Option Addr):CF 103 [.q x0] fun K=>
  A8 x0 fun a1=>
  ld (a1.add 66) (lI) fun v1=>
  lp [.lf .sl,lI] (⟨none,0,0⟩,0,()) fun z1 go1=>
   ifB (decide ((z1.2.1:Int)<v1)) (
    A8 x0 fun a2=>
    A8 x0 fun a3=>
    ld (a2.add 65) (lI) fun v2=>
    req ((64:Int)≠0)<|
    ixn (Int.tmod (IntKind.i64.wrap (v2+z1.2.1)) 64) 64<|
    ld (Addr.add (a3.add 1) ((Int.tmod (IntKind.i64.wrap (v2+z1.2.1)) 64).toNat*1)) (.lf (.int .u64)) fun v3=>
    nw (.cells #[.int .u64 v3] 91) fun n1=>
    smW PP (Builtin.append_ #[165,165] 165 #[.sv z1.1,.slice (some n1.z) 1 1]) [.lf .sl] fun v4=>
    go1 (⟨v4.1.a,v4.1.len,v4.1.cap⟩,IntKind.i64.wrap (z1.2.1+1),())) (
    K (.sv z1.1))
  :=CF.mk h103 Tryz.func103 (by kernel_rfl)
theorem e104(x0:Int)(x1:ByteArray):CF 104 [.i x0,.w x1] fun K=>
 smA PP (Conv.stringToBytes 5 x1) (.lf .sl) fun v1=>
 cl PP 174 #[.int .u64 (Ao1 .xor .u64 (IntKind.u64.wrap x0) 11400714819323198485),.sv v1] [.lf (.int .u64)] fun r1=>
 req ((0:Int)<=32)<|
 K (.int .u64 (Ao1 .xor .u64 (IntKind.u64.wrap ((Ao1 .xor .u64 r1.1 (IntKind.u64.wrap x1.size))*11400714819323198485)) (Int.fdiv (IntKind.u64.wrap ((Ao1 .xor .u64 r1.1 (IntKind.u64.wrap x1.size))*11400714819323198485)) (2^(min (32:Int).toNat IntKind.u64.bits)))))
 :=CF.mk Hn Tryz.func104 (by kernel_rfl)
theorem e105(x0:Option Addr)(x1:ByteArray):CF 105 [.q x0,.w x1] fun K=>
  cl PP 116 #[.q x0,.w x1] [.lf .ptr] fun r1=>
  ifB (Option.isNone r1.1) (
   K (.b false)) (
   cl PP 175 #[.q x0,.q r1.1] [] fun r2=>
   K (.b true))
  :=CF.mk Hn Tryz.func105 (by kernel_rfl)
theorem e106(x0:Option Addr)(x1:Int)(x2:ShV Z1):CF 106 [.q x0,.int .u64 x1,.agg (ki3 x2)] fun K=>
 nw (.cells (ki3 x2) 102) fun n1=>
 ld n1.z Z1 fun v1=>
 cl PP 176 #[.q x0,.int .u64 x1,.agg (ki3 v1)] [Z3,.lf .bool] fun r1=>
 nw (.cells #[.i 0,.i 0,.i 0,.i 0,.i 0] 204) fun n2=>
 st n2.z [.i r1.1.1,.i r1.1.2.1,.i r1.1.2.2.1,.i r1.1.2.2.2.1,.i r1.1.2.2.2.2.1]<|
 K (.b r1.2.1)
 :=CF.mk Hn Tryz.func106 (by kernel_rfl)
theorem e107(x0:Int):CF 107 [.i x0] fun K=>
  ifB (decide ((x0:Int)≥1)) (
   K (.b (decide ((x0:Int)<=255)))) (
   K (.b false))
  :=CF.mk Hn Tryz.func107 (by kernel_rfl)
def h108:D1:=⟨[(0,[(14,lI)])],[],[]⟩
theorem e108(x0:Int)(x1:Int):CF 108 [.i x0,.i x1] fun K=>
  ifB (decide ((x0:Int)<1)) (
   K (.i 0)) (
   ifB (decide ((x1:Int)<2)) (
    K (.i 0)) (
    ld ⟨0,0,none⟩ Z4 fun v1=>
    lp [lI] (0,()) fun z1 go1=>
     ifB (decide ((z1.1:Int)<4)) (
      smP PP (Instr.index 266 (.agg (ki4 v1)) (.i z1.1)) (lI) fun v2=>
      ifB (decide ((v2:Int)≥x0)) (
       ifB (decide ((v2:Int)<=(IntKind.i64.wrap (x1-2)))) (
        K (.i v2)) (
        go1 (IntKind.i64.wrap (z1.1+1),()))) (
       go1 (IntKind.i64.wrap (z1.1+1),()))) (
      K (.i 0))))
  :=CF.mk h108 Tryz.func108 (by kernel_rfl)
theorem e109(x0:Option Addr)(x1:SlV):CF 109 [.q x0,.sv x1] fun K=>
 A8 x0 fun a1=>
 slc ⟨some (a1.add 1),64,64⟩ 0 64 64 1 fun s1=>
 smW PP (Builtin.copy_ #[165,165] 3 #[.sv s1,.sv x1]) [lI] fun v1=>
 A8 x0 fun a2=>
 st (a2.add 65) [.i 0]<|
 A8 x0 fun a3=>
 st (a3.add 66) [.i v1.1]<|
 K (.t #[])
 :=CF.mk Hn Tryz.func109 (by kernel_rfl)
def h110:D1:=⟨[],[],[(5,[0,1,2,3,4,5,6,7])]⟩
theorem e110(x0:SlV)(x1:Int)(x2:Int):CF 110 [.sv x0,.i x1,.i x2] fun K=>
  slc ⟨x0.a,x0.len,x0.cap⟩ x1 x2 x0.len 1 fun s1=>
  ifB ((x1:Int)==x2) (
   K (.sv x0)) (
   slc ⟨x0.a,x0.len,x0.cap⟩ 0 x1 x0.cap 1 fun s2=>
   slc ⟨x0.a,x0.len,x0.cap⟩ x2 x0.len x0.cap 1 fun s3=>
   smW PP (Builtin.append_ #[165,165] 165 #[.sv s2,.sv s3]) [.lf .sl] fun v1=>
   slc ⟨v1.1.a,v1.1.len,v1.1.cap⟩ v1.1.len x0.len v1.1.cap 1 fun s4=>
   smW PP (Builtin.clear_ #[165] 0 #[.sv s4]) [] fun v2=>
   K (.sv v1.1))
  :=CF.mk h110 Tryz.func110 (by kernel_rfl)
def h111:D1:=⟨[(1,[(13,.lf .sl),(14,.lf .sl),(56,lI)])],[],[]⟩
theorem e111(x0:ByteArray)(x1:SlV)(x2:ShV Z4):CF 111 [.w x0,.sv x1,.agg (ki4 x2)] fun K=>
  nw (.cells (ki4 x2) 23) fun n1=>
  cl PP 107 #[.i x0.size] [.lf .bool] fun r1=>
  ifB (!r1.1) (
   K (.t #[.slice none 0 0,.i 2])) (
   ifB (decide ((x1.len:Int)>65536)) (
    K (.t #[.slice none 0 0,.i 4])) (
    ld n1.z Z4 fun v1=>
    cl PP 47 #[.i x0.size,.i x1.len,.agg (ki4 v1)] [lI] fun r2=>
    ifB ((r2.1:Int)==0) (
     K (.t #[.slice none 0 0,.i 14])) (
     cl PP 177 #[.slice none 0 0,.w x0] [.lf .sl,lI] fun r3=>
     smR PP (Conv.bytesToString (.sv x1)) [.lf .str] fun v2=>
     cl PP 177 #[.slice none 0 0,.w v2.1] [.lf .sl,lI] fun r4=>
     nw (.cells #[.slice r3.1.a r3.1.len r3.1.cap,.slice r4.1.a r4.1.len r4.1.cap] 27) fun n2=>
     cl PP 178 #[.slice (some n2.z) 2 2] [.lf .sl] fun r5=>
     cl PP 179 #[.sv r5.1] [lI] fun r6=>
     cl PP 132 #[.sv r5.1,.i r6.1,.i 4] [.lf .sl,lI] fun r7=>
     lp [.lf .sl,.lf .sl,lI] (⟨r7.1.a,r7.1.len,r7.1.cap⟩,⟨none,0,0⟩,0,()) fun z1 go1=>
      ifB (decide ((z1.2.2.1:Int)<r2.1)) (
       ld (Addr.add n1.z 2) (lI) fun v3=>
       cl PP 62 #[.i v3] [lI] fun r8=>
       slc ⟨z1.1.a,z1.1.len,z1.1.cap⟩ 0 (Ad3 z1.1.len r8.1) z1.1.cap 1 fun s1=>
       nw (.cells #[.slice s1.a s1.len s1.cap] 27) fun n3=>
       cl PP 178 #[.slice (some n3.z) 1 1] [.lf .sl] fun r9=>
       nw (.cells #[.slice r9.1.a r9.1.len r9.1.cap] 27) fun n4=>
       smW PP (Builtin.append_ #[96,96] 96 #[.sv z1.2.1,.slice (some n4.z) 1 1]) [.lf .sl] fun v4=>
       slc ⟨z1.1.a,z1.1.len,z1.1.cap⟩ (Ad3 z1.1.len r8.1) z1.1.len z1.1.cap 1 fun s2=>
       go1 (⟨s2.a,s2.len,s2.cap⟩,⟨v4.1.a,v4.1.len,v4.1.cap⟩,IntKind.i64.wrap (z1.2.2.1+1),())) (
       K (.t #[.sv z1.2.1,.i 0])))))
  :=CF.mk h111 Tryz.func111 (by kernel_rfl)
def h112:D1:=⟨[],[],[(1,[0,1,2,3,6,7,8,9,4,5,10,11,12,13])]⟩
theorem e112(x0:Option Addr):CF 112 [.q x0] fun K=>
 A8 x0 fun a1=>
 A8 x0 fun a2=>
 ld a1 (.lf .str) fun v1=>
 ld (a2.add 1) (.lf .sl) fun v2=>
 K (.i (IntKind.i64.wrap (v1.size+v2.len)))
 :=CF.mk h112 Tryz.func112 (by kernel_rfl)
def h113:D1:=⟨[],[],[(1,[0,1,2,3,4,5,7,8,9,6,10,11,12,13])]⟩
theorem e113(x0:Option Addr):CF 113 [.q x0] fun K=>
  ifB (!(Option.isNone x0)) (
   A8 x0 fun a1=>
   A8 x0 fun a2=>
   ld (a1.add 1) (lI) fun v1=>
   ld a2 (lI) fun v2=>
   K (.b (decide ((v1:Int)>v2)))) (
   K (.b false))
  :=CF.mk h113 Tryz.func113 (by kernel_rfl)
theorem e114(x0:Option Addr):CF 114 [.q x0] fun K=>
  nw (.cells #[.w ByteArray.empty,.slice none 0 0,.i 0] 179) fun n1=>
  ifB (Option.isNone x0) (
   st n1.z [.w ByteArray.empty,.slice none 0 0,.i 0]<|
   ld n1.z Z13 fun v1=>
   K (.t #[.agg (kwvi v1),.b false])) (
   A8 x0 fun a1=>
   ld (a1.add 2) (.lf .ptr) fun v2=>
   ifB (Option.isNone v2) (
    st n1.z [.w ByteArray.empty,.slice none 0 0,.i 0]<|
    ld n1.z Z13 fun v3=>
    K (.t #[.agg (kwvi v3),.b false])) (
    A8 x0 fun a2=>
    ld (a2.add 2) (.lf .ptr) fun v4=>
    cl PP 175 #[.q x0,.q v4] [] fun r1=>
    A8 v4 fun a3=>
    ld a3 Z13 fun v5=>
    st n1.z [.w v5.1,.slice v5.2.1.a v5.2.1.len v5.2.1.cap,.i v5.2.2.1]<|
    ld n1.z Z13 fun v6=>
    K (.t #[.agg (kwvi v6),.b true])))
  :=CF.mk Hn Tryz.func114 (by kernel_rfl)
def h115:D1:=⟨[],[(5,[])],[(5,[0,1,2,3,5,6,7,11,12,13,4,8,9,10,14,15]),(2,[0,1,2,4,5,6,3,7,8])]⟩
theorem e115(x0:Option Addr)(x1:Int):CF 115 [.q x0,.int .u64 x1] fun K=>
  ifB (Option.isNone x0) (
   K (.t #[])) (
   A8 x0 fun a1=>
   ld a1 (lI) fun v1=>
   ifB ((v1:Int)==0) (
    K (.t #[])) (
    cl PP 48 #[.q x0,.int .u64 x1] [.lf .bool] fun r1=>
    jn (fun y1:RsV []=>
     A8 x0 fun a8=>
     A8 x0 fun a9=>
     A8 x0 fun a10=>
     ld (a8.add 65) (lI) fun v6=>
     ld (a9.add 66) (lI) fun v7=>
     req ((64:Int)≠0)<|
     ixn (Int.tmod (IntKind.i64.wrap (v6+v7)) 64) 64<|
     st (Addr.add (a10.add 1) ((Int.tmod (IntKind.i64.wrap (v6+v7)) 64).toNat*1)) [.int .u64 x1]<|
     A8 x0 fun a11=>
     ld (a11.add 66) (lI) fun v8=>
     A8 x0 fun a12=>
     st (a12.add 66) [.i (IntKind.i64.wrap (v8+1))]<|
     K (.t #[])) fun j1=>
    A8 x0 fun a2=>
     A8 x0 fun a3=>
     ld (a2.add 66) (lI) fun v2=>
     ld a3 (lI) fun v3=>
     ifB ((v2:Int)==v3) (
      A8 x0 fun a4=>
      ld (a4.add 65) (lI) fun v4=>
      req ((64:Int)≠0)<|
      A8 x0 fun a5=>
      st (a5.add 65) [.i (Int.tmod (IntKind.i64.wrap (v4+1)) 64)]<|
      A8 x0 fun a6=>
      ld (a6.add 66) (lI) fun v5=>
      A8 x0 fun a7=>
      st (a7.add 66) [.i (IntKind.i64.wrap (v5-1))]<|
      j1 (())) (
      j1 (()))))
  :=CF.mk h115 Tryz.func115 (by kernel_rfl)
theorem e116(x0:Option Addr)(x1:ByteArray):CF 116 [.q x0,.w x1] fun K=>
  ifB (Option.isNone x0) (
   K (.q none)) (
   A8 x0 fun a1=>
   ld (a1.add 4) (.lf .map) fun v1=>
   smR PP (Instr.lookup 180 (.map v1) (.w x1) false) [.lf .ptr] fun v2=>
   K (.q v2.1))
  :=CF.mk Hn Tryz.func116 (by kernel_rfl)
set_option maxRecDepth 100000
def h117:D1:=⟨[(0,[(5,.lf .sl),(16,lI)])],[],[(7,[0,1,3,2,4,5])]⟩
theorem e117(x0:Option Addr)(x1:Int):CF 117 [.q x0,.int .u64 x1] fun K=>
  ifB (Option.isNone x0) (
   K (.slice none 0 0)) (
   cl PP 137 #[.q x0,.int .u64 x1] [.lf .ptr] fun r1=>
   A8 r1.1 fun a1=>
   ld a1 (.lf .sl) fun v1=>
   lp [.lf .sl,lI] (⟨none,0,0⟩,0,()) fun z1 go1=>
    ifB (decide ((z1.2.1:Int)<v1.len)) (
     A8 v1.a fun a2=>
     ixn z1.2.1 v1.len<|
     ld (a2.add (z1.2.1.toNat*5)) Z3 fun v2=>
     nw (.cells #[.i 0,.i 0,.i 0,.i 0,.i 0] 204) fun n1=>
     st n1.z [.i v2.1,.i v2.2.1,.i v2.2.2.1,.i v2.2.2.2.1,.i v2.2.2.2.2.1]<|
     ld n1.z (lI) fun v3=>
     cl PP 180 #[.int .u64 x1] [lI] fun r2=>
     keep (C9 n1.z [.i v3])<|
     ifB ((v3:Int)==r2.1) (
      ld (Addr.add n1.z 1) Z1 fun v4=>
      nw (.cells (ki3 v4) 102) fun n2=>
      smW PP (Builtin.append_ #[55,55] 55 #[.sv z1.1,.slice (some n2.z) 1 1]) [.lf .sl] fun v5=>
      go1 (⟨v5.1.a,v5.1.len,v5.1.cap⟩,IntKind.i64.wrap (z1.2.1+1),())) (
      go1 (⟨z1.1.a,z1.1.len,z1.1.cap⟩,IntKind.i64.wrap (z1.2.1+1),()))) (
     K (.sv z1.1)))
  :=CF.mk h117 Tryz.func117 (by kernel_rfl)
def h118:D1:=⟨[(0,[(9,.lf .sl),(10,lI)])],[(17,[(10,lI)])],[]⟩
theorem e118(x0:Option Addr)(x1:ShV Z1):CF 118 [.q x0,.agg (ki3 x1)] fun K=>
  nw (.cells (ki3 x1) 102) fun n1=>
  ld n1.z (lI) fun v1=>
  cl PP 181 #[.q x0,.i v1,.i 0] [.lf .sl,lI] fun r1=>
  ifB ((r1.2.1:Int) !=0) (
   K (.t #[.w (ByteArray.mk #[]),.slice none 0 0,.i r1.2.1])) (
   lp [.lf .sl,lI] (⟨none,0,0⟩,1,()) fun z1 go1=>
    ifB (decide ((z1.1.len:Int)<z1.2.1)) (
     ld n1.z (lI) fun v2=>
     ld (Addr.add n1.z 1) (lI) fun v3=>
     cl PP 181 #[.q x0,.i v2,.i (IntKind.i64.wrap (v3+z1.1.len))] [.lf .sl,lI] fun r2=>
     ifB ((r2.2.1:Int) !=0) (
      K (.t #[.w (ByteArray.mk #[]),.slice none 0 0,.i 8])) (
      cl PP 182 #[.sv r2.1] [Z3,.lf .sl,lI] fun r3=>
      nw (.cells #[.i 0,.i 0,.i 0,.i 0,.i 0] 272) fun n2=>
      st n2.z [.i r3.1.1,.i r3.1.2.1,.i r3.1.2.2.1,.i r3.1.2.2.2.1,.i r3.1.2.2.2.2.1]<|
      ifB ((r3.2.2.1:Int) !=0) (
       K (.t #[.w (ByteArray.mk #[]),.slice none 0 0,.i 8])) (
       jn (fun y1:RsV [lI]=>
        nw (.cells #[.slice r3.2.1.a r3.2.1.len r3.2.1.cap] 27) fun n3=>
        smW PP (Builtin.append_ #[96,96] 96 #[.sv z1.1,.slice (some n3.z) 1 1]) [.lf .sl] fun v11=>
        go1 (⟨v11.1.a,v11.1.len,v11.1.cap⟩,y1.1,())) fun j1=>
       ifB ((z1.1.len:Int)==0) (
         ld n2.z (lI) fun v4=>
         ifB ((v4:Int) !=2) (
          K (.t #[.w (ByteArray.mk #[]),.slice none 0 0,.i 8])) (
          ld (Addr.add n2.z 1) (lI) fun v5=>
          ifB ((v5:Int) !=0) (
           K (.t #[.w (ByteArray.mk #[]),.slice none 0 0,.i 8])) (
           ld (Addr.add n2.z 3) (lI) fun v6=>
           ld (Addr.add n1.z 2) (lI) fun v7=>
           ifB ((v6:Int) !=v7) (
            K (.t #[.w (ByteArray.mk #[]),.slice none 0 0,.i 8])) (
            ld (Addr.add n2.z 4) (lI) fun v8=>
            ld (Addr.add n1.z 1) (lI) fun v9=>
            ifB ((v8:Int) !=v9) (
             K (.t #[.w (ByteArray.mk #[]),.slice none 0 0,.i 8])) (
             ld (Addr.add n2.z 2) (lI) fun v10=>
             j1 (v10,())))))) (
         j1 (z1.2.1,()))))) (
     cl PP 183 #[.sv z1.1] [.lf .str,.lf .sl,lI] fun r4=>
     K (.t (kwvi r4))))
  :=CF.mk h118 Tryz.func118 (by kernel_rfl)
def h119:D1:=⟨[(0,[(14,lI)])],[],[]⟩
theorem e119(x0:Option Addr)(x1:FnV)(x2:FnV):CF 119 [.q x0,.func x1.fn x1.first x1.captured,.func x2.fn x2.first x2.captured] fun K=>
  ifB (Option.isNone x0) (
   K (.t #[])) (
   A8 x0 fun a1=>
   ld a1 (.lf .sl) fun v1=>
   lp [lI] (0,()) fun z1 go1=>
    ifB (decide ((z1.1:Int)<v1.len)) (
     clv PP x1.fn (x1.first++#[.i z1.1]) x1.captured [.lf .bool] fun r1=>
     ifB r1.1 (
      A8 x0 fun a2=>
      ld a2 (.lf .sl) fun v2=>
      A8 v2.a fun a3=>
      ixn z1.1 v2.len<|
      ld (a3.add (z1.1.toNat*3)) Z7 fun v3=>
      clv PP x2.fn (x2.first++#[.i z1.1,.agg (kibb v3)]) x2.captured [] fun r2=>
      go1 (IntKind.i64.wrap (z1.1+1),())) (
      go1 (IntKind.i64.wrap (z1.1+1),()))) (
     K (.t #[])))
  :=CF.mk h119 Tryz.func119 (by kernel_rfl)
theorem e120(x0:Option Addr)(x1:Int):CF 120 [.q x0,.i x1] fun K=>
  ifB (!(Option.isNone x0)) (
   ifB (decide ((x1:Int)≥0)) (
    A8 x0 fun a1=>
    ld a1 (.lf .sl) fun v1=>
    ifB (decide ((x1:Int)<v1.len)) (
     A8 x0 fun a2=>
     ld a2 (.lf .sl) fun v2=>
     A8 v2.a fun a3=>
     ixn x1 v2.len<|
     ld (Addr.add (a3.add (x1.toNat*3)) 1) (.lf .bool) fun v3=>
     K (.b (!v3))) (
     K (.b false))) (
    K (.b false))) (
   K (.b false))
  :=CF.mk Hn Tryz.func120 (by kernel_rfl)
def h122:D1:=⟨[],[],[(3,[0,2,3,7,9,1,4,5,6,11,8,10,12]),(2,[1,0,2])]⟩
theorem e122(x0:ShV Z9)(x1:Int):CF 122 [.agg (kii x0),.i x1] fun K=>
  nw (.cells (kii x0) 169) fun n1=>
  nw (.cells #[.i 0,.i 0] 169) fun n2=>
  ld (Addr.add n1.z 1) (lI) fun v1=>
  ifB (decide ((x1:Int)<=v1)) (
   ld n1.z Z9 fun v2=>
   st n2.z [.i v2.1,.i v2.2.1]<|
   ld n2.z Z9 fun v3=>
   K (.t #[.i 0,.agg (kii v3)])) (
   ld n1.z (lI) fun v4=>
   ld (Addr.add n1.z 1) (lI) fun v5=>
   ld n1.z (lI) fun v6=>
   st n2.z [.i v6,.i x1]<|
   ld n2.z Z9 fun v7=>
   K (.t #[.i (IntKind.i64.wrap (v4*(IntKind.i64.wrap (x1-v5)))),.agg (kii v7)]))
  :=CF.mk h122 Tryz.func122 (by kernel_rfl)
def h123:D1:=⟨[(0,[(0,lI),(9,lI)])],[],[]⟩
theorem e123(x0:Int)(x1:SlV):CF 123 [.i x0,.sv x1] fun K=>
  lp [lI,lI] (x0,0,()) fun z1 go1=>
   ifB (decide ((z1.2.1:Int)<x1.len)) (
    A8 x1.a fun a1=>
    ixn z1.2.1 x1.len<|
    ld (a1.add (z1.2.1.toNat*1)) (lI) fun v1=>
    go1 (Ad3 z1.1 v1,IntKind.i64.wrap (z1.2.1+1),())) (
    K (.i (Aa2 z1.1 0)))
  :=CF.mk h123 Tryz.func123 (by kernel_rfl)
def h124:D1:=⟨[(0,[(24,lI)])],[],[(7,[0,1,2,3,4,5,6]),(3,[0,1,5,6,2,3,4,7,8,9,10])]⟩
theorem e124(x0:Option Addr)(x1:Int)(x2:ShV Z1)(x3:FnV):CF 124 [.q x0,.int .u64 x1,.agg (ki3 x2),.func x3.fn x3.first x3.captured] fun K=>
  nw (.cells (ki3 x2) 102) fun n1=>
  ifB (Option.isNone x0) (
   K (.b false)) (
   ld n1.z Z1 fun v1=>
   cl PP 137 #[.q x0,.int .u64 x1] [.lf .ptr] fun r1=>
   keep (C9 n1.z [.i v1.1,.i v1.2.1,.i v1.2.2.1])<|
   A8 r1.1 fun a1=>
   ld a1 (.lf .sl) fun v2=>
   cl PP 184 #[.int .u64 x1,.agg (ki3 v1)] [Z4] fun r2=>
   keep (C9 a1 [.sv v2])<|
   nw (.cells #[.i 0,.i 0,.i 0,.i 0] 202) fun n2=>
   st n2.z [.i r2.1.1,.i r2.1.2.1,.i r2.1.2.2.1,.i r2.1.2.2.2.1]<|
   lp [lI] (0,()) fun z1 go1=>
    ifB (decide ((z1.1:Int)<v2.len)) (
     A8 v2.a fun a2=>
     ixn z1.1 v2.len<|
     ld (a2.add (z1.1.toNat*5)) Z4 fun v3=>
     ld n2.z Z4 fun v4=>
     smP PP (binOp .eql 202 (.agg (ki4 v3)) (.agg (ki4 v4))) (.lf .bool) fun v5=>
     ifB v5 (
      A8 v2.a fun a3=>
      ixn z1.1 v2.len<|
      clv PP x3.fn (x3.first++#[.q (some (a3.add (z1.1.toNat*5)))]) x3.captured [] fun r3=>
      K (.b true)) (
      go1 (IntKind.i64.wrap (z1.1+1),()))) (
     K (.b false)))
  :=CF.mk h124 Tryz.func124 (by kernel_rfl)
theorem e125(x0:Option Addr):CF 125 [.q x0] fun K=>
 A8 x0 fun a1=>
 ld (a1.add 4) (lI) fun v1=>
 A8 x0 fun a2=>
 st (a2.add 4) [.i (Ad3 (IntKind.i64.wrap (v1+1)) 3)]<|
 K (.t #[])
 :=CF.mk Hn Tryz.func125 (by kernel_rfl)
def h126:D1:=⟨[(0,[(5,lI),(22,lI)])],[],[]⟩
theorem e126(x0:Option Addr)(x1:SlV):CF 126 [.q x0,.sv x1] fun K=>
  A8 x0 fun a1=>
  ld (a1.add 4) (.lf .ptr) fun v1=>
  ifB (Option.isNone v1) (
   K (.b false)) (
   A8 x0 fun a2=>
   ld (a2.add 4) (.lf .ptr) fun v2=>
   A8 v2 fun a3=>
   ld (a3.add 2) (lI) fun v3=>
   lp [lI,lI] (v3,0,()) fun z1 go1=>
    ifB (decide ((z1.2.1:Int)<x1.len)) (
     A8 x1.a fun a4=>
     ixn z1.2.1 x1.len<|
     ld (a4.add (z1.2.1.toNat*1)) (lI) fun v4=>
     go1 (IntKind.i64.wrap (z1.1+v4),IntKind.i64.wrap (z1.2.1+1),())) (
     A8 x0 fun a5=>
     ld a5 (.lf .ptr) fun v5=>
     cl PP 93 #[.q v5] [Z4] fun r1=>
     K (.b (decide ((z1.1:Int)<r1.1.2.1)))))
  :=CF.mk h126 Tryz.func126 (by kernel_rfl)
def h127:D1:=⟨[(1,[])],[(4,[(5,lI)]),(21,[])],[]⟩
theorem e127(x0:Option Addr)(x1:Int):CF 127 [.q x0,.i x1] fun K=>
  jn (fun y1:RsV [lI]=>
   A8 x0 fun a2=>
   nw (.cells #[.i x1,.i 1,.i y1.1] 3) fun n1=>
   cl PP 128 #[.q (some (a2.add 11)),.slice (some n1.z) 3 3] [.lf .bool] fun r1=>
   ifB (!r1.1) (
    K (.i 13)) (
    A8 x0 fun a3=>
    ld (Addr.add (a3.add 11) 5) (lI) fun v2=>
    ifB (decide ((v2:Int)≥1073741824)) (
     K (.i 7)) (
     A8 x0 fun a4=>
     ld (Addr.add (a4.add 11) 1) (.lf .ptr) fun v3=>
     cl PP 185 #[.q v3] [lI] fun r2=>
     ifB ((r2.1:Int)==0) (
      A8 x0 fun a5=>
      cl PP 186 #[.q (some (a5.add 11))] [.lf .ptr] fun r3=>
      ifB (Option.isNone r3.1) (
       K (.i 7)) (
       cl PP 187 #[.q x0,.q r3.1,.i x1] [lI] fun r4=>
       K (.i r4.1))) (
      A8 x0 fun a6=>
      cl PP 188 #[.q (some (a6.add 11))] [lI] fun r5=>
      ifB ((r5.1:Int) !=0) (
       K (.i r5.1)) (
       A8 x0 fun a7=>
       ld (Addr.add (a7.add 11) 1) (.lf .ptr) fun v4=>
       cl PP 189 #[.q v4] [lI,.lf .bool,.lf .bool] fun r6=>
       jn (fun y2:RsV []=>
        A8 x0 fun a10=>
        cl PP 191 #[.q (some (a10.add 11)),.i r6.1] [lI] fun r9=>
        ifB ((r9.1:Int) !=0) (
         K (.i r9.1)) (
         lp [] (()) fun z1 go1=>
          A8 x0 fun a11=>
          ld (Addr.add (a11.add 11) 1) (.lf .ptr) fun v6=>
          cl PP 185 #[.q v6] [lI] fun r10=>
          ifB ((r10.1:Int)==0) (
           A8 x0 fun a12=>
           cl PP 186 #[.q (some (a12.add 11))] [.lf .ptr] fun r11=>
           ifB (Option.isNone r11.1) (
            K (.i 0)) (
            cl PP 187 #[.q x0,.q r11.1,.i x1] [lI] fun r12=>
            ifB ((r12.1:Int) !=0) (
             K (.i r12.1)) (
             go1 (())))) (
           K (.i 0)))) fun j2=>
       ifB r6.2.1 (
         A8 x0 fun a8=>
         cl PP 190 #[.q (some (a8.add 11)),.i r6.1] [lI] fun r7=>
         ifB ((r7.1:Int) !=0) (
          K (.i r7.1)) (
          A8 x0 fun a9=>
          ld (a9.add 11) (.lf .ptr) fun v5=>
          cl PP 15 #[.q v5,.i r6.1] [.lf .bool] fun r8=>
          ifB r8.1 (
           K (.i r7.1)) (
           j2 (())))) (
         j2 (()))))))) fun j1=>
  A8 x0 fun a1=>
   ld (Addr.add (a1.add 11) 4) (.lf .ptr) fun v1=>
   ifB (!(Option.isNone v1)) (
    j1 (1,())) (
    j1 (0,()))
  :=CF.mk h127 Tryz.func127 (by kernel_rfl)
theorem e128(x0:Option Addr)(x1:SlV):CF 128 [.q x0,.sv x1] fun K=>
 A8 x0 fun a1=>
 ld (a1.add 2) (.lf .ptr) fun v1=>
 cl PP 44 #[.q v1] [lI] fun r1=>
 cl PP 134 #[.q x0,.sv x1] [lI] fun r2=>
 K (.b (decide ((r1.1:Int)≥r2.1)))
 :=CF.mk Hn Tryz.func128 (by kernel_rfl)
theorem e129(x0:Int):CF 129 [.i x0] fun K=>
  ifB (decide ((x0:Int)≥64)) (
   K (.b (decide ((x0:Int)<=512)))) (
   K (.b false))
  :=CF.mk Hn Tryz.func129 (by kernel_rfl)
theorem e130(x0:ShV Z1):CF 130 [.agg (ki3 x0)] fun K=>
  nw (.cells (ki3 x0) 102) fun n1=>
  ld n1.z (lI) fun v1=>
  ifB (decide ((v1:Int)≥0)) (
   ld n1.z (lI) fun v2=>
   ifB (decide ((v2:Int)<16)) (
    ld (Addr.add n1.z 1) (lI) fun v3=>
    ifB (decide ((v3:Int)≥0)) (
     ld (Addr.add n1.z 1) (lI) fun v4=>
     ifB (decide ((v4:Int)<16)) (
      ld (Addr.add n1.z 2) (lI) fun v5=>
      ifB (decide ((v5:Int)≥1)) (
       ld (Addr.add n1.z 2) (lI) fun v6=>
       K (.b (decide ((v6:Int)<=1073741824)))) (
       K (.b false))) (
      K (.b false))) (
     K (.b false))) (
    K (.b false))) (
   K (.b false))
  :=CF.mk Hn Tryz.func130 (by kernel_rfl)
def h131:D1:=⟨[(0,[(0,.lf .sl),(10,lI)])],[],[]⟩
theorem e131(x0:SlV)(x1:SlV):CF 131 [.sv x0,.sv x1] fun K=>
  lp [.lf .sl,lI] (⟨x0.a,x0.len,x0.cap⟩,0,()) fun z1 go1=>
   ifB (decide ((z1.2.1:Int)<x1.len)) (
    A8 x1.a fun a1=>
    ixn z1.2.1 x1.len<|
    ld (a1.add (z1.2.1.toNat*1)) (lI) fun v1=>
    ifB (decide ((v1:Int)<0)) (
     K (.t #[.slice none 0 0,.b false])) (
     ifB (decide ((v1:Int)>255)) (
      K (.t #[.slice none 0 0,.b false])) (
      nw (.cells #[.int .u8 (IntKind.u8.wrap v1)] 5) fun n1=>
      smW PP (Builtin.append_ #[27,27] 27 #[.sv z1.1,.slice (some n1.z) 1 1]) [.lf .sl] fun v2=>
      go1 (⟨v2.1.a,v2.1.len,v2.1.cap⟩,IntKind.i64.wrap (z1.2.1+1),())))) (
    K (.t #[.sv z1.1,.b true]))
  :=CF.mk h131 Tryz.func131 (by kernel_rfl)
theorem e132(x0:SlV)(x1:Int)(x2:Int):CF 132 [.sv x0,.i x1,.i x2] fun K=>
  ifB (decide ((x2:Int)<1)) (
   K (.t #[.slice none 0 0,.i 2])) (
   ifB (decide ((x2:Int)>7)) (
    K (.t #[.slice none 0 0,.i 2])) (
    ifB (decide ((x1:Int)<0)) (
     K (.t #[.slice none 0 0,.i 3])) (
     req ((0:Int)<=(IntKind.i64.wrap (8*x2)))<|
     ifB ((Int.fdiv x1 (2^(min (IntKind.i64.wrap (8*x2):Int).toNat IntKind.i64.bits)):Int) !=0) (
      K (.t #[.slice none 0 0,.i 3])) (
      cl PP 192 #[.i x1] [Z8] fun r1=>
      nw (.cells #[.int .u8 0,.int .u8 0,.int .u8 0,.int .u8 0,.int .u8 0,.int .u8 0,.int .u8 0,.int .u8 0] 282) fun n1=>
      st n1.z [.int .u8 r1.1.1,.int .u8 r1.1.2.1,.int .u8 r1.1.2.2.1,.int .u8 r1.1.2.2.2.1,.int .u8 r1.1.2.2.2.2.1,.int .u8 r1.1.2.2.2.2.2.1,.int .u8 r1.1.2.2.2.2.2.2.1,.int .u8 r1.1.2.2.2.2.2.2.2.1]<|
      smA PP (Instr.makeSlice 27 (.i 0) (.i (IntKind.i64.wrap (x0.len+x2)))) (.lf .sl) fun v1=>
      smW PP (Builtin.append_ #[27,27] 27 #[.sv v1,.sv x0]) [.lf .sl] fun v2=>
      slc ⟨some n1.z,8,8⟩ 0 x2 8 1 fun s1=>
      smW PP (Builtin.append_ #[27,27] 27 #[.sv v2.1,.sv s1]) [.lf .sl] fun v3=>
      K (.t #[.sv v3.1,.i 0])))))
  :=CF.mk Hn Tryz.func132 (by kernel_rfl)
theorem e133(x0:Option Addr)(x1:Int):CF 133 [.q x0,.i x1] fun K=>
  ifB (Option.isNone x0) (
   K (.b false)) (
   ifB (decide ((x1:Int)<0)) (
    K (.b false)) (
    A8 x0 fun a1=>
    ld (a1.add 3) (lI) fun v1=>
    ifB (decide ((x1:Int)>v1)) (
     K (.b false)) (
     A8 x0 fun a2=>
     ld (a2.add 3) (lI) fun v2=>
     A8 x0 fun a3=>
     st (a3.add 3) [.i (IntKind.i64.wrap (v2-x1))]<|
     K (.b true))))
  :=CF.mk Hn Tryz.func133 (by kernel_rfl)
def h134:D1:=⟨[(0,[(5,lI),(10,lI)])],[],[]⟩
theorem e134(x0:Option Addr)(x1:SlV):CF 134 [.q x0,.sv x1] fun K=>
  lp [lI,lI] (0,0,()) fun z1 go1=>
   ifB (decide ((z1.2.1:Int)<x1.len)) (
    A8 x1.a fun a1=>
    ixn z1.2.1 x1.len<|
    ld (a1.add (z1.2.1.toNat*1)) (lI) fun v1=>
    go1 (IntKind.i64.wrap (z1.1+v1),IntKind.i64.wrap (z1.2.1+1),())) (
    A8 x0 fun a2=>
    ld a2 (.lf .ptr) fun v2=>
    cl PP 93 #[.q v2] [Z4] fun r1=>
    K (.i (IntKind.i64.wrap (z1.1*r1.1.2.2.1))))
  :=CF.mk h134 Tryz.func134 (by kernel_rfl)
def h135:D1:=⟨[(0,[(28,lI)])],[],[]⟩
theorem e135(x0:Option Addr)(x1:Int)(x2:Int)(x3:Int)(x4:Int)(x5:SlV):CF 135 [.q x0,.i x1,.i x2,.i x3,.i x4,.sv x5] fun K=>
  ifB ((x5.len:Int)==0) (
   K (.i 2)) (
   nw (.cells #[.i 0,.i 0,.i 0,.i 0,.i 0] 272) fun n1=>
   st n1.z [.i x4,.i 0,.i x5.len,.i x2,.i x3]<|
   lp [lI] (0,()) fun z1 go1=>
    ifB (decide ((z1.1:Int)<x5.len)) (
     A8 x5.a fun a1=>
     ixn z1.1 x5.len<|
     ld (a1.add (z1.1.toNat*1)) (.lf .sl) fun v1=>
     st (Addr.add n1.z 1) [.i z1.1]<|
     ld n1.z Z3 fun v2=>
     cl PP 193 #[.q x0,.i x1,.agg (ki5 v2),.sv v1] [lI] fun r1=>
     ifB ((r1.1:Int) !=0) (
      K (.i r1.1)) (
      ld (Addr.add n1.z 4) (lI) fun v3=>
      st (Addr.add n1.z 4) [.i (IntKind.i64.wrap (v3+1))]<|
      go1 (IntKind.i64.wrap (z1.1+1),()))) (
     K (.i 0)))
  :=CF.mk h135 Tryz.func135 (by kernel_rfl)
theorem e136(x0:Option Addr)(x1:Int):CF 136 [.q x0,.i x1] fun K=>
  A8 x0 fun a1=>
  ld (a1.add 7) (.lf .bool) fun v1=>
  ifB v1 (
   A8 x0 fun a2=>
   st (a2.add 7) [.b true]<|
   K (.i x1)) (
   A8 x0 fun a3=>
   st (a3.add 7) [.b ((x1:Int)==11)]<|
   K (.i x1))
  :=CF.mk Hn Tryz.func136 (by kernel_rfl)
def h137:D1:=⟨[],[],[(1,[0,1,2,4,5,6,7,3,8,9,10,11,12])]⟩
theorem e137(x0:Option Addr)(x1:Int):CF 137 [.q x0,.int .u64 x1] fun K=>
 A8 x0 fun a1=>
 A8 x0 fun a2=>
 ld (a1.add 1) (.lf .sl) fun v1=>
 ld (a2.add 1) (.lf .sl) fun v2=>
 cl PP 194 #[.int .u64 x1,.i v2.len] [lI] fun r1=>
 keep (C9 (a1.add 1) [.sv v1])<|
 A8 v1.a fun a3=>
 ixn r1.1 v1.len<|
 K (.q (some (a3.add (r1.1.toNat*1))))
 :=CF.mk h137 Tryz.func137 (by kernel_rfl)
set_option maxRecDepth 100000
def h163:D1:=⟨[(0,[(9,lI)])],[],[]⟩
theorem e163(x0:Int):CF 163 [.i x0] fun K=>
  smA PP (Instr.makeSlice 27 (.i x0) (.i x0)) (.lf .sl) fun v1=>
  lp [lI] (0,()) fun z1 go1=>
   ifB (decide ((z1.1:Int)<v1.len)) (
    A8 v1.a fun a1=>
    ixn z1.1 v1.len<|
    st (a1.add (z1.1.toNat*1)) [.int .u8 255]<|
    go1 (IntKind.i64.wrap (z1.1+1),())) (
    K (.sv v1))
  :=CF.mk h163 Tryz.func163 (by kernel_rfl)
theorem e164(x0:Int)(x1:Int):CF 164 [.i x0,.i x1] fun K=>
  ifB (decide ((x0:Int)≥0)) (
   K (.b (decide ((x0:Int)<=x1)))) (
   K (.b false))
  :=CF.mk Hn Tryz.func164 (by kernel_rfl)
def h165:D1:=⟨[(0,[(5,.lf .sl),(6,.lf .sl),(15,lI)])],[],[]⟩
theorem e165(x0:Option Addr):CF 165 [.q x0] fun K=>
  cl PP 93 #[.q x0] [Z4] fun r1=>
  lp [.lf .sl,.lf .sl,lI] (⟨none,0,0⟩,⟨none,0,0⟩,0,()) fun z1 go1=>
   ifB (decide ((z1.2.2.1:Int)<r1.1.1)) (
    cl PP 223 #[.q x0,.i z1.2.2.1] [.lf .sl,lI] fun r2=>
    ifB ((r2.2.1:Int) !=0) (
     K (.t #[.slice none 0 0,.slice none 0 0,.i r2.2.1])) (
     nw (.cells #[.slice r2.1.a r2.1.len r2.1.cap] 96) fun n1=>
     smW PP (Builtin.append_ #[243,243] 243 #[.sv z1.2.1,.slice (some n1.z) 1 1]) [.lf .sl] fun v1=>
     cl PP 224 #[.sv r2.1] [Z11,.lf .bool] fun r3=>
     nw (.cells #[.i 0,.b false,.slice none 0 0] 319) fun n2=>
     st n2.z [.i r3.1.1,.b r3.1.2.1,.slice r3.1.2.2.1.a r3.1.2.2.1.len r3.1.2.2.1.cap]<|
     ifB r3.2.1 (
      ld n2.z (lI) fun v2=>
      ld (Addr.add n2.z 2) (.lf .sl) fun v3=>
      nw (.cells #[.i z1.2.2.1,.i v2,.slice v3.a v3.len v3.cap] 154) fun n3=>
      smW PP (Builtin.append_ #[143,143] 143 #[.sv z1.1,.slice (some n3.z) 1 1]) [.lf .sl] fun v4=>
      go1 (⟨v4.1.a,v4.1.len,v4.1.cap⟩,⟨v1.1.a,v1.1.len,v1.1.cap⟩,IntKind.i64.wrap (z1.2.2.1+1),())) (
      go1 (⟨z1.1.a,z1.1.len,z1.1.cap⟩,⟨v1.1.a,v1.1.len,v1.1.cap⟩,IntKind.i64.wrap (z1.2.2.1+1),())))) (
    cl PP 225 #[.sv z1.1,.func (.func 226) #[] #[]] [] fun r4=>
    K (.t #[.sv z1.1,.sv z1.2.1,.i 0]))
  :=CF.mk h165 Tryz.func165 (by kernel_rfl)
def h166:D1:=⟨[(0,[(12,lI)]),(2,[(19,lI)])],[],[]⟩
theorem e166(x0:SlV)(x1:Int)(x2:FnV):CF 166 [.slice x0.a x0.len x0.cap,.i x1,.func x2.fn x2.first x2.captured] fun K=>
  lp [lI] (0,()) fun z1 go1=>
   ifB (decide ((z1.1:Int)<x0.len)) (
    A8 x0.a fun a1=>
    ixn z1.1 x0.len<|
    ld (a1.add (z1.1.toNat*3)) Z5 fun v1=>
    nw (.cells #[.i 0,.i 0,.slice none 0 0] 154) fun n1=>
    st n1.z [.i v1.1,.i v1.2.1,.slice v1.2.2.1.a v1.2.2.1.len v1.2.2.1.cap]<|
    ld (Addr.add n1.z 2) (.lf .sl) fun v2=>
    lp [lI] (0,()) fun z2 go2=>
     ifB (decide ((z2.1:Int)<v2.len)) (
      A8 v2.a fun a2=>
      ixn z2.1 v2.len<|
      ld (a2.add (z2.1.toNat*3)) Z1 fun v3=>
      nw (.cells #[.i 0,.i 0,.i 0] 215) fun n2=>
      st n2.z [.i v3.1,.i v3.2.1,.i v3.2.2.1]<|
      ld n2.z (lI) fun v4=>
      ifB ((v4:Int)==x1) (
       ld n1.z Z5 fun v5=>
       ld n2.z Z1 fun v6=>
       clv PP x2.fn (x2.first++#[.agg #[.i v5.1,.i v5.2.1,.slice v5.2.2.1.a v5.2.2.1.len v5.2.2.1.cap],.agg (ki3 v6)]) x2.captured [] fun r1=>
       go2 (IntKind.i64.wrap (z2.1+1),())) (
       go2 (IntKind.i64.wrap (z2.1+1),()))) (
      go1 (IntKind.i64.wrap (z1.1+1),()))) (
    K (.t #[]))
  :=CF.mk h166 Tryz.func166 (by kernel_rfl)
theorem e167(x0:ShV Z5)(x1:ShV Z1)(x2:Option Addr)(x3:Option Addr)(x4:Option Addr):CF 167 [.agg (kiiv x0),.agg (ki3 x1),.q x2,.q x3,.q x4] fun K=>
  nw (.cells #[.i x0.1,.i x0.2.1,.slice x0.2.2.1.a x0.2.2.1.len x0.2.2.1.cap] 154) fun n1=>
  nw (.cells (ki3 x1) 215) fun n2=>
  ld n1.z (lI) fun v1=>
  ld (Addr.add n2.z 1) (lI) fun v2=>
  ld (Addr.add n1.z 1) (lI) fun v3=>
  nw (.cells #[.i 0,.i 0,.i 0] 102) fun n3=>
  st n3.z [.i v1,.i v2,.i v3]<|
  A8 x2 fun a1=>
  ld a1 (.lf .ptr) fun v4=>
  ld n3.z Z1 fun v5=>
  cl PP 118 #[.q v4,.agg (ki3 v5)] [.lf .str,.lf .sl,lI] fun r1=>
  ifB ((r1.2.2.1:Int)==0) (
   A8 x3 fun a2=>
   ld a2 (.lf .sl) fun v6=>
   ld n3.z Z1 fun v7=>
   nw (.cells #[.w r1.1,.i v7.1,.i v7.2.1,.i v7.2.2.1] 162) fun n4=>
   smW PP (Builtin.append_ #[144,144] 144 #[.sv v6,.slice (some n4.z) 1 1]) [.lf .sl] fun v8=>
   A8 x3 fun a3=>
   st a3 [.slice v8.1.a v8.1.len v8.1.cap]<|
   A8 x4 fun a4=>
   ld a4 (.lf .map) fun v9=>
   ld n3.z Z1 fun v10=>
   smU PP (Instr.mapUpdate 246 (.map v9) (.w r1.1) (.agg (ki3 v10)))<|
   K (.t #[])) (
   K (.t #[]))
  :=CF.mk Hn Tryz.func167 (by kernel_rfl)
def h168:D1:=⟨[(0,[(20,lI)]),(2,[(31,lI)])],[],[(1,[1,8,0,2,3,4,5,6,7])]⟩
theorem e168(x0:ShV Z5)(x1:ShV Z1)(x2:Option Addr)(x3:Option Addr):CF 168 [.agg (kiiv x0),.agg (ki3 x1),.q x2,.q x3] fun K=>
  nw (.cells #[.i x0.1,.i x0.2.1,.slice x0.2.2.1.a x0.2.2.1.len x0.2.2.1.cap] 154) fun n1=>
  nw (.cells (ki3 x1) 215) fun n2=>
  A8 x2 fun a1=>
  ld a1 (.lf .sl) fun v1=>
  ld n1.z (lI) fun v2=>
  A8 v1.a fun a2=>
  ixn v2 v1.len<|
  ld (a2.add (v2.toNat*1)) (.lf .sl) fun v3=>
  ld n2.z Z1 fun v4=>
  cl PP 169 #[.sv v3,.agg (ki3 v4)] [.lf .sl] fun r1=>
  lp [lI] (0,()) fun z1 go1=>
   ifB (decide ((z1.1:Int)<r1.1.len)) (
    A8 r1.1.a fun a3=>
    ixn z1.1 r1.1.len<|
    ld (a3.add (z1.1.toNat*1)) (.lf .sl) fun v5=>
    cl PP 170 #[.sv v5] [.lf .sl,lI] fun r2=>
    lp [lI] (0,()) fun z2 go2=>
     ifB (decide ((z2.1:Int)<r2.1.len)) (
      A8 r2.1.a fun a4=>
      ixn z2.1 r2.1.len<|
      ld (a4.add (z2.1.toNat*3)) Z1 fun v6=>
      nw (.cells #[.i 0,.i 0,.i 0] 102) fun n3=>
      st n3.z [.i v6.1,.i v6.2.1,.i v6.2.2.1]<|
      A8 x3 fun a5=>
      ld a5 (.lf .map) fun v7=>
      ld n3.z Z1 fun v8=>
      smU PP (Instr.mapUpdate 249 (.map v7) (.agg (ki3 v8)) (.b true))<|
      go2 (IntKind.i64.wrap (z2.1+1),())) (
      go1 (IntKind.i64.wrap (z1.1+1),()))) (
    K (.t #[]))
  :=CF.mk h168 Tryz.func168 (by kernel_rfl)
def h169:D1:=⟨[(0,[(5,.lf .sl),(6,lI)])],[],[]⟩
theorem e169(x0:SlV)(x1:ShV Z1):CF 169 [.sv x0,.agg (ki3 x1)] fun K=>
  nw (.cells (ki3 x1) 215) fun n1=>
  lp [.lf .sl,lI] (⟨none,0,0⟩,0,()) fun z1 go1=>
   ld (Addr.add n1.z 2) (lI) fun v1=>
   ifB (decide ((z1.2.1:Int)<v1)) (
    ld (Addr.add n1.z 1) (lI) fun v2=>
    ifB (decide ((v2:Int)<0)) (
     K (.slice none 0 0)) (
     ld (Addr.add n1.z 1) (lI) fun v3=>
     ifB (decide ((v3:Int)≥(IntKind.i64.wrap (x0.len-z1.2.1)))) (
      K (.slice none 0 0)) (
      ld (Addr.add n1.z 1) (lI) fun v4=>
      A8 x0.a fun a1=>
      ixn (IntKind.i64.wrap (v4+z1.2.1)) x0.len<|
      ld (a1.add ((IntKind.i64.wrap (v4+z1.2.1)).toNat*1)) (.lf .sl) fun v5=>
      cl PP 182 #[.sv v5] [Z3,.lf .sl,lI] fun r1=>
      nw (.cells #[.i 0,.i 0,.i 0,.i 0,.i 0] 272) fun n2=>
      st n2.z [.i r1.1.1,.i r1.1.2.1,.i r1.1.2.2.1,.i r1.1.2.2.2.1,.i r1.1.2.2.2.2.1]<|
      ifB ((r1.2.2.1:Int) !=0) (
       K (.slice none 0 0)) (
       nw (.cells #[.slice r1.2.1.a r1.2.1.len r1.2.1.cap] 27) fun n3=>
       smW PP (Builtin.append_ #[96,96] 96 #[.sv z1.1,.slice (some n3.z) 1 1]) [.lf .sl] fun v6=>
       go1 (⟨v6.1.a,v6.1.len,v6.1.cap⟩,IntKind.i64.wrap (z1.2.1+1),()))))) (
    K (.sv z1.1))
  :=CF.mk h169 Tryz.func169 (by kernel_rfl)
def h170:D1:=⟨[(0,[(4,.lf .sl),(5,.lf .sl)])],[],[(8,[0,1,4,5,8,2,3,6,7,9,10,11])]⟩
theorem e170(x0:SlV):CF 170 [.sv x0] fun K=>
  req ((6:Int)≠0)<|
  ifB ((Int.tmod x0.len 6:Int) !=0) (
   K (.t #[.slice none 0 0,.i 5])) (
   lp [.lf .sl,.lf .sl] (⟨none,0,0⟩,⟨x0.a,x0.len,x0.cap⟩,()) fun z1 go1=>
    ifB (decide ((z1.2.1.len:Int)>0)) (
     cl PP 227 #[.sv z1.2.1,.i 2,.i 4] [lI,lI] fun r1=>
     A8 z1.2.1.a fun a1=>
     ixn 0 z1.2.1.len<|
     A8 z1.2.1.a fun a2=>
     ixn 1 z1.2.1.len<|
     ld (a1.add ((0:Int).toNat*1)) (.lf (.int .u8)) fun v1=>
     ld (a2.add ((1:Int).toNat*1)) (.lf (.int .u8)) fun v2=>
     nw (.cells #[.i 0,.i 0,.i 0] 102) fun n1=>
     st n1.z [.i (IntKind.i64.wrap v1),.i (IntKind.i64.wrap v2),.i r1.1]<|
     ld n1.z Z1 fun v3=>
     cl PP 130 #[.agg (ki3 v3)] [.lf .bool] fun r2=>
     ifB (!r2.1) (
      K (.t #[.slice none 0 0,.i 5])) (
      ld n1.z Z1 fun v4=>
      nw (.cells (ki3 v4) 102) fun n2=>
      smW PP (Builtin.append_ #[55,55] 55 #[.sv z1.1,.slice (some n2.z) 1 1]) [.lf .sl] fun v5=>
      slc ⟨z1.2.1.a,z1.2.1.len,z1.2.1.cap⟩ 6 z1.2.1.len z1.2.1.cap 1 fun s1=>
      go1 (⟨v5.1.a,v5.1.len,v5.1.cap⟩,⟨s1.a,s1.len,s1.cap⟩,()))) (
     K (.t #[.sv z1.1,.i 0])))
  :=CF.mk h170 Tryz.func170 (by kernel_rfl)
theorem e171(x0:SlV):CF 171 [.sv x0] fun K=>
  ifB (Option.isNone x0.a) (
   K (.slice none 0 0)) (
   nw (.cells #[] 194) fun n1=>
   smW PP (Builtin.append_ #[159,159] 159 #[.slice (some n1.z) 0 0,.sv x0]) [.lf .sl] fun v1=>
   K (.sv v1.1))
  :=CF.mk Hn Tryz.func171 (by kernel_rfl)
theorem e172(x0:Option Addr)(x1:Int):CF 172 [.q x0,.i x1] fun K=>
  cl PP 120 #[.q x0,.i x1] [.lf .bool] fun r1=>
  ifB r1.1 (
   A8 x0 fun a1=>
   ld (a1.add 1) (.lf .sl) fun v1=>
   cl PP 228 #[.sv v1,.i x1] [.lf .bool] fun r2=>
   K (.b (!r2.1))) (
   K (.b false))
  :=CF.mk Hn Tryz.func172 (by kernel_rfl)
def h173:D1:=⟨[],[(10,[])],[(6,[0,1,4,5,6,2,3,7,8,9])]⟩
theorem e173(x0:Option Addr)(x1:Int)(x2:ShV Z1):CF 173 [.q x0,.int .u64 x1,.agg (ki3 x2)] fun K=>
  nw (.cells (ki3 x2) 102) fun n1=>
  nw (.cells #[.i 0,.i 0,.i 0] 102) fun n2=>
  ifB (Option.isNone x0) (
   st n2.z [.i 0,.i 0,.i 0]<|
   ld n2.z Z1 fun v1=>
   K (.t #[.agg (ki3 v1),.b false])) (
   ld n1.z Z1 fun v2=>
   cl PP 176 #[.q x0,.int .u64 x1,.agg (ki3 v2)] [Z3,.lf .bool] fun r1=>
   cl PP 137 #[.q x0,.int .u64 x1] [.lf .ptr] fun r2=>
   nw (.cells #[.i 0,.i 0,.i 0,.i 0,.i 0] 204) fun n3=>
   A8 r2.1 fun a1=>
   A8 x0 fun a2=>
   ld a1 (.lf .sl) fun v3=>
   ld a2 (lI) fun v4=>
   jn (fun y1:RsV []=>
    ld n1.z Z1 fun v8=>
    cl PP 184 #[.int .u64 x1,.agg (ki3 v8)] [Z4] fun r4=>
    cl PP 230 #[.q x0,.int .u64 x1,.agg #[.i r4.1.1,.i r4.1.2.1,.i r4.1.2.2.1,.i r4.1.2.2.2.1,.i 0]] [] fun r5=>
    ld (Addr.add n3.z 1) Z1 fun v9=>
    st n2.z [.i v9.1,.i v9.2.1,.i v9.2.2.1]<|
    ld n2.z Z1 fun v10=>
    K (.t #[.agg (ki3 v10),.b ((v3.len:Int)==v4)])) fun j1=>
   ifB ((v3.len:Int)==v4) (
     A8 r2.1 fun a3=>
     ld a3 (.lf .sl) fun v5=>
     A8 v5.a fun a4=>
     ixn 0 v5.len<|
     ld (a4.add ((0:Int).toNat*5)) Z3 fun v6=>
     st n3.z [.i v6.1,.i v6.2.1,.i v6.2.2.1,.i v6.2.2.2.1,.i v6.2.2.2.2.1]<|
     A8 r2.1 fun a5=>
     ld a5 (.lf .sl) fun v7=>
     cl PP 229 #[.sv v7,.i 0,.i 1] [.lf .sl] fun r3=>
     A8 r2.1 fun a6=>
     st a6 [.slice r3.1.a r3.1.len r3.1.cap]<|
     j1 (())) (
     j1 (())))
  :=CF.mk h173 Tryz.func173 (by kernel_rfl)
def h174:D1:=⟨[(0,[(0,.lf (.int .u64)),(9,lI)])],[],[]⟩
theorem e174(x0:Int)(x1:SlV):CF 174 [.int .u64 x0,.sv x1] fun K=>
  lp [.lf (.int .u64),lI] (x0,0,()) fun z1 go1=>
   ifB (decide ((z1.2.1:Int)<x1.len)) (
    A8 x1.a fun a1=>
    ixn z1.2.1 x1.len<|
    ld (a1.add (z1.2.1.toNat*1)) (.lf (.int .u8)) fun v1=>
    req ((0:Int)<=29)<|
    go1 (Ao1 .xor .u64 (IntKind.u64.wrap ((Ao1 .xor .u64 z1.1 (IntKind.u64.wrap v1))*1099511628211)) (Int.fdiv (IntKind.u64.wrap ((Ao1 .xor .u64 z1.1 (IntKind.u64.wrap v1))*1099511628211)) (2^(min (29:Int).toNat IntKind.u64.bits))),IntKind.i64.wrap (z1.2.1+1),())) (
    K (.int .u64 z1.1))
  :=CF.mk h174 Tryz.func174 (by kernel_rfl)
def h175:D1:=⟨[],[(3,[]),(6,[])],[(7,[0,1,2,4,5,6,7,3,8,9]),(6,[0,1,2,4,3,5,6,7,8,9]),(4,[0,1,2,4,5,6,3,7,8,9,10]),(1,[0,1,2,4,5,6,3,7,8,9,10])]⟩
theorem e175(x0:Option Addr)(x1:Option Addr):CF 175 [.q x0,.q x1] fun K=>
  jn (fun y1:RsV []=>
   jn (fun y2:RsV []=>
    A8 x0 fun a13=>
    ld (a13.add 1) (lI) fun v9=>
    cl PP 112 #[.q x1] [lI] fun r1=>
    keep (C9 (a13.add 1) [.i v9])<|
    A8 x0 fun a14=>
    st (a14.add 1) [.i (IntKind.i64.wrap (v9-r1.1))]<|
    A8 x0 fun a15=>
    A8 x1 fun a16=>
    ld (a15.add 4) (.lf .map) fun v10=>
    ld a16 (.lf .str) fun v11=>
    smW PP (Builtin.delete_ #[180,9] 0 #[.map v10,.w v11]) [] fun v12=>
    K (.t #[])) fun j2=>
   A8 x1 fun a7=>
    ld (a7.add 4) (.lf .ptr) fun v5=>
    ifB (!(Option.isNone v5)) (
     A8 x1 fun a8=>
     A8 x1 fun a9=>
     ld (a8.add 4) (.lf .ptr) fun v6=>
     ld (a9.add 3) (.lf .ptr) fun v7=>
     A8 v6 fun a10=>
     st (a10.add 3) [.q v7]<|
     j2 (())) (
     A8 x1 fun a11=>
     ld (a11.add 3) (.lf .ptr) fun v8=>
     A8 x0 fun a12=>
     st (a12.add 3) [.q v8]<|
     j2 (()))) fun j1=>
  A8 x1 fun a1=>
   ld (a1.add 3) (.lf .ptr) fun v1=>
   ifB (!(Option.isNone v1)) (
    A8 x1 fun a2=>
    A8 x1 fun a3=>
    ld (a2.add 3) (.lf .ptr) fun v2=>
    ld (a3.add 4) (.lf .ptr) fun v3=>
    A8 v2 fun a4=>
    st (a4.add 4) [.q v3]<|
    j1 (())) (
    A8 x1 fun a5=>
    ld (a5.add 4) (.lf .ptr) fun v4=>
    A8 x0 fun a6=>
    st (a6.add 2) [.q v4]<|
    j1 (()))
  :=CF.mk h175 Tryz.func175 (by kernel_rfl)
def h176:D1:=⟨[],[],[(3,[0,1,3,4,2,5,6,7,8])]⟩
theorem e176(x0:Option Addr)(x1:Int)(x2:ShV Z1):CF 176 [.q x0,.int .u64 x1,.agg (ki3 x2)] fun K=>
  nw (.cells (ki3 x2) 102) fun n1=>
  nw (.cells #[.i 0,.i 0,.i 0,.i 0,.i 0] 204) fun n2=>
  ifB (Option.isNone x0) (
   st n2.z [.i 0,.i 0,.i 0,.i 0,.i 0]<|
   ld n2.z Z3 fun v1=>
   K (.t #[.agg (ki5 v1),.b false])) (
   ld n1.z Z1 fun v2=>
   cl PP 137 #[.q x0,.int .u64 x1] [.lf .ptr] fun r1=>
   keep (C9 n1.z [.i v2.1,.i v2.2.1,.i v2.2.2.1])<|
   cl PP 184 #[.int .u64 x1,.agg (ki3 v2)] [Z4] fun r2=>
   nw (.cells #[.i 0,.i 0,.i 0,.i 0] 202) fun n3=>
   st n3.z [.i r2.1.1,.i r2.1.2.1,.i r2.1.2.2.1,.i r2.1.2.2.2.1]<|
   A8 r1.1 fun a1=>
   ld a1 (.lf .sl) fun v3=>
   cl PP 231 #[.sv v3,.func (.func 232) #[] #[.p n3]] [lI] fun r3=>
   ifB (decide ((r3.1:Int)<0)) (
    st n2.z [.i 0,.i 0,.i 0,.i 0,.i 0]<|
    ld n2.z Z3 fun v4=>
    K (.t #[.agg (ki5 v4),.b false])) (
    A8 r1.1 fun a2=>
    ld a2 (.lf .sl) fun v5=>
    A8 v5.a fun a3=>
    ixn r3.1 v5.len<|
    ld (a3.add (r3.1.toNat*5)) Z3 fun v6=>
    nw (.cells #[.i 0,.i 0,.i 0,.i 0,.i 0] 204) fun n4=>
    st n4.z [.i v6.1,.i v6.2.1,.i v6.2.2.1,.i v6.2.2.2.1,.i v6.2.2.2.2.1]<|
    A8 r1.1 fun a4=>
    ld a4 (.lf .sl) fun v7=>
    cl PP 229 #[.sv v7,.i r3.1,.i (IntKind.i64.wrap (r3.1+1))] [.lf .sl] fun r4=>
    A8 r1.1 fun a5=>
    st a5 [.slice r4.1.a r4.1.len r4.1.cap]<|
    ld n4.z Z3 fun v8=>
    st n2.z [.i v8.1,.i v8.2.1,.i v8.2.2.1,.i v8.2.2.2.1,.i v8.2.2.2.2.1]<|
    ld n2.z Z3 fun v9=>
    K (.t #[.agg (ki5 v9),.b true])))
  :=CF.mk h176 Tryz.func176 (by kernel_rfl)
theorem e177(x0:SlV)(x1:ByteArray):CF 177 [.sv x0,.w x1] fun K=>
  ifB (decide ((x1.size:Int)>65536)) (
   K (.t #[.slice none 0 0,.i 4])) (
   cl PP 132 #[.sv x0,.i x1.size,.i 4] [.lf .sl,lI] fun r1=>
   smW PP (Builtin.append_ #[27,9] 27 #[.sv r1.1,.w x1]) [.lf .sl] fun v1=>
   K (.t #[.sv v1.1,.i r1.2.1]))
  :=CF.mk Hn Tryz.func177 (by kernel_rfl)
theorem e178(x0:SlV):CF 178 [.sv x0] fun K=>
 cl PP 233 #[.sv x0] [.lf .sl] fun r1=>
 K (.sv r1.1)
 :=CF.mk Hn Tryz.func178 (by kernel_rfl)
theorem e179(x0:SlV):CF 179 [.sv x0] fun K=>
 cl PP 234 #[.i 0,.sv x0] [lI] fun r1=>
 K (.i r1.1)
 :=CF.mk Hn Tryz.func179 (by kernel_rfl)
theorem e180(x0:Int):CF 180 [.int .u64 x0] fun K=>
 req ((0:Int)<=48)<|
 K (.i (IntKind.i64.wrap (Int.fdiv x0 (2^(min (48:Int).toNat IntKind.u64.bits)))))
 :=CF.mk Hn Tryz.func180 (by kernel_rfl)
theorem e181(x0:Option Addr)(x1:Int)(x2:Int):CF 181 [.q x0,.i x1,.i x2] fun K=>
  cl PP 235 #[.q x0,.i x1,.i x2] [.lf .ptr,lI] fun r1=>
  ifB ((r1.2.1:Int) !=0) (
   K (.t #[.slice none 0 0,.i r1.2.1])) (
   A8 r1.1 fun a1=>
   ld (a1.add 3) (.lf .bool) fun v1=>
   ifB v1 (
    A8 x0 fun a2=>
    ld (Addr.add (a2.add 3) 2) (lI) fun v2=>
    cl PP 163 #[.i v2] [.lf .sl] fun r2=>
    K (.t #[.sv r2.1,.i 0])) (
    nw (.cells #[] 5) fun n1=>
    A8 r1.1 fun a3=>
    ld a3 (.lf .sl) fun v3=>
    A8 v3.a fun a4=>
    ixn x2 v3.len<|
    ld (a4.add (x2.toNat*1)) (.lf .sl) fun v4=>
    smW PP (Builtin.append_ #[27,27] 27 #[.slice (some n1.z) 0 0,.sv v4]) [.lf .sl] fun v5=>
    K (.t #[.sv v5.1,.i 0])))
  :=CF.mk Hn Tryz.func181 (by kernel_rfl)
def h182:D1:=⟨[(1,[(84,lI)])],[],[(19,[2,3,4,0,1,5,6,7,8]),(8,[0,1,4,5,8,9,12,14,15,2,3,6,7,10,11,16,17,13,18,19,20]),(6,[0,1,2,3,4,5,6,7])]⟩
theorem e182(x0:SlV):CF 182 [.sv x0] fun K=>
  nw (.cells #[.i 0,.i 0,.i 0,.i 0,.i 0] 272) fun n1=>
  cl PP 129 #[.i x0.len] [.lf .bool] fun r1=>
  ifB (!r1.1) (
   st n1.z [.i 0,.i 0,.i 0,.i 0,.i 0]<|
   ld n1.z Z3 fun v1=>
   K (.t #[.agg (ki5 v1),.slice none 0 0,.i 2])) (
   cl PP 236 #[.sv x0] [.lf .bool] fun r2=>
   ifB r2.1 (
    st n1.z [.i 0,.i 0,.i 0,.i 0,.i 0]<|
    ld n1.z Z3 fun v2=>
    K (.t #[.agg (ki5 v2),.slice none 0 0,.i 15])) (
    slc ⟨x0.a,x0.len,x0.cap⟩ 0 (IntKind.i64.wrap (x0.len-4)) x0.cap 1 fun s1=>
    cl PP 238 #[.sv x0,.i (IntKind.i64.wrap (x0.len-4)),.i 4] [lI] fun r3=>
    cl PP 237 #[.sv s1,.i r3.1] [.lf .bool] fun r4=>
    ifB (!r4.1) (
     st n1.z [.i 0,.i 0,.i 0,.i 0,.i 0]<|
     ld n1.z Z3 fun v3=>
     K (.t #[.agg (ki5 v3),.slice none 0 0,.i 12])) (
     A8 x0.a fun a1=>
     ixn 0 x0.len<|
     A8 x0.a fun a2=>
     ixn 1 x0.len<|
     A8 x0.a fun a3=>
     ixn 2 x0.len<|
     A8 x0.a fun a4=>
     ixn 8 x0.len<|
     ld (a1.add ((0:Int).toNat*1)) (.lf (.int .u8)) fun v4=>
     ld (a2.add ((1:Int).toNat*1)) (.lf (.int .u8)) fun v5=>
     ld (a3.add ((2:Int).toNat*1)) (.lf (.int .u8)) fun v6=>
     ld (a4.add ((8:Int).toNat*1)) (.lf (.int .u8)) fun v7=>
     cl PP 238 #[.sv x0,.i 4,.i 4] [lI] fun r5=>
     keep (C9 (a4.add ((8:Int).toNat*1)) [.int .u8 v7])<|
     keep (C9 (a3.add ((2:Int).toNat*1)) [.int .u8 v6])<|
     keep (C9 (a2.add ((1:Int).toNat*1)) [.int .u8 v5])<|
     keep (C9 (a1.add ((0:Int).toNat*1)) [.int .u8 v4])<|
     nw (.cells #[.i 0,.i 0,.i 0,.i 0,.i 0] 272) fun n2=>
     st n2.z [.i (IntKind.i64.wrap v4),.i (IntKind.i64.wrap v5),.i (IntKind.i64.wrap v6),.i r5.1,.i (IntKind.i64.wrap v7)]<|
     cl PP 238 #[.sv x0,.i 10,.i 2] [lI] fun r6=>
     A8 x0.a fun a5=>
     ixn 3 x0.len<|
     ld (a5.add ((3:Int).toNat*1)) (.lf (.int .u8)) fun v8=>
     ifB ((v8:Int) !=165) (
      st n1.z [.i 0,.i 0,.i 0,.i 0,.i 0]<|
      ld n1.z Z3 fun v9=>
      K (.t #[.agg (ki5 v9),.slice none 0 0,.i 5])) (
      A8 x0.a fun a6=>
      ixn 9 x0.len<|
      ld (a6.add ((9:Int).toNat*1)) (.lf (.int .u8)) fun v10=>
      ifB ((v10:Int) !=0) (
       st n1.z [.i 0,.i 0,.i 0,.i 0,.i 0]<|
       ld n1.z Z3 fun v11=>
       K (.t #[.agg (ki5 v11),.slice none 0 0,.i 5])) (
       cl PP 62 #[.i x0.len] [lI] fun r7=>
       ifB (decide ((r6.1:Int)>r7.1)) (
        st n1.z [.i 0,.i 0,.i 0,.i 0,.i 0]<|
        ld n1.z Z3 fun v12=>
        K (.t #[.agg (ki5 v12),.slice none 0 0,.i 5])) (
        ld n2.z Z3 fun v13=>
        cl PP 239 #[.agg (ki5 v13)] [lI] fun r8=>
        ifB ((r8.1:Int) !=0) (
         st n1.z [.i 0,.i 0,.i 0,.i 0,.i 0]<|
         ld n1.z Z3 fun v14=>
         K (.t #[.agg (ki5 v14),.slice none 0 0,.i 5])) (
         slc ⟨x0.a,x0.len,x0.cap⟩ (IntKind.i64.wrap (12+r6.1)) (IntKind.i64.wrap (x0.len-4)) x0.cap 1 fun s2=>
         lp [lI] (0,()) fun z1 go1=>
          ifB (decide ((z1.1:Int)<s2.len)) (
           A8 s2.a fun a7=>
           ixn z1.1 s2.len<|
           ld (a7.add (z1.1.toNat*1)) (.lf (.int .u8)) fun v15=>
           ifB ((v15:Int) !=0) (
            st n1.z [.i 0,.i 0,.i 0,.i 0,.i 0]<|
            ld n1.z Z3 fun v16=>
            K (.t #[.agg (ki5 v16),.slice none 0 0,.i 5])) (
            go1 (IntKind.i64.wrap (z1.1+1),()))) (
           slc ⟨x0.a,x0.len,x0.cap⟩ 12 (IntKind.i64.wrap (12+r6.1)) x0.cap 1 fun s3=>
           ld n2.z Z3 fun v17=>
           nw (.cells #[] 5) fun n3=>
           smW PP (Builtin.append_ #[27,27] 27 #[.slice (some n3.z) 0 0,.sv s3]) [.lf .sl] fun v18=>
           keep (C9 n2.z [.i v17.1,.i v17.2.1,.i v17.2.2.1,.i v17.2.2.2.1,.i v17.2.2.2.2.1])<|
           st n1.z [.i v17.1,.i v17.2.1,.i v17.2.2.1,.i v17.2.2.2.1,.i v17.2.2.2.2.1]<|
           ld n1.z Z3 fun v19=>
           K (.t #[.agg (ki5 v19),.sv v18.1,.i 0])))))))))
  :=CF.mk h182 Tryz.func182 (by kernel_rfl)
theorem e183(x0:SlV):CF 183 [.sv x0] fun K=>
  cl PP 178 #[.sv x0] [.lf .sl] fun r1=>
  cl PP 240 #[.sv r1.1] [.lf .ptr] fun r2=>
  cl PP 241 #[.q r2.1] [.lf .str,lI] fun r3=>
  ifB ((r3.2.1:Int) !=0) (
   K (.t #[.w (ByteArray.mk #[]),.slice none 0 0,.i r3.2.1])) (
   cl PP 241 #[.q r2.1] [.lf .str,lI] fun r4=>
   ifB ((r4.2.1:Int) !=0) (
    K (.t #[.w (ByteArray.mk #[]),.slice none 0 0,.i r4.2.1])) (
    cl PP 242 #[.q r2.1] [lI] fun r5=>
    cl PP 243 #[.q r2.1,.i 4] [lI,lI] fun r6=>
    ifB ((r6.2.1:Int) !=0) (
     K (.t #[.w (ByteArray.mk #[]),.slice none 0 0,.i r6.2.1])) (
     cl PP 242 #[.q r2.1] [lI] fun r7=>
     ifB (decide ((r7.1:Int)>0)) (
      K (.t #[.w (ByteArray.mk #[]),.slice none 0 0,.i 5])) (
      cl PP 107 #[.i r3.1.size] [.lf .bool] fun r8=>
      ifB (!r8.1) (
       K (.t #[.w (ByteArray.mk #[]),.slice none 0 0,.i 5])) (
       slc ⟨r1.1.a,r1.1.len,r1.1.cap⟩ 0 (IntKind.i64.wrap (r1.1.len-r5.1)) r1.1.cap 1 fun s1=>
       cl PP 237 #[.sv s1,.i r6.1] [.lf .bool] fun r9=>
       ifB (!r9.1) (
        K (.t #[.w (ByteArray.mk #[]),.slice none 0 0,.i 12])) (
        smA PP (Conv.stringToBytes 5 r4.1) (.lf .sl) fun v1=>
        K (.t #[.w r3.1,.sv v1,.i 0])))))))
  :=CF.mk Hn Tryz.func183 (by kernel_rfl)
def h184:D1:=⟨[],[],[(1,[0,2,1,3,4])]⟩
theorem e184(x0:Int)(x1:ShV Z1):CF 184 [.int .u64 x0,.agg (ki3 x1)] fun K=>
 nw (.cells (ki3 x1) 102) fun n1=>
 nw (.cells #[.i 0,.i 0,.i 0,.i 0] 202) fun n2=>
 ld n1.z Z1 fun v1=>
 cl PP 180 #[.int .u64 x0] [lI] fun r1=>
 keep (C9 n1.z [.i v1.1,.i v1.2.1,.i v1.2.2.1])<|
 st n2.z [.i r1.1,.i v1.1,.i v1.2.1,.i v1.2.2.1]<|
 ld n2.z Z4 fun v2=>
 K (.agg (ki4 v2))
 :=CF.mk h184 Tryz.func184 (by kernel_rfl)
theorem e185(x0:Option Addr):CF 185 [.q x0] fun K=>
 nw (.cells #[.i 0] 3) fun n1=>
 st n1.z [.i 0]<|
 cl PP 119 #[.q x0,.func (.func 172) #[.q x0] #[],.func (.func 244) #[] #[.p n1]] [] fun r1=>
 ld n1.z (lI) fun v1=>
 K (.i v1)
 :=CF.mk Hn Tryz.func185 (by kernel_rfl)
def h186:D1:=⟨[],[(4,[])],[]⟩
theorem e186(x0:Option Addr):CF 186 [.q x0] fun K=>
  A8 x0 fun a1=>
  ld (a1.add 1) (.lf .ptr) fun v1=>
  cl PP 245 #[.q v1] [lI,.lf .bool] fun r1=>
  jn (fun y1:RsV []=>
   A8 x0 fun a5=>
   ld (a5.add 3) (.lf .map) fun v5=>
   smR PP (Instr.lookup 79 (.map v5) (.i r1.1) false) [.lf .ptr] fun v6=>
   K (.q v6.1)) fun j1=>
  ifB (!r1.2.1) (
    K (.q none)) (
    A8 x0 fun a2=>
    ld (a2.add 4) (.lf .ptr) fun v2=>
    ifB (!(Option.isNone v2)) (
     A8 x0 fun a3=>
     ld (a3.add 4) (.lf .ptr) fun v3=>
     A8 v3 fun a4=>
     ld a4 (lI) fun v4=>
     ifB ((v4:Int)==r1.1) (
      K (.q none)) (
      j1 (()))) (
     j1 (())))
  :=CF.mk h186 Tryz.func186 (by kernel_rfl)
def h187:D1:=⟨[(0,[(15,lI)])],[],[(10,[0,1,2,3,4,5,6,7,8]),(5,[0,5,13,1,2,3,4,6,7,8,9,10,11,12,14,15])]⟩
theorem e187(x0:Option Addr)(x1:Option Addr)(x2:Int):CF 187 [.q x0,.q x1,.i x2] fun K=>
  nw (.cells #[.q x1] 80) fun n1=>
  ld n1.z (.lf .ptr) fun v1=>
  A8 v1 fun a1=>
  ld (a1.add 3) (.lf .sl) fun v2=>
  lp [lI] (0,()) fun z1 go1=>
   ifB (decide ((z1.1:Int)<v2.len)) (
    A8 v2.a fun a2=>
    ixn z1.1 v2.len<|
    ld (a2.add (z1.1.toNat*3)) Z1 fun v3=>
    nw (.cells #[.i 0,.i 0,.i 0] 215) fun n2=>
    st n2.z [.i v3.1,.i v3.2.1,.i v3.2.2.1]<|
    ld n2.z (lI) fun v4=>
    ifB ((v4:Int) !=2) (
     go1 (IntKind.i64.wrap (z1.1+1),())) (
     ld n1.z (.lf .ptr) fun v5=>
     A8 v5 fun a3=>
     ld a3 (lI) fun v6=>
     ld (Addr.add n2.z 1) (lI) fun v7=>
     ld n1.z (.lf .ptr) fun v8=>
     A8 v8 fun a4=>
     ld (a4.add 1) (lI) fun v9=>
     ld n2.z Z1 fun v10=>
     cl PP 246 #[.q x0,.agg #[.i v6,.i v7,.i v9],.agg (ki3 v10),.i x2] [lI] fun r1=>
     ifB ((r1.1:Int) !=0) (
      K (.i r1.1)) (
      go1 (IntKind.i64.wrap (z1.1+1),())))) (
    A8 x0 fun a5=>
    ld (Addr.add (a5.add 11) 6) (.lf .sl) fun v11=>
    cl PP 247 #[.sv v11,.func (.func 248) #[] #[.p n1]] [.lf .sl] fun r2=>
    A8 x0 fun a6=>
    st (Addr.add (a6.add 11) 6) [.slice r2.1.a r2.1.len r2.1.cap]<|
    A8 x0 fun a7=>
    ld n1.z (.lf .ptr) fun v12=>
    A8 v12 fun a8=>
    ld a8 (lI) fun v13=>
    cl PP 190 #[.q (some (a7.add 11)),.i v13] [lI] fun r3=>
    K (.i r3.1))
  :=CF.mk h187 Tryz.func187 (by kernel_rfl)
def h188:D1:=⟨[],[],[(6,[0,1,2,3,5,6,7,9,10,11,13,14,15,17,18,19,4,8,12,16,20,21,22,23]),(5,[0,1,2,4,3,5,6,7])]⟩
theorem e188(x0:Option Addr):CF 188 [.q x0] fun K=>
  A8 x0 fun a1=>
  ld (a1.add 4) (.lf .ptr) fun v1=>
  ifB (Option.isNone v1) (
   K (.i 0)) (
   A8 x0 fun a2=>
   st (a2.add 4) [.q none]<|
   A8 x0 fun a3=>
   ld (a3.add 2) (.lf .ptr) fun v2=>
   nw (.cells #[.i 1] 3) fun n1=>
   cl PP 134 #[.q x0,.slice (some n1.z) 1 1] [lI] fun r1=>
   keep (C9 (a3.add 2) [.q v2])<|
   cl PP 133 #[.q v2,.i r1.1] [.lf .bool] fun r2=>
   A8 x0 fun a4=>
   A8 v1 fun a5=>
   A8 v1 fun a6=>
   A8 v1 fun a7=>
   A8 v1 fun a8=>
   ld a4 (.lf .ptr) fun v3=>
   ld a5 (lI) fun v4=>
   ld (a6.add 1) (lI) fun v5=>
   ld (a7.add 2) (lI) fun v6=>
   ld (a8.add 3) (.lf .sl) fun v7=>
   cl PP 249 #[.q v3,.i v4,.i v5,.i v6,.sv v7] [lI] fun r3=>
   cl PP 136 #[.q x0,.i r3.1] [lI] fun r4=>
   K (.i r4.1))
  :=CF.mk h188 Tryz.func188 (by kernel_rfl)
def h189:D1:=⟨[],[],[(4,[1,0,4,2,5,3,6])]⟩
theorem e189(x0:Option Addr):CF 189 [.q x0] fun K=>
 nw (.cells #[.i 0,.b false,.b false] 194) fun n1=>
 nw (.cells #[.i 0] 3) fun n2=>
 nw (.cells #[.b false] 4) fun n3=>
 st n2.z [.i 0]<|
 st n3.z [.b false]<|
 cl PP 119 #[.q x0,.func (.func 172) #[.q x0] #[],.func (.func 250) #[] #[.p n3,.p n1,.p n2]] [] fun r1=>
 ld n2.z (lI) fun v1=>
 ld (Addr.add n1.z 2) (.lf .bool) fun v2=>
 ld n3.z (.lf .bool) fun v3=>
 K (.t #[.i v1,.b v2,.b v3])
 :=CF.mk h189 Tryz.func189 (by kernel_rfl)
theorem e190(x0:Option Addr)(x1:Int):CF 190 [.q x0,.i x1] fun K=>
  A8 x0 fun a1=>
  ld a1 (.lf .ptr) fun v1=>
  cl PP 252 #[.q v1,.i x1] [lI] fun r1=>
  ifB ((r1.1:Int)==11) (
   cl PP 136 #[.q x0,.i r1.1] [lI] fun r2=>
   K (.i r2.1)) (
   A8 x0 fun a2=>
   ld (a2.add 1) (.lf .ptr) fun v2=>
   cl PP 253 #[.q v2,.i x1,.b ((r1.1:Int)==10)] [.lf .bool] fun r3=>
   A8 x0 fun a3=>
   ld (a3.add 3) (.lf .map) fun v3=>
   smW PP (Builtin.delete_ #[79,3] 0 #[.map v3,.i x1]) [] fun v4=>
   K (.i 0))
  :=CF.mk Hn Tryz.func190 (by kernel_rfl)
def h191:D1:=⟨[],[],[(8,[0,1,2,4,5,6,7,3,8,9]),(2,[0,1,2,4,5,6,7,3,8,9,10,11]),(1,[0,1,2,4,3,5,6,7])]⟩
theorem e191(x0:Option Addr)(x1:Int):CF 191 [.q x0,.i x1] fun K=>
  A8 x0 fun a1=>
  ld (a1.add 2) (.lf .ptr) fun v1=>
  nw (.cells #[.i 1] 3) fun n1=>
  cl PP 134 #[.q x0,.slice (some n1.z) 1 1] [lI] fun r1=>
  keep (C9 (a1.add 2) [.q v1])<|
  cl PP 133 #[.q v1,.i r1.1] [.lf .bool] fun r2=>
  A8 x0 fun a2=>
  A8 x0 fun a3=>
  ld a2 (.lf .ptr) fun v2=>
  ld (a3.add 5) (lI) fun v3=>
  cl PP 254 #[.q v2,.i x1,.i (IntKind.i64.wrap (v3+1))] [lI] fun r3=>
  ifB ((r3.1:Int) !=0) (
   cl PP 136 #[.q x0,.i r3.1] [lI] fun r4=>
   K (.i r4.1)) (
   A8 x0 fun a4=>
   ld (a4.add 5) (lI) fun v4=>
   A8 x0 fun a5=>
   st (a5.add 5) [.i (IntKind.i64.wrap (v4+1))]<|
   A8 x0 fun a6=>
   ld (a6.add 1) (.lf .ptr) fun v5=>
   cl PP 255 #[.q v5,.i x1] [.lf .bool] fun r5=>
   A8 x0 fun a7=>
   ld (a7.add 5) (lI) fun v6=>
   nw (.cells #[.i x1,.i v6,.i 1,.slice none 0 0] 156) fun n2=>
   A8 x0 fun a8=>
   st (a8.add 4) [.p n2]<|
   A8 x0 fun a9=>
   A8 x0 fun a10=>
   ld (a9.add 3) (.lf .map) fun v7=>
   ld (a10.add 4) (.lf .ptr) fun v8=>
   smU PP (Instr.mapUpdate 79 (.map v7) (.i x1) (.q v8))<|
   K (.i 0))
  :=CF.mk h191 Tryz.func191 (by kernel_rfl)
def h192:D1:=⟨[(0,[(5,lI)])],[],[]⟩
theorem e192(x0:Int):CF 192 [.i x0] fun K=>
  nw (.cells #[.int .u8 0,.int .u8 0,.int .u8 0,.int .u8 0,.int .u8 0,.int .u8 0,.int .u8 0,.int .u8 0] 282) fun n1=>
  nw (.cells #[.int .u8 0,.int .u8 0,.int .u8 0,.int .u8 0,.int .u8 0,.int .u8 0,.int .u8 0,.int .u8 0] 282) fun n2=>
  lp [lI] (0,()) fun z1 go1=>
   ifB (decide ((z1.1:Int)<8)) (
    req ((0:Int)<=(IntKind.i64.wrap (8*z1.1)))<|
    ixn z1.1 8<|
    st (Addr.add n2.z (z1.1.toNat*1)) [.int .u8 (IntKind.u8.wrap (Int.fdiv x0 (2^(min (IntKind.i64.wrap (8*z1.1):Int).toNat IntKind.i64.bits))))]<|
    go1 (IntKind.i64.wrap (z1.1+1),())) (
    ld n2.z Z8 fun v1=>
    st n1.z [.int .u8 v1.1,.int .u8 v1.2.1,.int .u8 v1.2.2.1,.int .u8 v1.2.2.2.1,.int .u8 v1.2.2.2.2.1,.int .u8 v1.2.2.2.2.2.1,.int .u8 v1.2.2.2.2.2.2.1,.int .u8 v1.2.2.2.2.2.2.2.1]<|
    ld n1.z Z8 fun v2=>
    K (.agg #[.int .u8 v2.1,.int .u8 v2.2.1,.int .u8 v2.2.2.1,.int .u8 v2.2.2.2.1,.int .u8 v2.2.2.2.2.1,.int .u8 v2.2.2.2.2.2.1,.int .u8 v2.2.2.2.2.2.2.1,.int .u8 v2.2.2.2.2.2.2.2.1]))
  :=CF.mk h192 Tryz.func192 (by kernel_rfl)
def h193:D1:=⟨[],[],[(1,[1,2,0,3,4,5,6,7,8,9,10])]⟩
theorem e193(x0:Option Addr)(x1:Int)(x2:ShV Z3)(x3:SlV):CF 193 [.q x0,.i x1,.agg (ki5 x2),.sv x3] fun K=>
  nw (.cells (ki5 x2) 272) fun n1=>
  ld n1.z Z3 fun v1=>
  cl PP 93 #[.q x0] [Z4] fun r1=>
  keep (C9 n1.z [.i v1.1,.i v1.2.1,.i v1.2.2.1,.i v1.2.2.2.1,.i v1.2.2.2.2.1])<|
  cl PP 256 #[.agg (ki5 v1),.sv x3,.i r1.1.2.2.1] [.lf .sl,lI] fun r2=>
  ifB ((r2.2.1:Int) !=0) (
   K (.i r2.2.1)) (
   ld (Addr.add n1.z 4) (lI) fun v2=>
   cl PP 257 #[.q x0,.i x1,.i v2,.sv r2.1] [lI] fun r3=>
   K (.i r3.1))
  :=CF.mk h193 Tryz.func193 (by kernel_rfl)
theorem e194(x0:Int)(x1:Int):CF 194 [.int .u64 x0,.i x1] fun K=>
  ifB (decide ((x1:Int)<1)) (
   K (.i 0)) (
   req ((IntKind.u64.wrap x1:Int)≠0)<|
   K (.i (IntKind.i64.wrap (Int.tmod x0 (IntKind.u64.wrap x1)))))
  :=CF.mk Hn Tryz.func194 (by kernel_rfl)
set_option maxRecDepth 100000
def h223:D1:=⟨[(0,[(6,.lf .sl),(15,lI)])],[],[]⟩
theorem e223(x0:Option Addr)(x1:Int):CF 223 [.q x0,.i x1] fun K=>
  ifB (Option.isNone x0) (
   K (.t #[.slice none 0 0,.i 1])) (
   cl PP 93 #[.q x0] [Z4] fun r1=>
   lp [.lf .sl,lI] (⟨none,0,0⟩,0,()) fun z1 go1=>
    ifB (decide ((z1.2.1:Int)<r1.1.2.1)) (
     cl PP 181 #[.q x0,.i x1,.i z1.2.1] [.lf .sl,lI] fun r2=>
     ifB ((r2.2.1:Int) !=0) (
      K (.t #[.slice none 0 0,.i r2.2.1])) (
      nw (.cells #[.slice r2.1.a r2.1.len r2.1.cap] 27) fun n1=>
      smW PP (Builtin.append_ #[96,96] 96 #[.sv z1.1,.slice (some n1.z) 1 1]) [.lf .sl] fun v1=>
      go1 (⟨v1.1.a,v1.1.len,v1.1.cap⟩,IntKind.i64.wrap (z1.2.1+1),()))) (
     K (.t #[.sv z1.1,.i 0])))
  :=CF.mk h223 Tryz.func223 (by kernel_rfl)
def h224:D1:=⟨[],[(12,[])],[(12,[0,1,2,4,5,6,3,7,8,9,10])]⟩
theorem e224(x0:SlV):CF 224 [.sv x0] fun K=>
  nw (.cells #[.i 0,.b false,.slice none 0 0] 319) fun n1=>
  cl PP 283 #[.sv x0] [.lf .ptr] fun r1=>
  A8 r1.1 fun a1=>
  ld a1 (.lf .sl) fun v1=>
  ifB ((v1.len:Int)==0) (
   st n1.z [.i 0,.b false,.slice none 0 0]<|
   ld n1.z Z11 fun v2=>
   K (.t #[.agg (kibv v2),.b false])) (
   A8 r1.1 fun a2=>
   ld a2 (.lf .sl) fun v3=>
   A8 v3.a fun a3=>
   ixn 0 v3.len<|
   ld (Addr.add (a3.add ((0:Int).toNat*7)) 3) (lI) fun v4=>
   A8 r1.1 fun a4=>
   st (a4.add 1) [.i v4]<|
   cl PP 284 #[.q r1.1,.i 0,.agg #[.i 1,.i 0,.i 1,.i 0,.i 0]] [.lf .sl,.lf .bool] fun r2=>
   ifB (!r2.2.1) (
    st n1.z [.i 0,.b false,.slice none 0 0]<|
    ld n1.z Z11 fun v5=>
    K (.t #[.agg (kibv v5),.b false])) (
    ifB (decide ((r2.1.len:Int)>0)) (
     st n1.z [.i 0,.b false,.slice none 0 0]<|
     ld n1.z Z11 fun v6=>
     K (.t #[.agg (kibv v6),.b false])) (
     jn (fun y1:RsV []=>
      A8 r1.1 fun a7=>
      ld (a7.add 1) (lI) fun v10=>
      cl PP 286 #[.q r1.1,.func (.func 287) #[.q r1.1] #[]] [.lf .sl] fun r4=>
      keep (C9 (a7.add 1) [.i v10])<|
      st n1.z [.i v10,.b false,.slice r4.1.a r4.1.len r4.1.cap]<|
      ld n1.z Z11 fun v11=>
      K (.t #[.agg (kibv v11),.b true])) fun j1=>
     A8 r1.1 fun a5=>
      ld (a5.add 2) (lI) fun v7=>
      ifB (decide ((v7:Int)>0)) (
       cl PP 285 #[.q r1.1] [.lf .sl,.lf .bool] fun r3=>
       ifB r3.2.1 (
        A8 r1.1 fun a6=>
        ld (a6.add 1) (lI) fun v8=>
        st n1.z [.i v8,.b true,.slice r3.1.a r3.1.len r3.1.cap]<|
        ld n1.z Z11 fun v9=>
        K (.t #[.agg (kibv v9),.b true])) (
        j1 (()))) (
       j1 (())))))
  :=CF.mk h224 Tryz.func224 (by kernel_rfl)
theorem e225(x0:SlV)(x1:FnV):CF 225 [.slice x0.a x0.len x0.cap,.func x1.fn x1.first x1.captured] fun K=>
 cl PP 288 #[.slice x0.a x0.len x0.cap,.i x0.len,.func x1.fn x1.first x1.captured] [] fun r1=>
 K (.t #[])
 :=CF.mk Hn Tryz.func225 (by kernel_rfl)
theorem e226(x0:ShV Z5)(x1:ShV Z5):CF 226 [.agg (kiiv x0),.agg (kiiv x1)] fun K=>
 nw (.cells #[.i x0.1,.i x0.2.1,.slice x0.2.2.1.a x0.2.2.1.len x0.2.2.1.cap] 154) fun n1=>
 nw (.cells #[.i x1.1,.i x1.2.1,.slice x1.2.2.1.a x1.2.2.1.len x1.2.2.1.cap] 154) fun n2=>
 ld (Addr.add n1.z 1) (lI) fun v1=>
 ld (Addr.add n2.z 1) (lI) fun v2=>
 K (.i (IntKind.i64.wrap (v1-v2)))
 :=CF.mk Hn Tryz.func226 (by kernel_rfl)
def h227:D1:=⟨[(1,[(8,lI),(9,lI),(36,lI)])],[],[]⟩
theorem e227(x0:SlV)(x1:Int)(x2:Int):CF 227 [.sv x0,.i x1,.i x2] fun K=>
  ifB (decide ((x2:Int)<1)) (
   K (.t #[.i 0,.i 2])) (
   ifB (decide ((x2:Int)>7)) (
    K (.t #[.i 0,.i 2])) (
    ifB (decide ((x1:Int)<0)) (
     K (.t #[.i 0,.i 6])) (
     ifB (decide ((x1:Int)>x0.len)) (
      K (.t #[.i 0,.i 6])) (
      ifB (decide ((x2:Int)>(IntKind.i64.wrap (x0.len-x1)))) (
       K (.t #[.i 0,.i 6])) (
       lp [lI,lI,lI] (0,1,0,()) fun z1 go1=>
        ifB (decide ((z1.2.2.1:Int)<x2)) (
         A8 x0.a fun a1=>
         ixn (IntKind.i64.wrap (x1+z1.2.2.1)) x0.len<|
         ld (a1.add ((IntKind.i64.wrap (x1+z1.2.2.1)).toNat*1)) (.lf (.int .u8)) fun v1=>
         go1 (IntKind.i64.wrap (z1.1+(IntKind.i64.wrap (z1.2.1*(IntKind.i64.wrap v1)))),IntKind.i64.wrap (z1.2.1*256),IntKind.i64.wrap (z1.2.2.1+1),())) (
         K (.t #[.i z1.1,.i 0])))))))
  :=CF.mk h227 Tryz.func227 (by kernel_rfl)
theorem e228(x0:SlV)(x1:Int):CF 228 [.sv x0,.i x1] fun K=>
 cl PP 289 #[.sv x0,.i x1] [lI] fun r1=>
 K (.b (decide ((r1.1:Int)≥0)))
 :=CF.mk Hn Tryz.func228 (by kernel_rfl)
def h229:D1:=⟨[],[],[(5,[0,1,2,3,4,5,6,7])]⟩
theorem e229(x0:SlV)(x1:Int)(x2:Int):CF 229 [.sv x0,.i x1,.i x2] fun K=>
  slc ⟨x0.a,x0.len,x0.cap⟩ x1 x2 x0.len 5 fun s1=>
  ifB ((x1:Int)==x2) (
   K (.sv x0)) (
   slc ⟨x0.a,x0.len,x0.cap⟩ 0 x1 x0.cap 5 fun s2=>
   slc ⟨x0.a,x0.len,x0.cap⟩ x2 x0.len x0.cap 5 fun s3=>
   smW PP (Builtin.append_ #[216,216] 216 #[.sv s2,.sv s3]) [.lf .sl] fun v1=>
   slc ⟨v1.1.a,v1.1.len,v1.1.cap⟩ v1.1.len x0.len v1.1.cap 5 fun s4=>
   smW PP (Builtin.clear_ #[216] 0 #[.sv s4]) [] fun v2=>
   K (.sv v1.1))
  :=CF.mk h229 Tryz.func229 (by kernel_rfl)
def h230:D1:=⟨[],[],[(2,[0,1,2,3,4,5,6,7,8])]⟩
theorem e230(x0:Option Addr)(x1:Int)(x2:ShV Z3):CF 230 [.q x0,.int .u64 x1,.agg (ki5 x2)] fun K=>
 nw (.cells (ki5 x2) 204) fun n1=>
 cl PP 137 #[.q x0,.int .u64 x1] [.lf .ptr] fun r1=>
 A8 r1.1 fun a1=>
 ld a1 (.lf .sl) fun v1=>
 ld n1.z Z3 fun v2=>
 nw (.cells (ki5 v2) 204) fun n2=>
 smW PP (Builtin.append_ #[216,216] 216 #[.sv v1,.slice (some n2.z) 1 1]) [.lf .sl] fun v3=>
 A8 r1.1 fun a2=>
 st a2 [.slice v3.1.a v3.1.len v3.1.cap]<|
 K (.t #[])
 :=CF.mk h230 Tryz.func230 (by kernel_rfl)
def h231:D1:=⟨[(0,[(8,lI)])],[],[]⟩
theorem e231(x0:SlV)(x1:FnV):CF 231 [.slice x0.a x0.len x0.cap,.func x1.fn x1.first x1.captured] fun K=>
  lp [lI] (0,()) fun z1 go1=>
   ifB (decide ((z1.1:Int)<x0.len)) (
    A8 x0.a fun a1=>
    ixn z1.1 x0.len<|
    ld (a1.add (z1.1.toNat*5)) Z3 fun v1=>
    clv PP x1.fn (x1.first++#[.agg (ki5 v1)]) x1.captured [.lf .bool] fun r1=>
    ifB r1.1 (
     K (.i z1.1)) (
     go1 (IntKind.i64.wrap (z1.1+1),()))) (
    K (.i (-1)))
  :=CF.mk h231 Tryz.func231 (by kernel_rfl)
theorem e232(x0:ShV Z3)(x1:Option Addr):CF 232 [.agg (ki5 x0),.q x1] fun K=>
 nw (.cells (ki5 x0) 204) fun n1=>
 ld n1.z Z4 fun v1=>
 A8 x1 fun a1=>
 ld a1 Z4 fun v2=>
 smP PP (binOp .eql 202 (.agg (ki4 v1)) (.agg (ki4 v2))) (.lf .bool) fun v3=>
 K (.b v3)
 :=CF.mk Hn Tryz.func232 (by kernel_rfl)
def h233:D1:=⟨[(0,[(3,lI),(11,lI)]),(2,[(6,.lf .sl),(27,lI)])],[],[]⟩
theorem e233(x0:SlV):CF 233 [.sv x0] fun K=>
  lp [lI,lI] (0,0,()) fun z1 go1=>
   ifB (decide ((z1.2.1:Int)<x0.len)) (
    A8 x0.a fun a1=>
    ixn z1.2.1 x0.len<|
    ld (a1.add (z1.2.1.toNat*1)) (.lf .sl) fun v1=>
    ifB (decide ((IntKind.i64.wrap (z1.1+v1.len):Int)<0)) (
     ff) (
     go1 (IntKind.i64.wrap (z1.1+v1.len),IntKind.i64.wrap (z1.2.1+1),()))) (
    cl PP 290 #[.slice none 0 0,.i z1.1] [.lf .sl] fun r1=>
    lp [.lf .sl,lI] (⟨r1.1.a,r1.1.len,r1.1.cap⟩,0,()) fun z2 go2=>
     ifB (decide ((z2.2.1:Int)<x0.len)) (
      A8 x0.a fun a2=>
      ixn z2.2.1 x0.len<|
      ld (a2.add (z2.2.1.toNat*1)) (.lf .sl) fun v2=>
      smW PP (Builtin.append_ #[27,27] 27 #[.sv z2.1,.sv v2]) [.lf .sl] fun v3=>
      go2 (⟨v3.1.a,v3.1.len,v3.1.cap⟩,IntKind.i64.wrap (z2.2.1+1),())) (
      K (.sv z2.1)))
  :=CF.mk h233 Tryz.func233 (by kernel_rfl)
theorem e234(x0:Int)(x1:SlV):CF 234 [.i x0,.sv x1] fun K=>
 cl PP 291 #[.int .u32 (Ao1 .xor .u32 IntKind.u32.max (IntKind.u32.wrap x0)),.sv x1] [.lf (.int .u32)] fun r1=>
 K (.i (IntKind.i64.wrap (Ao1 .xor .u32 IntKind.u32.max r1.1)))
 :=CF.mk Hn Tryz.func234 (by kernel_rfl)
theorem e235(x0:Option Addr)(x1:Int)(x2:Int):CF 235 [.q x0,.i x1,.i x2] fun K=>
  ifB (Option.isNone x0) (
   K (.t #[.q none,.i 1])) (
   A8 x0 fun a1=>
   ld (a1.add 2) (.lf .bool) fun v1=>
   ifB v1 (
    K (.t #[.q none,.i 11])) (
    cl PP 45 #[.q x0,.i x1] [.lf .ptr] fun r1=>
    ifB (Option.isNone r1.1) (
     K (.t #[.q none,.i 2])) (
     A8 x0 fun a2=>
     ld (Addr.add (a2.add 3) 1) (lI) fun v2=>
     cl PP 90 #[.i x2,.i 0,.i (IntKind.i64.wrap (v2-1))] [.lf .bool] fun r2=>
     ifB (!r2.1) (
      K (.t #[.q none,.i 2])) (
      K (.t #[.q r1.1,.i 0])))))
  :=CF.mk Hn Tryz.func235 (by kernel_rfl)
def h236:D1:=⟨[(0,[(7,lI)])],[],[]⟩
theorem e236(x0:SlV):CF 236 [.sv x0] fun K=>
  lp [lI] (0,()) fun z1 go1=>
   ifB (decide ((z1.1:Int)<x0.len)) (
    A8 x0.a fun a1=>
    ixn z1.1 x0.len<|
    ld (a1.add (z1.1.toNat*1)) (.lf (.int .u8)) fun v1=>
    ifB ((v1:Int) !=255) (
     K (.b false)) (
     go1 (IntKind.i64.wrap (z1.1+1),()))) (
    K (.b true))
  :=CF.mk h236 Tryz.func236 (by kernel_rfl)
theorem e237(x0:SlV)(x1:Int):CF 237 [.sv x0,.i x1] fun K=>
 cl PP 179 #[.sv x0] [lI] fun r1=>
 K (.b ((r1.1:Int)==x1))
 :=CF.mk Hn Tryz.func237 (by kernel_rfl)
set_option maxRecDepth 100000
theorem e238(x0:SlV)(x1:Int)(x2:Int):CF 238 [.sv x0,.i x1,.i x2] fun K=>
 cl PP 227 #[.sv x0,.i x1,.i x2] [lI,lI] fun r1=>
 K (.i r1.1)
 :=CF.mk Hn Tryz.func238 (by kernel_rfl)
theorem e239(x0:ShV Z3):CF 239 [.agg (ki5 x0)] fun K=>
  nw (.cells (ki5 x0) 272) fun n1=>
  ld n1.z (lI) fun v1=>
  ifB (decide ((v1:Int)<1)) (
   K (.i 16)) (
   ld n1.z (lI) fun v2=>
   ifB (decide ((v2:Int)>4)) (
    K (.i 16)) (
    ld (Addr.add n1.z 2) (lI) fun v3=>
    ifB (decide ((v3:Int)<1)) (
     K (.i 3)) (
     ld (Addr.add n1.z 2) (lI) fun v4=>
     ifB (decide ((v4:Int)>16)) (
      K (.i 3)) (
      ld (Addr.add n1.z 1) (lI) fun v5=>
      ifB (decide ((v5:Int)<0)) (
       K (.i 3)) (
       ld (Addr.add n1.z 1) (lI) fun v6=>
       ld (Addr.add n1.z 2) (lI) fun v7=>
       ifB (decide ((v6:Int)≥v7)) (
        K (.i 3)) (
        ld (Addr.add n1.z 3) (lI) fun v8=>
        ifB (decide ((v8:Int)<1)) (
         K (.i 3)) (
         ld (Addr.add n1.z 3) (lI) fun v9=>
         ifB (decide ((v9:Int)>1073741824)) (
          K (.i 3)) (
          ld (Addr.add n1.z 4) (lI) fun v10=>
          ifB (decide ((v10:Int)<0)) (
           K (.i 3)) (
           ld (Addr.add n1.z 4) (lI) fun v11=>
           ifB (decide ((v11:Int)≥16)) (
            K (.i 3)) (
            K (.i 0)))))))))))
  :=CF.mk Hn Tryz.func239 (by kernel_rfl)
theorem e240(x0:SlV):CF 240 [.sv x0] fun K=>
 nw (.cells #[] 5) fun n1=>
 smW PP (Builtin.append_ #[27,27] 27 #[.slice (some n1.z) 0 0,.sv x0]) [.lf .sl] fun v1=>
 nw (.cells #[.slice v1.1.a v1.1.len v1.1.cap,.i 0] 389) fun n2=>
 K (.p n2)
 :=CF.mk Hn Tryz.func240 (by kernel_rfl)
def h241:D1:=⟨[],[],[(12,[0,1,2,4,5,6,7,3,8,9,10,11,12]),(3,[0,1,2,4,5,6,3,7,8,9,10,11,12,13])]⟩
theorem e241(x0:Option Addr):CF 241 [.q x0] fun K=>
  ifB (Option.isNone x0) (
   K (.t #[.w (ByteArray.mk #[]),.i 1])) (
   A8 x0 fun a1=>
   A8 x0 fun a2=>
   ld a1 (.lf .sl) fun v1=>
   ld (a2.add 1) (lI) fun v2=>
   cl PP 227 #[.sv v1,.i v2,.i 4] [lI,lI] fun r1=>
   ifB ((r1.2.1:Int) !=0) (
    K (.t #[.w (ByteArray.mk #[]),.i r1.2.1])) (
    A8 x0 fun a3=>
    ld (a3.add 1) (lI) fun v3=>
    ifB (decide ((r1.1:Int)>65536)) (
     K (.t #[.w (ByteArray.mk #[]),.i 4])) (
     A8 x0 fun a4=>
     ld a4 (.lf .sl) fun v4=>
     ifB (decide ((r1.1:Int)>(IntKind.i64.wrap (v4.len-(IntKind.i64.wrap (v3+4)))))) (
      K (.t #[.w (ByteArray.mk #[]),.i 6])) (
      A8 x0 fun a5=>
      st (a5.add 1) [.i (IntKind.i64.wrap ((IntKind.i64.wrap (v3+4))+r1.1))]<|
      A8 x0 fun a6=>
      A8 x0 fun a7=>
      ld a6 (.lf .sl) fun v5=>
      ld (a7.add 1) (lI) fun v6=>
      slc ⟨v5.a,v5.len,v5.cap⟩ (IntKind.i64.wrap (v3+4)) v6 v5.cap 1 fun s1=>
      smR PP (Conv.bytesToString (.sv s1)) [.lf .str] fun v7=>
      K (.t #[.w v7.1,.i 0])))))
  :=CF.mk h241 Tryz.func241 (by kernel_rfl)
def h242:D1:=⟨[],[],[(3,[0,1,2,5,6,7,3,4,8,9,10])]⟩
theorem e242(x0:Option Addr):CF 242 [.q x0] fun K=>
  ifB (Option.isNone x0) (
   K (.i 0)) (
   A8 x0 fun a1=>
   A8 x0 fun a2=>
   ld a1 (.lf .sl) fun v1=>
   ld (a2.add 1) (lI) fun v2=>
   K (.i (IntKind.i64.wrap (v1.len-v2))))
  :=CF.mk h242 Tryz.func242 (by kernel_rfl)
def h243:D1:=⟨[],[],[(3,[0,1,2,4,5,6,8,3,7,9,10,11,12,13,14])]⟩
theorem e243(x0:Option Addr)(x1:Int):CF 243 [.q x0,.i x1] fun K=>
  ifB (Option.isNone x0) (
   K (.t #[.i 0,.i 1])) (
   A8 x0 fun a1=>
   A8 x0 fun a2=>
   ld a1 (.lf .sl) fun v1=>
   ld (a2.add 1) (lI) fun v2=>
   cl PP 227 #[.sv v1,.i v2,.i x1] [lI,lI] fun r1=>
   ifB ((r1.2.1:Int)==0) (
    A8 x0 fun a3=>
    ld (a3.add 1) (lI) fun v3=>
    A8 x0 fun a4=>
    st (a4.add 1) [.i (IntKind.i64.wrap (v3+x1))]<|
    K (.t (kii r1))) (
    K (.t (kii r1))))
  :=CF.mk h243 Tryz.func243 (by kernel_rfl)
theorem e244(x0:Int)(x1:ShV Z7)(x2:Option Addr):CF 244 [.i x0,.agg (kibb x1),.q x2] fun K=>
 nw (.cells (kibb x1) 194) fun n1=>
 A8 x2 fun a1=>
 ld a1 (lI) fun v1=>
 A8 x2 fun a2=>
 st a2 [.i (IntKind.i64.wrap (v1+1))]<|
 K (.t #[])
 :=CF.mk Hn Tryz.func244 (by kernel_rfl)
theorem e245(x0:Option Addr):CF 245 [.q x0] fun K=>
  ifB (Option.isNone x0) (
   K (.t #[.i 0,.b false])) (
   A8 x0 fun a1=>
   ld (a1.add 1) (.lf .sl) fun v1=>
   ifB ((v1.len:Int)==0) (
    K (.t #[.i 0,.b false])) (
    A8 x0 fun a2=>
    ld (a2.add 1) (.lf .sl) fun v2=>
    A8 v2.a fun a3=>
    ixn 0 v2.len<|
    ld (a3.add ((0:Int).toNat*1)) (lI) fun v3=>
    K (.t #[.i v3,.b true])))
  :=CF.mk Hn Tryz.func245 (by kernel_rfl)
def h246:D1:=⟨[],[(5,[]),(8,[])],[(13,[0,1,2,3,5,4,6,7,8]),(6,[0,1,2,3,5,4,6,7]),(5,[0,1,2,3,5,4,6,7,8,9,10,11,12,13,15,14,16,17,18,19,20,21,22,23,24,26,25,27,28,29,30]),(3,[0,1,2,3,4,5,6,8,7,10,9,11,12,13]),(1,[0,1,2,3,4,5,6,7,8,9,10,11,12,13])]⟩
theorem e246(x0:Option Addr)(x1:ShV Z1)(x2:ShV Z1)(x3:Int):CF 246 [.q x0,.agg (ki3 x1),.agg (ki3 x2),.i x3] fun K=>
  nw (.cells (ki3 x1) 102) fun n1=>
  nw (.cells (ki3 x2) 215) fun n2=>
  A8 x0 fun a1=>
  ld (a1.add 11) (.lf .ptr) fun v1=>
  ld n1.z Z1 fun v2=>
  cl PP 118 #[.q v1,.agg (ki3 v2)] [.lf .str,.lf .sl,lI] fun r1=>
  cl PP 41 #[.q x0,.w r1.1] [.lf (.int .u64)] fun r2=>
  jn (fun y1:RsV []=>
   jn (fun y2:RsV []=>
    A8 x0 fun a9=>
    ld a9 Z4 fun v15=>
    cl PP 111 #[.w r1.1,.sv r1.2.1,.agg (ki4 v15)] [.lf .sl,lI] fun r11=>
    ifB ((r11.2.1:Int) !=0) (
     K (.i r11.2.1)) (
     A8 x0 fun a10=>
     cl PP 64 #[.q (some (a10.add 11)),.i 2,.sv r11.1] [Z1,lI] fun r12=>
     nw (.cells #[.i 0,.i 0,.i 0] 102) fun n5=>
     st n5.z [.i r12.1.1,.i r12.1.2.1,.i r12.1.2.2.1]<|
     ifB ((r12.2.1:Int)==0) (
      A8 x0 fun a11=>
      ld (Addr.add (a11.add 19) 2) (.lf .ptr) fun v16=>
      ld n1.z Z1 fun v17=>
      ld n5.z Z1 fun v18=>
      cl PP 294 #[.q v16,.int .u64 r2.1,.agg (ki3 v17),.agg (ki3 v18)] [.lf .bool] fun r13=>
      K (.i r12.2.1)) (
      K (.i r12.2.1)))) fun j2=>
   A8 x0 fun a3=>
    ld (Addr.add (a3.add 19) 2) (.lf .ptr) fun v5=>
    ld n1.z Z1 fun v6=>
    cl PP 293 #[.q v5,.int .u64 r2.1,.agg (ki3 v6)] [lI] fun r5=>
    ifB ((r5.1:Int)==0) (
     A8 x0 fun a4=>
     ld (Addr.add (a4.add 19) 2) (.lf .ptr) fun v7=>
     ld n1.z Z1 fun v8=>
     cl PP 106 #[.q v7,.int .u64 r2.1,.agg (ki3 v8)] [.lf .bool] fun r6=>
     K (.i 0)) (
     A8 x0 fun a5=>
     ld (Addr.add n2.z 2) (lI) fun v9=>
     nw (.cells #[.i v9,.i x3] 3) fun n3=>
     cl PP 126 #[.q (some (a5.add 11)),.slice (some n3.z) 2 2] [.lf .bool] fun r7=>
     ifB (!r7.1) (
      A8 x0 fun a6=>
      ld (Addr.add (a6.add 19) 2) (.lf .ptr) fun v10=>
      ld n1.z Z1 fun v11=>
      cl PP 106 #[.q v10,.int .u64 r2.1,.agg (ki3 v11)] [.lf .bool] fun r8=>
      K (.i 0)) (
      A8 x0 fun a7=>
      ld (Addr.add n2.z 2) (lI) fun v12=>
      nw (.cells #[.i v12,.i x3] 3) fun n4=>
      cl PP 128 #[.q (some (a7.add 11)),.slice (some n4.z) 2 2] [.lf .bool] fun r9=>
      ifB (!r9.1) (
       A8 x0 fun a8=>
       ld (Addr.add (a8.add 19) 2) (.lf .ptr) fun v13=>
       ld n1.z Z1 fun v14=>
       cl PP 106 #[.q v13,.int .u64 r2.1,.agg (ki3 v14)] [.lf .bool] fun r10=>
       K (.i 0)) (
       j2 (()))))) fun j1=>
  ifB ((r1.2.2.1:Int) !=0) (
    K (.i 0)) (
    A8 x0 fun a2=>
    ld (Addr.add (a2.add 19) 2) (.lf .ptr) fun v3=>
    ld n1.z Z1 fun v4=>
    cl PP 117 #[.q v3,.int .u64 r2.1] [.lf .sl] fun r3=>
    keep (C9 n1.z [.i v4.1,.i v4.2.1,.i v4.2.2.1])<|
    cl PP 292 #[.sv r3.1,.agg (ki3 v4)] [.lf .bool] fun r4=>
    ifB (!r4.1) (
     K (.i 0)) (
     j1 (())))
  :=CF.mk h246 Tryz.func246 (by kernel_rfl)
def h247:D1:=⟨[(0,[(5,lI),(6,lI)])],[],[]⟩
theorem e247(x0:SlV)(x1:FnV):CF 247 [.slice x0.a x0.len x0.cap,.func x1.fn x1.first x1.captured] fun K=>
  cl PP 295 #[.slice x0.a x0.len x0.cap,.func x1.fn x1.first x1.captured] [lI] fun r1=>
  ifB ((r1.1:Int)==(-1)) (
   K (.sv x0)) (
   lp [lI,lI] (r1.1,IntKind.i64.wrap (r1.1+1),()) fun z1 go1=>
    ifB (decide ((z1.2.1:Int)<x0.len)) (
     A8 x0.a fun a1=>
     ixn z1.2.1 x0.len<|
     ld (a1.add (z1.2.1.toNat*3)) Z1 fun v1=>
     nw (.cells #[.i 0,.i 0,.i 0] 102) fun n1=>
     st n1.z [.i v1.1,.i v1.2.1,.i v1.2.2.1]<|
     ld n1.z Z1 fun v2=>
     clv PP x1.fn (x1.first++#[.agg (ki3 v2)]) x1.captured [.lf .bool] fun r2=>
     ifB (!r2.1) (
      ld n1.z Z1 fun v3=>
      A8 x0.a fun a2=>
      ixn z1.1 x0.len<|
      st (a2.add (z1.1.toNat*3)) [.i v3.1,.i v3.2.1,.i v3.2.2.1]<|
      go1 (IntKind.i64.wrap (z1.1+1),IntKind.i64.wrap (z1.2.1+1),())) (
      go1 (z1.1,IntKind.i64.wrap (z1.2.1+1),()))) (
     slc ⟨x0.a,x0.len,x0.cap⟩ z1.1 x0.len x0.cap 3 fun s1=>
     smW PP (Builtin.clear_ #[55] 0 #[.sv s1]) [] fun v4=>
     slc ⟨x0.a,x0.len,x0.cap⟩ 0 z1.1 x0.cap 3 fun s2=>
     K (.sv s2)))
  :=CF.mk h247 Tryz.func247 (by kernel_rfl)
def h248:D1:=⟨[],[],[(1,[0,1,2,3,4,5,6,7])]⟩
theorem e248(x0:ShV Z1)(x1:Option Addr):CF 248 [.agg (ki3 x0),.q x1] fun K=>
 nw (.cells (ki3 x0) 102) fun n1=>
 ld n1.z (lI) fun v1=>
 A8 x1 fun a1=>
 ld a1 (.lf .ptr) fun v2=>
 A8 v2 fun a2=>
 ld a2 (lI) fun v3=>
 K (.b ((v1:Int)==v3))
 :=CF.mk h248 Tryz.func248 (by kernel_rfl)
def h249:D1:=⟨[(0,[(11,.lf .sl),(18,lI)])],[],[]⟩
theorem e249(x0:Option Addr)(x1:Int)(x2:Int)(x3:Int)(x4:SlV):CF 249 [.q x0,.i x1,.i x2,.i x3,.sv x4] fun K=>
  lp [.lf .sl,lI] (⟨none,0,0⟩,0,()) fun z1 go1=>
   ifB (decide ((z1.2.1:Int)<x4.len)) (
    A8 x4.a fun a1=>
    ixn z1.2.1 x4.len<|
    ld (a1.add (z1.2.1.toNat*3)) Z1 fun v1=>
    nw (.cells #[.i 0,.i 0,.i 0] 215) fun n1=>
    st n1.z [.i v1.1,.i v1.2.1,.i v1.2.2.1]<|
    ld n1.z (lI) fun v2=>
    ld (Addr.add n1.z 1) (lI) fun v3=>
    ld (Addr.add n1.z 2) (lI) fun v4=>
    nw (.cells #[.i v2,.i v3,.i v4] 3) fun n2=>
    cl PP 131 #[.sv z1.1,.slice (some n2.z) 3 3] [.lf .sl,.lf .bool] fun r1=>
    ifB (!r1.2.1) (
     K (.i 3)) (
     go1 (⟨r1.1.a,r1.1.len,r1.1.cap⟩,IntKind.i64.wrap (z1.2.1+1),()))) (
    cl PP 193 #[.q x0,.i x1,.agg #[.i 4,.i 0,.i 1,.i x2,.i x3],.sv z1.1] [lI] fun r2=>
    K (.i r2.1))
  :=CF.mk h249 Tryz.func249 (by kernel_rfl)
def h250:D1:=⟨[],[],[(2,[0,1,2,3,4]),(1,[0,1,2,3,5,4,6,7,8])]⟩
theorem e250(x0:Int)(x1:ShV Z7)(x2:Option Addr)(x3:Option Addr)(x4:Option Addr):CF 250 [.i x0,.agg (kibb x1),.q x2,.q x3,.q x4] fun K=>
  nw (.cells (kibb x1) 194) fun n1=>
  A8 x2 fun a1=>
  ld a1 (.lf .bool) fun v1=>
  ifB (!v1) (
   ld n1.z Z7 fun v2=>
   A8 x4 fun a2=>
   st a2 [.i x0]<|
   keep (C9 n1.z [.i v2.1,.b v2.2.1,.b v2.2.2.1])<|
   A8 x3 fun a3=>
   st a3 [.i v2.1,.b v2.2.1,.b v2.2.2.1]<|
   A8 x2 fun a4=>
   st a4 [.b true]<|
   K (.t #[])) (
   ld n1.z Z7 fun v3=>
   A8 x3 fun a5=>
   ld a5 Z7 fun v4=>
   cl PP 251 #[.agg (kibb v3)] [lI] fun r1=>
   keep (C9 a5 [.i v4.1,.b v4.2.1,.b v4.2.2.1])<|
   cl PP 251 #[.agg (kibb v4)] [lI] fun r2=>
   ifB (decide ((r1.1:Int)<r2.1)) (
    ld n1.z Z7 fun v5=>
    A8 x4 fun a6=>
    st a6 [.i x0]<|
    keep (C9 n1.z [.i v5.1,.b v5.2.1,.b v5.2.2.1])<|
    A8 x3 fun a7=>
    st a7 [.i v5.1,.b v5.2.1,.b v5.2.2.1]<|
    A8 x2 fun a8=>
    st a8 [.b true]<|
    K (.t #[])) (
    K (.t #[])))
  :=CF.mk h250 Tryz.func250 (by kernel_rfl)
theorem e251(x0:ShV Z7):CF 251 [.agg (kibb x0)] fun K=>
  nw (.cells (kibb x0) 194) fun n1=>
  ld (Addr.add n1.z 2) (.lf .bool) fun v1=>
  ifB v1 (
   ld n1.z (lI) fun v2=>
   K (.i (IntKind.i64.wrap (v2+1)))) (
   ld n1.z (lI) fun v3=>
   K (.i v3))
  :=CF.mk Hn Tryz.func251 (by kernel_rfl)
def h252:D1:=⟨[],[],[(10,[0,1,2,3,4,6,7,8,9,5,10,11]),(7,[0,1,2,3,4,5,6,7,10,11,12,13,8,14,9,15])]⟩
theorem e252(x0:Option Addr)(x1:Int):CF 252 [.q x0,.i x1] fun K=>
  cl PP 235 #[.q x0,.i x1,.i 0] [.lf .ptr,lI] fun r1=>
  ifB ((r1.2.1:Int) !=0) (
   K (.i r1.2.1)) (
   A8 r1.1 fun a1=>
   ld (a1.add 3) (.lf .bool) fun v1=>
   ifB v1 (
    K (.i 10)) (
    A8 x0 fun a2=>
    cl PP 296 #[.q (some a2)] [.lf .bool] fun r2=>
    ifB r2.1 (
     A8 x0 fun a3=>
     A8 x0 fun a4=>
     A8 x0 fun a5=>
     ld (Addr.add (a4.add 3) 1) (lI) fun v2=>
     ld (Addr.add (a5.add 3) 2) (lI) fun v3=>
     cl PP 297 #[.q (some a3),.i v2] [lI] fun r3=>
     keep (C9 (Addr.add (a5.add 3) 2) [.i v3])<|
     cl PP 91 #[.q r1.1,.i r3.1,.i v3] [] fun r4=>
     A8 x0 fun a6=>
     ld (Addr.add (a6.add 3) 1) (lI) fun v4=>
     A8 r1.1 fun a7=>
     st (a7.add 1) [.i v4]<|
     K (.i 11)) (
     A8 x0 fun a8=>
     A8 x0 fun a9=>
     ld (Addr.add (a8.add 3) 1) (lI) fun v5=>
     ld (Addr.add (a9.add 3) 2) (lI) fun v6=>
     cl PP 91 #[.q r1.1,.i v5,.i v6] [] fun r5=>
     A8 x0 fun a10=>
     ld (Addr.add (a10.add 3) 3) (lI) fun v7=>
     cl PP 298 #[.q r1.1,.i v7] [.lf .bool] fun r6=>
     ifB r6.1 (
      K (.i 10)) (
      K (.i 0)))))
  :=CF.mk h252 Tryz.func252 (by kernel_rfl)
theorem e253(x0:Option Addr)(x1:Int)(x2:Bool):CF 253 [.q x0,.i x1,.b x2] fun K=>
 nw (.cells #[.b x2] 4) fun n1=>
 cl PP 299 #[.q x0,.i x1,.func (.func 300) #[] #[.p n1]] [.lf .bool] fun r1=>
 K (.b r1.1)
 :=CF.mk Hn Tryz.func253 (by kernel_rfl)
theorem e254(x0:Option Addr)(x1:Int)(x2:Int):CF 254 [.q x0,.i x1,.i x2] fun K=>
 cl PP 193 #[.q x0,.i x1,.agg #[.i 1,.i 0,.i 1,.i x2,.i 0],.slice none 0 0] [lI] fun r1=>
 K (.i r1.1)
 :=CF.mk Hn Tryz.func254 (by kernel_rfl)
theorem e255(x0:Option Addr)(x1:Int):CF 255 [.q x0,.i x1] fun K=>
  cl PP 172 #[.q x0,.i x1] [.lf .bool] fun r1=>
  ifB (!r1.1) (
   K (.b false)) (
   A8 x0 fun a1=>
   ld a1 (.lf .sl) fun v1=>
   A8 v1.a fun a2=>
   ixn x1 v1.len<|
   ld (Addr.add (a2.add (x1.toNat*3)) 2) (.lf .bool) fun v2=>
   ifB v2 (
    K (.b false)) (
    A8 x0 fun a3=>
    ld (a3.add 1) (.lf .sl) fun v3=>
    nw (.cells #[.i x1] 3) fun n1=>
    smW PP (Builtin.append_ #[49,49] 49 #[.sv v3,.slice (some n1.z) 1 1]) [.lf .sl] fun v4=>
    A8 x0 fun a4=>
    st (a4.add 1) [.slice v4.1.a v4.1.len v4.1.cap]<|
    K (.b true)))
  :=CF.mk Hn Tryz.func255 (by kernel_rfl)
theorem e256(x0:ShV Z3)(x1:SlV)(x2:Int):CF 256 [.agg (ki5 x0),.sv x1,.i x2] fun K=>
  nw (.cells (ki5 x0) 272) fun n1=>
  cl PP 129 #[.i x2] [.lf .bool] fun r1=>
  ifB (!r1.1) (
   K (.t #[.slice none 0 0,.i 2])) (
   ld n1.z Z3 fun v1=>
   cl PP 239 #[.agg (ki5 v1)] [lI] fun r2=>
   ifB ((r2.1:Int) !=0) (
    K (.t #[.slice none 0 0,.i r2.1])) (
    cl PP 62 #[.i x2] [lI] fun r3=>
    ifB (decide ((x1.len:Int)>r3.1)) (
     K (.t #[.slice none 0 0,.i 4])) (
     ld n1.z (lI) fun v2=>
     ld (Addr.add n1.z 1) (lI) fun v3=>
     ld (Addr.add n1.z 2) (lI) fun v4=>
     ld (Addr.add n1.z 3) (lI) fun v5=>
     ld (Addr.add n1.z 4) (lI) fun v6=>
     nw (.cells #[.i v2,.i 1,.i v3,.i 1,.i v4,.i 1,.i 165,.i 1,.i v5,.i 4,.i v6,.i 1,.i 0,.i 1,.i x1.len,.i 2] 399) fun n2=>
     cl PP 301 #[.slice none 0 0,.slice (some n2.z) 8 8] [.lf .sl] fun r4=>
     smA PP (Instr.makeSlice 27 (.i (IntKind.i64.wrap (x2-4))) (.i (IntKind.i64.wrap (x2-4)))) (.lf .sl) fun v7=>
     smW PP (Builtin.copy_ #[27,27] 3 #[.sv v7,.sv r4.1]) [lI] fun v8=>
     slc ⟨v7.a,v7.len,v7.cap⟩ v8.1 v7.len v7.cap 1 fun s1=>
     smW PP (Builtin.copy_ #[27,27] 3 #[.sv s1,.sv x1]) [lI] fun v9=>
     cl PP 179 #[.sv v7] [lI] fun r5=>
     nw (.cells #[.i r5.1,.i 4] 399) fun n3=>
     cl PP 301 #[.sv v7,.slice (some n3.z) 1 1] [.lf .sl] fun r6=>
     K (.t #[.sv r6.1,.i 0]))))
  :=CF.mk Hn Tryz.func256 (by kernel_rfl)
def h257:D1:=⟨[],[],[(18,[0,1,2,3,5,6,8,11,4,7,9,10,12,13,14,15,16,17,18]),(17,[0,1,2,3,4,5,6,7,8,9,10,11,12]),(13,[0,1,2,4,5,6,7,3,8,9,10,11,12])]⟩
theorem e257(x0:Option Addr)(x1:Int)(x2:Int)(x3:SlV):CF 257 [.q x0,.i x1,.i x2,.sv x3] fun K=>
  cl PP 235 #[.q x0,.i x1,.i x2] [.lf .ptr,lI] fun r1=>
  ifB ((r1.2.1:Int) !=0) (
   K (.i r1.2.1)) (
   A8 x0 fun a1=>
   ld (Addr.add (a1.add 3) 2) (lI) fun v1=>
   ifB ((x3.len:Int) !=v1) (
    K (.i 2)) (
    A8 r1.1 fun a2=>
    ld (a2.add 3) (.lf .bool) fun v2=>
    ifB v2 (
     K (.i 10)) (
     A8 r1.1 fun a3=>
     ld (a3.add 1) (lI) fun v3=>
     ifB ((v3:Int) !=x2) (
      K (.i 9)) (
      A8 x0 fun a4=>
      ld (Addr.add (a4.add 3) 2) (lI) fun v4=>
      cl PP 163 #[.i v4] [.lf .sl] fun r2=>
      A8 r1.1 fun a5=>
      ld a5 (.lf .sl) fun v5=>
      A8 v5.a fun a6=>
      ixn x2 v5.len<|
      st (a6.add (x2.toNat*1)) [.slice r2.1.a r2.1.len r2.1.cap]<|
      A8 r1.1 fun a7=>
      ld (a7.add 1) (lI) fun v6=>
      A8 r1.1 fun a8=>
      st (a8.add 1) [.i (IntKind.i64.wrap (v6+1))]<|
      A8 x0 fun a9=>
      A8 x0 fun a10=>
      ld (a9.add 8) (lI) fun v7=>
      ld (Addr.add (a10.add 3) 2) (lI) fun v8=>
      A8 x0 fun a11=>
      st (a11.add 8) [.i (IntKind.i64.wrap (v7+v8))]<|
      A8 x0 fun a12=>
      cl PP 296 #[.q (some a12)] [.lf .bool] fun r3=>
      ifB (!r3.1) (
       smW PP (Builtin.copy_ #[27,27] 3 #[.sv r2.1,.sv x3]) [lI] fun v9=>
       K (.i 0)) (
       A8 x0 fun a13=>
       A8 x0 fun a14=>
       ld (Addr.add (a14.add 3) 2) (lI) fun v10=>
       cl PP 297 #[.q (some a13),.i v10] [lI] fun r4=>
       slc ⟨x3.a,x3.len,x3.cap⟩ 0 r4.1 x3.cap 1 fun s1=>
       smW PP (Builtin.copy_ #[27,27] 3 #[.sv r2.1,.sv s1]) [lI] fun v11=>
       A8 x0 fun a15=>
       ld (a15.add 9) (.lf .sl) fun v12=>
       nw (.cells #[] 5) fun n1=>
       smW PP (Builtin.append_ #[27,27] 27 #[.slice (some n1.z) 0 0,.sv x3]) [.lf .sl] fun v13=>
       keep (C9 (a15.add 9) [.sv v12])<|
       nw (.cells #[] 5) fun n2=>
       smW PP (Builtin.append_ #[27,27] 27 #[.slice (some n2.z) 0 0,.sv r2.1]) [.lf .sl] fun v14=>
       keep (C9 (a15.add 9) [.sv v12])<|
       nw (.cells #[.i x1,.i x2,.slice v13.1.a v13.1.len v13.1.cap,.slice v14.1.a v14.1.len v14.1.cap] 401) fun n3=>
       smW PP (Builtin.append_ #[73,73] 73 #[.sv v12,.slice (some n3.z) 1 1]) [.lf .sl] fun v15=>
       A8 x0 fun a16=>
       st (a16.add 9) [.slice v15.1.a v15.1.len v15.1.cap]<|
       K (.i 11))))))
  :=CF.mk h257 Tryz.func257 (by kernel_rfl)
set_option maxRecDepth 100000
def h283:D1:=⟨[(0,[(17,lI)])],[],[(6,[0,1,2,3,6,7,8,4,5,9,10,11,12,13,14])]⟩
theorem e283(x0:SlV):CF 283 [.sv x0] fun K=>
  nw (.cells #[.slice none 0 0,.i 0,.i 0] 375) fun n1=>
  slc ⟨x0.a,x0.len,x0.cap⟩ 0 (Ad3 x0.len 16) x0.cap 1 fun s1=>
  lp [lI] (0,()) fun z1 go1=>
   ifB (decide ((z1.1:Int)<s1.len)) (
    A8 s1.a fun a1=>
    ixn z1.1 s1.len<|
    ld (a1.add (z1.1.toNat*1)) (.lf .sl) fun v1=>
    cl PP 182 #[.sv v1] [Z3,.lf .sl,lI] fun r1=>
    nw (.cells #[.i 0,.i 0,.i 0,.i 0,.i 0] 272) fun n2=>
    st n2.z [.i r1.1.1,.i r1.1.2.1,.i r1.1.2.2.1,.i r1.1.2.2.2.1,.i r1.1.2.2.2.2.1]<|
    ld n1.z (.lf .sl) fun v2=>
    ld n2.z Z3 fun v3=>
    nw (.cells #[.i v3.1,.i v3.2.1,.i v3.2.2.1,.i v3.2.2.2.1,.i v3.2.2.2.2.1,.slice r1.2.1.a r1.2.1.len r1.2.1.cap,.b ((r1.2.2.1:Int)==0)] 377) fun n3=>
    smW PP (Builtin.append_ #[373,373] 373 #[.sv v2,.slice (some n3.z) 1 1]) [.lf .sl] fun v4=>
    st n1.z [.slice v4.1.a v4.1.len v4.1.cap]<|
    cl PP 236 #[.sv v1] [.lf .bool] fun r2=>
    ifB (!r2.1) (
     st (Addr.add n1.z 2) [.i z1.1]<|
     go1 (IntKind.i64.wrap (z1.1+1),())) (
     go1 (IntKind.i64.wrap (z1.1+1),()))) (
    K (.p n1))
  :=CF.mk h283 Tryz.func283 (by kernel_rfl)
def h284:D1:=⟨[],[],[(2,[0,1,2,3,4,5,6,7,8,9,10,11,12,13,14,16,15,17,18,19,20,21,22,23,24,25,27,26,28,29,30,31,32,33])]⟩
theorem e284(x0:Option Addr)(x1:Int)(x2:ShV Z3):CF 284 [.q x0,.i x1,.agg (ki5 x2)] fun K=>
  nw (.cells (ki5 x2) 272) fun n1=>
  A8 x0 fun a1=>
  ld (a1.add 1) (lI) fun v1=>
  st (Addr.add n1.z 3) [.i v1]<|
  st (Addr.add n1.z 4) [.i x1]<|
  ifB (decide ((x1:Int)<0)) (
   K (.t #[.slice none 0 0,.b false])) (
   A8 x0 fun a2=>
   ld a2 (.lf .sl) fun v2=>
   ifB (decide ((x1:Int)≥v2.len)) (
    K (.t #[.slice none 0 0,.b false])) (
    A8 x0 fun a3=>
    ld a3 (.lf .sl) fun v3=>
    A8 v3.a fun a4=>
    ixn x1 v3.len<|
    ld (Addr.add (a4.add (x1.toNat*7)) 6) (.lf .bool) fun v4=>
    ifB (!v4) (
     K (.t #[.slice none 0 0,.b false])) (
     A8 x0 fun a5=>
     ld a5 (.lf .sl) fun v5=>
     A8 v5.a fun a6=>
     ixn x1 v5.len<|
     ld (a6.add (x1.toNat*7)) Z3 fun v6=>
     ld n1.z Z3 fun v7=>
     smP PP (binOp .neq 272 (.agg (ki5 v6)) (.agg (ki5 v7))) (.lf .bool) fun v8=>
     ifB v8 (
      K (.t #[.slice none 0 0,.b false])) (
      A8 x0 fun a7=>
      ld a7 (.lf .sl) fun v9=>
      A8 v9.a fun a8=>
      ixn x1 v9.len<|
      ld (Addr.add (a8.add (x1.toNat*7)) 5) (.lf .sl) fun v10=>
      K (.t #[.sv v10,.b true])))))
  :=CF.mk h284 Tryz.func284 (by kernel_rfl)
def h285:D1:=⟨[(0,[(4,.lf .sl),(6,.lf .sl),(7,lI)])],[],[(13,[0,1,2,3,4,7,5,6,8]),(8,[0,1,4,5,8,9,2,3,6,7,10,11,12,13,14])]⟩
theorem e285(x0:Option Addr):CF 285 [.q x0] fun K=>
  A8 x0 fun a1=>
  ld (a1.add 2) (lI) fun v1=>
  cl PP 284 #[.q x0,.i v1,.agg #[.i 4,.i 0,.i 1,.i 0,.i 0]] [.lf .sl,.lf .bool] fun r1=>
  ifB (!r1.2.1) (
   K (.t #[.slice none 0 0,.b false])) (
   req ((3:Int)≠0)<|
   ifB ((Int.tmod r1.1.len 3:Int) !=0) (
    K (.t #[.slice none 0 0,.b false])) (
    lp [.lf .sl,.lf .sl,lI] (⟨r1.1.a,r1.1.len,r1.1.cap⟩,⟨none,0,0⟩,1,()) fun z1 go1=>
     ifB (decide ((z1.1.len:Int)>0)) (
      A8 z1.1.a fun a2=>
      ixn 0 z1.1.len<|
      A8 z1.1.a fun a3=>
      ixn 1 z1.1.len<|
      A8 z1.1.a fun a4=>
      ixn 2 z1.1.len<|
      ld (a2.add ((0:Int).toNat*1)) (.lf (.int .u8)) fun v2=>
      ld (a3.add ((1:Int).toNat*1)) (.lf (.int .u8)) fun v3=>
      ld (a4.add ((2:Int).toNat*1)) (.lf (.int .u8)) fun v4=>
      nw (.cells #[.i 0,.i 0,.i 0] 215) fun n1=>
      st n1.z [.i (IntKind.i64.wrap v2),.i (IntKind.i64.wrap v3),.i (IntKind.i64.wrap v4)]<|
      ld n1.z (lI) fun v5=>
      cl PP 320 #[.i v5] [.lf .bool] fun r2=>
      ifB (!r2.1) (
       K (.t #[.slice none 0 0,.b false])) (
       ld (Addr.add n1.z 2) (lI) fun v6=>
       ifB ((v6:Int)==0) (
        K (.t #[.slice none 0 0,.b false])) (
        ld (Addr.add n1.z 1) (lI) fun v7=>
        ifB ((v7:Int) !=z1.2.2.1) (
         K (.t #[.slice none 0 0,.b false])) (
         ld (Addr.add n1.z 2) (lI) fun v8=>
         ld n1.z Z1 fun v9=>
         nw (.cells (ki3 v9) 215) fun n2=>
         smW PP (Builtin.append_ #[152,152] 152 #[.sv z1.2.1,.slice (some n2.z) 1 1]) [.lf .sl] fun v10=>
         slc ⟨z1.1.a,z1.1.len,z1.1.cap⟩ 3 z1.1.len z1.1.cap 1 fun s1=>
         go1 (⟨s1.a,s1.len,s1.cap⟩,⟨v10.1.a,v10.1.len,v10.1.cap⟩,IntKind.i64.wrap (z1.2.2.1+v8),()))))) (
      A8 x0 fun a5=>
      ld (a5.add 2) (lI) fun v11=>
      K (.t #[.sv z1.2.1,.b ((z1.2.2.1:Int)==v11)]))))
  :=CF.mk h285 Tryz.func285 (by kernel_rfl)
def h286:D1:=⟨[(0,[(5,.lf .sl),(6,lI)])],[],[]⟩
theorem e286(x0:Option Addr)(x1:FnV):CF 286 [.q x0,.func x1.fn x1.first x1.captured] fun K=>
  lp [.lf .sl,lI] (⟨none,0,0⟩,1,()) fun z1 go1=>
   A8 x0 fun a1=>
   ld (a1.add 2) (lI) fun v1=>
   ifB (decide ((z1.2.1:Int)<=v1)) (
    clv PP x1.fn (x1.first++#[.i z1.2.1]) x1.captured [Z1,.lf .bool] fun r1=>
    nw (.cells #[.i 0,.i 0,.i 0] 215) fun n1=>
    st n1.z [.i r1.1.1,.i r1.1.2.1,.i r1.1.2.2.1]<|
    ifB (!r1.2.1) (
     go1 (⟨z1.1.a,z1.1.len,z1.1.cap⟩,IntKind.i64.wrap (z1.2.1+1),())) (
     ld n1.z Z1 fun v2=>
     nw (.cells (ki3 v2) 215) fun n2=>
     smW PP (Builtin.append_ #[152,152] 152 #[.sv z1.1,.slice (some n2.z) 1 1]) [.lf .sl] fun v3=>
     ld (Addr.add n1.z 2) (lI) fun v4=>
     go1 (⟨v3.1.a,v3.1.len,v3.1.cap⟩,IntKind.i64.wrap ((IntKind.i64.wrap (z1.2.1+(IntKind.i64.wrap (v4-1))))+1),()))) (
    K (.sv z1.1))
  :=CF.mk h286 Tryz.func286 (by kernel_rfl)
def h287:D1:=⟨[(0,[(31,lI)])],[],[]⟩
theorem e287(x0:Option Addr)(x1:Int):CF 287 [.q x0,.i x1] fun K=>
  nw (.cells #[.i 0,.i 0,.i 0] 215) fun n1=>
  A8 x0 fun a1=>
  ld a1 (.lf .sl) fun v1=>
  A8 v1.a fun a2=>
  ixn x1 v1.len<|
  ld (a2.add (x1.toNat*7)) (.agg [.int .i64,.int .i64,.int .i64,.int .i64,.int .i64,.sl,.bool]) fun v2=>
  nw (.cells #[.i 0,.i 0,.i 0,.i 0,.i 0,.slice none 0 0,.b false] 377) fun n2=>
  st n2.z [.i v2.1,.i v2.2.1,.i v2.2.2.1,.i v2.2.2.2.1,.i v2.2.2.2.2.1,.slice v2.2.2.2.2.2.1.a v2.2.2.2.2.2.1.len v2.2.2.2.2.2.1.cap,.b v2.2.2.2.2.2.2.1]<|
  ld (Addr.add n2.z 6) (.lf .bool) fun v3=>
  ifB (!v3) (
   st n1.z [.i 0,.i 0,.i 0]<|
   ld n1.z Z1 fun v4=>
   K (.t #[.agg (ki3 v4),.b false])) (
   ld n2.z (lI) fun v5=>
   cl PP 320 #[.i v5] [.lf .bool] fun r1=>
   ifB (!r1.1) (
    st n1.z [.i 0,.i 0,.i 0]<|
    ld n1.z Z1 fun v6=>
    K (.t #[.agg (ki3 v6),.b false])) (
    ld (Addr.add n2.z 2) (lI) fun v7=>
    lp [lI] (0,()) fun z1 go1=>
     ifB (decide ((z1.1:Int)<v7)) (
      ld n2.z (lI) fun v8=>
      ld (Addr.add n2.z 2) (lI) fun v9=>
      cl PP 284 #[.q x0,.i (IntKind.i64.wrap (x1+z1.1)),.agg #[.i v8,.i z1.1,.i v9,.i 0,.i 0]] [.lf .sl,.lf .bool] fun r2=>
      ifB (!r2.2.1) (
       st n1.z [.i 0,.i 0,.i 0]<|
       ld n1.z Z1 fun v10=>
       K (.t #[.agg (ki3 v10),.b false])) (
       go1 (IntKind.i64.wrap (z1.1+1),()))) (
      ld n2.z (lI) fun v11=>
      ld (Addr.add n2.z 2) (lI) fun v12=>
      st n1.z [.i v11,.i x1,.i v12]<|
      ld n1.z Z1 fun v13=>
      K (.t #[.agg (ki3 v13),.b true]))))
  :=CF.mk h287 Tryz.func287 (by kernel_rfl)
def h288:D1:=⟨[(0,[(7,lI),(8,lI)]),(2,[(6,lI)]),(4,[(7,lI),(8,lI)])],[],[]⟩
theorem e288(x0:SlV)(x1:Int)(x2:FnV):CF 288 [.slice x0.a x0.len x0.cap,.i x1,.func x2.fn x2.first x2.captured] fun K=>
  lp [lI,lI] (0,20,()) fun z1 go1=>
   ifB (decide ((z1.2.1:Int)<=x1)) (
    cl PP 321 #[.slice x0.a x0.len x0.cap,.i z1.1,.i z1.2.1,.func x2.fn x2.first x2.captured] [] fun r1=>
    go1 (z1.2.1,IntKind.i64.wrap (z1.2.1+20),())) (
    cl PP 321 #[.slice x0.a x0.len x0.cap,.i z1.1,.i x1,.func x2.fn x2.first x2.captured] [] fun r2=>
    lp [lI] (20,()) fun z2 go2=>
     ifB (decide ((z2.1:Int)<x1)) (
      lp [lI,lI] (0,IntKind.i64.wrap (2*z2.1),()) fun z3 go3=>
       ifB (decide ((z3.2.1:Int)<=x1)) (
        cl PP 322 #[.slice x0.a x0.len x0.cap,.i z3.1,.i (IntKind.i64.wrap (z3.1+z2.1)),.i z3.2.1,.func x2.fn x2.first x2.captured] [] fun r3=>
        go3 (z3.2.1,IntKind.i64.wrap (z3.2.1+(IntKind.i64.wrap (2*z2.1))),())) (
        ifB (decide ((IntKind.i64.wrap (z3.1+z2.1):Int)<x1)) (
         cl PP 322 #[.slice x0.a x0.len x0.cap,.i z3.1,.i (IntKind.i64.wrap (z3.1+z2.1)),.i x1,.func x2.fn x2.first x2.captured] [] fun r4=>
         go2 (IntKind.i64.wrap (z2.1*2),())) (
         go2 (IntKind.i64.wrap (z2.1*2),())))) (
      K (.t #[])))
  :=CF.mk h288 Tryz.func288 (by kernel_rfl)
def h289:D1:=⟨[(0,[(8,lI)])],[],[]⟩
theorem e289(x0:SlV)(x1:Int):CF 289 [.sv x0,.i x1] fun K=>
  lp [lI] (0,()) fun z1 go1=>
   ifB (decide ((z1.1:Int)<x0.len)) (
    A8 x0.a fun a1=>
    ixn z1.1 x0.len<|
    ld (a1.add (z1.1.toNat*1)) (lI) fun v1=>
    ifB ((x1:Int)==v1) (
     K (.i z1.1)) (
     go1 (IntKind.i64.wrap (z1.1+1),()))) (
    K (.i (-1)))
  :=CF.mk h289 Tryz.func289 (by kernel_rfl)
def h290:D1:=⟨[],[(3,[])],[]⟩
theorem e290(x0:SlV)(x1:Int):CF 290 [.sv x0,.i x1] fun K=>
  jn (fun y1:RsV []=>
   ifB (decide ((IntKind.i64.wrap (x1-(IntKind.i64.wrap (x0.cap-x0.len))):Int)>0)) (
    slc ⟨x0.a,x0.len,x0.cap⟩ 0 x0.cap x0.cap 1 fun s1=>
    smW PP (Builtin.append_ #[27,3] 27 #[.sv s1,.i (IntKind.i64.wrap (x1-(IntKind.i64.wrap (x0.cap-x0.len))))]) [.lf .sl] fun v1=>
    slc ⟨v1.1.a,v1.1.len,v1.1.cap⟩ 0 x0.len v1.1.cap 1 fun s2=>
    K (.sv s2)) (
    K (.sv x0))) fun j1=>
  ifB (decide ((x1:Int)<0)) (
    ff) (
    j1 (()))
  :=CF.mk h290 Tryz.func290 (by kernel_rfl)
def h291:D1:=⟨[(0,[(0,.lf (.int .u32)),(10,lI)]),(2,[(0,.lf (.int .u32)),(18,lI)])],[],[]⟩
theorem e291(x0:Int)(x1:SlV):CF 291 [.int .u32 x0,.sv x1] fun K=>
  lp [.lf (.int .u32),lI] (x0,0,()) fun z1 go1=>
   ifB (decide ((z1.2.1:Int)<x1.len)) (
    A8 x1.a fun a1=>
    ixn z1.2.1 x1.len<|
    ld (a1.add (z1.2.1.toNat*1)) (.lf (.int .u8)) fun v1=>
    lp [.lf (.int .u32),lI] (Ao1 .xor .u32 z1.1 (IntKind.u32.wrap v1),0,()) fun z2 go2=>
     ifB (decide ((z2.2.1:Int)<8)) (
      req ((0:Int)<=1)<|
      go2 (Ao1 .xor .u32 (Int.fdiv z2.1 (2^(min (1:Int).toNat IntKind.u32.bits))) (Ao1 .and .u32 2197175160 (IntKind.u32.wrap (0-(Ao1 .and .u32 z2.1 1)))),IntKind.i64.wrap (z2.2.1+1),())) (
      go1 (z2.1,IntKind.i64.wrap (z1.2.1+1),()))) (
    K (.int .u32 z1.1))
  :=CF.mk h291 Tryz.func291 (by kernel_rfl)
theorem e292(x0:SlV)(x1:ShV Z1):CF 292 [.sv x0,.agg (ki3 x1)] fun K=>
 nw (.cells (ki3 x1) 102) fun n1=>
 ld n1.z Z1 fun v1=>
 cl PP 323 #[.sv x0,.agg (ki3 v1)] [lI] fun r1=>
 K (.b (decide ((r1.1:Int)≥0)))
 :=CF.mk Hn Tryz.func292 (by kernel_rfl)
theorem e293(x0:Option Addr)(x1:Int)(x2:ShV Z1):CF 293 [.q x0,.int .u64 x1,.agg (ki3 x2)] fun K=>
 nw (.cells (ki3 x2) 102) fun n1=>
 nw (.cells #[.i 0] 3) fun n2=>
 st n2.z [.i 0]<|
 ld n1.z Z1 fun v1=>
 cl PP 124 #[.q x0,.int .u64 x1,.agg (ki3 v1),.func (.func 324) #[] #[.p n2]] [.lf .bool] fun r1=>
 ld n2.z (lI) fun v2=>
 K (.i v2)
 :=CF.mk Hn Tryz.func293 (by kernel_rfl)
def h294:D1:=⟨[],[],[(4,[0,1,2,5,3,6,7,8,4,9,10])]⟩
theorem e294(x0:Option Addr)(x1:Int)(x2:ShV Z1)(x3:ShV Z1):CF 294 [.q x0,.int .u64 x1,.agg (ki3 x2),.agg (ki3 x3)] fun K=>
  nw (.cells (ki3 x2) 102) fun n1=>
  nw (.cells (ki3 x3) 102) fun n2=>
  ld n1.z Z1 fun v1=>
  cl PP 176 #[.q x0,.int .u64 x1,.agg (ki3 v1)] [Z3,.lf .bool] fun r1=>
  nw (.cells #[.i 0,.i 0,.i 0,.i 0,.i 0] 204) fun n3=>
  st n3.z [.i r1.1.1,.i r1.1.2.1,.i r1.1.2.2.1,.i r1.1.2.2.2.1,.i r1.1.2.2.2.2.1]<|
  ifB r1.2.1 (
   ld n2.z Z1 fun v2=>
   cl PP 176 #[.q x0,.int .u64 x1,.agg (ki3 v2)] [Z3,.lf .bool] fun r2=>
   ld n2.z Z1 fun v3=>
   ld (Addr.add n3.z 4) (lI) fun v4=>
   cl PP 184 #[.int .u64 x1,.agg (ki3 v3)] [Z4] fun r3=>
   keep (C9 (Addr.add n3.z 4) [.i v4])<|
   cl PP 230 #[.q x0,.int .u64 x1,.agg #[.i r3.1.1,.i r3.1.2.1,.i r3.1.2.2.1,.i r3.1.2.2.2.1,.i (Aa2 (IntKind.i64.wrap (v4-1)) 0)]] [] fun r4=>
   K (.b r1.2.1)) (
   K (.b r1.2.1))
  :=CF.mk h294 Tryz.func294 (by kernel_rfl)
def h295:D1:=⟨[(0,[(8,lI)])],[],[]⟩
theorem e295(x0:SlV)(x1:FnV):CF 295 [.slice x0.a x0.len x0.cap,.func x1.fn x1.first x1.captured] fun K=>
  lp [lI] (0,()) fun z1 go1=>
   ifB (decide ((z1.1:Int)<x0.len)) (
    A8 x0.a fun a1=>
    ixn z1.1 x0.len<|
    ld (a1.add (z1.1.toNat*3)) Z1 fun v1=>
    clv PP x1.fn (x1.first++#[.agg (ki3 v1)]) x1.captured [.lf .bool] fun r1=>
    ifB r1.1 (
     K (.i z1.1)) (
     go1 (IntKind.i64.wrap (z1.1+1),()))) (
    K (.i (-1)))
  :=CF.mk h295 Tryz.func295 (by kernel_rfl)
theorem e296(x0:Option Addr):CF 296 [.q x0] fun K=>
  A8 x0 fun a1=>
  ld a1 (lI) fun v1=>
  ifB ((v1:Int)==0) (
   K (.b false)) (
   A8 x0 fun a2=>
   ld a2 (lI) fun v2=>
   A8 x0 fun a3=>
   st a3 [.i (IntKind.i64.wrap (v2-1))]<|
   A8 x0 fun a4=>
   ld a4 (lI) fun v3=>
   A8 x0 fun a5=>
   st (a5.add 2) [.b ((v3:Int)==0)]<|
   A8 x0 fun a6=>
   ld (a6.add 2) (.lf .bool) fun v4=>
   K (.b v4))
  :=CF.mk Hn Tryz.func296 (by kernel_rfl)
theorem e297(x0:Option Addr)(x1:Int):CF 297 [.q x0,.i x1] fun K=>
 A8 x0 fun a1=>
 ld (a1.add 1) (lI) fun v1=>
 K (.i (Ad3 (Aa2 v1 0) x1))
 :=CF.mk Hn Tryz.func297 (by kernel_rfl)
theorem e298(x0:Option Addr)(x1:Int):CF 298 [.q x0,.i x1] fun K=>
 A8 x0 fun a1=>
 st (a1.add 1) [.i 0]<|
 A8 x0 fun a2=>
 ld (a2.add 2) (lI) fun v1=>
 A8 x0 fun a3=>
 st (a3.add 2) [.i (IntKind.i64.wrap (v1+1))]<|
 A8 x0 fun a4=>
 ld (a4.add 2) (lI) fun v2=>
 A8 x0 fun a5=>
 st (a5.add 3) [.b ((v2:Int)==x1)]<|
 A8 x0 fun a6=>
 ld (a6.add 3) (.lf .bool) fun v3=>
 K (.b v3)
 :=CF.mk Hn Tryz.func298 (by kernel_rfl)
def h299:D1:=⟨[],[],[(4,[0,1,2,3,4,5,6,7])]⟩
theorem e299(x0:Option Addr)(x1:Int)(x2:FnV):CF 299 [.q x0,.i x1,.func x2.fn x2.first x2.captured] fun K=>
  nw (.cells #[.i x1] 3) fun n1=>
  ld n1.z (lI) fun v1=>
  cl PP 120 #[.q x0,.i v1] [.lf .bool] fun r1=>
  ifB (!r1.1) (
   K (.b false)) (
   A8 x0 fun a1=>
   ld (a1.add 1) (.lf .sl) fun v2=>
   cl PP 325 #[.sv v2,.func (.func 326) #[] #[.p n1]] [.lf .sl] fun r2=>
   A8 x0 fun a2=>
   st (a2.add 1) [.slice r2.1.a r2.1.len r2.1.cap]<|
   A8 x0 fun a3=>
   ld a3 (.lf .sl) fun v3=>
   ld n1.z (lI) fun v4=>
   A8 v3.a fun a4=>
   ixn v4 v3.len<|
   clv PP x2.fn (x2.first++#[.q (some (a4.add (v4.toNat*3)))]) x2.captured [] fun r3=>
   K (.b true))
  :=CF.mk h299 Tryz.func299 (by kernel_rfl)
theorem e300(x0:Option Addr)(x1:Option Addr):CF 300 [.q x0,.q x1] fun K=>
 A8 x0 fun a1=>
 ld a1 (lI) fun v1=>
 A8 x0 fun a2=>
 st a2 [.i (IntKind.i64.wrap (v1+1))]<|
 A8 x1 fun a3=>
 ld a3 (.lf .bool) fun v2=>
 A8 x0 fun a4=>
 st (a4.add 1) [.b v2]<|
 A8 x0 fun a5=>
 st (a5.add 2) [.b false]<|
 K (.t #[])
 :=CF.mk Hn Tryz.func300 (by kernel_rfl)
def h301:D1:=⟨[(0,[(0,.lf .sl),(9,lI)])],[],[]⟩
theorem e301(x0:SlV)(x1:SlV):CF 301 [.sv x0,.sv x1] fun K=>
  lp [.lf .sl,lI] (⟨x0.a,x0.len,x0.cap⟩,0,()) fun z1 go1=>
   ifB (decide ((z1.2.1:Int)<x1.len)) (
    A8 x1.a fun a1=>
    ixn z1.2.1 x1.len<|
    ld (a1.add (z1.2.1.toNat*2)) Z9 fun v1=>
    nw (.cells #[.i 0,.i 0] 399) fun n1=>
    st n1.z [.i v1.1,.i v1.2.1]<|
    ld n1.z (lI) fun v2=>
    ld (Addr.add n1.z 1) (lI) fun v3=>
    cl PP 132 #[.sv z1.1,.i v2,.i v3] [.lf .sl,lI] fun r1=>
    go1 (⟨r1.1.a,r1.1.len,r1.1.cap⟩,IntKind.i64.wrap (z1.2.1+1),())) (
    K (.sv z1.1))
  :=CF.mk h301 Tryz.func301 (by kernel_rfl)
set_option maxRecDepth 100000
theorem e320(x0:Int):CF 320 [.i x0] fun K=>
  ifB ((x0:Int)==2) (
   K (.b true)) (
   K (.b ((x0:Int)==3)))
  :=CF.mk Hn Tryz.func320 (by kernel_rfl)
def h321:D1:=⟨[(0,[(8,lI)]),(2,[(9,lI)])],[(6,[])],[(6,[0,1,2,3,4,5,6,7,8,10,11,12,9,13,14,15,16,17]),(4,[0,1,2,3,4,5,6,7,9,10,11,12,8,13,14,15,16])]⟩
theorem e321(x0:SlV)(x1:Int)(x2:Int)(x3:FnV):CF 321 [.slice x0.a x0.len x0.cap,.i x1,.i x2,.func x3.fn x3.first x3.captured] fun K=>
  lp [lI] (IntKind.i64.wrap (x1+1),()) fun z1 go1=>
   ifB (decide ((z1.1:Int)<x2)) (
    lp [lI] (z1.1,()) fun z2 go2=>
     jn (fun y1:RsV []=>
      A8 x0.a fun a3=>
      ixn (IntKind.i64.wrap (z2.1-1)) x0.len<|
      A8 x0.a fun a4=>
      ixn z2.1 x0.len<|
      ld (a3.add ((IntKind.i64.wrap (z2.1-1)).toNat*3)) Z5 fun v3=>
      ld (a4.add (z2.1.toNat*3)) Z5 fun v4=>
      A8 x0.a fun a5=>
      ixn z2.1 x0.len<|
      st (a5.add (z2.1.toNat*3)) [.i v3.1,.i v3.2.1,.slice v3.2.2.1.a v3.2.2.1.len v3.2.2.1.cap]<|
      A8 x0.a fun a6=>
      ixn (IntKind.i64.wrap (z2.1-1)) x0.len<|
      st (a6.add ((IntKind.i64.wrap (z2.1-1)).toNat*3)) [.i v4.1,.i v4.2.1,.slice v4.2.2.1.a v4.2.2.1.len v4.2.2.1.cap]<|
      go2 (IntKind.i64.wrap (z2.1-1),())) fun j1=>
     ifB (decide ((z2.1:Int)>x1)) (
       A8 x0.a fun a1=>
       ixn z2.1 x0.len<|
       A8 x0.a fun a2=>
       ixn (IntKind.i64.wrap (z2.1-1)) x0.len<|
       ld (a1.add (z2.1.toNat*3)) Z5 fun v1=>
       ld (a2.add ((IntKind.i64.wrap (z2.1-1)).toNat*3)) Z5 fun v2=>
       clv PP x3.fn (x3.first++#[.agg #[.i v1.1,.i v1.2.1,.slice v1.2.2.1.a v1.2.2.1.len v1.2.2.1.cap],.agg #[.i v2.1,.i v2.2.1,.slice v2.2.2.1.a v2.2.2.1.len v2.2.2.1.cap]]) x3.captured [lI] fun r1=>
       ifB (decide ((r1.1:Int)<0)) (
        j1 (())) (
        go1 (IntKind.i64.wrap (z1.1+1),()))) (
       go1 (IntKind.i64.wrap (z1.1+1),()))) (
    K (.t #[]))
  :=CF.mk h321 Tryz.func321 (by kernel_rfl)
def h323:D1:=⟨[(0,[(8,lI)])],[],[(4,[1,2,3,0,4,5])]⟩
theorem e323(x0:SlV)(x1:ShV Z1):CF 323 [.sv x0,.agg (ki3 x1)] fun K=>
  nw (.cells (ki3 x1) 102) fun n1=>
  lp [lI] (0,()) fun z1 go1=>
   ifB (decide ((z1.1:Int)<x0.len)) (
    A8 x0.a fun a1=>
    ixn z1.1 x0.len<|
    ld n1.z Z1 fun v1=>
    ld (a1.add (z1.1.toNat*3)) Z1 fun v2=>
    smP PP (binOp .eql 102 (.agg (ki3 v1)) (.agg (ki3 v2))) (.lf .bool) fun v3=>
    ifB v3 (
     K (.i z1.1)) (
     go1 (IntKind.i64.wrap (z1.1+1),()))) (
    K (.i (-1)))
  :=CF.mk h323 Tryz.func323 (by kernel_rfl)
theorem e324(x0:Option Addr)(x1:Option Addr):CF 324 [.q x0,.q x1] fun K=>
 A8 x0 fun a1=>
 ld (a1.add 4) (lI) fun v1=>
 A8 x1 fun a2=>
 st a2 [.i v1]<|
 K (.t #[])
 :=CF.mk Hn Tryz.func324 (by kernel_rfl)
def h325:D1:=⟨[(0,[(5,lI),(6,lI)])],[],[]⟩
theorem e325(x0:SlV)(x1:FnV):CF 325 [.slice x0.a x0.len x0.cap,.func x1.fn x1.first x1.captured] fun K=>
  cl PP 335 #[.slice x0.a x0.len x0.cap,.func x1.fn x1.first x1.captured] [lI] fun r1=>
  ifB ((r1.1:Int)==(-1)) (
   K (.sv x0)) (
   lp [lI,lI] (r1.1,IntKind.i64.wrap (r1.1+1),()) fun z1 go1=>
    ifB (decide ((z1.2.1:Int)<x0.len)) (
     A8 x0.a fun a1=>
     ixn z1.2.1 x0.len<|
     ld (a1.add (z1.2.1.toNat*1)) (lI) fun v1=>
     clv PP x1.fn (x1.first++#[.i v1]) x1.captured [.lf .bool] fun r2=>
     ifB (!r2.1) (
      A8 x0.a fun a2=>
      ixn z1.1 x0.len<|
      st (a2.add (z1.1.toNat*1)) [.i v1]<|
      go1 (IntKind.i64.wrap (z1.1+1),IntKind.i64.wrap (z1.2.1+1),())) (
      go1 (z1.1,IntKind.i64.wrap (z1.2.1+1),()))) (
     slc ⟨x0.a,x0.len,x0.cap⟩ z1.1 x0.len x0.cap 1 fun s1=>
     smW PP (Builtin.clear_ #[49] 0 #[.sv s1]) [] fun v2=>
     slc ⟨x0.a,x0.len,x0.cap⟩ 0 z1.1 x0.cap 1 fun s2=>
     K (.sv s2)))
  :=CF.mk h325 Tryz.func325 (by kernel_rfl)
theorem e326(x0:Int)(x1:Option Addr):CF 326 [.i x0,.q x1] fun K=>
 A8 x1 fun a1=>
 ld a1 (lI) fun v1=>
 K (.b ((x0:Int)==v1))
 :=CF.mk Hn Tryz.func326 (by kernel_rfl)
def h335:D1:=⟨[(0,[(8,lI)])],[],[]⟩
theorem e335(x0:SlV)(x1:FnV):CF 335 [.slice x0.a x0.len x0.cap,.func x1.fn x1.first x1.captured] fun K=>
  lp [lI] (0,()) fun z1 go1=>
   ifB (decide ((z1.1:Int)<x0.len)) (
    A8 x0.a fun a1=>
    ixn z1.1 x0.len<|
    ld (a1.add (z1.1.toNat*1)) (lI) fun v1=>
    clv PP x1.fn (x1.first++#[.i v1]) x1.captured [.lf .bool] fun r1=>
    ifB r1.1 (
     K (.i z1.1)) (
     go1 (IntKind.i64.wrap (z1.1+1),()))) (
    K (.i (-1)))
  :=CF.mk h335 Tryz.func335 (by kernel_rfl)
abbrev tB:TypeId:=27
abbrev eB:TypeId:=5
theorem undB:PP.underlying tB=some (.slice eB):=by kernel_rfl
theorem Ar2:V4 PP tB eB 1 1 [.int .u8 0]:=N3 (by kernel_rfl) (by kernel_rfl) rfl (by decide) (by decide)
theorem Cy4:Ax5 PP tB:=.inl ⟨eB,by kernel_rfl⟩
theorem srcS:Ax5 PP 9:=.inr (by kernel_rfl)
theorem constB{L:A4}{b:Nat}{l:List UInt8}{T:TypeId}{fz:Nat×Nat}(cap:Nat)(hc:l.length<=cap)(hm:(b,Obj.cells (bvs l).toArray T fz)∈L):BSl L ⟨some b.z,l.length,cap⟩ l:=
 ⟨by rw[E5];simp,hc,.inr ⟨_,rfl,.blk hm fun i v hv=>by simpa using hv⟩⟩
theorem Ai1{n:Nat}{e:TypeId}:Own ⟨some n.z,0,0⟩ 1 e [] [(n,Obj.cells #[] e)]:=⟨rfl,Dq6 _,.inr ⟨n,0,#[],(0,0),rfl,rfl,by simp,.inl (Dq6 _),fun i u hu=>by simp at hu⟩⟩
theorem F6{sz:Nat}{e:TypeId}:Own ⟨none,0,0⟩ sz e [] []:=⟨by simp,Dq6 _,.inl ⟨rfl,rfl,rfl⟩⟩
def dig(n i:Nat):UInt8:=UInt8.ofNat (n/256^i)
def N4(n w:Nat):List UInt8:=(List.range w).map (dig n)
theorem Q1(n w:Nat):(N4 n w).length=w:=by simp[N4]
theorem Bt3(n w:Nat):N4 n (w+1)=N4 n w++[dig n w]:=by simp[N4,D41]
theorem Bt4(n w:Nat):N4 n (w+1)=UInt8.ofNat n::N4 (n/256) w:=by
 induction w with
 |zero=>simp[N4,dig]
 |succ w ih=>
  rw[Bt3 n (w+1),ih,Bt3 (n/256) w];have:dig n (w+1)=dig (n/256) w:=by
   unfold dig;rw[D56,D77,Nat.div_div_eq_div_mul]
  rw[this];rfl
def num:List UInt8->Nat
 |[]=>0
 |x::r=>x.toNat+256*num r
theorem Ck9: ∀l:List UInt8,num l<256^l.length
 |[]=>by simp[num]
 |x::r=>by
  have h1:=Ck9 r;have h2:=x.toNat_lt;rw[Dr8,D56];simp only[num];omega
theorem C21(l:List UInt8)(x:UInt8):num (l++[x])=num l+256^l.length*x.toNat:=by
 induction l with
 |nil=>simp[num]
 |cons y r ih=>
  rw[Dt7];simp only[num,ih,Dr8,D56];rw[Nat.mul_add,<-D34,D77 (256^r.length) 256,Nat.mul_assoc]
theorem Ap7(w:Nat): ∀n,n<256^w->num (N4 n w)=n:=by
 induction w with
 |zero=>intro n h;simp at h;subst h;rfl
 |succ w ih=>
  intro n h;rw[Bt4];simp only[num];rw[ih (n/256) (by rw[D56]at h;omega)];have:(UInt8.ofNat n).toNat=n%256:=by simp
  rw[this];exact Nat.mod_add_div n 256
def Az7(b:List UInt8)(n w:Int):List UInt8×Int:=
 if w<1\/7<w then([],2)else if n<0\/((256^w.toNat:Nat):Int)<=n then([],3)else(b++N4 n.toNat w.toNat,0)
theorem C90{b:List UInt8}{n w:Int}(h:w<1\/7<w):Az7 b n w=([],2):=by unfold Az7;rw[Dq5 h]
theorem Cw8{b:List UInt8}{n w:Int}(h: ¬(w<1\/7<w))(h2:n<0):Az7 b n w=([],3):=by unfold Az7;rw[Dq4 h,Dq5 (Or.inl h2)]
theorem Cx0{b:List UInt8}{n w:Int}(h: ¬(w<1\/7<w))(h2:((256^w.toNat:Nat):Int)<=n):Az7 b n w=([],3):=by unfold Az7;rw[Dq4 h,Dq5 (Or.inr h2)]
theorem Am7{b:List UInt8}{n w:Int}(h: ¬(w<1\/7<w))(h1: ¬n<0)(h2:n.toNat<256^w.toNat):Az7 b n w=(b++N4 n.toNat w.toNat,0):=by
 unfold Az7;rw[Dq4 h,Dq4];rintro(h3|h3)
 ·exact h1 h3
 ·generalize 256^w.toNat=q at h2 h3;omega
def PutK(b:List UInt8)(n w:Int)(A:A4)(v:Value)(L':A4):Prop:= ∃(s:SlV) (seg:A4),v= .t #[.slice s.a s.len s.cap,.i (Az7 b n w).2]/\L'=seg++A/\Own s 1 eB (bvs (Az7 b n w).1) seg
theorem PutK.err{b:List UInt8}{n w:Int}{A:A4}{e:Int}(h:Az7 b n w=([],e)):PutK b n w A (.t #[.slice none 0 0,.i e]) A:=
 ⟨⟨none,0,0⟩,[],by rw[h],rfl,by rw[h];exact F6⟩
theorem Cg8(n:Nat)(i:Nat):Int.fdiv (n:Int) (2^(8*i))=((n/256^i:Nat):Int):=by
 rw[D78 _ (D49 (Int.pow_pos (by omega)))];have:(2:Int)^(8*i)=((256^i:Nat):Int):=by rw[Int.pow_mul,Int.natCast_pow];rfl
 rw[this,Int.natCast_ediv]
theorem Cw7(n i:Nat):IntKind.u8.wrap ((n/256^i:Nat):Int)=((dig n i).toNat:Int):=by
 rw[w8_bv,D75];unfold dig;have:(UInt8.ofNat (n/256^i)).toNat=n/256^i%256:=by simp
 rw[this];omega
theorem digs8(n:Nat):N4 n 8=[dig n 0,dig n 1,dig n 2,dig n 3,dig n 4,dig n 5,dig n 6,dig n 7]:=rfl
theorem wr8(c:Array Value)(hc:c.size=8)(a b c' d e f g h:UInt8):wr c 0 [.int .u8 a.toNat,.int .u8 b.toNat,.int .u8 c'.toNat,.int .u8 d.toNat,.int .u8 e.toNat,.int .u8 f.toNat,.int .u8 g.toNat,.int .u8 h.toNat]=(bvs [a,b,c',d,e,f,g,h]).toArray:=C89 _ _ (by rw[hc];rfl)
def digA(n k:Nat):Array Value:=((List.range 8).map fun j=>Value.int .u8 (if j<k then(dig n j).toNat else 0)).toArray
theorem of_rd(L:A4)(n:Nat):Reads PP 192 #[.i n] L (.agg (bvs (N4 n 8)).toArray):=by
 refine(e192 n).r ?_;refine C4 fun n1 _=>C4 fun n2 _=>?_;refine G7 (fun k z L'=> ∃i,i<=8/\k=8-i/\z=((i:Int),())/\L'=(n2,Obj.cells (digA n i) 282)::(n1,Obj.cells #[.int .u8 0,.int .u8 0,.int .u8 0,.int .u8 0,.int .u8 0,.int .u8 0,.int .u8 0,.int .u8 0] 282)::L) 8 ⟨0,by omega,by omega,rfl,rfl⟩ ?_;rintro k z L' ⟨i,hi,rfl,rfl,rfl⟩;refine C0 (fun(hO:(i:Int)<8)=>?_) (fun(aS: ¬(i:Int)<8)=>?_)
 ·have hw:IntKind.i64.wrap (8*(i:Int))=((8*i:Nat):Int):=by rw[C1 (by omega) (by omega)];omega
  have hm:min (8*i) IntKind.i64.bits=8*i:=Dx1 (show 8*i<=64 by omega);simp only[hw,Dr0,hm,Cg8,Cw7,Dt8];refine Ad8 (by omega) (D9 (by omega) hO (E4 (n:=n2) (off:=i) [] _ (by rw[P2 (ad:=n2.z) rfl,Dy2]) rfl ?_ (.inl (Dq6 _)) (digA n (i+1)) ?_ ?_))
  ·have:(digA n i).size=8:=by simp[digA]
   rw[this];simp only[Dr8,Du7];omega
  ·rcases(show i=0\/i=1\/i=2\/i=3\/i=4\/i=5\/i=6\/i=7 by omega)with rfl|rfl|rfl|rfl|rfl|rfl|rfl|rfl<;>rfl
  ·refine⟨8-(i+1),by omega,i+1,by omega,rfl,?_,rfl⟩;rw[C1 (by first|omega|(simp only;omega)) (by first|omega|(simp only;omega))];rfl
 ·obtain rfl:i=8:=by omega
  refine A6 ((dig n 0).toNat,(dig n 1).toNat,(dig n 2).toNat,(dig n 3).toNat,(dig n 4).toNat,(dig n 5).toNat,(dig n 6).toNat,(dig n 7).toNat,()) (ldB Dq7 rfl) ?_;rw[digs8];refine E4 [(n2,Obj.cells (digA n 8) 282)] L rfl rfl (by simp) (.inl (Dq6 _)) _ (wr8 _ rfl _ _ _ _ _ _ _ _) ?_;refine A6 ((dig n 0).toNat,(dig n 1).toNat,(dig n 2).toNat,(dig n 3).toNat,(dig n 4).toNat,(dig n 5).toNat,(dig n 6).toNat,(dig n 7).toNat,()) (ldB (Dr6 _ Dq7) rfl) ?_;exact .drop (A:=L) (J:=[_,_]) ⟨rfl,rfl⟩ (Du8 (l₁:=[_,_]))
theorem Bx7{w:Nat}(h:w<=7):256^w<=72057594037927936:=D50 (n:=256) (by omega) h
theorem Bd0(A:A4)(v:SlV)(b:List UInt8)(hb:BSl A v b)(hl:b.length<=1000000)(n w:Int)(hn:n<=9223372036854775807):
  CallF PP 132 #[.slice v.a v.len v.cap,.i n,.i w] A (PutK b n w A):=by
 refine(e132 v n w).c ?_;have hC:=hb.len;refine C0 (fun(h1:w<1)=>.of (.err (C90 (by omega)))) (fun(h1: ¬w<1)=>?_);refine C0 (fun(h2:w>7)=>.of (.err (C90 (by omega)))) (fun(h2: ¬w>7)=>?_);refine C0 (fun(h3:n<0)=>.of (.err (Cw8 (by omega) h3))) (fun(h3: ¬n<0)=>?_);obtain⟨m,rfl⟩: ∃m:Nat,n=m:=⟨n.toNat,by omega⟩;obtain⟨u,rfl⟩: ∃u:Nat,w=u:=⟨w.toNat,by omega⟩;have jS:=Bx7 (w:=u) (by omega);have hw:IntKind.i64.wrap (8*(u:Int))=((8*u:Nat):Int):=by rw[C1 (by omega) (by omega)];omega
 have hm:min (8*u) IntKind.i64.bits=8*u:=Dx1 (show 8*u<=64 by omega);simp only[hw,Dr0,hm,Cg8];refine Ad8 (by omega) (P0 (fun(h4:((m/256^u:Nat):Int)≠0)=>.of (.err ?_)) (fun(h4:((m/256^u:Nat):Int)=0)=>?_))
 ·refine Cx0 (by omega) ?_;rw[Dr0];have:256^u<=m:=by
   refine Nat.le_of_not_lt fun hO=>h4 ?_;simp[Eb3 hO]
  generalize 256^u=q at this;omega
 ·have hO:m<256^u:=by
   refine Nat.lt_of_not_le fun bS=>?_;have:=Nat.div_pos bS (Nat.pow_pos (by omega));omega
  have eJ:Az7 b m u=(b++N4 m u,0):=by
   have:=Am7 (b:=b) (n:=m) (w:=u) (by omega) (by omega) (by simpa using hO);simpa using this
  refine B5 (of_rd A m) (((dig m 0).toNat,(dig m 1).toNat,(dig m 2).toNat,(dig m 3).toNat,(dig m 4).toNat,(dig m 5).toNat,(dig m 6).toNat,(dig m 7).toNat,()),()) rfl ?_;refine C4 fun n1 _=>E4 [] A rfl rfl (by simp) (.inl (Dq6 _)) (bvs (N4 m 8)).toArray (by rw[digs8];exact wr8 _ rfl _ _ _ _ _ _ _ _) ?_;have hc:IntKind.i64.wrap ((v.len:Int)+(u:Int))=((v.len+u:Nat):Int):=by rw[C1 (by omega) (by omega)];omega
  rw[hc];refine A38 (l:=0) (c:=v.len+u) Ar2 (by omega) (by omega) fun n2 ob own0 _ _=>?_;have z0:Ag7 [Value.int .u8 0] 0=[]:=rfl;rw[z0]at own0;refine E6 Ar2 Cy4 [] ([(n1,Obj.cells (bvs (N4 m 8)).toArray 282)]++A) own0 (by simp) (.sl (hb.mono fun p hp=>by simp[hp])) (L8 _) (by simp only;omega) fun s1 seg1 bK own1=>?_;simp only at bK;refine K7 (l':=0) (h':=u) (m':=8) rfl rfl rfl (by omega) (by omega) (Dq6 _) ?_;have hd:BSl ([]++seg1++([(n1,Obj.cells (bvs (N4 m 8)).toArray 282)]++A)) ⟨some n1.z,8,8⟩ (N4 m 8):=constB (l:=N4 m 8) (T:=282) (fz:=(0,0)) 8 (by rw[Q1];exact Dq6 _) (by simp);have fE:=Sl.slc (l:=0) (h':=u) (m:=8) hd (by omega) (by omega) (by simp only;omega) (by omega);rw[Ai9]at fE;have e1:((N4 m 8).drop 0).take (u-0)=N4 m u:=by
   rcases(show u=1\/u=2\/u=3\/u=4\/u=5\/u=6\/u=7 by omega)with rfl|rfl|rfl|rfl|rfl|rfl|rfl<;>rfl
  rw[e1]at fE;refine E6 Ar2 Cy4 [] ([(n1,Obj.cells (bvs (N4 m 8)).toArray 282)]++A) own1 rfl (.sl fE) (L8 _) (by simp only[Q0,Dr0];omega) fun s2 seg2 aJ own2=>?_;rw[Ds1,<-Ak9]at own2;refine .drop (A:=seg2++A) (J:=[(n1,Obj.cells (bvs (N4 m 8)).toArray 282)]) ⟨s2,seg2,by rw[eJ],rfl,by rw[eJ];exact own2⟩ ?_;have h1:([(n1,Obj.cells (bvs (N4 m 8)).toArray 282)]++A).Perm (A++[(n1,Obj.cells (bvs (N4 m 8)).toArray 282)]):=Du8;simpa[Ds5]using Eb5 seg2 h1
abbrev tPs:TypeId:=96
theorem Bt1:V4 PP tPs tB 1 24 [.slice none 0 0]:=N3 (by kernel_rfl) (by kernel_rfl) rfl (by decide) (by decide)
theorem Cy3:Ax5 PP tPs:=.inl ⟨tB,by kernel_rfl⟩
structure PG where
 v:SlV
 seg:A4
 l:List UInt8
def PG.Ok(g:PG):Prop:=Own g.v 1 eB (bvs g.l) g.seg
def PG.val(g:PG):Value:=.slice g.v.a g.v.len g.v.cap
def pgs(l:List PG):A4:=l.flatMap PG.seg
theorem Q4(a b:List PG):pgs (a++b)=pgs a++pgs b:=Dt3
theorem Ap5(a:PG)(b:List PG):pgs (a::b)=a.seg++pgs b:=rfl
theorem A31(a:PG):pgs [a]=a.seg:=by simp[pgs]
def pg0:PG:=⟨⟨none,0,0⟩,[],[]⟩
theorem Bo9:pg0.Ok:=F6
abbrev PV:=SlV×List UInt8
def pvV(x:PV):Value:=.slice x.1.a x.1.len x.1.cap
def pvs(l:List PG):List PV:=l.map fun g=>(g.v,g.l)
theorem Di5(l:List PG):(pvs l).map pvV=l.map PG.val:=by unfold pvs;rw[Dv2];rfl
def Al6(l:List PV):List UInt8:=l.flatMap Prod.snd
structure Z0(L:A4)(v:SlV)(l:List PV):Prop where
 sl:Sl L v 1 (l.map pvV)
 val: ∀x∈l,BSl L x.1 x.2
theorem Z0.mono{L R:A4}{v:SlV}{l:List PV}(h:Z0 L v l)(hs: ∀p∈L,p∈R):Z0 R v l:=⟨h.sl.mono hs,fun x hx=>Sl.mono (h.val x hx) hs⟩
theorem Z0.len{L:A4}{v:SlV}{l:List PV}(h:Z0 L v l):v.len=l.length:=by have:=h.sl.len;rw[Dr1]at this;omega
theorem Z0.at'{L:A4}{v:SlV}{l:List PV}(h:Z0 L v l){i:Nat}(hi:i<l.length): ∃a,v.a=some a/\C9 (a.add ((i:Int).toNat*1)) [pvV l[i]] L:=by
 have hl:=h.len;obtain⟨a,ha,cD⟩:=h.sl.at' (i:=i) (by omega) (by decide);refine⟨a,ha,?_⟩;rw[Dr0,Dt8];exact cD.one i (by rw[Du3,Dr9 hi];rfl)
theorem Bf0{L:A4}{v:SlV}{gs:List PG}{seg:A4}(own:Own v 1 tB (gs.map PG.val) seg)(hg: ∀g∈gs,g.Ok)(h1: ∀x∈seg,x∈L)(h2: ∀x∈pgs gs,x∈L):Z0 L v (pvs gs):=by
 refine⟨by rw[Di5];exact own.sl.mono h1,fun x hx=>?_⟩;obtain⟨g,qK,rfl⟩:=Dt4.1 hx;exact Sl.mono (hg g qK).sl fun y hy=>h2 y (Dw7.2 ⟨g,qK,hy⟩)
theorem Aw5(l:List PV)(i:Nat):(Al6 (l.take i)).length<=(Al6 l).length:=by
 conv=>rhs;rw[<-Dw1 i l]
 unfold Al6;rw[Dt3,Dr4];omega
theorem Bu1(l:List PV){i:Nat}(hi:i<l.length):Al6 (l.take (i+1))=Al6 (l.take i)++l[i].2:=by
 unfold Al6;rw[Ds4 hi,Dt3,Dx7]
def V5(b:List UInt8)(at' w:Int):Int×Int:=
 if w<1\/7<w then(0,2)else if at'<0\/(b.length:Int)<at'+w then(0,6)else((num ((b.drop at'.toNat).take w.toNat):Int),0)
theorem C92{b:List UInt8}{a w:Int}(h:w<1\/7<w):V5 b a w=(0,2):=by unfold V5;rw[Dq5 h]
theorem As1{b:List UInt8}{a w:Int}(h: ¬(w<1\/7<w))(h2:a<0\/(b.length:Int)<a+w):V5 b a w=(0,6):=by unfold V5;rw[Dq4 h,Dq5 h2]
theorem Bd2{b:List UInt8}{a w:Nat}(h:1<=w)(h7:w<=7)(h2:a+w<=b.length):V5 b a w=((num ((b.drop a).take w):Int),0):=by
 unfold V5;rw[Dq4 (by omega),Dq4 (by omega),Dr0,Dr0]
theorem Da9(w:Nat)(h:w<=7):0<256^w/\256^w<=72057594037927936:=⟨Nat.pow_pos (by omega),Bx7 h⟩
theorem Db4{l:List UInt8}{w:Nat}(hl:l.length<=w)(hw:w<=7):num l<256^w:=Eb0 (Ck9 l) (D50 (by omega) hl)
theorem Aj3(b:List UInt8)(a w:Int):0<=(V5 b a w).1/\(V5 b a w).1<72057594037927936/\((V5 b a w).2=0\/(V5 b a w).2=2\/(V5 b a w).2=6)/\((V5 b a w).2=0->0<=a/\1<=w/\w<=7/\a+w<=b.length):=by
 unfold V5;split
 ·exact⟨by simp,by simp,.inr (.inl rfl),fun h=>absurd h (by decide)⟩
 ·split
  ·exact⟨by simp,by simp,.inr (.inr rfl),fun h=>absurd h (by decide)⟩
  ·have h1:=Db4 (l:=(b.drop a.toNat).take w.toNat) (w:=w.toNat) (D76 _ _) (by omega);have h2:=Bx7 (w:=w.toNat) (by omega);refine⟨by simp only;omega,by simp only;omega,.inl rfl,fun _=>⟨by omega,by omega,by omega,by omega⟩⟩
theorem Cf3(b:List UInt8)(a i:Nat)(h:a+i<b.length):(b.drop a).take (i+1)=(b.drop a).take i++[b[a+i]]:=by
 rw[Ds4 (by rw[Ds6];omega)];congr 2;simp
theorem Bd1(L:A4)(v:SlV)(b:List UInt8)(hb:BSl L v b)(hl:b.length<=1000000000)(a w:Int):
  Reads PP 227 #[.slice v.a v.len v.cap,.i a,.i w] L (.t #[.i (V5 b a w).1,.i (V5 b a w).2]):=by
 refine(e227 v a w).r ?_;have hC:=hb.len;refine C0 (fun(h1:w<1)=>.of ⟨by rw[C92 (by omega)],rfl⟩) (fun(h1: ¬w<1)=>?_);refine C0 (fun(h2:w>7)=>.of ⟨by rw[C92 (by omega)],rfl⟩) (fun(h2: ¬w>7)=>?_);refine C0 (fun(h3:a<0)=>.of ⟨by rw[As1 (by omega) (.inl h3)],rfl⟩) (fun(h3: ¬a<0)=>?_);refine C0 (fun(h4:a>v.len)=>.of ⟨by rw[As1 (by omega) (.inr (by omega))],rfl⟩) (fun(h4: ¬a>v.len)=>?_);rw[C1 (n:=(v.len:Int)-a) (by omega) (by omega)];refine C0 (fun(h5:w>(v.len:Int)-a)=>.of ⟨by rw[As1 (by omega) (.inr (by omega))],rfl⟩) (fun(h5: ¬w>(v.len:Int)-a)=>?_);obtain⟨a,rfl⟩: ∃u:Nat,a=u:=⟨a.toNat,by omega⟩;obtain⟨w,rfl⟩: ∃u:Nat,w=u:=⟨w.toNat,by omega⟩;have dJ:a+w<=b.length:=by omega
 rw[Bd2 (by omega) (by omega) dJ];refine G7 (fun k z L'=>L'=L/\ ∃i:Nat,i<=w/\k=w-i/\z=((num ((b.drop a).take i):Int),((256^i:Nat):Int),(i:Int),())) w ⟨rfl,0,by omega,by omega,rfl⟩ ?_;rintro k z L ⟨rfl,i,hi,rfl,rfl⟩;refine C0 (fun(hO:(i:Int)<w)=>?_) (fun(aS: ¬(i:Int)<w)=>?_)
 ·have zS:a+i<b.length:=by omega
  obtain⟨ad,ha⟩:=hb.some zS;have e1:IntKind.i64.wrap ((a:Int)+i)=((a+i:Nat):Int):=by rw[C1 (by omega) (by omega)];omega
  simp only[e1];refine A5 ha (D9 (by omega) (by omega) (A6 (b[a+i].toNat:Int) (hb.rd zS ha _ (by omega)) ?_));have hp:=Da9 i (by omega);have hx:=b[a+i].toNat_lt;have hn:=Db4 (l:=(b.drop a).take i) (w:=i) (D76 _ _) (by omega);have tY:256^i<=281474976710656:=Dt1 (D50 (by omega) (show i<=6 by omega)) (by decide);have hm:256^i*b[a+i].toNat<=281474976710656*255:=Nat.mul_le_mul tY (by omega);refine⟨w-(i+1),by omega,rfl,i+1,by omega,rfl,?_⟩;have hli:((b.drop a).take i).length=i:=by rw[Ds0,Ds6];omega
  rw[Cf3 b a i zS,C21,hli];have e2:((256^i:Nat):Int)*(b[a+i].toNat:Int)=((256^i*b[a+i].toNat:Nat):Int):=by rw[D36]
  have e3:((256^i:Nat):Int)*256=((256^(i+1):Nat):Int):=by rw[D56,D36];rfl
  have aL:=Da9 (i+1) (by omega);simp only[C1 (n:=(b[a+i].toNat:Int)) (by omega) (by omega),e2,e3];generalize 256^i*b[a+i].toNat=q at hm⊢;generalize 256^(i+1)=q2 at aL⊢;generalize 256^i=q3 at hn tY;rw[C1 (n:=(q:Int)) (by omega) (by omega),C1 (n:=(num ((b.drop a).take i):Int)+q) (by omega) (by omega),C1 (n:=(q2:Int)) (by omega) (by omega),C1 (n:=(i:Int)+1) (by omega) (by omega)];simp only[Eb6,Int.cast_ofNat_Int]
 ·obtain rfl:i=w:=by omega
  exact .of ⟨rfl,rfl⟩
theorem Dh1(L:A4)(u v:SlV)(a:List UInt8)(hu:BSl L u a)(hv:BSl L v a):Reads PP 21 #[.slice u.a u.len u.cap,.slice v.a v.len v.cap] L (.b true):=by
 refine(e21 u v).r ?_;exact Bv0 hu (Bv0 hv (.of ⟨by simp,rfl⟩))
def Dd5(c:BitVec 32):BitVec 32:=(c>>>1)^^^(2197175160#32&&& -(c&&&1#32))
def B08:Nat->BitVec 32->BitVec 32
 |0,c=>c
 |n+1,c=>Dd5 (B08 n c)
def Ct0(c:BitVec 32)(b:UInt8):BitVec 32:=B08 8 (c^^^BitVec.ofNat 32 b.toNat)
def Y8(c:BitVec 32)(l:List UInt8):BitVec 32:=l.foldl Ct0 c
theorem Bj6(c:BitVec 32)(l:List UInt8)(b:UInt8):Y8 c (l++[b])=Ct0 (Y8 c l) b:=by simp[Y8]
theorem shr1(d:BitVec 32):Int.fdiv (d.toNat:Int) (2^(min (1:Int).toNat IntKind.u32.bits))=((d>>>1).toNat:Int):=by
 have:(2:Int)^(min (1:Int).toNat IntKind.u32.bits)=2:=rfl;rw[this,Ee0,Ee1,D78 _ (by omega)];rfl
theorem neg32(d:BitVec 32):IntKind.u32.wrap (0-(d.toNat:Int))=((-d).toNat:Int):=by
 rw[B18];congr 2;rw[Int.zero_sub,BitVec.ofInt_neg,Aw7]
theorem Cd0(d:BitVec 32):Ao1 .xor .u32 (Int.fdiv (d.toNat:Int) (2^(min (1:Int).toNat IntKind.u32.bits))) (Ao1 .and .u32 2197175160 (IntKind.u32.wrap (0-Ao1 .and .u32 d.toNat 1)))=((Dd5 d).toNat:Int):=by
 rw[shr1,show(1:Int)=((1#32:BitVec 32).toNat:Int)from rfl,(Cu0 _ _).2.1,neg32,show(2197175160:Int)=((2197175160#32:BitVec 32).toNat:Int)from rfl,(Cu0 _ _).2.1,(Cu0 _ _).1];rfl
theorem Cx9(L:A4)(v:SlV)(l:List UInt8)(h:BSl L v l)(hb:l.length<=1000000)(c:BitVec 32):Reads PP 291 #[.int .u32 c.toNat,.slice v.a v.len v.cap] L (.int .u32 (Y8 c l).toNat):=by
 refine(e291 c.toNat v).r ?_;have hC:=h.len;refine G7 (fun k z L'=>L'=L/\ ∃i,i<=l.length/\k=l.length-i/\z=(((Y8 c (l.take i)).toNat:Int),(i:Int),())) l.length ⟨rfl,0,by omega,by omega,rfl⟩ ?_;rintro k z L ⟨rfl,i,hi,rfl,rfl⟩;refine C0 (fun(hO:(i:Int)<v.len)=>?_) (fun(aS: ¬(i:Int)<v.len)=>?_)
 ·have iW:i<l.length:=by omega
  obtain⟨ad,ha⟩:=h.some iW;refine A5 ha (D9 (show(0:Int)<=i by omega) hO (A6 (l[i].toNat:Int) (h.rd iW ha _ (by simp)) ?_));refine G7 (fun k z L'=>L'=L/\ ∃j,j<=8/\k=8-j/\z=(((B08 j (Y8 c (l.take i)^^^BitVec.ofNat 32 l[i].toNat)).toNat:Int),(j:Int),())) 8 ⟨rfl,0,by omega,by omega,?_⟩ ?_
  ·simp only[B18];rw[show(BitVec.ofInt 32 (l[i].toNat:Int))=BitVec.ofNat 32 l[i].toNat from rfl,(Cu0 _ _).1];rfl
  ·rintro k z L ⟨rfl,j,hj,rfl,rfl⟩;refine C0 (fun(hO:(j:Int)<8)=>?_) (fun(aS: ¬(j:Int)<8)=>?_)
   ·refine Ad8 (by decide) ⟨8-(j+1),by omega,rfl,j+1,by omega,rfl,?_⟩;rw[C1 (by simp only;omega) (by simp only;omega)];exact Prod.ext (Cd0 _) rfl
   ·refine⟨l.length-(i+1),by omega,rfl,i+1,by omega,rfl,?_⟩;obtain rfl:j=8:=by omega
    rw[C1 (by simp only;omega) (by simp only;omega),Ds4 iW,Bj6];rfl
 ·refine .of ⟨?_,rfl⟩;obtain rfl:i=l.length:=by omega
  rw[Ds9]
def C27(n:Int):BitVec 32:=BitVec.ofInt 32 n
def Ai7(n:Int)(l:List UInt8):Int:=((~~~ Y8 (~~~ C27 n) l).toNat:Int)
def G3(l:List UInt8):Int:=Ai7 0 l
theorem Q8(n:Int)(l:List UInt8):0<=Ai7 n l/\Ai7 n l<4294967296:=by
 unfold Ai7;have:=(~~~ Y8 (~~~ C27 n) l).isLt;omega
theorem not32(d:BitVec 32):Ao1 .xor .u32 IntKind.u32.max (d.toNat:Int)=((~~~ d).toNat:Int):=by
 rw[show(IntKind.u32.max:Int)=((BitVec.allOnes 32).toNat:Int)from rfl,(Cu0 _ _).1,BitVec.allOnes_xor]
theorem Dk7(L:A4)(v:SlV)(l:List UInt8)(h:BSl L v l)(hb:l.length<=1000000)(n:Int):Reads PP 234 #[.i n,.slice v.a v.len v.cap] L (.i (Ai7 n l)):=by
 refine(e234 n v).r ?_;rw[B18,not32];refine B5 (Cx9 L v l h hb (~~~ C27 n)) (((Y8 (~~~ C27 n) l).toNat:Int),()) rfl ?_;refine .of ⟨?_,rfl⟩;have:=Q8 n l;simp only[not32];rw[C1 (by have:=Q8 n l;unfold Ai7 at this;omega) (by have:=Q8 n l;unfold Ai7 at this;omega)];rfl
theorem Cf7(L:A4)(v:SlV)(l:List UInt8)(h:BSl L v l)(hb:l.length<=1000000):Reads PP 179 #[.slice v.a v.len v.cap] L (.i (G3 l)):=by
 refine(e179 v).r ?_;refine B5 (Dk7 L v l h hb 0) (Ai7 0 l,()) rfl ?_;exact .of ⟨rfl,rfl⟩
theorem B79(L:A4)(v:SlV)(l:List UInt8)(h:BSl L v l)(hb:l.length<=1000000)(n:Int):Reads PP 237 #[.slice v.a v.len v.cap,.i n] L (.b (G3 l==n)):=by
 refine(e237 v n).r ?_;refine B5 (Cf7 L v l h hb) (G3 l,()) rfl ?_;exact .of ⟨rfl,rfl⟩
def szd(n:Int):Bool:=decide (64<=n/\n<=512)
def B7(n:Int):Int:=if 64<=n/\n<=512 then n-16 else 0
theorem A27(L:A4)(n:Int):Reads PP 129 #[.i n] L (.b (szd n)):=by
 refine(e129 n).r ?_;refine C0 (fun(h:n≥64)=>.of ⟨?_,rfl⟩) (fun(h: ¬n≥64)=>.of ⟨?_,rfl⟩)
 ·unfold szd;congr 1;rw[D81];omega
 ·unfold szd;rw[Ds7 (by omega)]
theorem Df3{n:Int}(h:szd n=true):64<=n/\n<=512:=Dv5 h
theorem Df4{n:Int}(h:szd n=false): ¬(64<=n/\n<=512):=D24 h
theorem Aj8(L:A4)(n:Int):Reads PP 62 #[.i n] L (.i (B7 n)):=by
 refine(e62 n).r ?_;refine B5 (A27 _ n) (szd n,()) rfl ?_;cases h:szd n with
 |false=>exact ifT rfl (.of ⟨by unfold B7;rw[Dq4 (Df4 h)],rfl⟩)
 |true=>
  have:=Df3 h;refine ifF rfl (.of ⟨?_,rfl⟩);unfold B7;rw[Dq5 this,C1 (by omega) (by omega)]
abbrev Hd:=Int×Int×Int×Int×Int×Unit
def hEnc(h:Hd):List Value:=[.i h.1,.i h.2.1,.i h.2.2.1,.i h.2.2.2.1,.i h.2.2.2.2.1]
def Y3(h:Hd):Int:=if h.1<1\/h.1>4 then 16 else if h.2.2.1<1\/h.2.2.1>16\/h.2.1<0\/h.2.1≥h.2.2.1\/h.2.2.2.1<1\/h.2.2.2.1>1073741824\/h.2.2.2.2.1<0\/h.2.2.2.2.1>15 then 3 else 0
theorem Dc3{h:Hd}(c:h.1<1\/h.1>4):Y3 h=16:=by unfold Y3;rw[Dq5 c]
theorem Aw1{h:Hd}(c: ¬(h.1<1\/h.1>4))(d:h.2.2.1<1\/h.2.2.1>16\/h.2.1<0\/h.2.1≥h.2.2.1\/h.2.2.2.1<1\/h.2.2.2.1>1073741824\/h.2.2.2.2.1<0\/h.2.2.2.2.1>15):Y3 h=3:=by unfold Y3;rw[Dq4 c,Dq5 d]
theorem hErr_0{h:Hd}(c: ¬(h.1<1\/h.1>4))(d: ¬(h.2.2.1<1\/h.2.2.1>16\/h.2.1<0\/h.2.1≥h.2.2.1\/h.2.2.2.1<1\/h.2.2.2.1>1073741824\/h.2.2.2.2.1<0\/h.2.2.2.2.1>15)):Y3 h=0:=by unfold Y3;rw[Dq4 c,Dq4 d]
theorem Ac9{h:Hd}(e:Y3 h=0):1<=h.1/\h.1<=4/\1<=h.2.2.1/\h.2.2.1<=16/\0<=h.2.1/\h.2.1<h.2.2.1/\1<=h.2.2.2.1/\h.2.2.2.1<=1073741824/\0<=h.2.2.2.2.1/\h.2.2.2.2.1<=15:=by
 unfold Y3 at e;split at e
 ·cases e
 ·split at e
  ·cases e
  ·omega
theorem Bp0(L:A4)(h:Hd):Reads PP 239 #[.agg (ki5 h)] L (.i (Y3 h)):=by
 refine(e239 h).r ?_;refine C4 fun n1 _=>?_;generalize ho:(n1,Obj.cells (ki5 h) 272)=o1;have l0:C9 n1.z [.i h.1] (o1::L):=by subst ho;exact ldB Dq7 rfl
 have l1:C9 (Addr.add n1.z 1) [.i h.2.1] (o1::L):=by subst ho;exact ldB Dq7 rfl
 have l2:C9 (Addr.add n1.z 2) [.i h.2.2.1] (o1::L):=by subst ho;exact ldB Dq7 rfl
 have l3:C9 (Addr.add n1.z 3) [.i h.2.2.2.1] (o1::L):=by subst ho;exact ldB Dq7 rfl
 have l4:C9 (Addr.add n1.z 4) [.i h.2.2.2.2.1] (o1::L):=by subst ho;exact ldB Dq7 rfl
 clear ho;refine A6 h.1 l0 (C0 (fun(c:h.1<1)=>.cons (.of ⟨by rw[Dc3 (.inl c)],rfl⟩)) (fun(c1: ¬h.1<1)=>?_));refine A6 h.1 l0 (C0 (fun(c:h.1>4)=>.cons (.of ⟨by rw[Dc3 (.inr c)],rfl⟩)) (fun(c2: ¬h.1>4)=>?_));refine A6 h.2.2.1 l2 (C0 (fun(c:h.2.2.1<1)=>.cons (.of ⟨by rw[Aw1 (by omega) (by omega)],rfl⟩)) (fun(c3: ¬h.2.2.1<1)=>?_));refine A6 h.2.2.1 l2 (C0 (fun(c:h.2.2.1>16)=>.cons (.of ⟨by rw[Aw1 (by omega) (by omega)],rfl⟩)) (fun(c4: ¬h.2.2.1>16)=>?_));refine A6 h.2.1 l1 (C0 (fun(c:h.2.1<0)=>.cons (.of ⟨by rw[Aw1 (by omega) (by omega)],rfl⟩)) (fun(c5: ¬h.2.1<0)=>?_));refine A6 h.2.1 l1 (A6 h.2.2.1 l2 (C0 (fun(c:h.2.1≥h.2.2.1)=>.cons (.of ⟨by rw[Aw1 (by omega) (by omega)],rfl⟩)) (fun(c6: ¬h.2.1≥h.2.2.1)=>?_)));refine A6 h.2.2.2.1 l3 (C0 (fun(c:h.2.2.2.1<1)=>.cons (.of ⟨by rw[Aw1 (by omega) (by omega)],rfl⟩)) (fun(c7: ¬h.2.2.2.1<1)=>?_));refine A6 h.2.2.2.1 l3 (C0 (fun(c:h.2.2.2.1>1073741824)=>.cons (.of ⟨by rw[Aw1 (by omega) (by omega)],rfl⟩)) (fun(c8: ¬h.2.2.2.1>1073741824)=>?_));refine A6 h.2.2.2.2.1 l4 (C0 (fun(c:h.2.2.2.2.1<0)=>.cons (.of ⟨by rw[Aw1 (by omega) (by omega)],rfl⟩)) (fun(c9: ¬h.2.2.2.2.1<0)=>?_));refine A6 h.2.2.2.2.1 l4 (C0 (fun(c:h.2.2.2.2.1≥16)=>.cons (.of ⟨by rw[Aw1 (by omega) (by omega)],rfl⟩)) (fun(c10: ¬h.2.2.2.2.1≥16)=>.cons (.of ⟨by rw[hErr_0 (by omega) (by omega)],rfl⟩)))
abbrev C87:=Int×Int×Unit
def C16(x:C87):List Value:=[.i x.1,.i x.2.1]
theorem Bo6(x:C87):(C16 x).length=2:=rfl
def At2(b:List UInt8)(l:List C87):List UInt8:=l.foldl (fun b x=>(Az7 b x.1 x.2.1).1) b
theorem Ca8(b:List UInt8)(l:List C87)(x:C87):At2 b (l++[x])=(Az7 (At2 b l) x.1 x.2.1).1:=by simp[At2]
theorem Cw9(b:List UInt8)(n w:Int):(Az7 b n w).1.length<=b.length+7:=by
 unfold Az7;split
 ·simp
 ·split
  ·simp
  ·simp only[Dr4,Q1];omega
theorem Cj7(b:List UInt8)(l:List C87):(At2 b l).length<=b.length+7*l.length:=by
 induction l generalizing b with
 |nil=>simp[At2]
 |cons x r ih=>
  have h1:=ih (Az7 b x.1 x.2.1).1;have h2:=Cw9 b x.1 x.2.1;have h3:At2 b (x::r)=At2 (Az7 b x.1 x.2.1).1 r:=rfl;rw[h3,Dr8];omega
theorem Ck1(A:A4)(v:SlV)(b:List UInt8)(hb:BSl A v b)(hl:b.length<=1000)(u:SlV)(l:List C87)(hu:Sl A u 2 (l.flatMap C16))(aE:0<l.length)(gK:l.length<=100)(hn: ∀x∈l,x.1<=9223372036854775807):
  CallF PP 301 #[.slice v.a v.len v.cap,.slice u.a u.len u.cap] A fun r L'=> ∃(s:SlV) (seg:A4),r= .slice s.a s.len s.cap/\L'=seg++A/\Own s 1 eB (bvs (At2 b l)) seg:=by
 refine(e301 v u).c ?_;have eZ:=hu.els_len Bo6 (by decide);refine G7 (fun k z L'=> ∃(i:Nat) (s:SlV) (J:A4),i<=l.length/\k=l.length-i/\z=(s,(i:Int),())/\L'=J++A/\BSl L' s (At2 b (l.take i))/\(0<i-> ∃(seg J':A4),J=seg++J'/\Own s 1 eB (bvs (At2 b (l.take i))) seg)) l.length
  ⟨0,v,[],by omega,by omega,rfl,rfl,hb,fun h=>by omega⟩ ?_
 rintro k z L' ⟨i,s,J,hi,rfl,rfl,rfl,hs,jU⟩;refine C0 (fun(hO:(i:Int)<u.len)=>?_) (fun(aS: ¬(i:Int)<u.len)=>?_)
 ·have hJ:i<l.length:=by omega
  obtain⟨a,ha,la⟩:=(hu.right (R:=J)).el Bo6 (by decide) hJ;refine A5 ha (D9 (show(0:Int)<=(i:Int) by omega) hO (A6 l[i] (by rw[Dr0];exact la) ?_));have dD:=Cj7 b (l.take i);rw[Ds0,Dx1 hi]at dD;have bT:=Ca8 b (l.take i) l[i];rw[<-Ds4 hJ]at bT;have gT:=hn _ (Dr7 hJ);generalize l[i]=x at bT gT⊢;refine C4 fun n1 _=>E4 [] _ rfl rfl (by simp) (.inl (Dq6 _)) (kii x) rfl ?_;rw[Ds1];refine A6 x.1 (ldB Dq7 rfl) (A6 x.2.1 (ldB Dq7 rfl) ?_);generalize (n1,Obj.cells (kii x) 399)=o1;refine K1 [] [] (Bd0 (o1::(J++A)) s _ hs.cons (by omega) x.1 x.2.1 gT) (by simp) ?_;rintro _ _-⟨s',seg,rfl,rfl,own⟩;rw[Dr3,Ds1];rw[<-bT]at own;refine⟨(s',_,()),rfl,l.length-(i+1),by omega,i+1,s',seg++(o1::J),by omega,rfl,?_,by simp,own.sl.left,fun _=>⟨seg,o1::J,rfl,own⟩⟩;show(s',IntKind.i64.wrap ((i:Int)+1),())=_;rw[C1 (by omega) (by omega)];rfl
 ·obtain rfl:i=l.length:=by omega
  rw[Ds9]at jU;obtain⟨seg,J',rfl,own⟩:=jU aE;refine .drop (A:=seg++A) (J:=J') ⟨s,seg,rfl,rfl,own⟩ ?_;rw[Ds5,Ds5];exact Eb5 _ Du8
def Am2(h:Hd)(n:Nat):List UInt8:=N4 h.1.toNat 1++N4 h.2.1.toNat 1++N4 h.2.2.1.toNat 1++N4 165 1++N4 h.2.2.2.1.toNat 4++N4 h.2.2.2.2.1.toNat 1++N4 0 1++N4 n 2
theorem T8(h:Hd)(n:Nat):(Am2 h n).length=12:=by simp[Am2,Q1]
def Ac8(h:Hd)(p:List UInt8)(size:Nat):List UInt8:=Am2 h p.length++p++List.replicate (size-16-p.length) 0
theorem Ab2{h:Hd}{p:List UInt8}{size:Nat}(h1:16<=size)(h2:p.length<=size-16):(Ac8 h p size).length=size-4:=by
 unfold Ac8;rw[Dr4,Dr4,T8,Dv3];omega
def S7(h:Hd)(p:List UInt8)(size:Nat):List UInt8:=Ac8 h p size++N4 (G3 (Ac8 h p size)).toNat 4
def Ak6(h:Hd)(p:List UInt8)(size:Int):List UInt8×Int:=
 if¬(64<=size/\size<=512)then([],2)else if Y3 h≠0 then([],Y3 h)else if(p.length:Int)>size-16 then([],4)else(S7 h p size.toNat,0)
def Dq1(h:Hd)(p:List UInt8)(size:Int)(A:A4)(v:Value)(L':A4):Prop:= ∃(s:SlV) (seg:A4),v= .t #[.slice s.a s.len s.cap,.i (Ak6 h p size).2]/\L'=seg++A/\Own s 1 eB (bvs (Ak6 h p size).1) seg
theorem Dq1.err{h:Hd}{p:List UInt8}{size:Int}{A:A4}{e:Int}(he:Ak6 h p size=([],e)):Dq1 h p size A (.t #[.slice none 0 0,.i e]) A:=⟨⟨none,0,0⟩,[],by rw[he],rfl,by rw[he];exact F6⟩
theorem Au7(l:List UInt8):0<=G3 l/\G3 l<4294967296:=Q8 0 l
def nums(h:Hd)(n:Nat):List C87:=[(h.1,1,()),(h.2.1,1,()),(h.2.2.1,1,()),(165,1,()),(h.2.2.2.1,4,()),(h.2.2.2.2.1,1,()),(0,1,()),((n:Int),2,())]
theorem A86(b:List UInt8){n:Int}(h0:0<=n)(h1:n<256):(Az7 b n 1).1=b++N4 n.toNat 1:=by
 rw[Am7 (by decide) (by omega) (by show n.toNat<256;omega)];rfl
theorem C91(b:List UInt8){n:Int}(h0:0<=n)(h1:n<4294967296):(Az7 b n 4).1=b++N4 n.toNat 4:=by
 rw[Am7 (by decide) (by omega) (by show n.toNat<4294967296;omega)];rfl
theorem wput_2(b:List UInt8){n:Int}(h0:0<=n)(h1:n<65536):(Az7 b n 2).1=b++N4 n.toNat 2:=by
 rw[Am7 (by decide) (by omega) (by show n.toNat<65536;omega)];rfl
theorem Cj6{h:Hd}(e:Y3 h=0){n:Nat}(hn:n<65536):At2 [] (nums h n)=Am2 h n:=by
 have:=Ac9 e;unfold nums At2;simp only[D02,List.foldl_nil];rw[A86 (n:=h.1) _ (by omega) (by omega),A86 (n:=h.2.1) _ (by omega) (by omega),A86 (n:=h.2.2.1) _ (by omega) (by omega),A86 (n:=165) _ (by omega) (by omega),C91 (n:=h.2.2.2.1) _ (by omega) (by omega),A86 (n:=h.2.2.2.2.1) _ (by omega) (by omega),A86 (n:=0) _ (by omega) (by omega),wput_2 (n:=(n:Int)) _ (by omega) (by omega)];unfold Am2;simp
theorem C11(b:List UInt8):At2 b [(G3 b,4,())]=b++N4 (G3 b).toNat 4:=by
 have:=Au7 b;exact C91 (n:=G3 b) b (by omega) (by omega)
theorem C77{h:Hd}{p:List UInt8}{S:Nat}(h1:64<=S)(h2:p.length<=S-16):
  A77 (A77 (Ag7 [.int .u8 0] (S-4)) 0 (bvs (Am2 h p.length))) (12*1) (bvs p)=bvs (Ac8 h p S):=by
 rw[Bl4,Bj8,Bj8];congr 1;unfold Ac8;rw[D82,Ds1,T8,Dy2,Dt8,D30 (T8 h _),<-Dw6,D29 (T8 h _),Dw6,Ee3];congr 2;omega
theorem Ck4(A:A4)(h:Hd)(v:SlV)(p:List UInt8)(hv:BSl A v p)(size:Int)(hs: -9223372036854775808<=size/\size<=9223372036854775807):
  CallF PP 256 #[.agg (ki5 h),.slice v.a v.len v.cap,.i size] A (Dq1 h p size A):=by
 refine(e256 h v size).c ?_;have cR:=hv.len;refine C4 fun n1 _=>?_;generalize ho:(n1,Obj.cells (ki5 h) 272)=o1;have lh:C9 n1.z (hEnc h) (o1::A):=by subst ho;exact ldB Dq7 rfl
 clear ho;refine B5 (A27 _ size) (szd size,()) rfl ?_;cases aC:szd size with
 |false=>exact ifT rfl (.cons (.of (Dq1.err (by unfold Ak6;rw[Dq5 (Df4 aC)]))))
 |true=>
  have hS:=Df3 aC;refine ifF rfl (A6 h lh (B5 (Bp0 _ h) (Y3 h,()) rfl ?_));refine P0 (fun(he:Y3 h≠0)=>.cons (.of (Dq1.err (by unfold Ak6;rw[Dq4 (by simpa using hS),Dq5 he])))) (fun(he:Y3 h=0)=>?_);refine B5 (Aj8 _ size) (B7 size,()) rfl ?_;have hZ:B7 size=size-16:=by unfold B7;rw[Dq5 hS]
  rw[hZ];refine C0 (fun(hl:(v.len:Int)>size-16)=>.cons (.of (Dq1.err (by unfold Ak6;rw[Dq4 (by simpa using hS),Dq4 (by simpa using he),Dq5 (by omega)])))) (fun(hl: ¬(v.len:Int)>size-16)=>?_);obtain⟨S,rfl⟩: ∃S:Nat,size=S:=⟨size.toNat,by omega⟩;have yT:Ak6 h p S=(S7 h p S,0):=by
   unfold Ak6;rw[Dq4 (by simpa using hS),Dq4 (by simpa using he),Dq4 (by omega),Dr0]
  unfold Dq1;rw[yT];refine A6 h.1 (lh.pre fun i u hu=>by cases i with|zero=>exact hu|succ i=>exact absurd (show(none:Option Value)=some u from hu) (by simp)) (A6 h.2.1 (lh.one 1 rfl) (A6 h.2.2.1 (lh.one 2 rfl) (A6 h.2.2.2.1 (lh.one 3 rfl) (A6 h.2.2.2.2.1 (lh.one 4 rfl) (C4 fun n2 _=>?_)))));have wZ:((v.len:Nat):Int)=((p.length:Nat):Int):=by omega
  rw[wZ];have tP:Sl ((n2,Obj.cells #[.i h.1,.i 1,.i h.2.1,.i 1,.i h.2.2.1,.i 1,.i 165,.i 1,.i h.2.2.2.1,.i 4,.i h.2.2.2.2.1,.i 1,.i 0,.i 1,.i ((p.length:Nat):Int),.i 2] 399)::o1::A) ⟨some n2.z,8,8⟩ 2 ((nums h p.length).flatMap C16):=
   ⟨rfl,Dq6 _,.inr ⟨_,rfl,ldB Dq7 rfl⟩⟩
  have aA:=Ac9 he;generalize (n2,Obj.cells #[.i h.1,.i 1,.i h.2.1,.i 1,.i h.2.2.1,.i 1,.i 165,.i 1,.i h.2.2.2.1,.i 4,.i h.2.2.2.2.1,.i 1,.i 0,.i 1,.i ((p.length:Nat):Int),.i 2] 399)=o2 at tP⊢;refine K1 [] [] (Ck1 (o2::o1::A) ⟨none,0,0⟩ [] (Sl.nil 1) (by decide) ⟨some n2.z,8,8⟩ (nums h p.length) tP (by show 0<8;decide) (by show 8<=100;decide) ?_) (by simp) ?_
  ·intro x hx;unfold nums at hx;simp only[Dt5,Eb7,or_false]at hx;rcases hx with rfl|rfl|rfl|rfl|rfl|rfl|rfl|rfl<;>simp only<;>omega
  rintro _ _-⟨s4,seg4,rfl,rfl,own4⟩;rw[Cj6 he (by omega)]at own4;rw[Dr3,Ds1];have eN:=own4.sl.len;rw[E5,T8]at eN;refine⟨(s4,()),rfl,?_⟩;have hw:IntKind.i64.wrap ((S:Int)-4)=((S-4:Nat):Int):=by rw[C1 (by omega) (by omega)];omega
  simp only[hw];refine A38 Ar2 (l:=S-4) (c:=S-4) (Dq6 _) (by omega) fun n7 ob own7 _ _=>?_;refine Az1 (T:=eB) (sz:=1) (l:=0) (a:=n7.z) undB (by kernel_rfl) [] (seg4++(o2::o1::A)) own7 rfl rfl rfl (by simp) (.cons (own4.sl.left)) (L8 _) fun seg7 own7'=>?_;have jD:min s4.len (S-4)=12:=by omega
  simp only[jD,Dt8,Ds1]at own7'⊢;rw[Dw9 (by rw[E5,T8];omega)]at own7';refine K7 (l':=12) (h':=S-4) (m':=S-4) rfl rfl rfl (by omega) (by omega) (Dq6 _) ?_;have hd:(Q0 ⟨some n7.z,S-4,S-4⟩ ((12:Nat):Int) ((S-4:Nat):Int) ((S-4:Nat):Int) 1).a=some (Addr.add n7.z (12*1)):=by
   simp only[Q0,Dr0];rw[Dq4 (by omega)];rfl
  have oU:(Q0 ⟨some n7.z,S-4,S-4⟩ ((12:Nat):Int) ((S-4:Nat):Int) ((S-4:Nat):Int) 1).len=S-16:=by
   simp only[Q0,Dr0];omega
  generalize Q0 ⟨some n7.z,S-4,S-4⟩ ((12:Nat):Int) ((S-4:Nat):Int) ((S-4:Nat):Int) 1=d at hd oU⊢;refine Az1 (T:=eB) (sz:=1) (l:=12) (a:=n7.z) undB (by kernel_rfl) [] (seg4++(o2::o1::A)) own7' rfl rfl hd (by simp only;omega) (hv.cons.cons.right.right) (L8 _) fun seg8 own8=>?_;have eR:min v.len d.len=p.length:=by omega
  simp only[eR,Dt8,Ds1]at own8⊢;rw[Dw9 (by rw[E5];omega),C77 (by omega) (by omega)]at own8;have dD:=Ab2 (h:=h) (p:=p) (size:=S) (by omega) (by omega);have mH:S7 h p S=Ac8 h p S++N4 (G3 (Ac8 h p S)).toNat 4:=rfl;rw[mH];generalize Ac8 h p S=body at own8 dD⊢;refine B5 (Cf7 _ ⟨some n7.z,S-4,S-4⟩ body own8.sl.left (by omega)) (G3 body,()) rfl (C4 fun n3 _=>?_);have eK:=Au7 body;have pQ:Sl ((n3,Obj.cells #[.i (G3 body),.i 4] 399)::(seg8++(seg4++(o2::o1::A)))) ⟨some n3.z,1,1⟩ 2 ([((G3 body,4,()):C87)].flatMap C16):=⟨rfl,Dq6 _,.inr ⟨_,rfl,ldB Dq7 rfl⟩⟩;refine K1 [] [] (Ck1 ((n3,Obj.cells #[.i (G3 body),.i 4] 399)::(seg8++(seg4++(o2::o1::A)))) ⟨some n7.z,S-4,S-4⟩ body own8.sl.left.cons (by omega) ⟨some n3.z,1,1⟩ _ pQ (by show 0<1;decide) (by show 1<=100;decide) (fun x hx=>by rw[Dr2.1 hx];simp only;omega)) (by simp) ?_;rintro _ _-⟨s9,seg9,rfl,rfl,own9⟩;rw[C11]at own9;rw[Dr3,Ds1];refine⟨(s9,()),rfl,.drop (A:=seg9++A) (J:=(n3,Obj.cells #[.i (G3 body),.i 4] 399)::(seg8++(seg4++[o2,o1]))) ⟨s9,seg9,rfl,rfl,own9⟩ ?_⟩
  classical
  rw[Dt9];intro x;simp only[Dw2,Dt7,Du0,Dv0,Dv7];omega
theorem digs1(k:Nat):N4 k 1=[dig k 0]:=rfl
theorem Ar3: ∀l:List UInt8,N4 (num l) l.length=l
 |[]=>rfl
 |x::r=>by
  rw[Dr8,Bt4];have h1:UInt8.ofNat (num (x::r))=x:=by
   show UInt8.ofNat (x.toNat+256*num r)=x;apply Eb8.1;have:=x.toNat_lt;simp
  have h2:num (x::r)/256=num r:=by
   show(x.toNat+256*num r)/256=num r;have:=x.toNat_lt;omega
  rw[h1,h2,Ar3 r]
def hOf(b:List UInt8):Hd:=((b.getD 0 0).toNat,(b.getD 1 0).toNat,(b.getD 2 0).toNat,num ((b.drop 4).take 4),(b.getD 8 0).toNat,())
def nOf(b:List UInt8):Nat:=num ((b.drop 10).take 2)
def V3(b:List UInt8):List UInt8:=(b.drop (12+nOf b)).take (b.length-4-(12+nOf b))
def Ad9(b:List UInt8):List UInt8:=(b.drop 12).take (nOf b)
def Dj3(b:List UInt8):Bool:=decide (b.getD 3 0≠165)||decide (b.getD 9 0≠0)||decide (nOf b>b.length-16)||decide (Y3 (hOf b)≠0)||(V3 b).any fun x=>decide (x≠0)
def P3(b:List UInt8):Bool:=b.all fun x=>decide (x=255)
def hz:Hd:=(0,0,0,0,0,())
def E0(b:List UInt8):Hd×List UInt8×Int:=
 if¬(64<=b.length/\b.length<=512)then(hz,[],2)else if P3 b=true then(hz,[],15)else if G3 (b.take (b.length-4))≠(num (b.drop (b.length-4)):Int)then(hz,[],12)else if Dj3 b=true then(hz,[],5)else(hOf b,Ad9 b,0)
theorem cons12{b:List UInt8}(h:12<=b.length): ∃b0 b1 b2 b3 b4 b5 b6 b7 b8 b9 b10 b11 r,b=b0::b1::b2::b3::b4::b5::b6::b7::b8::b9::b10::b11::r:=by
 match b,h with
 |b0::b1::b2::b3::b4::b5::b6::b7::b8::b9::b10::b11::r,_=>exact⟨b0,b1,b2,b3,b4,b5,b6,b7,b8,b9,b10,b11,r,rfl⟩
theorem dig_b(x:UInt8):N4 x.toNat 1=[x]:=by
 have:=Ar3 [x];simpa[num]using this
theorem Cq0(b0 b1 b2 b3 b4 b5 b6 b7 b8 b9 b10 b11:UInt8)(r:List UInt8):Am2 (hOf (b0::b1::b2::b3::b4::b5::b6::b7::b8::b9::b10::b11::r)) (nOf (b0::b1::b2::b3::b4::b5::b6::b7::b8::b9::b10::b11::r))=[b0,b1,b2,165,b4,b5,b6,b7,b8,0,b10,b11]:=by
 have h4:N4 (num [b4,b5,b6,b7]) 4=[b4,b5,b6,b7]:=Ar3 _;have h2:N4 (num [b10,b11]) 2=[b10,b11]:=Ar3 _;show N4 ((b0.toNat:Int)).toNat 1++N4 ((b1.toNat:Int)).toNat 1++N4 ((b2.toNat:Int)).toNat 1++N4 165 1++N4 ((num [b4,b5,b6,b7]:Int)).toNat 4++N4 ((b8.toNat:Int)).toNat 1++N4 0 1++N4 (num [b10,b11]) 2=_;simp only[Dr0,dig_b,h4,h2];rfl
theorem nOf_lt(b:List UInt8):nOf b<65536:=by
 have h1:=Ck9 ((b.drop 10).take 2);have h2:256^((b.drop 10).take 2).length<=256^2:=D50 (by omega) (by rw[Ds0];omega);unfold nOf;omega
theorem Bp3{b:List UInt8}(h:12+nOf b<=b.length):(Ad9 b).length=nOf b:=by
 unfold Ad9;rw[Ds0,Ds6];omega
theorem Dp4{b:List UInt8}(h1:64<=b.length)(hc:G3 (b.take (b.length-4))=(num (b.drop (b.length-4)):Int))(hn:nOf b<=b.length-16):
  S7 (hOf b) (Ad9 b) b.length=b↔b.getD 3 0=165/\b.getD 9 0=0/\ ∀x∈V3 b,x=0:=by
 have aW:=Bp3 (b:=b) (by omega);obtain⟨b0,b1,b2,b3,b4,b5,b6,b7,b8,b9,b10,b11,r,rfl⟩:=cons12 (b:=b) (by omega);have hb:=Cq0 b0 b1 b2 b3 b4 b5 b6 b7 b8 b9 b10 b11 r;generalize hB:b0::b1::b2::b3::b4::b5::b6::b7::b8::b9::b10::b11::r=b at*;have hC:b.length=r.length+12:=by subst hB;simp
 have bE:Ad9 b=r.take (nOf b):=by unfold Ad9;subst hB;rfl
 have tI:V3 b=(r.drop (nOf b)).take (b.length-16-nOf b):=by
  unfold V3;rw[show b.length-4-(12+nOf b)=b.length-16-nOf b by omega];congr 1;subst hB;rw[<-Dw6];rfl
 have eS:b.drop (b.length-4)=r.drop (b.length-16):=by
  rw[show b.length-4=12+(b.length-16) by omega,<-Dw6];congr 1;subst hB;rfl
 have lF:(V3 b).length=b.length-16-nOf b:=by rw[tI,Ds0,Ds6];omega
 have hr:r=Ad9 b++V3 b++b.drop (b.length-4):=by
  rw[bE,tI,eS];have e1:r.drop (b.length-16)=(r.drop (nOf b)).drop (b.length-16-nOf b):=by rw[Dw6];congr 1;omega
  rw[e1,Ds5,Dw1,Dw1]
 have fC:b.getD 3 0=b3:=by subst hB;rfl
 have hg9:b.getD 9 0=b9:=by subst hB;rfl
 have zN:b.take (b.length-4)=[b0,b1,b2,b3,b4,b5,b6,b7,b8,b9,b10,b11]++(Ad9 b++V3 b):=by
  have:b=([b0,b1,b2,b3,b4,b5,b6,b7,b8,b9,b10,b11]++(Ad9 b++V3 b))++b.drop (b.length-4):=by
   rw[Ds5,<-hr,<-hB];rfl
  have e:=congrArg (List.take (b.length-4)) this;rw[D30 (by
   rw[Dr4,Dr4,aW,lF];simp only[Dr8,Du7];omega)]at e
  exact e
 have wF:(b.drop (b.length-4)).length=4:=by rw[Ds6];omega
 have pB:Ac8 (hOf b) (Ad9 b) b.length=[b0,b1,b2,165,b4,b5,b6,b7,b8,0,b10,b11]++(Ad9 b++List.replicate (b.length-16-nOf b) 0):=by
  unfold Ac8;rw[aW,hb,Ds5]
 have tH:(∀x∈V3 b,x=0)↔List.replicate (b.length-16-nOf b) 0=V3 b:=by
  rw[<-lF];constructor
  ·intro h;exact(List.eq_replicate_iff.2 ⟨rfl,h⟩).symm
  ·intro h x hx;rw[<-h]at hx;exact Dv8 hx
 rw[fC,hg9,tH];have hB2:b=[b0,b1,b2,b3,b4,b5,b6,b7,b8,b9,b10,b11]++(Ad9 b++(V3 b++b.drop (b.length-4))):=by
  rw[<-Ds5 (Ad9 b),<-hr,<-hB];rfl
 constructor
 ·intro h;unfold S7 at h;rw[pB,Ds5,Ds5]at h;have h':=h.trans hB2;obtain⟨e1,e2⟩:=Eb9 h' rfl;obtain⟨e3,e4⟩:=Eb9 e2 rfl;obtain⟨e5,e6⟩:=Eb9 e4 (by rw[Dv3,lF]);simp only[D28,and_true,true_and]at e1;exact⟨e1.1.symm,e1.2.symm,e5⟩
 ·rintro⟨rfl,rfl,e5⟩;have:Ac8 (hOf b) (Ad9 b) b.length=b.take (b.length-4):=by rw[pB,e5,zN]
  unfold S7;rw[this,hc,Dr0];have h4:=Ar3 (b.drop (b.length-4));rw[wF]at h4;rw[h4,Dw1]
theorem ne255(x:UInt8):((x.toNat:Int)≠255)↔x≠255:=by
 constructor
 ·rintro h rfl;exact h rfl
 ·intro h e;apply h;apply Eb8.1;show x.toNat=255;omega
theorem Dn9(x:UInt8)(n:Nat)(hn:n<256):((x.toNat:Int)=n)↔x=UInt8.ofNat n:=by
 constructor
 ·intro h;apply Eb8.1;simp;omega
 ·rintro rfl;simp;omega
theorem Bp1(L:A4)(v:SlV)(b:List UInt8)(hb:BSl L v b)(hl:b.length<=1000000):Reads PP 236 #[.slice v.a v.len v.cap] L (.b (P3 b)):=by
 refine(e236 v).r ?_;have hC:=hb.len;refine G7 (fun k z L'=>L'=L/\ ∃i:Nat,i<=b.length/\k=b.length-i/\z=((i:Int),())/\ ∀x∈b.take i,x=255) b.length ⟨rfl,0,by omega,by omega,rfl,by simp⟩ ?_;rintro k z L' ⟨rfl,i,hi,rfl,rfl,aB⟩;refine C0 (fun(hO:(i:Int)<v.len)=>?_) (fun(aS: ¬(i:Int)<v.len)=>?_)
 ·have hJ:i<b.length:=by omega
  obtain⟨a,ha⟩:=hb.some hJ;refine A5 ha (D9 (show(0:Int)<=i by omega) hO (A6 (b[i].toNat:Int) (hb.rd hJ ha _ (by simp)) ?_));refine P0 (fun aE=>.of ⟨?_,rfl⟩) (fun he=>⟨b.length-(i+1),by omega,rfl,i+1,by omega,rfl,?_,fun x hx=>?_⟩)
  ·have:P3 b=false:=by
    unfold P3;rw[D83];exact⟨b[i],Dr7 hJ,by simpa using(ne255 _).1 aE⟩
   rw[this]
  ·rw[C1 (by first|omega|(simp only;omega)) (by first|omega|(simp only;omega))];rfl
  ·rw[Ds4 hJ]at hx;rcases Dr5.1 hx with hx|hx
   ·exact aB x hx
   ·rw[Dr2.1 hx];exact Dy3 fun hc=>(ne255 _).2 hc he
 ·obtain rfl:i=b.length:=by omega
  rw[Ds9]at aB;refine .of ⟨?_,rfl⟩;have:P3 b=true:=by
   unfold P3;rw[Dy1];intro x hx;simpa using aB x hx
  rw[this]
theorem Ck5(L:A4)(v:SlV)(b:List UInt8)(hb:BSl L v b)(hl:b.length<=1000000)(a w:Int):Reads PP 238 #[.slice v.a v.len v.cap,.i a,.i w] L (.i (V5 b a w).1):=by
 refine(e238 v a w).r ?_;exact B5 (Bd1 _ v b hb (by omega) a w) ((V5 b a w).1,(V5 b a w).2,()) rfl (.of ⟨rfl,rfl⟩)
def ParK(b:List UInt8)(A:A4)(v:Value)(L':A4):Prop:= ∃(s:SlV) (seg:A4),v= .t #[.agg #[.i (E0 b).1.1,.i (E0 b).1.2.1,.i (E0 b).1.2.2.1,.i (E0 b).1.2.2.2.1,.i (E0 b).1.2.2.2.2.1],.slice s.a s.len s.cap,.i (E0 b).2.2]/\L'=seg++A/\Own s 1 eB (bvs (E0 b).2.1) seg
theorem ParK.err{b:List UInt8}{A:A4}{e:Int}(he:E0 b=(hz,[],e)):ParK b A (.t #[.agg #[.i 0,.i 0,.i 0,.i 0,.i 0],.slice none 0 0,.i e]) A:=⟨⟨none,0,0⟩,[],by rw[he];rfl,rfl,by rw[he];exact F6⟩
theorem Bv9{b:List UInt8}{a w:Nat}(h:1<=w)(h7:w<=7)(h2:a+w<=b.length):(V5 b (a:Int) (w:Int)).1=(num ((b.drop a).take w):Int):=by rw[Bd2 h h7 h2]
theorem Af3{b:List UInt8}{i:Nat}(h:i<b.length):b.getD i 0=b[i]:=by simp[Dt0,h]
theorem Bp4{b:List UInt8}(h: ¬(64<=b.length/\b.length<=512)):E0 b=(hz,[],2):=by unfold E0;rw[Dq5 h]
theorem Ba1{b:List UInt8}(h:64<=b.length/\b.length<=512)(h2:P3 b=true):E0 b=(hz,[],15):=by unfold E0;rw[Dq4 (by simpa using h),Dq5 h2]
theorem B44{b:List UInt8}(h:64<=b.length/\b.length<=512)(h2:P3 b=false)(h3:G3 (b.take (b.length-4))≠(num (b.drop (b.length-4)):Int)):E0 b=(hz,[],12):=by
 unfold E0;rw[Dq4 (by simpa using h),Dq4 (by rw[h2];decide),Dq5 h3]
theorem Aj9{b:List UInt8}(h:64<=b.length/\b.length<=512)(h2:P3 b=false)(h3:G3 (b.take (b.length-4))=(num (b.drop (b.length-4)):Int))(h4:Dj3 b=true):E0 b=(hz,[],5):=by
 unfold E0;rw[Dq4 (by simpa using h),Dq4 (by rw[h2];decide),Dq4 (by simpa using h3),Dq5 h4]
theorem By3{b:List UInt8}(h:64<=b.length/\b.length<=512)(h2:P3 b=false)(h3:G3 (b.take (b.length-4))=(num (b.drop (b.length-4)):Int))(h4:Dj3 b=false):E0 b=(hOf b,Ad9 b,0):=by
 unfold E0;rw[Dq4 (by simpa using h),Dq4 (by rw[h2];decide),Dq4 (by simpa using h3),Dq4 (by rw[h4];decide)]
theorem Ac0(b:List UInt8):Dj3 b=true↔b.getD 3 0≠165\/b.getD 9 0≠0\/nOf b>b.length-16\/Y3 (hOf b)≠0\/ ∃x∈V3 b,x≠0:=by
 unfold Dj3;simp only[D46,decide_eq_true_iff,List.any_eq_true];constructor
 ·rintro((((h|h)|h)|h)|h)
  ·exact .inl h
  ·exact .inr (.inl h)
  ·exact .inr (.inr (.inl h))
  ·exact .inr (.inr (.inr (.inl h)))
  ·exact .inr (.inr (.inr (.inr h)))
 ·rintro(h|h|h|h|h)
  ·exact .inl (.inl (.inl (.inl h)))
  ·exact .inl (.inl (.inl (.inr h)))
  ·exact .inl (.inl (.inr h))
  ·exact .inl (.inr h)
  ·exact .inr h
theorem Db0{b:List UInt8}(h1:b.getD 3 0=165)(h2:b.getD 9 0=0)(h3:nOf b<=b.length-16)(h4:Y3 (hOf b)=0)(h5: ∀x∈V3 b,x=0):Dj3 b=false:=by
 rw[Bool.eq_false_iff];intro h;rcases(Ac0 b).1 h with h|h|h|h|⟨x,hx,h⟩
 ·exact h h1
 ·exact h h2
 ·omega
 ·exact h h4
 ·exact h (h5 x hx)
section
variable {b:List UInt8} {A:A4} {n1:Nat} {e:Int}
theorem Ai0(X:A4)(he:E0 b=(hz,[],e)):
  (st n1.z [.i 0,.i 0,.i 0,.i 0,.i 0]<|
   ld n1.z Z3 fun v1=>
   HL.Ends (ParK b A) (.t #[.agg (ki5 v1),.slice none 0 0,.i e])) (X++(n1,Obj.cells #[.i 0,.i 0,.i 0,.i 0,.i 0] 272)::A):=by
 refine E4 X A rfl rfl (by simp) (.inl (Dq6 _)) #[.i 0,.i 0,.i 0,.i 0,.i 0] rfl ?_;exact A6 (0,0,0,0,0,()) (ldB (n:=n1) (c:=#[.i 0,.i 0,.i 0,.i 0,.i 0]) (T:=272) (fz:=(0,0)) (by simp) rfl) (.app (.cons (.of (ParK.err he))))
end
theorem Dj5{b:List UInt8}{A:A4}{n1:Nat}{h:Hd}{q:List UInt8}(aA:E0 b=(h,q,0)){s:SlV}{seg:A4}(own:Own s 1 eB (bvs q) seg)(Y X:A4):
  (st n1.z [.i h.1,.i h.2.1,.i h.2.2.1,.i h.2.2.2.1,.i h.2.2.2.2.1]<|
   ld n1.z Z3 fun v1=>
   HL.Ends (ParK b A) (.t #[.agg (ki5 v1),.slice s.a s.len s.cap,.i 0])) (Y++seg++(X++(n1,Obj.cells #[.i 0,.i 0,.i 0,.i 0,.i 0] 272)::A)):=by
 obtain⟨k,pa,ps,ep,pg,u⟩:=h;simp only;refine E4 (n:=n1) (off:=0) (c:=#[.i 0,.i 0,.i 0,.i 0,.i 0]) (T:=272) (fz:=(0,0)) (Y++seg++X) A rfl (by simp) (by simp) (.inl (Dq6 _)) #[.i k,.i pa,.i ps,.i ep,.i pg] rfl ?_;have lh:C9 n1.z [.i k,.i pa,.i ps,.i ep,.i pg] (Y++seg++X++(n1,Obj.cells #[.i k,.i pa,.i ps,.i ep,.i pg] 272)::A):=ldB (n:=n1) (c:=#[.i k,.i pa,.i ps,.i ep,.i pg]) (T:=272) (fz:=(0,0)) (by simp) rfl;refine A6 (k,pa,ps,ep,pg,()) lh ?_;refine .drop (A:=seg++A) (J:=Y++X++[(n1,Obj.cells #[.i k,.i pa,.i ps,.i ep,.i pg] 272)]) ⟨s,seg,by rw[aA],rfl,by rw[aA];exact own⟩ ?_
 classical
 rw[Dt9];intro x;simp only[Dw2,Dt7,Du0,Dv0,Dv7];omega
theorem A28(A:A4)(v:SlV)(b:List UInt8)(hb:BSl A v b)(hl:b.length<=1000000):
  CallF PP 182 #[.slice v.a v.len v.cap] A (ParK b A):=by
 refine(e182 v).c ?_;have hC:=hb.len;have aU:=hb.cap;refine C4 fun n1 _=>?_;have dF: ∀{X:A4},BSl (X++(n1,Obj.cells #[.i 0,.i 0,.i 0,.i 0,.i 0] 272)::A) v b:=fun{X}=>hb.cons.right;have cR:((v.len:Nat):Int)=((b.length:Nat):Int):=by omega
 refine B5 (A27 _ v.len) (szd v.len,()) rfl ?_;cases aC:szd v.len with
 |false=>exact ifT rfl (Ai0 [] (Bp4 (b:=b) (by have:=Df4 aC;omega)))
 |true=>
  have hS:64<=b.length/\b.length<=512:=by have:=Df3 aC;omega
  refine ifF rfl (B5 (Bp1 _ v b (dF (X:=[])) hl) (P3 b,()) rfl ?_);cases jL:P3 b with
  |true=>exact ifT rfl (Ai0 [] (Ba1 hS jL))
  |false=>
   refine ifF rfl ?_;have hw:IntKind.i64.wrap ((v.len:Int)-4)=((b.length-4:Nat):Int):=by rw[C1 (by omega) (by omega)];omega
   simp only[hw];refine K7 (l':=0) (h':=b.length-4) (m':=v.cap) rfl rfl rfl (by omega) (by omega) (Dq6 _) ?_;have bK:BSl ((n1,Obj.cells #[.i 0,.i 0,.i 0,.i 0,.i 0] 272)::A) (Q0 v ((0:Nat):Int) ((b.length-4:Nat):Int) v.cap 1) (b.take (b.length-4)):=by
    have:=Sl.slc (m:=v.cap) (dF (X:=[])) (by omega) (l:=0) (h':=b.length-4) (by omega) (by omega) (by omega);rw[Ai9]at this;simpa using this
   have yC:(V5 b ((b.length-4:Nat):Int) 4).1=(num (b.drop (b.length-4)):Int):=by
    have e:=Bv9 (b:=b) (a:=b.length-4) (w:=4) (by decide) (by decide) (by omega);rw[Dw9 (by rw[Ds6];omega)]at e;exact e
   refine B5 (Ck5 _ v b (dF (X:=[])) hl _ 4) ((V5 b ((b.length-4:Nat):Int) 4).1,()) rfl ?_;rw[yC];refine B5 (B79 _ _ _ bK (by rw[Ds0];omega) _) (G3 (b.take (b.length-4))==(num (b.drop (b.length-4)):Int),()) rfl ?_;clear bK;by_cases eK:G3 (b.take (b.length-4))=(num (b.drop (b.length-4)):Int)
   ·refine ifF (by simp[eK]) ?_;obtain⟨a,ha⟩:=hb.some (show 0<b.length by omega);have iG: ∀{X:A4} (i:Nat) (hi:i<b.length) (j:Nat),j=i*1->C9 (a.add j) [.int .u8 (b[i].toNat:Int)] (X++(n1,Obj.cells #[.i 0,.i 0,.i 0,.i 0,.i 0] 272)::A):=fun{X} i hi j hj=>(dF (X:=X)).rd hi ha j hj;refine A5 ha (D9 (by decide) (by omega) (A5 ha (D9 (by decide) (by omega) (A5 ha (D9 (by decide) (by omega) (A5 ha (D9 (by decide) (by omega) ?_)))))));refine A6 (b[0].toNat:Int) (iG (X:=[]) 0 (by omega) _ rfl) (A6 (b[1].toNat:Int) (iG (X:=[]) 1 (by omega) _ rfl) (A6 (b[2].toNat:Int) (iG (X:=[]) 2 (by omega) _ rfl) (A6 (b[8].toNat:Int) (iG (X:=[]) 8 (by omega) _ rfl) ?_)));refine B5 (Ck5 _ v b (dF (X:=[])) hl 4 4) ((num ((b.drop 4).take 4):Int),()) (by rw[<-Bv9 (by decide) (by decide) (by omega)];rfl) ?_;refine F7 (iG (X:=[]) 8 (by omega) _ rfl) (F7 (iG (X:=[]) 2 (by omega) _ rfl) (F7 (iG (X:=[]) 1 (by omega) _ rfl) (F7 (iG (X:=[]) 0 (by omega) _ rfl) ?_)));have hu: ∀x:UInt8,IntKind.i64.wrap (x.toNat:Int)=(x.toNat:Int):=fun x=>by have:=x.toNat_lt;exact C1 (by omega) (by omega)
    have hh:hOf b=((b[0].toNat:Int),(b[1].toNat:Int),(b[2].toNat:Int),(num ((b.drop 4).take 4):Int),(b[8].toNat:Int),()):=by
     unfold hOf;rw[Af3 (show 0<b.length by omega),Af3 (show 1<b.length by omega),Af3 (show 2<b.length by omega),Af3 (show 8<b.length by omega)]
    simp only[hu];refine C4 fun n2 _=>E4 [] _ rfl rfl (by simp) (.inl (Dq6 _)) #[.i b[0].toNat,.i b[1].toNat,.i b[2].toNat,.i (num ((b.drop 4).take 4)),.i b[8].toNat] rfl ?_;rw[Ds1];have l2: ∀{X:A4},C9 n2.z (hEnc (hOf b)) (X++(n2,Obj.cells #[.i b[0].toNat,.i b[1].toNat,.i b[2].toNat,.i (num ((b.drop 4).take 4)),.i b[8].toNat] 272)::(n1,Obj.cells #[.i 0,.i 0,.i 0,.i 0,.i 0] 272)::A):=fun{X}=>by
     rw[hh];exact ldB (n:=n2) (c:=#[.i b[0].toNat,.i b[1].toNat,.i b[2].toNat,.i (num ((b.drop 4).take 4)),.i b[8].toNat]) (T:=272) (fz:=(0,0)) (by simp) rfl
    generalize (n2,Obj.cells #[.i b[0].toNat,.i b[1].toNat,.i b[2].toNat,.i (num ((b.drop 4).take 4)),.i b[8].toNat] 272)=o2 at l2⊢;clear hu hh;have hn:nOf b<65536:=nOf_lt b;refine B5 (Ck5 _ v b (dF (X:=[o2])) hl 10 2) ((nOf b:Int),()) (by unfold nOf;rw[<-Bv9 (by decide) (by decide) (by omega)];rfl) ?_;refine A5 ha (D9 (by decide) (by omega) (A6 (b[3].toNat:Int) (iG (X:=[o2]) 3 (by omega) _ rfl) ?_));refine P0 (fun aE=>Ai0 [o2] (Aj9 hS jL eK ((Ac0 b).2 (.inl ?_)))) (fun h3=>?_)
    ·rw[Af3 (show 3<b.length by omega)];rintro e;rw[e]at aE;exact aE rfl
    have h3':b.getD 3 0=165:=by rw[Af3 (show 3<b.length by omega)];exact(Dn9 _ 165 (by decide)).1 h3
    refine A5 ha (D9 (by decide) (by omega) (A6 (b[9].toNat:Int) (iG (X:=[o2]) 9 (by omega) _ rfl) ?_));refine P0 (fun aE=>Ai0 [o2] (Aj9 hS jL eK ((Ac0 b).2 (.inr (.inl ?_))))) (fun h9=>?_)
    ·rw[Af3 (show 9<b.length by omega)];rintro e;rw[e]at aE;exact aE rfl
    have h9':b.getD 9 0=0:=by rw[Af3 (show 9<b.length by omega)];exact(Dn9 _ 0 (by decide)).1 h9
    clear h3 h9;have hZ:B7 (v.len:Int)=((b.length-16:Nat):Int):=by unfold B7;rw[Dq5 (by omega)];omega
    refine B5 (Aj8 _ v.len) (B7 v.len,()) rfl ?_;rw[hZ];refine C0 (fun(gI:(nOf b:Int)>((b.length-16:Nat):Int))=>Ai0 [o2] (Aj9 hS jL eK ((Ac0 b).2 (.inr (.inr (.inl (by omega))))))) (fun(iF: ¬(nOf b:Int)>((b.length-16:Nat):Int))=>?_);refine A6 (hOf b) (l2 (X:=[])) (B5 (Bp0 _ (hOf b)) (Y3 (hOf b),()) rfl ?_);refine P0 (fun(he:Y3 (hOf b)≠0)=>Ai0 [o2] (Aj9 hS jL eK ((Ac0 b).2 (.inr (.inr (.inr (.inl he))))))) (fun(he:Y3 (hOf b)=0)=>?_);have hwn:IntKind.i64.wrap (12+(nOf b:Int))=((12+nOf b:Nat):Int):=by rw[C1 (by omega) (by omega)];omega
    simp only[hwn];refine K7 (l':=12+nOf b) (h':=b.length-4) (m':=v.cap) rfl rfl rfl (by omega) (by omega) (Dq6 _) ?_;have aJ:BSl (o2::(n1,Obj.cells #[.i 0,.i 0,.i 0,.i 0,.i 0] 272)::A) (Q0 v ((12+nOf b:Nat):Int) ((b.length-4:Nat):Int) v.cap 1) (V3 b):=by
     have:=Sl.slc (m:=v.cap) (dF (X:=[o2])) (by omega) (l:=12+nOf b) (h':=b.length-4) (by omega) (by omega) (by omega);rw[Ai9]at this;exact this
    generalize Q0 v ((12+nOf b:Nat):Int) ((b.length-4:Nat):Int) v.cap 1=s2 at aJ⊢;have gK:=aJ.len;have aW:(V3 b).length<=b.length:=by unfold V3;rw[Ds0,Ds6];omega
    refine G7 (fun k z L'=>L'=o2::(n1,Obj.cells #[.i 0,.i 0,.i 0,.i 0,.i 0] 272)::A/\ ∃i:Nat,i<=(V3 b).length/\k=(V3 b).length-i/\z=((i:Int),())/\ ∀x∈(V3 b).take i,x=0) (V3 b).length ⟨rfl,0,by omega,by omega,rfl,by simp⟩ ?_;rintro k z L' ⟨rfl,i,hi,rfl,rfl,aB⟩;refine C0 (fun(hO:(i:Int)<s2.len)=>?_) (fun(aS: ¬(i:Int)<s2.len)=>?_)
    ·have hJ:i<(V3 b).length:=by omega
     obtain⟨a2,bA⟩:=aJ.some hJ;refine A5 bA (D9 (show(0:Int)<=i by omega) hO (A6 ((V3 b)[i].toNat:Int) (aJ.rd hJ bA _ (by simp)) ?_));refine P0 (fun aE=>Ai0 [o2] (Aj9 hS jL eK ((Ac0 b).2 (.inr (.inr (.inr (.inr ⟨(V3 b)[i],Dr7 hJ,?_⟩))))))) (fun h0=>⟨(V3 b).length-(i+1),by omega,rfl,i+1,by omega,rfl,?_,fun x hx=>?_⟩)
     ·rintro e;rw[e]at aE;exact aE rfl
     ·rw[C1 (by first|omega|(simp only;omega)) (by first|omega|(simp only;omega))];rfl
     ·rw[Ds4 hJ]at hx;rcases Dr5.1 hx with hx|hx
      ·exact aB x hx
      ·rw[Dr2.1 hx];exact(Dn9 _ 0 (by decide)).1 h0
    ·obtain rfl:i=(V3 b).length:=by omega
     rw[Ds9]at aB;have aA:=By3 hS jL eK (Db0 h3' h9' (by omega) he aB);refine K7 (l':=12) (h':=12+nOf b) (m':=v.cap) rfl rfl rfl (by omega) (by omega) (Dq6 _) ?_;have cJ: ∀{o:Nat×Obj},BSl (o::o2::(n1,Obj.cells #[.i 0,.i 0,.i 0,.i 0,.i 0] 272)::A) (Q0 v ((12:Nat):Int) ((12+nOf b:Nat):Int) v.cap 1) (Ad9 b):=by
      intro o;have:=Sl.slc (m:=v.cap) (dF (X:=[o,o2])) (by omega) (l:=12) (h':=12+nOf b) (by omega) (by omega) (by omega);rw[Ai9,Ee2]at this;exact this
     have pQ:(Q0 v ((12:Nat):Int) ((12+nOf b:Nat):Int) v.cap 1).len=nOf b:=by simp only[Q0,Dr0];omega
     generalize Q0 v ((12:Nat):Int) ((12+nOf b:Nat):Int) v.cap 1=s3 at cJ pQ⊢;refine A6 (hOf b) (l2 (X:=[])) (C4 fun n3 _=>E6 Ar2 Cy4 [] (o2::(n1,Obj.cells #[.i 0,.i 0,.i 0,.i 0,.i 0] 272)::A) Ai1 rfl (.sl cJ) (L8 _) (by first|omega|(simp only;omega)) fun s4 seg4 eN own4=>F7 l2 ?_);rw[Ds1]at own4;exact Dj5 aA own4 [] [o2]
   ·exact ifT (by simp[eK]) (Ai0 [] (B44 hS jL eK))
theorem Co9{h:Hd}{p:List UInt8}{S:Nat}(h1:64<=S/\S<=512)(h2:Y3 h=0)(h3:p.length<=S-16):Ak6 h p (S:Int)=(S7 h p S,0):=by
 unfold Ak6;rw[Dq4 (by omega),Dq4 (by simpa using h2),Dq4 (by omega),Dr0]
theorem C45{h:Hd}{p:List UInt8}{S:Nat}(h1:64<=S/\S<=512)(h2:Y3 h≠0):Ak6 h p (S:Int)=([],Y3 h):=by
 unfold Ak6;rw[Dq4 (by omega),Dq5 h2]
abbrev It:=Int×Int×Int×Unit
def P8(x:It):List Value:=[.i x.1,.i x.2.1,.i x.2.2.1]
theorem E3(x:It):(P8 x).length=3:=rfl
def itV(x:It):Value:=.agg (ki3 x)
theorem Bq8(l:List It):(l.flatMap P8).all T6=true:=by
 induction l with
 |nil=>rfl
 |cons e r ih=>rw[Du1,D84,ih];rfl
abbrev tItm:TypeId:=152
abbrev Cc7:TypeId:=215
abbrev tPlc:TypeId:=55
abbrev A70:TypeId:=102
theorem B06:V4 PP tItm Cc7 3 24 [.i 0,.i 0,.i 0]:=N3 (by kernel_rfl) (by kernel_rfl) rfl (by decide) (by decide)
theorem Cg2:Ax5 PP tItm:=.inl ⟨Cc7,by kernel_rfl⟩
theorem Au6:V4 PP tPlc A70 3 24 [.i 0,.i 0,.i 0]:=N3 (by kernel_rfl) (by kernel_rfl) rfl (by decide) (by decide)
theorem B24:Ax5 PP tPlc:=.inl ⟨A70,by kernel_rfl⟩
theorem C94:A80 PP A70=true:=by kernel_rfl
def A73(n:Int):UInt8:=UInt8.ofNat n.toNat
def inB(l:List Int):Prop:= ∀n∈l,0<=n/\n<=255
theorem Ce8{n:Int}(h0:0<=n)(h1:n<=255):IntKind.u8.wrap n=((A73 n).toNat:Int):=by
 rw[w8_id h0 h1];unfold A73;rw[UInt8.toNat_ofNat',Nat.mod_eq_of_lt (by omega)];omega
theorem B81(A:A4)(v:SlV)(b:List UInt8)(seg:A4)(own:Own v 1 eB (bvs b) seg)(hb:b.length<=1000000)(u:SlV)(l:List Int)(hu:ISl A u .i64 l)(hl:l.length<=1000):
  CallF PP 131 #[.slice v.a v.len v.cap,.slice u.a u.len u.cap] (seg++A) fun r L'=> ∃seg',L'=seg'++A/\((inB l/\ ∃v':SlV,r= .t #[.slice v'.a v'.len v'.cap,.b true]/\Own v' 1 eB (bvs (b++l.map A73)) seg')\/(¬inB l/\r= .t #[.slice none 0 0,.b false])):=by
 refine(e131 v u).c ?_;have eZ:=hu.len;refine G7 (fun z' z L'=> ∃(i:Nat) (s:SlV) (sg J:A4),i<=l.length/\z'=l.length-i/\z=(s,(i:Int),())/\L'=J++(sg++A)/\Own s 1 eB (bvs (b++(l.take i).map A73)) sg/\inB (l.take i)) l.length ⟨0,v,seg,[],by omega,by omega,rfl,rfl,by simpa using own,by intro n hn;simp at hn⟩ ?_;rintro z' z _ ⟨i,s,sg,J,hi,rfl,rfl,rfl,owns,dC⟩;refine C0 (fun(hO:(i:Int)<(u.len:Int))=>?_) (fun(aS: ¬(i:Int)<(u.len:Int))=>?_)
 ·have hJ:i<l.length:=by omega
  obtain⟨a,ha⟩:=hu.some hJ;have cD:=hu.rd hJ ha ((i:Int).toNat*1) (by rw[Dr0]);have aT:=owns.sl.len;rw[E5,Dr4,Dr1,Ds0]at aT;refine A5 ha (D9 (show(0:Int)<=(i:Int) by omega) hO (A6 l[i] (cD.mono fun x hx=>by simp[hx]) ?_));have bF: ¬(0<=l[i]/\l[i]<=255)->HL.Ends (fun r L'=> ∃seg',L'=seg'++A/\((inB l/\ ∃v':SlV,r= .t #[.slice v'.a v'.len v'.cap,.b true]/\Own v' 1 eB (bvs (b++l.map A73)) seg')\/(¬inB l/\r= .t #[.slice none 0 0,.b false]))) (.t #[.slice none 0 0,.b false]) (J++(sg++A)):=
   fun h=>.app (.of ⟨sg,rfl,.inr ⟨fun hh=>h (hh _ (Dr7 hJ)),rfl⟩⟩)
  refine C0 (fun(h1:l[i]<0)=>bF (by omega)) (fun(h1: ¬l[i]<0)=>C0 (fun(h2:l[i]>255)=>bF (by omega)) (fun(h2: ¬l[i]>255)=>?_));refine C4 fun n1 _=>?_;rw[Ce8 (by omega) (by omega)];refine E6 Ar2 Cy4 ((n1,Obj.cells #[.int .u8 ((A73 l[i]).toNat:Int)] 5)::J) A owns (by simp) (n:=1) (ws:=bvs [A73 l[i]]) (x:=.slice (some n1.z) 1 1) (Src.sl (v:=⟨some n1.z,1,1⟩) ⟨rfl,Dq6 _,.inr ⟨_,rfl,ldB Dq7 rfl⟩⟩) rfl (by omega) fun s' sg' cC own'=>?_;refine⟨l.length-(i+1),by omega,i+1,s',sg',_,by omega,rfl,?_,Ds5 ..,?_,?_⟩
  ·rw[C1 (by first|omega|(simp only;omega)) (by first|omega|(simp only;omega))];rfl
  ·rw[<-Ak9]at own';rw[Ds4 hJ,Ds2,<-Ds5];exact own'
  ·intro n hn;rw[Ds4 hJ]at hn;rcases Dr5.1 hn with h3|h3
   ·exact dC n h3
   ·rw[Dr2.1 h3];omega
 ·obtain rfl:i=l.length:=by omega
  rw[Ds9]at owns dC;exact .app (.of ⟨sg,rfl,.inl ⟨dC,s,rfl,owns⟩⟩)
def W9(x:It):Prop:=0<=x.1/\x.1<=15/\0<=x.2.1/\x.2.1<=15/\1<=x.2.2.1/\x.2.2.1<=1073741824
instance (x:It):Decidable (W9 x):=by unfold W9;infer_instance
theorem Bn7(L:A4)(x:It):Reads PP 130 #[.agg (ki3 x)] L (.b (decide (W9 x))):=by
 refine(e130 x).r ?_;refine C4 fun n1 _=>?_;generalize ho:(n1,Obj.cells (ki3 x) 102)=o1;have lc:C9 n1.z [.i x.1,.i x.2.1,.i x.2.2.1] (o1::L):=ldB (by rw[<-ho];exact Dq7) rfl;clear ho;have lB:C9 n1.z [.i x.1] (o1::L):=lc.pre fun i u hu=>by cases i with|zero=>exact hu|succ i=>exact absurd (show(none:Option Value)=some u from hu) (by simp)
 have bF: ¬W9 x->HL.Ends (fun v' L'=>v'=Value.b (decide (W9 x))/\L'=L) (.b false) (o1::L):=fun h=>.cons (.of ⟨by rw[Ds7 h],rfl⟩);refine A6 x.1 lB (C0 (fun(h1:x.1≥0)=>?_) (fun(h1: ¬x.1≥0)=>bF (by unfold W9;omega)));refine A6 x.1 lB (C0 (fun(h2:x.1<16)=>?_) (fun(h2: ¬x.1<16)=>bF (by unfold W9;omega)));refine A6 x.2.1 (lc.one 1 rfl) (C0 (fun(h3:x.2.1≥0)=>?_) (fun(h3: ¬x.2.1≥0)=>bF (by unfold W9;omega)));refine A6 x.2.1 (lc.one 1 rfl) (C0 (fun(h4:x.2.1<16)=>?_) (fun(h4: ¬x.2.1<16)=>bF (by unfold W9;omega)));refine A6 x.2.2.1 (lc.one 2 rfl) (C0 (fun(h5:x.2.2.1≥1)=>?_) (fun(h5: ¬x.2.2.1≥1)=>bF (by unfold W9;omega)));refine A6 x.2.2.1 (lc.one 2 rfl) (.cons (.of ⟨?_,rfl⟩));congr 1;rw[D81];exact⟨fun h=>⟨by omega,by omega,by omega,by omega,by omega,h⟩,fun h=>h.2.2.2.2.2⟩
def kb(x:It):List UInt8:=[A73 x.1,A73 x.2.1]++N4 x.2.2.1.toNat 4
theorem kb_len(x:It):(kb x).length=6:=by simp[kb,Q1]
def allR(l:List It):Prop:= ∀x∈l,W9 x
instance (l:List It):Decidable (allR l):=by unfold allR;infer_instance
def M7(l:List It):List UInt8×Int:=if allR l then(l.flatMap kb,0)else([],3)
theorem Dl3(l:List It):(l.flatMap kb).length=l.length*6:=by
 induction l with
 |nil=>rfl
 |cons x r ih=>rw[Du1,Dr4,kb_len,ih,Dr8];omega
def De4(p:List UInt8×Int)(A:A4)(r:Value)(L':A4):Prop:= ∃g:PG,r= .t #[g.val,.i p.2]/\L'=g.seg++A/\g.Ok/\g.l=p.1
theorem Bz5(A:A4)(v:SlV)(l:List It)(h:Sl A v 3 (l.flatMap P8))(hl:l.length<=1000):CallF PP 63 #[.slice v.a v.len v.cap] A (De4 (M7 l) A):=by
 refine(e63 v).c ?_;have cR:=h.els_len E3 (by decide);refine G7 (fun z' z L'=> ∃(i:Nat) (s:SlV) (sg J:A4),i<=l.length/\z'=l.length-i/\z=(s,(i:Int),())/\L'=sg++(J++A)/\Own s 1 eB (bvs ((l.take i).flatMap kb)) sg/\allR (l.take i)) l.length ⟨0,⟨none,0,0⟩,[],[],by omega,by omega,rfl,rfl,F6,by intro n hn;simp at hn⟩ ?_;rintro z' z _ ⟨i,s,sg,J,hi,rfl,rfl,rfl,own,aB⟩;refine C0 (fun(hO:(i:Int)<(v.len:Int))=>?_) (fun(aS: ¬(i:Int)<(v.len:Int))=>?_)
 ·have hJ:i<l.length:=by omega
  obtain⟨a,ha,l1⟩:=h.el E3 (by decide) hJ;refine A5 ha (D9 (show(0:Int)<=(i:Int) by omega) hO (A6 (l[i]:It) (by rw[Dr0];exact l1.mono fun x hx=>by simp[hx]) (C4 fun n1 _=>?_)));refine E4 (n:=n1) (off:=0) (c:=#[.i 0,.i 0,.i 0]) (T:=A70) (fz:=(0,0)) [] (sg++(J++A)) rfl rfl (by simp) (.inl (Dq6 _)) #[.i l[i].1,.i l[i].2.1,.i l[i].2.2.1] rfl ?_;rw[Ds1];generalize ho:((n1,Obj.cells #[.i l[i].1,.i l[i].2.1,.i l[i].2.2.1] A70):Nat×Obj)=o1;have lc: ∀L:A4,o1∈L->C9 n1.z [.i l[i].1,.i l[i].2.1,.i l[i].2.2.1] L:=fun L hm=>ldB (by rw[<-ho]at hm;exact hm) rfl;clear ho;refine A6 (l[i]:It) (lc _ Dq7) (B5 (Bn7 _ l[i]) (decide (W9 l[i]),()) rfl ?_);by_cases hr:W9 l[i]
  case neg=>
   rw[Ds7 hr];have hk:M7 l=([],3):=by unfold M7;rw[Dq4 (fun hh=>hr (hh _ (Dr7 hJ)))]
   refine ifT rfl (.cons (.app (.app (.of ⟨pg0,by rw[hk];rfl,rfl,Bo9,by rw[hk];rfl⟩))))
  rw[Dt2 hr];have wB:=hr;unfold W9 at wB;have yP:=Dl3 (l.take i);rw[Ds0]at yP;refine ifF rfl (A6 l[i].1 ((lc _ Dq7).pre fun i u hu=>by cases i with|zero=>exact hu|succ i=>exact absurd (show(none:Option Value)=some u from hu) (by simp)) (A6 l[i].2.1 ((lc _ Dq7).one 1 rfl) (C4 fun n2 _=>?_)));generalize fJ:((n2,Obj.cells #[.i l[i].1,.i l[i].2.1] 3):Nat×Obj)=o2;have eV:ISl (o2::o1::(J++A)) ⟨some n2.z,2,2⟩ .i64 [l[i].1,l[i].2.1]:=⟨rfl,Dq6 _,.inr ⟨_,rfl,ldB (n:=n2) (off:=0) (T:=3) (fz:=(0,0)) (c:=#[.i l[i].1,.i l[i].2.1]) (by rw[fJ];exact Dq7) rfl⟩⟩;refine G5 (B81 (o2::o1::(J++A)) s _ sg own (by omega) ⟨some n2.z,2,2⟩ [l[i].1,l[i].2.1] eV (by simp)) (R:=[]) ?_ ?_
  ·classical
   rw[Dt9];intro x;simp only[Dw2,Dt7,Du0,Dv0,Dv7];omega
  rintro _ _ ⟨sg2,rfl,⟨-,s2,rfl,own2⟩|⟨hn,-⟩⟩
  case inr=>exact absurd (show inB [l[i].1,l[i].2.1] by intro n hn;simp at hn;omega) hn
  refine⟨sg2++(o2::o1::(J++A)),by rw[Dr3],(s2,true,()),rfl,A6 l[i].2.2.1 ((lc _ (by simp)).one 2 rfl) ?_⟩;have gK:=own2.sl.len;rw[E5,Dr4,Dr1]at gK;refine K1 [] [] (Bd0 (sg2++(o2::o1::(J++A))) s2 _ own2.sl.left (by rw[Dr4,Dr1];simp only[Dr8,Du7];omega) l[i].2.2.1 4 (by omega)) (by simp) ?_;rintro _ _-⟨s3,sg3,rfl,rfl,own3⟩;rw[Am7 (by decide) (by omega) (by show l[i].2.2.1.toNat<4294967296;omega)]at own3⊢;rw[Ds1,Dr3];refine⟨(s3,0,()),rfl,l.length-(i+1),by omega,i+1,s3,sg3,sg2++(o2::o1::J),by omega,rfl,?_,by simp,?_,?_⟩
  ·rw[C1 (by first|omega|(simp only;omega)) (by first|omega|(simp only;omega))];rfl
  ·rw[Ds4 hJ,Dt3,Dx7];unfold kb;rw[<-Ds5];exact own3
  ·intro n hn;rw[Ds4 hJ]at hn;rcases Dr5.1 hn with h3|h3
   ·exact aB n h3
   ·rw[Dr2.1 h3];exact hr
 ·obtain rfl:i=l.length:=by omega
  rw[Ds9]at own aB;have hk:M7 l=(l.flatMap kb,0):=by unfold M7;rw[Dq5 aB]
  unfold De4;rw[hk];refine .drop (A:=sg++A) (J:=J) ⟨⟨s,sg,_⟩,rfl,rfl,own,rfl⟩ ?_
  classical
  rw[Dt9];intro x;simp only[Dw2,Dt7,Du0,Dv0,Dv7];omega
def Bo7(p:List UInt8)(i:Nat):It:=(((p.getD (i*6) 0).toNat:Int),((p.getD (i*6+1) 0).toNat:Int),(num ((p.drop (i*6+2)).take 4):Int),())
def pls(p:List UInt8)(n:Nat):List It:=(List.range n).map (Bo7 p)
theorem B40(p:List UInt8)(n:Nat):pls p (n+1)=pls p n++[Bo7 p n]:=by simp[pls,D41]
theorem Ck2(p:List UInt8)(n:Nat):(pls p n).length=n:=by simp[pls]
def Ae1(p:List UInt8):List It×Int:=if p.length%6≠0 then([],5)else if allR (pls p (p.length/6))then(pls p (p.length/6),0)else([],5)
def ItsK(e:TypeId)(q:List It×Int)(A:A4)(r:Value)(L':A4):Prop:= ∃(v:SlV) (seg:A4),r= .t #[.slice v.a v.len v.cap,.i q.2]/\L'=seg++A/\Own v 3 e (q.1.flatMap P8) seg
theorem ItsK.err{e:TypeId}{q:List It×Int}{A:A4}{z:Int}(h:q=([],z)):ItsK e q A (.t #[.slice none 0 0,.i z]) A:=⟨⟨none,0,0⟩,[],by rw[h],rfl,by rw[h];exact F6⟩
theorem A50{b:List UInt8}{i:Nat}(h:i<b.length):b.getD i 0=b[i]:=by simp[Dt0,h]
theorem Ce9(x:UInt8):IntKind.i64.wrap (x.toNat:Int)=(x.toNat:Int):=by
 have:=x.toNat_lt;exact C1 (by omega) (by omega)
theorem C35(A:A4)(v:SlV)(p:List UInt8)(h:BSl A v p)(hl:p.length<=10000):CallF PP 170 #[.slice v.a v.len v.cap] A (ItsK A70 (Ae1 p) A):=by
 refine(e170 v).c ?_;have cR:=h.len;have xI:Int.tmod (v.len:Int) 6=((p.length%6:Nat):Int):=by rw[D57 (by omega),cR];omega
 refine Ad8 (by decide) ?_;rw[xI];refine P0 (fun(h6:((p.length%6:Nat):Int)≠0)=>.of (ItsK.err (by unfold Ae1;rw[Dq5 (by omega)]))) (fun(h6:((p.length%6:Nat):Int)=0)=>?_);obtain⟨n,hn⟩: ∃n,p.length=n*6:=⟨p.length/6,by omega⟩;have gY:p.length/6=n:=by omega
 refine G7 (fun z' z L'=> ∃(i:Nat) (s b:SlV) (sg J:A4),i<=n/\z'=n-i/\z=(s,b,())/\L'=J++(sg++A)/\Own s 3 A70 ((pls p i).flatMap P8) sg/\allR (pls p i)/\BSl A b (p.drop (i*6))) n ⟨0,⟨none,0,0⟩,v,[],[],by omega,by omega,rfl,rfl,F6,by intro n hn;simp[pls]at hn,by simpa using h⟩ ?_;rintro z' z _ ⟨i,s,b,sg,J,hi,rfl,rfl,rfl,own,aB,hb⟩;have dD:=hb.len;rw[Ds6]at dD;have vD:=hb.cap;have bK:=own.sl.els_len E3 (by decide);rw[Ck2]at bK;refine C0 (fun(yY:(b.len:Int)>0)=>?_) (fun(bS: ¬(b.len:Int)>0)=>?_)
 ·have hJ:i<n:=by omega
  have hB:BSl (J++(sg++A)) b (p.drop (i*6)):=hb.right.right;have cv:6<=(p.drop (i*6)).length:=by rw[Ds6];omega
  refine B5 (Bd1 _ b _ hB (by rw[Ds6];omega) 2 4) ((V5 (p.drop (i*6)) 2 4).1,(V5 (p.drop (i*6)) 2 4).2,()) rfl ?_;have hwg:(V5 (p.drop (i*6)) 2 4).1=(num ((p.drop (i*6+2)).take 4):Int):=by
   have:=Bd2 (b:=p.drop (i*6)) (a:=2) (w:=4) (by decide) (by decide) (by omega);rw[Dw6]at this;exact congrArg Prod.fst this
  rw[hwg];obtain⟨a,ha⟩:=hB.some (i:=0) (by omega);have e0:(p.drop (i*6))[0]'(by omega)=p.getD (i*6) 0:=by rw[A50 (by omega),D58];simp
  have e1:(p.drop (i*6))[1]'(by omega)=p.getD (i*6+1) 0:=by rw[A50 (by omega),D58]
  have l0:=hB.rd (i:=0) (by omega) ha ((0:Int).toNat*1) rfl;have l1:=hB.rd (i:=1) (by omega) ha ((1:Int).toNat*1) rfl;rw[e0]at l0;rw[e1]at l1;refine A5 ha (D9 (by decide) (show(0:Int)<(b.len:Int) by omega) (A5 ha (D9 (by decide) (show(1:Int)<(b.len:Int) by omega) (A6 ((p.getD (i*6) 0).toNat:Int) l0 (A6 ((p.getD (i*6+1) 0).toNat:Int) l1 (C4 fun n1 _=>?_))))));rw[Ce9,Ce9];refine E4 (n:=n1) (off:=0) (c:=#[.i 0,.i 0,.i 0]) (T:=A70) (fz:=(0,0)) [] (J++(sg++A)) rfl rfl (by simp) (.inl (Dq6 _)) #[.i (Bo7 p i).1,.i (Bo7 p i).2.1,.i (Bo7 p i).2.2.1] rfl ?_;rw[Ds1];refine A6 (Bo7 p i) (ldB Dq7 rfl) (B5 (Bn7 _ (Bo7 p i)) (decide (W9 (Bo7 p i)),()) rfl ?_);by_cases hr:W9 (Bo7 p i)
  case neg=>
   rw[Ds7 hr];have hk:Ae1 p=([],5):=by
    unfold Ae1;rw[Dq4 (by omega),gY,Dq4 (fun hh=>hr (hh _ (Dt4.2 ⟨i,Dy9.2 hJ,rfl⟩)))]
   exact ifT rfl (.cons (.app (.app (.of (ItsK.err hk)))))
  rw[Dt2 hr];refine ifF rfl (A6 (Bo7 p i) (ldB Dq7 rfl) (C4 fun n2 _=>?_));generalize ((n1,Obj.cells #[.i (Bo7 p i).1,.i (Bo7 p i).2.1,.i (Bo7 p i).2.2.1] A70):Nat×Obj)=o1;refine E6 Au6 B24 ((n2,Obj.cells #[.i (Bo7 p i).1,.i (Bo7 p i).2.1,.i (Bo7 p i).2.2.1] A70)::o1::J) A own (by simp) (n:=1) (ws:=P8 (Bo7 p i)) (x:=.slice (some n2.z) 1 1) (Src.sl (v:=⟨some n2.z,1,1⟩) ⟨rfl,Dq6 _,.inr ⟨_,rfl,ldB Dq7 rfl⟩⟩) rfl (by omega) fun s2 sg2 aJ own2=>?_;refine K7 (l':=6) (h':=b.len) (m':=b.cap) rfl rfl rfl (by omega) (by omega) (Dq6 _) ?_;have aR:BSl A (Q0 b ((6:Nat):Int) (b.len:Int) (b.cap:Int) 1) (p.drop ((i+1)*6)):=by
   have h0:=Sl.slc (m:=b.cap) hb (by decide) (l:=6) (h':=b.len) (by omega) (by omega) (by omega);rw[Ai9,Dw9 (by rw[Ds6,Ds6];omega),Dw6]at h0;rw[show(i+1)*6=i*6+6 by omega];exact h0
  refine⟨n-(i+1),by omega,i+1,s2,_,sg2,_,by omega,rfl,rfl,Ds5 ..,?_,?_,aR⟩
  ·rw[B40,Dt3,Dx7];exact own2
  ·intro x hx;rw[B40]at hx;rcases Dr5.1 hx with h3|h3
   ·exact aB x h3
   ·rw[Dr2.1 h3];exact hr
 ·obtain rfl:i=n:=by omega
  have hk:Ae1 p=(pls p i,0):=by unfold Ae1;rw[Dq4 (by omega),gY,Dq5 aB]
  exact .app (.of ⟨s,sg,by rw[hk],rfl,by rw[hk];exact own⟩)
end Go.Proofs.YtbaoieipijmakaaGreatDoor
