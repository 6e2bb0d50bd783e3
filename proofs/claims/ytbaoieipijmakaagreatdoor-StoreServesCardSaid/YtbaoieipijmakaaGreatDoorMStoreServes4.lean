/-
  It is proved what the functions that the law StoreServes reaches compute, part 4. There are no further conditions than those that each theorem names.
-/
import Derived.Test.YtbaoieipijmakaaGreatDoorMStoreServes3
set_option linter.unusedVariables false
set_option linter.unusedSimpArgs false
namespace Go.Proofs.YtbaoieipijmakaaGreatDoor
open Go.HL
theorem C50{h:Hd}{p:List UInt8}{S:Nat}(h1:64<=S/\S<=512)(h2:p.length<=S-16){i:Nat}(hi:i<p.length):(S7 h p S)[12+i]?=p[i]?:=by
 have hl:=Ab2 (h:=h) (p:=p) (size:=S) (by omega) h2;have hb:=T8 h p.length;unfold S7;rw[Dy4 (by omega)];unfold Ac8;rw[Ds5,Dy5 (by omega),Dy4 (by omega)];congr 1;omega
theorem C51{h:Hd}{p:List UInt8}{S:Nat}(h1:64<=S/\S<=512)(h2:p.length<=S-16){i:Nat}(hi:p.length<=i)(eV:i<S-16):(S7 h p S)[12+i]?=some 0:=by
 have hl:=Ab2 (h:=h) (p:=p) (size:=S) (by omega) h2;have hb:=T8 h p.length;unfold S7;rw[Dy4 (by omega)];unfold Ac8;rw[Ds5,Dy5 (by omega),Dy5 (by omega),D20,Dq5 (by omega)]
theorem Cx3{h:Hd}(e:Y3 h=0){pl:List UInt8}{S n:Nat}(h1:64<=S/\S<=512)(h2:pl.length<=S-16)(hn:n<=S){b:List UInt8}(hb:b=(S7 h pl S).take n++blk (S-n))(ok:(E0 b).2.2=0):
  (E0 b).1.1=h.1/\(E0 b).1.2.2.1=h.2.2.1/\(b=S7 h pl S\/((E0 b).2.1.length=S-16/\(E0 b).2.1.getD (S-17) 0=255)):=by
 have hC:=Aq8 (h:=h) (p:=pl) (S:=S) (by omega) h2;have dD:b.length=S:=by rw[hb,Dr4,Ds0,hC];unfold blk;rw[Dv3];omega
 have gV: ∀i,i<n->b[i]?=(S7 h pl S)[i]?:=fun i hi=>by
  rw[hb,Dy4 (by rw[Ds0,hC];omega),Dy8,Dq5 hi]
 have uC: ∀i,n<=i->i<S->b[i]?=some 255:=fun i hi eV=>by
  rw[hb,Dy5 (by rw[Ds0,hC];omega),Ds0,hC];unfold blk;rw[D20,Dq5 (by omega)]
 obtain⟨-,e',bZ,gL,-⟩:=An5 ok;rw[dD]at bZ gL;obtain⟨a1,a2,a3,a4,a5,a6⟩:=Au2 e pl h1 h2;obtain⟨c1,c2,c3,c4,c5,c6⟩:=Au2 e' (E0 b).2.1 h1 bZ;rw[gL]at c1 c5;have cm:3<n:=Dy3 fun hc=>by
  have:=uC 3 (by omega) (by omega);rw[Dt0,this]at c5;exact absurd c5 (by decide)
 have g: ∀i,i<n->b.getD i 0=(S7 h pl S).getD i 0:=fun i hi=>by rw[Dt0,Dt0,gV i hi]
 refine⟨?_,?_,?_⟩
 ·rw[<-c1,<-a1];show((b.getD 0 0).toNat:Int)=(((S7 h pl S).getD 0 0).toNat:Int);rw[g 0 (by omega)]
 ·rw[<-c1,<-a1];show((b.getD 2 0).toNat:Int)=(((S7 h pl S).getD 2 0).toNat:Int);rw[g 2 (by omega)]
 ·by_cases hS:S-4<=n
  ·left;have h4:=congrArg (List.take (S-4)) gL;rw[Ai4 _ _ (by omega) bZ]at h4;have h5:b.take (S-4)=Ac8 h pl S:=by
    rw[hb,Eg1 (by rw[Ds0,hC];omega),List.take_take,Dx1 hS,Ai4 _ _ (by omega) h2]
   rw[<-gL];unfold S7;rw[h4,h5]
  ·right;have h5:=uC (S-5) (by omega) (by omega);rw[<-gL]at h5;have hp:(E0 b).2.1.length=S-16:=Dy3 fun hc=>by
    have:=C51 (h:=(E0 b).1) h1 bZ (i:=S-17) (by omega) (by omega);rw[show 12+(S-17)=S-5 by omega,h5]at this;exact absurd (Dq9 this) (by decide)
   refine⟨hp,?_⟩;have:=C50 (h:=(E0 b).1) h1 bZ (i:=S-17) (by omega);rw[show 12+(S-17)=S-5 by omega,h5]at this;rw[Dt0,<-this];rfl
theorem Ao6{p:List UInt8}: ∀{n i:Nat} {nx:Int} {y:List It×Int},Ag8 p n i nx=some y->nx<=y.2/\(∀x∈y.1,nx<=x.2.1/\1<=x.2.2.1/\x.2.1+x.2.2.1<=y.2)/\(∀j,j<n->(G8 p (i+j)).2.2.1<=y.2-nx)/\y.1=(List.range n).map fun j=>G8 p (i+j)
 |0,i,nx,y,h=>by
  obtain rfl:=Dq9 h;exact⟨Du5 _,by simp,fun j hj=>by omega,rfl⟩
 |n+1,i,nx,y,h=>by
  have hr:0<=(G8 p i).2.2.1:=by unfold G8;simp only;omega
  unfold Ag8 at h;split at h
  ·rename_i hc;obtain⟨dV,cK,rV⟩:=hc;cases hy:Ag8 p n (i+1) (nx+(G8 p i).2.2.1)with
   |none=>rw[hy]at h;cases h
   |some y'=>
    rw[hy]at h;obtain rfl:=Dq9 h;obtain⟨a1,a2,a3,a4⟩:=Ao6 hy;refine⟨by simp only;omega,fun x hx=>?_,fun j hj=>?_,?_⟩
    ·rcases Dt5.1 hx with rfl|hx
     ·exact⟨by omega,by omega,by simp only;omega⟩
     ·have:=a2 x hx;exact⟨by omega,this.2.1,this.2.2⟩
    ·cases j with
     |zero=>simp only[D47];omega
     |succ j=>
      have:=a3 j (by omega);rw[show i+(j+1)=i+1+j by omega];simp only;omega
    ·rw[List.range_succ_eq_map,Ds3,Dv2];simp only;rw[a4];congr 1;refine D97 fun j _=>?_;show G8 p (i+1+j)=G8 p (i+(j+1));congr 1;omega
  ·cases h
theorem As3{p:List UInt8}{last:Nat}{l:List It}(h:Ad6 p last=some l):p.length%3=0/\ ∃y,Ag8 p (p.length/3) 0 1=some y/\y.2=last/\l=y.1:=by
 unfold Ad6 at h;split at h
 ·cases h
 ·rename_i h3;split at h
  ·rename_i y hy;split at h
   ·rename_i hl;exact⟨by omega,y,hy,hl,(Dq9 h).symm⟩
   ·cases h
  ·cases h
theorem B35{p:List UInt8}{last:Nat}{l:List It}(h:Ad6 p last=some l): ∀x∈l,1<=x.2.1/\x.2.1<last:=fun x hx=>by
 obtain⟨-,y,hy,hl,rfl⟩:=As3 h;have:=(Ao6 hy).2.1 x hx;omega
theorem Ca3{p:List UInt8}{S q:Nat}(h1:64<=S)(hl:p.length=S-16)(h255:p.getD (S-17) 0=255)(hq:q<=15):Ad6 p q=none:=by
 cases h:Ad6 p q with
 |none=>rfl
 |some l=>
  obtain⟨h3,y,hy,rA,-⟩:=As3 h;have:=(Ao6 hy).2.2.1 (p.length/3-1) (by omega);unfold G8 at this;simp only at this;rw[show(0+(p.length/3-1))*3+2=S-17 by omega,h255]at this;have e:((255:UInt8).toNat:Int)=255:=by decide
  omega
theorem Ca4(a b:List It):J7 (a++b)=J7 a++J7 b:=by simp[J7]
theorem Ce7{n:Int}(h:0<=n/\n<=255):((A73 n).toNat:Int)=n:=by rw[<-Ce8 h.1 h.2,w8_id h.1 h.2]
theorem Cz6(pre:List It)(x:It)(post:List It)(hx:inB (itB x)):G8 (J7 (pre++x::post)) pre.length=x:=by
 have hl:=Aj4 pre;have e:J7 (pre++x::post)=J7 pre++(A73 x.1::A73 x.2.1::A73 x.2.2.1::J7 post):=by rw[Ca4];simp[J7,itB]
 have hg: ∀k,(J7 (pre++x::post)).getD (pre.length*3+k) 0=(A73 x.1::A73 x.2.1::A73 x.2.2.1::J7 post).getD k 0:=by
  intro k;rw[e,Dt0,Dt0,Dy5 (by omega),show pre.length*3+k-(J7 pre).length=k by omega]
 unfold G8;have g0:=hg 0;rw[D47]at g0;rw[g0,hg 1,hg 2];have h1:((A73 x.1).toNat:Int)=x.1:=Ce7 (hx _ (by simp[itB]));have h2:((A73 x.2.1).toNat:Int)=x.2.1:=Ce7 (hx _ (by simp[itB]));have h3:((A73 x.2.2.1).toNat:Int)=x.2.2.1:=Ce7 (hx _ (by simp[itB]));simp only[Eg2,List.getD_cons_succ,h1,h2,h3]
theorem Cz2{l l':List It}(dC:inB (l.flatMap itB)){q:Nat}(h:Ad6 (J7 l) q=some l'): ∀x∈l',x∈l:=fun x hx=>by
 obtain⟨-,y,hy,-,rfl⟩:=As3 h;rw[(Ao6 hy).2.2.2]at hx;obtain⟨j,hj,rfl⟩:=Dt4.1 hx;have hj:=Dy9.1 hj;have hl:=Aj4 l;have oP:j<l.length:=by omega
 have hm:l[j]∈l:=Dr7 oP;have hs:=Cz6 (l.take j) l[j] (l.drop (j+1)) fun n hn=>dC n (Dw7.2 ⟨_,hm,hn⟩);rw[<-Dv1 oP,Dw1,Ds0,Dx1 (by omega)]at hs;rw[Dy2,hs];exact hm
def Tru(k:Blk)(l:List It):Prop:= ∀x∈l,x.1=2-> ∀p,k.pages[x.2.1.toNat]?=some p->(E0 p).2.2=0->(E0 p).1.2.2.1<=x.2.2.1
def Ce3(n:Int):Prop:=n=1\/n=2\/n=4\/n=8
def C72(P n:Int):Prop:=Ce3 n/\n+2<=P
def PgI(P:Int)(k:Blk)(q:Nat)(p:List UInt8):Prop:=(E0 p).2.2=0->((E0 p).1.1=2->C72 P (E0 p).1.2.2.1)/\((E0 p).1.1=4-> ∀l,Ad6 (E0 p).2.1 q=some l->Tru k l)
structure PgB(P:Int)(k:Blk):Prop where
 pg: ∀(q:Nat) p,k.pages[q]?=some p->PgI P k q p
 bl: ∀(q:Nat) p,k.next<=q->k.pages[q]?=some p->(E0 p).2.2≠0
theorem An9(S:Nat):(E0 (blk S)).2.2≠0:=fun h=>by
 have:=(An5 h).2.2.2.2;unfold P3 blk at this;rw[D83]at this;obtain⟨x,hx,hn⟩:=this;rw[Dv8 hx]at hn;exact absurd (by decide) hn
theorem Tru.put{k:Blk}{l:List It}(h:Tru k l){p:Nat}(hl: ∀x∈l,0<=x.2.1/\x.2.1<p)(img:List UInt8):Tru (k.put p img) l:=fun x hx h2 pg aY ok=>by
 have:=hl x hx;refine h x hx h2 pg ?_ ok;unfold Blk.put at aY;simp only at aY
 rwa [D96 (by omega)]at aY
theorem PgB.put{P:Int}{k:Blk}(h:PgB P k){p:Nat}(hp:k.next=p){img:List UInt8}(hi:PgI P k p img):PgB P (k.put p img):=by
 have hq: ∀(q:Nat) pg,(k.put p img).pages[q]?=some pg->(q=p/\pg=img)\/(q≠p/\k.pages[q]?=some pg):=fun q pg aY=>by
  unfold Blk.put at aY;simp only at aY;rw[D38]at aY;split at aY
  ·rename_i e;split at aY
   ·exact .inl ⟨e.symm,(Dq9 aY).symm⟩
   ·cases aY
  ·rename_i e;exact .inr ⟨fun q=>e q.symm,aY⟩
 refine⟨fun q pg aY ok=>?_,fun q pg hn aY=>?_⟩
 ·rcases hq q pg aY with⟨rfl,rfl⟩|⟨aE,h2⟩
  ·obtain⟨a1,a2⟩:=hi ok;exact⟨a1,fun h4 l hl=>(a2 h4 l hl).put (fun x hx=>by have:=B35 hl x hx;omega) _⟩
  ·rcases Dw8 q p with hO|aS
   ·obtain⟨a1,a2⟩:=h.pg q pg h2 ok;exact⟨a1,fun h4 l hl=>(a2 h4 l hl).put (fun x hx=>by have:=B35 hl x hx;omega) _⟩
   ·exact absurd ok (h.bl q pg (by omega) h2)
 ·have hn:p+1<=q:=hn;rcases hq q pg aY with⟨rfl,rfl⟩|⟨aE,h2⟩
  ·omega
  ·exact h.bl q pg (by omega) h2
theorem PgB.fresh(P:Int)(k:Blk)(c:Cfg):PgB P (k.fresh c):=by
 have hp: ∀(q:Nat) pg,(k.fresh c).pages[q]?=some pg->(E0 pg).2.2≠0:=fun q pg aY=>by
  have:pg∈List.replicate c.P (blk c.S):=Dx2 aY;rw[Dv8 this];exact An9 _
 exact⟨fun q pg aY ok=>absurd ok (hp q pg aY),fun q pg _ aY=>hp q pg aY⟩
theorem Bw2{k:Blk}{c:Cfg}{n q:Nat}{pg:List UInt8}(h:(k.torn c n).pages[q]?=some pg)(ok:(E0 pg).2.2=0):k.pages[q]?=some pg:=by
 unfold Blk.torn at h;simp only at h;rcases Dw8 q n with hO|aS
 ·rw[Dy4 (by simpa using hO),D20,Dq5 hO]at h;rw[<-Dq9 h]at ok;exact absurd ok (An9 _)
 ·rw[Dy5 (by simpa using aS),Dv3,D05,show n+(q-n)=q by omega]at h;exact h
theorem Tru.torn{k:Blk}{l:List It}(h:Tru k l)(c:Cfg)(n:Nat):Tru (k.torn c n) l:=fun x hx h2 pg aY ok=>h x hx h2 pg (Bw2 aY ok) ok
theorem PgB.torn{P:Int}{k:Blk}(h:PgB P k){c:Cfg}(hl:k.pages.length=c.P)(n:Nat):PgB P (k.torn c n):=by
 refine⟨fun q pg aY ok=>?_,fun q pg hn aY ok=>?_⟩
 ·obtain⟨a1,a2⟩:=h.pg q pg (Bw2 aY ok) ok;exact⟨a1,fun h4 l hs=>(a2 h4 l hs).torn c n⟩
 ·have h1:=(Dw0.1 (Bw2 aY ok)).1;have hn:c.P<=q:=hn;omega
theorem Tru.fresh(k:Blk)(c:Cfg)(l:List It):Tru (k.fresh c) l:=fun x hx h2 pg aY ok=>by
 have:pg∈List.replicate c.P (blk c.S):=Dx2 aY;rw[Dv8 this]at ok;exact absurd ok (An9 _)
def DB(d:Dev):Prop:= ∀b k,D7 d b=some k->PgB d.c.P k
def Y5(d:Dev)(b:Int)(l:List It):Prop:= ∀k,D7 d b=some k->Tru k l
section
variable {d d':Dev} {b:Int} {k k':Blk}
theorem DB.set(h:DB d)(t:A71 d d' b k k')(hk:PgB d.c.P k'):DB d':=fun x y hy=>by
 rw[t.c];by_cases e:x=b
 ·rw[e,t.own]at hy;rw[<-Dq9 hy];exact hk
 ·rw[t.ne e]at hy;exact h x y hy
theorem Y5.set{b':Int}{l:List It}(h:Y5 d b' l)(t:A71 d d' b k k')(hk:b'=b->Tru k l->Tru k' l):Y5 d' b' l:=fun y hy=>by
 by_cases e:b'=b
 ·rw[e,t.own]at hy;rw[<-Dq9 hy];exact hk e (h k (by rw[e];exact t.at'))
 ·rw[t.ne e]at hy;exact h y hy
theorem DB.congr(h:DB d)(hb:d'.bs=d.bs)(hc:d'.c=d.c):DB d':=by
 have e:D7 d'=D7 d:=by funext x;unfold D7;rw[hb]
 unfold DB;rw[e,hc];exact h
theorem Y5.congr{l:List It}(h:Y5 d b l)(hb:d'.bs=d.bs):Y5 d' b l:=by
 have e:D7 d'=D7 d:=by funext x;unfold D7;rw[hb]
 unfold Y5;rw[e];exact h
theorem Be8(hd:DB d)(b:Int)(h:Hd)(pl:List UInt8)(hc:h.1=2->C72 d.c.P h.2.2.1)(hs:h.1=4-> ∃l,pl=J7 l/\inB (l.flatMap itB)/\Y5 d b l):
  DB (M9 d b h pl).2/\(∀b' l',Y5 d b' l'->(b'=b-> ∀x∈l',0<=x.2.1/\x.2.1<h.2.2.2.2.1)->Y5 (M9 d b h pl).2 b' l')/\
  ((M9 d b h pl).1=0-> ∀k,D7 (M9 d b h pl).2 b=some k-> ∀p,k.pages[h.2.2.2.2.1.toNat]?=some p->(E0 p).1.2.2.1=h.2.2.1):=by
 unfold M9;rcases Au0 h pl (d.c.S:Int)with⟨h0,S,hS,h1,he,aW,gL⟩|⟨h0,-⟩
 ·rw[Dq4 (by simpa using h0),gL];obtain rfl:d.c.S=S:=by omega
  dsimp only;have aY:=Ac9 he;rcases Be6 d b h.2.2.2.2.1 (S7 h pl d.c.S)with⟨e1,e2⟩|⟨k,img,t,h2,h3,eK⟩
  ·rw[e1];exact⟨hd,fun b' l' bZ _=>bZ,fun hz=>absurd hz e2⟩
  ·have bC:=hd b k t.at';have hpn:k.next=h.2.2.2.2.1.toNat:=by omega
   have sS: ∀(l':List It),h.1=4->Ad6 pl h.2.2.2.2.1.toNat=some l'->Tru k l':=fun l' h4 bZ=>by
    obtain⟨l,rfl,dC,hT⟩:=hs h4;exact fun x hx=>hT k t.at' x (Cz2 dC bZ x hx)
   have hI:PgI d.c.P k h.2.2.2.2.1.toNat img:=fun ok=>by
    have key: ∀b:List UInt8,E0 b=(h,pl,0)->((E0 b).1.1=2->C72 d.c.P (E0 b).1.2.2.1)/\((E0 b).1.1=4-> ∀l,Ad6 (E0 b).2.1 h.2.2.2.2.1.toNat=some l->Tru k l):=fun b hb=>by
     rw[hb];exact⟨hc,fun h4 l hl=>sS l h4 hl⟩
    rcases eK with⟨-,rfl⟩|⟨-,az⟩
    ·exact key _ (An3 he pl h1 aW).1
    ·unfold N0 at az;obtain⟨a1,a2,a3⟩:=Cx3 he h1 aW (n:=R8 d.keep d.c.S) (by unfold R8;omega) az ok;rcases a3 with a3|⟨a3,a4⟩
     ·rw[a3];exact key _ (An3 he pl h1 aW).1
     ·refine⟨fun h2=>by rw[a2];exact hc (a1▸h2),fun h4 l hl=>?_⟩;rw[Ca3 h1.1 a3 a4 (by omega)]at hl;cases hl
   refine⟨hd.set t (bC.put hpn hI),fun b' l' bZ hx=>bZ.set t fun e hT=>hT.put (fun x aX=>by have:=hx e x aX;omega) _,fun hz k2 fA p hp=>?_⟩;rcases eK with⟨-,rfl⟩|⟨e1,-⟩
   ·rw[t.own]at fA;rw[<-Dq9 fA]at hp;unfold Blk.put at hp;simp only at hp;rw[D38]at hp;split at hp
    ·split at hp
     ·rw[<-Dq9 hp,(An3 he pl h1 aW).1]
     ·cases hp
    ·rename_i aE;exact absurd rfl aE
   ·rw[e1]at hz;cases hz
 ·rw[Dq5 h0];exact⟨hd,fun b' l' bZ _=>bZ,fun hz=>absurd hz h0⟩
end
theorem Cv0{b ep at' kind n P:Int}(rN:kind≠4)(hc:kind=2->C72 P n)(ha:0<=at'): ∀(l:List (List UInt8)) {d:Dev} (i:Nat),DB d->d.c.P=P->DB (W8 b ep at' kind n d i l).2/\(∀b' l',Y5 d b' l'->(b'=b-> ∀x∈l',0<=x.2.1/\x.2.1<at'+i)->Y5 (W8 b ep at' kind n d i l).2 b' l')
 |[],d,i,hd,_=>⟨hd,fun b' l' bZ _=>bZ⟩
 |p::r,d,i,hd,hP=>by
  obtain⟨h1,h2,-⟩:=Be8 hd b (kind,i,n,ep,at'+i,()) p (by rw[hP];exact hc) fun h=>absurd h rN;unfold W8;split
  ·obtain⟨h3,h4⟩:=Cv0 rN hc ha r (ep:=ep) (b:=b) (i+1) h1 (by rw[Am9];exact hP);exact⟨h3,fun b' l' bZ hx=>h4 b' l' (h2 b' l' bZ hx) fun e x aX=>by have:=hx e x aX;omega⟩
  ·exact⟨h1,h2⟩
theorem appR_B{d:Dev}(hd:DB d)(b ep:Int){at' kind:Int}(rN:kind≠4)(ha:0<=at')(l:List (List UInt8))(hc:kind=2->C72 d.c.P l.length):
  DB (Ah3 d b ep at' kind l).2/\(∀b' l',Y5 d b' l'->(b'=b-> ∀x∈l',0<=x.2.1/\x.2.1<at')->Y5 (Ah3 d b ep at' kind l).2 b' l')/\((Ah3 d b ep at' kind l).1=0->Y5 (Ah3 d b ep at' kind l).2 b [(kind,at',(l.length:Int),())]):=by
 unfold Ah3;split
 ·exact⟨hd,fun b' l' bZ _=>bZ,fun h=>absurd (show(2:Int)=0 from h) (by decide)⟩
 ·rename_i hl;obtain⟨h1,h2⟩:=Cv0 (ep:=ep) (b:=b) rN hc ha l 0 hd rfl;refine⟨h1,fun b' l' bZ hx=>h2 b' l' bZ (by simpa using hx),fun h0=>?_⟩;cases l with
  |nil=>exact absurd rfl hl
  |cons p r=>
   obtain⟨g1,g2,g3⟩:=Be8 hd b (kind,((0:Nat):Int),((p::r).length:Int),ep,at'+((0:Nat):Int),()) p hc fun h=>absurd h rN;unfold W8 at h0⊢;split at h0
   ·rename_i hz;rw[Dq5 hz];refine(Cv0 (ep:=ep) (b:=b) rN hc ha r (0+1) g1 (by rw[Am9])).2 b _ (fun k hk x hx h2 pg aY ok=>?_) fun _ x hx=>?_
    ·rw[Dr2.1 hx]at aY⊢;have:=g3 hz k hk pg (by simpa using aY);rw[this];exact Du5 _
    ·rw[Dr2.1 hx];exact⟨ha,by simp only;omega⟩
   ·rename_i hz;exact absurd h0 hz
theorem Dj9{d:Dev}(hd:DB d)(b ep:Int):DB (T3 d b ep).2/\ ∀b' l',Y5 d b' l'->(b'=b->l'=[])->Y5 (T3 d b ep).2 b' l':=by
 obtain⟨h1,h2,-⟩:=Be8 hd b (1,0,1,ep,0,()) [] (fun h=>absurd (show(1:Int)=2 from h) (by decide)) (fun h=>absurd (show(1:Int)=4 from h) (by decide));exact⟨h1,fun b' l' bZ hx=>h2 b' l' bZ fun e x aX=>by rw[hx e]at aX;cases aX⟩
theorem Dg8{d:Dev}(hd:DB d)(b ep at':Int)(l:List It)(hl:Y5 d b l):DB (T2 d b ep at' l).2/\ ∀b' l',Y5 d b' l'->(b'=b-> ∀x∈l',0<=x.2.1/\x.2.1<at')->Y5 (T2 d b ep at' l).2 b' l':=by
 unfold T2;split
 ·rename_i dC;obtain⟨h1,h2,-⟩:=Be8 hd b (4,0,1,ep,at',()) (J7 l) (fun h=>absurd (show(4:Int)=2 from h) (by decide)) fun _=>⟨l,rfl,dC,hl⟩;exact⟨h1,h2⟩
 ·exact⟨hd,fun b' l' bZ _=>bZ⟩
theorem C67{d:Dev}(hd:DB d)(dv:P6 d)(aK:d.down=false){b:Int}{k:Blk}(hk:D7 d b=some k)(bC:k.bad=false):DB (E7 d b).2/\ ∀b' l',Y5 d b' l'->Y5 (E7 d b).2 b' l':=by
 obtain⟨k',t,hc⟩:=Ai5 dv aK hk bC;have aW:=(dv.pg k (by obtain⟨_,hi,e⟩:=U9 hk;rw[<-e];exact Dr7 hi)).1;rcases hc with⟨-,n,rfl⟩|⟨-,rfl,-⟩
 ·exact⟨hd.set t ((hd b k hk).torn aW n),fun b' l' bZ=>bZ.set t fun _ hT=>hT.torn _ _⟩
 ·exact⟨hd.set t (PgB.fresh _ k _),fun b' l' bZ=>bZ.set t fun _ _=>Tru.fresh k _ _⟩
theorem Da0{d:Dev}(hd:DB d){h:HD}(hh:h∈H0 d):Y5 d h.1 h.2.2:=by
 obtain⟨b,hb,hr⟩:=Ap0 ((O7 epK (A69 d d.c.B)).subset hh);intro k hk;unfold Bn9 at hr;split at hr
 ·rename_i hs;obtain rfl:=Dq9 hr;have hk:D7 d (b:Int)=some k:=hk;obtain⟨h0,hi,e⟩:=U9 hk;obtain⟨ps,eC⟩: ∃ps,ps=(N8 d b).1:=⟨_,rfl⟩;have aY: ∀(q:Nat) p,ps[q]?=some p->(E0 p).2.2=0->k.pages[q]?=some p:=fun q p hp ok=>by
   rw[eC]at hp;unfold N8 at hp;split at hp
   ·cases hp
   ·rename_i hf;rw[Du3]at hp;cases hq:(List.range d.c.P)[q]? with
    |none=>rw[hq]at hp;cases hp
    |some q'=>
     rw[hq]at hp;obtain⟨dN,eI⟩:=Dw0.1 hq;rw[List.getElem_range]at eI;subst eI;simp only[D04]at hp;have hp:=Dq9 hp;unfold H2 at hp;split at hp
     ·rw[<-hp]at ok;have:=(An5 ok).1.1;exact absurd this (show¬64<=([]:List UInt8).length by decide)
     ·rw[Dr9 hi,e]at hp;dsimp only at hp;split at hp
      ·rw[<-hp]at ok;exact absurd ok (An9 _)
      ·simp only[Dr0]at hp;rw[Dt0]at hp;cases nK:k.pages[q]? with
       |none=>
        rw[nK]at hp;rw[<-hp]at ok;have:=(An5 ok).1.1;exact absurd this (show¬64<=([]:List UInt8).length by decide)
       |some p2=>rw[nK]at hp;rw[<-hp];rfl
  have hB:=hd b k hk;rw[<-eC];show Tru k (Q3 ps).1.2.2;have xL: ∀(q:Nat) x,O1 ps (epR ps) q=some x-> ∀pg,k.pages[x.2.1.toNat]?=some pg->(E0 pg).2.2=0->(E0 pg).1.2.2.1<=x.2.2.1:=fun q x hx pg dA ok=>by
   unfold O1 at hx;split at hx
   ·rename_i b2 dE;split at hx
    ·rename_i hc;split at hx
     ·obtain rfl:=Dq9 hx;simp only[Dr0]at dA;rw[aY q b2 dE hc.1]at dA;rw[<-Dq9 dA];exact Du5 _
     ·cases hx
    ·cases hx
   ·cases hx
  have uR: ∀(n p:Nat),∀x∈Af5 (O1 ps (epR ps)) (M6 ps) n p,∃q,O1 ps (epR ps) q=some x:=fun n=>by
   induction n with
   |zero=>intro p x hx;cases hx
   |succ n ih=>
    intro p x hx;unfold Af5 at hx;split at hx
    ·split at hx
     ·rename_i y hy;rcases Dt5.1 hx with rfl|hx
      ·exact⟨p,hy⟩
      ·exact ih _ x hx
     ·exact ih _ x hx
    ·cases hx
  unfold Q3;split
  ·exact fun x hx=>by cases hx
  ·split
   ·split
    ·rename_i l hl;split at hl
     ·unfold A74 Ab5 at hl;split at hl
      ·rename_i ct;split at hl
       ·rename_i b2 dE;split at hl
        ·rename_i hc;have hl:Ad6 (E0 b2).2.1 (M6 ps)=some l:=hl;rw[Dr0]at dE;exact(hB.pg _ _ (aY _ _ dE hc.1) hc.1).2 (by rw[hc.2]) l hl
        ·cases hl
       ·cases hl
      ·cases hl
     ·cases hl
    ·exact fun x hx _=>by
      obtain⟨q,hq⟩:=uR _ _ x hx;exact xL q x hq
   ·exact fun x hx=>by cases hx
 ·cases hr
structure Aj1(ways:Int)(l:List C3):Prop where
 len:(l.length:Int)<=ways
 nd:(l.map C3.nm).Nodup
 fr: ∀s∈l,0<=s.freq/\s.freq<=3
theorem Aj1.erase{ways:Int}{l:List C3}(g:Aj1 ways l)(nm:Al8):Aj1 ways (E9 l nm):=by
 have hs:(E9 l nm).Sublist l:=D43 ..;exact⟨by have:=hs.length_le;have:=g.len;omega,(hs.map _).nodup g.nd,fun s h=>g.fr s (hs.subset h)⟩
theorem A57{ways:Int}{l:List C3}(g:Aj1 ways l)(nm:Al8):nm∉(E9 l nm).map C3.nm:=by
 rcases W4 l nm with⟨e1,e2,e3⟩|⟨j,hj,e1,e2,e4,e3⟩
 ·rw[e3];intro h;obtain⟨s,hs,he⟩:=Dt4.1 h;rw[D18]at e2;exact e2 s hs (by simpa using he)
 ·rw[e3];have hl:l=l.take j++l[j]::l.drop (j+1):=by rw[<-Dv1 hj,Dw1]
  have hn:=g.nd;rw[hl,Ds2,Ds3,Dx3]at hn;obtain⟨n1,n2,n3⟩:=hn;rw[Dv9]at n2;rw[Ds2,Dr5];rintro(h|h)
  ·exact n3 _ h l[j].nm (by simp) (by rw[e4])
  ·exact n2.1 (by rw[e4];exact h)
theorem A04{ways:Int}{l:List C3}{x:C3}(g:Aj1 ways l)(h1:(l.length:Int)+1<=ways)(h2:x.nm∉l.map C3.nm)(h3:0<=x.freq/\x.freq<=3):Aj1 ways (l++[x]):=by
 refine⟨by rw[Dr4];simp only[Dr8,Du7];omega,?_,fun s hs=>?_⟩
 ·rw[Ds2,Dx3];refine⟨g.nd,by simp,fun a ha b hb=>?_⟩;simp only[Ds3,D61,Dr2]at hb;rintro rfl;rw[hb]at ha;exact h2 ha
 ·rcases Dr5.1 hs with h|h
  ·exact g.fr s h
  ·rw[Dr2.1 h];exact h3
theorem Bz7(h:Nat)(p:Pl)(f:Int):(Bl1 h p f).nm=inm h p:=rfl
theorem B38{ways:Int}{l:List C3}(g:Aj1 ways l)(hw:1<=ways)(h:Nat)(p:Pl):Aj1 ways (Bz6 l ways h p):=by
 have g1:=g.erase (inm h p);have hn:=A57 g (inm h p);unfold Bz6;generalize E9 l (inm h p)=l1 at g1 hn⊢;by_cases hf:Af2 l1 ways=true
 ·rw[Dq5 hf];unfold Af2 at hf;have hl:(l1.length:Int)=ways:=by simpa using hf
  have hs:(l1.drop 1).Sublist l1:=List.drop_sublist ..;refine A04 ⟨?_,(hs.map _).nodup g1.nd,fun s h=>g1.fr s (hs.subset h)⟩ ?_ ?_ (by simp[Bl1])
  ·rw[Ds6];omega
  ·rw[Ds6];omega
  ·rw[Bz7];exact fun h=>hn ((hs.map _).subset h)
 ·rw[Dq4 hf];unfold Af2 at hf;have hl:(l1.length:Int)≠ways:=by simpa using hf
  have:=g1.len;exact A04 g1 (by omega) (by rw[Bz7];exact hn) (by simp[Bl1])
theorem B59{ways:Int}{l:List C3}(g:Aj1 ways l)(nm:Al8):Aj1 ways (Ah0 l nm):=by
 unfold Ah0;cases hx:l.findIdx? (fun s=>decide (s.nm=nm))with
 |none=>exact g
 |some j=>
  simp only;have hm:(l.modify j Cw0).map C3.nm=l.map C3.nm:=by
   apply D51;intro i;rw[Du3,Du3,Dy7];cases l[i]? with
   |none=>rfl
   |some s=>
    by_cases oQ:j=i
    ·simp[oQ,Cw0,C3.nm]
    ·simp[oQ]
  refine⟨by rw[D63];exact g.len,by rw[hm];exact g.nd,fun s hs=>?_⟩;obtain⟨i,hi,rfl⟩:=Eb2.1 hs;rw[Eg4];rw[D63]at hi;have h1:=g.fr l[i] (Dr7 hi);split
  ·unfold Cw0 Ad3;simp only;split<;>omega
  ·exact h1
theorem Cl3{ways:Int}{l:List C3}{x:C3}(g:Aj1 ways l)(h:Nat)(p q:Pl)(hx:l.find? (fun s=>decide (s.nm=inm h p))=some x):Aj1 ways (E9 (E9 l (inm h p)) (inm h q)++[Bl1 h q (Aa2 (x.freq-1) 0)]):=by
 have g1:=g.erase (inm h p);have g2:=g1.erase (inm h q);have hn:=A57 g1 (inm h q);have hO:(E9 l (inm h p)).length<l.length:=by
  rcases W4 l (inm h p)with⟨_,e,_⟩|⟨j,hj,_,_,_,e⟩
  ·rw[hx]at e;cases e
  ·rw[e,Dr4,Ds0,Ds6];omega
 have bS:(E9 (E9 l (inm h p)) (inm h q)).length<=(E9 l (inm h p)).length:=D62 ..;have jH:=g.fr x (Ef3 hx);have:=g.len;refine A04 g2 (by omega) (by rw[Bz7];exact hn) ?_;show 0<=Aa2 (x.freq-1) 0/\Aa2 (x.freq-1) 0<=3;unfold Aa2;split<;>omega
def Cw2(ways:Int)(ss:List (List C3)):Prop:= ∀l∈ss,Aj1 ways l
theorem Cw2.row{ways:Int}{ss:List (List C3)}(g:Cw2 ways ss){h:Nat}(hl:isi ss h<ss.length):Aj1 ways (J6 ss h):=by
 unfold J6;rw[Dt0,Dr9 hl];exact g _ (Dr7 hl)
theorem Cw2.iset{ways:Int}{ss:List (List C3)}(g:Cw2 ways ss)(h:Nat){row:List C3}(hr:Aj1 ways row):Cw2 ways (iset ss h row):=by
 intro l hl;unfold Go.Proofs.YtbaoieipijmakaaGreatDoor.iset at hl;rcases D89 hl with h1|h1
 ·exact g l h1
 ·rw[h1];exact hr
theorem Ak4(ss:List (List C3))(h:Nat)(row:List C3):(iset ss h row).length=ss.length:=Dz4 ..
def iact(ways:Int)(ss:List (List C3))(kind:Int)(h:Nat)(p q:Pl):List (List C3):=
 if kind=0 then Cv9 ss ways h p else if kind=1 then ss else if kind=2 then iset ss h (E9 (J6 ss h) (inm h p))else if kind=3 then iset ss h (Ah0 (J6 ss h) (inm h p))else Aq7 ss h p q
theorem C40{ways:Int}{ss:List (List C3)}(g:Cw2 ways ss)(hw:1<=ways){h:Nat}(hl:isi ss h<ss.length)(p:Pl):Cw2 ways (Cv9 ss ways h p):=g.iset h (B38 (g.row hl) hw h p)
theorem C48{ways:Int}{ss:List (List C3)}(g:Cw2 ways ss)(hw:1<=ways)(kind:Int){h:Nat}(hl:isi ss h<ss.length)(p q:Pl):Cw2 ways (iact ways ss kind h p q)/\(iact ways ss kind h p q).length=ss.length:=by
 unfold iact;split
 ·exact⟨C40 g hw hl p,Ak4 ..⟩
 ·split
  ·exact⟨g,rfl⟩
  ·split
   ·exact⟨g.iset h ((g.row hl).erase _),Ak4 ..⟩
   ·split
    ·exact⟨g.iset h (B59 (g.row hl) _),Ak4 ..⟩
    ·unfold Aq7;split
     ·exact⟨g,rfl⟩
     ·rename_i x hx;exact⟨g.iset h (Cl3 (g.row hl) h p q hx),Ak4 ..⟩
structure RowOk(s:Sto)(h:Nat):Prop where
 len:(J6 s.ix h).length<100
 wf: ∀x∈J4 (J6 s.ix h) h,S0 .i64 x.2.1
 fr: ∀x∈J6 s.ix h,0<=x.freq/\x.freq<=3
def Reg.Good(r:Reg):Prop:=r.l.length<=256/\ ∀x∈r.l,(0<=x.2.1/\x.2.1<=255)/\0<=x.2.2.1/\x.2.2.1<=255
structure SOk(s:Sto)(M:Nat):Prop where
 dv:P6 s.d
 dn:s.down=s.d.down
 few:s.d.torn.length+(if s.d.down=true then 0 else 1)<=1000
 cfg:s.d.c=s.sc.c
 bk:s.bk.Ok
 ixi:Cw2 s.sc.ways s.ix
 ixl:1<=s.ix.length
 ixw: ∀row∈s.ix,∀x∈row,S0 .i64 x.p
 wy:1<=s.sc.ways/\s.sc.ways<=8
 sm:0<=s.sc.small/\s.sc.small<=65536
 gs:0<=s.sc.ghost/\s.sc.ghost<=64
 gl:(s.gh.length:Int)<=s.sc.ghost
 op: ∀o,s.op=some o->1<=o.nx/\o.nx<=16/\(o.l.length:Int)<=o.nx
 it: ∀r,r∈s.rs\/s.op=some r->r.Good
 use:Ce4 s.ss s.us
 ssl:s.ss.length=s.d.bs.length
 ssd:s.down=false-> ∀(i:Nat) k,s.d.bs[i]?=some k-> ∃x,s.ss[i]?=some x/\x.wear=k.wear/\x.bad=k.bad
 sw: ∀x∈s.ss,0<=x.wear/\x.wear<=1048576
 ep:0<=s.epoch/\s.epoch<=1073741824
 qs: ∀e∈s.q,1<=e.1.size/\e.1.size<=255/\e.2.1.length<=65536
 ql:s.q.length<=66000
 pl:s.pend.length<=M
section
variable {s:Sto} {M:Nat}
theorem SOk.S(h:SOk s M):64<=s.sc.c.S/\s.sc.c.S<=512:=by rw[<-h.cfg];exact h.dv.c.s
theorem SOk.P(h:SOk s M):4<=s.sc.c.P/\s.sc.c.P<=16:=by rw[<-h.cfg];exact h.dv.c.p
theorem SOk.isi(h:SOk s M)(k:Nat):isi s.ix k<s.ix.length:=Dx6 _ h.ixl
theorem Aq5{ss:List (List C3)}{k:Nat}(h:isi ss k<ss.length):J6 ss k∈ss:=by
 unfold J6;rw[Dt0,Dr9 h];exact Dr7 h
theorem SOk.row(h:SOk s M)(k:Nat):RowOk s k:=by
 have g:=h.ixi.row (h.isi k);have hm:=Aq5 (h.isi k);refine⟨by have:=g.len;have:=h.wy;omega,fun x hx=>?_,g.fr⟩;unfold J4 at hx;obtain⟨y,hy,rfl⟩:=Dt4.1 hx;exact h.ixw _ hm y (Dw5.1 hy).1
theorem SOk.dg(h:SOk s M)(n:Nat)(hn:n<=1000000):DG s.d n:=⟨h.dv,by have:=h.few;split at this<;>omega⟩
theorem SOk.upto{N:Nat}(h:SOk s M)(hn:M<=N):SOk s N:={h with pl:=Dt1 h.pl hn}
theorem SOk.usl(h:SOk s M):s.us.length<=16:=by
 have h1:=B11 (Bj9 h.use);have h2:=h.ssl;have h3:=h.dv.len;have h4:=h.dv.c.b;omega
theorem SOk.pay(h:SOk s M)(n:Int):SOk (s.pay n) M:={h with dv:=h.dv,bk:=Ct9 h.bk _}
theorem SOk.step(h:SOk s M)(hd:s.down=false){d':Dev}{e:Int}(st:DSt s.d d' e):SOk ((s.dev d').met e) M:=by
 have e1:((s.dev d').met e).down=decide (e=11):=by
  show(s.down||decide (e=11))=_;rw[hd];rfl
 refine{h with dv:=st.ok,dn:=by rw[e1];exact st.dn.symm,few:=?_,cfg:=st.c.trans h.cfg,ssl:=h.ssl.trans st.ln.symm,ssd:=fun hx i k hk=>?_}
 ·have h1:=st.tn;have h2:=h.few;rw[<-h.dn,hd]at h2;simp at h2;show d'.torn.length+(if d'.down=true then 0 else 1)<=1000;omega
 ·obtain⟨k0,kK,w,b⟩:=st.wr i k hk;obtain⟨x,hx,w2,b2⟩:=h.ssd hd i k0 kK;exact⟨x,hx,by rw[w2,w],b2.trans b.symm⟩
theorem met0(s:Sto):s.met 0=s:=by unfold Sto.met;simp
theorem C26{s:Sto}{e:Int}(hd:s.down=false)(he:e=0):(s.met e).down=false:=by rw[he,met0];exact hd
theorem bat_lt{l:List It}{x:It}{P:It->Prop}(h: ∀y∈l,P y)(hx:P x): ∀y∈l++[x],P y:=fun y hy=>by
 rcases Dr5.1 hy with hy|hy
 ·exact h y hy
 ·rw[Dr2.1 hy];exact hx
theorem SOk.write(h:SOk s M)(hd:s.down=false)(kind:Int)(l:List (List UInt8)):SOk (s.write kind l).1 M/\((s.write kind l).2.2=0->(s.write kind l).1.down=false):=by
 unfold Sto.write;split
 ·exact⟨h,fun _=>hd⟩
 ·rename_i o ho;have hP:=h.P;obtain⟨st,aA⟩:=Bk5 h.dv (by rw[<-h.dn];exact hd) o.b o.ep o.nx kind l;rw[h.cfg]at aA;dsimp only;generalize Ah3 s.d o.b o.ep o.nx kind l=q at st aA;have h2:SOk ((((s.pay l.length).dev q.2)).met q.1) M:=SOk.step (h.pay _) hd st;by_cases h0:q.1=0
  ·rw[Dq4 (by simpa using h0)];rw[h0,met0]at h2;obtain⟨hl,nI,iI⟩:=aA h0;have fK:1<=l.length:=by cases l with|nil=>exact absurd rfl hl|cons a b=>simp
   have bM:=h.op o ho;have hg:=h.it o (.inr ho);refine⟨{h2 with dv:=h2.dv,op:=fun o' bU=>?_,it:=fun r hr=>?_,use:=?_},fun _=>hd⟩
   ·obtain rfl:=Dq9 bU;unfold Reg.grown;refine⟨by simp only;omega,by simp only;omega,?_⟩;simp only[Dr4,Dr8,Du7];omega
   ·rcases hr with hr|hr
    ·exact h.it r (.inl hr)
    ·obtain rfl:=Dq9 hr;unfold Reg.grown;refine⟨by simp only[Dr4,Dr8,Du7];omega,?_⟩;exact bat_lt hg.2 ⟨⟨by simp only;omega,by simp only;omega⟩,by simp only;omega,by simp only;omega⟩
   ·have:({(s.pay l.length).dev q.2 with op:=some (o.grown kind l.length)}:Sto).us=s.us:=by
     show s.rs.map Reg.b++[o.b]=s.rs.map Reg.b++(s.op.map Reg.b).toList;rw[ho];rfl
    rw[this];exact h.use
  ·rw[Dq5 (by simpa using h0)];exact⟨h2,fun he=>absurd he h0⟩
theorem SOk.seals(h:SOk s M)(hd:s.down=false):SOk s.seals.1 M/\(s.seals.2=0->s.seals.1.down=false)/\s.seals.1.op=none/\s.seals.1.us=s.us/\s.seals.1.ss=s.ss/\s.seals.1.epoch=s.epoch/\s.seals.1.sc=s.sc:=by
 unfold Sto.seals;split
 ·rename_i ho;exact⟨h,fun _=>hd,ho,rfl,rfl,rfl,rfl⟩
 ·rename_i o ho;have st:=Bd7 h.dv (by rw[<-h.dn];exact hd) o.b o.ep o.nx o.l;dsimp only;generalize T2 s.d o.b o.ep o.nx o.l=q at st;have h2:SOk ((((s.pay 1).dev q.2)).met q.1) M:=SOk.step (h.pay _) hd st;have cA:(({(s.pay 1).dev q.2 with op:=none,rs:=s.rs++[o]}:Sto).met q.1).us=s.us:=by
   show(s.rs++[o]).map Reg.b++[]=s.rs.map Reg.b++(s.op.map Reg.b).toList;rw[ho];simp
  refine⟨{h2 with dv:=h2.dv,op:=fun o' bU=>(by cases bU),it:=fun r hr=>?_,use:=by rw[cA];exact h.use},fun he=>C26 hd he,rfl,cA,rfl,rfl,rfl⟩;rcases hr with hr|hr
  ·rcases Dr5.1 hr with hr|hr
   ·exact h.it r (.inl hr)
   ·rw[Dr2.1 hr];exact h.it o (.inr ho)
  ·cases hr
theorem SOk.begins(h:SOk s M)(hd:s.down=false)(bM:s.op=none)(bX:s.epoch<1073741824){b:Int}(hb:N6 s.ss s.us b=true):SOk (s.begins b).1 M/\((s.begins b).2=0->(s.begins b).1.down=false/\(s.begins b).1.us=s.us++[b]):=by
 unfold Sto.begins;have st:=Bf2 h.dv (by rw[<-h.dn];exact hd) b (s.epoch+1);dsimp only;generalize T3 s.d b (s.epoch+1)=q at st;have h2:SOk ((((s.pay 1).dev q.2)).met q.1) M:=SOk.step (h.pay _) hd st;by_cases h0:q.1=0
 ·rw[Dq4 (by simpa using h0)];rw[h0,met0]at h2;have cA:({(s.pay 1).dev q.2 with epoch:=s.epoch+1,op:=some ⟨b,s.epoch+1,1,[]⟩}:Sto).us=s.us++[b]:=by
   show s.rs.map Reg.b++[b]=s.rs.map Reg.b++(s.op.map Reg.b).toList++[b];rw[bM];simp
  refine⟨{h2 with dv:=h2.dv,op:=fun o' bU=>?_,it:=fun r hr=>?_,use:=by rw[cA];exact Bu3 h.use hb,ep:=by have:=h.ep;show 0<=s.epoch+1/\s.epoch+1<=1073741824;omega},fun _=>⟨hd,cA⟩⟩
  ·obtain rfl:=Dq9 bU;exact⟨Du5 1,show(1:Int)<=16 by decide,by simp⟩
  ·rcases hr with hr|hr
   ·exact h.it r (.inl hr)
   ·obtain rfl:=Dq9 hr;exact⟨by simp,by simp⟩
 ·rw[Dq5 (by simpa using h0)];exact⟨h2,fun he=>absurd he h0⟩
theorem SOk.erase(h:SOk s M)(hd:s.down=false){b:Int}(hb: ∀o,s.op=some o->o.b≠b):
  SOk (s.erase b).1 M/\((s.erase b).2=0->(s.erase b).1.down=false/\(s.erase b).1.us=iwo s.us b/\(s.erase b).1.ss=(if F5 s.ss b=true then Ad4 s.ss b (R5 (decide ((E7 s.d b).1=10)))else s.ss))/\(s.erase b).1.op=s.op/\(s.erase b).1.bk=s.bk/\(s.erase b).1.epoch=s.epoch/\(s.erase b).1.sc=s.sc:=by
 unfold Sto.erase;have st:=Ar1 h.dv (by rw[<-h.dn];exact hd) b;dsimp only;generalize E7 s.d b=q at st;have bR:=h.few;rw[<-h.dn,hd]at bR;simp at bR;by_cases h0:q.1=11
 ·rw[Dq5 h0];refine⟨{h with dv:=st.ok,dn:=?_,few:=?_,cfg:=st.c.trans h.cfg,ssl:=h.ssl.trans st.ln.symm,ssd:=fun hx=>?_},fun he=>absurd (show(11:Int)=0 from he) (by decide),rfl,rfl,rfl,rfl⟩
  ·show(s.down||decide ((11:Int)=11))=q.2.down;rw[st.dn,h0,hd];rfl
  ·show q.2.torn.length+(if q.2.down=true then 0 else 1)<=1000;rw[st.tn];split<;>omega
  ·have:(s.down||decide ((11:Int)=11))=false:=hx;rw[hd]at this;exact absurd this (by decide)
 ·rw[Dq4 h0];obtain⟨s',cC⟩: ∃s':Sto,s'={s.dev q.2 with ss:=if F5 s.ss b=true then Ad4 s.ss b (R5 (decide (q.1=10)))else s.ss,rs:=s.rs.filter fun r=> !decide (r.b=b)}:=⟨_,rfl⟩;rw[<-cC];have fQ:s'.ss=if F5 s.ss b=true then Ad4 s.ss b (R5 (decide (q.1=10)))else s.ss:=by rw[cC]
  have cA:s'.us=iwo s.us b:=by
   have e1:s'.rs=s.rs.filter fun r=> !decide (r.b=b):=by rw[cC]
   have e2:s'.op=s.op:=by rw[cC];rfl
   unfold Sto.us iwo;rw[e1,e2,Dz8];congr 1
   ·rw[D64];congr 1;refine Ec9 fun x _=>?_;simp
   ·cases ho:s.op with
    |none=>rfl
    |some o=>
     have:=hb o ho;simp[this]
  have dU:s'.d=q.2:=by rw[cC];rfl
  have sI:s'.ss.length=s'.d.bs.length:=by
   rw[dU,st.ln,<-h.ssl,fQ];split
   ·exact Al0 ..
   ·rfl
  have kT: ∀(i:Nat) k,s'.d.bs[i]?=some k-> ∃x,s'.ss[i]?=some x/\x.wear=k.wear/\x.bad=k.bad:=fun i k' cU=>by
   rw[dU]at cU;obtain⟨k,hk,uZ⟩:=st.wr h0 i k' cU;obtain⟨x,hx,hw,cO⟩:=h.ssd hd i k hk;have iB:(i:Int)=b->F5 s.ss b= !x.bad:=fun e=>by
    unfold F5;subst e;rw[Dr0,hx];simp
   rw[fQ];rcases uZ with⟨⟨e,kb⟩,w,bd⟩|⟨hn,w,bd⟩
   ·have hg:F5 s.ss b=true:=by rw[iB e,cO,kb];rfl
    rw[Dq5 hg];refine⟨R5 (decide (q.1=10)) x,?_,?_,?_⟩
    ·unfold Ad4;rw[Dy7,hx];simp[show b.toNat=i by omega]
    ·show x.wear+1=_;rw[hw,w];simp
    ·exact bd.symm
   ·refine⟨x,?_,by rw[hw,w],cO.trans bd.symm⟩;split
    ·rename_i hg;have:(i:Int)≠b:=fun e=>by
      rw[iB e,cO]at hg;exact hn ⟨e,by simpa using hg⟩
     unfold F5 at hg;simp only[Dv4,Dy0]at hg;unfold Ad4;rw[Dy7,hx];simp[show¬b.toNat=i by omega]
    ·exact hx
  have rD: ∀x∈s'.ss,0<=x.wear/\x.wear<=1048576:=fun x hx=>by
   obtain⟨i,hi,rfl⟩:=D95 hx;obtain⟨y,hy,hw,-⟩:=kT i (s'.d.bs[i]'(by omega)) (Dr9 (by omega));rw[Dr9 hi]at hy;obtain rfl:=Dq9 hy;have h1:=st.ok.nx _ (show s'.d.bs[i]'(by omega)∈q.2.bs by rw[<-dU];exact Dr7 _);have h2:=st.ok.c.w;rw[hw];omega
  have uT:s'.down=false:=by rw[cC];exact hd
  have xC:Ce4 s'.ss s'.us:=by
   rw[fQ,cA];split
   ·rename_i hg;exact C74 h.use hg _
   ·rename_i hg;have:b∉s.us:=fun hm=>hg (h.use.2 b hm);have e:iwo s.us b=s.us:=by
     unfold iwo;rw[Dz9];intro y hy;have:y≠b:=fun e=>this (e▸hy);simp[this]
    rw[e];exact h.use
  refine⟨?_,fun _=>⟨uT,cA,fQ⟩,by rw[cC];rfl,by rw[cC];rfl,by rw[cC];rfl,by rw[cC];rfl⟩;refine⟨by rw[dU];exact st.ok,?_,?_,?_,by rw[cC];exact h.bk,by rw[cC];exact h.ixi,by rw[cC];exact h.ixl,by rw[cC];exact h.ixw,by rw[cC];exact h.wy,by rw[cC];exact h.sm,by rw[cC];exact h.gs,by rw[cC];exact h.gl,by rw[cC];exact h.op,?_,xC,sI,fun _=>kT,rD,by rw[cC];exact h.ep,by rw[cC];exact h.qs,by rw[cC];exact h.ql,by rw[cC];exact h.pl⟩
  ·rw[uT,dU,st.dn];exact(Ds7 h0).symm
  ·rw[dU,st.tn];split<;>omega
  ·rw[dU,st.c];rw[cC];exact h.cfg
  ·intro r hr;rw[cC]at hr;rcases hr with hr|hr
   ·exact h.it r (.inl (Dw5.1 hr).1)
   ·exact h.it r (.inr hr)
theorem Ak1{ss:List (List C3)}{k:Nat}{row r:List C3}(h:r∈iset ss k row):r∈ss\/r=row:=by
 unfold iset at h;exact D89 h
theorem SOk.ixset(h:SOk s M)(k:Nat){row:List C3}(hg:Aj1 s.sc.ways row)(hw: ∀x∈row,S0 .i64 x.p):SOk {s with ix:=iset s.ix k row} M:=by
 refine{h with dv:=h.dv,ixi:=h.ixi.iset k hg,ixl:=by rw[Ak4];exact h.ixl,ixw:=fun r hr=>?_};rcases Ak1 hr with hr|rfl
 ·exact h.ixw r hr
 ·exact hw
theorem Ae3(l:List C3)(nm:Al8): ∀x∈E9 l nm,x∈l:=fun x hx=>(D43 ..).subset hx
theorem SOk.ixdrop(h:SOk s M)(k:Nat)(p:It):SOk (s.ixdrop k p) M:=h.ixset k ((h.ixi.row (h.isi k)).erase _) fun x hx=>h.ixw _ (Aq5 (h.isi k)) x (Ae3 _ _ x hx)
theorem Co7{l:List C3}{ways:Int}{k:Nat}{p:Pl}: ∀x∈Bz6 l ways k p,x∈l\/x=Bl1 k p 0:=fun x hx=>by
 unfold Bz6 at hx;rcases Dr5.1 hx with hx|hx
 ·left;split at hx
  ·exact Ae3 _ _ x (D59 hx)
  ·exact Ae3 _ _ x hx
 ·right;exact Dr2.1 hx
theorem SOk.list(h:SOk s M)(key:ByteArray)(p:It)(hp:S0 .i64 p.2.1):SOk (s.list key p) (M+1):=by
 have h1:SOk {s with ix:=Cv9 s.ix s.sc.ways (s.hash key) p} M:=h.ixset _ (B38 (h.ixi.row (h.isi _)) h.wy.1 _ _) fun x hx=>by
  rcases Co7 x hx with hx|rfl
  ·exact h.ixw _ (Aq5 (h.isi _)) x hx
  ·exact hp
 unfold Sto.list;refine{h1 with dv:=h1.dv,pl:=?_};have:=h.pl;simp only;split
 ·rw[Dr4];simp;omega
 ·omega
end
structure Mv(s s':Sto):Prop where
 rs:s'.rs=s.rs
 ob:s'.op.map Reg.b=s.op.map Reg.b
 ss:s'.ss=s.ss
 pend:s'.pend=s.pend
 epoch:s'.epoch=s.epoch
 sc:s'.sc=s.sc
 q:s'.q=s.q
 gh:s'.gh=s.gh
 tk:s'.bk.tokens<=s.bk.tokens
theorem Mv.us{s s':Sto}(h:Mv s s'):s'.us=s.us:=by unfold Sto.us;rw[h.rs,h.ob]
theorem Mv.refl(s:Sto):Mv s s:=⟨rfl,rfl,rfl,rfl,rfl,rfl,rfl,rfl,Du5 _⟩
theorem Mv.trans{a b c:Sto}(h:Mv a b)(k:Mv b c):Mv a c:=⟨k.rs.trans h.rs,k.ob.trans h.ob,k.ss.trans h.ss,k.pend.trans h.pend,k.epoch.trans h.epoch,k.sc.trans h.sc,k.q.trans h.q,k.gh.trans h.gh,D21 k.tk h.tk⟩
theorem Df1(b:Bk)(n:Int):(Af0 b n).tokens<=b.tokens:=by
 unfold Af0;split
 ·rename_i h;simp only;omega
 ·exact Du5 _
theorem Mv.write(s:Sto)(kind:Int)(l:List (List UInt8)):Mv s (s.write kind l).1:=by
 unfold Sto.write;split
 ·exact .refl s
 ·rename_i o ho;dsimp only;have ht:=Df1 s.bk (s.cost l.length);split
  ·exact⟨rfl,rfl,rfl,rfl,rfl,rfl,rfl,rfl,ht⟩
  ·exact⟨rfl,by rw[ho];rfl,rfl,rfl,rfl,rfl,rfl,rfl,ht⟩
theorem B17{s:Sto}{M:Nat}(h:SOk s M)(kind:Int)(l:List (List UInt8)):S0 .i64 (s.write kind l).2.1.2.1:=by
 unfold Sto.write;split
 ·exact Bd3 (by simp)
 ·rename_i o ho;have:=(h.op o ho);dsimp only;split<;>exact Bd3 (by simp only;omega)
theorem SOk.ixmove{s:Sto}{M:Nat}(h:SOk s M)(k:Nat)(p q:It)(hq:S0 .i64 q.2.1):SOk {s with ix:=Aq7 s.ix k p q} M:=by
 have hg:=(C48 h.ixi h.wy.1 4 (h.isi k) p q);have e:iact s.sc.ways s.ix 4 k p q=Aq7 s.ix k p q:=by unfold iact;simp
 rw[e]at hg;refine{h with dv:=h.dv,ixi:=hg.1,ixl:=by rw[hg.2];exact h.ixl,ixw:=?_};intro r hr x hx;unfold Aq7 at hr;split at hr
 ·exact h.ixw r hr x hx
 ·rcases Ak1 hr with hr|rfl
  ·exact h.ixw r hr x hx
  ·rcases Dr5.1 hx with hx|hx
   ·exact h.ixw _ (Aq5 (h.isi k)) x (Ae3 _ _ x (Ae3 _ _ x hx))
   ·rw[Dr2.1 hx];exact hq
theorem SOk.move{s:Sto}{M:Nat}(h:SOk s M)(hd:s.down=false)(p:It)(n beside:Int):SOk (s.move p n beside).1 M/\((s.move p n beside).2=0->(s.move p n beside).1.down=false)/\Mv s (s.move p n beside).1:=by
 unfold Sto.move;dsimp only;split
 ·exact⟨h,fun _=>hd,.refl s⟩
 ·split
  ·exact⟨h.ixdrop _ _,fun _=>hd,rfl,rfl,rfl,rfl,rfl,rfl,rfl,rfl,Du5 _⟩
  ·split
   ·exact⟨h,fun _=>hd,.refl s⟩
   ·have hw:=h.write hd 2 (J5 (A9 s.d p).1 (A9 s.d p).2.1 (J8 s.sc.c)).1;have hm:=Mv.write s 2 (J5 (A9 s.d p).1 (A9 s.d p).2.1 (J8 s.sc.c)).1;have hq:=B17 h 2 (J5 (A9 s.d p).1 (A9 s.d p).2.1 (J8 s.sc.c)).1;generalize s.write 2 (J5 (A9 s.d p).1 (A9 s.d p).2.1 (J8 s.sc.c)).1=w at hw hm hq;split
    ·rename_i h0;exact⟨hw.1.ixmove _ _ _ hq,fun _=>hw.2 h0,hm.rs,hm.ob,hm.ss,hm.pend,hm.epoch,hm.sc,hm.q,hm.gh,hm.tk⟩
    ·rename_i h0;exact⟨hw.1,fun he=>absurd he h0,hm⟩
theorem SOk.moves{b ep beside:Int}: ∀(l:List It) {s:Sto} {M:Nat},SOk s M->s.down=false->SOk (Sto.moves b ep beside l s).1 M/\((Sto.moves b ep beside l s).2=0->(Sto.moves b ep beside l s).1.down=false)/\Mv s (Sto.moves b ep beside l s).1
 |[],s,M,h,hd=>⟨h,fun _=>hd,.refl s⟩
 |x::r,s,M,h,hd=>by
  unfold Sto.moves;split
  ·exact SOk.moves r h hd
  ·have h1:=h.move hd (b,x.2.1,ep,()) x.2.2.1 beside;dsimp only;generalize s.move (b,x.2.1,ep,()) x.2.2.1 beside=w at h1;split
   ·rename_i h0;exact⟨h1.1,fun he=>absurd he h0,h1.2.2⟩
   ·rename_i h0;have h0:w.2=0:=by simpa using h0
    have h2:=SOk.moves (b:=b) (ep:=ep) (beside:=beside) r h1.1 (h1.2.1 h0);exact⟨h2.1,h2.2.1,h1.2.2.trans h2.2.2⟩
theorem SOk.cutp{s:Sto}{M:Nat}(h:SOk s M)(b:Int):SOk {s with pend:=s.pend.filter fun p=> !decide (p.1=b)} M:=
 {h with dv:=h.dv,pl:=Dt1 (Dz7 ..) h.pl}
theorem SOk.reclaim{s:Sto}{M:Nat}(h:SOk s M)(hd:s.down=false){r:Reg}{t:List Reg}(hr:s.rs=r::t)(beside:Int):
  SOk (s.reclaim r beside).1 M/\((s.reclaim r beside).2=0->(s.reclaim r beside).1.down=false/\(s.reclaim r beside).1.us.length+1=s.us.length/\V0 (s.reclaim r beside).1.ss<=V0 s.ss/\(s.reclaim r beside).1.bk.tokens<=s.bk.tokens/\(s.reclaim r beside).1.op.isSome=s.op.isSome)/\(s.reclaim r beside).1.sc=s.sc:=by
 unfold Sto.reclaim;obtain⟨h1,h2,mv⟩:=SOk.moves (b:=r.b) (ep:=r.ep) (beside:=beside) r.l h hd;dsimp only;generalize Sto.moves r.b r.ep beside r.l s=w at h1 h2 mv;split
 ·rename_i h0;exact⟨h1,fun he=>absurd he h0,mv.sc⟩
 ·rename_i h0;have h0:w.2=0:=by simpa using h0
  have cA:r.b∈w.1.us:=by rw[mv.us];unfold Sto.us;rw[hr];simp
  have bV:=h.use.1;have iH: ∀o,w.1.op=some o->o.b≠r.b:=fun o ho e=>by
   have h3:=mv.ob;rw[ho]at h3;unfold Sto.us at bV;rw[<-h3,hr]at bV;simp[e]at bV
  have hc:=(h1.cutp r.b);have he:=hc.erase (h2 h0) (b:=r.b) iH;obtain⟨s2,aJ⟩: ∃s2:Sto,s2={w.1 with pend:=w.1.pend.filter fun p=> !decide (p.1=r.b)}:=⟨_,rfl⟩;rw[<-aJ]at he⊢;have e1:s2.us=s.us:=by rw[aJ];exact mv.us
  have e2:s2.ss=s.ss:=by rw[aJ];exact mv.ss
  have e3:s2.bk.tokens<=s.bk.tokens:=by rw[aJ];exact mv.tk
  have e4:s2.sc=s.sc:=by rw[aJ];exact mv.sc
  have e5:s2.op.isSome=s.op.isSome:=by
   have h3:=congrArg Option.isSome mv.ob;rw[D44,D44]at h3;rw[aJ];exact h3
  obtain⟨g1,g2,g3,g4,g5,g6⟩:=he;refine⟨g1,fun hz=>?_,g6.trans e4⟩;obtain⟨k1,k2,k3⟩:=g2 hz;have iB:F5 s2.ss r.b=true:=by rw[e2];exact h.use.2 _ (by rw[<-mv.us];exact cA)
  refine⟨k1,?_,?_,by rw[g4];exact e3,by rw[g3];exact e5⟩
  ·rw[k2,e1];have hm:r.b∈s.us:=by rw[<-mv.us];exact cA
   have h4:iwo s.us r.b=s.us.erase r.b:=by
    unfold iwo;rw[List.Nodup.erase_eq_filter bV];refine Ec9 fun x _=>?_;by_cases e:x=r.b<;>simp[e]
   rw[h4,Ef8 hm];have:=Eg5 hm;omega
  ·rw[k3,Dq5 iB];have:=Bc2 iB (R5 (decide ((E7 s2.d r.b).1=10))) (bad:=decide ((E7 s2.d r.b).1=10)) fun s _=>rfl;rw[<-e2];split at this<;>omega
theorem Aa7{ss:List BS}{us:List Int}(h:A65 ss us≠0):N6 ss us (E2 ss us).2.2=true/\(E2 ss us).2.1=bat ss (E2 ss us).2.2:=by
 obtain⟨h1,h2,-⟩:=Bb9 ss us;cases hp:(E2 ss us).1 with
 |false=>
  refine absurd ?_ h;rw[Bc3,Aj0 (r:=fun _=>false) fun i hi=>h1 hp i hi,Bk3];rfl
 |true=>exact⟨(h2 hp).1,(h2 hp).2.1⟩
theorem A64{ss:List BS}{us:List Int}{b:Int}(h:N6 ss us b=true)(hd:(bat ss b).dirty=false):Ag4 ss us b=true:=by
 obtain⟨h1,h2⟩:=D8 h;obtain⟨h3,h4,h5⟩:=K5 h1;unfold Ag4;rw[h,Dr9 h4];unfold bat at hd;rw[Dr9 h4]at hd;simp at hd;simp[hd]
def Sto.mu2(s:Sto):Nat:=s.bk.tokens.toNat*1000+V0 s.ss*20+s.us.length
structure Lk(s s':Sto):Prop where
 dn:s'.down=false
 us:s'.us.length<=s.us.length
 gd:V0 s'.ss<=V0 s.ss
 tk:s'.bk.tokens<=s.bk.tokens
theorem Lk.trans{a b c:Sto}(h:Lk a b)(k:Lk b c):Lk a c:=⟨k.dn,Dt1 k.us h.us,Dt1 k.gd h.gd,D21 k.tk h.tk⟩
theorem SOk.frees{n:Int}: ∀(k:Nat) {s:Sto} {M:Nat},SOk s M->s.down=false->SOk (Sto.frees n k s).1 M/\((Sto.frees n k s).2=0->Lk s (Sto.frees n k s).1)/\(Sto.frees n k s).1.sc=s.sc
 |0,s,M,h,hd=>⟨h,fun _=>⟨hd,Dq6 _,Dq6 _,Du5 _⟩,rfl⟩
 |k+1,s,M,h,hd=>by
  unfold Sto.frees;split
  ·split
   ·exact⟨h,fun _=>⟨hd,Dq6 _,Dq6 _,Du5 _⟩,rfl⟩
   ·rename_i r t hr;obtain⟨h1,h2,h3⟩:=h.reclaim hd hr n;dsimp only;split
    ·rename_i h0;exact⟨h1,fun he=>absurd he h0,h3⟩
    ·rename_i h0;obtain⟨a1,a2,a3,a4,a5⟩:=h2 (by simpa using h0);obtain⟨b1,b2,b3⟩:=SOk.frees (n:=n) k h1 a1;exact⟨b1,fun he=>Lk.trans ⟨a1,by omega,a3,a4⟩ (b2 he),b3.trans h3⟩
  ·exact⟨h,fun _=>⟨hd,Dq6 _,Dq6 _,Du5 _⟩,rfl⟩
theorem Cf4{b:Bk}{n:Int}(h0:0<=n)(h:n<=b.tokens):(Af0 b n).tokens=b.tokens-n:=by unfold Af0;rw[Dq5 ⟨h0,h⟩]
theorem SOk.picks{s:Sto}{M:Nat}(h:SOk s M)(hd:s.down=false)(bM:s.op=none)(hf:s.free≠0):
  ∃z:Sto×Int,z=(if(E2 s.ss s.us).2.1.dirty then s.erase (E2 s.ss s.us).2.2 else(s,0))/\SOk z.1 M/\z.1.op=none/\z.1.bk=s.bk/\z.1.epoch=s.epoch/\z.1.sc=s.sc/\(z.2=0->z.1.down=false/\z.1.us=s.us/\V0 z.1.ss<=V0 s.ss/\
   ((E2 s.ss s.us).2.1.dirty=true/\z.1.badAt (E2 s.ss s.us).2.2=true->V0 z.1.ss+1=V0 s.ss)/\
   (¬((E2 s.ss s.us).2.1.dirty=true/\z.1.badAt (E2 s.ss s.us).2.2=true)->N6 z.1.ss z.1.us (E2 s.ss s.us).2.2=true/\Ag4 z.1.ss z.1.us (E2 s.ss s.us).2.2=true)):=by
 refine⟨_,rfl,?_⟩;obtain⟨p1,p2⟩:=Aa7 hf;obtain⟨q1,q2⟩:=D8 p1;obtain⟨q3,q4,q5⟩:=K5 q1;rw[p2];generalize (E2 s.ss s.us).2.2=b at p1 q1 q2 q3 q4 q5;cases dK:(bat s.ss b).dirty with
 |false=>
  rw[Dq4 (by decide)];refine⟨h,bM,rfl,rfl,rfl,fun _=>⟨hd,rfl,Dq6 _,fun hh=>absurd hh.1 (by decide),fun _=>⟨p1,A64 p1 dK⟩⟩⟩
 |true=>
  rw[Dq5 rfl];have he:=h.erase hd (b:=b) (fun o ho=>by rw[bM]at ho;cases ho);obtain⟨e1,e2,e3,e4,e5,e6⟩:=he;refine⟨e1,e3.trans bM,e4,e5,e6,fun h0=>?_⟩;obtain⟨a1,a2,a3⟩:=e2 h0;rw[Dq5 q1]at a3;have cA:(s.erase b).1.us=s.us:=by
   rw[a2];unfold iwo;rw[Dz9];intro y hy;have:y≠b:=fun e=>q2 (e▸hy);simp[this]
  have hN:=Bc2 q1 (R5 (decide ((E7 s.d b).1=10))) (bad:=decide ((E7 s.d b).1=10)) fun s _=>rfl;rw[<-a3]at hN;have fF:(s.erase b).1.ss[b.toNat]?=some (R5 (decide ((E7 s.d b).1=10)) s.ss[b.toNat]):=by
   rw[a3];unfold Ad4;rw[Dy7,Dr9 q4];simp
  have dD:b.toNat<(s.erase b).1.d.bs.length:=by
   rw[<-e1.ssl];exact(Dw0.1 fF).1
  obtain⟨x,hx,hxw,mM⟩:=e1.ssd a1 b.toNat _ (Dr9 dD);rw[fF]at hx;obtain rfl:=Dq9 hx;have bG:(s.erase b).1.badAt b=decide ((E7 s.d b).1=10):=by
   unfold Sto.badAt;rw[Dr9 dD];exact mM.symm
  refine⟨a1,cA,by split at hN<;>omega,fun hh=>?_,fun hh=>?_⟩
  ·rw[bG]at hh;rw[Dq5 hh.2]at hN;omega
  ·have qB:decide ((E7 s.d b).1=10)=false:=by
    rw[bG]at hh;simpa using hh
   rw[qB]at fF;have hg:F5 (s.erase b).1.ss b=true:=by
    unfold F5;rw[fF];simp[q3,R5]
   have bQ:N6 (s.erase b).1.ss (s.erase b).1.us b=true:=by
    unfold N6;rw[hg,cA];simp[q2]
   refine⟨bQ,A64 bQ ?_⟩;unfold bat;rw[fF];rfl
theorem SOk.more{s:Sto}{M:Nat}(h:SOk s M)(hd:s.down=false){n:Int}(hn:0<=n):SOk (s.more n).1 M/\((s.more n).2=0->(s.more n).1.down=false/\(s.more n).1.mu2<s.mu2)/\(s.more n).1.sc=s.sc:=by
 unfold Sto.more;have hS:=h.S;have hb:=h.bk;split
 ·exact⟨h,fun he=>absurd (show(13:Int)=0 from he) (by decide),rfl⟩
 rename_i bE;have bE:s.bk.tokens≥(n+1+s.sealN)*(s.sc.c.S:Int):=by
  unfold Sto.pays Sto.cost at bE;simpa using bE
 split
 ·exact⟨h,fun he=>absurd (show(7:Int)=0 from he) (by decide),rfl⟩
 rename_i bX;split
 ·split
  ·exact⟨h,fun he=>absurd (show(7:Int)=0 from he) (by decide),rfl⟩
  ·rename_i r t hr;obtain⟨h1,h2,h3⟩:=h.reclaim hd hr n;refine⟨h1,fun he=>?_,h3⟩;obtain⟨a1,a2,a3,a4,a5⟩:=h2 he;refine⟨a1,?_⟩;unfold Sto.mu2;have:=h1.bk.t0;omega
 rename_i bB;obtain⟨s1,s2,s3,s4,s5,s6,s7⟩:=h.seals hd;have bW:s.seals.2=0->s.seals.1.bk.tokens=s.bk.tokens-s.sealN*(s.sc.c.S:Int):=fun h0=>by
  unfold Sto.seals at h0⊢;unfold Sto.sealN at bE⊢;cases ho:s.op with
  |none=>simp
  |some o=>
   rw[ho]at h0 bE;simp only at h0⊢;have hc:s.cost 1=(s.sc.c.S:Int):=by unfold Sto.cost;omega
   have h5:(s.sc.c.S:Int)<=s.bk.tokens:=by
    have:(n+1+1)*(s.sc.c.S:Int)≥1*(s.sc.c.S:Int):=D08 (by omega) (by omega);simp only at bE;omega
   have:=Cf4 (b:=s.bk) (n:=(s.sc.c.S:Int)) (by omega) h5;show(Af0 s.bk (s.cost 1)).tokens=_;rw[hc,this];simp
 dsimp only;generalize s.seals=w at s1 s2 s3 s4 s5 s6 s7 bW;split
 ·rename_i h0;exact⟨s1,fun he=>absurd he h0,s7⟩
 rename_i h0;have h0:w.2=0:=by simpa using h0
 have bQ:w.1.free≠0:=by
  unfold Sto.free at bB⊢;rw[s5,s4];exact bB
 have bW:=bW h0;obtain⟨z,hz,z1,z2,z3,z4,z5,z6⟩:=s1.picks (s2 h0) s3 bQ;rw[<-hz];clear hz;generalize E2 w.1.ss w.1.us=pk at z6;split
 ·rename_i cY;exact⟨z1,fun he=>absurd he cY,z5.trans s7⟩
 rename_i cY;obtain⟨y1,y2,y3,y4,y5⟩:=z6 (by simpa using cY);have eE:V0 z.1.ss<=V0 s.ss:=by rw[s5]at y3;exact y3
 have hu1:z.1.us.length=s.us.length:=by rw[y2,s4]
 have bT:0<=s.sealN*(s.sc.c.S:Int):=Dx8 (by unfold Sto.sealN;split<;>decide) (by omega);have bc:z.1.bk.tokens<=s.bk.tokens:=by rw[z3,bW];omega
 have ht0:=z1.bk.t0;split
 ·rename_i cO;have gX:=y4 cO;rw[s5]at gX;refine⟨z1,fun _=>⟨y1,?_⟩,z5.trans s7⟩;show z.1.mu2<s.mu2;unfold Sto.mu2;omega
 rename_i cO;obtain⟨f1,f2⟩:=y5 cO;have jZ:z.1.epoch<1073741824:=by rw[z4,s6];omega
 obtain⟨b1,b2⟩:=z1.begins y1 z2 jZ f1;have qS:(z.1.begins pk.2.2).1.sc=z.1.sc:=by unfold Sto.begins;dsimp only;split<;>rfl
 have vC:(z.1.begins pk.2.2).1.ss=z.1.ss:=by unfold Sto.begins;dsimp only;split<;>rfl
 have zM:(z.1.begins pk.2.2).1.bk.tokens=z.1.bk.tokens-(s.sc.c.S:Int):=by
  have hc:z.1.cost 1=(s.sc.c.S:Int):=by unfold Sto.cost;rw[z5,s7];omega
  have h5:(s.sc.c.S:Int)<=z.1.bk.tokens:=by
   rw[z3,bW];rw[Dw3,Dw3]at bE;have:0<=n*(s.sc.c.S:Int):=Dx8 hn (by omega);omega
  have:=Cf4 (b:=z.1.bk) (n:=(s.sc.c.S:Int)) (by omega) h5;rw[<-hc]at this;have e:(z.1.begins pk.2.2).1.bk=Af0 z.1.bk (z.1.cost 1):=by unfold Sto.begins;dsimp only;split<;>rfl
  rw[e,this,hc]
 generalize z.1.begins pk.2.2=y at b1 b2 qS vC zM;split
 ·rename_i dY;exact⟨b1,fun he=>absurd he dY,qS.trans (z5.trans s7)⟩
 rename_i dY;obtain⟨c1,c2⟩:=b2 (by simpa using dY);obtain⟨d1,d2,d3⟩:=SOk.frees (n:=n) (y.1.rs.length+1) b1 c1;refine⟨d1,fun he=>?_,d3.trans (qS.trans (z5.trans s7))⟩;have hl:=d2 he;refine⟨hl.dn,?_⟩;unfold Sto.mu2;have l1:=hl.us;have l2:=hl.gd;have l3:=hl.tk;have l4:=d1.bk.t0;rw[c2,Dr4]at l1;rw[vC]at l2;simp at l1;omega
theorem M3(n:Int)(k:Nat)(s:Sto):Sto.room n (k+1) s=if s.fits n=true then(if s.pays n=true then(s,0)else(s,13))else if(s.more n).2≠0 then s.more n else Sto.room n k (s.more n).1:=rfl
theorem Bn6{n:Int}(hn:0<=n)(k:Nat): ∀{s:Sto} {M:Nat},SOk s M->s.down=false->s.mu2<k->Sto.room n k s=Sto.room n (s.mu2+1) s:=by
 induction k using Nat.strongRecOn with
 |ind k ih=>
  intro s M h hd hk;obtain⟨j,rfl⟩: ∃j,k=j+1:=⟨k-1,by omega⟩;rw[M3 n j s,M3 n s.mu2 s];by_cases hf:s.fits n=true
  ·rw[Dq5 hf,Dq5 hf]
  ·rw[Dq4 hf,Dq4 hf];by_cases h0:(s.more n).2≠0
   ·rw[Dq5 h0,Dq5 h0]
   ·rw[Dq4 h0,Dq4 h0];obtain⟨h1,h2,-⟩:=h.more hd hn;obtain⟨a1,a2⟩:=h2 (by simpa using h0);rw[ih j (by omega) h1 a1 (by omega),ih s.mu2 (by omega) h1 a1 a2]
theorem mu_le(s:Sto):s.mu2<=s.mu:=by
 unfold Sto.mu2 Sto.mu;have:V0 s.ss<=s.ss.length:=Dd6 _ _;omega
theorem Cz7{n:Int}(hn:0<=n){s:Sto}{M:Nat}(h:SOk s M)(hd:s.down=false):s.roomy n=Sto.room n (s.mu2+1) s:=Bn6 hn _ h hd (by have:=mu_le s;omega)
theorem SOk.room{n:Int}(hn:0<=n): ∀(k:Nat) {s:Sto} {M:Nat},SOk s M->s.down=false->SOk (Sto.room n k s).1 M/\((Sto.room n k s).2=0->(Sto.room n k s).1.down=false/\(Sto.room n k s).1.fits n=true)/\(Sto.room n k s).1.sc=s.sc
 |0,s,M,h,hd=>⟨h,fun he=>absurd (show(13:Int)=0 from he) (by decide),rfl⟩
 |k+1,s,M,h,hd=>by
  unfold Sto.room;split
  ·rename_i hf;split
   ·exact⟨h,fun _=>⟨hd,hf⟩,rfl⟩
   ·exact⟨h,fun he=>absurd (show(13:Int)=0 from he) (by decide),rfl⟩
  ·dsimp only;obtain⟨h1,h2,h3⟩:=h.more hd hn;split
   ·rename_i h0;exact⟨h1,fun he=>absurd he h0,h3⟩
   ·rename_i h0;obtain⟨b1,b2,b3⟩:=SOk.room hn k h1 (h2 (by simpa using h0)).1;exact⟨b1,b2,b3.trans h3⟩
theorem n11{e:Int}(h: ¬e≠0):e≠11:=fun h2=>h (by rw[h2];decide)
theorem Cm3(s:Sto){e:Int}(h:e≠11):(s.met e).down=s.down:=by unfold Sto.met;simp[h]
theorem Ax6(s:Sto)(kind:Int)(l:List (List UInt8))(h:(s.write kind l).2.2≠11):(s.write kind l).1.down=s.down:=by
 unfold Sto.write at h⊢;split
 ·rfl
 ·rename_i o ho;rw[ho]at h;dsimp only at h⊢;split
  ·rename_i h0;rw[Dq5 h0]at h;exact Cm3 _ h
  ·rfl
theorem B34(s:Sto)(h:s.seals.2≠11):s.seals.1.down=s.down:=by
 unfold Sto.seals at h⊢;split
 ·rfl
 ·rename_i o ho;rw[ho]at h;exact Cm3 _ h
theorem Bu7(s:Sto)(b:Int)(h:(s.begins b).2≠11):(s.begins b).1.down=s.down:=by
 unfold Sto.begins at h⊢;dsimp only at h⊢;split
 ·rename_i h0;rw[Dq5 h0]at h;exact Cm3 _ h
 ·rfl
theorem B72(s:Sto)(b:Int)(h:(s.erase b).2≠11):(s.erase b).1.down=s.down:=by
 unfold Sto.erase at h⊢;dsimp only at h⊢;split
 ·rename_i h0;rw[Dq5 h0]at h;exact absurd rfl h
 ·rfl
theorem Cl6(s:Sto)(p:It)(n beside:Int)(h:(s.move p n beside).2≠11):(s.move p n beside).1.down=s.down:=by
 unfold Sto.move at h⊢;dsimp only at h⊢;split
 ·rfl
 ·rename_i h1;rw[Dq4 h1]at h;split
  ·rfl
  ·rename_i h2;rw[Dq4 h2]at h;split
   ·rfl
   ·rename_i h3;rw[Dq4 h3]at h;split
    ·rename_i h4;exact Ax6 s _ _ (by rw[h4];decide)
    ·rename_i h4;rw[Dq4 h4]at h;exact Ax6 s _ _ h
theorem Ay4(b ep beside:Int): ∀(l:List It) (s:Sto),(Sto.moves b ep beside l s).2≠11->(Sto.moves b ep beside l s).1.down=s.down
 |[],s,_=>rfl
 |x::r,s,h=>by
  unfold Sto.moves at h⊢;split
  ·rename_i hx;rw[Dq5 hx]at h;exact Ay4 b ep beside r s h
  ·rename_i hx;rw[Dq4 hx]at h;dsimp only at h⊢;split
   ·rename_i h0;rw[Dq5 h0]at h;exact Cl6 _ _ _ _ h
   ·rename_i h0;rw[Dq4 h0]at h;rw[Ay4 b ep beside r _ h];exact Cl6 _ _ _ _ (n11 h0)
theorem At1(s:Sto)(r:Reg)(beside:Int)(h:(s.reclaim r beside).2≠11):(s.reclaim r beside).1.down=s.down:=by
 unfold Sto.reclaim at h⊢;dsimp only at h⊢;split
 ·rename_i h0;rw[Dq5 h0]at h;exact Ay4 _ _ _ _ _ h
 ·rename_i h0;rw[Dq4 h0]at h;rw[B72 _ _ h];exact Ay4 _ _ _ _ _ (n11 h0)
theorem B65(n:Int): ∀(k:Nat) (s:Sto),(Sto.frees n k s).2≠11->(Sto.frees n k s).1.down=s.down
 |0,s,_=>rfl
 |k+1,s,h=>by
  unfold Sto.frees at h⊢;split
  ·rename_i hf;rw[Dq5 hf]at h;cases hr:s.rs with
   |nil=>rfl
   |cons r t=>
    rw[hr]at h;dsimp only at h⊢;split
    ·rename_i h0;rw[Dq5 h0]at h;exact At1 _ _ _ h
    ·rename_i h0;rw[Dq4 h0]at h;rw[B65 n k _ h];exact At1 _ _ _ (n11 h0)
  ·rfl
theorem Cl8(s:Sto)(n:Int)(h:(s.more n).2≠11):(s.more n).1.down=s.down:=by
 unfold Sto.more at h⊢;split
 ·rfl
 ·rename_i h1;rw[Dq4 h1]at h;split
  ·rfl
  ·rename_i h2;rw[Dq4 h2]at h;split
   ·rename_i h3;rw[Dq5 h3]at h;cases hr:s.rs with
    |nil=>rfl
    |cons r t=>
     rw[hr]at h;exact At1 _ _ _ h
   ·rename_i h3;rw[Dq4 h3]at h;dsimp only at h⊢;split
    ·rename_i h4;rw[Dq5 h4]at h;exact B34 _ h
    ·rename_i h4;rw[Dq4 h4]at h;have e0:=B34 s (n11 h4);generalize s.seals=w at h e0;have ez: ∀z:Sto×Int,z=(if(E2 w.1.ss w.1.us).2.1.dirty=true then w.1.erase (E2 w.1.ss w.1.us).2.2 else(w.1,0))->z.2≠11->z.1.down=s.down:=fun z hz hn=>by
      subst hz;split
      ·rename_i hd;rw[Dq5 hd]at hn;rw[B72 _ _ hn];exact e0
      ·exact e0
     have ez:=ez _ rfl;generalize (if(E2 w.1.ss w.1.us).2.1.dirty=true then w.1.erase (E2 w.1.ss w.1.us).2.2 else(w.1,0))=z at h ez;split
     ·rename_i h5;rw[Dq5 h5]at h;exact ez h
     ·rename_i h5;rw[Dq4 h5]at h;have ez:=ez (n11 h5);split
      ·exact ez
      ·rename_i h6;rw[Dq4 h6]at h;split
       ·rename_i h7;rw[Dq5 h7]at h;rw[Bu7 _ _ h];exact ez
       ·rename_i h7;rw[Dq4 h7]at h;rw[B65 _ _ _ h,Bu7 _ _ (n11 h7)];exact ez
theorem Be1(n:Int): ∀(k:Nat) (s:Sto),(Sto.room n k s).2≠11->(Sto.room n k s).1.down=s.down
 |0,s,_=>rfl
 |k+1,s,h=>by
  rw[M3]at h⊢;split
  ·split<;>rfl
  ·rename_i hf;rw[Dq4 hf]at h;split
   ·rename_i h0;rw[Dq5 h0]at h;exact Cl8 _ _ h
   ·rename_i h0;rw[Dq4 h0]at h;rw[Be1 n k _ h];exact Cl8 _ _ (n11 h0)
theorem Dl2(s:Sto)(key:ByteArray)(p:It):(s.list key p).down=s.down:=rfl
theorem R4(s:Sto)(key:ByteArray)(val:List UInt8)(h:(s.adm key val).2≠11):(s.adm key val).1.down=s.down:=by
 unfold Sto.adm at h⊢;dsimp only at h⊢;split
 ·rfl
 ·rename_i h1;rw[Dq4 h1]at h;split
  ·rename_i h2;rw[Dq5 h2]at h;exact Be1 _ _ _ h
  ·rename_i h2;rw[Dq4 h2]at h;have er:=Be1 _ _ _ (n11 h2);split
   ·rename_i h3;rw[Dl2,Ax6 _ _ _ (by rw[h3];decide)];exact er
   ·rename_i h3;rw[Dq4 h3]at h;rw[Ax6 _ _ _ h];exact er
def Qk(s s':Sto):Prop:=s'.q=s.q/\s'.gh=s.gh/\s'.sc=s.sc
theorem Qk.refl(s:Sto):Qk s s:=⟨rfl,rfl,rfl⟩
theorem Qk.trans{a b c:Sto}(h:Qk a b)(k:Qk b c):Qk a c:=⟨k.1.trans h.1,k.2.1.trans h.2.1,k.2.2.trans h.2.2⟩
theorem Am6(s:Sto)(kind:Int)(l:List (List UInt8)):Qk s (s.write kind l).1:=by
 unfold Sto.write;split
 ·exact .refl s
 ·dsimp only;split<;>exact⟨rfl,rfl,rfl⟩
theorem Dg4(s:Sto):Qk s s.seals.1:=by
 unfold Sto.seals;split<;>exact⟨rfl,rfl,rfl⟩
theorem Bk2(s:Sto)(b:Int):Qk s (s.begins b).1:=by
 unfold Sto.begins;dsimp only;split<;>exact⟨rfl,rfl,rfl⟩
theorem Bi8(s:Sto)(b:Int):Qk s (s.erase b).1:=by
 unfold Sto.erase;dsimp only;split<;>exact⟨rfl,rfl,rfl⟩
theorem Db7(s:Sto)(p:It)(n beside:Int):Qk s (s.move p n beside).1:=by
 unfold Sto.move;dsimp only;split
 ·exact .refl s
 ·split
  ·exact⟨rfl,rfl,rfl⟩
  ·split
   ·exact .refl s
   ·have:=Am6 s 2 (J5 (A9 s.d p).1 (A9 s.d p).2.1 (J8 s.sc.c)).1;split
    ·exact⟨this.1,this.2.1,this.2.2⟩
    ·exact this
theorem By5(b ep beside:Int): ∀(l:List It) (s:Sto),Qk s (Sto.moves b ep beside l s).1
 |[],s=>.refl s
 |x::r,s=>by
  unfold Sto.moves;split
  ·exact By5 b ep beside r s
  ·dsimp only;split
   ·exact Db7 ..
   ·exact(Db7 s _ _ _).trans (By5 b ep beside r _)
theorem A16(s:Sto)(r:Reg)(beside:Int):Qk s (s.reclaim r beside).1:=by
 unfold Sto.reclaim;dsimp only;have h1:=By5 r.b r.ep beside r.l s;split
 ·exact h1
 ·have h2:=Bi8 {(Sto.moves r.b r.ep beside r.l s).1 with pend:=(Sto.moves r.b r.ep beside r.l s).1.pend.filter fun p=> !decide (p.1=r.b)} r.b;exact h1.trans ⟨h2.1,h2.2.1,h2.2.2⟩
theorem Cq4(n:Int): ∀(k:Nat) (s:Sto),Qk s (Sto.frees n k s).1
 |0,s=>.refl s
 |k+1,s=>by
  unfold Sto.frees;split
  ·split
   ·exact .refl s
   ·dsimp only;split
    ·exact A16 ..
    ·exact(A16 s _ n).trans (Cq4 n k _)
  ·exact .refl s
theorem Db9(s:Sto)(n:Int):Qk s (s.more n).1:=by
 unfold Sto.more;split
 ·exact .refl s
 ·split
  ·exact .refl s
  ·split
   ·split
    ·exact .refl s
    ·exact A16 ..
   ·dsimp only;have h1:=Dg4 s;generalize s.seals=w at h1;split
    ·exact h1
    ·have h2:Qk s (if(E2 w.1.ss w.1.us).2.1.dirty=true then w.1.erase (E2 w.1.ss w.1.us).2.2 else(w.1,0)).1:=by
      split
      ·exact h1.trans (Bi8 ..)
      ·exact h1
     generalize (if(E2 w.1.ss w.1.us).2.1.dirty=true then w.1.erase (E2 w.1.ss w.1.us).2.2 else(w.1,0))=z at h2;split
     ·exact h2
     ·split
      ·exact h2
      ·have h3:=h2.trans (Bk2 z.1 (E2 w.1.ss w.1.us).2.2);split
       ·exact h3
       ·exact h3.trans (Cq4 ..)
theorem A13(n:Int): ∀(k:Nat) (s:Sto),Qk s (Sto.room n k s).1
 |0,s=>.refl s
 |k+1,s=>by
  rw[M3];split
  ·split<;>exact .refl s
  ·split
   ·exact Db9 ..
   ·exact(Db9 s n).trans (A13 n k _)
theorem Ad2(s:Sto)(key:ByteArray)(val:List UInt8):Qk s (s.adm key val).1:=by
 unfold Sto.adm;dsimp only;split
 ·exact .refl s
 ·have h1:Qk s (s.roomy (J5 key.data.toList val (J8 s.sc.c)).1.length).1:=A13 ..;split
  ·exact h1
  ·have h2:=h1.trans (Am6 (s.roomy (J5 key.data.toList val (J8 s.sc.c)).1.length).1 2 (J5 key.data.toList val (J8 s.sc.c)).1);split
   ·exact⟨h2.1,h2.2.1,h2.2.2⟩
   ·exact h2
theorem Bc8(s:Sto)(kind:Int)(l:List (List UInt8)):(s.write kind l).1.sc=s.sc:=(Mv.write s kind l).sc
theorem SOk.roomy{s:Sto}{M:Nat}(h:SOk s M)(hd:s.down=false){n:Int}(hn:0<=n):SOk (s.roomy n).1 M/\((s.roomy n).2=0->(s.roomy n).1.down=false/\(s.roomy n).1.fits n=true)/\(s.roomy n).1.sc=s.sc:=SOk.room hn _ h hd
theorem SOk.adm{s:Sto}{M:Nat}(h:SOk s M)(hd:s.down=false)(key:ByteArray)(val:List UInt8):SOk (s.adm key val).1 (M+1)/\(s.adm key val).1.sc=s.sc:=by
 unfold Sto.adm;dsimp only;split
 ·exact⟨h.upto (by omega),rfl⟩
 ·obtain⟨h1,h2,h3⟩:=h.roomy hd (n:=((J5 key.data.toList val (J8 s.sc.c)).1.length:Int)) (by omega);generalize s.roomy (J5 key.data.toList val (J8 s.sc.c)).1.length=w at h1 h2 h3;split
  ·exact⟨h1.upto (by omega),h3⟩
  ·rename_i h0;obtain⟨a1,a2⟩:=h2 (by simpa using h0);obtain⟨b1,b2⟩:=h1.write a1 2 (J5 key.data.toList val (J8 s.sc.c)).1;have hq:=B17 h1 2 (J5 key.data.toList val (J8 s.sc.c)).1;have hs:=Bc8 w.1 2 (J5 key.data.toList val (J8 s.sc.c)).1;generalize w.1.write 2 (J5 key.data.toList val (J8 s.sc.c)).1=z at b1 b2 hq hs;split
   ·exact⟨b1.list key z.2.1 hq,hs.trans h3⟩
   ·exact⟨b1.upto (by omega),hs.trans h3⟩
theorem A61(l:List QD)(k:ByteArray): ∀e∈P1 l k,e∈l:=fun e he=>(D43 ..).subset he
theorem P5(l:List QD)(k:ByteArray):(P1 l k).length<=l.length:=(D43 ..).length_le
theorem SOk.setq{s:Sto}{M:Nat}(h:SOk s M){q:List QD}(h1: ∀e∈q,1<=e.1.size/\e.1.size<=255/\e.2.1.length<=65536)(h2:q.length<=66000):SOk {s with q:=q} M:={h with dv:=h.dv,qs:=h1,ql:=h2}
theorem SOk.setgh{s:Sto}{M:Nat}(h:SOk s M){gh:List Int}(h1:(gh.length:Int)<=s.sc.ghost):SOk {s with gh:=gh} M:={h with dv:=h.dv,gl:=h1}
theorem SOk.forget{s:Sto}{M:Nat}(h:SOk s M)(key:ByteArray):SOk (s.forget key).1 (M+1)/\(s.forget key).1.down=s.down/\(s.forget key).1.sc=s.sc/\(s.forget key).1.q=P1 s.q key/\(s.forget key).1.gh=s.gh:=by
 have h1:SOk {s with q:=P1 s.q key} M:=h.setq (fun e he=>h.qs e (A61 _ _ e he)) (Dt1 (P5 _ _) h.ql);unfold Sto.forget;dsimp only;split
 ·exact⟨h1.upto (by omega),rfl,rfl,rfl,rfl⟩
 ·rename_i x hx;refine⟨?_,rfl,rfl,rfl,rfl⟩;have h2:=h1.ixdrop (s.hash key) x;refine{h2 with dv:=h2.dv,pl:=?_};have:=h.pl;show(s.pend++[x]).length<=M+1;rw[Dr4];simp;omega
theorem Aa5{room:Int}{l:List Int}(h0:0<=room)(h:(l.length:Int)<=room)(x:Int):((Bh8 room l x).length:Int)<=room:=by
 have h1:(l.erase x).length<=l.length:=D00;unfold Bh8;split
 ·rename_i h2;rw[Ds6,Dr4]at*;simp at*;omega
 ·rename_i h2;omega
theorem SOk.trim: ∀(k:Nat) {s:Sto} {M:Nat},SOk s M->s.down=false->SOk (Sto.trim k s).1 (M+k)/\(Sto.trim k s).1.sc=s.sc/\((Sto.trim k s).2≠11->(Sto.trim k s).1.down=false)
 |0,s,M,h,hd=>⟨h,rfl,fun _=>hd⟩
 |k+1,s,M,h,hd=>by
  unfold Sto.trim;split
  ·cases hq:s.q with
   |nil=>exact⟨h.upto (by omega),rfl,fun _=>hd⟩
   |cons y r=>
    dsimp only;have fS:=h.qs;have eH:=h.ql;rw[hq]at fS eH;have h1:SOk {s with q:=r} M:=h.setq (fun e he=>fS e (Dr6 _ he)) (by simp at eH;omega);have hw:SOk (if y.2.2>0 then({s with q:=r}:Sto).adm y.1 y.2.1 else({s with q:=r},8)).1 (M+1)/\(if y.2.2>0 then({s with q:=r}:Sto).adm y.1 y.2.1 else({s with q:=r},8)).1.sc=s.sc/\((if y.2.2>0 then({s with q:=r}:Sto).adm y.1 y.2.1 else({s with q:=r},8)).2≠11->(if y.2.2>0 then({s with q:=r}:Sto).adm y.1 y.2.1 else({s with q:=r},8)).1.down=false):=by
     split
     ·have ha:=h1.adm hd y.1 y.2.1;exact⟨ha.1,ha.2,fun hn=>(R4 _ _ _ hn).trans hd⟩
     ·exact⟨h1.upto (by omega),rfl,fun _=>hd⟩
    generalize (if y.2.2>0 then({s with q:=r}:Sto).adm y.1 y.2.1 else({s with q:=r},8))=w at hw;obtain⟨w1,w2,w3⟩:=hw;split
    ·rename_i h0;obtain⟨a1,a2,a3⟩:=SOk.trim k w1 (w3 (by rw[h0];decide));exact⟨a1.upto (by omega),a2.trans w2,a3⟩
    ·split
     ·rename_i h11;exact⟨w1.upto (by omega),w2,fun hn=>absurd h11 hn⟩
     ·rename_i h11;have hg:SOk {w.1 with gh:=Bh8 s.sc.ghost w.1.gh (s.hash y.1)} (M+1):=w1.setgh (by rw[w2];exact Aa5 h.gs.1 (by have:=w1.gl;rw[w2]at this;exact this) _);obtain⟨a1,a2,a3⟩:=SOk.trim k hg (w3 h11);exact⟨a1.upto (by omega),a2.trans w2,a3⟩
  ·exact⟨h.upto (by omega),rfl,fun _=>hd⟩
theorem x11{e:Int}(he:e≠11){q:Prop}{x:Int}(h:x=11)(hx:x=e):q:=absurd (hx▸h) he
theorem B49(s:Sto){e:Int}(h:e=11):(s.met e).down=true:=by unfold Sto.met;simp[h]
theorem Bc7(s:Sto)(kind:Int)(l:List (List UInt8))(h:(s.write kind l).2.2=11):(s.write kind l).1.down=true:=by
 unfold Sto.write at h⊢;split
 ·rename_i ho;rw[ho]at h;first|exact x11 (e:=0) (by decide) h rfl|exact x11 (e:=13) (by decide) h rfl|exact x11 (e:=7) (by decide) h rfl|exact x11 (e:=8) (by decide) h rfl
 ·rename_i o ho;rw[ho]at h;dsimp only at h⊢;split
  ·rename_i h0;rw[Dq5 h0]at h;exact B49 _ h
  ·rename_i h0;rw[Dq4 h0]at h;first|exact x11 (e:=0) (by decide) h rfl|exact x11 (e:=13) (by decide) h rfl|exact x11 (e:=7) (by decide) h rfl|exact x11 (e:=8) (by decide) h rfl
theorem Cz0(s:Sto)(h:s.seals.2=11):s.seals.1.down=true:=by
 unfold Sto.seals at h⊢;split
 ·rename_i ho;rw[ho]at h;first|exact x11 (e:=0) (by decide) h rfl|exact x11 (e:=13) (by decide) h rfl|exact x11 (e:=7) (by decide) h rfl|exact x11 (e:=8) (by decide) h rfl
 ·rename_i o ho;rw[ho]at h;exact B49 _ h
theorem Cu1(s:Sto)(b:Int)(h:(s.begins b).2=11):(s.begins b).1.down=true:=by
 unfold Sto.begins at h⊢;dsimp only at h⊢;split
 ·rename_i h0;rw[Dq5 h0]at h;exact B49 _ h
 ·rename_i h0;rw[Dq4 h0]at h;first|exact x11 (e:=0) (by decide) h rfl|exact x11 (e:=13) (by decide) h rfl|exact x11 (e:=7) (by decide) h rfl|exact x11 (e:=8) (by decide) h rfl
theorem B71(s:Sto)(b:Int)(h:(s.erase b).2=11):(s.erase b).1.down=true:=by
 unfold Sto.erase at h⊢;dsimp only at h⊢;split
 ·exact B49 _ rfl
 ·rename_i h0;rw[Dq4 h0]at h;first|exact x11 (e:=0) (by decide) h rfl|exact x11 (e:=13) (by decide) h rfl|exact x11 (e:=7) (by decide) h rfl|exact x11 (e:=8) (by decide) h rfl
theorem Cs9(key val:List UInt8)(c:Cf):(J5 key val c).2≠11:=by
 intro h;unfold J5 at h
 repeat' split at h
 all_goals first|exact x11 (e:=0) (by decide) h rfl|exact x11 (e:=2) (by decide) h rfl|exact x11 (e:=4) (by decide) h rfl|exact x11 (e:=14) (by decide) h rfl
theorem Dk5(s:Sto)(p:It)(n beside:Int)(h:(s.move p n beside).2=11):(s.move p n beside).1.down=true:=by
 unfold Sto.move at h⊢;dsimp only at h⊢;split
 ·rename_i h1;rw[Dq5 h1]at h;first|exact x11 (e:=0) (by decide) h rfl|exact x11 (e:=13) (by decide) h rfl|exact x11 (e:=7) (by decide) h rfl|exact x11 (e:=8) (by decide) h rfl
 ·rename_i h1;rw[Dq4 h1]at h;split
  ·rename_i h2;rw[Dq5 h2]at h;first|exact x11 (e:=0) (by decide) h rfl|exact x11 (e:=13) (by decide) h rfl|exact x11 (e:=7) (by decide) h rfl|exact x11 (e:=8) (by decide) h rfl
  ·rename_i h2;rw[Dq4 h2]at h;split
   ·rename_i h3;rw[Dq5 h3]at h;exact absurd h (Cs9 _ _ _)
   ·rename_i h3;rw[Dq4 h3]at h;split
    ·rename_i h4;rw[Dq5 h4]at h;first|exact x11 (e:=0) (by decide) h rfl|exact x11 (e:=13) (by decide) h rfl|exact x11 (e:=7) (by decide) h rfl|exact x11 (e:=8) (by decide) h rfl
    ·rename_i h4;rw[Dq4 h4]at h;exact Bc7 s _ _ h
theorem Bf5(b ep beside:Int): ∀(l:List It) (s:Sto),(Sto.moves b ep beside l s).2=11->(Sto.moves b ep beside l s).1.down=true
 |[],s,h=>absurd (show(0:Int)=11 from h) (by decide)
 |x::r,s,h=>by
  unfold Sto.moves at h⊢;split
  ·rename_i hx;rw[Dq5 hx]at h;exact Bf5 b ep beside r s h
  ·rename_i hx;rw[Dq4 hx]at h;dsimp only at h⊢;split
   ·rename_i h0;rw[Dq5 h0]at h;exact Dk5 _ _ _ _ h
   ·rename_i h0;rw[Dq4 h0]at h;exact Bf5 b ep beside r _ h
theorem A97(s:Sto)(r:Reg)(beside:Int)(h:(s.reclaim r beside).2=11):(s.reclaim r beside).1.down=true:=by
 unfold Sto.reclaim at h⊢;dsimp only at h⊢;split
 ·rename_i h0;rw[Dq5 h0]at h;exact Bf5 _ _ _ _ _ h
 ·rename_i h0;rw[Dq4 h0]at h;exact B71 _ _ h
theorem B62(n:Int): ∀(k:Nat) (s:Sto),(Sto.frees n k s).2=11->(Sto.frees n k s).1.down=true
 |0,s,h=>absurd (show(0:Int)=11 from h) (by decide)
 |k+1,s,h=>by
  unfold Sto.frees at h⊢;split
  ·rename_i hf;rw[Dq5 hf]at h;cases hr:s.rs with
   |nil=>rw[hr]at h;exact absurd (show(0:Int)=11 from h) (by decide)
   |cons r t=>
    rw[hr]at h;dsimp only at h⊢;split
    ·rename_i h0;rw[Dq5 h0]at h;exact A97 _ _ _ h
    ·rename_i h0;rw[Dq4 h0]at h;exact B62 n k _ h
  ·rename_i hf;rw[Dq4 hf]at h;first|exact x11 (e:=0) (by decide) h rfl|exact x11 (e:=13) (by decide) h rfl|exact x11 (e:=7) (by decide) h rfl|exact x11 (e:=8) (by decide) h rfl
theorem Dk6(s:Sto)(n:Int)(h:(s.more n).2=11):(s.more n).1.down=true:=by
 unfold Sto.more at h⊢;split
 ·rename_i h1;rw[Dq5 h1]at h;first|exact x11 (e:=0) (by decide) h rfl|exact x11 (e:=13) (by decide) h rfl|exact x11 (e:=7) (by decide) h rfl|exact x11 (e:=8) (by decide) h rfl
 ·rename_i h1;rw[Dq4 h1]at h;split
  ·rename_i h2;rw[Dq5 h2]at h;first|exact x11 (e:=0) (by decide) h rfl|exact x11 (e:=13) (by decide) h rfl|exact x11 (e:=7) (by decide) h rfl|exact x11 (e:=8) (by decide) h rfl
  ·rename_i h2;rw[Dq4 h2]at h;split
   ·rename_i h3;rw[Dq5 h3]at h;cases hr:s.rs with
    |nil=>rw[hr]at h;exact absurd (show(7:Int)=11 from h) (by decide)
    |cons r t=>
     rw[hr]at h;exact A97 _ _ _ h
   ·rename_i h3;rw[Dq4 h3]at h;dsimp only at h⊢;split
    ·rename_i h4;rw[Dq5 h4]at h;exact Cz0 _ h
    ·rename_i h4;rw[Dq4 h4]at h;generalize s.seals=w at h;have ez: ∀z:Sto×Int,z=(if(E2 w.1.ss w.1.us).2.1.dirty=true then w.1.erase (E2 w.1.ss w.1.us).2.2 else(w.1,0))->z.2=11->z.1.down=true:=fun z hz hn=>by
      subst hz;split
      ·rename_i hd;rw[Dq5 hd]at hn;exact B71 _ _ hn
      ·rename_i hd;rw[Dq4 hd]at hn;first|exact x11 (e:=0) (by decide) hn rfl|exact x11 (e:=8) (by decide) hn rfl
     have ez:=ez _ rfl;generalize (if(E2 w.1.ss w.1.us).2.1.dirty=true then w.1.erase (E2 w.1.ss w.1.us).2.2 else(w.1,0))=z at h ez;split
     ·rename_i h5;rw[Dq5 h5]at h;exact ez h
     ·rename_i h5;rw[Dq4 h5]at h;split
      ·rename_i h6;rw[Dq5 h6]at h;first|exact x11 (e:=0) (by decide) h rfl|exact x11 (e:=13) (by decide) h rfl|exact x11 (e:=7) (by decide) h rfl|exact x11 (e:=8) (by decide) h rfl
      ·rename_i h6;rw[Dq4 h6]at h;split
       ·rename_i h7;rw[Dq5 h7]at h;exact Cu1 _ _ h
       ·rename_i h7;rw[Dq4 h7]at h;exact B62 _ _ _ h
theorem Bd9(n:Int): ∀(k:Nat) (s:Sto),(Sto.room n k s).2=11->(Sto.room n k s).1.down=true
 |0,s,h=>absurd (show(13:Int)=11 from h) (by decide)
 |k+1,s,h=>by
  rw[M3]at h⊢;split
  ·rename_i hf;rw[Dq5 hf]at h;split at h<;>first|exact x11 (e:=0) (by decide) h rfl|exact x11 (e:=13) (by decide) h rfl|exact x11 (e:=7) (by decide) h rfl|exact x11 (e:=8) (by decide) h rfl
  ·rename_i hf;rw[Dq4 hf]at h;split
   ·rename_i h0;rw[Dq5 h0]at h;exact Dk6 _ _ h
   ·rename_i h0;rw[Dq4 h0]at h;exact Bd9 n k _ h
theorem B92(s:Sto)(key:ByteArray)(val:List UInt8)(h:(s.adm key val).2=11):(s.adm key val).1.down=true:=by
 unfold Sto.adm at h⊢;dsimp only at h⊢;split
 ·rename_i h1;rw[Dq5 h1]at h;exact absurd h (Cs9 _ _ _)
 ·rename_i h1;rw[Dq4 h1]at h;split
  ·rename_i h2;rw[Dq5 h2]at h;exact Bd9 _ _ _ h
  ·rename_i h2;rw[Dq4 h2]at h;split
   ·rename_i h3;rw[Dq5 h3]at h;first|exact x11 (e:=0) (by decide) h rfl|exact x11 (e:=13) (by decide) h rfl|exact x11 (e:=7) (by decide) h rfl|exact x11 (e:=8) (by decide) h rfl
   ·rename_i h3;rw[Dq4 h3]at h;exact Bc7 _ _ _ h
theorem Az8: ∀(k:Nat) (s:Sto),(Sto.trim k s).2=11->(Sto.trim k s).1.down=true
 |0,s,h=>absurd (show(0:Int)=11 from h) (by decide)
 |k+1,s,h=>by
  unfold Sto.trim at h⊢;split
  ·rename_i ho;rw[Dq5 ho]at h;cases hq:s.q with
   |nil=>rw[hq]at h;exact absurd (show(0:Int)=11 from h) (by decide)
   |cons y r=>
    rw[hq]at h;dsimp only at h⊢;have hw:(if y.2.2>0 then({s with q:=r}:Sto).adm y.1 y.2.1 else({s with q:=r},8)).2=11->(if y.2.2>0 then({s with q:=r}:Sto).adm y.1 y.2.1 else({s with q:=r},8)).1.down=true:=fun hn=>by
     split
     ·rename_i hf;rw[Dq5 hf]at hn;exact B92 _ _ _ hn
     ·rename_i hf;rw[Dq4 hf]at hn;first|exact x11 (e:=0) (by decide) hn rfl|exact x11 (e:=8) (by decide) hn rfl
    generalize (if y.2.2>0 then({s with q:=r}:Sto).adm y.1 y.2.1 else({s with q:=r},8))=w at hw h;split
    ·rename_i h0;rw[Dq5 h0]at h;exact Az8 k _ h
    ·rename_i h0;rw[Dq4 h0]at h;split
     ·rename_i h1;exact hw h1
     ·rename_i h1;rw[Dq4 h1]at h;exact Az8 k _ h
  ·rename_i ho;rw[Dq4 ho]at h;first|exact x11 (e:=0) (by decide) h rfl|exact x11 (e:=13) (by decide) h rfl|exact x11 (e:=7) (by decide) h rfl|exact x11 (e:=8) (by decide) h rfl
def Pk(s s':Sto):Prop:=s'.pend.length<=s.pend.length
theorem Pk.refl(s:Sto):Pk s s:=Dq6 _
theorem Pk.trans{a b c:Sto}(h:Pk a b)(k:Pk b c):Pk a c:=Dt1 k h
theorem De6(s:Sto)(kind:Int)(l:List (List UInt8)):Pk s (s.write kind l).1:=by
 unfold Sto.write;split
 ·exact .refl s
 ·dsimp only;split<;>exact Dq6 _
theorem Dg5(s:Sto):Pk s s.seals.1:=by
 unfold Sto.seals;split<;>exact Dq6 _
theorem C81(s:Sto)(b:Int):Pk s (s.begins b).1:=by
 unfold Sto.begins;dsimp only;split<;>exact Dq6 _
theorem Cr7(s:Sto)(b:Int):Pk s (s.erase b).1:=by
 unfold Sto.erase;dsimp only;split<;>exact Dq6 _
theorem Db8(s:Sto)(p:It)(n beside:Int):Pk s (s.move p n beside).1:=by
 unfold Sto.move;dsimp only;split
 ·exact .refl s
 ·split
  ·exact Dq6 _
  ·split
   ·exact .refl s
   ·have:=De6 s 2 (J5 (A9 s.d p).1 (A9 s.d p).2.1 (J8 s.sc.c)).1;split
    ·exact this
    ·exact this
theorem By6(b ep beside:Int): ∀(l:List It) (s:Sto),Pk s (Sto.moves b ep beside l s).1
 |[],s=>.refl s
 |x::r,s=>by
  unfold Sto.moves;split
  ·exact By6 b ep beside r s
  ·dsimp only;split
   ·exact Db8 ..
   ·exact(Db8 s _ _ _).trans (By6 b ep beside r _)
theorem A17(s:Sto)(r:Reg)(beside:Int):Pk s (s.reclaim r beside).1:=by
 unfold Sto.reclaim;dsimp only;have h1:=By6 r.b r.ep beside r.l s;split
 ·exact h1
 ·have h2:=Cr7 {(Sto.moves r.b r.ep beside r.l s).1 with pend:=(Sto.moves r.b r.ep beside r.l s).1.pend.filter fun p=> !decide (p.1=r.b)} r.b;exact h1.trans (Dt1 h2 (Dz7 ..))
theorem Cq5(n:Int): ∀(k:Nat) (s:Sto),Pk s (Sto.frees n k s).1
 |0,s=>.refl s
 |k+1,s=>by
  unfold Sto.frees;split
  ·split
   ·exact .refl s
   ·dsimp only;split
    ·exact A17 ..
    ·exact(A17 s _ n).trans (Cq5 n k _)
  ·exact .refl s
theorem Dc0(s:Sto)(n:Int):Pk s (s.more n).1:=by
 unfold Sto.more;split
 ·exact .refl s
 ·split
  ·exact .refl s
  ·split
   ·split
    ·exact .refl s
    ·exact A17 ..
   ·dsimp only;have h1:=Dg5 s;generalize s.seals=w at h1;split
    ·exact h1
    ·have h2:Pk s (if(E2 w.1.ss w.1.us).2.1.dirty=true then w.1.erase (E2 w.1.ss w.1.us).2.2 else(w.1,0)).1:=by
      split
      ·exact h1.trans (Cr7 ..)
      ·exact h1
     generalize (if(E2 w.1.ss w.1.us).2.1.dirty=true then w.1.erase (E2 w.1.ss w.1.us).2.2 else(w.1,0))=z at h2;split
     ·exact h2
     ·split
      ·exact h2
      ·have h3:=h2.trans (C81 z.1 (E2 w.1.ss w.1.us).2.2);split
       ·exact h3
       ·exact h3.trans (Cq5 ..)
theorem Ci2(n:Int): ∀(k:Nat) (s:Sto),Pk s (Sto.room n k s).1
 |0,s=>.refl s
 |k+1,s=>by
  rw[M3];split
  ·split<;>exact .refl s
  ·split
   ·exact Dc0 ..
   ·exact(Dc0 s n).trans (Ci2 n k _)
theorem Cs4(e:QD)(l:List QD):Bv6 (e::l)=e.1.size+e.2.1.length+Bv6 l:=by simp[Bv6]
theorem C71{l:List QD}(h: ∀e∈l,1<=e.1.size):l.length<=Bv6 l:=by
 induction l with
 |nil=>simp
 |cons a r ih=>
  have h1:=h a (by simp);have h2:=ih fun e he=>h e (by simp[he]);rw[Cs4,Dr8];omega
theorem Az9: ∀(k:Nat) (s:Sto),s.q.length<k->0<=s.sc.small->(Sto.trim k s).2≠11->(Bv6 (Sto.trim k s).1.q:Int)<=s.sc.small
 |0,s,hk,_,_=>absurd hk (by omega)
 |k+1,s,hk,hs,hn=>by
  unfold Sto.trim at hn⊢;split
  ·rename_i ho;rw[Dq5 ho]at hn;cases hq:s.q with
   |nil=>rw[hq]at ho;exact absurd ho (by show¬((0:Nat):Int)>_;omega)
   |cons y r=>
    rw[hq]at hn hk;simp only[Dr8]at hk;dsimp only at hn⊢;have hw:Qk {s with q:=r} (if y.2.2>0 then({s with q:=r}:Sto).adm y.1 y.2.1 else({s with q:=r},8)).1:=by
     split
     ·exact Ad2 ..
     ·exact .refl _
    generalize (if y.2.2>0 then({s with q:=r}:Sto).adm y.1 y.2.1 else({s with q:=r},8))=w at hw hn;obtain⟨w1,w2,w3⟩:=hw;have w1:w.1.q=r:=w1;have w3:w.1.sc=s.sc:=w3;split
    ·rename_i h0;rw[Dq5 h0]at hn;have:=Az9 k w.1 (by rw[w1];omega) (by rw[w3];exact hs) hn;rw[w3]at this;exact this
    ·rename_i h0;rw[Dq4 h0]at hn;split
     ·rename_i h1;rw[Dq5 h1]at hn;exact absurd h1 hn
     ·rename_i h1;rw[Dq4 h1]at hn;have:=Az9 k {w.1 with gh:=Bh8 s.sc.ghost w.1.gh (s.hash y.1)} (by show w.1.q.length<k;rw[w1];omega) (by show 0<=w.1.sc.small;rw[w3];exact hs) hn;have e:({w.1 with gh:=Bh8 s.sc.ghost w.1.gh (s.hash y.1)}:Sto).sc=s.sc:=w3;rw[e]at this;exact this
  ·rename_i ho;exact D69.1 ho
structure H4(s:Sto)(M:Nat):Prop where
 ok:SOk s M
 q:s.down=false->s.q.length<=65536
theorem H4.upto{s:Sto}{M N:Nat}(h:H4 s M)(hn:M<=N):H4 s N:=⟨h.ok.upto hn,h.q⟩
theorem T0{s:Sto}{key:ByteArray}(h:s.asked key=0):s.down=false/\1<=key.size/\key.size<=255:=by
 unfold Sto.asked at h;split at h
 ·cases h
 ·rename_i h1;split at h
  ·cases h
  ·rename_i h2;rw[Du4]at h2;exact⟨by simpa using h1,by omega,by omega⟩
theorem SOk.putYoung{s:Sto}{M:Nat}(h:SOk s M)(hd:s.down=false)(hq:s.q.length<=65536){key:ByteArray}{val:List UInt8}(hk:1<=key.size/\key.size<=255)(hv:val.length<=65536):
  SOk {s with q:=P1 s.q key++[(key,val,0)]} M/\H4 (s.putYoung key val).1 (M+70000)/\(s.putYoung key val).1.sc=s.sc:=by
 have oU:=P5 s.q key;have h1:SOk {s with q:=P1 s.q key++[(key,val,0)]} M:=h.setq (fun e he=>by
  rcases Dr5.1 he with he|he
  ·exact h.qs e (A61 _ _ e he)
  ·rw[Dr2.1 he];exact⟨hk.1,hk.2,hv⟩) (by rw[Dr4];simp;omega)
 refine⟨h1,?_⟩;obtain⟨a1,a2,a3⟩:=SOk.trim (s.q.length+2) h1 hd;have jJ:=Az9 (s.q.length+2) {s with q:=P1 s.q key++[(key,val,0)]} (by show(P1 s.q key++[(key,val,0)]).length<_;rw[Dr4];simp;omega) h.sm.1;have iE:=Az8 (s.q.length+2) {s with q:=P1 s.q key++[(key,val,0)]};unfold Sto.putYoung;refine⟨⟨a1.upto (by omega),fun aK=>?_⟩,a2⟩;generalize Sto.trim (s.q.length+2) {s with q:=P1 s.q key++[(key,val,0)]}=w at*;have h11:w.2≠11\/w.2=11:=by omega
 rcases h11 with h11|h11
 ·have h2:=jJ h11;have h3:=C71 (l:=w.1.q) fun e he=>(a1.qs e he).1;have h4:=h.sm;have h2:(Bv6 w.1.q:Int)<=s.sc.small:=h2;omega
 ·rw[iE h11]at aK;cases aK
theorem H4.put{s:Sto}{M:Nat}(h:H4 s M)(key:ByteArray)(val:List UInt8):H4 (s.put key val).1 (M+100000)/\(s.put key val).1.sc=s.sc:=by
 unfold Sto.put;split
 ·exact⟨h.upto (by omega),rfl⟩
 ·rename_i ha;obtain⟨hd,hk⟩:=T0 (s:=s) (key:=key) (by simpa using ha);split
  ·exact⟨h.upto (by omega),rfl⟩
  ·rename_i hv;obtain⟨f1,f2,f3,f4,f5⟩:=h.ok.forget key;have dN:(s.forget key).1.q.length<=65536:=by rw[f4];exact Dt1 (P5 _ _) (h.q hd)
   have bI:(s.forget key).1.down=false:=f2.trans hd;dsimp only;generalize (s.forget key).1=s1 at f1 f2 f3 f4 f5 dN bI;split
   ·exact⟨⟨f1.upto (by omega),fun _=>dN⟩,f3⟩
   ·split
    ·have hg:SOk {s1 with gh:=s1.gh.erase ((s.hash key:Nat):Int)} (M+1):=f1.setgh (by have h1:=f1.gl;have h2:(s1.gh.erase ((s.hash key:Nat):Int)).length<=s1.gh.length:=D00;omega);obtain⟨a1,a2⟩:=hg.adm bI key val;have a3:=Ad2 {s1 with gh:=s1.gh.erase ((s.hash key:Nat):Int)} key val;have a4:=R4 {s1 with gh:=s1.gh.erase ((s.hash key:Nat):Int)} key val;generalize ({s1 with gh:=s1.gh.erase ((s.hash key:Nat):Int)}:Sto).adm key val=w at a1 a2 a3 a4;have eI:w.1.q.length<=65536:=by rw[a3.1];exact dN
     split
     ·exact⟨⟨a1.upto (by omega),fun _=>eI⟩,a2.trans f3⟩
     ·rename_i hw;rw[Du4]at hw;have:=a1.putYoung ((a4 hw.2).trans bI) eI (val:=val) hk (by omega);exact⟨this.2.1.upto (by omega),this.2.2.trans (a2.trans f3)⟩
    ·have:=f1.putYoung bI dN (val:=val) hk (by omega);exact⟨this.2.1.upto (by omega),this.2.2.trans f3⟩
theorem H4.tick{s:Sto}{M:Nat}(h:H4 s M)(now:Int):H4 (s.tick now) M/\(s.tick now).sc=s.sc:=by
 unfold Sto.tick;split
 ·exact⟨h,rfl⟩
 ·exact⟨⟨{h.ok with dv:=h.ok.dv,bk:=Ct8 h.ok.bk now},h.q⟩,rfl⟩
theorem Dm3{l:List C3}{nm:Al8}: ∀x∈Ah0 l nm,∃y∈l,x.p=y.p:=fun x hx=>by
 unfold Ah0 at hx;split at hx
 ·rename_i i hi;obtain⟨j,hj,rfl⟩:=D95 hx;rw[D63]at hj;refine⟨l[j],Dr7 hj,?_⟩;rw[Eg4];split<;>rfl
 ·exact⟨x,hx,rfl⟩
theorem H4.get{s:Sto}{M:Nat}(h:H4 s M)(key:ByteArray):H4 (s.get key).1 M/\(s.get key).1.sc=s.sc:=by
 unfold Sto.get;split
 ·exact⟨h,rfl⟩
 ·split
  ·refine⟨⟨h.ok.setq (fun e he=>?_) (by unfold Ar4;rw[Dr1];exact h.ok.ql),fun hd=>by show(Ar4 s.q key).length<=65536;unfold Ar4;rw[Dr1];exact h.q hd⟩,rfl⟩;unfold Ar4 at he;obtain⟨y,hy,rfl⟩:=Dt4.1 he;have:=h.ok.qs y hy;split<;>exact this
  ·split
   ·exact⟨h,rfl⟩
   ·refine⟨⟨h.ok.ixset _ (B59 (h.ok.ixi.row (h.ok.isi _)) _) fun x hx=>?_,h.q⟩,rfl⟩;obtain⟨y,hy,e⟩:=Dm3 x hx;rw[e];exact h.ok.ixw _ (Aq5 (h.ok.isi _)) y hy
theorem H4.delete{s:Sto}{M:Nat}(h:H4 s M)(key:ByteArray):H4 (s.delete key).1 (M+1)/\(s.delete key).1.sc=s.sc:=by
 unfold Sto.delete;split
 ·exact⟨h.upto (by omega),rfl⟩
 ·obtain⟨f1,f2,f3,f4,f5⟩:=h.ok.forget key;exact⟨⟨f1,fun hd=>by show(s.forget key).1.q.length<=65536;rw[f4];exact Dt1 (P5 _ _) (h.q (f2▸hd))⟩,f3⟩
theorem H4.flushes: ∀(k:Nat) {s:Sto} {M:Nat},H4 s M->s.down=false->H4 (Sto.flushes k s).1 M/\(Sto.flushes k s).1.sc=s.sc
 |0,s,M,h,hd=>⟨h,rfl⟩
 |k+1,s,M,h,hd=>by
  unfold Sto.flushes;split
  ·exact⟨h,rfl⟩
  ·obtain⟨a1,a2,a3⟩:=h.ok.roomy hd (n:=1) (by decide);have aq:(s.roomy 1).1.q=s.q:=(A13 1 (s.mu+1) s).1;dsimp only;have adn:=Be1 1 (s.mu+1) s;have adn:(s.roomy 1).2≠11->(s.roomy 1).1.down=s.down:=adn;have aup:(s.roomy 1).2=11->(s.roomy 1).1.down=true:=Bd9 1 (s.mu+1) s;generalize s.roomy 1=w at a1 a2 a3 aq adn aup;have iw:H4 w.1 M:=⟨a1,fun _=>by rw[aq];exact h.q hd⟩;split
   ·exact⟨iw,a3⟩
   ·rename_i h0;obtain⟨b1,b2⟩:=a2 (by simpa using h0);split
    ·exact⟨iw,a3⟩
    ·split
     ·exact⟨iw,a3⟩
     ·obtain⟨c1,c2⟩:=a1.write b1 3 [(M7 (w.1.pend.take (min w.1.pend.length (B7 w.1.sc.c.S/6).toNat))).1];have cq:=Am6 w.1 3 [(M7 (w.1.pend.take (min w.1.pend.length (B7 w.1.sc.c.S/6).toNat))).1];generalize w.1.write 3 [(M7 (w.1.pend.take (min w.1.pend.length (B7 w.1.sc.c.S/6).toNat))).1]=z at c1 c2 cq;have iz:H4 z.1 M:=⟨c1,fun _=>by rw[cq.1,aq];exact h.q hd⟩;split
      ·exact⟨iz,cq.2.2.trans a3⟩
      ·rename_i h1;have h1:z.2.2=0:=by simpa using h1
       have i4:H4 {z.1 with pend:=z.1.pend.drop (min w.1.pend.length (B7 w.1.sc.c.S/6).toNat)} M:=⟨{c1 with dv:=c1.dv,pl:=by show(z.1.pend.drop _).length<=M;rw[Ds6];have:=c1.pl;omega},iz.q⟩;have:=H4.flushes k i4 (c2 h1);exact⟨this.1,this.2.trans (cq.2.2.trans a3)⟩
theorem H4.flush{s:Sto}{M:Nat}(h:H4 s M):H4 s.flush.1 M/\s.flush.1.sc=s.sc:=by
 unfold Sto.flush;split
 ·exact⟨h,rfl⟩
 ·rename_i hd;exact H4.flushes _ h (by simpa using hd)
theorem _root_.Go.HL.CallF.imp{P:Program}{f:FuncId}{args:Array Value}{L:A4}{K K':Value->HP}(h:CallF P f args L K)(hk: ∀v L',K v L'->K' v L'):CallF P f args L K':=CallF.mono h fun v L' _ hK=>hk v L' hK
def QE.dat(e:QE):QD:=(e.key,e.val,e.freq)
def QHd(m:Nat)(room:Int)(l:List QD)(A:A4):Prop:= ∃l':List QE,QH m room l' A/\l'.map QE.dat=l
theorem Ae8(l:List QE)(k:ByteArray):T4 (l.map QE.dat) k=(V8 l k).map QE.dat:=by
 unfold T4 V8;rw[List.find?_map];rfl
theorem Bt8(l:List QE)(k:ByteArray):P1 (l.map QE.dat) k=(A21 l k).map QE.dat:=by
 unfold P1 A21;rw[List.eraseP_map];rfl
theorem Cs7(l:List QE)(k:ByteArray):Ar4 (l.map QE.dat) k=(Bx4 l k).map QE.dat:=by
 unfold Ar4 Bx4;rw[Dv2,Dv2];refine D97 fun e _=>?_;by_cases h:e.key=k
 ·simp[Function.comp,QE.dat,Ax4,h]
 ·simp[Function.comp,QE.dat,Ax4,h]
theorem C70(l:List QE):Bv6 (l.map QE.dat)=T5 l:=by
 unfold Bv6 T5;rw[Dv2];rfl
theorem C06(room:Int):CallF PP 97 #[.i room] [] fun r L'=> ∃m,r= .p m/\QHd m (Aa2 room 0) [] L':=
 (Di1 room).imp fun r L' ⟨m,e,h⟩=>⟨m,e,[],h,rfl⟩
theorem Cj3(m:Nat)(room:Int)(l:List QD)(A:A4)(h:QHd m room l A)(k:ByteArray):
  CallF PP 105 #[.p m,.w k] A fun r L'=>r= .b (T4 l k).isSome/\QHd m room (P1 l k) L':=by
 obtain⟨l',h,rfl⟩:=h;refine(B37 m room l' A h k).imp ?_;rintro r L' ⟨rfl,h'⟩;refine⟨by rw[Ae8,D44],_,h',(Bt8 l' k).symm⟩
theorem C04(m:Nat)(room:Int)(l:List QD)(A A0:A4)(h:QHd m room l A)(bR:l.length<100000)(k:ByteArray)(hk:k.size<=100000)(v:SlV)(b:List UInt8)(hv:BSl A0 v b)(hb:b.length<=100000):
  CallF PP 50 #[.p m,.w k,.slice v.a v.len v.cap] (A++A0) fun r L'=>r= .t #[]/\ ∃A',L'=A'++A0/\QHd m room (P1 l k++[(k,b,0)]) A':=by
 obtain⟨l',h,rfl⟩:=h;rw[Dr1]at bR;refine(Dh9 m room l' A A0 h bR k hk v b hv hb).imp ?_;rintro r L' ⟨rfl,A',e,rfl,h',rfl,rfl,hf⟩;refine⟨rfl,A',rfl,_,h',?_⟩;rw[Bt8,Ds2];simp[QE.dat,hf]
theorem Cj1(m:Nat)(room:Int)(l:List QD)(A:A4)(h:QHd m room l A)(k:ByteArray):
  CallF PP 54 #[.p m,.w k] A fun r L'=> ∃(u:SlV) (seg:A4),r= .t #[.slice u.a u.len u.cap,.b (T4 l k).isSome]/\L'=seg++A/\Own u 1 tyb (bvs (((T4 l k).map fun e=>e.2.1).getD [])) seg:=by
 obtain⟨l',h,rfl⟩:=h;refine(C02 m room l' A h k).imp ?_;rintro r L' ⟨u,seg,rfl,rfl,o⟩;refine⟨u,seg,by rw[Ae8,D44],rfl,?_⟩;rw[Ae8,D86];exact o
theorem C09(m:Nat)(room:Int)(l:List QD)(A:A4)(h:QHd m room l A)(k:ByteArray):
  CallF PP 59 #[.p m,.w k] A fun r L'=> ∃(u:SlV) (seg A':A4),r= .t #[.slice u.a u.len u.cap,.b (T4 l k).isSome]/\L'=seg++A'/\Own u 1 tyb (bvs (((T4 l k).map fun e=>e.2.1).getD [])) seg/\QHd m room (Ar4 l k) A':=by
 obtain⟨l',h,rfl⟩:=h;refine(Di4 m room l' A h k).imp ?_;rintro r L' ⟨u,seg,A',rfl,rfl,o,h'⟩;refine⟨u,seg,A',by rw[Ae8,D44],rfl,?_,_,h',(Cs7 l' k).symm⟩;rw[Ae8,D86];exact o
theorem C08(m:Nat)(room:Int)(l:List QD)(A:A4)(h:QHd m room l A)(k:ByteArray):Reads PP 52 #[.p m,.w k] A (.b (T4 l k).isSome):=by
 obtain⟨l',h,rfl⟩:=h;rw[Ae8,D44];exact Di3 m room l' A h k
theorem C07(m:Nat)(room:Int)(l:List QD)(A:A4)(h:QHd m room l A):Reads PP 70 #[.p m] A (.i l.length):=by
 obtain⟨l',h,rfl⟩:=h;rw[Dr1];exact Di2 m room l' A h
theorem Cj2(m:Nat)(room:Int)(l:List QD)(A:A4)(h:QHd m room l A):Reads PP 113 #[.p m] A (.b (decide ((Bv6 l:Int)>room))):=by
 obtain⟨l',h,rfl⟩:=h;rw[C70];exact C03 m room l' A h
theorem C05(m:Nat)(room:Int)(e:QD)(s:List QD)(A:A4)(h:QHd m room (e::s) A):
  CallF PP 114 #[.p m] A fun r L'=> ∃(u:SlV) (seg A':A4),r= .t #[.agg #[.w e.1,.slice u.a u.len u.cap,.i e.2.2],.b true]/\L'=A'++seg/\BSl seg u e.2.1/\QHd m room s A':=by
 obtain⟨l',h,hl⟩:=h;cases l' with
 |nil=>cases hl
 |cons x r=>
  injection hl with h1 h2;subst h1;subst h2;have ok:QOk (x::r):=by obtain⟨mk,mes,clock,rfl,hm,ok⟩:=h;exact ok
  refine(Di0 m room x r A h).imp ?_;rintro _ L' ⟨rfl,A',rfl,h'⟩;exact⟨x.v,x.seg,A',rfl,rfl,(ok.own x (by simp)).sl,r,h',rfl⟩
theorem set_cl(n:Nat)(room:Int)(l0 l:List Int)(o:Obj)(h:GOb room l0 o)(v:SlV)(seg:A4)(hs:ISl seg v .u64 l)(hl:l.length<=64):
  CallF PP 109 #[.p n,.slice v.a v.len v.cap] ((n,o)::seg) fun r L'=>r= .t #[]/\ ∃o',L'=(n,o')::seg/\GOb room l o':=by
 refine(e109 (some n.z) v).c ?_;obtain⟨c,f,rfl,aC,h0,h65,h66,hf,jE,hr⟩:=h;have hC:=hs.len;refine A5 rfl (K7 (l':=0) (h':=64) (m':=64) rfl rfl rfl (by omega) (by omega) (Dq6 _) ?_);have iV:min v.len 64=l.length:=by omega
 have bW:(ivs .u64 l).take (min v.len 64*1)=ivs .u64 l:=by rw[iV];exact Dw9 (by rw[N1];omega)
 refine Ct1 (A:=[]) (B:=seg) (b:=n) (off:=1) (T:=256) (fz:=(0,0)) (c:=c) (v:=Q0 ⟨some (Addr.add n.z 1),64,64⟩ (0:Nat) (64:Nat) (64:Nat) 1) (vs:=v) (ws:=ivs .u64 l) (sz:=1) C69.und (by kernel_rfl) rfl hs.cons (Ai3 _ _) ?_ (.inl (Dq6 _)) ?_
 ·simp only[Q0,Dr0];omega
 ·have cR:(Q0 ⟨some (Addr.add n.z 1),64,64⟩ (0:Nat) (64:Nat) (64:Nat) 1).len=64:=rfl;rw[cR,bW,iV];have w1:=Ag1 (ivs .u64 l) c 1;have w1s:=N7 (ivs .u64 l) c 1;generalize wr c 1 (ivs .u64 l)=c1 at w1 w1s⊢;refine A5 rfl (E4 (n:=n) (off:=65) [] seg rfl rfl (by rw[w1s,aC];exact(show 66<=67 by decide)) (.inl (Dq6 _)) (c1.setIfInBounds 65 (.i 0)) rfl ?_);refine A5 rfl (E4 (n:=n) (off:=66) [] seg rfl rfl (by rw[D65,w1s,aC];exact Dq6 67) (.inl (Dq6 _)) ((c1.setIfInBounds 65 (.i 0)).setIfInBounds 66 (.i l.length)) rfl ?_);rw[N1]at w1;refine .of ⟨rfl,_,rfl,_,0,rfl,by simp[w1s,aC],?_,?_,?_,by omega,hl,?_⟩
  ·rw[M1 _ _ _ _ (by rw[D65];omega),M1 _ _ _ _ (by omega),Dq4 (by omega),Dq4 (by omega),w1 _ (by omega),Dq4 (by omega)];exact h0
  ·rw[M1 _ _ _ _ (by rw[D65];omega),M1 _ _ _ _ (by omega),Dq4 (by omega),Dq5 rfl];rfl
  ·rw[M1 _ _ _ _ (by rw[D65];omega),Dq5 rfl]
  ·intro i x hx;have hi:=(Dw0.1 hx).1;have hm:(0+i)%64=i:=by omega
   rw[hm,M1 _ _ _ _ (by rw[D65];omega),M1 _ _ _ _ (by omega),Dq4 (by omega),Dq4 (by omega),w1 _ (by omega),Dq5 (by omega),show 1+i-1=i by omega];rw[Dr9 hi]at hx;rw[Co2 hi,Dq9 hx]
theorem Cs5(n:Nat)(room:Int)(l:List Int)(o:Obj)(h:GOb room l o)(x:Int):
  CallF PP 48 #[.p n,.int .u64 x] [(n,o)] fun r L'=>r= .b (decide (x∈l))/\ ∃o',L'=[(n,o')]/\GOb room (l.erase x) o':=by
 refine(e48 (some n.z) x).c ?_;have hl:l.length<=64:=by obtain⟨_,_,_,_,_,_,_,_,hl,_⟩:=h;exact hl
 refine ifF rfl ?_;refine K1 [] [] (De0 n room l o h) rfl ?_;rintro w A'-⟨s,seg,rfl,rfl,own⟩;refine⟨(s,()),rfl,?_⟩;refine K1 [(n,o)] [] (B42 seg s l own.sl (by omega) x) (by simp) ?_;rintro w A'-⟨rfl,i,rfl,aP⟩;refine⟨(i,()),rfl,?_⟩;refine C0 (fun(h1:i<0)=>?_) (fun(h1: ¬i<0)=>?_)
 ·have hx:x∉l:=fun e=>by have:=aP.mem.2 e;omega
  refine .drop (A:=[(n,o)]) (J:=A') ⟨by rw[Ds7 hx],o,rfl,by rw[Ec6 hx];exact h⟩ (by simp)
 ·rcases aP with⟨rfl,_⟩|⟨k,rfl,hk,hx,hn⟩
  ·omega
  ·have hw:IntKind.i64.wrap ((k:Int)+1)=(k:Int)+1:=C1 (by omega) (by omega);simp only[hw];refine K1 [(n,o)] [] (del_cl s l A' own (by omega) k hk) (by simp) ?_;rintro w A2-⟨s2,rfl,own2⟩;rw[<-Bv1.erase hk hx hn]at own2;refine⟨(s2,()),rfl,?_⟩;have bS:=Bt0 l x;refine K1 [] [] (set_cl n room l (l.erase x) o h s2 A2 own2.sl (by omega)) (by simp) ?_;rintro w A3-⟨rfl,o',rfl,bU⟩;refine⟨(),rfl,?_⟩;have sB:x∈l:=Dx2 hx;exact .drop (A:=[(n,o')]) (J:=A2) ⟨by rw[Dt2 sB],o',rfl,bU⟩ (by simp)
theorem has_cl(n:Nat)(room:Int)(l:List Int)(o:Obj)(h:GOb room l o)(x:Int):
  Reads PP 40 #[.p n,.int .u64 x] [(n,o)] (.b (decide (x∈l))):=by
 refine(e40 (some n.z) x).r ?_;have hl:l.length<=64:=by obtain⟨_,_,_,_,_,_,_,_,hl,_⟩:=h;exact hl
 refine ifT rfl ?_;refine K1 [] [] (De0 n room l o h) rfl ?_;rintro w A'-⟨s,seg,rfl,rfl,own⟩;refine⟨(s,()),rfl,?_⟩;refine K1 [(n,o)] [] (B42 seg s l own.sl (by omega) x) (by simp) ?_;rintro w A'-⟨rfl,i,rfl,aP⟩;refine⟨(i,()),rfl,.drop (A:=[(n,o)]) (J:=A') ⟨?_,rfl⟩ (by simp)⟩;congr 1;exact decide_eq_decide.2 aP.mem
theorem Ci4{room:Int}{l:List Int}{c:Array Value}{f:Nat}(aC:c.size=67)(h0:c[0]?=some (.i room))(h65:c[65]?=some (.i f))(hf:f<64)(hl:l.length<64)
  (hr: ∀(i:Nat) (x:Int),l[i]?=some x->c[1+(f+i)%64]?=some (.int .u64 x)) (x:Int):
  GOb room (l++[x]) (.cells ((c.setIfInBounds (1+(f+l.length)%64) (.int .u64 x)).setIfInBounds 66 (.i ((l.length:Int)+1))) 256):=by
 have hm:(f+l.length)%64<64:=Dx6 _ (by omega);refine⟨_,f,rfl,by simp[aC],?_,?_,?_,hf,by rw[Dr4];simp only[Dr8,Du7];omega,?_⟩
 ·rw[M1 _ _ _ _ (by simp[aC]),M1 _ _ _ _ (by omega),Dq4 (by omega),Dq4 (by omega)];exact h0
 ·rw[M1 _ _ _ _ (by simp[aC]),M1 _ _ _ _ (by omega),Dq4 (by omega),Dq4 (by omega)];exact h65
 ·rw[M1 _ _ _ _ (by simp[aC]),Dq5 rfl,Dr4];rfl
 ·intro i y hy;have hmi:(f+i)%64<64:=Dx6 _ (by omega);have hi:=(Dw0.1 hy).1;rw[Dr4]at hi;simp only[Dr8,Du7]at hi;rw[M1 _ _ _ _ (by simp[aC]),Dq4 (by omega),M1 _ _ _ _ (by omega)];by_cases he:i=l.length
  ·subst he;rw[Dq5 rfl];simp at hy;rw[hy]
  ·rw[Dq4 (by omega)];rw[Dy4 (by omega)]at hy;exact hr i y hy
theorem add_cl(n:Nat)(room:Int)(l:List Int)(o:Obj)(h:GOb room l o)(h1:(l.length:Int)<=room)(h2:room<=64)(x:Int):
  CallF PP 115 #[.p n,.int .u64 x] [(n,o)] fun r L'=>r= .t #[]/\ ∃o',L'=[(n,o')]/\GOb room (Bh8 room l x) o':=by
 refine(e115 (some n.z) x).c ?_;have hZ:C9 n.z [.i room] [(n,o)]:=by
  obtain⟨c,f,rfl,aC,h0,_⟩:=h;exact ldC Dq7 h0
 refine ifF rfl (A5 rfl (A6 room hZ ?_));refine Ac2 (fun(he:room=0)=>?_) (fun(aE:room≠0)=>?_)
 ·have hl:l=[]:=D13.1 (by omega);subst hl he;exact .of ⟨rfl,o,rfl,h⟩
 refine K1 [] [] (Cs5 n room l o h x) rfl ?_;rintro w A'-⟨rfl,o1,rfl,dP⟩;refine⟨(decide (x∈l),()),rfl,?_⟩;have wJ:=Bt0 l x;unfold Bh8;generalize l.erase x=e at dP wJ⊢;clear hZ h;have bS:((e++[x]).length:Int)=e.length+1:=by rw[Dr4];rfl
 rw[bS];refine W2 (fun y L'=> ∃(c:Array Value) (f:Nat) (l':List Int),L'=[(n,Obj.cells c 256)]/\c.size=67/\c[0]?=some (.i room)/\c[65]?=some (.i f)/\c[66]?=some (.i l'.length)/\f<64/\l'.length<64/\
   (∀(i:Nat) (x:Int),l'[i]?=some x->c[1+(f+i)%64]?=some (.int .u64 x))/\l'++[x]=if((e.length:Int)+1)>room then(e++[x]).drop 1 else e++[x]) ?_ ?_
 ·rintro y L' ⟨c,f,l',rfl,aC,h0,h65,h66,hf,bZ,hr,he⟩;have hw:IntKind.i64.wrap ((f:Int)+l'.length)=((f+l'.length:Nat):Int):=by rw[C1 (by omega) (by omega)];omega
  have aQ:Int.tmod ((f+l'.length:Nat):Int) 64=(((f+l'.length)%64:Nat):Int):=by rw[D57 (by omega)];omega
  have hm:(f+l'.length)%64<64:=Dx6 _ (by omega);refine A5 rfl (A5 rfl (A5 rfl (A6 (f:Int) (ldC Dq7 h65) (A6 (l'.length:Int) (ldC Dq7 h66) (Ad8 (by decide) ?_)))));simp only[hw,aQ,Dr0,Dt8];refine D9 (by omega) (by omega) (E4 (n:=n) (off:=1+(f+l'.length)%64) [] [] (by rw[P2 (ad:=n.z) rfl,P2 rfl,Dy2]) rfl (by simp only[Dr8,Du7];omega) (.inl (Dq6 _)) _ rfl ?_);have g66:(c.setIfInBounds (1+(f+l'.length)%64) (.int .u64 x))[66]?=some (.i l'.length):=by
   rw[M1 _ _ _ _ (by omega),Dq4 (by omega)];exact h66
  refine A5 rfl (A6 (l'.length:Int) (ldC Dq7 g66) (A5 rfl (E4 (n:=n) (off:=66) [] [] rfl rfl (by simp[aC,N7]) (.inl (Dq6 _)) _ rfl ?_)));refine .of ⟨rfl,_,rfl,?_⟩;rw[<-he];have:=Ci4 aC h0 h65 hf bZ hr x;simp only[C1 (n:=(l'.length:Int)+1) (by omega) (by omega)];exact this
 ·intro j hj;obtain⟨c,f,rfl,aC,h0,h65,h66,hf,bZ,hr⟩:=dP;refine A5 rfl (A5 rfl (A6 (e.length:Int) (ldC Dq7 h66) (A6 room (ldC Dq7 h0) ?_)));refine Ac2 (fun(he:(e.length:Int)=room)=>?_) (fun(he:(e.length:Int)≠room)=>?_)
  ·have hw:IntKind.i64.wrap ((f:Int)+1)=((f+1:Nat):Int):=by rw[C1 (by omega) (by omega)];omega
   have aQ:Int.tmod ((f+1:Nat):Int) 64=(((f+1)%64:Nat):Int):=by rw[D57 (by omega)];omega
   refine A5 rfl (A6 (f:Int) (ldC Dq7 h65) (Ad8 (by decide) ?_));simp only[hw,aQ];refine A5 rfl (E4 (n:=n) (off:=65) [] [] rfl rfl (by simp[aC]) (.inl (Dq6 _)) (c.setIfInBounds 65 (.i (((f+1)%64:Nat):Int))) rfl ?_);have g66:(c.setIfInBounds 65 (.i (((f+1)%64:Nat):Int)))[66]?=some (.i e.length):=by
    rw[M1 _ _ _ _ (by omega),Dq4 (by omega)];exact h66
   refine A5 rfl (A6 (e.length:Int) (ldC Dq7 g66) (A5 rfl (E4 (n:=n) (off:=66) [] [] rfl rfl (by simp[aC]) (.inl (Dq6 _)) _ rfl (hj _ _ ?_))));cases e with
   |nil=>simp at he;omega
   |cons a r=>
    have ct:(((a::r).length:Nat):Int)=(r.length:Int)+1:=by simp
    have hm:(f+1)%64<64:=Dx6 _ (by omega);simp only[Dr8]at bZ wJ;refine⟨_,(f+1)%64,r,rfl,?_,?_,?_,?_,hm,by omega,?_,?_⟩
    ·simp[N7,aC]
    ·show((c.setIfInBounds 65 _).setIfInBounds 66 _)[0]?=_;rw[M1 _ _ _ _ (by simp[aC]),M1 _ _ _ _ (by omega),Dq4 (by omega),Dq4 (by omega)];exact h0
    ·show((c.setIfInBounds 65 _).setIfInBounds 66 _)[65]?=_;rw[M1 _ _ _ _ (by simp[aC]),M1 _ _ _ _ (by omega),Dq4 (by omega),Dq5 rfl]
    ·show((c.setIfInBounds 65 _).setIfInBounds 66 _)[66]?=_;rw[M1 _ _ _ _ (by simp[aC]),Dq5 rfl,ct,C1 (by omega) (by omega)];congr 2;omega
    ·intro i y hy;show((c.setIfInBounds 65 _).setIfInBounds 66 _)[1+((f+1)%64+i)%64]?=_;have hmi:((f+1)%64+i)%64<64:=Dx6 _ (by omega);rw[M1 _ _ _ _ (by simp[aC]),M1 _ _ _ _ (by omega),Dq4 (by omega),Dq4 (by omega)];have:=hr (i+1) y (by simpa using hy);rw[<-this];congr 2;omega
    ·rw[Dq5 (by omega)];rfl
  ·refine hj _ _ ⟨c,f,e,rfl,aC,h0,h65,h66,hf,by omega,hr,?_⟩;rw[Dq4 (by omega)]
theorem Dn0(room:Int):CallF PP 98 #[.i room] [] fun r L'=> ∃n o,r= .p n/\L'=[(n,o)]/\GOb (Ad3 (Aa2 room 0) 64) [] o:=by
 refine(e98 room).c ?_;refine C4 fun n _=>.of ⟨n,_,rfl,rfl,_,0,rfl,rfl,rfl,rfl,rfl,by omega,by simp,fun i x h=>by simp at h⟩
structure SP where
 n:Nat
 m:Nat
 nb:Nat
 nk:Nat
 nr:Nat
 nq:Nat
 ng:Nat
 ni:Nat
structure RN where
 r:Reg
 id:Nat
 v:SlV
 seg:A4
def RN.o(x:RN):Nat×Obj:=(x.id,Obj.cells #[.i x.r.b,.i x.r.ep,.i x.r.nx,.slice x.v.a x.v.len x.v.cap] 156)
def RN.objs(x:RN):A4:=x.o::x.seg
def RN.Ok(x:RN):Prop:=Own x.v 3 Cc7 (x.r.l.flatMap P8) x.seg
def rns(l:List RN):A4:=l.flatMap RN.objs
theorem Ci3(a b:List RN):rns (a++b)=rns a++rns b:=Dt3
theorem As8(a:RN):rns [a]=a.objs:=by simp[rns]
def RN.ptr(x:RN):Option Addr:=some x.id.z
def Y7(l:List RN):List (Int×Value):=l.map fun x=>(x.r.b,.q x.ptr)
def onp(o:Option RN):Option Addr:=match o with|none=>none|some x=>x.ptr
structure SG where
 ns:List RN
 on:Option RN
 es:Array MapEntry
 ck:Nat
 pv:SlV
 pseg:A4
 Ad:A4
 Ab:A4
 Aq:A4
 Ai:A4
 go:Obj
def SG.all(g:SG):List RN:=g.ns++g.on.toList
def stC(p:SP)(sc:SC)(op:Option Addr)(epoch:Int)(pv:SlV)(down:Bool):List Value:=
  [.i sc.c.B,.i sc.c.P,.i sc.c.S,.i sc.c.W,.i sc.sets,.i sc.ways,.i sc.small,.i sc.ghost,.i sc.rate,.i sc.burst,.i sc.seed,
   .p p.m,.p p.nb,.p p.nk,.map (some p.nr),.q op,.i epoch,.slice pv.a pv.len pv.cap,.b down,
   .p p.nq,.p p.ng,.p p.ni]
def stO(p:SP)(s:Sto)(g:SG):Nat×Obj:=(p.n,Obj.cells (stC p s.sc (onp g.on) s.epoch g.pv s.down).toArray 89)
def kO(p:SP)(s:Sto):Nat×Obj:=(p.nk,Bc4 s.bk)
def mO(p:SP)(g:SG):Nat×Obj:=(p.nr,Obj.map g.es g.ck)
def gO(p:SP)(g:SG):Nat×Obj:=(p.ng,g.go)
def SL(p:SP)(s:Sto)(g:SG):A4:=stO p s g::(kO p s::(mO p g::(gO p g::(g.Ad++(g.Ab++(rns g.ns++(rns g.on.toList++(g.pseg++(g.Aq++g.Ai)))))))))
structure SX(p:SP)(s:Sto)(g:SG):Prop where
 cfg:s.d.c=s.sc.c
 dev:FH p.m s.d g.Ad
 blk:BX p.nb s.ss s.us g.Ab
 que:QHd p.nq s.sc.small s.q g.Aq
 gho:GOb s.sc.ghost s.gh g.go
 idx:IX p.ni s.sc.ways s.ix g.Ai
 mp:Mp (Value.i) g.es (Y7 g.all)
 rs:g.ns.map RN.r=s.rs
 op:g.on.map RN.r=s.op
 ok: ∀x∈g.all,x.Ok
 pd:Own g.pv 3 A70 (s.pend.flatMap P8) g.pseg
def Has(L A:A4):Prop:= ∃Y,L.Perm (A++Y)
theorem Reads.has{P:Program}{f:FuncId}{args:Array Value}{L A:A4}{v:Value}(h:Has L A)(r:Reads P f args A v):Reads P f args L v:=by
 obtain⟨Y,hp⟩:=h;intro E F w hw;refine Calls.mono (CallF.frame (R:=Y) r E F w (hw.perm (hp.append_right F))) ?_;rintro e w' ⟨v',L',he,aI,A',rfl,hv,cM⟩;subst hv;rw[cM]at aI;exact⟨v',L,he,aI.perm (hp.symm.append_right F),rfl,rfl⟩
theorem has_of{P:Program}{f:FuncId}{args:Array Value}{L A:A4}{v:Value}(h:Has L A)(r:CallF P f args A fun r L'=>r=v/\L'=A):Reads P f args L v:=Reads.has h r
section
variable {p:SP} {s:Sto} {g:SG} {L R:A4}
theorem SL.st(hp:L.Perm (SL p s g++R)):stO p s g∈L:=hp.symm.subset (by simp[SL])
theorem SL.k(hp:L.Perm (SL p s g++R)):kO p s∈L:=hp.symm.subset (by simp[SL])
theorem SL.m(hp:L.Perm (SL p s g++R)):mO p g∈L:=hp.symm.subset (by simp[SL])
theorem SL.gh(hp:L.Perm (SL p s g++R)):Has L [gO p g]:=⟨stO p s g::(kO p s::(mO p g::(g.Ad++(g.Ab++(rns g.ns++(rns g.on.toList++(g.pseg++(g.Aq++(g.Ai++R))))))))),pc fun z=>by have:=pcn hp z;simp only[SL,B4,C5,D5]at*;omega⟩
theorem SL.d(hp:L.Perm (SL p s g++R)):Has L g.Ad:=⟨stO p s g::(kO p s::(mO p g::(gO p g::(g.Ab++(rns g.ns++(rns g.on.toList++(g.pseg++(g.Aq++(g.Ai++R))))))))),pc fun z=>by have:=pcn hp z;simp only[SL,B4,C5,D5]at*;omega⟩
theorem SL.b(hp:L.Perm (SL p s g++R)):Has L g.Ab:=⟨stO p s g::(kO p s::(mO p g::(gO p g::(g.Ad++(rns g.ns++(rns g.on.toList++(g.pseg++(g.Aq++(g.Ai++R))))))))),pc fun z=>by have:=pcn hp z;simp only[SL,B4,C5,D5]at*;omega⟩
theorem SL.q(hp:L.Perm (SL p s g++R)):Has L g.Aq:=⟨stO p s g::(kO p s::(mO p g::(gO p g::(g.Ad++(g.Ab++(rns g.ns++(rns g.on.toList++(g.pseg++(g.Ai++R))))))))),pc fun z=>by have:=pcn hp z;simp only[SL,B4,C5,D5]at*;omega⟩
theorem SL.i(hp:L.Perm (SL p s g++R)):Has L g.Ai:=⟨stO p s g::(kO p s::(mO p g::(gO p g::(g.Ad++(g.Ab++(rns g.ns++(rns g.on.toList++(g.pseg++(g.Aq++R))))))))),pc fun z=>by have:=pcn hp z;simp only[SL,B4,C5,D5]at*;omega⟩
theorem SL.ps(hp:L.Perm (SL p s g++R)): ∀x∈g.pseg,x∈L:=fun x hx=>hp.symm.subset (by simp[SL,hx])
theorem SL.rn(hp:L.Perm (SL p s g++R)){x:RN}(hx:x∈g.all): ∀y∈x.objs,y∈L:=fun y hy=>hp.symm.subset (by
 rcases Dr5.1 hx with h|h
 ·have:y∈rns g.ns:=Dw7.2 ⟨x,h,hy⟩;simp[SL,this]
 ·have:y∈rns g.on.toList:=Dw7.2 ⟨x,h,hy⟩;simp[SL,this])
theorem F3{k:Nat}{v:Value}(hm:stO p s g∈L)(h:(stC p s.sc (onp g.on) s.epoch g.pv s.down)[k]?=some v):C9 ⟨p.n,k,none⟩ [v] L:=by
 unfold stO at hm;exact ldC hm (by rw[D26];exact h)
theorem Cy0(hm:stO p s g∈L):C9 p.n.z [.i s.sc.c.B,.i s.sc.c.P,.i s.sc.c.S,.i s.sc.c.W] L:=ldB hm rfl
theorem st1{n k:Nat}{cs:List Value}{T:TypeId}{v:Value}{Y:A4}{K:HP}(cs':List Value)(hL:L.Perm ((n,Obj.cells cs.toArray T)::Y))(hk:k<cs.length)(hc:cs.set k v=cs')(h: ∀L',L'.Perm ((n,Obj.cells cs'.toArray T)::Y)->K L'):HL.st ⟨n,k,none⟩ [v] K L:=by
 refine B97 (fz:=(0,0)) hL rfl (by simp only[D74,Dr8,Du7];omega) (.inl (Dq6 _)) cs'.toArray ?_ h;show cs.toArray.setIfInBounds k v=_;rw[List.setIfInBounds_toArray,hc]
end
theorem Ae9{L:A4}{m:Nat}{d:Dev}{A:A4}(hA:Has L A)(h:FH m d A):Reads PP 93 #[.p m] L (.agg #[.i d.c.B,.i d.c.P,.i d.c.S,.i d.c.W]):=has_of hA (Ar6 m d A h)
theorem Bq9(l:List Int)(x:Int):(l++[x]).sum=l.sum+x:=by simp
theorem Co4{l:List Int}{b:Nat}(h: ∀x∈l,0<=x/\x<=b):0<=l.sum/\l.sum<=l.length*b:=by
 induction l with
 |nil=>simp
 |cons a r ih=>
  have h1:=h a (by simp);have h2:=ih fun x hx=>h x (by simp[hx]);rw[Ec7,Dr8,Eb6,Dw3];omega
theorem Bj7{L R:A4}{p:SP}{s:Sto}{g:SG}(hp:L.Perm (SL p s g++R))(X:SX p s g)(hS:s.sc.c.S<=512)(v:SlV)(l:List Int)(hv:ISl L v .i64 l)(hl:l.length<=10)(hb: ∀x∈l,0<=x/\x<=(1000000:Nat)):
  Reads PP 134 #[.q (some ⟨p.n,11,none⟩),.slice v.a v.len v.cap] L (.i (s.cost l.sum)):=by
 unfold Reads;refine(c134 (some ⟨p.n,11,none⟩) v).c ?_;have cR:=hv.len;refine G7 (fun z' z L'=> ∃i:Nat,i<=l.length/\z'=l.length-i/\z=((l.take i).sum,(i:Int),())/\L'=L) l.length ⟨0,by omega,by omega,rfl,rfl⟩ ?_;rintro z' z L' ⟨i,hi,rfl,rfl,eY⟩;rw[eY];dsimp only;have bS: ∀j,0<=(l.take j).sum/\(l.take j).sum<=10000000:=fun j=>by
  have h1:=Co4 (l:=l.take j) (b:=1000000) fun x hx=>hb x (D25 hx);have h2:(l.take j).length<=10:=by rw[Ds0];omega
  generalize (l.take j).sum=t at*;generalize (l.take j).length=u at*;have:(u:Int)*(1000000:Nat)<=10000000:=by omega
  omega
 refine B6 (fun(hO:(i:Int)<v.len)=>?_) (fun(aS: ¬(i:Int)<v.len)=>?_)
 ·have hJ:i<l.length:=by omega
  refine elp_i hv (n:=i) rfl hJ fun a ha=>A6 l[i] ha ?_;have h1:=bS i;have h2:=bS (i+1);have h3:=hb l[i] (Dr7 hJ);refine D6 (by omega) (D6 (by omega) ⟨l.length-(i+1),by omega,i+1,by omega,rfl,?_,rfl⟩);rw[Ds4 hJ,Bq9];rfl
 ·obtain rfl:i=l.length:=by omega
  rw[Ds9];have h1:=bS l.length;rw[Ds9]at h1;refine A5 rfl (A6 (some p.m.z) (F3 (SL.st hp) rfl) (B5 (Ae9 (SL.d hp) X.dev) ((s.d.c.B,s.d.c.P,s.d.c.S,s.d.c.W,()),()) rfl ?_));dsimp only;rw[X.cfg];have h2:0<=l.sum*(s.sc.c.S:Int)/\l.sum*(s.sc.c.S:Int)<=10000000*512:=⟨Dx8 h1.1 (by omega),Int.mul_le_mul h1.2 (by omega) (by omega) (by omega)⟩;exact D6 (by omega) (.of ⟨rfl,rfl⟩)
theorem By0{L R:A4}{p:SP}{s:Sto}{g:SG}(hp:L.Perm (SL p s g++R))(X:SX p s g)(hS:s.sc.c.S<=512)(v:SlV)(l:List Int)(hv:ISl L v .i64 l)(hl:l.length<=10)(hb: ∀x∈l,0<=x/\x<=(1000000:Nat)):
  Reads PP 128 #[.q (some ⟨p.n,11,none⟩),.slice v.a v.len v.cap] L (.b (s.pays l.sum)):=by
 unfold Reads;refine(c128 (some ⟨p.n,11,none⟩) v).c ?_;refine A5 rfl (A6 (some p.nk.z) (F3 (SL.st hp) rfl) ?_);refine B5 (Bm3 L p.nk s.bk (SL.k hp)) (s.bk.tokens,()) rfl ?_;exact B5 (Bj7 hp X hS v l hv hl hb) (s.cost l.sum,()) rfl (.of ⟨rfl,rfl⟩)
theorem Cr0{L R:A4}{p:SP}{s:Sto}{g:SG}(hp:L.Perm (SL p s g++R))(X:SX p s g)(gT: ∀o,s.op=some o->0<=o.nx/\o.nx<=1000)(v:SlV)(l:List Int)(hv:ISl L v .i64 l)(hl:l.length<=10)(hb: ∀x∈l,0<=x/\x<=(1000000:Nat)):
  Reads PP 126 #[.q (some ⟨p.n,11,none⟩),.slice v.a v.len v.cap] L (.b (s.fits l.sum)):=by
 unfold Reads;refine(c126 (some ⟨p.n,11,none⟩) v).c ?_;have bM:=X.op;refine A5 rfl (A6 (onp g.on) (F3 (SL.st hp) rfl) ?_);cases iU:g.on with
 |none=>
  refine ifT rfl (.of ⟨?_,rfl⟩);rw[iU]at bM;unfold Sto.fits;rw[<-bM];rfl
 |some x=>
  rw[iU]at bM;have hx:=gT x.r bM.symm;have aB:x∈g.all:=by unfold SG.all;rw[iU];simp
  have hm:x.o∈L:=SL.rn hp aB _ (by unfold RN.objs;exact Dq7);refine ifF rfl (A6 x.ptr (F3 (SL.st hp) (by rw[iU];rfl)) (A5 (a:=x.id.z) rfl ?_));refine A6 x.r.nx (ldB (n:=x.id) (off:=2) hm rfl) ?_;have cR:=hv.len;refine G7 (fun z' z L'=> ∃i:Nat,i<=l.length/\z'=l.length-i/\z=(x.r.nx+(l.take i).sum,(i:Int),())/\L'=L) l.length ⟨0,by omega,by omega,by simp,rfl⟩ ?_;rintro z' z L' ⟨i,hi,rfl,rfl,eY⟩;rw[eY];dsimp only;have bS: ∀j,0<=(l.take j).sum/\(l.take j).sum<=10000000:=fun j=>by
   have h1:=Co4 (l:=l.take j) (b:=1000000) fun x hx=>hb x (D25 hx);have h2:(l.take j).length<=10:=by rw[Ds0];omega
   generalize (l.take j).sum=t at*;generalize (l.take j).length=u at*;have:(u:Int)*(1000000:Nat)<=10000000:=by omega
   omega
  refine B6 (fun(hO:(i:Int)<v.len)=>?_) (fun(aS: ¬(i:Int)<v.len)=>?_)
  ·have hJ:i<l.length:=by omega
   refine elp_i hv (n:=i) rfl hJ fun a ha=>A6 l[i] ha ?_;have h1:=bS i;have h2:=bS (i+1);have h3:=hb l[i] (Dr7 hJ);refine D6 (by omega) (D6 (by omega) ⟨l.length-(i+1),by omega,i+1,by omega,rfl,?_,rfl⟩);rw[Ds4 hJ,Bq9,Int.add_assoc];rfl
  ·obtain rfl:i=l.length:=by omega
   rw[Ds9];refine A6 (some p.m.z) (F3 (SL.st hp) rfl) (B5 (Ae9 (SL.d hp) X.dev) ((s.d.c.B,s.d.c.P,s.d.c.S,s.d.c.W,()),()) rfl (.of ⟨?_,rfl⟩));unfold Sto.fits;rw[<-bM,X.cfg];rfl
def SK(p:SP)(w:Sto×Int)(R:A4)(r:Value)(L':A4):Prop:= ∃g',L'=SL p w.1 g'++R/\SX p w.1 g'/\r= .i w.2
def WK(p:SP)(w:Sto×It×Int)(ns:List RN)(R:A4)(r:Value)(L':A4):Prop:= ∃g',L'=SL p w.1 g'++R/\SX p w.1 g'/\g'.ns=ns/\r= .t #[.agg (ki3 w.2.1),.i w.2.2]
section
variable {p:SP} {s:Sto} {g:SG} {L R:A4}
theorem Ab8(hp:L.Perm (SL p s g++R))(key:ByteArray)(hk:key.size<=1000000):Reads PP 41 #[.p p.n,.w key] L (.int .u64 (s.hash key:Nat)):=by
 unfold Reads;refine(c41 (some p.n.z) key).c ?_;exact A5 rfl (A6 s.sc.seed (F3 (SL.st hp) rfl) (B5 (C24 L s.sc.seed key hk) (((s.hash key:Nat):Int),()) rfl (.of ⟨rfl,rfl⟩)))
theorem A49(s:Sto)(key:ByteArray):s.hash key<2^64:=by unfold Sto.hash;exact BitVec.isLt _
theorem Cf6(hp:L.Perm (SL p s g++R)):Reads PP 57 #[.p p.n] L (.b (!s.down)):=by
 unfold Reads;refine(c57 (some p.n.z)).c ?_;exact ifF rfl (A5 rfl (A6 s.down (F3 (SL.st hp) rfl) (.of ⟨rfl,rfl⟩)))
theorem size0(key:ByteArray):key=ByteArray.mk #[]↔key.size=0:=by
 constructor
 ·rintro rfl;rfl
 ·intro h;cases key with
  |mk d=>
   have:d.size=0:=h;rw[Array.size_eq_zero_iff]at this;rw[this]
theorem Ad7(hp:L.Perm (SL p s g++R))(key:ByteArray):Reads PP 39 #[.p p.n,.w key] L (.i (s.asked key)):=by
 unfold Reads;refine(c39 (some p.n.z) key).c ?_;refine ifF rfl (A5 rfl (A6 s.down (F3 (SL.st hp) rfl) ?_));unfold Sto.asked;refine G1 (fun h=>?_) (fun h=>?_)
 ·rw[Dq5 h];exact .of ⟨rfl,rfl⟩
 ·rw[Dq4 (by rw[h];decide)];refine B6 (fun h0=>?_) (fun h0=>?_)
  ·rw[Dq5 (.inl ((size0 key).1 h0))];exact .of ⟨rfl,rfl⟩
  ·refine B6 (fun(h1:(key.size:Int)>255)=>?_) (fun(h1: ¬(key.size:Int)>255)=>?_)
   ·rw[Dq5 (.inr (by omega))];exact .of ⟨rfl,rfl⟩
   ·rw[Dq4 (by rintro(h2|h2);exact h0 ((size0 key).2 h2);omega)];exact .of ⟨rfl,rfl⟩
end
theorem Bw4{p:SP}{s:Sto}{g:SG}{L Y:A4}{k:Nat}{v:Value}{K:HP}(s':Sto)(g':SG)(hL:L.Perm (stO p s g::Y))(hk:k<22)(hc:(stC p s.sc (onp g.on) s.epoch g.pv s.down).set k v=stC p s'.sc (onp g'.on) s'.epoch g'.pv s'.down)(h: ∀L',L'.Perm (stO p s' g'::Y)->K L'):HL.st ⟨p.n,k,none⟩ [v] K L:=by
 unfold stO at hL;exact st1 (stC p s'.sc (onp g'.on) s'.epoch g'.pv s'.down) hL (by simpa[stC]using hk) hc h
theorem B28(p:SP)(s:Sto)(g:SG)(X:SX p s g)(e:Int):CallF PP 136 #[.q (some ⟨p.n,11,none⟩),.i e] (SL p s g) (fun r L'=>L'=SL p (s.met e) g/\SX p (s.met e) g/\r= .i e):=by
 refine(c136 (some ⟨p.n,11,none⟩) e).c ?_;have fin: ∀(b:Bool),b=(s.met e).down->HL.st ⟨p.n,18,none⟩ [.b b] (HL.Ends (fun r L'=>L'=SL p (s.met e) g/\SX p (s.met e) g/\r= .i e) (.i e)) (SL p s g):=fun b hb=>by
  refine Bw4 (s.met e) g (Dq8 _) (by decide) (by rw[hb];rfl) fun L' eY=>?_;exact .drop (A:=SL p (s.met e) g) (J:=[]) ⟨rfl,{X with cfg:=X.cfg,dev:=X.dev,blk:=X.blk},rfl⟩ (by rw[Dr3];exact eY)
 refine A5 rfl (A6 s.down (F3 (s:=s) (g:=g) (k:=18) (by simp[SL]) rfl) (G1 (fun h=>?_) (fun h=>?_)))
 ·exact fin true (by unfold Sto.met;rw[h];rfl)
 ·refine fin _ ?_;unfold Sto.met;rw[h,Bool.false_or];rfl
theorem Bw6(p:SP)(s:Sto)(g:SG)(X:SX p s g)(e:Int):CallF PP 136 #[.q (some ⟨p.n,11,none⟩),.i e] (SL p s g) (SK p (s.met e,e) []):=
 CallF.imp (B28 p s g X e) fun r L' ⟨h1,h2,h3⟩=>⟨g,by rw[h1,Dr3],h2,h3⟩
theorem Bw5{p:SP}{s:Sto}{g:SG}{L R:A4}(hp:L.Perm (SL p s g++R))(hb:s.bk.Ok)(n:Int){rs:List Sh}{k:RsV rs->HP}(r:RsV rs)(hr:Value.b (Av0 s.bk (s.cost n))=Ah7 rs r)(hk: ∀L',L'.Perm (SL p (s.pay n) g++R)->k r L'):
  cl PP 133 #[.p p.nk,.i (s.cost n)] rs k L:=by
 refine G5 (Df2 p.nk s.bk hb (s.cost n)) (R:=stO p s g::(mO p g::(gO p g::(g.Ad++(g.Ab++(rns g.ns++(rns g.on.toList++(g.pseg++(g.Aq++(g.Ai++R)))))))))) (pc fun z=>by have:=pcn hp z;simp only[SL,kO,B4,C5,D5]at*;omega) ?_;rintro _ _ ⟨rfl,rfl⟩;refine⟨_,Dq8 _,r,hr,hk _ (pc fun z=>?_)⟩;have e1:kO p (s.pay n)=(p.nk,Bc4 (Af0 s.bk (s.cost n))):=rfl;have e2:stO p (s.pay n) g=stO p s g:=rfl;simp only[SL,e1,e2,B4,C5,D5];omega
theorem SX.pay{p:SP}{s:Sto}{g:SG}(X:SX p s g)(n:Int):SX p (s.pay n) g:={X with cfg:=X.cfg,dev:=X.dev,blk:=X.blk}
theorem Do5(s:Sto)(n:Int):s.cost n=s.cost [n].sum:=by simp
theorem A01(p:SP)(s:Sto)(g:SG)(X:SX p s g)(hS:s.sc.c.S<=512)(hb:s.bk.Ok)(R:A4)(u:SlV)(l:List PV)(hu:Z0 R u l)(hl:l.length<=1000000)(G:DG s.d l.length)(o:Reg)(ho:s.op=some o)(gT:0<=o.nx/\o.nx<=1000)(lL:o.l.length<=1000)(kind:Int):
  CallF PP 64 #[.q (some ⟨p.n,11,none⟩),.i kind,.slice u.a u.len u.cap] (SL p s g++R) (WK p (s.write kind (l.map Prod.snd)) g.ns R):=by
 refine(c64 (some ⟨p.n,11,none⟩) kind u).c ?_;obtain⟨x,hx,rfl⟩: ∃x,g.on=some x/\x.r=o:=by
  have:=X.op;rw[ho]at this;cases h:g.on with
  |none=>rw[h]at this;cases this
  |some x=>rw[h]at this;exact⟨x,rfl,Dq9 this⟩
 have aB:x∈g.all:=by unfold SG.all;rw[hx];simp
 have eZ:=hu.len;have bY: ∀{s':Sto} {L R':A4},L.Perm (SL p s' g++R')->x.o∈L:=fun hp=>SL.rn hp aB _ (by unfold RN.objs;exact Dq7);refine A5 rfl (A6 x.ptr (F3 (s:=s) (g:=g) (k:=15) (by simp[SL]) (by rw[hx];rfl)) (A6 (some p.nk.z) (F3 (s:=s) (g:=g) (k:=13) (by simp[SL]) rfl) ?_));refine C4 fun n2 _=>?_;obtain⟨c2,cK⟩: ∃c2:Nat×Obj,c2=(n2,Obj.cells #[.i u.len] 3):=⟨_,rfl⟩;rw[<-cK];have aL:(c2::(SL p s g++R)).Perm (SL p s g++(c2::R)):=pc fun z=>by simp only[B4,C5];omega
 have mD:(n2,Obj.cells (ivs .i64 [(u.len:Int)]).toArray 3)∈c2::(SL p s g++R):=by rw[cK];exact Dq7
 refine B5 (Bj7 aL X hS ⟨some n2.z,1,1⟩ [(u.len:Int)] (ISl.const 1 (by simp) mD) (by simp) (fun y hy=>by rw[Dr2.1 hy];omega)) (s.cost (u.len:Int),()) (by rw[<-Do5];rfl) ?_;refine F7 (F3 (SL.st aL) rfl) ?_;refine Bw5 aL hb (u.len:Int) (Av0 s.bk (s.cost u.len),()) rfl fun L2 aH=>?_;have X2:=X.pay (u.len:Int);have eR:=bY aH;refine A5 (a:=x.id.z) rfl ?_;have f0: ∀{L:A4},x.o∈L->C9 x.id.z [.i x.r.b] L:=fun hm=>ldB hm rfl;have f1: ∀{L:A4},x.o∈L->C9 ⟨x.id,1,none⟩ [.i x.r.ep] L:=fun hm=>ldB hm rfl;have f2: ∀{L:A4},x.o∈L->C9 ⟨x.id,2,none⟩ [.i x.r.nx] L:=fun hm=>ldB hm rfl;have f3: ∀{L:A4},x.o∈L->C9 ⟨x.id,3,none⟩ [.slice x.v.a x.v.len x.v.cap] L:=fun hm=>ldB hm rfl;refine A6 x.r.b (f0 eR) (A6 x.r.nx (f2 eR) (A6 x.r.ep (f1 eR) ?_));refine A6 (some p.m.z) (F3 (SL.st aH) rfl) (A6 x.r.b (f0 eR) (A6 x.r.ep (f1 eR) (A6 x.r.nx (f2 eR) ?_)));have hG:DG (s.pay u.len).d l.length:=G;refine Au8 (Cu7 p.m (s.pay u.len).d g.Ad (stO p s g::(kO p (s.pay u.len)::(mO p g::(gO p g::(g.Ab++(rns g.ns++(rns g.on.toList++(g.pseg++(g.Aq++(g.Ai++(c2::R))))))))))) X2.dev u l (hu.mono fun y hy=>by simp[hy]) hl hG x.r.b x.r.ep x.r.nx kind (Bd3 (by omega)))
  (pc fun z=>by have:=pcn aH z;simp only[SL,show stO p (s.pay (u.len:Int)) g=stO p s g from rfl,B4,C5,D5]at*;omega) ?_
 rintro _ _ ⟨A',rfl,rfl,cM⟩;have e0:(s.pay (u.len:Int)).d=s.d:=rfl;rw[e0]at cM;refine⟨((Ah3 s.d x.r.b x.r.ep x.r.nx kind (l.map Prod.snd)).1,()),by rw[e0];rfl,?_⟩;have hw:s.write kind (l.map Prod.snd)=(if(Ah3 s.d x.r.b x.r.ep x.r.nx kind (l.map Prod.snd)).1≠0 then(((s.pay (l.map Prod.snd).length).dev (Ah3 s.d x.r.b x.r.ep x.r.nx kind (l.map Prod.snd)).2).met (Ah3 s.d x.r.b x.r.ep x.r.nx kind (l.map Prod.snd)).1,(x.r.b,x.r.nx,x.r.ep,()),(Ah3 s.d x.r.b x.r.ep x.r.nx kind (l.map Prod.snd)).1)
   else({(s.pay (l.map Prod.snd).length).dev (Ah3 s.d x.r.b x.r.ep x.r.nx kind (l.map Prod.snd)).2 with op:=some (x.r.grown kind (l.map Prod.snd).length)},(x.r.b,x.r.nx,x.r.ep,()),0)):=by
  unfold Sto.write;rw[ho]
 have cu:(l.map Prod.snd).length=u.len:=by rw[Dr1];omega
 rw[hw,cu];have kZ:(Ah3 s.d x.r.b x.r.ep x.r.nx kind (l.map Prod.snd)).2.c=s.d.c:=appR_c s.d x.r.b x.r.ep x.r.nx kind (l.map Prod.snd);generalize Ah3 s.d x.r.b x.r.ep x.r.nx kind (l.map Prod.snd)=q at cM kZ;obtain⟨s2,aJ⟩: ∃s2,s2=(s.pay (u.len:Int)).dev q.2:=⟨_,rfl⟩;have g2X:SX p s2 {g with Ad:=A'}:=by subst aJ;exact{X2 with cfg:=kZ.trans X.cfg,dev:=cM,blk:=X2.blk}
 have aZ:(A'++(stO p s g::(kO p (s.pay u.len)::(mO p g::(gO p g::(g.Ab++(rns g.ns++(rns g.on.toList++(g.pseg++(g.Aq++(g.Ai++(c2::R)))))))))))).Perm (SL p s2 {g with Ad:=A'}++(c2::R)):=by
  subst aJ;exact pc fun z=>by
   simp only[SL,show stO p ((s.pay (u.len:Int)).dev q.2) {g with Ad:=A'}=stO p s g from rfl,show kO p ((s.pay (u.len:Int)).dev q.2)=kO p (s.pay (u.len:Int))from rfl,show mO p {g with Ad:=A'}=mO p g from rfl,show gO p {g with Ad:=A'}=gO p g from rfl,B4,C5,D5];omega
 generalize A'++(stO p s g::(kO p (s.pay u.len)::(mO p g::(gO p g::(g.Ab++(rns g.ns++(rns g.on.toList++(g.pseg++(g.Aq++(g.Ai++(c2::R)))))))))))=L3 at aZ;rw[<-aJ];refine B6 (fun(h0:q.1=0)=>?_) (fun(h0: ¬q.1=0)=>?_)
 ·rw[Dq4 (by simpa using h0)];have vH:x∈({g with Ad:=A'}:SG).all:=aB;have lP:x.o∈L3:=SL.rn aZ vH _ (by unfold RN.objs;exact Dq7);refine A6 x.v (f3 lP) (A6 x.r.nx (f2 lP) ?_);have aA:=X.ok x aB;have cR:=aA.sl.els_len E3 (by decide);have xR:rns g.on.toList=x.o::x.seg:=by rw[hx];exact As8 x
  refine Am5 B06 Cg2 aA (Y:=stO p s2 {g with Ad:=A'}::(kO p s2::(mO p g::(gO p g::(A'++(g.Ab++(rns g.ns++(x.o::(g.pseg++(g.Aq++(g.Ai++(c2::R)))))))))))) (ws:=P8 (kind,x.r.nx,(u.len:Int),())) (pc fun z=>by
    have:=pcn aZ z;simp only[SL,xR,show mO p {g with Ad:=A'}=mO p g from rfl,show gO p {g with Ad:=A'}=gO p g from rfl,B4,C5,D5]at*;omega) rfl rfl (by omega) fun s1 seg1 fK own1=>?_
  refine st1 (n:=x.id) (k:=3) [.i x.r.b,.i x.r.ep,.i x.r.nx,.slice s1.a s1.len s1.cap] (cs:=[.i x.r.b,.i x.r.ep,.i x.r.nx,.slice x.v.a x.v.len x.v.cap]) (T:=156) (Y:=stO p s2 {g with Ad:=A'}::(kO p s2::(mO p g::(gO p g::(A'++(g.Ab++(rns g.ns++(seg1++(g.pseg++(g.Aq++(g.Ai++(c2::R)))))))))))) (pc fun z=>by
    rw[show x.o=(x.id,Obj.cells [Value.i x.r.b,.i x.r.ep,.i x.r.nx,.slice x.v.a x.v.len x.v.cap].toArray 156)from rfl];simp only[B4,C5,D5];omega) (by simp) rfl fun L4 dB=>?_
  have yJ:=dB.symm.subset Dq7;refine A6 x.r.nx (ldB (n:=x.id) (off:=2) yJ rfl) (D6 (by omega) ?_);refine st1 (n:=x.id) (k:=2) [.i x.r.b,.i x.r.ep,.i (x.r.nx+u.len),.slice s1.a s1.len s1.cap] dB (by simp) rfl fun L5 jT=>?_;obtain⟨x',aX⟩: ∃x':RN,x'=⟨x.r.grown kind u.len,x.id,s1,seg1⟩:=⟨_,rfl⟩;have bU:x'.o=(x.id,Obj.cells [Value.i x.r.b,.i x.r.ep,.i (x.r.nx+u.len),.slice s1.a s1.len s1.cap].toArray 156):=by rw[aX];rfl
  obtain⟨g',cX⟩: ∃g':SG,g'={g with Ad:=A',on:=some x'}:=⟨_,rfl⟩;have aP:stO p {s2 with op:=some (x.r.grown kind u.len)} g'=stO p s2 {g with Ad:=A'}:=by
   unfold stO;rw[cX];have:onp (some x')=onp g.on:=by rw[hx,aX];rfl
   simp only[this]
  refine .drop (A:=SL p {s2 with op:=some (x.r.grown kind u.len)} g'++R) (J:=[c2]) ⟨g',rfl,?_,by rw[cX],rfl⟩ (pc fun z=>?_)
  ·subst cX;have qD:Y7 (g.ns++(some x').toList)=Y7 (g.ns++g.on.toList):=by
    unfold Y7;rw[hx,Ds2,Ds2,aX];rfl
   have cA:({s2 with op:=some (x.r.grown kind u.len)}:Sto).us=s2.us:=by
    unfold Sto.us;rw[aJ];show s.rs.map Reg.b++_=s.rs.map Reg.b++(s.op.map Reg.b).toList;rw[ho];rfl
   refine⟨g2X.cfg,g2X.dev,by rw[cA];exact g2X.blk,g2X.que,g2X.gho,g2X.idx,?_,g2X.rs,by rw[aX];rfl,?_,g2X.pd⟩
   ·show Mp _ g.es (Y7 (g.ns++(some x').toList));rw[qD];exact X.mp
   ·intro y hy;rcases Dr5.1 hy with hy|hy
    ·exact X.ok y (Ds8 _ hy)
    ·rw[Dr2.1 hy,aX];unfold RN.Ok;show Own s1 3 Cc7 ((x.r.l++[(kind,x.r.nx,(u.len:Int),())]).flatMap P8) seg1;rw[Dt3,Dx7];exact own1
  ·have h5:=pcn jT z;rw[<-bU]at h5;have xQ:rns g'.on.toList=x'.o::seg1:=by rw[cX];refine(As8 x').trans ?_;unfold RN.objs;rw[aX]
   have fA:kO p ({s2 with op:=some (x.r.grown kind u.len)}:Sto)=kO p s2:=rfl;simp only[SL,aP,xQ,fA,B4,C5,D5];simp only[cX,show mO p ({g with Ad:=A',on:=some x'}:SG)=mO p g from rfl,show gO p ({g with Ad:=A',on:=some x'}:SG)=gO p g from rfl,B4,C5,D5]at*;omega
 ·rw[Dq5 (by simpa using h0)];refine G5 (B28 p s2 {g with Ad:=A'} g2X q.1) aZ ?_;rintro _ _ ⟨eY,X',rfl⟩;rw[eY];exact⟨_,Dq8 _,(q.1,()),rfl,.drop (A:=SL p (s2.met q.1) {g with Ad:=A'}++R) (J:=[c2]) ⟨{g with Ad:=A'},rfl,X',rfl,rfl⟩ (pc fun z=>by simp only[B4,C5,D5];omega)⟩
theorem mapR:Cv5 PP 79 3 80 (Value.i) (.q none):=Bg3 (by kernel_rfl) (keyInt (by kernel_rfl)) (by kernel_rfl)
theorem A33{κ:Type}[DecidableEq κ]: ∀(m:List (κ×Value)) (k:κ) (v:Value),k∉m.map Prod.fst->A79 m k v=m++[(k,v)]
 |[],k,v,_=>rfl
 |p::r,k,v,h=>by
  rw[Ds3,Dt5,Du4]at h;rw[A79,Dq4 h.1,A33 r k v h.2];rfl
theorem Bq3{κ:Type}[DecidableEq κ]: ∀(m:List (κ×Value)) (k:κ),(m.map Prod.fst).Nodup->Bl0 m k=m.filter fun p=> !decide (p.1=k)
 |[],k,_=>rfl
 |p::r,k,h=>by
  rw[Ds3,Dv9]at h;rw[Bl0];by_cases e:k=p.1
  ·rw[Dq5 e,List.filter_cons_of_neg (by simp[e])];symm;rw[Dz9];intro q hq;have:q.1≠k:=fun e2=>h.1 (e▸e2▸Du6 hq);simp[this]
  ·rw[Dq4 e,List.filter_cons_of_pos (by simp[Ne.symm e]),Bq3 r k h.2]
theorem A96(l:List RN):(Y7 l).map Prod.fst=(l.map RN.r).map Reg.b:=by unfold Y7;rw[Dv2,Dv2];rfl
theorem SX.keys{p:SP}{s:Sto}{g:SG}(X:SX p s g):(Y7 g.all).map Prod.fst=s.us:=by
 rw[A96];unfold SG.all Sto.us;rw[Ds2,Ds2,X.rs,<-X.op];cases g.on<;>rfl
theorem SX.one{p:SP}{s:Sto}{g:SG}(X:SX p s g){o:Reg}(ho:s.op=some o): ∃x,g.on=some x/\x.r=o:=by
 have:=X.op;rw[ho]at this;cases h:g.on with
 |none=>rw[h]at this;cases this
 |some x=>rw[h]at this;exact⟨x,rfl,Dq9 this⟩
theorem SX.non{p:SP}{s:Sto}{g:SG}(X:SX p s g)(ho:s.op=none):g.on=none:=by
 have:=X.op;rw[ho]at this;cases h:g.on with
 |none=>rfl
 |some x=>rw[h]at this;cases this
theorem Cy2(p:SP)(s:Sto)(g:SG)(X:SX p s g)(hS:s.sc.c.S<=512)(hb:s.bk.Ok)(G:DG s.d 1)(lL: ∀o,s.op=some o->o.l.length<=300):
  CallF PP 188 #[.q (some ⟨p.n,11,none⟩)] (SL p s g) (SK p s.seals []):=by
 refine(c188 (some ⟨p.n,11,none⟩)).c ?_;refine A5 rfl (A6 (onp g.on) (F3 (s:=s) (g:=g) (k:=15) (by simp[SL]) rfl) ?_);cases ho:s.op with
 |none=>
  have hn:=X.non ho;refine ifT (by rw[hn];rfl) (.of ?_);have e:s.seals=(s,0):=by unfold Sto.seals;rw[ho]
  rw[e];exact⟨g,by simp,X,rfl⟩
 |some o=>
  obtain⟨x,hx,rfl⟩:=X.one ho;have aB:x∈g.all:=by unfold SG.all;rw[hx];simp
  refine ifF (by rw[hx];rfl) ?_;obtain⟨s0,dH⟩: ∃s0:Sto,s0={s with op:=none,rs:=s.rs++[x.r]}:=⟨_,rfl⟩;obtain⟨g0,fW⟩: ∃g0:SG,g0={g with ns:=g.ns++[x],on:=none}:=⟨_,rfl⟩;have oT:g0.all=g.all:=by rw[fW];unfold SG.all;rw[hx];simp
  have cA:s0.us=s.us:=by rw[dH];unfold Sto.us;rw[ho];simp
  have X0:SX p s0 g0:=by
   refine⟨by rw[dH];exact X.cfg,by rw[dH,fW];exact X.dev,?_,by rw[dH,fW];exact X.que,by rw[dH,fW];exact X.gho,by rw[dH,fW];exact X.idx,?_,by rw[dH,fW];simp[X.rs],by rw[dH,fW];rfl,by rw[oT];exact X.ok,by rw[dH,fW];exact X.pd⟩
   ·rw[cA];have e1:s0.ss=s.ss:=by rw[dH]
    have e2:g0.Ab=g.Ab:=by rw[fW]
    rw[e1,e2];exact X.blk
   ·rw[oT];have e2:g0.es=g.es:=by rw[fW]
    rw[e2];exact X.mp
  have xR:rns g.on.toList=x.objs:=by rw[hx];exact As8 x
  refine Bw4 (s:=s) (g:=g) (k:=15) s0 g0 (Y:=kO p s::(mO p g::(gO p g::(g.Ad++(g.Ab++(rns g.ns++(x.objs++(g.pseg++(g.Aq++g.Ai))))))))) (by unfold SL;rw[xR]) (by decide) (by rw[dH,fW];rfl) fun L1 aL=>?_;have aL:L1.Perm (SL p s0 g0++[]):=pc fun z=>by
   have:=pcn aL z;have e1:kO p s0=kO p s:=by rw[dH];rfl
   have e2:mO p g0=mO p g:=by rw[fW];rfl
   have e3:gO p g0=gO p g:=by rw[fW];rfl
   have e4:rns g0.ns=rns g.ns++x.objs:=by rw[fW];show rns (g.ns++[x])=_;rw[Ci3,As8]
   have e5:rns g0.on.toList=[]:=by rw[fW];rfl
   have e6:g0.Ad=g.Ad/\g0.Ab=g.Ab/\g0.pseg=g.pseg/\g0.Aq=g.Aq/\g0.Ai=g.Ai:=by rw[fW];exact⟨rfl,rfl,rfl,rfl,rfl⟩
   simp only[SL,e1,e2,e3,e4,e5,e6.1,e6.2.1,e6.2.2.1,e6.2.2.2.1,e6.2.2.2.2,B4,C5,D5]at*;omega
  have hS0:s0.sc.c.S<=512:=by rw[dH];exact hS
  have eM:s0.bk.Ok:=by rw[dH];exact hb
  refine A6 (some p.nk.z) (F3 (SL.st aL) rfl) (C4 fun n1 _=>?_);obtain⟨c2,cK⟩: ∃c2:Nat×Obj,c2=(n1,Obj.cells #[.i 1] 3):=⟨_,rfl⟩;rw[<-cK];have aH:(c2::L1).Perm (SL p s0 g0++[c2]):=pc fun z=>by have:=pcn aL z;simp only[B4,C5,D5]at*;omega
  have mD:(n1,Obj.cells (ivs .i64 [(1:Int)]).toArray 3)∈c2::L1:=by rw[cK];exact Dq7
  refine B5 (Bj7 aH X0 hS0 ⟨some n1.z,1,1⟩ [(1:Int)] (ISl.const 1 (by simp) mD) (by simp) (fun y hy=>by rw[Dr2.1 hy];omega)) (s0.cost 1,()) (by rw[<-Do5];rfl) ?_;refine F7 (F3 (SL.st aH) rfl) ?_;refine Bw5 aH eM 1 (Av0 s0.bk (s0.cost 1),()) rfl fun L3 aZ=>?_;have X3:=X0.pay 1;have vI:x∈g0.all:=by rw[oT];exact aB
  have lP:x.o∈L3:=SL.rn aZ vI _ (by unfold RN.objs;exact Dq7);refine A5 (a:=x.id.z) (by rw[hx];rfl) (A6 (some p.m.z) (F3 (SL.st aZ) rfl) ?_);refine A6 x.r.b (ldB (n:=x.id) (off:=0) lP rfl) (A6 x.r.ep (ldB (n:=x.id) (off:=1) lP rfl) (A6 x.r.nx (ldB (n:=x.id) (off:=2) lP rfl) (A6 x.v (ldB (n:=x.id) (off:=3) lP rfl) ?_)));have aA:=X.ok x aB;have wM:(s0.pay 1).d=s.d:=by rw[dH];rfl
  have aN: ∀y∈x.seg,y∈rns g0.ns:=fun y hy=>by rw[fW];exact Dw7.2 ⟨x,by simp,by unfold RN.objs;simp[hy]⟩
  refine Au8 (Ch2 p.m (s0.pay 1).d g0.Ad (stO p (s0.pay 1) g0::(kO p (s0.pay 1)::(mO p g0::(gO p g0::(g0.Ab++(rns g0.ns++(rns g0.on.toList++(g0.pseg++(g0.Aq++(g0.Ai++[c2])))))))))) X3.dev x.v x.r.l (aA.sl.mono fun y hy=>by simp[aN y hy]) (lL x.r ho) (by rw[wM];exact G) x.r.b x.r.ep x.r.nx)
   (pc fun z=>by have:=pcn aZ z;simp only[SL,B4,C5,D5]at*;omega) ?_
  rw[wM];rintro _ _ ⟨A',rfl,rfl,cM⟩;refine⟨((T2 s.d x.r.b x.r.ep x.r.nx x.r.l).1,()),rfl,?_⟩;have kZ:(T2 s.d x.r.b x.r.ep x.r.nx x.r.l).2.c=s.d.c:=Dg7 ..;have hw:s.seals=(({(s.pay 1).dev (T2 s.d x.r.b x.r.ep x.r.nx x.r.l).2 with op:=none,rs:=s.rs++[x.r]}).met (T2 s.d x.r.b x.r.ep x.r.nx x.r.l).1,(T2 s.d x.r.b x.r.ep x.r.nx x.r.l).1):=by
   unfold Sto.seals;rw[ho]
  rw[hw];generalize T2 s.d x.r.b x.r.ep x.r.nx x.r.l=q at cM kZ;obtain⟨s2,aJ⟩: ∃s2:Sto,s2={(s.pay 1).dev q.2 with op:=none,rs:=s.rs++[x.r]}:=⟨_,rfl⟩;have e2:s2=(s0.pay 1).dev q.2:=by rw[aJ,dH];rfl
  have X2:SX p s2 {g0 with Ad:=A'}:=by rw[e2];exact{X3 with cfg:=by rw[show((s0.pay 1).dev q.2).d=q.2 from rfl,kZ,dH];exact X.cfg,dev:=cM,blk:=X3.blk}
  rw[<-aJ];refine G5 (Bw6 p s2 {g0 with Ad:=A'} X2 q.1) (R:=[c2]) (pc fun z=>?_) ?_
  ·rw[e2];simp only[SL,show stO p ((s0.pay 1).dev q.2) {g0 with Ad:=A'}=stO p (s0.pay 1) g0 from rfl,show kO p ((s0.pay 1).dev q.2)=kO p (s0.pay 1)from rfl,show mO p {g0 with Ad:=A'}=mO p g0 from rfl,show gO p {g0 with Ad:=A'}=gO p g0 from rfl,B4,C5,D5];omega
  ·rintro _ _ ⟨g',eY,X',rfl⟩;exact⟨_,Dq8 _,(q.1,()),rfl,.drop (A:=SL p (s2.met q.1) g') (J:=[c2]) ⟨g',by simp,X',rfl⟩ (by rw[eY,Dr3])⟩
theorem A91{p:SP}{s:Sto}{g:SG}{L R:A4}(hp:L.Perm (SL p s g++R))(X:SX p s g)(bV:s.us.Nodup):
  Reads PP 186 #[.q (some ⟨p.n,11,none⟩)] L (.q (match g.ns with|[]=>none|x::_=>x.ptr)):=by
 unfold Reads;refine(c186 (some ⟨p.n,11,none⟩)).c ?_;refine A5 rfl (A6 (some p.nb.z) (F3 (SL.st hp) rfl) ?_);refine B5 (Reads.has (SL.b hp) (Cd2 p.nb s.ss s.us g.Ab X.blk)) (s.us.headD 0,decide (s.us≠[]),()) rfl ?_;have hk:=X.keys;have lk:=Aq0 (P:=PP) mapR (SL.m hp) X.mp (s.us.headD 0);have cA:s.us=(g.ns.map fun x=>x.r.b)++(g.on.map fun x=>x.r.b).toList:=by
  unfold Sto.us;rw[<-X.rs,<-X.op,Dv2,D86];rfl
 refine W2 (fun _ L'=>L'=L/\ ∃x r,g.ns=x::r) ?_ ?_
 ·rintro _ _ ⟨rfl,x,r,cN⟩;refine A6 (some p.nr) (F3 (SL.st hp) rfl) ?_;refine⟨(x.ptr,()),?_,.of ⟨by rw[cN],rfl⟩⟩;have:(A36 (Y7 g.all) (s.us.headD 0)).getD (.q none)= .q x.ptr:=by
   rw[cA,cN];unfold SG.all Y7;rw[cN,Dt7,Ds3,S4];simp
  rw[this]at lk;exact lk
 ·intro j hj;refine G1 (fun(h:decide (s.us≠[])=true)=>?_) (fun(h:decide (s.us≠[])=false)=>?_)
  ·have aE:=Dv5 h;refine A6 (onp g.on) (F3 (SL.st hp) rfl) ?_;cases iU:g.on with
   |none=>
    refine ifT rfl (hj _ _ ⟨rfl,?_⟩);cases cN:g.ns with
    |nil=>rw[cA,cN,iU]at aE;exact absurd rfl aE
    |cons x r=>exact⟨x,r,rfl⟩
   |some y=>
    have aB:y∈g.all:=by unfold SG.all;rw[iU];simp
    have hm:y.o∈L:=SL.rn hp aB _ (by unfold RN.objs;exact Dq7);refine ifF rfl (A6 y.ptr (F3 (SL.st hp) (by rw[iU];rfl)) (A5 (a:=y.id.z) rfl (A6 y.r.b (ldB (n:=y.id) (off:=0) hm rfl) ?_)));refine B6 (fun(he:y.r.b=s.us.headD 0)=>?_) (fun(he: ¬y.r.b=s.us.headD 0)=>?_)
    ·cases cN:g.ns with
     |nil=>exact .of ⟨rfl,rfl⟩
     |cons x r=>
      rw[cA,cN,iU]at he bV;simp at he bV;exact absurd he (fun e=>bV.1.2 e.symm)
    ·cases cN:g.ns with
     |nil=>
      rw[cA,cN,iU]at he;simp at he
     |cons x r=>exact hj _ _ ⟨rfl,x,r,cN⟩
  ·have hn:s.us=[]:=by
    have:=D24 h;exact Dt6.1 this
   rw[cA]at hn;cases cN:g.ns with
   |nil=>exact .of ⟨rfl,rfl⟩
   |cons x r=>rw[cN]at hn;simp at hn
theorem Ch6(p:SP)(s:Sto)(g:SG)(X:SX p s g)(hS:s.sc.c.S<=512)(hb:s.bk.Ok)(G:DG s.d 1)(bM:s.op=none)(bX:0<=s.epoch/\s.epoch<=1073741824)(bR:s.us.length<100000)(b:Int)(pC:Ag4 s.ss s.us b=true)(nH:b∉s.us):
  CallF PP 191 #[.q (some ⟨p.n,11,none⟩),.i b] (SL p s g) (SK p (s.begins b) []):=by
 refine(c191 (some ⟨p.n,11,none⟩) b).c ?_;have iU:=X.non bM;refine A5 rfl (A6 (some p.nk.z) (F3 (s:=s) (g:=g) (k:=13) (by simp[SL]) rfl) (C4 fun n1 _=>?_));obtain⟨c2,cK⟩: ∃c2:Nat×Obj,c2=(n1,Obj.cells #[.i 1] 3):=⟨_,rfl⟩;rw[<-cK];have aH:(c2::SL p s g).Perm (SL p s g++[c2]):=pc fun z=>by simp only[B4,C5,D5];omega
 have mD:(n1,Obj.cells (ivs .i64 [(1:Int)]).toArray 3)∈c2::SL p s g:=by rw[cK];exact Dq7
 refine B5 (Bj7 aH X hS ⟨some n1.z,1,1⟩ [(1:Int)] (ISl.const 1 (by simp) mD) (by simp) (fun y hy=>by rw[Dr2.1 hy];omega)) (s.cost 1,()) (by rw[<-Do5];rfl) ?_;refine F7 (F3 (SL.st aH) rfl) ?_;refine Bw5 aH hb 1 (Av0 s.bk (s.cost 1),()) rfl fun L3 aZ=>?_;have X3:=X.pay 1;refine A6 (some p.m.z) (F3 (SL.st aZ) rfl) (A6 s.epoch (F3 (SL.st aZ) rfl) (D6 (by omega) ?_));refine Au8 (Dj7 p.m s.d g.Ad (stO p (s.pay 1) g::(kO p (s.pay 1)::(mO p g::(gO p g::(g.Ab++(rns g.ns++(rns g.on.toList++(g.pseg++(g.Aq++(g.Ai++[c2])))))))))) X.dev G b (s.epoch+1))
  (pc fun z=>by have:=pcn aZ z;simp only[SL,B4,C5,D5]at*;omega) ?_
 rintro _ _ ⟨A',rfl,rfl,cM⟩;refine⟨((T3 s.d b (s.epoch+1)).1,()),rfl,?_⟩;have kZ:(T3 s.d b (s.epoch+1)).2.c=s.d.c:=Dj8 ..;have hw:s.begins b=(if(T3 s.d b (s.epoch+1)).1≠0 then(((s.pay 1).dev (T3 s.d b (s.epoch+1)).2).met (T3 s.d b (s.epoch+1)).1,(T3 s.d b (s.epoch+1)).1)else({(s.pay 1).dev (T3 s.d b (s.epoch+1)).2 with epoch:=s.epoch+1,op:=some ⟨b,s.epoch+1,1,[]⟩},0)):=rfl;rw[hw];generalize T3 s.d b (s.epoch+1)=q at cM kZ;obtain⟨s2,aJ⟩: ∃s2:Sto,s2=(s.pay 1).dev q.2:=⟨_,rfl⟩;have X2:SX p s2 {g with Ad:=A'}:=by rw[aJ];exact{X3 with cfg:=kZ.trans X.cfg,dev:=cM,blk:=X3.blk}
 rw[<-aJ];have eqs:stO p s2 {g with Ad:=A'}=stO p (s.pay 1) g/\kO p s2=kO p (s.pay 1):=by rw[aJ];exact⟨rfl,rfl⟩
 have dB:(A'++(stO p (s.pay 1) g::(kO p (s.pay 1)::(mO p g::(gO p g::(g.Ab++(rns g.ns++(rns g.on.toList++(g.pseg++(g.Aq++(g.Ai++[c2]))))))))))).Perm (SL p s2 {g with Ad:=A'}++[c2]):=pc fun z=>by
  simp only[SL,eqs.1,eqs.2,show mO p {g with Ad:=A'}=mO p g from rfl,show gO p {g with Ad:=A'}=gO p g from rfl,B4,C5,D5];omega
 generalize A'++(stO p (s.pay 1) g::(kO p (s.pay 1)::(mO p g::(gO p g::(g.Ab++(rns g.ns++(rns g.on.toList++(g.pseg++(g.Aq++(g.Ai++[c2]))))))))))=L4 at dB;obtain⟨g2,gX⟩: ∃g2:SG,g2={g with Ad:=A'}:=⟨_,rfl⟩;rw[<-gX]at X2 dB;refine B6 (fun(h0:q.1=0)=>?_) (fun(h0: ¬q.1=0)=>?_)
 ·rw[Dq4 (by simpa using h0)];have jZ:s2.epoch=s.epoch:=by rw[aJ];rfl
  have iP:s2.us=s.us:=by rw[aJ];rfl
  have pO:s2.ss=s.ss:=by rw[aJ];rfl
  have jV:g2.on=none:=by rw[gX];exact iU
  refine A6 s2.epoch (F3 (SL.st dB) rfl) (D6 (by omega) ?_);obtain⟨s3,cJ⟩: ∃s3:Sto,s3={s2 with epoch:=s2.epoch+1}:=⟨_,rfl⟩;have X3:SX p s3 g2:=by rw[cJ];exact{X2 with cfg:=X2.cfg,dev:=X2.dev,blk:=X2.blk}
  refine Bw4 (s:=s2) (g:=g2) (k:=16) s3 g2 (Y:=kO p s2::(mO p g2::(gO p g2::(g2.Ad++(g2.Ab++(rns g2.ns++(rns g2.on.toList++(g2.pseg++(g2.Aq++(g2.Ai++[c2])))))))))) (pc fun z=>by have:=pcn dB z;simp only[SL,B4,C5,D5]at*;omega) (by decide) (by rw[cJ];rfl) fun L5 jT=>?_;have jT:L5.Perm (SL p s3 g2++[c2]):=pc fun z=>by
   have:=pcn jT z;have e1:kO p s3=kO p s2:=by rw[cJ];rfl
   simp only[SL,e1,B4,C5,D5]at*;omega
  refine A6 (some p.nb.z) (F3 (SL.st jT) rfl) ?_;have pK:s3.us=s.us:=by rw[cJ];exact iP
  have sJ:s3.ss=s.ss:=by rw[cJ];exact pO
  have cL:BX p.nb s.ss s.us g2.Ab:=by have:=X3.blk;rwa [pK,sJ]at this
  refine G5 (Cd1 p.nb s.ss s.us g2.Ab cL bR b) (R:=stO p s3 g2::(kO p s3::(mO p g2::(gO p g2::(g2.Ad++(rns g2.ns++(rns g2.on.toList++(g2.pseg++(g2.Aq++(g2.Ai++[c2])))))))))) (pc fun z=>by have:=pcn jT z;simp only[SL,B4,C5,D5]at*;omega) ?_;rintro _ Ab' ⟨rfl,nX⟩;rw[Dq5 pC]at nX;refine⟨_,Dq8 _,(Ag4 s.ss s.us b,()),rfl,?_⟩;have zC:s3.epoch=s.epoch+1:=by rw[cJ];show s2.epoch+1=_;rw[jZ]
  refine A6 s3.epoch (F3 (s:=s3) (g:=g2) (k:=16) (by simp) rfl) (C4 fun n2 _=>?_);obtain⟨x,hx⟩: ∃x:RN,x=⟨⟨b,s.epoch+1,1,[]⟩,n2,⟨none,0,0⟩,[]⟩:=⟨_,rfl⟩;have vW:(n2,Obj.cells #[Value.i b,.i s3.epoch,.i 1,.slice none 0 0] 156)=x.o:=by rw[hx,zC];rfl
  rw[vW];obtain⟨s4,eN⟩: ∃s4:Sto,s4={s3 with op:=some ⟨b,s.epoch+1,1,[]⟩}:=⟨_,rfl⟩;refine Bw4 (s:=s3) (g:=g2) (k:=15) s4 {g2 with on:=some x} (Y:=x.o::(kO p s3::(mO p g2::(gO p g2::(g2.Ad++(Ab'++(rns g2.ns++(g2.pseg++(g2.Aq++(g2.Ai++[c2])))))))))) (pc fun z=>by rw[jV];simp only[show rns (none:Option RN).toList=[]from rfl,B4,C5,D5];omega) (by decide) (by rw[eN,hx];rfl) fun L6 iT=>?_;have cr:=iT.symm.subset Dq7;refine A6 (some p.nr) (F3 cr rfl) (A6 x.ptr (F3 cr rfl) ?_);refine Ao3 mapR (r:=p.nr) (es:=g2.es) (clock:=g2.ck) (m:=Y7 g2.all) (Y:=stO p s4 {g2 with on:=some x}::(x.o::(kO p s3::(gO p g2::(g2.Ad++(Ab'++(rns g2.ns++(g2.pseg++(g2.Aq++(g2.Ai++[c2])))))))))) (pc fun z=>by have:=pcn iT z;rw[show(p.nr,Obj.map g2.es g2.ck)=mO p g2 from rfl];simp only[B4,C5,D5]at*;omega) X2.mp b (.q x.ptr) fun es' ck' L7 oK jS=>?_;obtain⟨g',cX⟩: ∃g':SG,g'={g2 with on:=some x,Ab:=Ab',es:=es',ck:=ck'}:=⟨_,rfl⟩;have nP:({s2 with epoch:=s.epoch+1,op:=some ⟨b,s.epoch+1,1,[]⟩}:Sto)=s4:=by rw[eN,cJ,jZ]
  rw[nP];have fA:=X2.keys;rw[iP]at fA;refine .drop (A:=SL p s4 g') (J:=[c2]) ⟨g',by simp,?_,rfl⟩ (pc fun z=>?_)
  ·have aB:g'.all=g2.all++[x]:=by rw[cX];unfold SG.all;rw[jV];simp
   have xD:s4.us=s.us++[b]:=by
    have xN:s3.rs=s.rs:=by rw[cJ,aJ];rfl
    unfold Sto.us;rw[eN];show s3.rs.map Reg.b++[b]=_;rw[bM,xN];simp
   refine⟨by rw[eN,cJ];exact X2.cfg,by rw[eN,cJ,cX];exact X2.dev,?_,by rw[eN,cJ,cX];exact X2.que,by rw[eN,cJ,cX];exact X2.gho,by rw[eN,cJ,cX];exact X2.idx,?_,by rw[eN,cJ,cX];exact X2.rs,by rw[eN,cX,hx];rfl,?_,by rw[eN,cJ,cX];exact X2.pd⟩
   ·rw[xD];have e1:s4.ss=s.ss:=by rw[eN];exact sJ
    have e2:g'.Ab=Ab':=by rw[cX]
    rw[e1,e2];exact nX
   ·rw[A33 _ _ _ (by rw[fA];exact nH)]at oK;rw[aB];have:Y7 (g2.all++[x])=Y7 g2.all++[(b,.q x.ptr)]:=by unfold Y7;rw[Ds2,hx];rfl
    rw[this];have e2:g'.es=es':=by rw[cX]
    rw[e2];exact oK
   ·intro y hy;rw[aB]at hy;rcases Dr5.1 hy with hy|hy
    ·exact X2.ok y hy
    ·rw[Dr2.1 hy,hx];exact F6
  ·have h7:=pcn jS z;have e1:stO p s4 g'=stO p s4 {g2 with on:=some x}:=by rw[cX];rfl
   have e2:kO p s4=kO p s3:=by rw[eN];rfl
   have e3:mO p g'=(p.nr,Obj.map es' ck'):=by rw[cX];rfl
   have e4:gO p g'=gO p g2:=by rw[cX];rfl
   have e5:rns g'.on.toList=[x.o]:=by rw[cX];refine(As8 x).trans ?_;unfold RN.objs;rw[hx]
   have e6:g'.Ad=g2.Ad/\g'.Ab=Ab'/\g'.ns=g2.ns/\g'.pseg=g2.pseg/\g'.Aq=g2.Aq/\g'.Ai=g2.Ai:=by rw[cX];exact⟨rfl,rfl,rfl,rfl,rfl,rfl⟩
   simp only[SL,e1,e2,e3,e4,e5,e6.1,e6.2.1,e6.2.2.1,e6.2.2.2.1,e6.2.2.2.2.1,e6.2.2.2.2.2,B4,C5,D5]at*;omega
 ·rw[Dq5 (by simpa using h0)];refine G5 (Bw6 p s2 g2 X2 q.1) dB ?_;rintro _ _ ⟨g',eY,X',rfl⟩;exact⟨_,Dq8 _,(q.1,()),rfl,.drop (A:=SL p (s2.met q.1) g') (J:=[c2]) ⟨g',by simp,X',rfl⟩ (by rw[eY,Dr3])⟩
theorem Bs6{α:Type}(f:α->A4)(q:α->Bool)(l:List α)(z:Nat×Obj):cnt (l.flatMap f) z=cnt ((l.filter q).flatMap f) z+cnt ((l.filter fun x=> !q x).flatMap f) z:=by
 have h:=List.filter_append_perm q l;have h2:=A53 f h z;rw[Dt3,B4]at h2;exact h2.symm
theorem Bn0(p:SP)(s:Sto)(g:SG)(X:SX p s g)(ok:P6 s.d)(hw: ∀x∈s.ss,0<=x.wear/\x.wear<=900000000)(bV:s.us.Nodup)(b:Int)(h1: ∀o,s.op=some o->o.b≠b)(h2:F5 s.ss b=false->b∉s.us):
  CallF PP 190 #[.q (some ⟨p.n,11,none⟩),.i b] (SL p s g) (SK p (s.erase b) []):=by
 refine(c190 (some ⟨p.n,11,none⟩) b).c ?_;refine A5 rfl (A6 (some p.m.z) (F3 (s:=s) (g:=g) (k:=11) (by simp[SL]) rfl) ?_);refine G5 (C66 p.m s.d g.Ad X.dev ok b) (R:=stO p s g::(kO p s::(mO p g::(gO p g::(g.Ab++(rns g.ns++(rns g.on.toList++(g.pseg++(g.Aq++g.Ai))))))))) (pc fun z=>by simp only[SL,B4,C5,D5];omega) ?_;rintro _ A' ⟨rfl,cM⟩;refine⟨_,Dq8 _,((E7 s.d b).1,()),rfl,?_⟩;have kZ:(E7 s.d b).2.c=s.d.c:=Az0 ..;have vY:s.erase b=(if(E7 s.d b).1=11 then((s.dev (E7 s.d b).2).met 11,11)else
  ({s.dev (E7 s.d b).2 with ss:=if F5 s.ss b=true then Ad4 s.ss b (R5 (decide ((E7 s.d b).1=10)))else s.ss,rs:=s.rs.filter fun r=> !decide (r.b=b)},0)):=rfl
 rw[vY];generalize E7 s.d b=q at cM kZ;obtain⟨s2,aJ⟩: ∃s2:Sto,s2=s.dev q.2:=⟨_,rfl⟩;have X2:SX p s2 {g with Ad:=A'}:=by rw[aJ];exact{X with cfg:=kZ.trans X.cfg,dev:=cM,blk:=X.blk}
 rw[<-aJ];have eqs:stO p s2 {g with Ad:=A'}=stO p s g/\kO p s2=kO p s:=by rw[aJ];exact⟨rfl,rfl⟩
 have aH:(A'++(stO p s g::(kO p s::(mO p g::(gO p g::(g.Ab++(rns g.ns++(rns g.on.toList++(g.pseg++(g.Aq++g.Ai)))))))))).Perm (SL p s2 {g with Ad:=A'}++[]):=pc fun z=>by
  simp only[SL,eqs.1,eqs.2,show mO p {g with Ad:=A'}=mO p g from rfl,show gO p {g with Ad:=A'}=gO p g from rfl,B4,C5,D5];omega
 generalize A'++(stO p s g::(kO p s::(mO p g::(gO p g::(g.Ab++(rns g.ns++(rns g.on.toList++(g.pseg++(g.Aq++g.Ai)))))))))=L2 at aH;obtain⟨g2,gX⟩: ∃g2:SG,g2={g with Ad:=A'}:=⟨_,rfl⟩;rw[<-gX]at X2 aH;refine B6 (fun(h0:q.1=11)=>?_) (fun(h0: ¬q.1=11)=>?_)
 ·rw[Dq5 h0,h0];refine G5 (Bw6 p s2 g2 X2 11) aH ?_;rintro _ _ ⟨g',eY,X',rfl⟩;exact⟨_,Dq8 _,(11,()),rfl,.drop (A:=SL p (s2.met 11) g') (J:=[]) ⟨g',by simp,X',rfl⟩ (by rw[eY,Dr3])⟩
 ·rw[Dq4 h0];have iP:s2.us=s.us:=by rw[aJ];rfl
  have pO:s2.ss=s.ss:=by rw[aJ];rfl
  have cL:BX p.nb s.ss s.us g2.Ab:=by have:=X2.blk;rwa [iP,pO]at this
  refine A6 (some p.nb.z) (F3 (SL.st aH) rfl) ?_;refine G5 (Cd4 p.nb s.ss s.us g2.Ab cL hw b (decide (q.1=10))) (R:=stO p s2 g2::(kO p s2::(mO p g2::(gO p g2::(g2.Ad++(rns g2.ns++(rns g2.on.toList++(g2.pseg++(g2.Aq++g2.Ai))))))))) (pc fun z=>by have:=pcn aH z;simp only[SL,B4,C5,D5]at*;omega) ?_;rintro _ Ab' ⟨rfl,nX⟩;refine⟨_,Dq8 _,(F5 s.ss b,()),rfl,?_⟩;refine A6 (some p.nr) (F3 (s:=s2) (g:=g2) (k:=14) (by simp) rfl) ?_;refine Bt6 mapR (r:=p.nr) (es:=g2.es) (clock:=g2.ck) (m:=Y7 g2.all) (Y:=stO p s2 g2::(kO p s2::(gO p g2::(g2.Ad++(Ab'++(rns g2.ns++(rns g2.on.toList++(g2.pseg++(g2.Aq++g2.Ai))))))))) (pc fun z=>by rw[show(p.nr,Obj.map g2.es g2.ck)=mO p g2 from rfl];simp only[B4,C5,D5];omega) X2.mp b fun es' ck' L4 oK dB=>?_;obtain⟨s3,cJ⟩: ∃s3:Sto,s3={s2 with ss:=if F5 s.ss b=true then Ad4 s.ss b (R5 (decide (q.1=10)))else s.ss,rs:=s.rs.filter fun r=> !decide (r.b=b)}:=⟨_,rfl⟩;rw[<-cJ];have xO:s2.rs=s.rs:=by rw[aJ];rfl
  have tN:s2.op=s.op:=by rw[aJ];rfl
  obtain⟨g3,fC⟩: ∃g3:SG,g3={g2 with ns:=g2.ns.filter (fun x=> !decide (x.r.b=b)),Ab:=Ab',es:=es',ck:=ck'}:=⟨_,rfl⟩;have tM:s3.op=s.op:=by rw[cJ];exact tN
  have sV:s3.rs=s.rs.filter fun r=> !decide (r.b=b):=by rw[cJ]
  have jV:g2.on.map RN.r=s.op:=by rw[X2.op,tN]
  have pK:s3.us=iwo s.us b:=by
   unfold Sto.us iwo;rw[tM,sV,Dz8];congr 1
   ·rw[D64];congr 1;refine Ec9 fun x _=>?_;simp
   ·cases ho:s.op with
    |none=>rfl
    |some o=>
     have:=h1 o ho;simp[this]
  have pE:g3.all=g2.all.filter fun x=> !decide (x.r.b=b):=by
   rw[fC];unfold SG.all;rw[Dz8];congr 1;cases ho:g2.on with
   |none=>rfl
   |some x=>
    rw[ho]at jV;have:=h1 x.r jV.symm;simp[this]
  refine .drop (A:=SL p s3 g3) (J:=(g2.ns.filter fun x=> !!decide (x.r.b=b)).flatMap RN.objs) ⟨g3,by simp,?_,rfl⟩ (pc fun z=>?_)
  ·refine⟨by rw[cJ];exact X2.cfg,by rw[cJ,fC];exact X2.dev,?_,by rw[cJ,fC];exact X2.que,by rw[cJ,fC];exact X2.gho,by rw[cJ,fC];exact X2.idx,?_,?_,by rw[tM,fC];exact jV,?_,by rw[cJ,fC];exact X2.pd⟩
   ·rw[pK];have e1:s3.ss=if F5 s.ss b=true then Ad4 s.ss b (R5 (decide (q.1=10)))else s.ss:=by rw[cJ]
    have e2:g3.Ab=Ab':=by rw[fC]
    have e3:(if F5 s.ss b=true then iwo s.us b else s.us)=iwo s.us b:=by
     split
     ·rfl
     ·rename_i hh;have:=h2 (by simpa using hh);unfold iwo;symm;rw[Dz9];intro y hy;have:y≠b:=fun e=>this (e▸hy);simp[this]
    rw[e1,e2,<-e3];exact nX
   ·have hk:=X2.keys;rw[Bq3 _ _ (by rw[hk,iP];exact bV)]at oK;rw[pE];have:Y7 (g2.all.filter fun x=> !decide (x.r.b=b))=(Y7 g2.all).filter fun p=> !decide (p.1=b):=by
     unfold Y7;rw[D64];rfl
    rw[this];have e2:g3.es=es':=by rw[fC]
    rw[e2];exact oK
   ·rw[sV,fC];show(g2.ns.filter _).map RN.r=_;rw[<-xO,<-X2.rs,D64];rfl
   ·intro y hy;rw[pE]at hy;exact X2.ok y (Dw5.1 hy).1
  ·have h4:=pcn dB z;have gF:=Bs6 RN.objs (fun x:RN=> !decide (x.r.b=b)) g2.ns z;have e1:stO p s3 g3=stO p s2 g2:=by rw[cJ,fC];rfl
   have e2:kO p s3=kO p s2:=by rw[cJ];rfl
   have e3:mO p g3=(p.nr,Obj.map es' ck'):=by rw[fC];rfl
   have e4:gO p g3=gO p g2:=by rw[fC];rfl
   have e6:g3.Ad=g2.Ad/\g3.Ab=Ab'/\g3.ns=g2.ns.filter (fun x=> !decide (x.r.b=b))/\g3.on=g2.on/\g3.pseg=g2.pseg/\g3.Aq=g2.Aq/\g3.Ai=g2.Ai:=by rw[fC];exact⟨rfl,rfl,rfl,rfl,rfl,rfl,rfl⟩
   simp only[SL,e1,e2,e3,e4,e6.1,e6.2.1,e6.2.2.1,e6.2.2.2.1,e6.2.2.2.2.1,e6.2.2.2.2.2.1,e6.2.2.2.2.2.2,rns,B4,C5,D5]at*;omega
def SU(p:SP)(s:Sto)(R:A4)(r:Value)(L':A4):Prop:= ∃g',L'=SL p s g'++R/\SX p s g'/\r= .t #[]
theorem SX.pendLen{p:SP}{s:Sto}{g:SG}(X:SX p s g):g.pv.len=s.pend.length:=X.pd.sl.els_len E3 (by decide)
theorem B26{p:SP}{s:Sto}{g:SG}{L R:A4}(hp:L.Perm (SL p s g++R))(X:SX p s g)(aW:s.pend.length<=1000000000)(x:It){K:HP}(s':Sto)(cC:s'={s with pend:=s.pend++[x]})(hk: ∀g' L',L'.Perm (SL p s' g'++R)->SX p s' g'->K L'):
  ld ⟨p.n,17,none⟩ (.lf .sl) (fun v2=>apv PP 55 55 55 102 v2 1 [.i x.1,.i x.2.1,.i x.2.2.1] fun s1=>HL.st ⟨p.n,17,none⟩ [.slice s1.a s1.len s1.cap] K) L:=by
 have hl:=X.pendLen;refine A6 g.pv (F3 (SL.st hp) rfl) ?_;refine Am5 Au6 B24 X.pd (Y:=stO p s g::(kO p s::(mO p g::(gO p g::(g.Ad++(g.Ab++(rns g.ns++(rns g.on.toList++(g.Aq++(g.Ai++R)))))))))) (ws:=P8 x) (pc fun z=>by have:=pcn hp z;simp only[SL,B4,C5,D5]at*;omega) rfl rfl (by omega) fun s1 seg1 fK own1=>?_;refine Bw4 (s:=s) (g:=g) (k:=17) s' {g with pv:=s1,pseg:=seg1} (Y:=seg1++(kO p s::(mO p g::(gO p g::(g.Ad++(g.Ab++(rns g.ns++(rns g.on.toList++(g.Aq++(g.Ai++R)))))))))) (pc fun z=>by simp only[B4,C5,D5];omega) (by decide) (by rw[cC];rfl) fun L2 aH=>hk {g with pv:=s1,pseg:=seg1} L2 (pc fun z=>?_) ?_
 ·have:=pcn aH z;have e1:kO p s'=kO p s:=by rw[cC];rfl
  simp only[SL,e1,show mO p {g with pv:=s1,pseg:=seg1}=mO p g from rfl,show gO p {g with pv:=s1,pseg:=seg1}=gO p g from rfl,B4,C5,D5]at*;omega
 ·rw[cC];refine{X with cfg:=X.cfg,dev:=X.dev,blk:=X.blk,pd:=?_};show Own s1 3 A70 ((s.pend++[x]).flatMap P8) seg1;rw[Dt3,Dx7];exact own1
theorem B29(p:SP)(s:Sto)(g:SG)(X:SX p s g)(hw:1<=s.sc.ways)(key:ByteArray)(hk:key.size<=1000000)(aM:(J6 s.ix (s.hash key)).length<100)(aW:s.pend.length<=1000000000)(x:It):
  CallF PP 101 #[.p p.n,.w key,.agg (ki3 x)] (SL p s g) (SU p (s.list key x) []):=by
 refine(c101 (some p.n.z) key x).c ?_;have bD:(SL p s g).Perm (SL p s g++[]):=by rw[Dr3]
 refine A5 rfl (A6 (some p.ni.z) (F3 (SL.st bD) rfl) (B5 (Ab8 bD key hk) (((s.hash key:Nat):Int),()) rfl (F7 (F3 (SL.st bD) rfl) ?_)));refine G5 (Dl8 p.ni s.sc.ways s.ix g.Ai X.idx hw (s.hash key) (A49 s key) x aM) (R:=stO p s g::(kO p s::(mO p g::(gO p g::(g.Ad++(g.Ab++(rns g.ns++(rns g.on.toList++(g.pseg++g.Aq))))))))) (pc fun z=>by simp only[SL,B4,C5,D5];omega) ?_;rintro _ Ai' ⟨⟨gn,rfl,uJ⟩,qZ⟩;refine⟨_,Dq8 _,((gn.b,gn.p,gn.e,()),Af2 (E9 (J6 s.ix (s.hash key)) (inm (s.hash key) x)) s.sc.ways,()),rfl,?_⟩;obtain⟨s1,bK⟩: ∃s1:Sto,s1={s with ix:=Cv9 s.ix s.sc.ways (s.hash key) x}:=⟨_,rfl⟩;obtain⟨g1,eE⟩: ∃g1:SG,g1={g with Ai:=Ai'}:=⟨_,rfl⟩;have X1:SX p s1 g1:=by rw[bK,eE];exact{X with cfg:=X.cfg,dev:=X.dev,blk:=X.blk,idx:=qZ}
 have aL:(Ai'++(stO p s g::(kO p s::(mO p g::(gO p g::(g.Ad++(g.Ab++(rns g.ns++(rns g.on.toList++(g.pseg++g.Aq)))))))))).Perm (SL p s1 g1++[]):=pc fun z=>by
  have e1:stO p s1 g1=stO p s g:=by rw[bK,eE];rfl
  have e2:kO p s1=kO p s:=by rw[bK];rfl
  have e3:mO p g1=mO p g:=by rw[eE];rfl
  have e4:gO p g1=gO p g:=by rw[eE];rfl
  simp only[SL,e1,e2,e3,e4,B4,C5,D5];simp only[eE];omega
 generalize Ai'++(stO p s g::(kO p s::(mO p g::(gO p g::(g.Ad++(g.Ab++(rns g.ns++(rns g.on.toList++(g.pseg++g.Aq)))))))))=L1 at aL;have hl:s.list key x={s1 with pend:=if Af2 (E9 (J6 s.ix (s.hash key)) (inm (s.hash key) x)) s.sc.ways=true then s.pend++[(Cp1 (J6 s.ix (s.hash key)) s.sc.ways (s.hash key) x).pl]else s.pend}:=by rw[bK];rfl
 have kG:s1.pend=s.pend:=by rw[bK]
 rw[hl];dsimp only;refine G1 (fun h=>?_) (fun h=>?_)
 ·rw[Dq5 h];refine B26 (x:=gn.pl) aL X1 (by rw[kG];exact aW) _ rfl fun g' L' dO X'=>?_;rw[kG,uJ]at dO X';exact .drop (A:=SL p _ g') (J:=[]) ⟨g',by simp,X',rfl⟩ dO
 ·rw[Dq4 (by rw[h];decide)];have:({s1 with pend:=s.pend}:Sto)=s1:=by rw[<-kG]
  rw[this];exact .drop (A:=SL p s1 g1) (J:=[]) ⟨g1,by simp,X1,rfl⟩ aL
theorem Dn4{α:Type}{q:α->Bool}{l:List α}{i:Nat}(hi:i<l.length)(hn:(l.take i).find? q=none)(hq:q l[i]=true):l.find? q=some l[i]:=by
 conv=>lhs;rw[<-Dw1 i l]
 rw[Ed0,hn,Dv1 hi,D39 hq];rfl
def Sto.placeV(s:Sto)(key:ByteArray):List UInt8:=match s.place key with
 |none=>[]
 |some p=>(A9 s.d p).2.1
def PlK(s:Sto)(key:ByteArray)(A:A4)(r:Value)(L':A4):Prop:= ∃(u:SlV) (sg:A4),r= .t #[.agg #[.i ((s.place key).getD (0,0,0,())).1,.i ((s.place key).getD (0,0,0,())).2.1,.i ((s.place key).getD (0,0,0,())).2.2.1],.slice u.a u.len u.cap,.b (s.place key).isSome]/\
 L'=sg++A/\Own u 1 eB (bvs (s.placeV key)) sg
theorem Ao4(p:SP)(s:Sto)(g:SG)(X:SX p s g)(ok:P6 s.d)(key:ByteArray)(hk:key.size<=1000000)(aM:(J6 s.ix (s.hash key)).length<100)(vY: ∀x∈J4 (J6 s.ix (s.hash key)) (s.hash key),S0 .i64 x.2.1):
  CallF PP 53 #[.p p.n,.w key] (SL p s g) (PlK s key (SL p s g)):=by
 refine(c53 (some p.n.z) key).c ?_;have bD:(SL p s g).Perm (SL p s g++[]):=by rw[Dr3]
 refine A5 rfl (A6 (some p.ni.z) (F3 (SL.st bD) rfl) (B5 (Ab8 bD key hk) (((s.hash key:Nat):Int),()) rfl (F7 (F3 (SL.st bD) rfl) ?_)));refine G5 (B56 p.ni s.sc.ways s.ix g.Ai X.idx (s.hash key) (A49 s key)) (R:=stO p s g::(kO p s::(mO p g::(gO p g::(g.Ad++(g.Ab++(rns g.ns++(rns g.on.toList++(g.pseg++g.Aq))))))))) (pc fun z=>by simp only[SL,B4,C5,D5];omega) ?_;rintro _ _ ⟨u,seg,rfl,rfl,own⟩;refine⟨seg++SL p s g,pc fun z=>by simp only[SL,B4,C5,D5];omega,(u,()),rfl,?_⟩;dsimp only;have kG:s.place key=(J4 (J6 s.ix (s.hash key)) (s.hash key)).find? fun p=>decide ((A9 s.d p).2.2=0/\Ak2 (A9 s.d p).1=key):=rfl;have hC:(J4 (J6 s.ix (s.hash key)) (s.hash key)).length<100:=by
  unfold J4;rw[Dr1];exact Nat.lt_of_le_of_lt (Dz7 ..) aM
 have dX:s.placeV key=match s.place key with|none=>[]|some p=>(A9 s.d p).2.1:=rfl
 generalize J4 (J6 s.ix (s.hash key)) (s.hash key)=l at own kG vY hC;have eZ:=own.sl.els_len Ah9 (by decide);refine G7 (fun z' z L'=> ∃i:Nat,i<=l.length/\z'=l.length-i/\z=((i:Int),())/\(l.take i).find? (fun p=>decide ((A9 s.d p).2.2=0/\Ak2 (A9 s.d p).1=key))=none/\ ∃J,L'.Perm (seg++(J++SL p s g))) l.length ⟨0,by omega,by omega,rfl,rfl,[],by simp⟩ ?_;rintro z' z L1 ⟨i,hi,rfl,rfl,bF,J,aL⟩;dsimp only;have lG:L1.Perm (SL p s g++(seg++J)):=pc fun z=>by have:=pcn aL z;simp only[B4,C5,D5]at*;omega
 refine B6 (fun(hO:(i:Int)<u.len)=>?_) (fun(aS: ¬(i:Int)<u.len)=>?_)
 ·have hJ:i<l.length:=by omega
  refine W5 Ah9 (by decide) (own.sl.mono fun x hx=>aL.symm.subset (by simp[hx])) (n:=i) rfl hJ fun a ha=>?_;have gN:=vY _ (Dr7 hJ);refine A6 (sh:=Z1) l[i] ha (A6 (some p.m.z) (F3 (SL.st lG) rfl) ?_);refine G5 (Bi5 p.m s.d g.Ad X.dev ok l[i] gN) (R:=stO p s g::(kO p s::(mO p g::(gO p g::(g.Ab++(rns g.ns++(rns g.on.toList++(g.pseg++(g.Aq++(g.Ai++(seg++J))))))))))) (pc fun z=>by have:=pcn aL z;simp only[SL,B4,C5,D5]at*;omega) ?_;rintro _ _ ⟨q,rfl,rfl,hq,eH⟩;refine⟨_,Dq8 _,(Ak2 (A9 s.d l[i]).1,q.v,(A9 s.d l[i]).2.2,()),rfl,?_⟩;dsimp only;have more: ¬((A9 s.d l[i]).2.2=0/\Ak2 (A9 s.d l[i]).1=key)-> ∃k',k'<l.length-i/\ ∃i':Nat,i'<=l.length/\k'=l.length-i'/\(((i:Int)+1,()):RsV [lI])=((i':Int),())/\(l.take i').find? (fun p=>decide ((A9 s.d p).2.2=0/\Ak2 (A9 s.d p).1=key))=none/\ ∃J',((q.seg++g.Ad)++(stO p s g::(kO p s::(mO p g::(gO p g::(g.Ab++(rns g.ns++(rns g.on.toList++(g.pseg++(g.Aq++(g.Ai++(seg++J)))))))))))).Perm (seg++(J'++SL p s g)):=fun aE=>
   ⟨l.length-(i+1),by omega,i+1,by omega,rfl,rfl,by rw[Ds4 hJ,Ed0,bF];simp[aE],q.seg++J,pc fun z=>by simp only[SL,B4,C5,D5];omega⟩
  refine B6 (fun(h0:(A9 s.d l[i]).2.2=0)=>?_) (fun(h0: ¬(A9 s.d l[i]).2.2=0)=>D6 (by omega) (more fun h=>h0 h.1));refine B6 (fun(h1:Ak2 (A9 s.d l[i]).1=key)=>?_) (fun(h1: ¬Ak2 (A9 s.d l[i]).1=key)=>D6 (by omega) (more fun h=>h1 h.2));have hf:s.place key=some l[i]:=by rw[kG];exact Dn4 hJ bF (by simp[h0,h1])
  refine .drop (A:=q.seg++SL p s g) (J:=seg++J) ⟨q.v,q.seg,by rw[hf];rfl,rfl,?_⟩ (pc fun z=>by simp only[SL,B4,C5,D5];omega);rw[dX,hf];show Own q.v 1 eB (bvs (A9 s.d l[i]).2.1) q.seg;rw[<-eH];exact hq
 ·obtain rfl:i=l.length:=by omega
  rw[Ds9]at bF;have hf:s.place key=none:=by rw[kG];exact bF
  refine .drop (A:=SL p s g) (J:=seg++J) ⟨⟨none,0,0⟩,[],by rw[hf];rfl,rfl,?_⟩ lG;rw[dX,hf];exact F6
theorem C36(b:List UInt8):(T9 b).1.length<=65536/\(T9 b).2.1.length<=65536:=by
 have h1:=V7 (b:=b) (a:=0) (by omega);have h2:=V7 (b:=b) (a:=(F8 b 0).2.1) h1.2.1;unfold T9
 repeat' split
 all_goals first|exact⟨h1.2.2.1,h2.2.2.1⟩|exact⟨Dv6 _,Dv6 _⟩
theorem Bs7(d:Dev)(p:It):(A9 d p).1.length<=65536/\(A9 d p).2.1.length<=65536:=by
 unfold A9
 repeat' split
 all_goals first|exact C36 _|exact⟨Dv6 _,Dv6 _⟩
theorem Bq6(l:List UInt8):(Ak2 l).size=l.length:=by unfold Ak2;exact D74
theorem Cg7(L:A4)(v:SlV)(l:List It)(h:Sl L v 3 (l.flatMap Bx9))(hl:l.length<=1000000)(x:It):
  CallF PP 323 #[.slice v.a v.len v.cap,.agg (ki3 x)] L fun r L'=>(∃n:Int,r= .i n/\(0<=n↔x∈l))/\L'=L:=by
 refine(c323 v x).c ?_;have cR:=h.els_len Ah9 (by decide);refine G7 (fun z' z L'=> ∃i:Nat,i<=l.length/\z'=l.length-i/\z=((i:Int),())/\x∉l.take i/\L'=L) l.length ⟨0,by omega,by omega,rfl,by simp,rfl⟩ ?_;rintro z' z L' ⟨i,hi,rfl,rfl,bF,eY⟩;rw[eY];dsimp only;refine B6 (fun(hO:(i:Int)<v.len)=>?_) (fun(aS: ¬(i:Int)<v.len)=>?_)
 ·have hJ:i<l.length:=by omega
  refine W5 Ah9 (by decide) h (n:=i) rfl hJ fun a ha=>?_;refine A6 (sh:=Z1) l[i] ha (eqPlc x l[i] (B6 (fun he=>?_) (fun he=>?_)))
  ·exact .of ⟨⟨(i:Int),rfl,⟨fun _=>he▸Dr7 hJ,fun _=>by omega⟩⟩,rfl⟩
  ·refine D6 (by omega) ⟨l.length-(i+1),by omega,i+1,by omega,rfl,rfl,?_,rfl⟩;rw[Ds4 hJ,Dr5,Dr2];rintro(h1|h1)
   ·exact bF h1
   ·exact he h1
 ·obtain rfl:i=l.length:=by omega
  rw[Ds9]at bF;exact .of ⟨⟨-1,rfl,⟨fun h=>absurd h (by decide),fun h=>absurd h bF⟩⟩,rfl⟩
theorem Bn2(L:A4)(v:SlV)(l:List It)(h:Sl L v 3 (l.flatMap Bx9))(hl:l.length<=1000000)(x:It):
  Reads PP 292 #[.slice v.a v.len v.cap,.agg (ki3 x)] L (.b (decide (x∈l))):=by
 unfold Reads;refine(c292 v x).c ?_;refine S8 (Cg7 L v l h hl x) ?_;rintro _ _-⟨⟨n,rfl,hn⟩,rfl⟩;refine⟨(n,()),rfl,.of ⟨?_,rfl⟩⟩;congr 1;exact decide_eq_decide.2 hn
theorem six{p:SP}{s:Sto}{g:SG}{L R:A4}(hp:L.Perm (SL p s g++R))(X:SX p s g){ix':List (List C3)}{f:FuncId}{args:Array Value}{v:Value}(h:CallF PP f args g.Ai fun r L'=>r=v/\IX p.ni s.sc.ways ix' L'){rs:List Sh}{k:RsV rs->HP}(r:RsV rs)(hr:v=Ah7 rs r)
  (s':Sto) (cC:s'={s with ix:=ix'}) (hk: ∀g' L',L'.Perm (SL p s' g'++R)->SX p s' g'->g'.ns=g.ns->k r L'):cl PP f args rs k L:=by
 refine G5 h (R:=stO p s g::(kO p s::(mO p g::(gO p g::(g.Ad++(g.Ab++(rns g.ns++(rns g.on.toList++(g.pseg++(g.Aq++R)))))))))) (pc fun z=>by have:=pcn hp z;simp only[SL,B4,C5,D5]at*;omega) ?_;rintro _ Ai' ⟨rfl,qZ⟩;refine⟨_,Dq8 _,r,hr,hk {g with Ai:=Ai'} _ (pc fun z=>?_) ?_ rfl⟩
 ·have e1:stO p s' {g with Ai:=Ai'}=stO p s g:=by rw[cC];rfl
  have e2:kO p s'=kO p s:=by rw[cC];rfl
  simp only[SL,e1,e2,show mO p {g with Ai:=Ai'}=mO p g from rfl,show gO p {g with Ai:=Ai'}=gO p g from rfl,B4,C5,D5];omega
 ·rw[cC];exact{X with cfg:=X.cfg,dev:=X.dev,blk:=X.blk,idx:=qZ}
theorem squ{p:SP}{s:Sto}{g:SG}{L R:A4}(hp:L.Perm (SL p s g++R))(X:SX p s g){q':List QD}{f:FuncId}{args:Array Value}{v:Value}(h:CallF PP f args g.Aq fun r L'=>r=v/\QHd p.nq s.sc.small q' L'){rs:List Sh}{k:RsV rs->HP}(r:RsV rs)(hr:v=Ah7 rs r)
  (s':Sto) (cC:s'={s with q:=q'}) (hk: ∀g' L',L'.Perm (SL p s' g'++R)->SX p s' g'->k r L'):cl PP f args rs k L:=by
 refine G5 h (R:=stO p s g::(kO p s::(mO p g::(gO p g::(g.Ad++(g.Ab++(rns g.ns++(rns g.on.toList++(g.pseg++(g.Ai++R)))))))))) (pc fun z=>by have:=pcn hp z;simp only[SL,B4,C5,D5]at*;omega) ?_;rintro _ Aq' ⟨rfl,ab⟩;refine⟨_,Dq8 _,r,hr,hk {g with Aq:=Aq'} _ (pc fun z=>?_) ?_⟩
 ·have e1:stO p s' {g with Aq:=Aq'}=stO p s g:=by rw[cC];rfl
  have e2:kO p s'=kO p s:=by rw[cC];rfl
  simp only[SL,e1,e2,show mO p {g with Aq:=Aq'}=mO p g from rfl,show gO p {g with Aq:=Aq'}=gO p g from rfl,B4,C5,D5];omega
 ·rw[cC];exact{X with cfg:=X.cfg,dev:=X.dev,blk:=X.blk,que:=ab}
theorem sgh{p:SP}{s:Sto}{g:SG}{L R:A4}(hp:L.Perm (SL p s g++R))(X:SX p s g){gh':List Int}{f:FuncId}{args:Array Value}{v:Value}(h:CallF PP f args [gO p g] fun r L'=>r=v/\ ∃o',L'=[(p.ng,o')]/\GOb s.sc.ghost gh' o'){rs:List Sh}{k:RsV rs->HP}(r:RsV rs)(hr:v=Ah7 rs r)
  (s':Sto) (cC:s'={s with gh:=gh'}) (hk: ∀g' L',L'.Perm (SL p s' g'++R)->SX p s' g'->k r L'):cl PP f args rs k L:=by
 refine G5 h (R:=stO p s g::(kO p s::(mO p g::(g.Ad++(g.Ab++(rns g.ns++(rns g.on.toList++(g.pseg++(g.Aq++(g.Ai++R)))))))))) (pc fun z=>by have:=pcn hp z;simp only[SL,B4,C5,D5]at*;omega) ?_;rintro _ _ ⟨rfl,o',rfl,bU⟩;refine⟨_,Dq8 _,r,hr,hk {g with go:=o'} _ (pc fun z=>?_) ?_⟩
 ·have e1:stO p s' {g with go:=o'}=stO p s g:=by rw[cC];rfl
  have e2:kO p s'=kO p s:=by rw[cC];rfl
  simp only[SL,e1,e2,show mO p {g with go:=o'}=mO p g from rfl,show gO p {g with go:=o'}=(p.ng,o')from rfl,B4,C5,D5];omega
 ·rw[cC];exact{X with cfg:=X.cfg,dev:=X.dev,blk:=X.blk,gho:=bU}
def SB(p:SP)(w:Sto×Bool)(R:A4)(r:Value)(L':A4):Prop:= ∃g',L'=SL p w.1 g'++R/\SX p w.1 g'/\r= .b w.2
theorem A93(p:SP)(s:Sto)(g:SG)(X:SX p s g)(ok:P6 s.d)(key:ByteArray)(hk:key.size<=1000000)(aM:RowOk s (s.hash key))(aW:s.pend.length<=1000000000):
  CallF PP 46 #[.p p.n,.w key] (SL p s g) (SB p (s.forget key) []):=by
 refine(c46 (some p.n.z) key).c ?_;have bD:(SL p s g).Perm (SL p s g++[]):=by rw[Dr3]
 refine A5 rfl (A6 (some p.nq.z) (F3 (SL.st bD) rfl) ?_);obtain⟨s1,bK⟩: ∃s1:Sto,s1={s with q:=P1 s.q key}:=⟨_,rfl⟩;refine squ bD X (Cj3 p.nq s.sc.small s.q g.Aq X.que key) ((T4 s.q key).isSome,()) rfl s1 bK fun g1 L1 aL X1=>?_;have hh:s1.hash key=s.hash key:=by rw[bK];rfl
 have fU:s1.ix=s.ix:=by rw[bK]
 have hd:s1.d=s.d:=by rw[bK]
 have iL:s.forget key=(match s1.place key with|none=>(s1,(T4 s.q key).isSome)|some x=>({s1.ixdrop (s.hash key) x with pend:=s.pend++[x]},true)):=by rw[bK];rfl
 refine G5 (Ao4 p s1 g1 X1 (by rw[hd];exact ok) key hk (by rw[fU,hh];exact aM.len) (by rw[fU,hh];exact aM.wf)) aL ?_;rintro _ _ ⟨u,sg,rfl,rfl,own⟩;refine⟨SL p s1 g1++sg,pc fun z=>by simp only[B4,D5];omega,((((s1.place key).getD (0,0,0,())).1,((s1.place key).getD (0,0,0,())).2.1,((s1.place key).getD (0,0,0,())).2.2.1,()),u,(s1.place key).isSome,()),rfl,?_⟩;dsimp only;obtain⟨L2,mU⟩: ∃L2,L2=SL p s1 g1++sg:=⟨_,rfl⟩;rw[<-mU];have aH:L2.Perm (SL p s1 g1++sg):=by rw[mU]
 cases lD:s1.place key with
 |none=>
  refine ifF rfl ?_;rw[lD]at iL;have e: ∀b:Bool,b=(T4 s.q key).isSome->HL.Ends (SB p (s.forget key) []) (.b b) L2:=fun b hb=>by
   rw[iL];exact .drop (A:=SL p s1 g1) (J:=sg) ⟨g1,by simp,X1,by rw[hb]⟩ (by simpa using aH)
  exact G1 (fun h=>e _ h.symm) (fun h=>e _ h.symm)
 |some x=>
  refine ifT rfl (A6 (some p.ni.z) (F3 (SL.st aH) rfl) (B5 (Ab8 aH key hk) (((s1.hash key:Nat):Int),()) rfl (F7 (F3 (SL.st aH) rfl) ?_)));rw[lD]at iL;refine six aH X1 (B57 p.ni s1.sc.ways s1.ix g1.Ai X1.idx (s1.hash key) (A49 s1 key) x) ((Q6 s1.ix (s1.hash key) x).isSome,()) rfl (s1.ixdrop (s1.hash key) x) rfl fun g3 L3 aZ X3 _=>?_;have kG:(s1.ixdrop (s1.hash key) x).pend=s.pend:=by rw[bK];rfl
  refine B26 (x:=x) aZ X3 (by rw[kG];exact aW) _ rfl fun g4 L4 dB X4=>?_;have e: ∀b:Bool,b=true->HL.Ends (SB p (s.forget key) []) (.b b) L4:=fun b hb=>by
   rw[iL];have aP:({s1.ixdrop (s.hash key) x with pend:=s.pend++[x]}:Sto)={s1.ixdrop (s1.hash key) x with pend:=(s1.ixdrop (s1.hash key) x).pend++[x]}:=by rw[kG,hh]
   dsimp only;rw[aP];exact .drop (A:=SL p _ g4) (J:=sg) ⟨g4,by simp,X4,by rw[hb]⟩ dB
  exact G1 (fun h=>e _ rfl) (fun h=>e _ rfl)
theorem Bm0{L:A4}{b:Nat}{x y:Int}(hm:(b,Obj.cells #[.i x,.i y] 3)∈L):ISl L ⟨some b.z,2,2⟩ .i64 [x,y]:=ISl.const (l:=[x,y]) 2 (by simp) hm
theorem Bm6{L:A4}{ov:SlV}{oseg:A4}{gs:List PG}(own:Own ov 1 tB (gs.map PG.val) oseg)(hg: ∀g∈gs,g.Ok)(h1: ∀x∈oseg,x∈L)(h2: ∀x∈pgs gs,x∈L):Z0 L ov (pvs gs):=by
 refine⟨?_,fun x hx=>?_⟩
 ·have:=own.sl.mono h1;have e:(pvs gs).map pvV=gs.map PG.val:=by unfold pvs;rw[Dv2];rfl
  rw[e];exact this
 ·unfold pvs at hx;obtain⟨y,hy,rfl⟩:=Dt4.1 hx;exact(hg y hy).sl.mono fun z hz=>h2 z (Dw7.2 ⟨y,hy,hz⟩)
theorem Cs8(key val:List UInt8)(c:Cf):(J5 key val c).1.length<=8:=by
 unfold J5;split
 ·simp
 ·split
  ·simp
  ·split
   ·simp
   ·rename_i h;have:=(Aa1 h);simp only[Y4,Dr1,D16];omega
def MK(p:SP)(w:Sto×Int)(ns:List RN)(R:A4)(r:Value)(L':A4):Prop:= ∃g',L'=SL p w.1 g'++R/\SX p w.1 g'/\g'.ns=ns/\r= .i w.2
theorem Cy5(p:SP)(s:Sto)(g:SG)(X:SX p s g){M:Nat}(h:SOk s M)(R:A4)(hT:Tab R)(pl:It)(aW:S0 .i64 pl.2.1)(x:It)(hx:0<=x.2.2.1/\x.2.2.1<=255)(beside:Int)(pA:0<=beside/\beside<=1000):
  CallF PP 246 #[.p p.n,.agg (ki3 pl),.agg (ki3 x),.i beside] (SL p s g++R) (MK p (s.move pl x.2.2.1 beside) g.ns R):=by
 refine(c246 (some p.n.z) pl x beside).c ?_;have hS:=h.S;have hP:=h.P;have bD:(SL p s g++R).Perm (SL p s g++R):=Dq8 _;refine A5 rfl (A6 (some p.m.z) (F3 (SL.st bD) rfl) ?_);refine G5 (Bi5 p.m s.d g.Ad X.dev h.dv pl aW) (R:=stO p s g::(kO p s::(mO p g::(gO p g::(g.Ab++(rns g.ns++(rns g.on.toList++(g.pseg++(g.Aq++(g.Ai++R)))))))))) (pc fun z=>by simp only[SL,B4,C5,D5];omega) ?_;rintro _ _ ⟨q,rfl,rfl,hq,eH⟩;obtain⟨L1,eX⟩: ∃L1,L1=SL p s g++(q.seg++R):=⟨_,rfl⟩;have aL:L1.Perm (SL p s g++(q.seg++R)):=by rw[eX]
 refine⟨L1,pc fun z=>by rw[eX];simp only[SL,B4,C5,D5];omega,(Ak2 (A9 s.d pl).1,q.v,(A9 s.d pl).2.2,()),rfl,?_⟩;dsimp only;have fM:=Bs7 s.d pl;have jX:(Ak2 (A9 s.d pl).1).size<=1000000:=by rw[Bq6];omega
 have dS:s.move pl x.2.2.1 beside=(if(A9 s.d pl).2.2≠0\/pl∉J4 (J6 s.ix (s.hash (Ak2 (A9 s.d pl).1))) (s.hash (Ak2 (A9 s.d pl).1))then(s,0)else
   if A47 s.ix (s.hash (Ak2 (A9 s.d pl).1)) pl=0\/s.fits (x.2.2.1+beside)=false\/s.pays (x.2.2.1+beside)=false then(s.ixdrop (s.hash (Ak2 (A9 s.d pl).1)) pl,0)else
   if(J5 (A9 s.d pl).1 (A9 s.d pl).2.1 (J8 s.sc.c)).2≠0 then(s,(J5 (A9 s.d pl).1 (A9 s.d pl).2.1 (J8 s.sc.c)).2)else
   if(s.write 2 (J5 (A9 s.d pl).1 (A9 s.d pl).2.1 (J8 s.sc.c)).1).2.2=0 then({(s.write 2 (J5 (A9 s.d pl).1 (A9 s.d pl).2.1 (J8 s.sc.c)).1).1 with ix:=Aq7 (s.write 2 (J5 (A9 s.d pl).1 (A9 s.d pl).2.1 (J8 s.sc.c)).1).1.ix (s.hash (Ak2 (A9 s.d pl).1)) pl (s.write 2 (J5 (A9 s.d pl).1 (A9 s.d pl).2.1 (J8 s.sc.c)).1).2.1},0)
   else((s.write 2 (J5 (A9 s.d pl).1 (A9 s.d pl).2.1 (J8 s.sc.c)).1).1,(s.write 2 (J5 (A9 s.d pl).1 (A9 s.d pl).2.1 (J8 s.sc.c)).1).2.2)):=rfl
 obtain⟨kk,rL⟩: ∃kk,kk=Ak2 (A9 s.d pl).1:=⟨_,rfl⟩;rw[<-rL]at jX dS⊢;have rM:kk.data.toList=(A9 s.d pl).1:=by rw[rL];rfl
 obtain⟨hh,yU⟩: ∃hh,hh=s.hash kk:=⟨_,rfl⟩;have hO:hh<2^64:=by rw[yU];exact A49 s kk
 have aM:=h.row hh;refine B5 (Ab8 aL kk jX) ((hh:Int),()) (by rw[yU];rfl) ?_;rw[<-yU]at dS;obtain⟨f,hf⟩: ∃f,f=A9 s.d pl:=⟨_,rfl⟩;rw[<-hf]at dS eH rM fM⊢;have skip: ∀{L2 J:A4},L2.Perm (SL p s g++(J++R))->(f.2.2≠0\/pl∉J4 (J6 s.ix hh) hh)->HL.Ends (MK p (s.move pl x.2.2.1 beside) g.ns R) (.i 0) L2:=fun{L2 J} hp hc=>by
  rw[dS,Dq5 hc];exact .drop (A:=SL p s g++R) (J:=J) ⟨g,rfl,X,rfl,rfl⟩ (pc fun z=>by have:=pcn hp z;simp only[B4]at*;omega)
 refine W2 (fun _ L'=>(f.2.2=0/\pl∈J4 (J6 s.ix hh) hh)/\ ∃J,L'.Perm (SL p s g++(q.seg++(J++R)))) ?_ ?_
 ·rintro _ L2 ⟨dV,J,aH⟩;rw[Dq4 (by rintro(hn|hn);exact hn dV.1;exact hn dV.2)]at dS;have drop: ∀{L3 J3:A4} {rs:List Sh} {K:RsV rs->HP},L3.Perm (SL p s g++(J3++R))->(A47 s.ix hh pl=0\/s.fits (x.2.2.1+beside)=false\/s.pays (x.2.2.1+beside)=false)->
    ld ⟨p.n,21,none⟩ (.lf .ptr) (fun v4=>cl PP 106 #[.q v4,.int .u64 (hh:Int),.agg (ki3 pl)] [.lf .bool] fun r6=>HL.Ends (MK p (s.move pl x.2.2.1 beside) g.ns R) (.i 0)) L3:=fun{L3 J3 rs K} hp hc=>by
   refine A6 (some p.ni.z) (F3 (SL.st hp) rfl) ?_;refine six hp X (B57 p.ni s.sc.ways s.ix g.Ai X.idx hh hO pl) ((Q6 s.ix hh pl).isSome,()) rfl (s.ixdrop hh pl) rfl fun g' L4 dB X4 cm=>?_;rw[dS,Dq5 hc];exact .drop (A:=SL p (s.ixdrop hh pl) g'++R) (J:=J3) ⟨g',rfl,X4,cm,rfl⟩ (pc fun z=>by have:=pcn dB z;simp only[B4]at*;omega)
  refine W2 (fun _ L'=>(A47 s.ix hh pl≠0/\s.fits (x.2.2.1+beside)=true/\s.pays (x.2.2.1+beside)=true)/\ ∃J,L'.Perm (SL p s g++(q.seg++(J++R)))) ?_ ?_
  ·rintro _ L3 ⟨cK,J3,aZ⟩;rw[Dq4 (by rintro(hn|hn|hn);exact cK.1 hn;rw[cK.2.1]at hn;cases hn;rw[cK.2.2]at hn;cases hn)]at dS;refine A6 (sh:=Z4) ((s.sc.c.B:Int),(s.sc.c.P:Int),(s.sc.c.S:Int),(s.sc.c.W:Int),()) (Cy0 (SL.st aZ)) ?_;refine G5 (Dd4 (q.seg++R) (hT.mono fun y hy=>by simp[hy]) kk (Dt1 jX (by decide)) q.v f.2.1 (by have:=hq.sl;rw[eH]at this;exact this.mono fun y hy=>by simp[hy]) (J8 s.sc.c) (by show(s.sc.c.P:Int)<=_;omega)) (R:=SL p s g++J3) (pc fun z=>by have:=pcn aZ z;simp only[B4]at*;omega) ?_;rintro _ _ ⟨ov,oseg,gs,rfl,rfl,own,gW,dL⟩;rw[rM]at dL⊢;have bN:=Cs8 f.1 f.2.1 (J8 s.sc.c);obtain⟨c,hc⟩: ∃c,c=J5 f.1 f.2.1 (J8 s.sc.c):=⟨_,rfl⟩;rw[<-hc]at dL dS bN⊢;refine⟨_,Dq8 _,(ov,c.2,()),rfl,?_⟩;have dB:((oseg++(pgs gs++(q.seg++R)))++(SL p s g++J3)).Perm (SL p s g++(oseg++(pgs gs++(q.seg++(J3++R))))):=pc fun z=>by simp only[B4];omega
   generalize (oseg++(pgs gs++(q.seg++R)))++(SL p s g++J3)=L4 at dB;dsimp only;refine B6 (fun(h0:c.2=0)=>?_) (fun(h0: ¬c.2=0)=>?_)
   ·rw[Dq4 (by simpa using h0)]at dS;obtain⟨o,ho⟩: ∃o,s.op=some o:=by
     have:=cK.2.1;unfold Sto.fits at this;cases bM:s.op with
     |none=>rw[bM]at this;cases this
     |some o=>exact⟨o,rfl⟩
    have tL:=h.op o ho;have kU:(pvs gs).map Prod.snd=c.1:=by rw[A23];exact dL
    have lD:(pvs gs).length<=8:=by rw[<-kU,Dr1]at bN;exact bN
    refine Au8 (A01 p s g X hS.2 h.bk (oseg++(pgs gs++(q.seg++(J3++R)))) ov (pvs gs) (Bm6 own gW (fun y hy=>by simp[hy]) (fun y hy=>by simp[hy])) (by omega) (h.dg _ (by omega)) o ho (by omega) (by omega) 2) dB ?_;rw[kU];rintro _ _ ⟨g5,rfl,X5,cj,rfl⟩;obtain⟨w,hw⟩: ∃w,w=s.write 2 c.1:=⟨_,rfl⟩;rw[<-hw]at X5 dS⊢;refine⟨(((w.2.1.1,w.2.1.2.1,w.2.1.2.2.1,()),w.2.2,())),rfl,?_⟩;dsimp only;have jT:(SL p w.1 g5++(oseg++(pgs gs++(q.seg++(J3++R))))).Perm (SL p w.1 g5++(oseg++(pgs gs++(q.seg++(J3++R))))):=Dq8 _;refine B6 (fun(h1:w.2.2=0)=>?_) (fun(h1: ¬w.2.2=0)=>?_)
    ·rw[Dq5 h1]at dS;refine A6 (some p.ni.z) (F3 (SL.st jT) rfl) ?_;have fU:w.1.ix=s.ix/\w.1.sc=s.sc:=by
      rw[hw];unfold Sto.write;rw[ho];dsimp only;split<;>exact⟨rfl,rfl⟩
     refine six jT X5 (C44 p.ni w.1.sc.ways w.1.ix g5.Ai X5.idx hh hO pl w.2.1 (by rw[fU.1];exact aM.fr)) ((Q6 w.1.ix hh pl).isSome,()) rfl {w.1 with ix:=Aq7 w.1.ix hh pl w.2.1} rfl fun g6 L6 iT X6 hn6=>?_;rw[dS,h1];exact .drop (A:=SL p _ g6++R) (J:=oseg++(pgs gs++(q.seg++J3))) ⟨g6,rfl,X6,hn6.trans cj,rfl⟩ (pc fun z=>by have:=pcn iT z;simp only[B4]at*;omega)
    ·rw[Dq4 h1]at dS;rw[dS];exact .drop (A:=SL p w.1 g5++R) (J:=oseg++(pgs gs++(q.seg++J3))) ⟨g5,rfl,X5,cj,rfl⟩ (pc fun z=>by simp only[B4];omega)
   ·rw[Dq5 (by simpa using h0)]at dS;rw[dS];exact .drop (A:=SL p s g++R) (J:=oseg++(pgs gs++(q.seg++J3))) ⟨g,rfl,X,rfl,rfl⟩ (pc fun z=>by have:=pcn dB z;simp only[B4]at*;omega)
  ·intro j2 fB;have xY:L2.Perm (SL p s g++((q.seg++J)++R)):=pc fun z=>by have:=pcn aH z;simp only[B4]at*;omega
   refine A6 (some p.ni.z) (F3 (SL.st aH) rfl) ?_;refine B5 (Reads.has (SL.i aH) (C46 p.ni s.sc.ways s.ix g.Ai X.idx hh hO pl)) (A47 s.ix hh pl,()) rfl ?_;refine B6 (fun hz=>drop (rs:=[]) (K:=fun _ _=>True) xY (.inl hz)) (fun hz=>?_);refine C4 fun n3 _=>?_;obtain⟨c3,rV⟩: ∃c3:Nat×Obj,c3=(n3,Obj.cells #[.i x.2.2.1,.i beside] 3):=⟨_,rfl⟩;rw[<-rV];have aZ:(c3::L2).Perm (SL p s g++(c3::(q.seg++(J++R)))):=pc fun z=>by have:=pcn aH z;simp only[B4,C5]at*;omega
   have jP: ∀y∈[x.2.2.1,beside],0<=y/\y<=(1000000:Nat):=fun y hy=>by
    simp at hy;rcases hy with rfl|rfl<;>omega
   have aJ:[x.2.2.1,beside].sum=x.2.2.1+beside:=by simp
   refine B5 (Cr0 aZ X (fun o ho=>by have:=h.op o ho;omega) ⟨some n3.z,2,2⟩ [x.2.2.1,beside] (Bm0 (by rw[rV];exact Dq7)) (by simp) jP) (s.fits (x.2.2.1+beside),()) (by rw[aJ];rfl) ?_;refine G1 (fun nQ=>?_) (fun nQ=>drop (rs:=[]) (K:=fun _ _=>True) (J3:=c3::(q.seg++J)) (pc fun z=>by have:=pcn aZ z;simp only[B4,C5]at*;omega) (.inr (.inl nQ)));refine C4 fun n4 _=>?_;obtain⟨c4,vA⟩: ∃c4:Nat×Obj,c4=(n4,Obj.cells #[.i x.2.2.1,.i beside] 3):=⟨_,rfl⟩;rw[<-vA];have dB:(c4::(c3::L2)).Perm (SL p s g++(q.seg++((c3::(c4::J))++R))):=pc fun z=>by have:=pcn aZ z;simp only[B4,C5]at*;omega
   refine B5 (By0 dB X hS.2 ⟨some n4.z,2,2⟩ [x.2.2.1,beside] (Bm0 (by rw[vA];exact Dq7)) (by simp) jP) (s.pays (x.2.2.1+beside),()) (by rw[aJ];rfl) ?_;refine G1 (fun xW=>fB _ _ ⟨⟨hz,nQ,xW⟩,_,dB⟩) (fun xW=>drop (rs:=[]) (K:=fun _ _=>True) (J3:=q.seg++(c3::(c4::J))) (pc fun z=>by have:=pcn dB z;simp only[B4,C5]at*;omega) (.inr (.inr xW)))
 ·intro j1 bP;refine B6 (fun(h0:f.2.2=0)=>?_) (fun(h0: ¬f.2.2=0)=>skip (J:=q.seg) (pc fun z=>by have:=pcn aL z;simp only[B4]at*;omega) (.inl h0));refine A6 (some p.ni.z) (F3 (SL.st aL) rfl) ?_;refine G5 (B56 p.ni s.sc.ways s.ix g.Ai X.idx hh hO) (R:=stO p s g::(kO p s::(mO p g::(gO p g::(g.Ad++(g.Ab++(rns g.ns++(rns g.on.toList++(g.pseg++(g.Aq++(q.seg++R))))))))))) (pc fun z=>by have:=pcn aL z;simp only[SL,B4,C5,D5]at*;omega) ?_;rintro _ _ ⟨u,seg,rfl,rfl,own⟩;refine⟨_,Dq8 _,(u,()),rfl,?_⟩;have aH:((seg++g.Ai)++(stO p s g::(kO p s::(mO p g::(gO p g::(g.Ad++(g.Ab++(rns g.ns++(rns g.on.toList++(g.pseg++(g.Aq++(q.seg++R)))))))))))).Perm (SL p s g++(q.seg++(seg++R))):=pc fun z=>by simp only[SL,B4,C5,D5];omega
  generalize (seg++g.Ai)++(stO p s g::(kO p s::(mO p g::(gO p g::(g.Ad++(g.Ab++(rns g.ns++(rns g.on.toList++(g.pseg++(g.Aq++(q.seg++R)))))))))))=L2 at aH;have nO:(J4 (J6 s.ix hh) hh).length<=1000000:=by
   unfold J4;rw[Dr1];have:=Dz7 (fun s:C3=>decide (s.part=R9 hh)) (J6 s.ix hh);have:=aM.len;omega
  refine B5 (Bn2 L2 u _ (own.sl.mono fun y hy=>aH.symm.subset (by simp[hy])) nO pl) (decide (pl∈J4 (J6 s.ix hh) hh),()) rfl ?_;refine B6 (fun dC=>bP _ _ ⟨⟨h0,dC⟩,seg,aH⟩) (fun dC=>skip (J:=q.seg++seg) (pc fun z=>by have:=pcn aH z;simp only[B4]at*;omega) (.inr dC))
theorem Ci6(L:A4)(x:It)(n1 m:Nat)(b:Int)(h1:C9 n1.z [.p m] L)(h2:C9 m.z [.i b] L):
  Reads PP 248 #[.agg (ki3 x),.p n1] L (.b (decide (x.1=b))):=by
 unfold Reads;refine(c248 x (some n1.z)).c ?_;exact A5 rfl (A6 (some m.z) h1 (A5 rfl (A6 b h2 (.of ⟨rfl,rfl⟩))))
def ofb(l:List It)(b:Int):List It:=l.filter fun p=> !decide (p.1=b)
theorem B47(l:List It)(b:Int)(y:It):ofb (l++[y]) b=ofb l b++(if y.1=b then[]else[y]):=by
 unfold ofb;rw[Dz8];by_cases h:y.1=b<;>simp[h]
theorem Cy8(L:A4)(v:SlV)(l:List It)(h:Sl L v 3 (l.flatMap P8))(hl:l.length<=1000000000)(n1 m:Nat)(b:Int)(h1:C9 n1.z [.p m] L)(h2:C9 m.z [.i b] L):
  Reads PP 295 #[.slice v.a v.len v.cap,.func (.func 248) #[] #[.p n1]] L (.i (match l.findIdx? (fun y=>decide (y.1=b))with|some i=>(i:Int)|none=> -1)):=by
 unfold Reads;refine(c295 v ⟨.func 248,#[],#[.p n1]⟩).c ?_;have cR:=h.els_len E3 (by decide);refine G7 (fun k z L'=>L'=L/\ ∃i:Nat,i<=l.length/\k=l.length-i/\z=((i:Int),())/\ ∀y∈l.take i,y.1≠b) l.length ⟨rfl,0,by omega,by omega,rfl,by simp⟩ ?_;rintro k z L' ⟨eY,i,hi,rfl,rfl,hn⟩;rw[eY];dsimp only;refine B6 (fun(hO:(i:Int)<v.len)=>?_) (fun(aS: ¬(i:Int)<v.len)=>?_)
 ·have hJ:i<l.length:=by omega
  refine W5 E3 (by decide) h (n:=i) rfl hJ fun a ha=>A6 (sh:=Z1) l[i] ha (Ab4 (by kernel_rfl) (B5 (Ci6 _ l[i] n1 m b h1 h2) (decide (l[i].1=b),()) rfl ?_));refine B6 (fun(he:l[i].1=b)=>.of ⟨?_,rfl⟩) (fun(he: ¬l[i].1=b)=>D6 (by omega) ⟨l.length-(i+1),by omega,rfl,i+1,by omega,rfl,rfl,fun y hy=>?_⟩)
  ·have:l.findIdx? (fun y=>decide (y.1=b))=some i:=by
    rw[D09];refine⟨hJ,by simpa using he,fun j hj=>?_⟩;have:=hn l[j] (by rw[D19];exact⟨j,by omega,rfl⟩);simpa using this
   rw[this]
  ·rw[Ds4 hJ]at hy;rcases Dr5.1 hy with hy|hy
   ·exact hn y hy
   ·rw[Dr2.1 hy];exact he
 ·obtain rfl:i=l.length:=by omega
  rw[Ds9]at hn;have:l.findIdx? (fun y=>decide (y.1=b))=none:=by
   rw[D10];intro y hy;simpa using hn y hy
  rw[this];exact .of ⟨rfl,rfl⟩
theorem Dg0(v:SlV)(i h:Nat):Q0 v ((i:Nat):Int) ((h:Nat):Int) ((v.cap:Nat):Int) 3=Q0 (Q0 v ((0:Nat):Int) ((i:Nat):Int) ((v.cap:Nat):Int) 3) ((Q0 v ((0:Nat):Int) ((i:Nat):Int) ((v.cap:Nat):Int) 3).len) ((h:Nat):Int) ((Q0 v ((0:Nat):Int) ((i:Nat):Int) ((v.cap:Nat):Int) 3).cap) 3:=by
 have ea: ∀o:Option Addr,o.map (·.add 0)=o:=fun o=>by cases o<;>simp[Addr.add]
 simp only[Q0,Dr0,Dx4,Dz2,ea,ite_self]
theorem Cz3(v:SlV)(l:List It)(seg Y:A4)(own:Own v 3 A70 (l.flatMap P8) seg)(hl:l.length<=1000000000)(n1 m:Nat)(b:Int)(h1:C9 n1.z [.p m] Y)(h2:C9 m.z [.i b] Y):
  CallF PP 247 #[.slice v.a v.len v.cap,.func (.func 248) #[] #[.p n1]] (seg++Y)
   fun r L'=> ∃(s:SlV) (seg':A4),r= .slice s.a s.len s.cap/\L'=seg'++Y/\Own s 3 A70 ((ofb l b).flatMap P8) seg':=by
 refine(c247 v ⟨.func 248,#[],#[.p n1]⟩).c ?_;have l1: ∀{sg L:A4},L.Perm (sg++Y)->C9 n1.z [.p m] L:=fun hp=>h1.mono fun x hx=>hp.symm.subset (by simp[hx]);have l2: ∀{sg L:A4},L.Perm (sg++Y)->C9 m.z [.i b] L:=fun hp=>h2.mono fun x hx=>hp.symm.subset (by simp[hx]);have hC:=own.sl.els_len E3 (by decide);have aU:=own.cap;refine B5 (Cy8 _ v l (own.sl.mono fun x hx=>by simp[hx]) hl n1 m b (l1 (Dq8 _)) (l2 (Dq8 _))) (_,()) rfl ?_;cases hf:l.findIdx? (fun y=>decide (y.1=b))with
 |none=>
  rw[D10]at hf;have:ofb l b=l:=by
   unfold ofb;rw[Dz9];intro y hy;have:=hf y hy;simpa using this
  rw[this];exact ifT rfl (.of ⟨v,seg,rfl,rfl,own⟩)
 |some i0=>
  rw[D09]at hf;obtain⟨kL,vT,pH⟩:=hf;have vT:l[i0].1=b:=by simpa using vT
  have lC:ofb (l.take i0) b=l.take i0:=by
   unfold ofb;rw[Dz9];intro y hy;obtain⟨j,hj,rfl⟩:=D19.1 hy;have:=pH j (by omega);simpa using this
  have bT:=B47 (l.take i0) b l[i0];rw[<-Ds4 kL,Dq5 vT,lC,Dr3]at bT;dsimp only;refine ifF (by simp) (D6 (by omega) ?_);refine G7 (fun k z L'=> ∃(i j:Nat) (cur:List It) (sg:A4),i<=j/\j<=l.length/\k=l.length-j/\z=((i:Int),(j:Int),())/\L'.Perm (sg++Y)/\Own v 3 A70 (cur.flatMap P8) sg/\cur.length=l.length/\i=(ofb (l.take j) b).length/\cur.take i=ofb (l.take j) b/\cur.drop j=l.drop j) (l.length-(i0+1))
   ⟨i0,i0+1,l,seg,by omega,by omega,by omega,rfl,Dq8 _,own,rfl,by rw[bT,Ds0];omega,by rw[bT],rfl⟩ ?_
  clear bT lC own;rintro k z L' ⟨i,j,cur,sg,oQ,hj,rfl,rfl,hp,own,bN,iJ,bW,dT⟩;dsimp only;have h0:Sl L' v 3 (cur.flatMap P8):=own.sl.mono fun x hx=>hp.symm.subset (by simp[hx]);refine B6 (fun(hO:(j:Int)<v.len)=>?_) (fun(aS: ¬(j:Int)<v.len)=>?_)
  ·have iX:j<cur.length:=by omega
   have oP:j<l.length:=by omega
   have zJ:cur[j]=l[j]:=by
    have a1:=Dv1 iX;have a2:=Dv1 oP;rw[dT,a2]at a1;injection a1 with b1 b2;exact b1.symm
   have mA:cur.drop (j+1)=l.drop (j+1):=by
    rw[<-Dw6,dT,Dw6]
   have bT:=B47 (l.take j) b l[j];rw[<-Ds4 oP]at bT;refine W5 E3 (by decide) h0 (n:=j) rfl iX fun a ha=>?_;rw[zJ]at ha;refine A6 (sh:=Z1) l[j] ha (Ab4 (by kernel_rfl) (B5 (Ci6 _ l[j] n1 m b (l1 hp) (l2 hp)) (decide (l[j].1=b),()) rfl ?_));refine B6 (fun(he:l[j].1=b)=>?_) (fun(he: ¬l[j].1=b)=>?_)
   ·rw[Dq5 he,Dr3]at bT;exact D6 (by omega) ⟨l.length-(j+1),by omega,i,j+1,cur,sg,by omega,by omega,rfl,rfl,hp,own,bN,by rw[bT];exact iJ,by rw[bT];exact bW,mA⟩
   ·rw[Dq4 he]at bT;obtain⟨a2,bA,hla2⟩:=h0.el E3 (by decide) (show i<cur.length by omega);refine A5 bA (D9 (show(0:Int)<=(i:Int) by omega) (show(i:Int)<v.len by omega) ?_);rw[Dr0];refine Cg1 E3 (by decide) own bA (show i<cur.length by omega) l[j] hp fun sg' L2 aH own2=>?_;refine D6 (by omega) (D6 (by omega) ⟨l.length-(j+1),by omega,i+1,j+1,cur.set i l[j],sg',by omega,by omega,rfl,rfl,aH,own2,by rw[Dz4];exact bN,?_,?_,?_⟩)
    ·rw[bT,Dr4,<-iJ];rfl
    ·rw[bT,<-bW,Ds4 (by rw[Dz4];omega),Ef5 (by omega),Ef6]
    ·rw[Ef7 (by omega)];exact mA
  ·obtain rfl:j=l.length:=by omega
   rw[Ds9]at iJ bW;have own':=own.slc (l:=0) (h:=i) (by omega) (by omega);rw[Ay8 E3,D06,Dx4,bW]at own';refine K7 (l':=i) (h':=v.len) (m':=v.cap) rfl rfl rfl (by omega) aU (Dq6 _) ?_;refine Az5.permL hp (Ai8 Au6 rfl [] Y own' (by simp) (h:=v.len) (by simp only[Q0,Dr0];omega) (by simp only[Q0,Dr0];omega) (Dg0 v i v.len) fun seg2 own2=>?_);refine K7 (l':=0) (h':=i) (m':=v.cap) rfl rfl rfl (by omega) (by omega) (Dq6 _) (.of ⟨_,seg2,rfl,by simp,own2⟩)
theorem Dg9(v:SlV)(l:List It)(seg:A4)(own:Own v 3 A70 (l.flatMap P8) seg)(hb:l.length<=1000000000)(k:Nat)(hk:k<=l.length)(h0:0<k):
  CallF PP 65 #[.slice v.a v.len v.cap,.i 0,.i k] seg fun r L'=> ∃s,r= .slice s.a s.len s.cap/\Own s 3 A70 ((l.drop k).flatMap P8) L':=by
 refine(c65 v 0 k).c ?_;have hC:=own.sl.els_len E3 (by decide);have aU:=own.cap;refine K7 (l':=0) (h':=k) (m':=v.len) rfl rfl rfl (by omega) (by omega) aU ?_;refine ifN (show¬((0:Int)=(k:Int)) by omega) ?_;refine K7 (l':=0) (h':=0) (m':=v.cap) rfl rfl rfl (by omega) (by omega) (Dq6 _) ?_;refine K7 (l':=k) (h':=v.len) (m':=v.cap) rfl rfl rfl (by omega) aU (Dq6 _) ?_;have own2:=own.slc (l:=0) (h:=0) (by omega) (by omega);have src2:=Sl.slc (m:=v.cap) own.sl (by omega) (l:=k) (h':=v.len) (by omega) (Dq6 _) aU;rw[Ay8 E3]at own2 src2;refine Al3 Au6 B24 [] [] own2 (by simp) (.sl src2) (Bq8 _) (by simp only[Q0,Dr0];omega) fun s seg' hs _ iA own'=>?_;rw[<-Dt3]at own';have e1:(l.drop 0).take (0-0)++(l.drop k).take (v.len-k)=l.drop k:=by
  rw[hC];simp only[Dx4,D82,Ds1];exact Dw9 (by rw[Ds6];omega)
 rw[e1]at own';simp only[Q0,Dr0]at hs iA;have cT:=own'.cap;refine K7 (l':=s.len) (h':=v.len) (m':=s.cap) rfl rfl rfl (by omega) (by omega) (Dq6 _) ?_;refine Ai8 Au6 rfl [] [] own' (by simp) (h:=v.len) (by omega) (by omega) rfl fun seg2 own2=>?_;exact .of ⟨s,rfl,by simpa using own2⟩
theorem Cb4{n:Nat}{e:TypeId}:Own ⟨some n.z,0,0⟩ 3 e [] [(n,Obj.cells #[] e)]:=⟨rfl,Dq6 _,.inr ⟨n,0,#[],(0,0),rfl,rfl,by simp,.inl (Dq6 _),fun i u hu=>by simp at hu⟩⟩
theorem Ch4(A:A4)(v:SlV)(l:List It)(h:Sl A v 3 (l.flatMap P8))(hb:l.length<=1000000000):
  CallF PP 71 #[.slice v.a v.len v.cap] A fun r L'=> ∃(s:SlV) (seg:A4),r= .slice s.a s.len s.cap/\L'=seg++A/\Own s 3 A70 (l.flatMap P8) seg:=by
 refine(c71 v).c ?_;have hC:=h.els_len E3 (by decide);cases ha:v.a with
 |none=>
  have:l=[]:=by
   cases l with
   |nil=>rfl
   |cons x r=>
    obtain⟨a,bA,_⟩:=h.el E3 (by decide) (i:=0) (by simp);rw[ha]at bA;cases bA
  rw[this];exact ifT rfl (.of ⟨⟨none,0,0⟩,[],rfl,rfl,F6⟩)
 |some a=>
  refine ifF rfl (C4 fun n1 _=>?_);refine app_pm Au6 B24 (Cb4 (n:=n1) (e:=102)) (Y:=A) (n:=v.len) (ws:=l.flatMap P8) (Dq8 _) ?_ (Bq8 _) ?_ fun v5 sg5 hl5 o5=>?_
  ·rw[<-ha];exact .sl (h.mono fun x hx=>Dr6 _ hx)
  ·rw[hC,show({a:=some n1.z,len:=0,cap:=0}:SlV).len=0 from rfl];omega
  ·exact .of ⟨v5,sg5,rfl,rfl,by simpa using o5⟩
theorem A34(b ep beside:Int): ∀(l:List It) (x:It) (s:Sto),(Sto.moves b ep beside l s).2=0->Sto.moves b ep beside (l++[x]) s=(if x.1≠2 then((Sto.moves b ep beside l s).1,0)else(Sto.moves b ep beside l s).1.move (b,x.2.1,ep,()) x.2.2.1 beside)
 |[],x,s,_=>by
  show Sto.moves b ep beside [x] s=_;unfold Sto.moves;split
  ·rfl
  ·dsimp only[Sto.moves];split
   ·rfl
   ·rename_i h;have h:(s.move (b,x.2.1,ep,()) x.2.2.1 beside).2=0:=by simpa using h
    exact Prod.ext rfl h.symm
 |y::r,x,s,h=>by
  rw[Dt7];unfold Sto.moves at h⊢;split
  ·rename_i hy;rw[Dq5 hy]at h;exact A34 b ep beside r x s h
  ·rename_i hy;rw[Dq4 hy]at h;dsimp only at h⊢;split
   ·rename_i h0;rw[Dq5 h0]at h;exact absurd h h0
   ·rename_i h0;rw[Dq4 h0]at h;exact A34 b ep beside r x _ h
theorem At5(b ep beside:Int): ∀(l r:List It) (s:Sto),(Sto.moves b ep beside l s).2≠0->Sto.moves b ep beside (l++r) s=Sto.moves b ep beside l s
 |[],r,s,h=>absurd rfl h
 |y::t,r,s,h=>by
  rw[Dt7];unfold Sto.moves at h⊢;split
  ·rename_i hy;rw[Dq5 hy]at h;exact At5 b ep beside t r s h
  ·rename_i hy;rw[Dq4 hy]at h;dsimp only at h⊢;split
   ·rfl
   ·rename_i h0;rw[Dq4 h0]at h;exact At5 b ep beside t r _ h
theorem A02(p:SP)(s:Sto)(g:SG)(X:SX p s g){M:Nat}(h:SOk s M)(hM:M<=1000000000)(hd:s.down=false)(R:A4)(hT:Tab R)(x:RN)(t:List RN)(cN:g.ns=x::t)(beside:Int)(pA:0<=beside/\beside<=1000):
  CallF PP 187 #[.p p.n,.q x.ptr,.i beside] (SL p s g++R) (SK p (s.reclaim x.r beside) R):=by
 refine(c187 (some p.n.z) x.ptr beside).c ?_;refine C4 fun n1 _=>?_;obtain⟨c1,dV⟩: ∃c1:Nat×Obj,c1=(n1,Obj.cells #[.q x.ptr] 80):=⟨_,rfl⟩;rw[<-dV];have l1: ∀{L:A4},c1∈L->C9 n1.z [.p x.id] L:=fun hm=>ldB (by rw[dV]at hm;exact hm) rfl;have aB:x∈g.all:=by unfold SG.all;rw[cN];simp
 have xo: ∀{g':SG} {s':Sto} {L R':A4},g'.ns=g.ns->L.Perm (SL p s' g'++R')-> ∀y∈x.objs,y∈L:=fun hn hp=>SL.rn hp (by unfold SG.all;rw[hn,cN];simp);have bD:(c1::(SL p s g++R)).Perm (SL p s g++(c1::R)):=pc fun z=>by simp only[B4,C5];omega
 have qE:x.o∈c1::(SL p s g++R):=xo rfl bD _ (by unfold RN.objs;exact Dq7);refine A6 (some x.id.z) (l1 Dq7) (A5 (a:=x.id.z) rfl (A6 x.v (ldB (n:=x.id) (off:=3) qE rfl) ?_));have aA:=X.ok x aB;have cR:=aA.sl.els_len E3 (by decide);have vV:x.r∈s.rs:=by rw[<-X.rs,cN];simp
 have eW:=h.it x.r (.inl vV);have cz:=eW.1;refine G7 (fun z' z L'=> ∃(i:Nat) (g':SG) (J:A4),i<=x.r.l.length/\z'=x.r.l.length-i/\z=((i:Int),())/\(Sto.moves x.r.b x.r.ep beside (x.r.l.take i) s).2=0/\SX p (Sto.moves x.r.b x.r.ep beside (x.r.l.take i) s).1 g'/\g'.ns=g.ns/\L'.Perm (SL p (Sto.moves x.r.b x.r.ep beside (x.r.l.take i) s).1 g'++(c1::(J++R)))) x.r.l.length
  ⟨0,g,[],by omega,by omega,rfl,rfl,X,rfl,bD⟩ ?_
 rintro z' z L1 ⟨i,g',J,hi,rfl,rfl,h0,X',lO,aL⟩;dsimp only;have iZ:Tab (c1::(J++R)):=hT.mono fun y hy=>by simp[hy]
 have vB:c1∈L1:=aL.symm.subset (by simp);have jD:=xo lO aL;have cn:x.o∈L1:=jD _ (by unfold RN.objs;exact Dq7);obtain⟨k1,k2,mv⟩:=SOk.moves (b:=x.r.b) (ep:=x.r.ep) (beside:=beside) (x.r.l.take i) h hd;have fb: ∀{L:A4},x.o∈L->C9 x.id.z [.i x.r.b] L:=fun hm=>ldB hm rfl;have fe: ∀{L:A4},x.o∈L->C9 ⟨x.id,1,none⟩ [.i x.r.ep] L:=fun hm=>ldB hm rfl;refine B6 (fun(hO:(i:Int)<x.v.len)=>?_) (fun(aS: ¬(i:Int)<x.v.len)=>?_)
 ·have hJ:i<x.r.l.length:=by omega
  have dd:=eW.2 _ (Dr7 hJ);have aF:=A34 x.r.b x.r.ep beside (x.r.l.take i) x.r.l[i] s h0;have aP: ∀r:List It,(Sto.moves x.r.b x.r.ep beside (x.r.l.take (i+1)) s).2≠0->Sto.moves x.r.b x.r.ep beside x.r.l s=Sto.moves x.r.b x.r.ep beside (x.r.l.take (i+1)) s:=fun _ he=>by
   conv=>lhs;rw[<-Dw1 (i+1) x.r.l]
   exact At5 x.r.b x.r.ep beside _ _ s he
  rw[Ds4 hJ]at aP;obtain⟨w,hw⟩: ∃w,w=Sto.moves x.r.b x.r.ep beside (x.r.l.take i) s:=⟨_,rfl⟩;rw[<-hw]at X' aL k1 aF k2 mv h0;refine W5 E3 (by decide) (aA.sl.mono fun y hy=>jD y (by unfold RN.objs;simp[hy])) (n:=i) rfl hJ fun a ha=>?_;obtain⟨y,hy⟩: ∃y,y=x.r.l[i]:=⟨_,rfl⟩;rw[<-hy]at ha dd aF aP;refine A6 (sh:=Z1) y ha ?_;refine B6 (fun(hk:y.1=2)=>?_) (fun(hk: ¬y.1=2)=>?_)
  ·rw[Dq4 (by simpa using hk)]at aF;refine A6 (some x.id.z) (l1 vB) (A5 rfl (A6 x.r.b (fb cn) (A6 (some x.id.z) (l1 vB) (A5 rfl (A6 x.r.ep (fe cn) ?_)))));refine Au8 (Cy5 p w.1 g' X' k1 (c1::(J++R)) iZ (x.r.b,y.2.1,x.r.ep,()) (Bd3 (by show-9223372036854775808<=y.2.1/\y.2.1<=9223372036854775807;omega)) y dd.2 beside pA) aL ?_;rintro _ _ ⟨g2,rfl,X2,iI,rfl⟩;refine⟨((w.1.move (x.r.b,y.2.1,x.r.ep,()) y.2.2.1 beside).2,()),rfl,?_⟩;refine B6 (fun(h1:(w.1.move (x.r.b,y.2.1,x.r.ep,()) y.2.2.1 beside).2=0)=>?_) (fun(h1: ¬(w.1.move (x.r.b,y.2.1,x.r.ep,()) y.2.2.1 beside).2=0)=>?_)
   ·refine D6 (by omega) ⟨x.r.l.length-(i+1),by omega,i+1,g2,J,by omega,rfl,rfl,?_,?_,iI.trans lO,?_⟩
    ·rw[Ds4 hJ,<-hy,aF];exact h1
    ·rw[Ds4 hJ,<-hy,aF];exact X2
    ·rw[Ds4 hJ,<-hy,aF]
   ·have aB:=aP [] (by rw[aF];exact h1);rw[aF]at aB;have xS:s.reclaim x.r beside=w.1.move (x.r.b,y.2.1,x.r.ep,()) y.2.2.1 beside:=by
     unfold Sto.reclaim;dsimp only;rw[aB,Dq5 h1]
    rw[xS];exact .drop (A:=SL p _ g2++R) (J:=c1::J) ⟨g2,rfl,X2,rfl⟩ (pc fun z=>by simp only[B4,C5];omega)
  ·rw[Dq5 (by simpa using hk)]at aF;refine D6 (by omega) ⟨x.r.l.length-(i+1),by omega,i+1,g',J,by omega,rfl,rfl,?_,?_,lO,?_⟩
   ·rw[Ds4 hJ,<-hy,aF]
   ·rw[Ds4 hJ,<-hy,aF];exact X'
   ·rw[Ds4 hJ,<-hy,aF];exact aL
 ·obtain rfl:i=x.r.l.length:=by omega
  rw[Ds9]at h0 X' aL k1 k2 mv;obtain⟨w,hw⟩: ∃w,w=Sto.moves x.r.b x.r.ep beside x.r.l s:=⟨_,rfl⟩;have xS:s.reclaim x.r beside=Sto.erase {w.1 with pend:=w.1.pend.filter fun p=> !decide (p.1=x.r.b)} x.r.b:=by
   unfold Sto.reclaim;dsimp only;rw[<-hw,Dq4];rw[hw];simpa using h0
  rw[<-hw]at X' aL k1 k2 mv h0;rw[xS];refine A5 rfl (A6 g'.pv (F3 (SL.st aL) rfl) ?_);refine Au8 (Cz3 g'.pv w.1.pend g'.pseg (stO p w.1 g'::(kO p w.1::(mO p g'::(gO p g'::(g'.Ad++(g'.Ab++(rns g'.ns++(rns g'.on.toList++(g'.Aq++(g'.Ai++(c1::(J++R)))))))))))) X'.pd (Dt1 k1.pl hM) n1 x.id x.r.b (l1 (by simp)) (fb (by
    have:x.o∈rns g'.ns:=Dw7.2 ⟨x,by rw[lO,cN];simp,by unfold RN.objs;exact Dq7⟩;simp[this]))) (pc fun z=>by have:=pcn aL z;simp only[SL,B4,C5,D5]at*;omega) ?_
  rintro _ _ ⟨s1,seg1,rfl,rfl,own1⟩;refine⟨(s1,()),rfl,?_⟩;obtain⟨s2,aJ⟩: ∃s2:Sto,s2={w.1 with pend:=w.1.pend.filter fun p=> !decide (p.1=x.r.b)}:=⟨_,rfl⟩;obtain⟨g2,gX⟩: ∃g2:SG,g2={g' with pv:=s1,pseg:=seg1}:=⟨_,rfl⟩;rw[<-aJ];refine Bw4 (s:=w.1) (g:=g') (k:=17) s2 g2 (Y:=seg1++(kO p w.1::(mO p g'::(gO p g'::(g'.Ad++(g'.Ab++(rns g'.ns++(rns g'.on.toList++(g'.Aq++(g'.Ai++(c1::(J++R)))))))))))) (pc fun z=>by simp only[B4,C5,D5];omega) (by decide) (by rw[aJ,gX];rfl) fun L2 aH=>?_;have aH:L2.Perm (SL p s2 g2++(c1::(J++R))):=pc fun z=>by
   have:=pcn aH z;have e1:kO p s2=kO p w.1:=by rw[aJ];rfl
   have e2:mO p g2=mO p g':=by rw[gX];rfl
   have e3:gO p g2=gO p g':=by rw[gX];rfl
   have e4:g2.pseg=seg1/\g2.Ad=g'.Ad/\g2.Ab=g'.Ab/\g2.ns=g'.ns/\g2.on=g'.on/\g2.Aq=g'.Aq/\g2.Ai=g'.Ai:=by rw[gX];exact⟨rfl,rfl,rfl,rfl,rfl,rfl,rfl⟩
   simp only[SL,e1,e2,e3,e4.1,e4.2.1,e4.2.2.1,e4.2.2.2.1,e4.2.2.2.2.1,e4.2.2.2.2.2.1,e4.2.2.2.2.2.2,B4,C5,D5]at*;omega
  have X2:SX p s2 g2:=by rw[aJ,gX];exact{X' with cfg:=X'.cfg,dev:=X'.dev,blk:=X'.blk,pd:=own1}
  have iI:g2.ns=g.ns:=by rw[gX];exact lO
  have yI:x.o∈L2:=xo iI aH _ (by unfold RN.objs;exact Dq7);refine A6 (some x.id.z) (l1 (aH.symm.subset (by simp))) (A5 rfl (A6 x.r.b (fb yI) ?_));have fA:SOk s2 M:=by rw[aJ];exact k1.cutp x.r.b
  have iP:s2.us=s.us:=by rw[aJ];exact mv.us
  have iH: ∀o,s2.op=some o->o.b≠x.r.b:=fun o ho e=>by
   have h3:s2.op.map Reg.b=s.op.map Reg.b:=by rw[aJ];exact mv.ob
   rw[ho]at h3;have bV:=h.use.1;unfold Sto.us at bV;rw[<-h3,<-X.rs,cN]at bV;simp[e]at bV
  refine G5 (Bn0 p s2 g2 X2 fA.dv (fun y hy=>by have:=fA.sw y hy;omega) fA.use.1 x.r.b iH (fun hb=>by
   have:x.r.b∈s2.us:=by rw[iP];unfold Sto.us;exact Ds8 _ (Du6 vV)
   have:=fA.use.2 _ this;rw[this]at hb;cases hb)) aH ?_
  rintro _ _ ⟨g3,qY,X3,rfl⟩;rw[Dr3]at qY;rw[qY];exact⟨_,Dq8 _,((s2.erase x.r.b).2,()),rfl,.drop (A:=SL p (s2.erase x.r.b).1 g3++R) (J:=c1::J) ⟨g3,rfl,X3,rfl⟩ (pc fun z=>by simp only[B4,C5];omega)⟩
theorem Bb0(n:Int)(k:Nat)(s:Sto):Sto.frees n (k+1) s=if s.free=0 then(match s.rs with
 |[]=>(s,0)
 |h::_=>if(s.reclaim h n).2≠0 then s.reclaim h n else Sto.frees n k (s.reclaim h n).1)else(s,0):=rfl
theorem C93(s:Sto):s.us.length=s.rs.length+(if s.op.isSome=true then 1 else 0):=by
 unfold Sto.us;rw[Dr4,Dr1];cases s.op<;>rfl
theorem bad_eq{d:Dev}{b:Int}(hb:0<=b)(hl:b.toNat<d.bs.length):Ar8 d b=(match d.bs[b.toNat]? with|some k=>k.bad|none=>false):=by
 unfold Ar8 D7;rw[Dq5 (by omega)];cases d.bs[b.toNat]?<;>rfl
theorem Ch0(p:SP)(s:Sto)(g:SG)(X:SX p s g){M:Nat}(h:SOk s M)(hM:M<=1000000000)(hd:s.down=false)(R:A4)(hT:Tab R)(n:Int)(hn:0<=n/\n<=1000){L J:A4}(hp:L.Perm (SL p s g++(J++R))){K:Value->HP}(hK: ∀v L',HL.Ends (SK p (Sto.frees n (s.rs.length+1) s) R) v L'->K v L'):
  lp [] () (fun z1 go1=>ld ⟨p.n,12,none⟩ (.lf .ptr) fun v6=>cl PP 185 #[.q v6] [lI] fun r10=>ifB (decide ((r10.1:Int)=0)) (
   cl PP 186 #[.q (some ⟨p.n,11,none⟩)] [.lf .ptr] fun r11=>ifB (Option.isNone r11.1) (K (.i 0)) (
    cl PP 187 #[.p p.n,.q r11.1,.i n] [lI] fun r12=>ifB (decide ((r12.1:Int)=0)) (go1 ()) (K (.i r12.1)))) (K (.i 0))) L:=by
 refine G7 (fun z' z L'=> ∃(cur:Sto) (g':SG) (J:A4),z'=cur.rs.length/\SOk cur M/\cur.down=false/\SX p cur g'/\Sto.frees n (s.rs.length+1) s=Sto.frees n (cur.rs.length+1) cur/\L'.Perm (SL p cur g'++(J++R))) s.rs.length ⟨s,g,J,rfl,h,hd,X,rfl,hp⟩ ?_;rintro z' z L1 ⟨cur,g',J,rfl,hc,kN,X',lX,aL⟩;dsimp only;rw[lX]at hK;have fin: ∀{L2:A4} {J2:A4},L2.Perm (SL p cur g'++(J2++R))->Sto.frees n (cur.rs.length+1) cur=(cur,0)->K (.i 0) L2:=fun{L2 J2} aH he=>by
  refine hK _ _ ?_;rw[he];exact .drop (A:=SL p cur g'++R) (J:=J2) ⟨g',rfl,X',rfl⟩ (pc fun z=>by have:=pcn aH z;simp only[B4]at*;omega)
 rw[Bb0]at fin hK;refine A6 (some p.nb.z) (F3 (SL.st aL) rfl) ?_;refine B5 (Reads.has (SL.b aL) (Bu6 p.nb cur.ss cur.us g'.Ab X'.blk)) (cur.free,()) rfl ?_;refine B6 (fun(h0:cur.free=0)=>?_) (fun(h0: ¬cur.free=0)=>fin aL (by rw[Dq4 h0]));rw[Dq5 h0]at fin hK;refine B5 (A91 aL X' hc.use.1) ((match g'.ns with|[]=>none|x::_=>x.ptr),()) rfl ?_;have eA:=X'.rs;cases cN:g'.ns with
 |nil=>
  rw[cN]at eA;exact ifT rfl (fin aL (by rw[<-eA];rfl))
 |cons x t=>
  rw[cN]at eA;refine ifF rfl ?_;have qX:Tab (J++R):=hT.mono fun y hy=>by simp[hy]
  refine Au8 (A02 p cur g' X' hc hM kN (J++R) qX x t cN n hn) aL ?_;rintro _ _ ⟨g2,rfl,X2,rfl⟩;refine⟨((cur.reclaim x.r n).2,()),rfl,?_⟩;have jQ:cur.rs=x.r::t.map RN.r:=eA.symm;obtain⟨k1,k2,k3⟩:=hc.reclaim kN jQ n;rw[jQ]at hK;dsimp only at hK;refine B6 (fun(h1:(cur.reclaim x.r n).2=0)=>?_) (fun(h1: ¬(cur.reclaim x.r n).2=0)=>?_)
  ·obtain⟨a1,a2,a3,a4,a5⟩:=k2 h1;rw[C93,C93,a5]at a2;have hl:(cur.reclaim x.r n).1.rs.length+1=cur.rs.length:=by omega
   refine⟨(cur.reclaim x.r n).1.rs.length,by omega,_,g2,J,rfl,k1,a1,X2,?_,Dq8 _⟩;rw[lX,Bb0,Dq5 h0,jQ];dsimp only;rw[Dq4 (by simpa using h1),<-jQ,hl]
  ·rw[Dq5 (by simpa using h1)]at hK;exact hK _ _ (.drop (A:=SL p (cur.reclaim x.r n).1 g2++R) (J:=J) ⟨g2,rfl,X2,rfl⟩ (pc fun z=>by simp only[B4];omega))
theorem Cy6(p:SP)(s:Sto)(g:SG)(X:SX p s g){M:Nat}(h:SOk s M)(hM:M<=1000000000)(hd:s.down=false)(R:A4)(hT:Tab R)(n:Int)(hn:0<=n/\n<=1000):
  CallF PP 127 #[.p p.n,.i n] (SL p s g++R) (SK p (s.more n) R):=by
 refine(c127 (some p.n.z) n).c ?_;have hS:=h.S;have bD:(SL p s g++R).Perm (SL p s g++R):=Dq8 _;refine W2 (fun(y:RsV [lI]) L'=>y=(s.sealN,())/\L'=SL p s g++R) ?_ ?_
 ·rintro _ _ ⟨rfl,rfl⟩;dsimp only;refine A5 rfl (C4 fun n1 _=>?_);obtain⟨c1,dV⟩: ∃c1:Nat×Obj,c1=(n1,Obj.cells #[.i n,.i 1,.i s.sealN] 3):=⟨_,rfl⟩;rw[<-dV];have aL:(c1::(SL p s g++R)).Perm (SL p s g++(c1::R)):=pc fun z=>by simp only[B4,C5];omega
  have bT:0<=s.sealN/\s.sealN<=1:=by unfold Sto.sealN;split<;>decide
  have jD:(n1,Obj.cells (ivs .i64 [n,1,s.sealN]).toArray 3)∈c1::(SL p s g++R):=by rw[dV];exact Dq7
  have jP: ∀y∈[n,1,s.sealN],0<=y/\y<=(1000000:Nat):=fun y hy=>by
   simp at hy;rcases hy with rfl|rfl|rfl<;>omega
  have aJ:[n,1,s.sealN].sum=n+1+s.sealN:=by simp;omega
  refine B5 (By0 aL X hS.2 ⟨some n1.z,3,3⟩ [n,1,s.sealN] (ISl.const (l:=[n,1,s.sealN]) 3 (by simp) jD) (by simp) jP) (s.pays (n+1+s.sealN),()) (by rw[aJ];rfl) ?_;have aO:s.more n=(if s.pays (n+1+s.sealN)=false then(s,13)else if s.epoch≥1073741824 then(s,7)else if s.free=0 then(match s.rs with
    |[]=>(s,7)
    |h::_=>s.reclaim h n)else if s.seals.2≠0 then s.seals else
   if(if(E2 s.seals.1.ss s.seals.1.us).2.1.dirty then s.seals.1.erase (E2 s.seals.1.ss s.seals.1.us).2.2 else(s.seals.1,0)).2≠0 then(if(E2 s.seals.1.ss s.seals.1.us).2.1.dirty then s.seals.1.erase (E2 s.seals.1.ss s.seals.1.us).2.2 else(s.seals.1,0))else
   if(E2 s.seals.1.ss s.seals.1.us).2.1.dirty=true/\(if(E2 s.seals.1.ss s.seals.1.us).2.1.dirty then s.seals.1.erase (E2 s.seals.1.ss s.seals.1.us).2.2 else(s.seals.1,0)).1.badAt (E2 s.seals.1.ss s.seals.1.us).2.2=true then((if(E2 s.seals.1.ss s.seals.1.us).2.1.dirty then s.seals.1.erase (E2 s.seals.1.ss s.seals.1.us).2.2 else(s.seals.1,0)).1,0)else
   if((if(E2 s.seals.1.ss s.seals.1.us).2.1.dirty then s.seals.1.erase (E2 s.seals.1.ss s.seals.1.us).2.2 else(s.seals.1,0)).1.begins (E2 s.seals.1.ss s.seals.1.us).2.2).2≠0 then(if(E2 s.seals.1.ss s.seals.1.us).2.1.dirty then s.seals.1.erase (E2 s.seals.1.ss s.seals.1.us).2.2 else(s.seals.1,0)).1.begins (E2 s.seals.1.ss s.seals.1.us).2.2 else
   Sto.frees n (((if(E2 s.seals.1.ss s.seals.1.us).2.1.dirty then s.seals.1.erase (E2 s.seals.1.ss s.seals.1.us).2.2 else(s.seals.1,0)).1.begins (E2 s.seals.1.ss s.seals.1.us).2.2).1.rs.length+1) ((if(E2 s.seals.1.ss s.seals.1.us).2.1.dirty then s.seals.1.erase (E2 s.seals.1.ss s.seals.1.us).2.2 else(s.seals.1,0)).1.begins (E2 s.seals.1.ss s.seals.1.us).2.2).1):=rfl
  obtain⟨L1,eX⟩: ∃L1,L1=c1::(SL p s g++R):=⟨_,rfl⟩;rw[<-eX]at aL⊢;have fin: ∀(e:Int),s.more n=(s,e)->HL.Ends (SK p (s.more n) R) (.i e) L1:=fun e he=>by
   rw[he];exact .drop (A:=SL p s g++R) (J:=[c1]) ⟨g,rfl,X,rfl⟩ (pc fun z=>by have:=pcn aL z;simp only[B4,C5,D5]at*;omega)
  refine G1 (fun nD=>?_) (fun nD=>fin 13 (by rw[aO,Dq5 nD]));rw[Dq4 (by rw[show s.pays (n+1+s.sealN)=true from nD];decide)]at aO;refine A6 s.epoch (F3 (SL.st aL) rfl) ?_;refine B6 (fun(bX:s.epoch≥1073741824)=>fin 7 (by rw[aO,Dq5 bX])) (fun(bX: ¬s.epoch≥1073741824)=>?_);rw[Dq4 bX]at aO;refine A6 (some p.nb.z) (F3 (SL.st aL) rfl) ?_;refine B5 (Reads.has (SL.b aL) (Bu6 p.nb s.ss s.us g.Ab X.blk)) (s.free,()) rfl ?_;have qX:Tab (c1::R):=hT.cons;refine B6 (fun(h0:s.free=0)=>?_) (fun(h0: ¬s.free=0)=>?_)
  ·rw[Dq5 h0]at aO;refine B5 (A91 aL X h.use.1) ((match g.ns with|[]=>none|x::_=>x.ptr),()) rfl ?_;have eA:=X.rs;cases cN:g.ns with
   |nil=>
    rw[cN]at eA;exact ifT rfl (fin 7 (by rw[aO,<-eA];rfl))
   |cons x t=>
    rw[cN]at eA;refine ifF rfl ?_;have jQ:s.rs=x.r::t.map RN.r:=eA.symm;rw[jQ]at aO;dsimp only at aO;refine Au8 (A02 p s g X h hM hd (c1::R) qX x t cN n hn) aL ?_;rintro _ _ ⟨g2,rfl,X2,rfl⟩;rw[aO];exact⟨((s.reclaim x.r n).2,()),rfl,.drop (A:=SL p (s.reclaim x.r n).1 g2++R) (J:=[c1]) ⟨g2,rfl,X2,rfl⟩ (pc fun z=>by simp only[B4,C5,D5];omega)⟩
  ·rw[Dq4 h0]at aO;obtain⟨s1,s2,s3,s4,s5,s6,s7⟩:=h.seals hd;refine G5 (Cy2 p s g X hS.2 h.bk (h.dg 1 (by decide)) (fun o ho=>by have:=(h.it o (.inr ho)).1;omega)) aL ?_;rintro _ _ ⟨g2,mU,X2,rfl⟩;rw[Dr3]at mU;rw[mU];refine⟨_,Dq8 _,(s.seals.2,()),rfl,?_⟩;dsimp only;generalize s.seals=w at s1 s2 s3 s4 s5 s6 s7 X2 aO;have aH:(SL p w.1 g2++c1::R).Perm (SL p w.1 g2++c1::R):=Dq8 _;refine B6 (fun(h1:w.2=0)=>?_) (fun(h1: ¬w.2=0)=>?_)
   ·rw[Dq4 (by simpa using h1)]at aO;have bQ:w.1.free≠0:=by
     unfold Sto.free at h0⊢;rw[s5,s4];exact h0
    obtain⟨z,hz,z1,z2,z3,z4,z5,z6⟩:=s1.picks (s2 h1) s3 bQ;have bz:=Aa7 bQ;rw[<-hz]at aO;refine A6 (some p.nb.z) (F3 (SL.st aH) rfl) ?_;refine B5 (Reads.has (SL.b aH) (C76 p.nb w.1.ss w.1.us g2.Ab X2.blk)) ((E2 w.1.ss w.1.us).2.2,(E2 w.1.ss w.1.us).2.1.dirty,(E2 w.1.ss w.1.us).1,()) rfl ?_;dsimp only;generalize E2 w.1.ss w.1.us=pk at hz z6 aO bz;obtain⟨q1,q2⟩:=D8 bz.1;obtain⟨q3,q4,q5⟩:=K5 q1;refine W2 (fun _ L'=>z.2=0/\ ¬(pk.2.1.dirty=true/\z.1.badAt pk.2.2=true)/\ ∃g3,SX p z.1 g3/\L'.Perm (SL p z.1 g3++(c1::R))) ?_ ?_
    ·rintro _ L3 ⟨cY,qB,g3,X3,aZ⟩;obtain⟨y1,y2,y3,y4,y5⟩:=z6 cY;obtain⟨f1,f2⟩:=y5 qB;rw[Dq4 (by simpa using cY),Dq4 qB]at aO;have jZ:z.1.epoch<1073741824:=by rw[z4,s6];omega
     obtain⟨b1,b2⟩:=z1.begins y1 z2 jZ f1;refine G5 (Ch6 p z.1 g3 X3 z1.S.2 z1.bk (z1.dg 1 (by decide)) z2 z1.ep (by have:=z1.usl;omega) pk.2.2 f2 (D8 f1).2) aZ ?_;rintro _ _ ⟨g4,vP,X4,rfl⟩;rw[Dr3]at vP;rw[vP];refine⟨_,Dq8 _,((z.1.begins pk.2.2).2,()),rfl,?_⟩;dsimp only;generalize z.1.begins pk.2.2=y at b1 b2 X4 aO;refine B6 (fun(h2:y.2=0)=>?_) (fun(h2: ¬y.2=0)=>?_)
     ·rw[Dq4 (by simpa using h2)]at aO;rw[aO];exact Ch0 p y.1 g4 X4 b1 hM (b2 h2).1 R hT n hn (J:=[c1]) (Dq8 _) fun _ _ hk=>hk
     ·rw[Dq5 (by simpa using h2)]at aO;rw[aO];exact .drop (A:=SL p y.1 g4++R) (J:=[c1]) ⟨g4,rfl,X4,rfl⟩ (pc fun z=>by simp only[B4,C5,D5];omega)
    ·intro j2 fB;refine G1 (fun(dK:pk.2.1.dirty=true)=>?_) (fun(dK:pk.2.1.dirty=false)=>?_)
     ·rw[Dq5 dK]at hz;refine G5 (Bn0 p w.1 g2 X2 s1.dv (fun y hy=>by have:=s1.sw y hy;omega) s1.use.1 pk.2.2 (fun o ho=>by rw[s3]at ho;cases ho) (fun hb=>by rw[q1]at hb;cases hb)) aH ?_;rw[<-hz];rintro _ _ ⟨g3,qY,X3,rfl⟩;rw[Dr3]at qY;rw[qY];refine⟨_,Dq8 _,(z.2,()),rfl,?_⟩;have aZ:(SL p z.1 g3++c1::R).Perm (SL p z.1 g3++c1::R):=Dq8 _;dsimp only;refine B6 (fun(cY:z.2=0)=>?_) (fun(cY: ¬z.2=0)=>?_)
      ·refine A6 (some p.m.z) (F3 (SL.st aZ) rfl) ?_;refine B5 (Reads.has (SL.d aZ) (Cu3 p.m z.1.d g3.Ad X3.dev z1.dv pk.2.2)) (Ar8 z.1.d pk.2.2,()) rfl ?_;have dD:pk.2.2.toNat<z.1.d.bs.length:=by
        have h1:=z1.dv.len;have h2:=s1.dv.len;have h3:=s1.ssl;have h4:z.1.d.c=w.1.d.c:=by rw[z1.cfg,s1.cfg,z5]
        rw[h4]at h1;omega
       have dW:Ar8 z.1.d pk.2.2=z.1.badAt pk.2.2:=bad_eq q3 dD;rw[dW];refine G1 (fun hb=>?_) (fun hb=>fB _ _ ⟨cY,fun hh=>by rw[show z.1.badAt pk.2.2=false from hb]at hh;exact absurd hh.2 (by decide),g3,X3,aZ⟩);rw[Dq4 (by simpa using cY),Dq5 ⟨dK,hb⟩]at aO;rw[aO,cY];exact .drop (A:=SL p z.1 g3++R) (J:=[c1]) ⟨g3,rfl,X3,rfl⟩ (pc fun z=>by simp only[B4,C5,D5];omega)
      ·rw[Dq5 (by simpa using cY)]at aO;rw[aO];exact .drop (A:=SL p z.1 g3++R) (J:=[c1]) ⟨g3,rfl,X3,rfl⟩ (pc fun z=>by simp only[B4,C5,D5];omega)
     ·rw[Dq4 (by rw[dK];decide)]at hz;have gA:z.1=w.1:=by rw[hz]
      exact fB _ _ ⟨by rw[hz],fun hh=>by rw[dK]at hh;exact absurd hh.1 (by decide),g2,by rw[gA];exact X2,by rw[gA]⟩
   ·rw[Dq5 (by simpa using h1)]at aO;rw[aO];exact .drop (A:=SL p w.1 g2++R) (J:=[c1]) ⟨g2,rfl,X2,rfl⟩ (pc fun z=>by simp only[B4,C5,D5];omega)
 ·intro j1 bP;refine A5 rfl (A6 (onp g.on) (F3 (SL.st bD) rfl) ?_);have bM:=X.op;cases iU:g.on with
  |none=>
   rw[iU]at bM;exact ifT rfl (bP _ _ ⟨by unfold Sto.sealN;rw[<-bM];rfl,rfl⟩)
  |some x=>
   rw[iU]at bM;exact ifF rfl (bP _ _ ⟨by unfold Sto.sealN;rw[<-bM];rfl,rfl⟩)
theorem B23(p:SP)(s:Sto)(g:SG)(X:SX p s g){M:Nat}(h:SOk s M)(hM:M<=1000000000)(hd:s.down=false)(R:A4)(hT:Tab R)(n:Int)(hn:0<=n/\n<=1000):
  CallF PP 61 #[.p p.n,.i n] (SL p s g++R) (SK p (s.roomy n) R):=by
 refine(c61 (some p.n.z) n).c ?_;rw[Cz7 hn.1 h hd];refine G7 (fun z' z L'=> ∃(cur:Sto) (g':SG) (J:A4),z'=cur.mu2/\SOk cur M/\cur.down=false/\SX p cur g'/\Sto.room n (s.mu2+1) s=Sto.room n (cur.mu2+1) cur/\L'.Perm (SL p cur g'++(J++R))) s.mu2 ⟨s,g,[],rfl,h,hd,X,rfl,Dq8 _⟩ ?_;rintro z' z L1 ⟨cur,g',J,rfl,hc,kN,X',lX,aL⟩;dsimp only;rw[lX,M3];have hS:=hc.S;have bY: ∀y∈[n],0<=y/\y<=(1000000:Nat):=fun y hy=>by rw[Dr2.1 hy];omega
 have bK:[n].sum=n:=by simp
 refine A5 rfl (C4 fun n1 _=>?_);obtain⟨c1,dV⟩: ∃c1:Nat×Obj,c1=(n1,Obj.cells #[.i n] 3):=⟨_,rfl⟩;rw[<-dV];have aH:(c1::L1).Perm (SL p cur g'++((c1::J)++R)):=pc fun z=>by have:=pcn aL z;simp only[B4,C5]at*;omega
 have jD:(n1,Obj.cells (ivs .i64 [n]).toArray 3)∈c1::L1:=by rw[dV];exact Dq7
 refine B5 (Cr0 aH X' (fun o ho=>by have:=hc.op o ho;omega) ⟨some n1.z,1,1⟩ [n] (ISl.const (l:=[n]) 1 (by simp) jD) (by simp) bY) (cur.fits n,()) (by rw[bK];rfl) ?_;refine G1 (fun hf=>?_) (fun hf=>?_)
 ·rw[Dq5 hf];refine C4 fun n2 _=>?_;obtain⟨c2,cK⟩: ∃c2:Nat×Obj,c2=(n2,Obj.cells #[.i n] 3):=⟨_,rfl⟩;rw[<-cK];have aZ:(c2::(c1::L1)).Perm (SL p cur g'++((c2::(c1::J))++R)):=pc fun z=>by have:=pcn aH z;simp only[B4,C5]at*;omega
  have eR:(n2,Obj.cells (ivs .i64 [n]).toArray 3)∈c2::(c1::L1):=by rw[cK];exact Dq7
  refine B5 (By0 aZ X' hS.2 ⟨some n2.z,1,1⟩ [n] (ISl.const (l:=[n]) 1 (by simp) eR) (by simp) bY) (cur.pays n,()) (by rw[bK];rfl) ?_;refine G1 (fun nD=>?_) (fun nD=>?_)
  ·rw[Dq5 nD];exact .drop (A:=SL p cur g'++R) (J:=c2::(c1::J)) ⟨g',rfl,X',rfl⟩ (pc fun z=>by have:=pcn aZ z;simp only[B4,C5]at*;omega)
  ·rw[Dq4 (by rw[show cur.pays n=false from nD];decide)];exact .drop (A:=SL p cur g'++R) (J:=c2::(c1::J)) ⟨g',rfl,X',rfl⟩ (pc fun z=>by have:=pcn aZ z;simp only[B4,C5]at*;omega)
 ·rw[Dq4 (by rw[show cur.fits n=false from hf];decide)];have qX:Tab ((c1::J)++R):=hT.mono fun y hy=>by simp[hy]
  refine Au8 (Cy6 p cur g' X' hc hM kN ((c1::J)++R) qX n hn) aH ?_;rintro _ _ ⟨g2,rfl,X2,rfl⟩;refine⟨((cur.more n).2,()),rfl,?_⟩;obtain⟨k1,k2,k3⟩:=hc.more kN hn.1;refine B6 (fun(h0:(cur.more n).2=0)=>?_) (fun(h0: ¬(cur.more n).2=0)=>?_)
  ·obtain⟨a1,a2⟩:=k2 h0;refine⟨(cur.more n).1.mu2,a2,(cur.more n).1,g2,c1::J,rfl,k1,a1,X2,?_,Dq8 _⟩;rw[Dq4 (by simpa using h0)];exact Bn6 hn.1 _ k1 a1 a2
  ·rw[Dq5 (by simpa using h0)];exact .drop (A:=SL p (cur.more n).1 g2++R) (J:=c1::J) ⟨g2,rfl,X2,rfl⟩ (pc fun z=>by simp only[B4,C5];omega)
theorem Bn3(p:SP)(s:Sto)(g:SG)(X:SX p s g){M:Nat}(h:SOk s M)(hM:M<=1000000000)(hd:s.down=false)(R:A4)(hT:Tab R)(key:ByteArray)(hk:key.size<=1000000)(u:SlV)(val:List UInt8)(hu:BSl R u val):
  CallF PP 49 #[.p p.n,.w key,.slice u.a u.len u.cap] (SL p s g++R) (SK p (s.adm key val) R):=by
 refine(c49 (some p.n.z) key u).c ?_;have hS:=h.S;have hP:=h.P;have bD:(SL p s g++R).Perm (SL p s g++R):=Dq8 _;have dR:s.adm key val=(if(J5 key.data.toList val (J8 s.sc.c)).2≠0 then(s,(J5 key.data.toList val (J8 s.sc.c)).2)else
  if(s.roomy (J5 key.data.toList val (J8 s.sc.c)).1.length).2≠0 then s.roomy (J5 key.data.toList val (J8 s.sc.c)).1.length else
  if((s.roomy (J5 key.data.toList val (J8 s.sc.c)).1.length).1.write 2 (J5 key.data.toList val (J8 s.sc.c)).1).2.2=0 then(((s.roomy (J5 key.data.toList val (J8 s.sc.c)).1.length).1.write 2 (J5 key.data.toList val (J8 s.sc.c)).1).1.list key ((s.roomy (J5 key.data.toList val (J8 s.sc.c)).1.length).1.write 2 (J5 key.data.toList val (J8 s.sc.c)).1).2.1,0)
  else(((s.roomy (J5 key.data.toList val (J8 s.sc.c)).1.length).1.write 2 (J5 key.data.toList val (J8 s.sc.c)).1).1,((s.roomy (J5 key.data.toList val (J8 s.sc.c)).1.length).1.write 2 (J5 key.data.toList val (J8 s.sc.c)).1).2.2)):=rfl
 refine A5 rfl (A6 (sh:=Z4) ((s.sc.c.B:Int),(s.sc.c.P:Int),(s.sc.c.S:Int),(s.sc.c.W:Int),()) (Cy0 (SL.st bD)) ?_);refine G5 (Dd4 R hT key (Dt1 hk (by decide)) u val hu (J8 s.sc.c) (by show(s.sc.c.P:Int)<=_;omega)) (R:=SL p s g) (pc fun z=>by simp only[B4]at*;omega) ?_;rintro _ _ ⟨ov,oseg,gs,rfl,rfl,own,gW,dL⟩;have bN:=Cs8 key.data.toList val (J8 s.sc.c);obtain⟨c,hc⟩: ∃c,c=J5 key.data.toList val (J8 s.sc.c):=⟨_,rfl⟩;rw[<-hc]at dL dR bN⊢;refine⟨_,Dq8 _,(ov,c.2,()),rfl,?_⟩;have aL:((oseg++(pgs gs++R))++SL p s g).Perm (SL p s g++(oseg++(pgs gs++R))):=Du8;generalize (oseg++(pgs gs++R))++SL p s g=L1 at aL;dsimp only;have pX:ov.len=c.1.length:=by
  have:=own.sl.len;rw[Dr1,Dt8]at this;rw[this,<-dL,Dr1]
 refine B6 (fun(h0:c.2=0)=>?_) (fun(h0: ¬c.2=0)=>?_)
 ·rw[Dq4 (by simpa using h0)]at dR;have iZ:Tab (oseg++(pgs gs++R)):=hT.mono fun y hy=>by simp[hy]
  have hn:(0:Int)<=(c.1.length:Int)/\(c.1.length:Int)<=1000:=by omega
  have cH:=B23 p s g X h hM hd (oseg++(pgs gs++R)) iZ (c.1.length:Int) hn;rw[<-pX]at cH;refine Au8 cH aL ?_;rw[pX];rintro _ _ ⟨g2,rfl,X2,rfl⟩;obtain⟨k1,k2,k3⟩:=h.roomy hd hn.1;refine⟨((s.roomy (c.1.length:Int)).2,()),rfl,?_⟩;dsimp only;generalize s.roomy (c.1.length:Int)=w at k1 k2 k3 X2 dR;refine B6 (fun(h1:w.2=0)=>?_) (fun(h1: ¬w.2=0)=>?_)
  ·rw[Dq4 (by simpa using h1)]at dR;obtain⟨a1,a2⟩:=k2 h1;obtain⟨o,ho⟩: ∃o,w.1.op=some o:=by
    unfold Sto.fits at a2;cases bM:w.1.op with
    |none=>rw[bM]at a2;cases a2
    |some o=>exact⟨o,rfl⟩
   have tL:=k1.op o ho;have kU:(pvs gs).map Prod.snd=c.1:=by rw[A23];exact dL
   have lD:(pvs gs).length<=8:=by rw[<-kU,Dr1]at bN;exact bN
   have dF:(pvs gs).length<=1000000:=by omega
   have dE:0<=o.nx/\o.nx<=1000:=by omega
   have vG:o.l.length<=1000:=by omega
   have zQ:Z0 (oseg++(pgs gs++R)) ov (pvs gs):=Bm6 own gW (fun y hy=>by simp[hy]) (fun y hy=>by simp[hy]);have mC:=A01 p w.1 g2 X2 k1.S.2 k1.bk (oseg++(pgs gs++R)) ov (pvs gs) zQ dF (k1.dg _ dF) o ho dE vG 2;rw[pX]at mC;refine Au8 mC (Dq8 _) ?_;rw[kU];rintro _ _ ⟨g3,rfl,X3,hn3,rfl⟩;obtain⟨b1,b2⟩:=k1.write a1 2 c.1;refine⟨((((w.1.write 2 c.1).2.1.1,(w.1.write 2 c.1).2.1.2.1,(w.1.write 2 c.1).2.1.2.2.1,()),(w.1.write 2 c.1).2.2,())),rfl,?_⟩;dsimp only;generalize w.1.write 2 c.1=z at b1 b2 X3 dR;refine B6 (fun(h2:z.2.2=0)=>?_) (fun(h2: ¬z.2.2=0)=>?_)
   ·rw[Dq5 h2]at dR;refine G5 (B29 p z.1 g3 X3 b1.wy.1 key hk (b1.row _).len (Dt1 b1.pl hM) z.2.1) (Dq8 _) ?_;rintro _ _ ⟨g4,vP,X4,rfl⟩;rw[Dr3]at vP;rw[vP];refine⟨_,Dq8 _,(),rfl,?_⟩;rw[dR,h2];exact .drop (A:=SL p (z.1.list key z.2.1) g4++R) (J:=oseg++pgs gs) ⟨g4,rfl,X4,rfl⟩ (pc fun z=>by simp only[B4];omega)
   ·rw[Dq4 h2]at dR;rw[dR];exact .drop (A:=SL p z.1 g3++R) (J:=oseg++pgs gs) ⟨g3,rfl,X3,rfl⟩ (pc fun z=>by simp only[B4];omega)
  ·rw[Dq5 (by simpa using h1)]at dR;rw[dR];exact .drop (A:=SL p w.1 g2++R) (J:=oseg++pgs gs) ⟨g2,rfl,X2,rfl⟩ (pc fun z=>by simp only[B4];omega)
 ·rw[Dq5 (by simpa using h0)]at dR;rw[dR];exact .drop (A:=SL p s g++R) (J:=oseg++pgs gs) ⟨g,rfl,X,rfl⟩ (pc fun z=>by have:=pcn aL z;simp only[B4]at*;omega)
theorem Cf1(k:Nat)(s:Sto):Sto.trim (k+1) s=if(Bv6 s.q:Int)>s.sc.small then(match s.q with
  |[]=>(s,0)
  |y::r=>
   if(if y.2.2>0 then({s with q:=r}:Sto).adm y.1 y.2.1 else({s with q:=r},8)).2=0 then Sto.trim k (if y.2.2>0 then({s with q:=r}:Sto).adm y.1 y.2.1 else({s with q:=r},8)).1 else
   if(if y.2.2>0 then({s with q:=r}:Sto).adm y.1 y.2.1 else({s with q:=r},8)).2=11 then(if y.2.2>0 then({s with q:=r}:Sto).adm y.1 y.2.1 else({s with q:=r},8))else
   Sto.trim k {(if y.2.2>0 then({s with q:=r}:Sto).adm y.1 y.2.1 else({s with q:=r},8)).1 with gh:=Bh8 s.sc.ghost (if y.2.2>0 then({s with q:=r}:Sto).adm y.1 y.2.1 else({s with q:=r},8)).1.gh (s.hash y.1)})else(s,0):=rfl
theorem Cx8(p:SP)(s:Sto)(g:SG)(X:SX p s g){M:Nat}(h:SOk s M)(k0:Nat)(kK:s.q.length<k0)(hM:M+k0<=1000000000)(hd:s.down=false)(R:A4)(hT:Tab R):
  CallF PP 51 #[.p p.n] (SL p s g++R) (SK p (Sto.trim k0 s) R):=by
 refine(c51 (some p.n.z)).c ?_;refine G7 (fun z' z L'=> ∃(cur:Sto) (g':SG) (J:A4) (N:Nat),cur.q.length<z'/\N+z'=M+k0/\SOk cur N/\cur.down=false/\SX p cur g'/\Sto.trim k0 s=Sto.trim z' cur/\L'.Perm (SL p cur g'++(J++R))) k0 ⟨s,g,[],M,kK,rfl,h,hd,X,rfl,Dq8 _⟩ ?_;rintro z' z L1 ⟨cur,g',J,N,eH,hN,hc,kN,X',lX,aL⟩;dsimp only;obtain⟨k,rfl⟩: ∃k,z'=k+1:=⟨z'-1,by omega⟩;rw[lX,Cf1];refine A5 rfl (A6 (some p.nq.z) (F3 (SL.st aL) rfl) ?_);refine B5 (Reads.has (SL.q aL) (Cj2 p.nq cur.sc.small cur.q g'.Aq X'.que)) (decide ((Bv6 cur.q:Int)>cur.sc.small),()) rfl ?_;refine B6 (fun(tK:(Bv6 cur.q:Int)>cur.sc.small)=>?_) (fun(tK: ¬(Bv6 cur.q:Int)>cur.sc.small)=>?_)
 ·rw[Dq5 tK];have fS:=hc.qs;have hq:=X'.que;cases zI:cur.q with
  |nil=>
   have:=hc.sm;rw[zI]at tK;exact absurd tK (by show¬((0:Nat):Int)>_;omega)
  |cons y r=>
   rw[zI]at fS hq eH;dsimp only;refine A6 (some p.nq.z) (F3 (SL.st aL) rfl) ?_;refine G5 (C05 p.nq cur.sc.small y r g'.Aq hq) (R:=stO p cur g'::(kO p cur::(mO p g'::(gO p g'::(g'.Ad++(g'.Ab++(rns g'.ns++(rns g'.on.toList++(g'.pseg++(g'.Ai++(J++R))))))))))) (pc fun z=>by have:=pcn aL z;simp only[SL,B4,C5,D5]at*;omega) ?_;rintro _ _ ⟨u,seg,Aq',rfl,rfl,pA,nC⟩;refine⟨_,Dq8 _,((y.1,u,y.2.2,()),true,()),rfl,?_⟩;dsimp only;obtain⟨s1,bK⟩: ∃s1:Sto,s1={cur with q:=r}:=⟨_,rfl⟩;obtain⟨g1,eE⟩: ∃g1:SG,g1={g' with Aq:=Aq'}:=⟨_,rfl⟩;have X1:SX p s1 g1:=by rw[bK,eE];exact{X' with cfg:=X'.cfg,dev:=X'.dev,blk:=X'.blk,que:=nC}
   have aH:((Aq'++seg)++(stO p cur g'::(kO p cur::(mO p g'::(gO p g'::(g'.Ad++(g'.Ab++(rns g'.ns++(rns g'.on.toList++(g'.pseg++(g'.Ai++(J++R)))))))))))).Perm (SL p s1 g1++(seg++(J++R))):=pc fun z=>by
    have e1:stO p s1 g1=stO p cur g':=by rw[bK,eE];rfl
    have e2:kO p s1=kO p cur:=by rw[bK];rfl
    have e3:mO p g1=mO p g':=by rw[eE];rfl
    have e4:gO p g1=gO p g':=by rw[eE];rfl
    simp only[SL,e1,e2,e3,e4,B4,C5,D5];simp only[eE];omega
   generalize (Aq'++seg)++(stO p cur g'::(kO p cur::(mO p g'::(gO p g'::(g'.Ad++(g'.Ab++(rns g'.ns++(rns g'.on.toList++(g'.pseg++(g'.Ai++(J++R)))))))))))=L2 at aH;have h1:SOk s1 N:=by rw[bK];exact hc.setq (fun e he=>fS e (Dr6 _ he)) (by have:=hc.ql;rw[zI]at this;simp at this;omega)
   have bI:s1.down=false:=by rw[bK];exact kN
   have jX:=fS y (by simp);rw[<-bK];obtain⟨w,hw⟩: ∃w,w=(if y.2.2>0 then s1.adm y.1 y.2.1 else(s1,8)):=⟨_,rfl⟩;rw[<-hw];have an:SOk w.1 (N+1)/\w.1.sc=cur.sc/\(w.2≠11->w.1.down=false)/\w.1.q.length<=r.length:=by
    rw[hw];split
    ·have ha:=h1.adm bI y.1 y.2.1;exact⟨ha.1,ha.2.trans (by rw[bK]),fun hn=>(R4 _ _ _ hn).trans bI,by rw[(Ad2 s1 y.1 y.2.1).1,bK];exact Dq6 _⟩
    ·exact⟨h1.upto (by omega),by rw[bK],fun _=>bI,by rw[bK];exact Dq6 _⟩
   have hash:s1.hash y.1=cur.hash y.1:=by rw[bK];rfl
   refine W2 (fun(y1:RsV [lI]) L'=>y1=(w.2,())/\ ∃(g2:SG) (J2:A4),SX p w.1 g2/\L'.Perm (SL p w.1 g2++(J2++R))) ?_ ?_
   ·rintro _ L3 ⟨rfl,g2,J2,X2,aZ⟩;dsimp only;obtain⟨w1,w2,w3,w4⟩:=an;simp only[Dr8]at eH;refine B6 (fun(h0:w.2=0)=>?_) (fun(h0: ¬w.2=0)=>?_)
    ·rw[Dq5 h0];exact⟨k,by omega,w.1,g2,J2,N+1,by omega,by omega,w1,w3 (by rw[h0];decide),X2,rfl,aZ⟩
    ·rw[Dq4 h0];refine B6 (fun(h11:w.2=11)=>?_) (fun(h11: ¬w.2=11)=>?_)
     ·rw[Dq5 h11];exact .drop (A:=SL p w.1 g2++R) (J:=J2) ⟨g2,rfl,X2,rfl⟩ (pc fun z=>by have:=pcn aZ z;simp only[B4]at*;omega)
     ·rw[Dq4 h11];have sP:w.1.hash y.1=cur.hash y.1:=by unfold Sto.hash;rw[w2]
      refine A6 (some p.ng.z) (F3 (SL.st aZ) rfl) ?_;refine B5 (Ab8 aZ y.1 (by omega)) (((w.1.hash y.1:Nat):Int),()) rfl ?_;refine F7 (F3 (SL.st aZ) rfl) ?_;have dL:=w1.gl;refine sgh aZ X2 (add_cl p.ng w.1.sc.ghost w.1.gh g2.go X2.gho dL w1.gs.2 (w.1.hash y.1:Nat)) () rfl {w.1 with gh:=Bh8 w.1.sc.ghost w.1.gh (w.1.hash y.1)} rfl fun g3 L4 dB X3=>?_;refine⟨k,by omega,_,g3,J2,N+1,by exact(show w.1.q.length<k by omega),by omega,w1.setgh (Aa5 w1.gs.1 dL _),w3 h11,X3,?_,dB⟩;rw[sP,w2]
   ·intro j1 bP;have qX:Tab (seg++(J++R)):=hT.mono fun z hz=>by simp[hz]
    refine B6 (fun(bQ:y.2.2>0)=>?_) (fun(bQ: ¬y.2.2>0)=>?_)
    ·rw[Dq5 bQ]at hw;refine Au8 (Bn3 p s1 g1 X1 h1 (by omega) bI (seg++(J++R)) qX y.1 (by omega) u y.2.1 (pA.mono fun z hz=>by simp[hz])) aH ?_;rw[<-hw];rintro _ _ ⟨g2,rfl,X2,rfl⟩;exact⟨(w.2,()),rfl,bP _ _ ⟨rfl,g2,seg++J,X2,pc fun z=>by simp only[B4];omega⟩⟩
    ·rw[Dq4 bQ]at hw;refine bP _ _ ⟨by rw[hw],g1,seg++J,by rw[hw];exact X1,by rw[hw];exact aH.trans (by rw[Ds5])⟩
 ·rw[Dq4 tK];exact .drop (A:=SL p cur g'++R) (J:=J) ⟨g',rfl,X',rfl⟩ (pc fun z=>by have:=pcn aL z;simp only[B4]at*;omega)
theorem As2(p:SP)(s:Sto)(g:SG)(X:SX p s g){M:Nat}(h:H4 s M)(hM:M<=900000000)(R:A4)(hT:Tab R)(key:ByteArray)(u:SlV)(val:List UInt8)(hu:BSl R u val):
  CallF PP 17 #[.p p.n,.w key,.slice u.a u.len u.cap] (SL p s g++R) (SK p (s.put key val) R):=by
 refine(c17 (some p.n.z) key u).c ?_;have bD:(SL p s g++R).Perm (SL p s g++R):=Dq8 _;have eZ:=hu.len;have dX:s.put key val=(if s.asked key≠0 then(s,s.asked key)else if val.length>65536 then(s,4)else
  if F9 key.size val.length (J8 s.sc.c)=0 then((s.forget key).1,14)else
  if((s.hash key:Nat):Int)∈(s.forget key).1.gh then
   (if(({(s.forget key).1 with gh:=(s.forget key).1.gh.erase ((s.hash key:Nat):Int)}:Sto).adm key val).2=0\/(({(s.forget key).1 with gh:=(s.forget key).1.gh.erase ((s.hash key:Nat):Int)}:Sto).adm key val).2=11 then({(s.forget key).1 with gh:=(s.forget key).1.gh.erase ((s.hash key:Nat):Int)}:Sto).adm key val else(({(s.forget key).1 with gh:=(s.forget key).1.gh.erase ((s.hash key:Nat):Int)}:Sto).adm key val).1.putYoung key val)
  else(s.forget key).1.putYoung key val):=rfl
 refine B5 (Ad7 bD key) (s.asked key,()) rfl ?_;refine B6 (fun(ha:s.asked key=0)=>?_) (fun(ha: ¬s.asked key=0)=>?_)
 ·rw[Dq4 (by simpa using ha)]at dX;obtain⟨hd,hk⟩:=T0 ha;refine B6 (fun(hl:(u.len:Int)>65536)=>?_) (fun(hl: ¬(u.len:Int)>65536)=>?_)
  ·rw[Dq5 (by omega)]at dX;rw[dX];exact .of ⟨g,rfl,X,rfl⟩
  ·rw[Dq4 (by omega)]at dX;refine G5 (A93 p s g X h.ok.dv key (by omega) (h.ok.row _) (Dt1 h.ok.pl (by omega))) bD ?_;rintro _ _ ⟨g1,eX,X1,rfl⟩;rw[Dr3]at eX;rw[eX];refine⟨_,Dq8 _,((s.forget key).2,()),rfl,?_⟩;obtain⟨f1,f2,f3,f4,f5⟩:=h.ok.forget key;have dN:(s.forget key).1.q.length<=65536:=by rw[f4];exact Dt1 (P5 _ _) (h.q hd)
   have bI:(s.forget key).1.down=false:=f2.trans hd;have wH:(s.forget key).1.hash key=s.hash key:=by unfold Sto.hash;rw[f3]
   rw[<-f3]at dX;generalize (s.forget key).1=s1 at f1 f2 f3 f4 f5 dN bI wH X1 dX;have hP:=f1.P;have aL:(SL p s1 g1++R).Perm (SL p s1 g1++R):=Dq8 _;refine A5 rfl (A6 (sh:=Z4) ((s1.sc.c.B:Int),(s1.sc.c.P:Int),(s1.sc.c.S:Int),(s1.sc.c.W:Int),()) (Cy0 (SL.st aL)) ?_);refine B5 (B45 _ (hT.mono fun y hy=>by simp[hy]) key.size u.len (J8 s1.sc.c) (by show(s1.sc.c.P:Int)<=_;omega)) (F9 key.size u.len (J8 s1.sc.c),()) rfl ?_;dsimp only;rw[eZ];refine B6 (fun(h0:F9 key.size val.length (J8 s1.sc.c)=0)=>?_) (fun(h0: ¬F9 key.size val.length (J8 s1.sc.c)=0)=>?_)
   ·rw[Dq5 h0]at dX;rw[dX];exact .of ⟨g1,rfl,X1,rfl⟩
   ·rw[Dq4 h0]at dX;refine W2 (fun _ L'=> ∃(s2:Sto) (g2:SG),s.put key val=s2.putYoung key val/\SOk s2 (M+2)/\s2.down=false/\s2.q.length<=65536/\SX p s2 g2/\L'.Perm (SL p s2 g2++R)) ?_ ?_
    ·rintro _ L2 ⟨s2,g2,he,k1,k2,k3,X2,aH⟩;rw[he];refine A6 (some p.nq.z) (F3 (SL.st aH) rfl) ?_;rw[<-eZ];refine G5 (C04 p.nq s2.sc.small s2.q g2.Aq R X2.que (by omega) key (by omega) u val hu (by omega)) (R:=stO p s2 g2::(kO p s2::(mO p g2::(gO p g2::(g2.Ad++(g2.Ab++(rns g2.ns++(rns g2.on.toList++(g2.pseg++g2.Ai))))))))) (pc fun z=>by have:=pcn aH z;simp only[SL,B4,C5,D5]at*;omega) ?_;rintro _ _ ⟨rfl,Aq',rfl,nC⟩;refine⟨_,Dq8 _,(),rfl,?_⟩;obtain⟨s3,cJ⟩: ∃s3:Sto,s3={s2 with q:=P1 s2.q key++[(key,val,0)]}:=⟨_,rfl⟩;obtain⟨g3,fC⟩: ∃g3:SG,g3={g2 with Aq:=Aq'}:=⟨_,rfl⟩;have X3:SX p s3 g3:=by rw[cJ,fC];exact{X2 with cfg:=X2.cfg,dev:=X2.dev,blk:=X2.blk,que:=nC}
     have aZ:((Aq'++R)++(stO p s2 g2::(kO p s2::(mO p g2::(gO p g2::(g2.Ad++(g2.Ab++(rns g2.ns++(rns g2.on.toList++(g2.pseg++g2.Ai)))))))))).Perm (SL p s3 g3++R):=pc fun z=>by
      have e1:stO p s3 g3=stO p s2 g2:=by rw[cJ,fC];rfl
      have e2:kO p s3=kO p s2:=by rw[cJ];rfl
      have e3:mO p g3=mO p g2:=by rw[fC];rfl
      have e4:gO p g3=gO p g2:=by rw[fC];rfl
      simp only[SL,e1,e2,e3,e4,B4,C5,D5];simp only[fC];omega
     generalize (Aq'++R)++(stO p s2 g2::(kO p s2::(mO p g2::(gO p g2::(g2.Ad++(g2.Ab++(rns g2.ns++(rns g2.on.toList++(g2.pseg++g2.Ai)))))))))=L3 at aZ;have hy:=k1.putYoung k2 k3 (val:=val) hk (by omega);have cy:s3.q.length<s2.q.length+2:=by rw[cJ];show(P1 s2.q key++[(key,val,0)]).length<_;rw[Dr4];have:=P5 s2.q key;simp;omega
     refine Au8 (Cx8 p s3 g3 X3 (M:=M+2) (by rw[cJ];exact hy.1) (s2.q.length+2) cy (by omega) (by rw[cJ];exact k2) R hT) aZ ?_;have nD:s2.putYoung key val=Sto.trim (s2.q.length+2) s3:=by rw[cJ];rfl
     rw[<-nD];rintro _ _ ⟨g4,rfl,X4,rfl⟩;exact⟨((s2.putYoung key val).2,()),rfl,.of ⟨g4,rfl,X4,rfl⟩⟩
    ·intro j1 bP;refine A6 (some p.ng.z) (F3 (SL.st aL) rfl) ?_;refine B5 (Ab8 aL key (by omega)) (((s1.hash key:Nat):Int),()) rfl ?_;refine F7 (F3 (SL.st aL) rfl) ?_;rw[wH];obtain⟨s2,aJ⟩: ∃s2:Sto,s2={s1 with gh:=s1.gh.erase ((s.hash key:Nat):Int)}:=⟨_,rfl⟩;rw[<-aJ]at dX;refine sgh aL X1 (Cs5 p.ng s1.sc.ghost s1.gh g1.go X1.gho ((s.hash key:Nat):Int)) (decide (((s.hash key:Nat):Int)∈s1.gh),()) rfl s2 aJ fun g2 L2 aH X2=>?_;have k1:SOk s2 (M+1):=by
      rw[aJ];refine f1.setgh ?_;have h1:=f1.gl;have h2:(s1.gh.erase ((s.hash key:Nat):Int)).length<=s1.gh.length:=D00;omega
     have fE:s2.down=false:=by rw[aJ];exact bI
     have eI:s2.q=s1.q:=by rw[aJ]
     refine B6 (fun(dC:((s.hash key:Nat):Int)∈s1.gh)=>?_) (fun(dC: ¬((s.hash key:Nat):Int)∈s1.gh)=>?_)
     ·rw[Dq5 dC]at dX;have cH:=Bn3 p s2 g2 X2 k1 (by omega) fE R hT key (by omega) u val hu;rw[eZ]at cH;refine Au8 cH aH ?_;rintro _ _ ⟨g3,rfl,X3,rfl⟩;have a1:=(k1.adm fE key val).1;have a3:=(Ad2 s2 key val).1;have a4:=R4 s2 key val;generalize s2.adm key val=w at X3 a1 a3 a4 dX;refine⟨(w.2,()),rfl,?_⟩;refine B6 (fun(h1:w.2=0)=>?_) (fun(h1: ¬w.2=0)=>?_)
      ·rw[Dq5 (.inl h1)]at dX;rw[dX];exact .of ⟨g3,rfl,X3,rfl⟩
      ·refine B6 (fun(h2:w.2=11)=>?_) (fun(h2: ¬w.2=11)=>?_)
       ·rw[Dq5 (.inr h2)]at dX;rw[dX];exact .of ⟨g3,rfl,X3,rfl⟩
       ·rw[Dq4 (by rintro(hh|hh);exact h1 hh;exact h2 hh)]at dX;exact bP _ _ ⟨w.1,g3,dX,a1,(a4 h2).trans fE,by rw[a3,eI];exact dN,X3,Dq8 _⟩
     ·rw[Dq4 dC]at dX;have e:s2=s1:=by rw[aJ,Ec6 dC]
      exact bP _ _ ⟨s2,g2,by rw[dX,e],k1.upto (by omega),fE,by rw[eI];exact dN,X2,aH⟩
 ·rw[Dq5 (by simpa using ha)]at dX;rw[dX];exact .of ⟨g,rfl,X,rfl⟩
theorem Cc9{l:List QD}{k:ByteArray}(h:T4 l k=none):Ar4 l k=l:=by
 unfold T4 at h;rw[D18]at h;unfold Ar4;conv=>rhs;rw[<-List.map_id l]
 refine D97 fun e he=>?_;rw[Dq4 (fun e2=>h e he (by simp[e2]))];rfl
def GK(p:SP)(w:Sto×List UInt8×Int)(R:A4)(r:Value)(L':A4):Prop:= ∃(g':SG) (u:SlV) (sg:A4),L'=sg++(SL p w.1 g'++R)/\SX p w.1 g'/\Own u 1 eB (bvs w.2.1) sg/\r= .t #[.slice u.a u.len u.cap,.i w.2.2]
theorem Bw7(p:SP)(s:Sto)(g:SG)(X:SX p s g){M:Nat}(h:SOk s M)(key:ByteArray):
  CallF PP 25 #[.p p.n,.w key] (SL p s g) (GK p (s.get key) []):=by
 refine(c25 (some p.n.z) key).c ?_;have bD:(SL p s g).Perm (SL p s g++[]):=by rw[Dr3]
 have eO:s.get key=(if s.asked key≠0 then(s,[],s.asked key)else match T4 s.q key with
  |some e=>({s with q:=Ar4 s.q key},e.2.1,0)
  |none=>match s.place key with
   |none=>(s,[],8)
   |some p=>({s with ix:=iset s.ix (s.hash key) (Ah0 (J6 s.ix (s.hash key)) (inm (s.hash key) p))},(A9 s.d p).2.1,0)):=rfl
 refine B5 (Ad7 bD key) (s.asked key,()) rfl ?_;refine B6 (fun(ha:s.asked key=0)=>?_) (fun(ha: ¬s.asked key=0)=>?_)
 ·rw[Dq4 (by simpa using ha)]at eO;obtain⟨hd,hk⟩:=T0 ha;refine A5 rfl (A6 (some p.nq.z) (F3 (SL.st bD) rfl) ?_);refine G5 (C09 p.nq s.sc.small s.q g.Aq X.que key) (R:=stO p s g::(kO p s::(mO p g::(gO p g::(g.Ad++(g.Ab++(rns g.ns++(rns g.on.toList++(g.pseg++g.Ai))))))))) (pc fun z=>by simp only[SL,B4,C5,D5];omega) ?_;rintro _ _ ⟨u,seg,Aq',rfl,rfl,own,nC⟩;refine⟨_,Dq8 _,(u,(T4 s.q key).isSome,()),rfl,?_⟩;obtain⟨s1,bK⟩: ∃s1:Sto,s1={s with q:=Ar4 s.q key}:=⟨_,rfl⟩;obtain⟨g1,eE⟩: ∃g1:SG,g1={g with Aq:=Aq'}:=⟨_,rfl⟩;have X1:SX p s1 g1:=by rw[bK,eE];exact{X with cfg:=X.cfg,dev:=X.dev,blk:=X.blk,que:=nC}
  have aL:((seg++Aq')++(stO p s g::(kO p s::(mO p g::(gO p g::(g.Ad++(g.Ab++(rns g.ns++(rns g.on.toList++(g.pseg++g.Ai)))))))))).Perm (SL p s1 g1++seg):=pc fun z=>by
   have e1:stO p s1 g1=stO p s g:=by rw[bK,eE];rfl
   have e2:kO p s1=kO p s:=by rw[bK];rfl
   have e3:mO p g1=mO p g:=by rw[eE];rfl
   have e4:gO p g1=gO p g:=by rw[eE];rfl
   simp only[SL,e1,e2,e3,e4,B4,C5,D5];simp only[eE];omega
  generalize (seg++Aq')++(stO p s g::(kO p s::(mO p g::(gO p g::(g.Ad++(g.Ab++(rns g.ns++(rns g.on.toList++(g.pseg++g.Ai)))))))))=L1 at aL;cases hf:T4 s.q key with
  |some e=>
   rw[hf]at eO own;refine ifT rfl ?_;rw[eO];refine .drop (A:=seg++SL p s1 g1) (J:=[]) ⟨g1,u,seg,by rw[bK,Dr3],by rw[<-bK];exact X1,own,rfl⟩ (pc fun z=>by have:=pcn aL z;simp only[B4,D5]at*;omega)
  |none=>
   rw[hf]at eO;refine ifF rfl ?_;have e:s1=s:=by rw[bK,Cc9 hf]
   rw[e]at X1 aL;dsimp only at eO;refine G5 (Ao4 p s g1 X1 h.dv key (by omega) (h.row _).len (h.row _).wf) aL ?_;rintro _ _ ⟨v,sg,rfl,rfl,own2⟩;refine⟨(SL p s g1++(sg++seg)),pc fun z=>by simp only[B4];omega,((((s.place key).getD (0,0,0,())).1,((s.place key).getD (0,0,0,())).2.1,((s.place key).getD (0,0,0,())).2.2.1,()),v,(s.place key).isSome,()),rfl,?_⟩;dsimp only;have aH:(SL p s g1++(sg++seg)).Perm (SL p s g1++(sg++seg)):=Dq8 _;unfold Sto.placeV at own2;cases aW:s.place key with
   |none=>
    rw[aW]at eO;refine ifF rfl ?_;rw[eO];exact .drop (A:=SL p s g1) (J:=sg++seg) ⟨g1,⟨none,0,0⟩,[],by simp,X1,F6,rfl⟩ aH
   |some x=>
    rw[aW]at eO own2;refine ifT rfl (A6 (some p.ni.z) (F3 (SL.st aH) rfl) (B5 (Ab8 aH key (by omega)) (((s.hash key:Nat):Int),()) rfl (F7 (F3 (SL.st aH) rfl) ?_)));refine six aH X1 (Dm2 p.ni s.sc.ways s.ix g1.Ai X1.idx (s.hash key) (A49 s key) x (h.row _).fr) ((Q6 s.ix (s.hash key) x).isSome,()) rfl {s with ix:=iset s.ix (s.hash key) (Ah0 (J6 s.ix (s.hash key)) (inm (s.hash key) x))} rfl fun g3 L3 aZ X3 _=>?_;rw[eO];exact .drop (A:=sg++SL p _ g3) (J:=seg) ⟨g3,v,sg,by rw[Dr3],X3,own2,rfl⟩ (pc fun z=>by have:=pcn aZ z;simp only[B4]at*;omega)
 ·rw[Dq5 (by simpa using ha)]at eO;rw[eO];exact .of ⟨g,⟨none,0,0⟩,[],by simp,X,F6,rfl⟩
def PK(w:List UInt8×Int)(A:A4)(r:Value)(L':A4):Prop:= ∃(u:SlV) (sg:A4),L'=sg++A/\Own u 1 eB (bvs w.1) sg/\r= .t #[.slice u.a u.len u.cap,.i w.2]
theorem B27(p:SP)(s:Sto)(g:SG)(X:SX p s g){M:Nat}(h:SOk s M)(key:ByteArray):
  CallF PP 20 #[.p p.n,.w key] (SL p s g) (PK (s.peek key) (SL p s g)):=by
 refine(c20 (some p.n.z) key).c ?_;have bD:(SL p s g).Perm (SL p s g++[]):=by rw[Dr3]
 have eO:s.peek key=(if s.asked key≠0 then([],s.asked key)else match T4 s.q key with
  |some e=>(e.2.1,0)
  |none=>match s.place key with
   |none=>([],8)
   |some p=>((A9 s.d p).2.1,0)):=rfl
 refine B5 (Ad7 bD key) (s.asked key,()) rfl ?_;refine B6 (fun(ha:s.asked key=0)=>?_) (fun(ha: ¬s.asked key=0)=>?_)
 ·rw[Dq4 (by simpa using ha)]at eO;obtain⟨hd,hk⟩:=T0 ha;refine A5 rfl (A6 (some p.nq.z) (F3 (SL.st bD) rfl) ?_);refine G5 (Cj1 p.nq s.sc.small s.q g.Aq X.que key) (R:=stO p s g::(kO p s::(mO p g::(gO p g::(g.Ad++(g.Ab++(rns g.ns++(rns g.on.toList++(g.pseg++g.Ai))))))))) (pc fun z=>by simp only[SL,B4,C5,D5];omega) ?_;rintro _ _ ⟨u,seg,rfl,rfl,own⟩;refine⟨SL p s g++seg,pc fun z=>by simp only[SL,B4,C5,D5];omega,(u,(T4 s.q key).isSome,()),rfl,?_⟩;cases hf:T4 s.q key with
  |some e=>
   rw[hf]at eO own;refine ifT rfl ?_;rw[eO];exact .drop (A:=seg++SL p s g) (J:=[]) ⟨u,seg,rfl,own,rfl⟩ (pc fun z=>by simp only[B4,D5];omega)
  |none=>
   rw[hf]at eO;refine ifF rfl ?_;dsimp only at eO;refine G5 (Ao4 p s g X h.dv key (by omega) (h.row _).len (h.row _).wf) (Dq8 _) ?_;rintro _ _ ⟨v,sg,rfl,rfl,own2⟩;refine⟨_,Dq8 _,((((s.place key).getD (0,0,0,())).1,((s.place key).getD (0,0,0,())).2.1,((s.place key).getD (0,0,0,())).2.2.1,()),v,(s.place key).isSome,()),rfl,?_⟩;dsimp only;unfold Sto.placeV at own2;cases aW:s.place key with
   |none=>
    rw[aW]at eO;refine ifF rfl ?_;rw[eO];exact .drop (A:=SL p s g) (J:=sg++seg) ⟨⟨none,0,0⟩,[],by simp,F6,rfl⟩ (pc fun z=>by simp only[B4];omega)
   |some x=>
    rw[aW]at eO own2;refine ifT rfl ?_;rw[eO];exact .drop (A:=sg++SL p s g) (J:=seg) ⟨v,sg,rfl,own2,rfl⟩ (Dq8 _)
 ·rw[Dq5 (by simpa using ha)]at eO;rw[eO];exact .of ⟨⟨none,0,0⟩,[],by simp,F6,rfl⟩
def DK(p:SP)(w:Sto×Bool×Int)(R:A4)(r:Value)(L':A4):Prop:= ∃g',L'=SL p w.1 g'++R/\SX p w.1 g'/\r= .t #[.b w.2.1,.i w.2.2]
theorem A94(p:SP)(s:Sto)(g:SG)(X:SX p s g){M:Nat}(h:SOk s M)(hM:M<=1000000000)(key:ByteArray):
  CallF PP 26 #[.p p.n,.w key] (SL p s g) (DK p (s.delete key) []):=by
 refine(c26 (some p.n.z) key).c ?_;have bD:(SL p s g).Perm (SL p s g++[]):=by rw[Dr3]
 have rT:s.delete key=(if s.asked key≠0 then(s,false,s.asked key)else((s.forget key).1,(s.forget key).2,0)):=rfl;refine B5 (Ad7 bD key) (s.asked key,()) rfl ?_;refine B6 (fun(ha:s.asked key=0)=>?_) (fun(ha: ¬s.asked key=0)=>?_)
 ·rw[Dq4 (by simpa using ha)]at rT;obtain⟨hd,hk⟩:=T0 ha;refine S8 (A93 p s g X h.dv key (by omega) (h.row _) (Dt1 h.pl hM)) ?_;rintro _ _-⟨g1,rfl,X1,rfl⟩;rw[rT];exact⟨((s.forget key).2,()),rfl,.of ⟨g1,rfl,X1,rfl⟩⟩
 ·rw[Dq5 (by simpa using ha)]at rT;rw[rT];exact .of ⟨g,by simp,X,rfl⟩
theorem Bd5(p:SP)(s:Sto)(g:SG)(X:SX p s g){M:Nat}(h:SOk s M)(key:ByteArray):
  Reads PP 19 #[.p p.n,.w key] (SL p s g) (.i (s.has key)):=by
 unfold Reads;refine(c19 (some p.n.z) key).c ?_;have bD:(SL p s g).Perm (SL p s g++[]):=by rw[Dr3]
 have mQ:s.has key=(if s.asked key≠0 then 0 else if(T4 s.q key).isSome then 1 else if(s.place key).isSome then 2 else 0):=rfl;refine B5 (Ad7 bD key) (s.asked key,()) rfl ?_;refine B6 (fun(ha:s.asked key=0)=>?_) (fun(ha: ¬s.asked key=0)=>?_)
 ·rw[Dq4 (by simpa using ha)]at mQ;obtain⟨hd,hk⟩:=T0 ha;refine A5 rfl (A6 (some p.nq.z) (F3 (SL.st bD) rfl) ?_);refine B5 (Reads.has (SL.q bD) (C08 p.nq s.sc.small s.q g.Aq X.que key)) ((T4 s.q key).isSome,()) rfl ?_;refine G1 (fun(hf:(T4 s.q key).isSome=true)=>?_) (fun(hf:(T4 s.q key).isSome=false)=>?_)
  ·rw[Dq5 hf]at mQ;rw[mQ];exact .of ⟨rfl,rfl⟩
  ·rw[Dq4 (by rw[hf];decide)]at mQ;refine S8 (Ao4 p s g X h.dv key (by omega) (h.row _).len (h.row _).wf) ?_;rintro _ _-⟨v,sg,rfl,rfl,own2⟩;refine⟨((((s.place key).getD (0,0,0,())).1,((s.place key).getD (0,0,0,())).2.1,((s.place key).getD (0,0,0,())).2.2.1,()),v,(s.place key).isSome,()),rfl,?_⟩;dsimp only;refine G1 (fun(aW:(s.place key).isSome=true)=>?_) (fun(aW:(s.place key).isSome=false)=>?_)
   ·rw[Dq5 aW]at mQ;rw[mQ];exact .drop (A:=SL p s g) (J:=sg) ⟨rfl,rfl⟩ Du8
   ·rw[Dq4 (by rw[aW];decide)]at mQ;rw[mQ];exact .drop (A:=SL p s g) (J:=sg) ⟨rfl,rfl⟩ Du8
 ·rw[Dq5 (by simpa using ha)]at mQ;rw[mQ];exact .of ⟨rfl,rfl⟩
def Sto.ghosted(s:Sto)(key:ByteArray):Bool:=if s.asked key=0 then decide (((s.hash key:Nat):Int)∈s.gh)else false
theorem A05(p:SP)(s:Sto)(g:SG)(X:SX p s g)(key:ByteArray):Reads PP 13 #[.p p.n,.w key] (SL p s g) (.b (s.ghosted key)):=by
 unfold Reads;refine(c13 (some p.n.z) key).c ?_;have bD:(SL p s g).Perm (SL p s g++[]):=by rw[Dr3]
 unfold Sto.ghosted;refine B5 (Ad7 bD key) (s.asked key,()) rfl ?_;refine B6 (fun(ha:s.asked key=0)=>?_) (fun(ha: ¬s.asked key=0)=>?_)
 ·rw[Dq5 ha];obtain⟨hd,hk⟩:=T0 ha;refine A5 rfl (A6 (some p.ng.z) (F3 (SL.st bD) rfl) (B5 (Ab8 bD key (by omega)) (((s.hash key:Nat):Int),()) rfl (F7 (F3 (SL.st bD) rfl) ?_)));exact B5 (Reads.has (SL.gh bD) (has_cl p.ng s.sc.ghost s.gh g.go X.gho ((s.hash key:Nat):Int))) (decide (((s.hash key:Nat):Int)∈s.gh),()) rfl (.of ⟨rfl,rfl⟩)
 ·rw[Dq4 ha];exact .of ⟨rfl,rfl⟩
theorem B22(p:SP)(s:Sto)(g:SG)(X:SX p s g)(hb:s.bk.Ok)(now:Int):
  CallF PP 24 #[.p p.n,.i now] (SL p s g) (SU p (s.tick now) []):=by
 refine(c24 (some p.n.z) now).c ?_;have bD:(SL p s g).Perm (SL p s g++[]):=by rw[Dr3]
 refine B5 (Cf6 bD) (!s.down,()) rfl ?_;unfold Sto.tick;refine G1 (fun(hu:(!s.down)=true)=>?_) (fun(hu:(!s.down)=false)=>?_)
 ·have hd:s.down=false:=by simpa using hu
  rw[Dq4 (by rw[hd];decide)];refine A5 rfl (A6 (some p.nk.z) (F3 (SL.st bD) rfl) ?_);refine G5 (Df0 p.nk s.bk hb now) (R:=stO p s g::(mO p g::(gO p g::(g.Ad++(g.Ab++(rns g.ns++(rns g.on.toList++(g.pseg++(g.Aq++g.Ai))))))))) (pc fun z=>by simp only[SL,kO,B4,C5,D5];omega) ?_;rintro _ _ ⟨rfl,rfl⟩;refine⟨_,Dq8 _,(),rfl,?_⟩;refine .drop (A:=SL p {s with bk:=Ag5 s.bk now} g) (J:=[]) ⟨g,by simp,{X with cfg:=X.cfg,dev:=X.dev,blk:=X.blk},rfl⟩ (pc fun z=>?_);have e1:kO p {s with bk:=Ag5 s.bk now}=(p.nk,Bc4 (Ag5 s.bk now)):=rfl;have e2:stO p {s with bk:=Ag5 s.bk now} g=stO p s g:=rfl;simp only[SL,e1,e2,B4,C5,D5];omega
 ·have hd:s.down=true:=by simpa using hu
  rw[Dq5 hd];exact .of ⟨g,by simp,X,rfl⟩
def Sto.flN(s:Sto):Nat:=min s.pend.length (B7 s.sc.c.S/6).toNat
theorem Bs1(k:Nat)(s:Sto):Sto.flushes (k+1) s=match s.pend with
  |[]=>(s,0)
  |p::r=>
   if(s.roomy 1).2≠0 then s.roomy 1 else
   if(s.roomy 1).1.flN=0 then((s.roomy 1).1,0)else
   if(M7 ((s.roomy 1).1.pend.take (s.roomy 1).1.flN)).2≠0 then((s.roomy 1).1,(M7 ((s.roomy 1).1.pend.take (s.roomy 1).1.flN)).2)else
   if((s.roomy 1).1.write 3 [(M7 ((s.roomy 1).1.pend.take (s.roomy 1).1.flN)).1]).2.2≠0 then(((s.roomy 1).1.write 3 [(M7 ((s.roomy 1).1.pend.take (s.roomy 1).1.flN)).1]).1,((s.roomy 1).1.write 3 [(M7 ((s.roomy 1).1.pend.take (s.roomy 1).1.flN)).1]).2.2)else
   Sto.flushes k {((s.roomy 1).1.write 3 [(M7 ((s.roomy 1).1.pend.take (s.roomy 1).1.flN)).1]).1 with pend:=((s.roomy 1).1.write 3 [(M7 ((s.roomy 1).1.pend.take (s.roomy 1).1.flN)).1]).1.pend.drop (s.roomy 1).1.flN}:=rfl
theorem C19{L:A4}{n:Nat}{g:PG}(hg:g.Ok)(h1:(n,Obj.cells #[.slice g.v.a g.v.len g.v.cap] 27)∈L)(h2: ∀x∈g.seg,x∈L):Z0 L ⟨some n.z,1,1⟩ [(g.v,g.l)]:=by
 refine⟨⟨rfl,Dq6 _,.inr ⟨n.z,rfl,ldB h1 rfl⟩⟩,fun x hx=>?_⟩;rw[Dr2.1 hx];exact hg.sl.mono h2
theorem Bm7(p:SP)(s:Sto)(g:SG)(X:SX p s g){M:Nat}(h:SOk s M)(hM:M<=900000000)(R:A4)(hT:Tab R):
  CallF PP 27 #[.p p.n] (SL p s g++R) (SK p s.flush R):=by
 refine(c27 (some p.n.z)).c ?_;have bD:(SL p s g++R).Perm (SL p s g++R):=Dq8 _;have fM:s.flush=(if s.down=true then(s,11)else Sto.flushes (s.pend.length+1) s):=rfl;refine ifF rfl (A5 rfl (A6 s.down (F3 (SL.st bD) rfl) ?_));refine G1 (fun(hd:s.down=true)=>?_) (fun(hd:s.down=false)=>?_)
 ·rw[Dq5 hd]at fM;rw[fM];exact .of ⟨g,rfl,X,rfl⟩
 rw[Dq4 (by rw[hd];decide)]at fM;rw[fM];refine G7 (fun z' z L'=> ∃(cur:Sto) (g':SG) (J:A4),cur.pend.length<z'/\SOk cur M/\cur.down=false/\SX p cur g'/\Sto.flushes (s.pend.length+1) s=Sto.flushes z' cur/\L'.Perm (SL p cur g'++(J++R))) (s.pend.length+1) ⟨s,g,[],by omega,h,hd,X,rfl,Dq8 _⟩ ?_;rintro z' z L1 ⟨cur,g',J,aW,hc,kN,X',lX,aL⟩;dsimp only;obtain⟨k,rfl⟩: ∃k,z'=k+1:=⟨z'-1,by omega⟩;rw[lX,Bs1];have pU:=X'.pendLen;refine A6 g'.pv (F3 (SL.st aL) rfl) ?_;cases dl:cur.pend with
 |nil=>
  rw[dl]at pU;refine ifN (show¬((g'.pv.len:Int)>0) by rw[pU];simp) ?_;exact .drop (A:=SL p cur g'++R) (J:=J) ⟨g',rfl,X',rfl⟩ (pc fun z=>by have:=pcn aL z;simp only[B4]at*;omega)
 |cons x0 r0=>
  rw[dl,Dr8]at pU;refine ifP (show(g'.pv.len:Int)>0 by omega) ?_;dsimp only;have iZ:Tab (J++R):=hT.mono fun y hy=>by simp[hy]
  refine Au8 (B23 p cur g' X' hc (by omega) kN (J++R) iZ 1 (by decide)) aL ?_;rintro _ _ ⟨g2,rfl,X2,rfl⟩;obtain⟨k1,k2,k3⟩:=hc.roomy kN (n:=1) (by decide);have kp:(cur.roomy 1).1.pend.length<=cur.pend.length:=Ci2 1 _ cur;refine⟨((cur.roomy 1).2,()),rfl,?_⟩;dsimp only;generalize cur.roomy 1=w at k1 k2 k3 kp X2;have aH:(SL p w.1 g2++(J++R)).Perm (SL p w.1 g2++(J++R)):=Dq8 _;refine B6 (fun(h0:w.2=0)=>?_) (fun(h0: ¬w.2=0)=>?_)
  ·rw[Dq4 (by simpa using h0)];obtain⟨a1,a2⟩:=k2 h0;refine A6 g2.pv (F3 (SL.st aH) rfl) (A6 (w.1.sc.c.S:Int) ((Cy0 (SL.st aH)).one 2 rfl) ?_);refine B5 (Aj8 _ (w.1.sc.c.S:Int)) (B7 w.1.sc.c.S,()) rfl ?_;refine F7 (F3 (SL.st aH) rfl) ?_;have hS:=k1.S;have pT:0<=B7 (w.1.sc.c.S:Int)/\B7 (w.1.sc.c.S:Int)<=496:=by
    by_cases hz:B7 (w.1.sc.c.S:Int)=0
    ·omega
    ·have:=V2 hz;omega
   have rT:Int.tdiv (B7 (w.1.sc.c.S:Int)) 6=B7 (w.1.sc.c.S:Int)/6:=Ee5 pT.1;have xU:=X2.pendLen;have iV:Ad3 (g2.pv.len:Int) (B7 (w.1.sc.c.S:Int)/6)=(w.1.flN:Int):=by
    unfold Sto.flN Ad3;rw[xU];split<;>omega
   have uN:w.1.flN<=w.1.pend.length:=by unfold Sto.flN;omega
   have nO:w.1.flN<=82:=by unfold Sto.flN;omega
   dsimp only;rw[rT];refine D6 (by omega) ?_;rw[iV];refine B6 (fun(hz:(w.1.flN:Int)=0)=>?_) (fun(hz: ¬(w.1.flN:Int)=0)=>?_)
   ·rw[Dq5 (by omega)];exact .drop (A:=SL p w.1 g2++R) (J:=J) ⟨g2,rfl,X2,rfl⟩ (pc fun z=>by simp only[B4];omega)
   ·rw[Dq4 (by omega)];refine A6 g2.pv (F3 (SL.st aH) rfl) ?_;have aU:=X2.pd.cap;refine slc_el E3 (by decide) (A:=g2.pseg) (Own.sl X2.pd) (i':=0) (j':=w.1.flN) (m':=g2.pv.cap) rfl rfl rfl (by omega) uN (by omega) (Dq6 _) fun s1 bK _ sM=>?_;rw[D06,Dx4]at sM;refine S8 (Bz5 (SL p w.1 g2++(J++R)) s1 (w.1.pend.take w.1.flN) (sM.mono (SL.ps aH)) (by rw[Ds0];omega)) ?_;rintro _ _-⟨q,rfl,rfl,hq,eH⟩;refine⟨(q.v,(M7 (w.1.pend.take w.1.flN)).2,()),rfl,?_⟩;dsimp only;refine B6 (fun(h1:(M7 (w.1.pend.take w.1.flN)).2=0)=>?_) (fun(h1: ¬(M7 (w.1.pend.take w.1.flN)).2=0)=>?_)
    ·rw[Dq4 (by simpa using h1)];refine C4 fun n1 _=>?_;obtain⟨c1,dV⟩: ∃c1:Nat×Obj,c1=(n1,Obj.cells #[.slice q.v.a q.v.len q.v.cap] 27):=⟨_,rfl⟩;rw[<-dV];have aZ:(c1::(q.seg++(SL p w.1 g2++(J++R)))).Perm (SL p w.1 g2++(c1::(q.seg++(J++R)))):=pc fun z=>by simp only[B4,C5];omega
     obtain⟨o,ho⟩: ∃o,w.1.op=some o:=by
      unfold Sto.fits at a2;cases bM:w.1.op with
      |none=>rw[bM]at a2;cases a2
      |some o=>exact⟨o,rfl⟩
     have tL:=k1.op o ho;have cH:=A01 p w.1 g2 X2 k1.S.2 k1.bk (c1::(q.seg++(J++R))) ⟨some n1.z,1,1⟩ [(q.v,q.l)] (C19 hq (by rw[dV];exact Dq7) (fun y hy=>by simp[hy])) (by simp) (k1.dg _ (by simp)) o ho (by omega) (by omega) 3;rw[show[(q.v,q.l)].map Prod.snd=[(M7 (w.1.pend.take w.1.flN)).1] by simp[eH]]at cH;refine Au8 cH aZ ?_;rintro _ _ ⟨g3,rfl,X3,hn3,rfl⟩;obtain⟨b1,b2⟩:=k1.write a1 3 [(M7 (w.1.pend.take w.1.flN)).1];have bp:(w.1.write 3 [(M7 (w.1.pend.take w.1.flN)).1]).1.pend=w.1.pend:=(Mv.write w.1 3 _).pend;generalize w.1.write 3 [(M7 (w.1.pend.take w.1.flN)).1]=z at b1 b2 bp X3;refine⟨((z.2.1.1,z.2.1.2.1,z.2.1.2.2.1,()),z.2.2,()),rfl,?_⟩;dsimp only;have dB:(SL p z.1 g3++(c1::(q.seg++(J++R)))).Perm (SL p z.1 g3++(c1::(q.seg++(J++R)))):=Dq8 _;refine B6 (fun(h2:z.2.2=0)=>?_) (fun(h2: ¬z.2.2=0)=>?_)
     ·rw[Dq4 (by simpa using h2)];refine A6 g3.pv (F3 (SL.st dB) rfl) ?_;refine G5 (Dg9 g3.pv z.1.pend g3.pseg X3.pd (Dt1 b1.pl (by omega)) w.1.flN (by rw[bp];exact uN) (by omega)) (R:=stO p z.1 g3::(kO p z.1::(mO p g3::(gO p g3::(g3.Ad++(g3.Ab++(rns g3.ns++(rns g3.on.toList++(g3.Aq++(g3.Ai++(c1::(q.seg++(J++R))))))))))))) (pc fun z=>by simp only[SL,B4,C5,D5];omega) ?_;rintro _ pseg' ⟨v',rfl,own'⟩;refine⟨_,Dq8 _,(v',()),rfl,?_⟩;obtain⟨s4,eN⟩: ∃s4:Sto,s4={z.1 with pend:=z.1.pend.drop w.1.flN}:=⟨_,rfl⟩;obtain⟨g4,uL⟩: ∃g4:SG,g4={g3 with pv:=v',pseg:=pseg'}:=⟨_,rfl⟩;rw[<-eN];refine Bw4 (s:=z.1) (g:=g3) (k:=17) s4 g4 (Y:=pseg'++(kO p z.1::(mO p g3::(gO p g3::(g3.Ad++(g3.Ab++(rns g3.ns++(rns g3.on.toList++(g3.Aq++(g3.Ai++(c1::(q.seg++(J++R))))))))))))) (pc fun z=>by simp only[B4,C5,D5];omega) (by decide) (by rw[eN,uL];rfl) fun L5 jT=>?_;have X4:SX p s4 g4:=by rw[eN,uL];exact{X3 with cfg:=X3.cfg,dev:=X3.dev,blk:=X3.blk,pd:=own'}
      refine⟨k,by omega,s4,g4,c1::(q.seg++J),?_,?_,?_,X4,rfl,pc fun z'=>?_⟩
      ·rw[eN];show(z.1.pend.drop w.1.flN).length<k;rw[Ds6,bp];omega
      ·rw[eN];exact{b1 with dv:=b1.dv,pl:=by show(z.1.pend.drop w.1.flN).length<=M;rw[Ds6];have:=b1.pl;omega}
      ·rw[eN];exact b2 h2
      ·have:=pcn jT z';have e1:kO p s4=kO p z.1:=by rw[eN];rfl
       have e2:mO p g4=mO p g3:=by rw[uL];rfl
       have e3:gO p g4=gO p g3:=by rw[uL];rfl
       have e4:g4.pseg=pseg'/\g4.Ad=g3.Ad/\g4.Ab=g3.Ab/\g4.ns=g3.ns/\g4.on=g3.on/\g4.Aq=g3.Aq/\g4.Ai=g3.Ai:=by rw[uL];exact⟨rfl,rfl,rfl,rfl,rfl,rfl,rfl⟩
       simp only[SL,e1,e2,e3,e4.1,e4.2.1,e4.2.2.1,e4.2.2.2.1,e4.2.2.2.2.1,e4.2.2.2.2.2.1,e4.2.2.2.2.2.2,B4,C5,D5]at*;omega
     ·rw[Dq5 (by simpa using h2)];exact .drop (A:=SL p z.1 g3++R) (J:=c1::(q.seg++J)) ⟨g3,rfl,X3,rfl⟩ (pc fun z=>by simp only[B4,C5];omega)
    ·rw[Dq5 (by simpa using h1)];exact .drop (A:=SL p w.1 g2++R) (J:=q.seg++J) ⟨g2,rfl,X2,rfl⟩ (pc fun z=>by simp only[B4,C5];omega)
  ·rw[Dq5 (by simpa using h0)];exact .drop (A:=SL p w.1 g2++R) (J:=J) ⟨g2,rfl,X2,rfl⟩ (pc fun z=>by simp only[B4];omega)
section
variable {p:SP} {s:Sto} {g:SG}
theorem Bw3{L R:A4}(hp:L.Perm (SL p s g++R)){f:FuncId}(hf:Af8 PP f=true){cap:Array Value}{v:Int}(hr:Reads PP f cap L (.i v)):Reads PP 42 #[.p p.n,.func (.func f) #[] cap] L (.i (if s.down=true then 0 else v)):=by
 unfold Reads;refine(c42 (some p.n.z) ⟨.func f,#[],cap⟩).c ?_;refine B5 (Cf6 hp) (!s.down,()) rfl ?_;refine G1 (fun(hu:(!s.down)=true)=>?_) (fun(hu:(!s.down)=false)=>?_)
 ·rw[Dq4 (by simpa using hu)];refine Ab4 hf ?_;have e:(#[]++#[]++cap:Array Value)=cap:=by simp
  rw[e];exact B5 hr (v,()) rfl (.of ⟨rfl,rfl⟩)
 ·rw[Dq5 (by simpa using hu)];exact .of ⟨rfl,rfl⟩
theorem A90(X:SX p s g):Reads PP 14 #[.p p.n] (SL p s g) (.i (if s.down=true then 0 else s.bk.tokens)):=by
 unfold Reads;refine(c14 (some p.n.z)).c ?_;refine C4 fun n1 _=>A6 (some p.n.z) (ldB Dq7 rfl) ?_;obtain⟨c1,dV⟩: ∃c1:Nat×Obj,c1=(n1,Obj.cells #[.q (some p.n.z)] 28):=⟨_,rfl⟩;have hp:((n1,Obj.cells #[.q (some p.n.z)] 28)::SL p s g).Perm (SL p s g++[c1]):=by rw[dV];exact pc fun z=>by simp only[B4,C5,D5];omega
 refine B5 (Bw3 hp (by kernel_rfl) (v:=s.bk.tokens) ?_) (_,()) rfl (.drop (A:=SL p s g) (J:=[c1]) ⟨rfl,rfl⟩ hp);unfold Reads;refine(c43 (some n1.z)).c ?_;refine A5 rfl (A6 (some p.n.z) (ldB Dq7 rfl) (A5 rfl (A6 (some p.nk.z) (F3 (SL.st hp) rfl) ?_)));exact B5 (Bm3 _ p.nk s.bk (SL.k hp)) (s.bk.tokens,()) rfl (.of ⟨rfl,rfl⟩)
theorem Df9(X:SX p s g):Reads PP 29 #[.p p.n] (SL p s g) (.i (if s.down=true then 0 else(ilen s.ix:Int))):=by
 unfold Reads;refine(c29 (some p.n.z)).c ?_;refine C4 fun n1 _=>A6 (some p.n.z) (ldB Dq7 rfl) ?_;obtain⟨c1,dV⟩: ∃c1:Nat×Obj,c1=(n1,Obj.cells #[.q (some p.n.z)] 28):=⟨_,rfl⟩;have hp:((n1,Obj.cells #[.q (some p.n.z)] 28)::SL p s g).Perm (SL p s g++[c1]):=by rw[dV];exact pc fun z=>by simp only[B4,C5,D5];omega
 refine B5 (Bw3 hp (by kernel_rfl) (v:=(ilen s.ix:Int)) ?_) (_,()) rfl (.drop (A:=SL p s g) (J:=[c1]) ⟨rfl,rfl⟩ hp);unfold Reads;refine(c67 (some n1.z)).c ?_;refine A5 rfl (A6 (some p.n.z) (ldB Dq7 rfl) (A5 rfl (A6 (some p.ni.z) (F3 (SL.st hp) rfl) ?_)));exact B5 (Reads.has (SL.i hp) (Dm1 p.ni s.sc.ways s.ix g.Ai X.idx)) ((ilen s.ix:Int),()) rfl (.of ⟨rfl,rfl⟩)
theorem Cf5(X:SX p s g):Reads PP 30 #[.p p.n] (SL p s g) (.i (if s.down=true then 0 else(s.q.length:Int))):=by
 unfold Reads;refine(c30 (some p.n.z)).c ?_;refine C4 fun n1 _=>A6 (some p.n.z) (ldB Dq7 rfl) ?_;obtain⟨c1,dV⟩: ∃c1:Nat×Obj,c1=(n1,Obj.cells #[.q (some p.n.z)] 28):=⟨_,rfl⟩;have hp:((n1,Obj.cells #[.q (some p.n.z)] 28)::SL p s g).Perm (SL p s g++[c1]):=by rw[dV];exact pc fun z=>by simp only[B4,C5,D5];omega
 refine B5 (Bw3 hp (by kernel_rfl) (v:=(s.q.length:Int)) ?_) (_,()) rfl (.drop (A:=SL p s g) (J:=[c1]) ⟨rfl,rfl⟩ hp);unfold Reads;refine(c69 (some n1.z)).c ?_;refine A5 rfl (A6 (some p.n.z) (ldB Dq7 rfl) (A5 rfl (A6 (some p.nq.z) (F3 (SL.st hp) rfl) ?_)));exact B5 (Reads.has (SL.q hp) (C07 p.nq s.sc.small s.q g.Aq X.que)) ((s.q.length:Int),()) rfl (.of ⟨rfl,rfl⟩)
theorem A03(X:SX p s g)(hl:s.pend.length<=1000000000):CallF PP 31 #[.p p.n] (SL p s g) fun r L'=> ∃(u:SlV) (sg:A4),r= .slice u.a u.len u.cap/\L'=sg++SL p s g/\Own u 3 A70 ((if s.down=true then[]else s.pend).flatMap P8) sg:=by
 refine(c31 (some p.n.z)).c ?_;have bD:(SL p s g).Perm (SL p s g++[]):=by rw[Dr3]
 refine B5 (Cf6 bD) (!s.down,()) rfl ?_;refine G1 (fun(hu:(!s.down)=true)=>?_) (fun(hu:(!s.down)=false)=>?_)
 ·rw[Dq4 (by simpa using hu)];refine A5 rfl (A6 g.pv (F3 (SL.st bD) rfl) ?_);refine S8 (Ch4 (SL p s g) g.pv s.pend (X.pd.sl.mono (SL.ps bD)) hl) ?_;rintro _ _-⟨u,sg,rfl,rfl,own⟩;exact⟨(u,()),rfl,.of ⟨u,sg,rfl,rfl,own⟩⟩
 ·rw[Dq5 (by simpa using hu)];exact .of ⟨⟨none,0,0⟩,[],rfl,rfl,F6⟩
end
def Aw9(d:Dev):List BS:=d.bs.map fun k=>⟨k.wear,k.bad,decide (k.next≠0)⟩
theorem B99(m:Nat)(d:Dev)(A:A4)(h:FH m d A)(ok:P6 d):CallF PP 100 #[.p m] A fun r L'=> ∃(v:SlV) (seg:A4),r= .slice v.a v.len v.cap/\L'=seg++A/\Own v 3 194 ((Aw9 d).flatMap Y9) seg:=by
 refine(c100 (some m.z)).c ?_;have qT: ∀{L J:A4},L.Perm (J++A)->Has L A:=fun{L J} hp=>⟨J,hp.trans Du8⟩;have hB:=ok.c.b;have hC:=ok.len;refine B5 (Ae9 ⟨[],by simp⟩ h) ((d.c.B,d.c.P,d.c.S,d.c.W,()),()) rfl ?_;dsimp only;refine G7 (fun z' z L'=> ∃(i:Nat) (v:SlV) (seg:A4),z=(v,(i:Int),())/\z'=d.c.B-i/\i<=d.c.B/\L'.Perm (seg++A)/\Own v 3 194 (((Aw9 d).take i).flatMap Y9) seg) d.c.B ⟨0,⟨none,0,0⟩,[],rfl,rfl,by omega,Dq8 _,F6⟩ ?_;rintro z' z L1 ⟨i,v,seg,rfl,rfl,hi,hp,own⟩;dsimp only;have aP:(Aw9 d).length=d.c.B:=by unfold Aw9;rw[Dr1,hC]
 refine B6 (fun(hO:(i:Int)<d.c.B)=>?_) (fun(aS: ¬(i:Int)<d.c.B)=>?_)
 ·have hJ:i<d.bs.length:=by omega
  have fF:D7 d (i:Int)=some d.bs[i]:=by unfold D7;rw[Dq5 (by omega),Dr0,Dr9 hJ]
  refine B5 (Reads.has (qT hp) (Ce6 m d A h ok i)) (O0 d i,()) rfl ?_;refine B5 (Reads.has (qT hp) (Cu3 m d A h ok i)) (Ar8 d i,()) rfl ?_;refine B5 (Reads.has (qT hp) (Dk4 m d A h ok i)) (P4 d i,()) rfl ?_;dsimp only;have e1:O0 d i=(d.bs[i].wear:Int):=by unfold O0;rw[fF];rfl
  have e2:Ar8 d i=d.bs[i].bad:=by unfold Ar8;rw[fF];rfl
  have e3:P4 d i=(d.bs[i].next:Int):=by unfold P4;rw[fF];rfl
  rw[e1,e2,e3];have cR:=own.sl.els_len H3 (by decide);rw[Ds0]at cR;have vG:((d.bs[i].next:Int) !=0)=decide (d.bs[i].next≠0):=by
   by_cases hn:d.bs[i].next=0
   ·simp[hn]
   ·simp[hn]
  rw[vG];refine Am5 Cs2 C99 own hp (ws:=Y9 ⟨d.bs[i].wear,d.bs[i].bad,decide (d.bs[i].next≠0)⟩) rfl rfl (by omega) fun v' seg' bZ own'=>?_;refine D6 (by omega) ⟨d.c.B-(i+1),by omega,i+1,v',seg',rfl,rfl,by omega,Dq8 _,?_⟩;rw[Ds4 (by omega),Dt3,Dx7];have:(Aw9 d)[i]'(by omega)=⟨d.bs[i].wear,d.bs[i].bad,decide (d.bs[i].next≠0)⟩:=by unfold Aw9;rw[D07]
  rw[this];exact own'
 ·obtain rfl:i=d.c.B:=by omega
  rw[show d.c.B=(Aw9 d).length from aP.symm,Ds9]at own;exact .drop (A:=seg++A) (J:=[]) ⟨v,seg,rfl,rfl,own⟩ (by simpa using hp)
abbrev Av2:=Int×Int×Int×Int×Int×Int×Int×Int×Int×Int×Int×Unit
def S2(n most:Int):Bool:=decide (0<=n/\n<=most)
theorem Aa0(L:A4)(n most:Int):Reads PP 164 #[.i n,.i most] L (.b (S2 n most)):=by
 unfold Reads;refine(c164 n most).c ?_;unfold S2;refine B6 (fun(h:n≥0)=>.of ⟨?_,rfl⟩) (fun(h: ¬n≥0)=>.of ⟨?_,rfl⟩)
 ·congr 1;exact decide_eq_decide.2 ⟨fun hm=>⟨h,hm⟩,fun hm=>hm.2⟩
 ·congr 1;exact(Ds7 fun hh=>h hh.1).symm
def Dn3(c:Av2):Bool:=S2 c.2.2.2.2.2.2.1 65536&&S2 c.2.2.2.2.2.2.2.1 64&&S2 c.2.2.2.2.2.2.2.2.1 1048576&&S2 c.2.2.2.2.2.2.2.2.2.1 1073741824&&decide (3*(c.2.1-2)<=B7 c.2.2.1)
theorem fit_rd(L:A4)(c:Av2)(hP:0<=c.2.1/\c.2.1<=1000):Reads PP 94 #[.agg (ki11 c)] L (.b (Dn3 c)):=by
 unfold Reads;refine(c94 c).c ?_;unfold Dn3;have no: ∀{b:Bool},b=false->(Value.b false=Value.b b/\L=L):=fun hb=>⟨by rw[hb],rfl⟩;refine B5 (Aa0 L c.2.2.2.2.2.2.1 65536) (S2 c.2.2.2.2.2.2.1 65536,()) rfl ?_;refine G1 (fun(h1:S2 c.2.2.2.2.2.2.1 65536=true)=>?_) (fun(h1:S2 c.2.2.2.2.2.2.1 65536=false)=>?_)
 ·refine B5 (Aa0 L c.2.2.2.2.2.2.2.1 64) (S2 c.2.2.2.2.2.2.2.1 64,()) rfl (B5 (Aa0 L c.2.2.2.2.2.2.2.2.1 1048576) (S2 c.2.2.2.2.2.2.2.2.1 1048576,()) rfl ?_);refine G1 (fun(h3:S2 c.2.2.2.2.2.2.2.2.1 1048576=true)=>?_) (fun(h3:S2 c.2.2.2.2.2.2.2.2.1 1048576=false)=>?_)
  ·refine B5 (Aa0 L c.2.2.2.2.2.2.2.2.2.1 1073741824) (S2 c.2.2.2.2.2.2.2.2.2.1 1073741824,()) rfl ?_;refine G1 (fun(h2:S2 c.2.2.2.2.2.2.2.1 64=true)=>?_) (fun(h2:S2 c.2.2.2.2.2.2.2.1 64=false)=>.of (no (by rw[h2];simp)));refine G1 (fun(h4:S2 c.2.2.2.2.2.2.2.2.2.1 1073741824=true)=>?_) (fun(h4:S2 c.2.2.2.2.2.2.2.2.2.1 1073741824=false)=>.of (no (by rw[h4];simp)));refine D6 (by omega) (D6 (by omega) (B5 (Aj8 L c.2.2.1) (B7 c.2.2.1,()) rfl (.of ⟨?_,rfl⟩)));rw[h1,h2,h3,h4];simp
  ·exact G1 (fun _=>.of (no (by rw[h3];simp))) (fun _=>.of (no (by rw[h3];simp)))
 ·refine B5 (Aa0 L c.2.2.2.2.2.2.2.2.1 1048576) (S2 c.2.2.2.2.2.2.2.2.1 1048576,()) rfl ?_;refine G1 (fun _=>?_) (fun _=>.of (no (by rw[h1];simp)));exact B5 (Aa0 L c.2.2.2.2.2.2.2.2.2.1 1073741824) (S2 c.2.2.2.2.2.2.2.2.2.1 1073741824,()) rfl (.of (no (by rw[h1];simp)))
def Ar9(x:Av2)(d:Dev):SC:=⟨d.c,x.2.2.2.2.1,x.2.2.2.2.2.1,x.2.2.2.2.2.2.1,x.2.2.2.2.2.2.2.1,x.2.2.2.2.2.2.2.2.1,x.2.2.2.2.2.2.2.2.2.1,x.2.2.2.2.2.2.2.2.2.2.1⟩
def Bo0(h:HD):Reg:=⟨h.1,h.2.1,0,h.2.2⟩
def U6(d:Dev):List Reg:=(H0 d).map Bo0
def Bv3(sc:SC)(d:Dev)(now:Int)(ss:List BS):Sto:=⟨sc,d,ss,U6 d,none,Al7 sc.rate sc.burst now 0,Bg1 (H0 d),[],false,[],[],List.replicate sc.sets.toNat []⟩
def Ac7(l:List LE)(s:Sto):Sto:=l.foldl (fun s x=>s.list x.1 x.2) s
def Bf1(sc:SC)(d:Dev)(now:Int):Option Sto:=(Ah1 (Aw9 d) ((U6 d).map Reg.b)).map fun r=>Ac7 (R7 d) (Bv3 sc d now r.1)
theorem B84: ∀(l:List Int) {ss:List BS} {us:List Int} {r:List BS×List Int},Ce4 ss us->Au9 ss us l=some r->r.2=us++l/\Ce4 r.1 r.2/\r.1.map (fun x=>(x.wear,x.bad))=ss.map (fun x=>(x.wear,x.bad))
 |[],ss,us,r,h,hr=>by
  obtain rfl:=Dq9 hr;exact⟨by simp,h,rfl⟩
 |n::t,ss,us,r,h,hr=>by
  unfold Au9 at hr;split at hr
  ·rename_i hf;obtain⟨h1,h2⟩:=D8 hf;obtain⟨h3,h4,h5⟩:=K5 h1;have hm:(Ad4 ss n Ac3).map (fun x=>(x.wear,x.bad))=ss.map (fun x=>(x.wear,x.bad)):=by
    apply D51;intro i;unfold Ad4;rw[Du3,Du3,Dy7];cases ss[i]? with
    |none=>rfl
    |some x=>
     simp only[D04,Ed1];by_cases e:n.toNat=i<;>simp[e,Ac3]
   have hg: ∀x,F5 (Ad4 ss n Ac3) x=F5 ss x:=fun x=>by
    unfold F5;have:=congrArg (fun l=>l[x.toNat]?) hm;simp only[Du3]at this;cases h6:(Ad4 ss n Ac3)[x.toNat]? with
    |none=>rw[h6]at this;cases h7:ss[x.toNat]? with
     |none=>rfl
     |some y=>rw[h7]at this;cases this
    |some y=>rw[h6]at this;cases h7:ss[x.toNat]? with
     |none=>rw[h7]at this;cases this
     |some z=>rw[h7]at this;simp at this;simp[this.2]
   have hb:Ce4 (Ad4 ss n Ac3) (us++[n]):=by
    have:=Bu3 h hf;exact⟨this.1,fun x hx=>by rw[hg];exact this.2 x hx⟩
   obtain⟨a1,a2,a3⟩:=B84 t hb hr;exact⟨by rw[a1];simp,a2,a3.trans hm⟩
  ·cases hr
theorem B85{ss:List BS}{l:List Int}{r:List BS×List Int}(h:Ah1 ss l=some r):r.2=l/\Ce4 r.1 r.2/\r.1.map (fun x=>(x.wear,x.bad))=ss.map (fun x=>(x.wear,x.bad))/\Bu2 ss=true:=by
 unfold Ah1 at h;split at h
 ·rename_i hc;obtain⟨a1,a2,a3⟩:=B84 l ⟨D32,fun x hx=>by cases hx⟩ h;exact⟨by simpa using a1,a2,a3,hc.2.2⟩
 ·cases h
theorem A48{d:Dev}{h:HD}(hh:h∈H0 d):(Bo0 h).Good/\0<=h.2.1/\h.2.1<=1073741824:=by
 have h1:=(O7 epK (A69 d d.c.B)).subset hh;obtain⟨b,hb,hr⟩:=Ap0 h1;obtain⟨e1,e2,e3,e4⟩:=Av5 hr;refine⟨⟨?_,fun x hx=>?_⟩,e2⟩
 ·have:=By4 h.2.2 1 (fun x hx=>by have:=e3 x hx;unfold Ax2 at this;omega) e4 (by decide);show h.2.2.length<=256;omega
 ·have:=e3 x hx;unfold Ax2 at this;omega
theorem B50: ∀(l:List HD) (a:Int),0<=a->a<=1073741824->(∀h∈l,0<=h.2.1/\h.2.1<=1073741824)->0<=l.foldl (fun a h=>Aa2 a h.2.1) a/\l.foldl (fun a h=>Aa2 a h.2.1) a<=1073741824
 |[],a,h0,h1,_=>⟨h0,h1⟩
 |x::r,a,h0,h1,h=>by
  have hx:=h x (by simp);rw[D02];exact B50 r _ (by unfold Aa2;split<;>omega) (by unfold Aa2;split<;>omega) fun y hy=>h y (by simp[hy])
structure ScOk(sc:SC):Prop where
 st:1<=sc.sets/\sc.sets<=64
 wy:1<=sc.ways/\sc.ways<=8
 sm:0<=sc.small/\sc.small<=65536
 gs:0<=sc.ghost/\sc.ghost<=64
theorem Cg0{sc:SC}{d:Dev}{now:Int}{r:List BS×List Int}(ok:P6 d)(hc:d.c=sc.c)(hd:d.down=false)(bR:d.torn.length<=999)(k:ScOk sc)(hr:Ah1 (Aw9 d) ((U6 d).map Reg.b)=some r):SOk (Bv3 sc d now r.1) 0:=by
 obtain⟨r1,r2,r3,r4⟩:=B85 hr;have cA:(Bv3 sc d now r.1).us=r.2:=by
  rw[r1];show(U6 d).map Reg.b++[]=_;simp
 have hl:r.1.length=d.bs.length:=by
  have:=congrArg List.length r3;simp only[Dr1]at this;rw[this];unfold Aw9;rw[Dr1]
 have kT: ∀(i:Nat) k,d.bs[i]?=some k-> ∃x,r.1[i]?=some x/\x.wear=k.wear/\x.bad=k.bad:=fun i k hk=>by
  have:=congrArg (fun l=>l[i]?) r3;simp only[Du3]at this;unfold Aw9 at this;rw[Du3,hk]at this;cases h6:r.1[i]? with
  |none=>rw[h6]at this;cases this
  |some x=>rw[h6]at this;simp at this;exact⟨x,rfl,this.1,this.2⟩
 refine⟨ok,hd.symm,?_,hc,C79 _ _ _ _,?_,?_,?_,k.wy,k.sm,k.gs,?_,fun o ho=>(by cases ho),?_,by rw[cA];exact r2,hl,fun _=>kT,?_,?_,fun e he=>(by cases he),by simp[Bv3],by simp[Bv3]⟩
 ·show d.torn.length+(if d.down=true then 0 else 1)<=1000;split<;>omega
 ·intro row aM;have:row=[]:=Dv8 aM;subst this;exact⟨by show((([]:List C3).length:Nat):Int)<=sc.ways;have:=k.wy;simp;omega,by simp,by simp⟩
 ·show 1<=(List.replicate sc.sets.toNat []).length;rw[Dv3];have:=k.st;omega
 ·intro row aM x hx;have:row=[]:=Dv8 aM;subst this;cases hx
 ·show((([]:List Int).length:Nat):Int)<=sc.ghost;have:=k.gs;simp;omega
 ·intro q hq;rcases hq with hq|hq
  ·obtain⟨h,hh,rfl⟩:=Dt4.1 (show q∈(H0 d).map Bo0 from hq);exact(A48 hh).1
  ·cases hq
 ·intro x hx;obtain⟨i,hi,rfl⟩:=D95 (show x∈r.1 from hx);have eV:i<d.bs.length:=by omega
  obtain⟨y,hy,hw,-⟩:=kT i _ (Dr9 eV);rw[Dr9 hi]at hy;obtain rfl:=Dq9 hy;have h1:=ok.nx _ (Dr7 eV);have h2:=ok.c.w;rw[hw];omega
 ·exact B50 (H0 d) 0 (by decide) (by decide) fun h hh=>(A48 hh).2
theorem Bg7: ∀(l:List LE) {s:Sto} {M:Nat},SOk s M->(∀x∈l,S0 .i64 x.2.2.1)->SOk (Ac7 l s) (M+l.length)/\(Ac7 l s).q=s.q/\(Ac7 l s).down=s.down
 |[],s,M,h,_=>⟨h,rfl,rfl⟩
 |x::r,s,M,h,hw=>by
  have h1:=h.list x.1 x.2 (hw x (by simp));have h2:=Bg7 r h1 fun y hy=>hw y (by simp[hy]);exact⟨h2.1.upto (by simp;omega),h2.2.1,h2.2.2⟩
theorem B30(kind:Int): ∀(l:List HD),(∀h∈l,h.2.2.length<=256)->(Bw9 kind l).length<=l.length*256
 |[],_=>by simp[Bw9]
 |x::r,h=>by
  have h1:=h x (by simp);have h2:=B30 kind r fun y hy=>h y (by simp[hy]);have h3:=Dz7 (fun y:It=>decide (y.1=kind)) x.2.2;have e:Bw9 kind (x::r)=((x.2.2.filter fun y=>decide (y.1=kind)).map fun y=>(x,y))++Bw9 kind r:=rfl;rw[e,Dr4,Dr1,Dr8];omega
theorem Bg6{d:Dev}(ok:P6 d):(R7 d).length<=4096:=by
 have h1:(R7 d).length<=(Cv2 d (H0 d)).length:=Dz7 ..;have h2:(Cv2 d (H0 d)).length<=(Bw9 2 (H0 d)).length:=D92 ..;have h3:=B30 2 (H0 d) fun h hh=>(A48 hh).1.1;have h4:=(O7 epK (A69 d d.c.B)).length_eq;have h5:=Ay0 d d.c.B;have h6:=ok.c.b;have h7:(H0 d).length<=16:=by unfold H0;omega
 omega
theorem Cm8{d:Dev}: ∀x∈R7 d,S0 .i64 x.2.2.1:=fun x hx=>by have:=(Bg5 hx).page;exact Bd3 (by omega)
end Go.Proofs.YtbaoieipijmakaaGreatDoor
