/-
  It is proved what the functions that the law StoreServes reaches compute, part 3. There are no further conditions than those that each theorem names.
-/
import Derived.Test.YtbaoieipijmakaaGreatDoorMStoreServes2
set_option linter.unusedVariables false
set_option linter.unusedSimpArgs false
namespace Go.Proofs.YtbaoieipijmakaaGreatDoor
open Go.HL
section
variable {α:Type} (key:α->Int)
def Ax3:List α->α->List α
 |[],x=>[x]
 |y::r,x=>if key x<key y then y::Ax3 r x else x::y::r
def Aq2(l:List α):List α:=(l.foldl (Ax3 key) []).reverse
theorem A46: ∀(r:List α) (x:α),(Ax3 key r x).Perm (x::r)
 |[],x=>Dq8 _
 |y::r,x=>by
  rw[Ax3];split
  ·exact((A46 r x).cons y).trans (D45 x y r)
  ·exact Dq8 _
theorem Ab3: ∀(l acc:List α),(l.foldl (Ax3 key) acc).Perm (l++acc)
 |[],acc=>Dq8 _
 |x::l,acc=>by
  rw[D02];refine(Ab3 l _).trans ?_;exact((A46 key acc x).append_left l).trans (Dw4)
theorem O7(l:List α):(Aq2 key l).Perm l:=by
 unfold Aq2;refine(List.reverse_perm _).trans ?_;have:=Ab3 key l []
 rwa [Dr3]at this
theorem A45: ∀(r:List α) (x:α),r.Pairwise (fun a b=>key b<=key a)->(Ax3 key r x).Pairwise (fun a b=>key b<=key a)
 |[],x,_=>by simp[Ax3]
 |y::r,x,h=>by
  rw[Ax3];rw[Dy6]at h;split
  ·rename_i hO;rw[Dy6];refine⟨fun z hz=>?_,A45 r x h.2⟩;rcases Dt5.1 ((A46 key r x).subset hz)with rfl|hz
   ·omega
   ·exact h.1 z hz
  ·rename_i aS;rw[Dy6];refine⟨fun z hz=>?_,by rw[Dy6];exact h⟩;rcases Dt5.1 hz with rfl|hz
   ·omega
   ·have:=h.1 z hz;omega
theorem Ae7: ∀(l acc:List α),acc.Pairwise (fun a b=>key b<=key a)->(l.foldl (Ax3 key) acc).Pairwise (fun a b=>key b<=key a)
 |[],acc,h=>h
 |x::l,acc,h=>Ae7 l _ (A45 key acc x h)
theorem Br0(l:List α):(Aq2 key l).Pairwise (fun a b=>key a<=key b):=by
 unfold Aq2;rw[List.pairwise_reverse];exact Ae7 key l [] List.Pairwise.nil
theorem B55{β:Type}(f:α->β)(kb:β->Int)(h: ∀x,kb (f x)=key x): ∀(r:List α) (x:α),(Ax3 key r x).map f=Ax3 kb (r.map f) (f x)
 |[],x=>rfl
 |y::r,x=>by
  rw[Ax3,Ds3,Ax3,h,h];split
  ·rw[Ds3,B55 f kb h r x]
  ·rfl
theorem Am4{β:Type}(f:α->β)(kb:β->Int)(h: ∀x,kb (f x)=key x): ∀(l acc:List α),(l.foldl (Ax3 key) acc).map f=(l.map f).foldl (Ax3 kb) (acc.map f)
 |[],acc=>rfl
 |x::l,acc=>by rw[D02,Ds3,D02,Am4 f kb h l,B55 key f kb h]
theorem Co5{β:Type}(f:α->β)(kb:β->Int)(h: ∀x,kb (f x)=key x)(l:List α):(Aq2 key l).map f=Aq2 kb (l.map f):=by
 unfold Aq2;rw[List.map_reverse,Am4 key f kb h,D61]
end
abbrev HD:=Int×Int×List It
structure HE where
 b:Int
 ep:Int
 v:SlV
 seg:A4
 l:List It
def HE.enc(h:HE):List Value:=[.i h.b,.i h.ep,.slice h.v.a h.v.len h.v.cap]
def HE.Ok(h:HE):Prop:=Own h.v 3 Cc7 (h.l.flatMap P8) h.seg
def HE.dat(h:HE):HD:=(h.b,h.ep,h.l)
theorem HE.enc_len(h:HE):h.enc.length=3:=rfl
def U4(l:List HE):A4:=l.flatMap HE.seg
theorem Cp5(a b:List HE):U4 (a++b)=U4 a++U4 b:=Dt3
theorem Cp4(a:HE):U4 [a]=a.seg:=by simp[U4]
theorem A53{α:Type}(f:α->A4){a b:List α}(h:a.Perm b)(z:Nat×Obj):cnt (a.flatMap f) z=cnt (b.flatMap f) z:=by
 induction h with
 |nil=>rfl
 |cons x _ ih=>simp only[Du1,B4,ih]
 |swap x y l=>simp only[Du1,B4];omega
 |trans _ _ i1 i2=>rw[i1,i2]
abbrev eHl:TypeId:=154
abbrev tHl:TypeId:=143
theorem elemHl:V4 PP tHl eHl 3 40 [.i 0,.i 0,.slice none 0 0]:=N3 (by kernel_rfl) (by kernel_rfl) rfl (by decide) (by decide)
theorem srcHl:Ax5 PP tHl:=.inl ⟨eHl,by kernel_rfl⟩
abbrev tPPs:TypeId:=243
theorem Do1:V4 PP tPPs tPs 1 24 [.slice none 0 0]:=N3 (by kernel_rfl) (by kernel_rfl) rfl (by decide) (by decide)
theorem srcPPs:Ax5 PP tPPs:=.inl ⟨tPs,by kernel_rfl⟩
theorem cmp_rd(L:A4)(x y:HE)(hx:0<=x.ep/\x.ep<=4294967296)(hy:0<=y.ep/\y.ep<=4294967296):
  Reads PP 226 #[.agg #[.i x.b,.i x.ep,.slice x.v.a x.v.len x.v.cap],.agg #[.i y.b,.i y.ep,.slice y.v.a y.v.len y.v.cap]] L (.i (x.ep-y.ep)):=by
 unfold Reads;refine(c226 (x.b,x.ep,x.v,()) (y.b,y.ep,y.v,())).c ?_;exact D6 (by simp only;omega) (.of ⟨rfl,rfl⟩)
theorem C39(v:SlV)(hs:List HE)(seg R:A4)(own:Own v 3 eHl (hs.flatMap HE.enc) seg)(bX: ∀h∈hs,0<=h.ep/\h.ep<=4294967296)(hC:hs.length<=1000):
  CallF PP 321 #[.slice v.a v.len v.cap,.i 0,.i hs.length,.func (.func 226) #[] #[]] (seg++R) fun r L'=> ∃seg',r= .t #[]/\L'=seg'++R/\Own v 3 eHl ((Aq2 HE.ep hs).flatMap HE.enc) seg':=by
 refine(c321 v 0 hs.length ⟨.func 226,#[],#[]⟩).c ?_;refine D6 (by omega) ?_;refine G7 (fun z' z L'=> ∃(i:Nat) (acc:List HE) (sg:A4),z=((i:Int),())/\z'=2000-i/\1<=i/\i<=max 1 hs.length/\acc=(hs.take i).foldl (Ax3 HE.ep) []/\L'.Perm (sg++R)/\Own v 3 eHl ((acc.reverse++hs.drop i).flatMap HE.enc) sg) 1999
  ⟨1,_,seg,rfl,rfl,by omega,by omega,rfl,Dq8 _,?_⟩ ?_
 ·cases hs with
  |nil=>exact own
  |cons h t=>exact own
 rintro z' z L1 ⟨i,acc,sg,rfl,rfl,hi1,eV,qW,hp,own1⟩;dsimp only;have aF:acc.Perm (hs.take i):=by rw[qW];have:=Ab3 HE.ep (hs.take i) [];rwa [Dr3]at this
 have cE:acc.length=min i hs.length:=by rw[aF.length_eq,Ds0]
 refine B6 (fun(hO:(i:Int)<hs.length)=>?_) (fun(aS: ¬(i:Int)<hs.length)=>?_)
 ·have hi:i<hs.length:=by omega
  have dT:hs.drop i=hs[i]::hs.drop (i+1):=Dv1 hi;generalize hx:hs[i]=x at dT;have hxe:0<=x.ep/\x.ep<=4294967296:=bX x (by rw[<-hx];exact Dr7 hi);have aP: ∀acc',acc'=Ax3 HE.ep acc x->acc'=(hs.take (i+1)).foldl (Ax3 HE.ep) []:=fun acc' h=>by
   rw[h,Ds4 hi,Ec3,<-qW,hx];rfl
  rw[dT]at own1;have jJ: ∀(r p:List HE) (sg' L':A4),L'.Perm (sg'++R)->Own v 3 eHl ((r.reverse++x::(p++hs.drop (i+1))).flatMap HE.enc) sg'->Ax3 HE.ep acc x=p.reverse++x::r->
    ∃k',k'<2000-i/\ ∃(i':Nat) (acc:List HE) (sg:A4),((((i:Int)+1:Int),()):RsV [lI])=((i':Int),())/\k'=2000-i'/\1<=i'/\i'<=max 1 hs.length/\acc=(hs.take i').foldl (Ax3 HE.ep) []/\L'.Perm (sg++R)/\Own v 3 eHl ((acc.reverse++hs.drop i').flatMap HE.enc) sg:=by
   intro r p sg' L' dO own' he;refine⟨2000-(i+1),by omega,i+1,Ax3 HE.ep acc x,sg',rfl,rfl,by omega,by omega,aP _ rfl,dO,?_⟩;rw[he,Ee6,Ec4,List.reverse_reverse];simpa[Ds5]using own'
  refine G7 (fun z' z L'=> ∃(r p:List HE) (sg:A4),z=((r.length:Int),())/\z'=r.length/\acc=p.reverse++r/\Ax3 HE.ep acc x=p.reverse++Ax3 HE.ep r x/\L'.Perm (sg++R)/\Own v 3 eHl ((r.reverse++x::(p++hs.drop (i+1))).flatMap HE.enc) sg) acc.length
   ⟨acc,[],sg,by rw[cE,Dx1 (by omega)],rfl,rfl,rfl,hp,own1⟩ ?_
  rintro z' z L2 ⟨r,p,sg2,rfl,rfl,xP,qJ,aH,own2⟩;dsimp only;have bo:r.length<=1000:=by have:=congrArg List.length xP;rw[Dr4]at this;omega
  refine W2 (fun _ L'=>L'=L2/\ ∃y r',r=y::r'/\x.ep<y.ep) ?_ ?_
  ·rintro _ _ ⟨rfl,y,r',rfl,lQ⟩;have lR:((y::r').length:Int)-1=(r'.length:Int):=by simp
   have fM:(y::r').reverse++x::(p++hs.drop (i+1))=r'.reverse++y::(x::(p++hs.drop (i+1))):=by simp
   rw[fM]at own2;have nI:r'.length<(r'.reverse++y::(x::(p++hs.drop (i+1)))).length:=by simp
   have iI:r'.length+1<(r'.reverse++y::(x::(p++hs.drop (i+1)))).length:=by simp
   have g1:(r'.reverse++y::(x::(p++hs.drop (i+1))))[r'.length]'nI=y:=by rw[D91 (by simp)];simp
   have g2:(r'.reverse++y::(x::(p++hs.drop (i+1))))[r'.length+1]'iI=x:=by rw[D91 (by simp)];simp
   refine D6 (by simp only[lR];omega) (D6 (by simp only[lR];omega) ?_);rw[lR];refine A58 HE.enc_len (by decide) own2 (Ca9 aH) rfl nI fun b0 eM jN=>?_;refine A58 HE.enc_len (by decide) own2 (Ca9 aH) (n:=r'.length+1) (by simp) iI fun b1 dF rW=>?_;rw[g1]at jN;rw[g2]at rW;refine A6 (y.b,y.ep,y.v,()) jN (A6 (x.b,x.ep,x.v,()) rW ?_);refine Cg1 HE.enc_len (by decide) own2 dF iI y aH fun sg3 L3 aZ own3=>?_;have e3:(r'.reverse++y::(x::(p++hs.drop (i+1)))).set (r'.length+1) y=r'.reverse++y::(y::(p++hs.drop (i+1))):=by
    rw[Ec5 _ _ (by simp)];simp
   rw[e3]at own3;refine A58 HE.enc_len (by decide) own3 (Ca9 aZ) (n:=r'.length) rfl (by simp) fun b2 dE vL=>?_;refine Cg1 HE.enc_len (by decide) own3 dE (by simp) x aZ fun sg4 L4 dB own4=>?_;have e4:(r'.reverse++y::(y::(p++hs.drop (i+1)))).set r'.length x=r'.reverse++x::((y::p)++hs.drop (i+1)):=by
    rw[Ec5 _ _ (by simp)];simp
   rw[e4]at own4;refine D6 (by omega) ⟨r'.length,by simp,r',y::p,sg4,rfl,rfl,?_,?_,dB,own4⟩
   ·rw[xP];simp
   ·rw[qJ,Ax3,Dq5 lQ];simp
  ·intro j hj;refine B6 (fun(h0:(r.length:Int)>0)=>?_) (fun(h0: ¬(r.length:Int)>0)=>?_)
   ·obtain⟨y,r',rfl⟩: ∃y r',r=y::r':=by
     cases r with
     |nil=>simp at h0
     |cons y r'=>exact⟨y,r',rfl⟩
    have lR:((y::r').length:Int)-1=(r'.length:Int):=by simp
    have fM:(y::r').reverse++x::(p++hs.drop (i+1))=r'.reverse++y::(x::(p++hs.drop (i+1))):=by simp
    have own2':=own2;rw[fM]at own2';have nI:r'.length<(r'.reverse++y::(x::(p++hs.drop (i+1)))).length:=by simp
    have iI:r'.length+1<(r'.reverse++y::(x::(p++hs.drop (i+1)))).length:=by simp
    have g1:(r'.reverse++y::(x::(p++hs.drop (i+1))))[r'.length]'nI=y:=by rw[D91 (by simp)];simp
    have g2:(r'.reverse++y::(x::(p++hs.drop (i+1))))[r'.length+1]'iI=x:=by rw[D91 (by simp)];simp
    have hye:0<=y.ep/\y.ep<=4294967296:=bX y (D25 (aF.subset (by rw[xP];simp)));refine A58 HE.enc_len (by decide) own2' (Ca9 aH) (n:=r'.length+1) (by simp) iI fun b1 dF aG=>?_;refine D6 (by simp only[lR];omega) ?_;rw[lR];refine A58 HE.enc_len (by decide) own2' (Ca9 aH) rfl nI fun b2 dE bA=>?_;rw[g2]at aG;rw[g1]at bA;refine A6 (x.b,x.ep,x.v,()) aG (A6 (y.b,y.ep,y.v,()) bA ?_);refine Ab4 (by kernel_rfl) (B5 (cmp_rd L2 x y hxe hye) (x.ep-y.ep,()) rfl (B6 (fun(hc:x.ep-y.ep<0)=>hj _ _ ⟨rfl,y,r',rfl,by omega⟩) (fun(hc: ¬x.ep-y.ep<0)=>D6 (by omega) ?_)));refine jJ (y::r') p sg2 L2 aH own2 ?_;rw[qJ,Ax3,Dq4 (by omega)]
   ·obtain rfl:r=[]:=by
     cases r with
     |nil=>rfl
     |cons y r'=>simp at h0
    exact D6 (by omega) (jJ [] p sg2 L2 aH own2 qJ)
 ·have e:acc.reverse++hs.drop i=Aq2 HE.ep hs:=by
   rw[List.drop_eq_nil_of_le (by omega),Dr3,qW,Dw9 (by omega)];rfl
  rw[e]at own1;exact .drop (A:=sg++R) (J:=[]) ⟨sg,rfl,rfl,own1⟩ (by simpa using hp)
theorem Cy1(v:SlV)(hs:List HE)(seg R:A4)(own:Own v 3 eHl (hs.flatMap HE.enc) seg)(bX: ∀h∈hs,0<=h.ep/\h.ep<=4294967296)(hC:hs.length<=19):
  CallF PP 225 #[.slice v.a v.len v.cap,.func (.func 226) #[] #[]] (seg++R) fun r L'=> ∃seg',r= .t #[]/\L'=seg'++R/\Own v 3 eHl ((Aq2 HE.ep hs).flatMap HE.enc) seg':=by
 refine(c225 v ⟨.func 226,#[],#[]⟩).c ?_;have cR:=own.sl.els_len HE.enc_len (by decide);have key:CallF PP 288 #[.slice v.a v.len v.cap,.i v.len,.func (.func 226) #[] #[]] (seg++R) fun r L'=> ∃seg',r= .t #[]/\L'=seg'++R/\Own v 3 eHl ((Aq2 HE.ep hs).flatMap HE.enc) seg':=by
  refine(c288 v v.len ⟨.func 226,#[],#[]⟩).c ?_;refine G7 (fun z' z L'=>z'=0/\z=(0,20,())/\L'=seg++R) 0 ⟨rfl,rfl,rfl⟩ ?_;rintro z' z _ ⟨rfl,rfl,rfl⟩;dsimp only;refine ifN (show¬((20:Int)<=v.len) by omega) ?_;have cH:=C39 v hs seg R own bX (by omega);rw[<-cR]at cH;refine S8 cH ?_;rintro _ _-⟨seg',rfl,rfl,own'⟩;refine⟨(),rfl,G7 (fun z' z L'=>z'=0/\z=(20,())/\L'=seg'++R) 0 ⟨rfl,rfl,rfl⟩ ?_⟩;rintro z' z _ ⟨rfl,rfl,rfl⟩;dsimp only;exact ifN (show¬((20:Int)<v.len) by omega) (.of ⟨seg',rfl,rfl,own'⟩)
 refine S8 key ?_;rintro _ _-⟨seg',rfl,rfl,own'⟩;exact⟨(),rfl,.of ⟨seg',rfl,rfl,own'⟩⟩
structure BP where
 v:SlV
 gs:List PG
 seg:A4
def BP.val(b:BP):Value:=.slice b.v.a b.v.len b.v.cap
def BP.all(b:BP):A4:=b.seg++pgs b.gs
def BP.ls(b:BP):List (List UInt8):=b.gs.map PG.l
structure BP.Ok(b:BP):Prop where
 own:Own b.v 1 tB (b.gs.map PG.val) b.seg
 ok: ∀g∈b.gs,g.Ok
 few:b.gs.length<=16
 small: ∀g∈b.gs,g.l.length<=512
def Af9(l:List BP):A4:=l.flatMap BP.all
theorem Bu5(a b:List BP):Af9 (a++b)=Af9 a++Af9 b:=Dt3
theorem Bu4(a:BP):Af9 [a]=a.all:=by simp[Af9]
theorem BP.Ok.parts{L Y:A4}{b:BP}(h:b.Ok)(hp:L.Perm (b.all++Y)):Z0 L b.v (pvs b.gs):=
 Dj4 h.own h.ok (Y:=Y) (hp.trans (pc fun z=>by simp only[BP.all,B4];omega))
theorem BP.Ok.bnd{b:BP}(h:b.Ok):(pvs b.gs).length<=1000000/\ ∀x∈pvs b.gs,x.2.length<=1000000:=by
 refine⟨by have:=h.few;simp[pvs];omega,fun x hx=>?_⟩;simp only[pvs,Dt4]at hx;obtain⟨g,hg,rfl⟩:=hx;have:=h.small g hg;simp only;omega
def Bn9(d:Dev)(b:Nat):Option HD:=if(Q3 (N8 d b).1).2 then some ((b:Int),(Q3 (N8 d b).1).1.1,(Q3 (N8 d b).1).1.2.2)else none
def A69(d:Dev)(n:Nat):List HD:=(List.range n).filterMap (Bn9 d)
def epK(h:HD):Int:=h.2.1
def H0(d:Dev):List HD:=Aq2 epK (A69 d d.c.B)
theorem Av5{d:Dev}{b:Nat}{x:HD}(h:Bn9 d b=some x):x.1=b/\(0<=x.2.1/\x.2.1<=1073741824)/\(∀y∈x.2.2,Ax2 y)/\x.2.2.Pairwise (fun a b=>a.2.1<b.2.1):=by
 unfold Bn9 at h;split at h
 ·obtain rfl:=Dq9 h;have h1:=Ch5 (N8 d b).1;exact⟨rfl,Cz4 _,h1.1,h1.2⟩
 ·cases h
theorem Ap0{d:Dev}{n:Nat}{x:HD}(h:x∈A69 d n): ∃b:Nat,b<n/\Bn9 d b=some x:=by
 unfold A69 at h;rw[D73]at h;obtain⟨b,hb,hx⟩:=h;exact⟨b,Dy9.1 hb,hx⟩
theorem A19(d:Dev)(n:Nat):A69 d (n+1)=A69 d n++(Bn9 d n).toList:=by
 unfold A69;rw[D41,Ee7];congr 1
theorem Ay0(d:Dev)(n:Nat):(A69 d n).length<=n:=by
 have:=D92 (Bn9 d) (List.range n);rw[D16]at this;exact this
structure S1(d:Dev)(lv:SlV)(hs:List HE)(aN:A4)(pv:SlV)(bs:List BP)(pseg:A4):Prop where
 own:Own lv 3 eHl (hs.flatMap HE.enc) aN
 ok: ∀h∈hs,h.Ok
 dat:hs.map HE.dat=H0 d
 pown:Own pv 1 tPs (bs.map BP.val) pseg
 pok: ∀b∈bs,b.Ok
 pdat:bs.map BP.ls=(List.range d.c.B).map fun(b:Nat)=>(N8 d b).1
def HoldK(d:Dev)(A:A4)(r:Value)(L':A4):Prop:= ∃(lv:SlV) (hs:List HE) (aN:A4) (pv:SlV) (bs:List BP) (pseg:A4),r= .t #[.slice lv.a lv.len lv.cap,.slice pv.a pv.len pv.cap,.i 0]/\
 L'=aN++(U4 hs++(pseg++(Af9 bs++A)))/\S1 d lv hs aN pv bs pseg
theorem C30{d:Dev}(ok:P6 d)(aK:d.down=false){b:Nat}(hb:b<d.c.B):(N8 d b).2=0:=by
 have hP:=ok.c.p;have hl:=ok.len;have:G9 d b 0=0:=by
  unfold G9;rw[Dq4 (by simp[aK]),Dq4 (by omega),Dq4 (by omega)]
 unfold N8;rw[Dq4 (by simp[this])]
theorem Dm4(m:Nat)(d:Dev)(A:A4)(h:FH m d A)(ok:P6 d)(aK:d.down=false):CallF PP 165 #[.p m] A (HoldK d A):=by
 refine(c165 (some m.z)).c ?_;have hB:=ok.c.b;refine B5 (Ar6 m d A h) ((d.c.B,d.c.P,d.c.S,d.c.W,()),()) rfl ?_;refine G7 (fun z' z L'=> ∃(i:Nat) (lv:SlV) (hs:List HE) (aN:A4) (pv:SlV) (bs:List BP) (pseg J:A4),i<=d.c.B/\z'=d.c.B-i/\z=(lv,pv,(i:Int),())/\L'.Perm (aN++(U4 hs++(pseg++(Af9 bs++(J++A)))))/\
   Own lv 3 eHl (hs.flatMap HE.enc) aN/\(∀h∈hs,h.Ok)/\hs.map HE.dat=A69 d i/\Own pv 1 tPs (bs.map BP.val) pseg/\(∀b∈bs,b.Ok)/\bs.map BP.ls=(List.range i).map fun(b:Nat)=>(N8 d b).1) d.c.B
  ⟨0,⟨none,0,0⟩,[],[],⟨none,0,0⟩,[],[],[],by omega,by omega,rfl,Dq8 _,F6,by simp,rfl,F6,by simp,rfl⟩ ?_
 rintro z' z L1 ⟨i,lv,hs,aN,pv,bs,pseg,J,hi,rfl,rfl,hp,own,aA,bL,pown,pok,pdat⟩;dsimp only;have dD:bs.length=i:=by have:=congrArg List.length pdat;rw[Dr1,Dr1,D16]at this;exact this
 have rQ:hs.length<=i:=by have:=congrArg List.length bL;rw[Dr1]at this;have h2:=Ay0 d i;omega
 have hlv:=own.sl.els_len HE.enc_len (by decide);have dX:=pown.sl.len;rw[Dr1]at dX;refine B6 (fun(hO:(i:Int)<d.c.B)=>?_) (fun(aS: ¬(i:Int)<d.c.B)=>?_)
 ·have hJ:i<d.c.B:=by omega
  refine G5 (Dl1 m d A h ok i) (R:=aN++(U4 hs++(pseg++(Af9 bs++J)))) (pc fun z=>by have:=pcn hp z;simp only[B4]at*;omega) ?_;rintro _ _ ⟨v,gs,seg,rfl,rfl,gown,gok,gl⟩;have jK:=C29 ok gl;have pC:BP.Ok ⟨v,gs,seg⟩:=⟨gown,gok,by simpa[pvs]using jK.1,fun g hg=>jK.2 (g.v,g.l) (Du6 (f:=fun g:PG=>(g.v,g.l)) hg)⟩;rw[C30 ok aK hJ];refine⟨_,Dq8 _,(v,0,()),rfl,ifT rfl ?_⟩;refine Am5 Do1 srcPPs pown (Y:=seg++(pgs gs++A)++(aN++(U4 hs++(Af9 bs++J)))) (ws:=[BP.val (⟨v,gs,seg⟩:BP)]) (pc fun z=>by simp only[B4];omega) rfl rfl (by omega) fun pv2 pseg2 lD pown2=>?_;refine S8 (Dh0 _ v (pvs gs) (pC.parts (b:=⟨v,gs,seg⟩) (Y:=pseg2++(A++(aN++(U4 hs++(Af9 bs++J))))) (pc fun z=>by simp only[BP.all,B4];omega)) pC.bnd.1 pC.bnd.2) ?_;rintro _ _-⟨w,wseg,rfl,rfl,wown⟩;have jW:(pvs gs).map Prod.snd=(N8 d i).1:=by rw[A23,gl]
  rw[jW]at wown⊢;have ca:(bs++[(⟨v,gs,seg⟩:BP)]).map BP.ls=(List.range (i+1)).map fun(b:Nat)=>(N8 d b).1:=by rw[Ds2,pdat,D41,Ds2,Dz5,Dz5];exact congrArg (fun t=>_++[t]) gl
  have tA: ∀b∈bs++[(⟨v,gs,seg⟩:BP)],BP.Ok b:=fun b hb=>by
   rcases Dr5.1 hb with hb|hb
   ·exact pok b hb
   ·rw[Dr2.1 hb];exact pC
  have bx:Own pv2 1 tPs ((bs++[(⟨v,gs,seg⟩:BP)]).map BP.val) pseg2:=by rw[Ds2];exact pown2
  refine⟨(((Q3 (N8 d i).1).1.1,(Q3 (N8 d i).1).1.2.1,w,()),(Q3 (N8 d i).1).2,()),rfl,G1 (fun(aJ:(Q3 (N8 d i).1).2=true)=>?_) (fun(aJ:(Q3 (N8 d i).1).2=false)=>?_)⟩
  ·have kY:Bn9 d i=some ((i:Int),(Q3 (N8 d i).1).1.1,(Q3 (N8 d i).1).1.2.2):=by unfold Bn9;rw[Dq5 aJ]
   refine Am5 elemHl srcHl own (Y:=wseg++(pseg2++(seg++(pgs gs++A)++((U4 hs++(Af9 bs++J)))))) (ws:=HE.enc ⟨i,(Q3 (N8 d i).1).1.1,w,wseg,(Q3 (N8 d i).1).1.2.2⟩) (pc fun z=>by simp only[B4];omega) rfl rfl (by omega) fun lv2 jB gK own2=>?_;refine D6 (by omega) ⟨d.c.B-(i+1),by omega,i+1,lv2,hs++[⟨i,(Q3 (N8 d i).1).1.1,w,wseg,(Q3 (N8 d i).1).1.2.2⟩],jB,pv2,bs++[(⟨v,gs,seg⟩:BP)],pseg2,J,by omega,rfl,rfl,?_,?_,?_,?_,bx,tA,ca⟩
   ·rw[Cp5,Cp4,Bu5,Bu4];exact pc fun z=>by simp only[BP.all,B4];omega
   ·rw[Dt3,Dx7];exact own2
   ·intro x hx;rcases Dr5.1 hx with hx|hx
    ·exact aA x hx
    ·rw[Dr2.1 hx];exact wown
   ·rw[A19,kY,Ds2,bL];rfl
  ·have kY:Bn9 d i=none:=by unfold Bn9;rw[Dq4 (by simp[aJ])]
   refine D6 (by omega) ⟨d.c.B-(i+1),by omega,i+1,lv,hs,aN,pv2,bs++[(⟨v,gs,seg⟩:BP)],pseg2,J++wseg,by omega,rfl,rfl,?_,own,aA,?_,bx,tA,ca⟩
   ·rw[Bu5,Bu4];exact pc fun z=>by simp only[BP.all,B4];omega
   ·rw[A19,kY,bL];simp
 ·obtain rfl:i=d.c.B:=by omega
  have bX: ∀x∈hs,0<=x.ep/\x.ep<=4294967296:=by
   intro x hx;have hm:x.dat∈A69 d d.c.B:=by rw[<-bL];exact Du6 hx
   obtain⟨b,-,hb⟩:=Ap0 hm;have h1:=(Av5 hb).2.1;have h2:x.dat.2.1=x.ep:=rfl;omega
  refine S8 (CallF.perm hp.symm (Cy1 lv hs aN (U4 hs++(pseg++(Af9 bs++(J++A)))) own bX (by omega))) ?_;rintro _ _-⟨jB,rfl,rfl,own2⟩;refine⟨(),rfl,.drop (A:=jB++(U4 (Aq2 HE.ep hs)++(pseg++(Af9 bs++A)))) (J:=J) ⟨lv,Aq2 HE.ep hs,jB,pv,bs,pseg,rfl,rfl,own2,fun x hx=>aA x ((O7 HE.ep hs).subset hx),?_,pown,pok,pdat⟩ ?_⟩
  ·rw[Co5 HE.ep HE.dat epK (fun _=>rfl),bL];rfl
  ·exact pc fun z=>by have:=A53 HE.seg (O7 HE.ep hs) z;simp only[U4,B4];omega
def Bk7(kind:Int)(h:HE)(l:List It):List (HE×It):=(l.filter fun x=>decide (x.1=kind)).map fun x=>(h,x)
def Bk8(kind:Int)(hs:List HE):List (HE×It):=hs.flatMap fun h=>Bk7 kind h h.l
theorem Ax7(kind:Int)(h:HE)(a b:List It):Bk7 kind h (a++b)=Bk7 kind h a++Bk7 kind h b:=by simp[Bk7]
theorem B31{kind:Int}{h:HE}{x:It}(e:x.1=kind):Bk7 kind h [x]=[(h,x)]:=by simp[Bk7,e]
theorem Dg3{kind:Int}{h:HE}{x:It}(e: ¬x.1=kind):Bk7 kind h [x]=[]:=by simp[Bk7,e]
theorem Bd6(kind:Int)(a b:List HE):Bk8 kind (a++b)=Bk8 kind a++Bk8 kind b:=Dt3
theorem B32(kind:Int)(h:HE):Bk8 kind [h]=Bk7 kind h h.l:=by simp[Bk8]
theorem B33{kind:Int}{hs:List HE}{q:HE×It}(h:q∈Bk8 kind hs):q.1∈hs/\q.2∈q.1.l/\q.2.1=kind:=by
 unfold Bk8 Bk7 at h;simp only[Dw7,Dt4,Dw5,Dy0]at h;obtain⟨a,ha,x,⟨hx,he⟩,rfl⟩:=h;exact⟨ha,hx,he⟩
theorem B25{α:Type}(l:List α){i:Nat}(hi:i<l.length):l=l.take i++l[i]::l.drop (i+1):=by
 rw[<-Dv1 hi,Dw1]
theorem Aa4{α:Type}(l:List α){i:Nat}(hi:i<l.length):l.take (i+1)=l.take i++[l[i]]:=by rw[Ds4 hi]
theorem Cs3(v:SlV)(hs:List HE)(kind:Int)(fn:FnV)(I:List (HE×It)->A4->Prop)(hC:hs.length<=1000000)(hb: ∀h∈hs,h.l.length<=1000000)
  (hI: ∀done L,I done L->Sl L v 3 (hs.flatMap HE.enc)/\ ∀h∈hs,Sl L h.v 3 (h.l.flatMap P8))
  (step: ∀(done rest:List (HE×It)) (h:HE) (x:It) (L:A4) (k:RsV []->HP),Bk8 kind hs=done++(h,x)::rest->I done L->(∀L',I (done++[(h,x)]) L'->k () L')->
   clv PP fn.fn (fn.first++#[.agg #[.i h.b,.i h.ep,.slice h.v.a h.v.len h.v.cap],.agg (ki3 x)]) fn.captured [] k L)
  {L:A4} (h0:I [] L):CallF PP 166 #[.slice v.a v.len v.cap,.i kind,.func fn.fn fn.first fn.captured] L fun r L'=>r= .t #[]/\I (Bk8 kind hs) L':=by
 refine(c166 v kind fn).c ?_;have cR:=(hI _ _ h0).1.els_len HE.enc_len (by decide);refine G7 (fun z' z L'=> ∃i:Nat,i<=hs.length/\z'=hs.length-i/\z=((i:Int),())/\I (Bk8 kind (hs.take i)) L') hs.length ⟨0,by omega,by omega,rfl,h0⟩ ?_;rintro z' z L1 ⟨i,hi,rfl,rfl,mV⟩;dsimp only;refine B6 (fun(hO:(i:Int)<v.len)=>?_) (fun(aS: ¬(i:Int)<v.len)=>?_)
 ·have hJ:i<hs.length:=by omega
  refine W5 HE.enc_len (by decide) (hI _ _ mV).1 rfl hJ fun a ha=>?_;have bY:hs[i]∈hs:=Dr7 hJ;have bj:=B25 hs hJ;have bW:=Aa4 hs hJ;generalize hs[i]=h at ha bY bj bW;refine A6 (h.b,h.ep,h.v,()) ha ?_;dsimp only;have rQ:=((hI _ _ mV).2 h bY).els_len E3 (by decide);have hhb:=hb h bY;refine G7 (fun z' z L'=> ∃j:Nat,j<=h.l.length/\z'=h.l.length-j/\z=((j:Int),())/\I (Bk8 kind (hs.take i)++Bk7 kind h (h.l.take j)) L') h.l.length ⟨0,by omega,by omega,rfl,by simpa[Bk7]using mV⟩ ?_;rintro z' z L2 ⟨j,hj,rfl,rfl,mL⟩;dsimp only;refine B6 (fun(lQ:(j:Int)<h.v.len)=>?_) (fun(jY: ¬(j:Int)<h.v.len)=>?_)
  ·have iX:j<h.l.length:=by omega
   refine W5 E3 (by decide) ((hI _ _ mL).2 h bY) rfl iX fun a2 bA=>?_;have sK:=B25 h.l iX;have jO:=Aa4 h.l iX;generalize h.l[j]=x at bA sK jO;refine A6 x bA (B6 (fun(hk:x.1=kind)=>?_) (fun(hk: ¬x.1=kind)=>?_))
   ·refine step (Bk8 kind (hs.take i)++Bk7 kind h (h.l.take j)) (Bk7 kind h (h.l.drop (j+1))++Bk8 kind (hs.drop (i+1))) h x L2 _ ?_ mL fun L' mK=>?_
    ·conv=>lhs;rw[bj]
     rw[Bd6,show h::hs.drop (i+1)=[h]++hs.drop (i+1)from rfl,Bd6,B32];conv=>lhs;rw[sK]
     rw[Ax7,show x::h.l.drop (j+1)=[x]++h.l.drop (j+1)from rfl,Ax7,B31 hk];simp[Ds5]
    ·refine D6 (by omega) ⟨h.l.length-(j+1),by omega,j+1,by omega,rfl,rfl,?_⟩;rw[jO,Ax7,B31 hk,<-Ds5];exact mK
   ·refine D6 (by omega) ⟨h.l.length-(j+1),by omega,j+1,by omega,rfl,rfl,?_⟩;rw[jO,Ax7,Dg3 hk,Dr3];exact mL
  ·obtain rfl:j=h.l.length:=by omega
   refine D6 (by omega) ⟨hs.length-(i+1),by omega,i+1,by omega,rfl,rfl,?_⟩;rw[bW,Bd6,B32];rw[Ds9]at mL;exact mL
 ·obtain rfl:i=hs.length:=by omega
  rw[Ds9]at mV;exact .of ⟨rfl,mV⟩
abbrev LE:=ByteArray×It
def LE.enc(x:LE):List Value:=[.w x.1,.i x.2.1,.i x.2.2.1,.i x.2.2.2.1]
theorem LE.enc_len(x:LE):(LE.enc x).length=4:=rfl
def Ak2(l:List UInt8):ByteArray:=⟨l.toArray⟩
def Ck3(h:HD)(x:It):It:=(h.1,x.2.1,h.2.1,())
def Y0(d:Dev)(q:HD×It):Option LE:=if(A9 d (Ck3 q.1 q.2)).2.2=0 then some (Ak2 (A9 d (Ck3 q.1 q.2)).1,Ck3 q.1 q.2)else none
def Ai2(d:Dev)(q:HD×It):List It:=(Am0 (N8 d q.1.1).1 q.2).flatMap fun b=>(Ae1 b).1
def Dd2(q:HE×It):HD×It:=(q.1.dat,q.2)
abbrev eLv:TypeId:=162
theorem Dd0:V4 PP 144 eLv 4 40 [.w ⟨#[]⟩,.i 0,.i 0,.i 0]:=N3 (by kernel_rfl) (by kernel_rfl) rfl (by decide) (by decide)
theorem srcLv:Ax5 PP 144:=.inl ⟨eLv,by kernel_rfl⟩
def plV(p:It):Value:=.agg (ki3 p)
theorem mapL:Cv5 PP 246 9 102 Value.w (plV (0,0,0,())):=Bg3 (by kernel_rfl) (Dc1 (by kernel_rfl)) (by kernel_rfl)
theorem Cs0(x y:It):B05 PP 100 A70 (P8 x) (P8 y)=some (decide (x=y)):=by
 have h:B05 PP 100 A70 [.i x.1,.i x.2.1,.i x.2.2.1] [.i y.1,.i y.2.1,.i y.2.2.1]=some (x.1==y.1&&(x.2.1==y.2.1&&(x.2.2.1==y.2.2.1&&true))):=by kernel_rfl
 unfold P8;rw[h];clear h;refine congrArg some ?_;obtain⟨a,b,c,⟨⟩⟩:=x;obtain⟨a',b',c',⟨⟩⟩:=y;rw[D85];simp
theorem Dh2(a:It):Instr.sameBits 10000 (plV a) (plV a)=true:=by
 have h: ∀n,Instr.sameBits (n+1) (plV a) (plV a)=true:=by intro n;simp[plV,Instr.sameBits]
 have h2:=h 9999;rw[show 9999+1=10000 from rfl]at h2;exact h2
theorem mapK:Cv5 PP 249 102 4 plV (.b false):=Bg3 (by kernel_rfl) (Cn4 P8 (fun _=>rfl) C94 Cs0 Dh2) (by kernel_rfl)
def Bz4(l:List LE):List (ByteArray×Value):=l.foldl (fun m x=>A79 m x.1 (plV x.2)) []
def Cb9(l:List It):List (It×Value):=l.foldl (fun m p=>A79 m p (.b true)) []
theorem Ba4(l:List LE)(x:LE):Bz4 (l++[x])=A79 (Bz4 l) x.1 (plV x.2):=by simp[Bz4]
theorem Ba5(l:List It)(x:It):Cb9 (l++[x])=A79 (Cb9 l) x (.b true):=by simp[Cb9]
def I1(n6 n7:Nat)(F:A4)(all:List LE)(L:A4):Prop:= ∃(av:SlV) (aseg:A4) (es:Array MapEntry) (ck:Nat) (J:A4),L.Perm ((n6,Obj.cells #[.slice av.a av.len av.cap] 144)::((n7,Obj.map es ck)::(aseg++(J++F))))/\
 Own av 4 eLv (all.flatMap LE.enc) aseg/\Mp Value.w es (Bz4 all)
theorem I1.sub{n6 n7:Nat}{F:A4}{all:List LE}{L:A4}(h:I1 n6 n7 F all L): ∀x∈F,x∈L:=by
 obtain⟨av,aseg,es,ck,J,hL,-⟩:=h;exact fun x hx=>hL.symm.subset (by simp[hx])
theorem C00(m:Nat)(d:Dev)(A:A4)(h:FH m d A)(ok:P6 d)(n1 n6 n7 n8:Nat)(T1:TypeId)(R F:A4)(hF:F.Perm (A++R))(h1:(n1,Obj.cells #[.q (some m.z)] T1)∈F)(h8:(n8,Obj.cells #[.map (some n7)] 246)∈F)
  (all:List LE) (cE:all.length<=1000000) (he:HE) (x:It) (hx:Ax2 x) (L:A4) (hL:I1 n6 n7 F all L):
  CallF PP 167 #[.agg #[.i he.b,.i he.ep,.slice he.v.a he.v.len he.v.cap],.agg (ki3 x),.p n1,.p n6,.p n8] L
   fun r L'=>r= .t #[]/\I1 n6 n7 F (all++(Y0 d (he.dat,x)).toList) L':=by
 refine(c167 (he.b,he.ep,he.v,()) x (some n1.z) (some n6.z) (some n8.z)).c ?_;dsimp only;have aX:=hx;unfold Ax2 at aX;have aW:Ck3 he.dat x=(he.b,x.2.1,he.ep,()):=rfl;refine A5 rfl (A6 (some m.z) (ldB (hL.sub _ h1) rfl) ?_);have hL0:=hL;obtain⟨av,aseg,es,ck,J,hp,own,hm⟩:=hL;have fN:=Bi5 m d A h ok (Ck3 he.dat x) (Bd3 (by rw[aW];simp only;omega));refine G5 (R:=(n6,Obj.cells #[.slice av.a av.len av.cap] 144)::((n7,Obj.map es ck)::(aseg++(J++R)))) fN (pc fun z=>by have:=pcn hp z;have:=pcn hF z;simp only[B4,C5]at*;omega) ?_;rintro _ _ ⟨g,rfl,rfl,hg,dL⟩;generalize hq:A9 d (Ck3 he.dat x)=q;have mV:I1 n6 n7 F all (g.seg++A++((n6,Obj.cells #[.slice av.a av.len av.cap] 144)::((n7,Obj.map es ck)::(aseg++(J++R))))):=
  ⟨av,aseg,es,ck,g.seg++J,pc fun z=>by have:=pcn hF z;simp only[B4,C5]at*;omega,own,hm⟩
 refine⟨_,Dq8 _,(Ak2 q.1,g.v,q.2.2,()),rfl,B6 (fun(h0:q.2.2=0)=>?_) (fun(h0: ¬q.2.2=0)=>?_)⟩
 ·have gV:Y0 d (he.dat,x)=some (Ak2 q.1,Ck3 he.dat x):=by unfold Y0;simp only;rw[hq,Dq5 h0]
  rw[gV];obtain⟨av,aseg,es,ck,J,hp,own,hm⟩:=mV;have hl:=own.sl.els_len LE.enc_len (by decide);refine A5 rfl (A6 av (ldB (hp.symm.subset Dq7) rfl) ?_);refine Am5 Dd0 srcLv own (Y:=(n6,Obj.cells #[.slice av.a av.len av.cap] 144)::((n7,Obj.map es ck)::(J++F))) (ws:=LE.enc (Ak2 q.1,Ck3 he.dat x)) (pc fun z=>by have:=pcn hp z;simp only[B4,C5]at*;omega) rfl rfl (by omega) fun av2 aseg2 gK own2=>?_;refine B97 (n:=n6) (off:=0) (c:=#[.slice av.a av.len av.cap]) (T:=144) (fz:=(0,0)) (Y:=(n7,Obj.map es ck)::(aseg2++(J++F))) (pc fun z=>by simp only[B4,C5];omega) rfl (by simp) (.inl (Dq6 _)) #[.slice av2.a av2.len av2.cap] rfl fun L2 aH=>?_;refine A5 rfl (A6 (some n7) (ldB (c:=#[.map (some n7)]) (T:=246) (fz:=(0,0)) (aH.symm.subset (by simp[h8])) rfl) ?_);refine Ao3 mapL (es:=es) (clock:=ck) (Y:=(n6,Obj.cells #[.slice av2.a av2.len av2.cap] 144)::(aseg2++(J++F))) (pc fun z=>by have:=pcn aH z;simp only[B4,C5]at*;omega) hm (Ak2 q.1) (plV (Ck3 he.dat x)) fun es2 ck2 L3 eR aZ=>?_;refine .of ⟨rfl,av2,aseg2,es2,ck2,J,pc fun z=>by have:=pcn aZ z;simp only[B4,C5]at*;omega,?_,?_⟩
  ·rw[D93,Dt3,Dx7];exact own2
  ·rw[D93,Ba4];exact eR
 ·have gV:Y0 d (he.dat,x)=none:=by unfold Y0;simp only;rw[hq,Dq4 h0]
  rw[gV,Option.toList_none,Dr3];exact .of ⟨rfl,mV⟩
def I2(n9:Nat)(F:A4)(ks:List It)(L:A4):Prop:= ∃(es:Array MapEntry) (ck:Nat) (J:A4),L.Perm ((n9,Obj.map es ck)::(J++F))/\Mp plV es (Cb9 ks)
theorem I2.sub{n9:Nat}{F:A4}{ks:List It}{L:A4}(h:I2 n9 F ks L): ∀x∈F,x∈L:=by
 obtain⟨es,ck,J,hL,-⟩:=h;exact fun x hx=>hL.symm.subset (by simp[hx])
theorem I2.more{n9:Nat}{F X:A4}{ks:List It}{L L':A4}(h:I2 n9 F ks L)(hp:L'.Perm (X++L)):I2 n9 (X++F) ks L':=by
 obtain⟨es,ck,J,hL,hm⟩:=h;exact⟨es,ck,J,pc fun z=>by have:=pcn hL z;have:=pcn hp z;simp only[B4,C5]at*;omega,hm⟩
theorem I2.less{n9:Nat}{F X:A4}{ks:List It}{L:A4}(h:I2 n9 (X++F) ks L):I2 n9 F ks L:=by
 obtain⟨es,ck,J,hL,hm⟩:=h;exact⟨es,ck,J++X,pc fun z=>by have:=pcn hL z;simp only[B4,C5]at*;omega,hm⟩
theorem Cb8(p:List UInt8):(Ae1 p).1.length<=p.length:=by
 unfold Ae1;split
 ·simp
 ·split
  ·simp only[Ck2];omega
  ·simp
theorem Ba0{ps:List (List UInt8)}(hb: ∀x∈ps,x.length<=512){pg:Int}: ∀{n:Nat} {l:List (List UInt8)},T7 ps pg n=some l-> ∀x∈l,x.length<=512
 |0,l,h=>by obtain rfl:=Dq9 h;simp
 |n+1,l,h=>by
  rw[T7]at h;split at h
  ·rename_i l' bZ;split at h
   ·cases h
   ·split at h
    ·obtain rfl:=Dq9 h;intro x hx;rcases Dr5.1 hx with hx|hx
     ·exact Ba0 hb bZ x hx
     ·rw[Dr2.1 hx];refine Dt1 (Ay2 _) ?_;rw[Dt0];cases hg:ps[pg.toNat+n]? with
      |none=>simp
      |some b=>exact hb b (Dx2 hg)
    ·cases h
  ·cases h
theorem Cb3{ps:List (List UInt8)}(hb: ∀x∈ps,x.length<=512)(x:It):(Am0 ps x).length<=x.2.2.1.toNat/\ ∀p∈Am0 ps x,p.length<=512:=by
 unfold Am0;cases h:T7 ps x.2.1 x.2.2.1.toNat with
 |none=>simp
 |some l=>exact⟨by simp[(At3 h).1],Ba0 hb h⟩
theorem Cz9(d:Dev)(n3 n9 n10:Nat)(F pseg:A4)(pv:SlV)(bs:List BP)(pown:Own pv 1 tPs (bs.map BP.val) pseg)(pok: ∀b∈bs,b.Ok)(pdat:bs.map BP.ls=(List.range d.c.B).map fun(b:Nat)=>(N8 d b).1)
  (hpF: ∀x∈pseg,x∈F) (hbF: ∀x∈Af9 bs,x∈F) (h3:(n3,Obj.cells #[.slice pv.a pv.len pv.cap] 243)∈F) (h10:(n10,Obj.cells #[.map (some n9)] 249)∈F)
  (ks:List It) (he:HE) (b:Nat) (hb:he.b=b) (wN:b<d.c.B) (x:It) (hx:Ax2 x) (L:A4) (hL:I2 n9 F ks L):
  CallF PP 168 #[.agg #[.i he.b,.i he.ep,.slice he.v.a he.v.len he.v.cap],.agg (ki3 x),.p n3,.p n10] L
   fun r L'=>r= .t #[]/\I2 n9 F (ks++Ai2 d (he.dat,x)) L':=by
 refine(c168 (he.b,he.ep,he.v,()) x (some n3.z) (some n10.z)).c ?_;dsimp only;have aX:=hx;unfold Ax2 at aX;have dD:bs.length=d.c.B:=by have:=congrArg List.length pdat;rw[Dr1,Dr1,D16]at this;exact this
 have hi:b<bs.length:=by omega
 refine A5 rfl (A6 pv (ldB (hL.sub _ h3) rfl) ?_);refine C68 (pown.sl.mono fun y hy=>hL.sub _ (hpF y hy)) hb (by rw[Dr1];exact hi) fun a ha=>?_;rw[D07]at ha;have zP:bs[b]∈bs:=Dr7 hi;have jW:bs[b].ls=(N8 d b).1:=by
  have h1:(bs.map BP.ls)[b]?=some bs[b].ls:=by rw[Du3,Dr9 hi];rfl
  rw[pdat,Du3,Ee8 wN]at h1;exact(Dq9 h1).symm
 generalize bs[b]=q at ha zP jW;have hq:=pok q zP;have bu: ∀y∈q.all,y∈F:=fun y hy=>hbF y (Dw7.2 ⟨q,zP,hy⟩);have hqp:Z0 L q.v (pvs q.gs):=Bf0 hq.own hq.ok (fun y hy=>hL.sub _ (bu y (Ds8 _ hy))) (fun y hy=>hL.sub _ (bu y (Du2 _ hy)));refine A6 q.v ha (S8 (Bx6 L q.v (pvs q.gs) hqp hq.bnd.1 hq.bnd.2 x ⟨Bd3 (by omega),Bd3 (by omega)⟩) ?_);rintro _ _-⟨v2,gs2,seg2,rfl,rfl,own2,ok2,l2⟩;have bT:(pvs q.gs).map Prod.snd=(N8 d b).1:=by rw[A23];exact jW
 rw[bT]at l2;have hko:Ai2 d (he.dat,x)=gs2.flatMap fun g=>(Ae1 g.l).1:=by
  unfold Ai2;show(Am0 (N8 d he.b).1 x).flatMap _=_;rw[hb,<-l2,List.flatMap_map]
 have pW:=Cb3 (ps:=(N8 d b).1) (by
  intro y hy;rw[<-jW]at hy;unfold BP.ls at hy;simp only[Dt4]at hy;obtain⟨g,hg,rfl⟩:=hy;exact hq.small g hg) x
 rw[<-l2,Dr1]at pW;have cR:=own2.sl.len;rw[Dr1]at cR;refine⟨(v2,()),rfl,?_⟩;dsimp only;refine G7 (fun z' z L'=> ∃i:Nat,i<=gs2.length/\z'=gs2.length-i/\z=((i:Int),())/\I2 n9 ((seg2++pgs gs2)++F) (ks++(gs2.take i).flatMap fun g=>(Ae1 g.l).1) L') gs2.length
  ⟨0,by omega,by omega,rfl,by simpa using hL.more (X:=seg2++pgs gs2) (pc fun z=>by simp only[B4];omega)⟩ ?_
 rintro z' z L2 ⟨i,eV,rfl,rfl,mL⟩;dsimp only;refine B6 (fun(hO:(i:Int)<v2.len)=>?_) (fun(aS: ¬(i:Int)<v2.len)=>?_)
 ·have hJ:i<gs2.length:=by omega
  refine C68 (own2.sl.mono fun y hy=>mL.sub _ (by simp[hy])) rfl (by rw[Dr1];exact hJ) fun a2 bA=>?_;rw[D07]at bA;have qK:gs2[i]∈gs2:=Dr7 hJ;have bW:=Aa4 gs2 hJ;generalize gs2[i]=g at bA qK bW;have dL:g.l.length<=512:=pW.2 _ (Du6 qK);have yP:=Cb8 g.l;refine A6 g.v bA (S8 (C35 L2 g.v g.l (Sl.mono (ok2 g qK).sl fun y hy=>mL.sub _ (by simp only[Dr5];exact .inl (.inr (Dw7.2 ⟨g,qK,hy⟩)))) (by omega)) ?_);rintro _ _-⟨kv,kseg,rfl,rfl,kown⟩;generalize hkr:Ae1 g.l=kr at kown yP;have hkvl:=kown.sl.els_len E3 (by decide);refine⟨(kv,kr.2,()),rfl,?_⟩;dsimp only;refine G7 (fun z' z L'=> ∃j:Nat,j<=kr.1.length/\z'=kr.1.length-j/\z=((j:Int),())/\I2 n9 (kseg++((seg2++pgs gs2)++F)) ((ks++(gs2.take i).flatMap fun g=>(Ae1 g.l).1)++kr.1.take j) L') kr.1.length
   ⟨0,by omega,by omega,rfl,by simpa using mL.more (X:=kseg) (Dq8 _)⟩ ?_
  rintro z' z L3 ⟨j,hj,rfl,rfl,mK⟩;dsimp only;refine B6 (fun(lQ:(j:Int)<kv.len)=>?_) (fun(jY: ¬(j:Int)<kv.len)=>?_)
  ·have iX:j<kr.1.length:=by omega
   refine W5 E3 (by decide) (kown.sl.mono fun y hy=>mK.sub _ (by simp[hy])) rfl iX fun a3 jN=>?_;have jO:=Aa4 kr.1 iX;generalize kr.1[j]=p at jN jO;refine A6 p jN (A5 rfl (A6 (some n9) (ldB (c:=#[.map (some n9)]) (T:=249) (fz:=(0,0)) (mK.sub _ (by simp[h10])) rfl) ?_));obtain⟨es,ck,J,aZ,lP⟩:=mK;refine Ao3 mapK aZ lP p (.b true) fun es2 ck2 L4 yJ dB=>?_;refine D6 (by omega) ⟨kr.1.length-(j+1),by omega,j+1,by omega,rfl,rfl,es2,ck2,J,dB,?_⟩;rw[jO,<-Ds5,Ba5];exact yJ
  ·obtain rfl:j=kr.1.length:=by omega
   rw[Ds9]at mK;refine D6 (by omega) ⟨gs2.length-(i+1),by omega,i+1,by omega,rfl,rfl,?_⟩;rw[bW,Dt3,Dx7,hkr,<-Ds5];exact mK.less
 ·obtain rfl:i=gs2.length:=by omega
  rw[Ds9,<-hko]at mL;exact .of ⟨rfl,mL.less⟩
def S6(l:List LE)(k:ByteArray):Option It:=(l.reverse.find? fun x=>decide (x.1=k)).map Prod.snd
theorem Bz3(l:List LE)(x:LE)(k:ByteArray):S6 (l++[x]) k=if k=x.1 then some x.2 else S6 l k:=by
 unfold S6;rw[Ee6,List.reverse_singleton,List.singleton_append];by_cases h:k=x.1
 ·rw[Dq5 h,D39 (by simp[h])];rfl
 ·rw[Dq4 h,D53 (by simpa using fun e=>h e.symm)]
theorem Bq5(l:List LE)(k:ByteArray):A36 (Bz4 l) k=(S6 l k).map plV/\((Bz4 l).map Prod.fst).Nodup:=by
 obtain⟨r,rfl⟩: ∃r,l=r.reverse:=⟨l.reverse,by simp⟩;induction r with
 |nil=>exact⟨rfl,D32⟩
 |cons x r ih=>
  rw[Ec4,Ba4,Bz3];refine⟨?_,(Bp9 _ _ _ ih.2).1⟩;rw[A35,ih.1];split<;>rfl
theorem Cn3(l:List It)(p:It):A36 (Cb9 l) p=if p∈l then some (.b true)else none:=by
 obtain⟨r,rfl⟩: ∃r,l=r.reverse:=⟨l.reverse,by simp⟩;induction r with
 |nil=>rfl
 |cons x r ih=>
  rw[Ec4,Ba5,A35,ih];by_cases h:p=x
  ·simp[h]
  ·simp[h]
theorem Ba3{l:List LE}{x:LE}(h:x∈l): ∃p,S6 l x.1=some p:=by
 unfold S6;cases hf:l.reverse.find? fun y=>decide (y.1=x.1)with
 |some y=>exact⟨y.2,rfl⟩
 |none=>
  rw[D18]at hf;exact(hf x (by simpa using h) (by simp)).elim
def liveR(l:List LE)(ks:List It):List LE:=l.filter fun x=>decide (S6 l x.1=some x.2/\x.2∉ks)
def Bw9(kind:Int)(l:List HD):List (HD×It):=l.flatMap fun h=>(h.2.2.filter fun x=>decide (x.1=kind)).map fun x=>(h,x)
def Cv2(d:Dev)(l:List HD):List LE:=(Bw9 2 l).filterMap (Y0 d)
def allK(d:Dev)(l:List HD):List It:=(Bw9 3 l).flatMap (Ai2 d)
def R7(d:Dev):List LE:=liveR (Cv2 d (H0 d)) (allK d (H0 d))
def Bg1(l:List HD):Int:=l.foldl (fun a h=>Aa2 a h.2.1) 0
theorem Bw8(kind:Int)(hs:List HE):(Bk8 kind hs).map Dd2=Bw9 kind (hs.map HE.dat):=by
 unfold Bk8 Bw9 Bk7;rw[List.map_flatMap,List.flatMap_map];congr 1;funext h;rw[Dv2];rfl
theorem Cm5(l:List HD)(h:HD):Bg1 (l++[h])=Aa2 (Bg1 l) h.2.1:=by simp[Bg1]
theorem eqPlc{L:A4}(x y:It){k:ShV (.lf .bool)->HP}(hk:k (decide (x=y)) L):
  smP PP (binOp .eql A70 (.agg (ki3 x)) (.agg (ki3 y))) (.lf .bool) k L:=
 Dc9 (r:=decide (x=y)) C94 (Cs0 x y) hk
theorem By4: ∀(l:List It) (a:Int),(∀x∈l,a<=x.2.1/\x.2.1<=255)->l.Pairwise (fun x y=>x.2.1<y.2.1)->a<=256->(l.length:Int)<=256-a
 |[],a,_,_,ha=>by simp;omega
 |x::r,a,h,hp,ha=>by
  rw[Dy6]at hp;have h1:=h x (by simp);have h2:=By4 r (x.2.1+1) (fun y hy=>⟨by have:=hp.1 y hy;omega,(h y (by simp[hy])).2⟩) hp.2 (by omega);simp only[Dr8];omega
structure Fnd(d:Dev)(lv:SlV)(hs:List HE)(aN:A4)(vv:SlV)(vseg:A4):Prop where
 own:Own lv 3 eHl (hs.flatMap HE.enc) aN
 ok: ∀h∈hs,h.Ok
 dat:hs.map HE.dat=H0 d
 vown:Own vv 4 eLv ((R7 d).flatMap LE.enc) vseg
def FndK(d:Dev)(A:A4)(r:Value)(L':A4):Prop:= ∃(lv:SlV) (hs:List HE) (aN:A4) (vv:SlV) (vseg:A4),
 r= .t #[.agg #[.slice lv.a lv.len lv.cap,.slice vv.a vv.len vv.cap,.i (Bg1 (H0 d))],.i 0]/\L'=aN++(U4 hs++(vseg++A))/\Fnd d lv hs aN vv vseg
theorem Ci7(m:Nat)(d:Dev)(A:A4)(h:FH m d A)(aK:d.down=true):CallF PP 95 #[.p m] A fun r L'=>r= .t #[.agg #[.slice none 0 0,.slice none 0 0,.i 0],.i 11]/\L'=A:=by
 refine(c95 (some m.z)).c ?_;refine C4 fun n1 _=>A6 (some m.z) (ldB Dq7 rfl) (ifF rfl (A6 (some m.z) (ldB Dq7 rfl) ?_));refine G5 (R:=[(n1,Obj.cells #[.q (some m.z)] 29)]) (B07 m d A h) (pc fun z=>by simp only[B4,C5,D5];omega) ?_;rintro _ A' ⟨rfl,cM⟩;rw[cM];refine⟨_,Dq8 _,(d.down,()),rfl,ifT aK ?_⟩;exact .drop (A:=A) (J:=[(n1,Obj.cells #[.q (some m.z)] 29)]) ⟨rfl,rfl⟩ (pc fun z=>by simp only[B4,C5,D5])
theorem Bh6{d:Dev}{x:HD}(h:x∈H0 d): ∃b:Nat,b<d.c.B/\Bn9 d b=some x:=Ap0 ((O7 epK _).subset h)
theorem Cp6{d:Dev}{hs:List HE}(bL:hs.map HE.dat=H0 d){h:HE}(hm:h∈hs):(∃b:Nat,h.b=b/\b<d.c.B)/\(0<=h.ep/\h.ep<=1073741824)/\(∀y∈h.l,Ax2 y)/\h.l.Pairwise (fun a b=>a.2.1<b.2.1)/\h.l.length<=255:=by
 have h1:h.dat∈H0 d:=by rw[<-bL];exact Du6 hm
 obtain⟨b,hb,h2⟩:=Bh6 h1;obtain⟨e1,e2,e3,e4⟩:=Av5 h2;refine⟨⟨b,e1,hb⟩,e2,e3,e4,?_⟩;have:=By4 h.l 1 (fun y hy=>⟨(e3 y hy).1,(e3 y hy).2.1⟩) e4 (by omega);omega
theorem Cy9(kind:Int)(hs:List HE)(h: ∀x∈hs,x.l.length<=255):(Bk8 kind hs).length<=hs.length*255:=by
 induction hs with
 |nil=>simp[Bk8]
 |cons a r ih=>
  have h1:=ih fun x hx=>h x (by simp[hx]);have h2:=h a (by simp);have h3:(Bk7 kind a a.l).length<=a.l.length:=by unfold Bk7;rw[Dr1];exact Dz7 _ _
  unfold Bk8 at h1⊢;rw[Du1,Dr4,Dr8];omega
def Ce0(all:List LE)(ks:List It)(i:Nat)(k:ByteArray):Option Value:=
 if(∃x∈all.take i,x.1=k)/\(∃p,S6 all k=some p/\p∈ks)then none else(S6 all k).map plV
theorem gone_0(all:List LE)(ks:List It)(k:ByteArray):Ce0 all ks 0 k=(S6 all k).map plV:=by
 unfold Ce0;rw[Dq4];rintro⟨⟨x,hx,-⟩,-⟩;simp at hx
theorem C56{all:List LE}{ks:List It}{i:Nat}(hi:i<all.length): ∃p,S6 all all[i].1=some p/\(Ce0 all ks i all[i].1=none/\p∈ks\/Ce0 all ks i all[i].1=some (plV p)):=by
 obtain⟨p,hp⟩:=Ba3 (Dr7 hi);refine⟨p,hp,?_⟩;unfold Ce0;split
 ·rename_i hc;obtain⟨-,p',dO,hk⟩:=hc;rw[hp]at dO;obtain rfl:=Dq9 dO;exact .inl ⟨rfl,hk⟩
 ·rw[hp];exact .inr rfl
theorem Cq1{all:List LE}{ks:List It}{i:Nat}(hi:i<all.length){p:It}(hp:S6 all all[i].1=some p)(k:ByteArray):
  Ce0 all ks (i+1) k=if k=all[i].1/\p∈ks then none else Ce0 all ks i k:=by
 have bW:=Aa4 all hi;generalize all[i]=x at hp bW;unfold Ce0;rw[bW];by_cases h1:k=x.1
 ·subst h1;by_cases h2:p∈ks
  ·rw[Dq5 ⟨⟨x,by simp,rfl⟩,p,hp,h2⟩,Dq5 ⟨rfl,h2⟩]
  ·have bF: ¬ ∃p',S6 all x.1=some p'/\p'∈ks:=by
    rintro⟨p',h3,h4⟩;rw[hp]at h3;obtain rfl:=Dq9 h3;exact h2 h4
   rw[Dq4 (fun h=>bF h.2),Dq4 (fun h=>h2 h.2),Dq4 (fun h=>bF h.2)]
 ·rw[Dq4 (show¬(k=x.1/\p∈ks)from fun h=>h1 h.1)];have:(∃y∈all.take i++[x],y.1=k)↔ ∃y∈all.take i,y.1=k:=by
   constructor
   ·rintro⟨y,hy,he⟩;rcases Dr5.1 hy with hy|hy
    ·exact⟨y,hy,he⟩
    ·rw[Dr2.1 hy]at he;exact absurd he.symm h1
   ·rintro⟨y,hy,he⟩;exact⟨y,by simp[hy],he⟩
  by_cases hc:(∃y∈all.take i,y.1=k)/\ ∃p,S6 all k=some p/\p∈ks
  ·rw[Dq5 ⟨this.2 hc.1,hc.2⟩,Dq5 hc]
  ·rw[Dq4 (fun h=>hc ⟨this.1 h.1,h.2⟩),Dq4 hc]
theorem C57{all:List LE}{ks:List It}{x:LE}(hx:x∈all){p:It}(hp:S6 all x.1=some p):Ce0 all ks all.length x.1=if p∈ks then none else some (plV p):=by
 unfold Ce0;rw[Ds9];by_cases h:p∈ks
 ·rw[Dq5 ⟨⟨x,hx,rfl⟩,p,hp,h⟩,Dq5 h]
 ·rw[Dq4,Dq4 h,hp]
  ·rfl
  ·rintro⟨-,p',h3,h4⟩;rw[hp]at h3;obtain rfl:=Dq9 h3;exact h h4
theorem filt1{α:Type}(p:α->Bool)(x:α):[x].filter p=if p x=true then[x]else[]:=by cases h:p x<;>simp[h]
theorem Cz8(m:Nat)(d:Dev)(A:A4)(h:FH m d A)(ok:P6 d)(aK:d.down=false):CallF PP 95 #[.p m] A (FndK d A):=by
 refine(c95 (some m.z)).c ?_;have hB:=ok.c.b;refine C4 fun n1 _=>?_;obtain⟨c1,dV⟩: ∃c1:Nat×Obj,c1=(n1,Obj.cells #[.q (some m.z)] 29):=⟨_,rfl⟩;rw[<-dV];have l1: ∀L:A4,c1∈L->C9 n1.z [.p m] L:=fun L hm=>ldB (by rw[dV]at hm;exact hm) rfl;refine A6 (some m.z) (l1 _ Dq7) (ifF rfl (A6 (some m.z) (l1 _ Dq7) ?_));refine G5 (R:=[c1]) (B07 m d A h) (pc fun z=>by simp only[B4,C5,D5];omega) ?_;rintro _ A' ⟨rfl,cM⟩;rw[cM];refine⟨_,Dq8 _,(d.down,()),rfl,ifF aK (A6 (some m.z) (l1 _ (by simp)) ?_)⟩;refine G5 (Dm4 m d A h ok aK) (Dq8 _) ?_;rintro _ _ ⟨lv,hs,aN,pv,bs,pseg,rfl,rfl,H⟩;refine⟨_,Dq8 _,(lv,pv,0,()),rfl,C4 fun n3 _=>?_⟩;obtain⟨own,aA,bL,pown,pok,pdat⟩:=H;refine B97 (n:=n3) (off:=0) (c:=#[.slice none 0 0]) (T:=243) (fz:=(0,0)) (Y:=c1::(aN++(U4 hs++(pseg++(Af9 bs++A))))) (pc fun z=>by simp only[B4,C5,D5];omega) rfl (by simp) (.inl (Dq6 _)) #[.slice pv.a pv.len pv.cap] rfl fun L1 aL=>?_;refine ifT rfl ?_;have cR:=own.sl.els_len HE.enc_len (by decide);have rQ:hs.length<=16:=by
  have h1:=congrArg List.length bL;rw[Dr1]at h1;have h2:=(O7 epK (A69 d d.c.B)).length_eq;have h3:=Ay0 d d.c.B;unfold H0 at h1;omega
 obtain⟨F0,nW⟩: ∃F0:A4,F0=(n3,Obj.cells #[.slice pv.a pv.len pv.cap] 243)::(c1::(aN++(U4 hs++(pseg++(Af9 bs++A))))):=⟨_,rfl⟩;have lG:L1.Perm F0:=by rw[nW];exact aL
 have f3:(n3,Obj.cells #[.slice pv.a pv.len pv.cap] 243)∈F0:=by rw[nW];simp
 have f1:c1∈F0:=by rw[nW];simp
 have fh: ∀x∈aN,x∈F0:=fun x hx=>by rw[nW];simp[hx]
 have fhs: ∀x∈U4 hs,x∈F0:=fun x hx=>by rw[nW];simp[hx]
 have fp: ∀x∈pseg,x∈F0:=fun x hx=>by rw[nW];simp[hx]
 have fb: ∀x∈Af9 bs,x∈F0:=fun x hx=>by rw[nW];simp[hx]
 have slF: ∀L:A4,(∀x∈F0,x∈L)->Sl L lv 3 (hs.flatMap HE.enc)/\ ∀h∈hs,Sl L h.v 3 (h.l.flatMap P8):=fun L hL=>
  ⟨own.sl.mono fun x hx=>hL x (fh x hx),fun h hh=>Sl.mono (Own.sl (aA h hh)) fun x hx=>hL x (fhs x (Dw7.2 ⟨h,hh,hx⟩))⟩
 refine G7 (fun z' z L'=> ∃i:Nat,i<=hs.length/\z'=hs.length-i/\z=((i:Int),Bg1 ((hs.take i).map HE.dat),())/\L'=L1) hs.length ⟨0,by omega,by omega,rfl,rfl⟩ ?_;rintro z' z L' ⟨i,hi,rfl,rfl,eY⟩;rw[eY];dsimp only;refine B6 (fun(hO:(i:Int)<lv.len)=>?_) (fun(aS: ¬(i:Int)<lv.len)=>?_)
 ·have hJ:i<hs.length:=by omega
  refine W5 HE.enc_len (by decide) (slF _ fun x hx=>lG.symm.subset hx).1 rfl hJ fun a ha=>?_;have bW:=Aa4 hs hJ;generalize hs[i]=x at ha bW;refine A6 (x.b,x.ep,x.v,()) ha (D6 (by omega) ⟨hs.length-(i+1),by omega,i+1,by omega,rfl,?_,rfl⟩);rw[bW,Ds2,Dz5,Cm5];rfl
 obtain rfl:i=hs.length:=by omega
 have oL:Bg1 ((hs.take hs.length).map HE.dat)=Bg1 (H0 d):=by rw[Ds9,bL]
 rw[oL];clear aS hi oL;refine C4 fun n6 _=>C4 fun n7 _=>C4 fun n8 _=>?_;refine B97 (n:=n8) (off:=0) (c:=#[.map none]) (T:=246) (fz:=(0,0)) (Y:=(n7,Obj.map #[] 0)::((n6,Obj.cells #[.slice none 0 0] 144)::L1)) (pc fun z=>by simp only[B4,C5,D5]) rfl (by simp) (.inl (Dq6 _)) #[.map (some n7)] rfl fun L2 aH=>?_;obtain⟨F1,vQ⟩: ∃F1:A4,F1=(n8,Obj.cells #[.map (some n7)] 246)::F0:=⟨_,rfl⟩;have i10:I1 n6 n7 F1 [] L2:=⟨⟨none,0,0⟩,[],#[],0,[],pc fun z=>by have:=pcn aH z;have:=pcn lG z;rw[vQ];simp only[B4,C5,D5]at*;omega,F6,rfl⟩;have f8:(n8,Obj.cells #[.map (some n7)] 246)∈F1:=by rw[vQ];exact Dq7
 have f01: ∀x∈F0,x∈F1:=fun x hx=>by rw[vQ];exact Dr6 _ hx
 have gI:=fun kind=>Cy9 kind hs fun x hx=>(Cp6 bL hx).2.2.2.2;have hFA:F1.Perm (A++((n8,Obj.cells #[.map (some n7)] 246)::((n3,Obj.cells #[.slice pv.a pv.len pv.cap] 243)::(c1::(aN++(U4 hs++(pseg++Af9 bs))))))):=pc fun z=>by rw[vQ,nW];simp only[B4,C5,D5];omega
 refine S8 (Cs3 lv hs 2 ⟨.func 167,#[],#[.p n1,.p n6,.p n8]⟩ (fun done L=>I1 n6 n7 F1 ((done.map Dd2).filterMap (Y0 d)) L) (by omega) (fun x hx=>by have:=(Cp6 bL hx).2.2.2.2;omega)
  (fun done L hI=>slF L fun x hx=>hI.sub x (f01 x hx)) ?_ (L:=L2) i10) ?_
 ·intro done rest he x L k nB hI hk;have hq:=B33 (kind:=2) (hs:=hs) (q:=(he,x)) (by rw[nB];simp);have oU:done.length<=16*255:=by
   have h1:=congrArg List.length nB;rw[Dr4,Dr8]at h1;have h2:=gI 2;have h3:=Du9 255 rQ;omega
  refine Ab4 (by kernel_rfl) (S8 (C00 m d A h ok n1 n6 n7 n8 29 _ F1 hFA (by rw[<-dV];exact f01 _ f1) f8 _ ?_ he x ((Cp6 bL hq.1).2.2.1 x hq.2.1) L hI) ?_)
  ·have:=D92 (Y0 d) (done.map Dd2);rw[Dr1]at this;omega
  ·rintro _ L'-⟨rfl,nV⟩;refine⟨(),rfl,hk L' ?_⟩;rw[Ds2,Ee7];have e:([(he,x)].map Dd2).filterMap (Y0 d)=(Y0 d (he.dat,x)).toList:=by
    simp only[Ds3,D61,Dd2,List.filterMap_cons,List.filterMap_nil];cases Y0 d (he.dat,x)<;>rfl
   rw[e];exact nV
 rintro _ L3-⟨rfl,mK⟩;rw[Bw8,bL]at mK;have aB:(Bw9 2 (H0 d)).filterMap (Y0 d)=Cv2 d (H0 d):=rfl;rw[aB]at mK;have cE:(Cv2 d (H0 d)).length<=16*255:=by
  have h1:=D92 (Y0 d) (Bw9 2 (H0 d));have h2:=congrArg List.length (Bw8 2 hs);rw[Dr1,bL]at h2;have h3:=gI 2;have h4:=Du9 255 rQ;unfold Cv2;omega
 generalize mH:Cv2 d (H0 d)=all at*;obtain⟨av,aseg,es,ck,J,aZ,aown,lP⟩:=mK;refine⟨(),rfl,C4 fun n9 _=>C4 fun n10 _=>?_⟩;refine B97 (n:=n10) (off:=0) (c:=#[.map none]) (T:=249) (fz:=(0,0)) (Y:=(n9,Obj.map #[] 0)::L3) (Dq8 _) rfl (by simp) (.inl (Dq6 _)) #[.map (some n9)] rfl fun L4 dB=>?_;obtain⟨F2,wQ⟩: ∃F2:A4,F2=(n10,Obj.cells #[.map (some n9)] 249)::((n6,Obj.cells #[.slice av.a av.len av.cap] 144)::((n7,Obj.map es ck)::(aseg++(J++F1)))):=⟨_,rfl⟩;have i20:I2 n9 F2 [] L4:=⟨#[],0,[],pc fun z=>by have:=pcn aZ z;have:=pcn dB z;rw[wQ];simp only[B4,C5,D5]at*;omega,rfl⟩;have f12: ∀x∈F1,x∈F2:=fun x hx=>by rw[wQ];simp[hx]
 have f02: ∀x∈F0,x∈F2:=fun x hx=>f12 x (f01 x hx);have f10:(n10,Obj.cells #[.map (some n9)] 249)∈F2:=by rw[wQ];exact Dq7
 refine S8 (Cs3 lv hs 3 ⟨.func 168,#[],#[.p n3,.p n10]⟩ (fun done L=>I2 n9 F2 ((done.map Dd2).flatMap (Ai2 d)) L) (by omega) (fun x hx=>by have:=(Cp6 bL hx).2.2.2.2;omega)
  (fun done L hI=>slF L fun x hx=>hI.sub x (f02 x hx)) ?_ (L:=L4) i20) ?_
 ·intro done rest he x L k nB hI hk;have hq:=B33 (kind:=3) (hs:=hs) (q:=(he,x)) (by rw[nB];simp);obtain⟨⟨b,hb,wN⟩,-,yS,-⟩:=Cp6 bL hq.1;refine Ab4 (by kernel_rfl) (S8 (Cz9 d n3 n9 n10 F2 pseg pv bs pown pok pdat (fun y hy=>f02 y (fp y hy)) (fun y hy=>f02 y (fb y hy)) (f02 _ f3) f10 _ he b hb wN x (yS x hq.2.1) L hI) ?_);rintro _ L'-⟨rfl,nV⟩;refine⟨(),rfl,hk L' ?_⟩;rw[Ds2,Dt3];have e:([(he,x)].map Dd2).flatMap (Ai2 d)=Ai2 d (he.dat,x):=by simp[Dd2]
  rw[e];exact nV
 rintro _ L5-⟨rfl,zY⟩;rw[Bw8,bL]at zY;have rL:(Bw9 3 (H0 d)).flatMap (Ai2 d)=allK d (H0 d):=rfl;rw[rL]at zY;generalize yN:allK d (H0 d)=ks at*;refine⟨(),rfl,?_⟩;obtain⟨es9,ck9,J9,jT,hm9⟩:=zY;obtain⟨G,hG⟩: ∃G:A4,G=(n9,Obj.map es9 ck9)::((n10,Obj.cells #[.map (some n9)] 249)::((n6,Obj.cells #[.slice av.a av.len av.cap] 144)::(aseg++(J++(J9++F1))))):=⟨_,rfl⟩;have iT:L5.Perm ((n7,Obj.map es ck)::G):=pc fun z=>by have:=pcn jT z;rw[hG];rw[wQ]at this;simp only[B4,C5,D5]at*;omega
 have g9:(n9,Obj.map es9 ck9)∈G:=by rw[hG];simp
 have g10:(n10,Obj.cells #[.map (some n9)] 249)∈G:=by rw[hG];simp
 have g6:(n6,Obj.cells #[.slice av.a av.len av.cap] 144)∈G:=by rw[hG];simp
 have g8:(n8,Obj.cells #[.map (some n7)] 246)∈G:=by rw[hG];simp[f8]
 have ga: ∀x∈aseg,x∈G:=fun x hx=>by rw[hG];simp[hx]
 have havl:=aown.sl.els_len LE.enc_len (by decide);have kil: ∀p:It,(A36 (Cb9 ks) p).getD (.b false)= .b (decide (p∈ks)):=fun p=>by
  rw[Cn3];by_cases hk:p∈ks
  ·simp[hk]
  ·simp[hk]
 refine A6 av (ldB (c:=#[.slice av.a av.len av.cap]) (T:=144) (fz:=(0,0)) (iT.symm.subset (by simp[g6])) rfl) ?_;refine G7 (fun z' z L'=> ∃(i:Nat) (es7:Array MapEntry) (ck7:Nat) (mm:List (ByteArray×Value)),i<=all.length/\z'=all.length-i/\z=((i:Int),())/\L'.Perm ((n7,Obj.map es7 ck7)::G)/\Mp Value.w es7 mm/\(mm.map Prod.fst).Nodup/\ ∀k,A36 mm k=Ce0 all ks i k) all.length
  ⟨0,es,ck,Bz4 all,by omega,by omega,rfl,iT,lP,(Bq5 all ⟨#[]⟩).2,fun k=>by rw[gone_0];exact(Bq5 all k).1⟩ ?_
 rintro z' z L6 ⟨i,es7,ck7,mm,hi,rfl,rfl,jS,wE,bV,fV⟩;dsimp only;have aV: ∀x∈G,x∈L6:=fun x hx=>jS.symm.subset (Dr6 _ hx);have h7:(n7,Obj.map es7 ck7)∈L6:=jS.symm.subset Dq7;refine B6 (fun(hO:(i:Int)<av.len)=>?_) (fun(aS: ¬(i:Int)<av.len)=>?_)
 ·have hJ:i<all.length:=by omega
  refine W5 LE.enc_len (by decide) (aown.sl.mono fun x hx=>aV x (ga x hx)) rfl hJ fun a2 bA=>?_;obtain⟨p,gV,uW⟩:=C56 (ks:=ks) hJ;have gW:=fun k=>Cq1 (ks:=ks) hJ gV k;generalize all[i]=x at bA gV uW gW;refine A6 x bA (A6 (some n9) (ldB (c:=#[.map (some n9)]) (T:=249) (fz:=(0,0)) (aV _ g10) rfl) (A6 (some n7) (ldB (c:=#[.map (some n7)]) (T:=246) (fz:=(0,0)) (aV _ g8) rfl) ?_));obtain⟨cur,hcv,uY⟩: ∃cur:It,(A36 mm x.1).getD (plV (0,0,0,()))=plV cur/\(p∈ks/\Ce0 all ks i x.1=none\/cur=p):=by
   rw[fV];rcases uW with⟨h1,h2⟩|h1
   ·exact⟨(0,0,0,()),by rw[h1];rfl,.inl ⟨h2,h1⟩⟩
   ·exact⟨p,by rw[h1];rfl,.inr rfl⟩
  have lk:=Aq0 (P:=PP) mapL h7 wE x.1;rw[hcv]at lk;refine⟨(cur,()),lk,?_⟩;have lk2:=Aq0 (P:=PP) mapK (aV _ g9) hm9 cur;rw[kil]at lk2;refine⟨(decide (cur∈ks),()),lk2,B6 (fun(hk:cur∈ks)=>?_) (fun(hk:cur∉ks)=>?_)⟩
  ·have rF:p∈ks:=by
    rcases uY with h1|rfl
    ·exact h1.1
    ·exact hk
   refine A6 (some n7) (ldB (c:=#[.map (some n7)]) (T:=246) (fz:=(0,0)) (aV _ g8) rfl) ?_;refine Bt6 mapL jS wE x.1 fun es8 ck8 L7 hm8 rH=>?_;refine D6 (by omega) ⟨all.length-(i+1),by omega,i+1,es8,ck8,Bl0 mm x.1,by omega,rfl,rfl,rH,hm8,(Bq2 _ _ bV).1,fun k=>?_⟩;rw[Bq0 _ _ _ bV,gW,fV];by_cases he:k=x.1
   ·rw[Dq5 he,Dq5 ⟨he,rF⟩]
   ·rw[Dq4 he,Dq4 fun h=>he h.1]
  ·refine D6 (by omega) ⟨all.length-(i+1),by omega,i+1,es7,ck7,mm,by omega,rfl,rfl,jS,wE,bV,fun k=>?_⟩;rw[gW,fV];by_cases he:k=x.1/\p∈ks
   ·rw[Dq5 he];rcases uY with h1|rfl
    ·rw[he.1];exact h1.2
    ·exact absurd he.2 hk
   ·rw[Dq4 he]
 ·obtain rfl:i=all.length:=by omega
  refine A6 av (ldB (c:=#[.slice av.a av.len av.cap]) (T:=144) (fz:=(0,0)) (aV _ g6) rfl) ?_;have oN: ∀x∈all,∃p,S6 all x.1=some p/\A36 mm x.1=if p∈ks then none else some (plV p):=fun x hx=>by
   obtain⟨p,hp⟩:=Ba3 hx;exact⟨p,hp,by rw[fV,C57 hx hp]⟩
  refine G7 (fun z' z L'=> ∃(i:Nat) (ov:SlV) (oseg:A4),i<=all.length/\z'=all.length-i/\z=((i:Int),ov,Bg1 (H0 d),())/\L'.Perm (oseg++L6)/\Own ov 4 eLv (((all.take i).filter fun x=>decide (S6 all x.1=some x.2/\x.2∉ks)).flatMap LE.enc) oseg) all.length
   ⟨0,⟨none,0,0⟩,[],by omega,by omega,rfl,Dq8 _,F6⟩ ?_
  rintro z' z L7 ⟨i,ov,oseg,eV,rfl,rfl,rH,oown⟩;dsimp only;have gP: ∀x∈L6,x∈L7:=fun x hx=>rH.symm.subset (by simp[hx]);have lL:=oown.sl.els_len LE.enc_len (by decide);have yA:=Dz7 (fun x:LE=>decide (S6 all x.1=some x.2/\x.2∉ks)) (all.take i);rw[Ds0]at yA;refine B6 (fun(hO:(i:Int)<av.len)=>?_) (fun(aS: ¬(i:Int)<av.len)=>?_)
  ·have hJ:i<all.length:=by omega
   refine W5 LE.enc_len (by decide) (aown.sl.mono fun x hx=>gP _ (aV x (ga x hx))) rfl hJ fun a3 jN=>?_;obtain⟨p,gV,co⟩:=oN all[i] (Dr7 hJ);have bW:=Aa4 all hJ;generalize all[i]=x at jN gV co bW;refine A6 x jN (A6 (some n7) (ldB (c:=#[.map (some n7)]) (T:=246) (fz:=(0,0)) (gP _ (aV _ g8)) rfl) ?_);have lk:=Cb7 (P:=PP) mapL (gP _ h7) wE x.1;rw[co]at lk;have bF: ¬(S6 all x.1=some x.2/\x.2∉ks)-> ∃k',k'<all.length-i/\ ∃(i':Nat) (ov':SlV) (oseg':A4),i'<=all.length/\k'=all.length-i'/\(((i:Int)+1,ov,Bg1 (H0 d),()):RsV [lI,.lf .sl,lI])=((i':Int),ov',Bg1 (H0 d),())/\L7.Perm (oseg'++L6)/\Own ov' 4 eLv (((all.take i').filter fun x=>decide (S6 all x.1=some x.2/\x.2∉ks)).flatMap LE.enc) oseg':=fun hh=>by
    refine⟨all.length-(i+1),by omega,i+1,ov,oseg,by omega,rfl,rfl,rH,?_⟩;rw[bW,Dz8,filt1,Dq4 (by simpa using hh),Dr3];exact oown
   by_cases rF:p∈ks
   ·rw[Dq5 rF]at lk;refine⟨((0,0,0,()),false,()),lk,ifF rfl (D6 (by omega) (bF fun hh=>?_))⟩;rw[gV]at hh;exact hh.2 (by rw[<-Dq9 hh.1];exact rF)
   ·rw[Dq4 rF]at lk;refine⟨(p,true,()),lk,ifT rfl (eqPlc p x.2 (B6 (fun(he:p=x.2)=>?_) (fun(he: ¬p=x.2)=>?_)))⟩
    ·have wV:S6 all x.1=some x.2/\x.2∉ks:=⟨by rw[gV,he],by rw[<-he];exact rF⟩;refine Am5 Dd0 srcLv oown rH (ws:=LE.enc x) rfl rfl (by omega) fun ov2 oseg2 hol3 oown2=>?_;refine D6 (by omega) ⟨all.length-(i+1),by omega,i+1,ov2,oseg2,by omega,rfl,rfl,Dq8 _,?_⟩;rw[bW,Dz8,filt1,Dq5 (by simpa using wV),Dt3,Dx7];exact oown2
    ·refine D6 (by omega) (bF fun hh=>he ?_);rw[gV]at hh;exact Dq9 hh.1
  ·obtain rfl:i=all.length:=by omega
   rw[Ds9]at oown;refine .drop (A:=aN++(U4 hs++(oseg++A))) (J:=(n7,Obj.map es7 ck7)::((n9,Obj.map es9 ck9)::((n10,Obj.cells #[.map (some n9)] 249)::((n6,Obj.cells #[.slice av.a av.len av.cap] 144)::(aseg++(J++(J9++((n8,Obj.cells #[.map (some n7)] 246)::((n3,Obj.cells #[.slice pv.a pv.len pv.cap] 243)::(c1::(pseg++Af9 bs)))))))))))
    ⟨lv,hs,aN,ov,oseg,rfl,rfl,own,aA,bL,?_⟩ (pc fun z=>?_)
   ·unfold R7 liveR;rw[mH,yN];exact oown
   ·have e1:=pcn rH z;have e2:=pcn jS z;rw[hG,vQ,nW]at e2;simp only[B4,C5,D5]at*;omega
structure C3 where
 part:Int
 b:Int
 p:Int
 e:Int
 freq:Int
abbrev Al8:=Int×Int×Int×Int
def C3.nm(s:C3):Al8:=(s.part,s.b,s.p,s.e)
def An7(s:C3):List Value:=[.i s.part,.i s.b,.i s.p,.i s.e,.i s.freq]
theorem K4(s:C3):(An7 s).length=5:=rfl
theorem Ba8(l:List C3):(l.flatMap An7).all T6=true:=by
 induction l with
 |nil=>rfl
 |cons e r ih=>rw[Du1,D84,ih];rfl
def isz:C3:=⟨0,0,0,0,0⟩
abbrev tyIs:TypeId:=216
abbrev eIs:TypeId:=204
abbrev tyIr:TypeId:=219
theorem Cs1:V4 PP tyIs eIs 5 40 [.i 0,.i 0,.i 0,.i 0,.i 0]:=N3 (by kernel_rfl) (by kernel_rfl) rfl (by decide) (by decide)
theorem srcIs:Ax5 PP tyIs:=.inl ⟨eIs,by kernel_rfl⟩
theorem undNm:A80 PP 202=true:=by kernel_rfl
theorem eqNm{L:A4}(a b c d a' b' c' d':Int){k:ShV (.lf .bool)->HP}(hk:k (decide ((a,b,c,d)=(a',b',c',d'))) L):
  smP PP (binOp .eql 202 (.agg #[.i a,.i b,.i c,.i d]) (.agg #[.i a',.i b',.i c',.i d'])) (.lf .bool) k L:=by
 refine Dc9 (r:=(a==a'&&((b==b'&&(c==c'&&(d==d'&&true)))&&true))) undNm (by kernel_rfl) ?_;have e:decide ((a,b,c,d)=(a',b',c',d'))=(a==a'&&((b==b'&&(c==c'&&(d==d'&&true)))&&true)):=by
  rw[D85];simp
 rw[e]at hk;exact hk
def R9(h:Nat):Int:=((h/2^48:Nat):Int)
theorem Dl7(L:A4)(h k:Nat)(hh:h<2^64)(h1:1<=k)(h2:k<=1000):Reads PP 194 #[.int .u64 h,.i k] L (.i ((h%k:Nat):Int)):=by
 refine(e194 h k).r ?_;have hm:=Dx6 h (show k>0 by omega);have hw:IntKind.u64.wrap (k:Int)=k:=De5 (by omega) (by omega);refine ifN (show¬(k:Int)<1 by omega) (Ad8 (by rw[hw];omega) (.of ⟨?_,rfl⟩));rw[hw,<-Int.ofNat_tmod,C1 (by omega) (by omega)]
theorem B54(L:A4)(h:Nat)(hh:h<2^64):Reads PP 180 #[.int .u64 h] L (.i (R9 h)):=by
 refine(e180 h).r ?_;refine Ad8 (by decide) (.of ⟨?_,rfl⟩);have e:Int.fdiv (h:Int) (2^(min (48:Int).toNat IntKind.u64.bits))=((h/2^48:Nat):Int):=by
  rw[show(2:Int)^(min (48:Int).toNat IntKind.u64.bits)=((2^48:Nat):Int)from rfl,D78 _ (by omega)];rfl
 rw[e,C1 (by omega) (by omega)];rfl
abbrev Pl:=Int×Int×Int×Unit
def inm(h:Nat)(p:Pl):Al8:=(R9 h,p.1,p.2.1,p.2.2.1)
theorem Br3(L:A4)(h:Nat)(hh:h<2^64)(p:Pl):Reads PP 184 #[.int .u64 h,.agg (ki3 p)] L (.agg #[.i (R9 h),.i p.1,.i p.2.1,.i p.2.2.1]):=by
 refine(e184 h p).r ?_;refine C4 fun n1 _=>C4 fun n2 _=>A6 p (ldB (n:=n1) (c:=(ki3 p)) (T:=102) (fz:=(0,0)) (by simp) rfl) ?_;refine B5 (B54 _ h hh) (R9 h,()) rfl (F7 (ldB (n:=n1) (c:=(ki3 p)) (T:=102) (fz:=(0,0)) (by simp) rfl) ?_);refine E4 [] _ rfl rfl (by simp) (.inl (Dq6 _)) #[.i (R9 h),.i p.1,.i p.2.1,.i p.2.2.1] rfl ?_;exact A6 (R9 h,p) (ldB Dq7 rfl) (.cons (.cons (.of ⟨rfl,rfl⟩)))
theorem Cx5(L:A4)(s:C3)(ad:Addr)(nm:Al8)(hl:C9 ad [.i nm.1,.i nm.2.1,.i nm.2.2.1,.i nm.2.2.2] L):
  Reads PP 232 #[.agg #[.i s.part,.i s.b,.i s.p,.i s.e,.i s.freq],.q (some ad)] L (.b (decide (s.nm=nm))):=by
 refine(e232 (s.part,s.b,s.p,s.e,s.freq,()) (some ad)).r ?_;refine C4 fun n1 _=>A6 (s.part,s.b,s.p,s.e,()) (ldB Dq7 rfl) (A5 rfl (A6 (nm.1,nm.2.1,nm.2.2.1,nm.2.2.2,()) (hl.mono fun _ hx=>Dr6 _ hx) (eqNm _ _ _ _ _ _ _ _ (.cons (.of ⟨rfl,rfl⟩)))))
theorem C47(L:A4)(v:SlV)(l:List C3)(h:Sl L v 5 (l.flatMap An7))(hb:l.length<=1000)(ad:Addr)(nm:Al8)(hl:C9 ad [.i nm.1,.i nm.2.1,.i nm.2.2.1,.i nm.2.2.2] L):
  Reads PP 231 #[.slice v.a v.len v.cap,.func (.func 232) #[] #[.q (some ad)]] L
   (.i (match l.findIdx? (fun s=>decide (s.nm=nm))with|some i=>(i:Int)|none=> -1)):=by
 refine(e231 v ⟨.func 232,#[],#[.q (some ad)]⟩).r ?_;have hC:=h.els_len K4 (by decide);refine G7 (fun k z L'=>L'=L/\ ∃i:Nat,i<=l.length/\k=l.length-i/\z=((i:Int),())/\ ∀s∈l.take i,s.nm≠nm) l.length ⟨rfl,0,by omega,by omega,rfl,by simp⟩ ?_;rintro k z L' ⟨rfl,i,hi,rfl,rfl,hn⟩;refine C0 (fun(hO:(i:Int)<v.len)=>?_) (fun(aS: ¬(i:Int)<v.len)=>?_)
 ·have hJ:i<l.length:=by omega
  obtain⟨a,ha,cD⟩:=h.el K4 (by decide) hJ;refine A5 ha (D9 (show(0:Int)<=i by omega) hO (A6 (l[i].part,l[i].b,l[i].p,l[i].e,l[i].freq,()) (by rw[Dr0];exact cD) ?_));refine Ab4 (by kernel_rfl) (B5 (Cx5 _ l[i] ad nm hl) (decide (l[i].nm=nm),()) rfl ?_);refine C0 (fun(he:l[i].nm=nm)=>.of ⟨?_,rfl⟩) (fun(he: ¬l[i].nm=nm)=>?_)
  ·have:l.findIdx? (fun s=>decide (s.nm=nm))=some i:=by
    rw[D09];refine⟨hJ,by simpa using he,fun j hj=>?_⟩;have:=hn l[j] (by rw[D19];exact⟨j,by omega,rfl⟩);simpa using this
   rw[this]
  ·refine⟨l.length-(i+1),by omega,rfl,i+1,by omega,rfl,?_,fun e hx=>?_⟩
   ·rw[C1 (by first|omega|(simp only;omega)) (by first|omega|(simp only;omega))];rfl
   ·rw[Ds4 hJ]at hx;rcases Dr5.1 hx with hx|hx
    ·exact hn e hx
    ·rw[Dr2.1 hx];exact he
 ·obtain rfl:i=l.length:=by omega
  rw[Ds9]at hn;have:l.findIdx? (fun s=>decide (s.nm=nm))=none:=by
   rw[D10];intro s hs;simpa using hn s hs
  rw[this];exact .of ⟨rfl,rfl⟩
theorem Cp2(v:SlV)(l:List C3)(seg:A4)(own:Own v 5 eIs (l.flatMap An7) seg)(hb:l.length<=1000)(k:Nat)(hk:k<l.length):
  CallF PP 229 #[.slice v.a v.len v.cap,.i k,.i ((k:Int)+1)] seg fun r L'=> ∃s,r= .slice s.a s.len s.cap/\Own s 5 eIs ((l.take k++l.drop (k+1)).flatMap An7) L':=by
 refine(e229 v k ((k:Int)+1)).c ?_;have hC:=own.sl.els_len K4 (by decide);have aU:=own.cap;refine K7 (l':=k) (h':=k+1) (m':=v.len) rfl rfl rfl (by omega) (by omega) aU ?_;refine Ac2 (fun(he:(k:Int)=(k:Int)+1)=>absurd he (by omega)) (fun _=>?_);refine K7 (l':=0) (h':=k) (m':=v.cap) rfl rfl rfl (by omega) (by omega) (Dq6 _) ?_;refine K7 (l':=k+1) (h':=v.len) (m':=v.cap) rfl rfl rfl (by omega) aU (Dq6 _) ?_;have own2:=own.slc (l:=0) (h:=k) (by omega) (by omega);have src2:=Sl.slc (m:=v.cap) own.sl (by omega) (l:=k+1) (h':=v.len) (by omega) (Dq6 _) aU;rw[Ay8 K4]at own2 src2;refine Al3 Cs1 srcIs [] [] own2 (by simp) (.sl src2) (Ba8 _) (by simp only[Q0,Dr0];omega) fun s seg' hs _ iA own'=>?_;rw[<-Dt3]at own';have e1:(l.drop 0).take (k-0)=l.take k:=by simp
 have e2:(l.drop (k+1)).take (v.len-(k+1))=l.drop (k+1):=by rw[hC];exact Dw9 (by rw[Ds6];omega)
 rw[e1,e2]at own';simp only[Q0,Dr0]at hs iA;have cT:=own'.cap;refine K7 (l':=s.len) (h':=v.len) (m':=s.cap) rfl rfl rfl (by omega) (by omega) (Dq6 _) ?_;refine Ai8 Cs1 rfl [] [] own' (by simp) (h:=v.len) (by omega) (by omega) rfl fun seg2 own2=>?_;exact .of ⟨s,rfl,by simpa using own2⟩
abbrev Bl3:=SlV×List C3×A4
def Bo4(r:Bl3):List Value:=[.slice r.1.a r.1.len r.1.cap]
theorem O3(r:Bl3):(Bo4 r).length=1:=rfl
def O9(rows:List Bl3):A4:=rows.flatMap fun r=>r.2.2
theorem Ab9(p s:List Bl3)(r:Bl3):O9 (p++r::s)=O9 p++(r.2.2++O9 s):=by simp[O9]
def iO(m:Nat)(ways:Int)(sv:SlV):Nat×Obj:=(m,Obj.cells #[.i ways,.slice sv.a sv.len sv.cap] 221)
def IA(m:Nat)(ways:Int)(sv:SlV)(oseg:A4)(rows:List Bl3):A4:=iO m ways sv::(oseg++O9 rows)
structure IOk(sv:SlV)(oseg:A4)(rows:List Bl3):Prop where
 own:Own sv 1 tyIs (rows.flatMap Bo4) oseg
 row: ∀r∈rows,Own r.1 5 eIs (r.2.1.flatMap An7) r.2.2
 few: ∀r∈rows,r.2.1.length<=100
 pos:1<=rows.length/\rows.length<=64
def Aa9(rows:List Bl3):List (List C3):=rows.map fun r=>r.2.1
def IX(m:Nat)(ways:Int)(ss:List (List C3))(A:A4):Prop:= ∃sv oseg rows,A=IA m ways sv oseg rows/\IOk sv oseg rows/\ss=Aa9 rows
section
variable {L:A4} {m:Nat} {ways:Int} {sv:SlV}
theorem i_ways(h:iO m ways sv∈L):C9 m.z [.i ways] L:=ldB (by unfold iO at h;exact h) rfl
theorem B58(h:iO m ways sv∈L):C9 ⟨m,1,none⟩ [.slice sv.a sv.len sv.cap] L:=ldB (by unfold iO at h;exact h) rfl
end
theorem Ak5(L:A4)(m:Nat)(ways:Int)(sv:SlV)(hm:iO m ways sv∈L)(a:Addr)(ha:sv.a=some a)(h1:1<=sv.len)(h2:sv.len<=1000)(h:Nat)(hh:h<2^64):
  Reads PP 137 #[.p m,.int .u64 h] L (.q (some (a.add (h%sv.len)))):=by
 refine(e137 (some m.z) h).r ?_;have eR:=Dx6 h (show sv.len>0 by omega);refine A5 rfl (A5 rfl (A6 sv (B58 hm) (A6 sv (B58 hm) (B5 (Dl7 _ h sv.len hh h1 h2) (((h%sv.len:Nat):Int),()) rfl (F7 (B58 hm) (A5 ha (D9 (show(0:Int)<=((h%sv.len:Nat):Int) by omega) (show((h%sv.len:Nat):Int)<sv.len by omega) ?_)))))));rw[Dr0,Dt8];exact .of ⟨rfl,rfl⟩
def isi(ss:List (List C3))(h:Nat):Nat:=h%ss.length
def J6(ss:List (List C3))(h:Nat):List C3:=ss.getD (isi ss h) []
def iset(ss:List (List C3))(h:Nat)(row:List C3):List (List C3):=ss.set (isi ss h) row
def Q6(ss:List (List C3))(h:Nat)(p:Pl):Option C3:=(J6 ss h).find? fun s=>decide (s.nm=inm h p)
def E9(l:List C3)(nm:Al8):List C3:=l.eraseP fun s=>decide (s.nm=nm)
theorem W4(l:List C3)(nm:Al8):(l.findIdx? (fun s=>decide (s.nm=nm))=none/\l.find? (fun s=>decide (s.nm=nm))=none/\E9 l nm=l)\/
  ∃(j:Nat) (hj:j<l.length),l.findIdx? (fun s=>decide (s.nm=nm))=some j/\l.find? (fun s=>decide (s.nm=nm))=some l[j]/\l[j].nm=nm/\E9 l nm=l.take j++l.drop (j+1):=by
 cases h:l.findIdx? (fun s=>decide (s.nm=nm))with
 |none=>
  rw[D10]at h;refine .inl ⟨rfl,?_,Ee9 (fun a ha=>by have:=h a ha;simp only[this];decide)⟩;rw[D18];intro x hx;rw[h x hx];decide
 |some j=>
  rw[D09]at h;obtain⟨hj,h1,h2⟩:=h;have hl:l=l.take j++l[j]::l.drop (j+1):=by rw[<-Dv1 hj,Dw1]
  have hb: ∀b∈l.take j,¬decide (b.nm=nm)=true:=by
   intro b hb;obtain⟨i,hi,rfl⟩:=D19.1 hb;have:=h2 i (by omega);simpa using this
  refine .inr ⟨j,hj,rfl,?_,by simpa using h1,?_⟩
  ·rw[Ef0];exact⟨h1,l.take j,l.drop (j+1),hl,fun a ha=>by have:=hb a ha;simpa using this⟩
  ·unfold E9;conv=>lhs;rw[hl]
   rw[Ef1 _ hb,Ef2 (p:=fun s:C3=>decide (s.nm=nm)) h1]
theorem IX.split{m:Nat}{ways:Int}{ss:List (List C3)}{A:A4}(h:IX m ways ss A)(hs:Nat): ∃sv oseg p r s a,A=IA m ways sv oseg (p++r::s)/\IOk sv oseg (p++r::s)/\sv.a=some a/\1<=sv.len/\sv.len<=64/\hs%sv.len=p.length/\J6 ss hs=r.2.1/\
  (∀row',iset ss hs row'=Aa9 p++row'::Aa9 s):=by
 obtain⟨sv,oseg,rows,rfl,ok,rfl⟩:=h;have hC:=ok.own.sl.els_len O3 (by decide);have bH:=ok.pos;have hi:hs%rows.length<rows.length:=Dx6 _ (by omega);have hl:rows=rows.take (hs%rows.length)++rows[hs%rows.length]::rows.drop (hs%rows.length+1):=by rw[<-Dv1 hi,Dw1]
 have aT:(Aa9 rows).length=rows.length:=Dr1 ..;obtain⟨a,ha⟩: ∃a,sv.a=some a:=by
  obtain⟨a,ha,_⟩:=ok.own.sl.el O3 (by decide) (i:=0) (by omega);exact⟨a,ha⟩
 refine⟨sv,oseg,rows.take (hs%rows.length),rows[hs%rows.length],rows.drop (hs%rows.length+1),a,by rw[<-hl],by rw[<-hl];exact ok,ha,by omega,by omega,by rw[hC,Ds0];omega,?_,fun row'=>?_⟩
 ·unfold J6 isi;rw[aT,Dt0];unfold Aa9;rw[Du3,Dr9 hi];rfl
 ·unfold iset isi;rw[aT];unfold Aa9;rw[List.set_eq_take_append_cons_drop,Dq5 (by rw[Dr1];exact hi),D15,D52]
theorem IX.same{m:Nat}{ways:Int}{ss:List (List C3)}{A:A4}(h:IX m ways ss A)(hs:Nat):iset ss hs (J6 ss hs)=ss:=by
 obtain⟨sv,oseg,rows,rfl,ok,rfl⟩:=h;have aT:(Aa9 rows).length=rows.length:=Dr1 ..;have hi:hs%(Aa9 rows).length<(Aa9 rows).length:=Dx6 _ (by have:=ok.pos;omega);unfold iset J6 isi;rw[Dt0,Dr9 hi];exact List.set_getElem_self ..
section
variable {L:A4} {m:Nat} {ways:Int} {sv:SlV} {oseg:A4} {p s:List Bl3} {r:Bl3} {a:Addr}
theorem Cc2(ok:IOk sv oseg (p++r::s))(ha:sv.a=some a)(hL: ∀x∈oseg,x∈L):C9 (a.add p.length) [.slice r.1.a r.1.len r.1.cap] L:=by
 obtain⟨a',cQ,hl⟩:=ok.own.sl.el O3 (by decide) (i:=p.length) (by simp);rw[ha]at cQ;obtain rfl:=Dq9 cQ;rw[show(p++r::s)[p.length]'(by simp)=r by simp,Dt8]at hl;exact hl.mono hL
theorem Au1(ok:IOk sv oseg (p++r::s))(hL: ∀x∈r.2.2,x∈L):Sl L r.1 5 (r.2.1.flatMap An7):=(ok.row r (by simp)).sl.mono hL
theorem rput(p s:List Bl3)(r r':Bl3):A77 ((p++r::s).flatMap Bo4) p.length (Bo4 r')=(p++r'::s).flatMap Bo4:=by
 have hp:(p.flatMap Bo4).length=p.length:=by rw[O5 O3,Dt8]
 rw[Dt3,Dt3,Du1,Du1];unfold A77;rw[D30 hp,O3,<-Dw6,D29 hp];rw[Ds5];rfl
theorem C49(ok:IOk sv oseg (p++r::s))(r':Bl3){seg':A4}(own':Own sv 1 tyIs (A77 ((p++r::s).flatMap Bo4) p.length (Bo4 r')) seg')(h:Own r'.1 5 eIs (r'.2.1.flatMap An7) r'.2.2)(hf:r'.2.1.length<=100):IOk sv seg' (p++r'::s):=by
 rw[rput]at own';refine⟨own',fun x hx=>?_,fun x hx=>?_,by have:=ok.pos;rw[Dr4,Dr8]at this⊢;exact this⟩
 ·rcases Dr5.1 hx with h1|h1
  ·exact ok.row x (by simp[h1])
  ·rcases Dt5.1 h1 with rfl|h2
   ·exact h
   ·exact ok.row x (by simp[h2])
 ·rcases Dr5.1 hx with h1|h1
  ·exact ok.few x (by simp[h1])
  ·rcases Dt5.1 h1 with rfl|h2
   ·exact hf
   ·exact ok.few x (by simp[h2])
end
theorem Ak3(p s:List Bl3)(r:Bl3):Aa9 (p++r::s)=Aa9 p++r.2.1::Aa9 s:=by simp[Aa9]
theorem Ay5(m:Nat)(ways:Int)(ss:List (List C3))(A:A4)(hA:IX m ways ss A)(h:Nat)(hh:h<2^64)(pl:Pl):
  CallF PP 176 #[.p m,.int .u64 h,.agg (ki3 pl)] A
   fun v L'=>(∃x:C3,v= .t #[.agg #[.i x.part,.i x.b,.i x.p,.i x.e,.i x.freq],.b (Q6 ss h pl).isSome]/\x=(Q6 ss h pl).getD isz)/\IX m ways (iset ss h (E9 (J6 ss h) (inm h pl))) L':=by
 have dM:=hA.same h;obtain⟨sv,oseg,p,r,s,a,rfl,ok,ha,fK,gK,hp,aM,cF⟩:=hA.split h;refine(e176 (some m.z) h pl).c ?_;have hg:iO m ways sv∈IA m ways sv oseg (p++r::s):=Dq7;have lJ: ∀{X:A4},(∀x∈oseg,x∈X++IA m ways sv oseg (p++r::s)):=fun x hx=>by unfold IA;simp[hx]
 have eA: ∀{X:A4},(∀x∈r.2.2,x∈X++IA m ways sv oseg (p++r::s)):=fun x hx=>by unfold IA O9;simp[hx]
 have hb:=ok.few r (by simp);refine C4 fun n1 _=>C4 fun n2 _=>ifF rfl ?_;generalize dP:(n1,Obj.cells (ki3 pl) 102)=o1;generalize fJ:(n2,Obj.cells #[.i 0,.i 0,.i 0,.i 0,.i 0] 204)=o2;have l1: ∀{Z:A4},C9 n1.z [.i pl.1,.i pl.2.1,.i pl.2.2.1] (o2::o1::Z):=by subst dP;exact ldB (n:=n1) (c:=(ki3 pl)) (T:=102) (fz:=(0,0)) (by simp) rfl
 refine A6 pl l1 (B5 (Ak5 _ m ways sv (by simp[hg]) a ha fK (by omega) h hh) (some (a.add (h%sv.len)),()) rfl (F7 l1 ?_));rw[hp];refine B5 (Br3 _ h hh pl) ((R9 h,pl.1,pl.2.1,pl.2.2.1,()),()) rfl (C4 fun n3 _=>E4 [] _ rfl rfl (by simp) (.inl (Dq6 _)) #[.i (R9 h),.i pl.1,.i pl.2.1,.i pl.2.2.1] rfl ?_);rw[Ds1];generalize yB:(n3,Obj.cells #[.i (R9 h),.i pl.1,.i pl.2.1,.i pl.2.2.1] 202)=o3;have l3: ∀{Z:A4},C9 n3.z [.i (inm h pl).1,.i (inm h pl).2.1,.i (inm h pl).2.2.1,.i (inm h pl).2.2.2] (o3::Z):=by subst yB;exact ldB Dq7 rfl
 have lr:C9 (a.add p.length) [.slice r.1.a r.1.len r.1.cap] (o3::o2::o1::IA m ways sv oseg (p++r::s)):=Cc2 ok ha (lJ (X:=[o3,o2,o1]));have lsl:Sl (o3::o2::o1::IA m ways sv oseg (p++r::s)) r.1 5 (r.2.1.flatMap An7):=Au1 ok (eA (X:=[o3,o2,o1]));refine A5 rfl (A6 r.1 lr (B5 (C47 _ r.1 r.2.1 lsl (by omega) n3.z (inm h pl) l3) (_,()) rfl ?_));rcases W4 r.2.1 (inm h pl)with⟨e1,e2,e3⟩|⟨j,hj,e1,e2,e4,e3⟩
 ·rw[e1];refine ifP (show(-1:Int)<0 by decide) ?_;subst fJ;refine E4 [o3] _ rfl rfl (by simp) (.inl (Dq6 _)) #[.i 0,.i 0,.i 0,.i 0,.i 0] rfl ?_;refine A6 (0,0,0,0,0,()) (ldB (n:=n2) (c:=#[.i 0,.i 0,.i 0,.i 0,.i 0]) (T:=204) (fz:=(0,0)) (by simp) rfl) (.cons (.cons (.cons (.of ⟨?_,?_⟩))))
  ·have:Q6 ss h pl=none:=by unfold Q6;rw[aM,e2]
   rw[this];exact⟨isz,rfl,rfl⟩
  ·rw[aM,e3,<-aM,dM];exact⟨sv,oseg,_,rfl,ok,by rw[Ak3,<-cF,<-aM,dM]⟩
 ·rw[e1];have hC:=lsl.els_len K4 (by decide);have hj0:(0:Int)<=(j:Int):=by omega
  have bP:(j:Int)<r.1.len:=by omega
  refine ifN (show¬(j:Int)<0 by omega) ?_;obtain⟨b,fZ,cD⟩:=lsl.el K4 (by decide) hj;have nJ:C9 (b.add ((j:Int).toNat*5)) (An7 r.2.1[j]) (o3::o2::o1::IA m ways sv oseg (p++r::s)):=by rw[Dr0];exact cD
  refine A5 rfl (A6 r.1 lr (A5 fZ (D9 hj0 bP (A6 (r.2.1[j].part,r.2.1[j].b,r.2.1[j].p,r.2.1[j].e,r.2.1[j].freq,()) nJ ?_))));clear cD nJ;generalize hx:r.2.1[j]=x at*;refine C4 fun n4 _=>E4 [] _ rfl rfl (by simp) (.inl (Dq6 _)) #[.i x.part,.i x.b,.i x.p,.i x.e,.i x.freq] rfl ?_;rw[Ds1];generalize ho4:(n4,Obj.cells #[.i x.part,.i x.b,.i x.p,.i x.e,.i x.freq] 204)=o4;have l4: ∀{Z:A4},C9 n4.z [.i x.part,.i x.b,.i x.p,.i x.e,.i x.freq] (o4::Z):=by subst ho4;exact ldB Dq7 rfl
  have hw:IntKind.i64.wrap ((j:Int)+1)=(j:Int)+1:=C1 (by omega) (by omega);refine A5 rfl (A6 r.1 (lr.mono fun _ hx=>Dr6 _ hx) ?_);simp only[hw];refine K1 (o4::o3::o2::o1::iO m ways sv::(oseg++O9 p)) (O9 s) (Cp2 r.1 r.2.1 r.2.2 (ok.row r (by simp)) (by omega) j hj) (by unfold IA;rw[Ab9];simp) ?_;rintro _ seg2-⟨v2,rfl,own2⟩;refine⟨(v2,()),rfl,A5 rfl ?_⟩;rw[<-e3]at own2;refine ok.own.st (o4::o3::o2::o1::[iO m ways sv]) (O9 p++seg2++O9 s) (p:=p.length) (ws:=Bo4 (v2,E9 r.2.1 (inm h pl),seg2)) (by rw[O5 O3,O3];simp) (by rw[O3];omega) ha rfl (by simp) fun oseg' own'=>?_;have ok':=C49 ok (v2,E9 r.2.1 (inm h pl),seg2) own' own2 (Dt1 (D62 ..) hb);refine A6 (x.part,x.b,x.p,x.e,x.freq,()) l4 ?_;subst fJ;refine E4 [o4,o3] _ rfl rfl (by simp) (.inl (Dq6 _)) #[.i x.part,.i x.b,.i x.p,.i x.e,.i x.freq] rfl ?_;refine A6 (x.part,x.b,x.p,x.e,x.freq,()) (ldB (n:=n2) (c:=#[.i x.part,.i x.b,.i x.p,.i x.e,.i x.freq]) (T:=204) (fz:=(0,0)) (by simp) rfl) (.cons (.cons (.cons (.cons (.of ⟨?_,?_⟩)))))
  ·have:Q6 ss h pl=some x:=by unfold Q6;rw[aM,e2]
   rw[this];exact⟨x,rfl,rfl⟩
  ·rw[aM];refine⟨sv,oseg',_,?_,ok',by rw[cF,Ak3]⟩;unfold IA;rw[Ab9];simp
theorem Bq7(m:Nat)(ways:Int)(ss:List (List C3))(A:A4)(hA:IX m ways ss A)(h:Nat)(hh:h<2^64)(x:C3)(hf:(J6 ss h).length<100):
  CallF PP 230 #[.p m,.int .u64 h,.agg #[.i x.part,.i x.b,.i x.p,.i x.e,.i x.freq]] A
   fun v L'=>v= .t #[]/\IX m ways (iset ss h (J6 ss h++[x])) L':=by
 obtain⟨sv,oseg,p,r,s,a,rfl,ok,ha,fK,gK,hp,aM,cF⟩:=hA.split h;refine(e230 (some m.z) h (x.part,x.b,x.p,x.e,x.freq,())).c ?_;refine C4 fun n1 _=>?_;rw[aM]at hf⊢;have hC:=(ok.row r (by simp)).sl.els_len K4 (by decide);refine B5 (Ak5 _ m ways sv (by unfold IA;simp) a ha fK (by omega) h hh) (some (a.add (h%sv.len)),()) rfl ?_;rw[hp];refine A5 rfl (A6 r.1 (Cc2 ok ha (fun x hx=>by unfold IA;simp[hx])) (A6 (x.part,x.b,x.p,x.e,x.freq,()) (ldB Dq7 rfl) (C4 fun n2 _=>?_)));generalize dP:(n1,Obj.cells #[.i x.part,.i x.b,.i x.p,.i x.e,.i x.freq] 204)=o1;have iQ: ∀{Z:A4},Sl ((n2,Obj.cells #[.i x.part,.i x.b,.i x.p,.i x.e,.i x.freq] eIs)::Z) ⟨some n2.z,1,1⟩ 5 ([x].flatMap An7):=fun{Z}=>⟨rfl,Dq6 _,.inr ⟨_,rfl,ldB Dq7 rfl⟩⟩;refine E6 Cs1 srcIs ((n2,Obj.cells #[.i x.part,.i x.b,.i x.p,.i x.e,.i x.freq] eIs)::o1::iO m ways sv::(oseg++O9 p)) (O9 s) (ok.row r (by simp)) (by unfold IA;rw[Ab9];simp) (.sl iQ) (Ba8 _) (by simp only;omega) fun v2 seg2 oB own2=>?_;rw[<-Dt3]at own2;refine A5 rfl (ok.own.st ((n2,Obj.cells #[.i x.part,.i x.b,.i x.p,.i x.e,.i x.freq] eIs)::o1::[iO m ways sv]) (O9 p++seg2++O9 s) (p:=p.length) (ws:=Bo4 (v2,r.2.1++[x],seg2)) (by rw[O5 O3,O3];simp) (by rw[O3];omega) ha rfl (by simp) fun oseg' own'=>?_);have ok':=C49 ok (v2,r.2.1++[x],seg2) own' own2 (by rw[Dr4];simp only[Dr8,Du7];omega);refine .cons (.cons (.of ⟨rfl,sv,oseg',_,?_,ok',by rw[cF,Ak3]⟩));unfold IA;rw[Ab9];simp
theorem elemIr:V4 PP tyIr tyIs 1 24 [.slice none 0 0]:=N3 (by kernel_rfl) (by kernel_rfl) rfl (by decide) (by decide)
theorem C41(L:A4)(sets ways:Int)(h:sets<1\/sets>64\/ways<1\/ways>8):Reads PP 92 #[.i sets,.i ways] L (.t #[.q none,.i 30]):=by
 refine(e92 sets ways).r ?_;exact C0 (fun _=>.of ⟨rfl,rfl⟩) fun h1=>C0 (fun _=>.of ⟨rfl,rfl⟩) fun h2=>C0 (fun _=>.of ⟨rfl,rfl⟩) fun h3=>C0 (fun _=>.of ⟨rfl,rfl⟩) fun h4=>by omega
theorem Da3: ∀k:Nat,(List.replicate k ((⟨none,0,0⟩,[],[]):Bl3)).flatMap Bo4=Ag7 [.slice none 0 0] k
 |0=>rfl
 |k+1=>by rw[Dz3,Du1,Da3 k];simp[Ag7,Bo4,Dz3]
theorem Dl9(sets:Nat)(ways:Int)(h1:1<=sets)(h2:sets<=64)(h3:1<=ways)(h4:ways<=8):
  CallF PP 92 #[.i sets,.i ways] [] fun r L'=> ∃m,r= .t #[.p m,.i 0]/\IX m ways (List.replicate sets []) L':=by
 refine(e92 sets ways).c ?_;refine ifN (show¬(sets:Int)<1 by omega) (ifN (show¬(sets:Int)>64 by omega) (ifN (by omega) (ifN (by omega) ?_)));refine A38 elemIr (l:=sets) (c:=sets) (Dq6 _) (by omega) fun n ob own _ _=>C4 fun m _=>.of ⟨m,rfl,⟨some n.z,sets,sets⟩,[(n,ob)],List.replicate sets (⟨none,0,0⟩,[],[]),?_,⟨?_,?_,?_,by rw[Dv3];omega⟩,?_⟩
 ·unfold IA iO;have:O9 (List.replicate sets ((⟨none,0,0⟩,[],[]):Bl3))=[]:=by
   unfold O9;rw[List.flatMap_eq_nil_iff];intro x hx;rw[Dv8 hx]
  rw[this];rfl
 ·have:(List.replicate sets ((⟨none,0,0⟩,[],[]):Bl3)).flatMap Bo4=Ag7 [.slice none 0 0] sets:=by
   exact Da3 sets
  rw[this];exact own
 ·intro r hr;rw[Dv8 hr];exact⟨rfl,Dq6 _,.inl ⟨rfl,rfl,rfl⟩⟩
 ·intro r hr;rw[Dv8 hr];exact Dv6 _
 ·unfold Aa9;rw[List.map_replicate]
def Bl1(h:Nat)(p:Pl)(freq:Int):C3:=⟨R9 h,p.1,p.2.1,p.2.2.1,freq⟩
def Af2(l:List C3)(ways:Int):Bool:=((l.length:Int)==ways)
def Bz6(l:List C3)(ways:Int)(h:Nat)(p:Pl):List C3:=(if Af2 (E9 l (inm h p)) ways then(E9 l (inm h p)).drop 1 else E9 l (inm h p))++[Bl1 h p 0]
def Cp1(l:List C3)(ways:Int)(h:Nat)(p:Pl):C3:=if Af2 (E9 l (inm h p)) ways then(E9 l (inm h p)).headD isz else isz
def Cv9(ss:List (List C3))(ways:Int)(h:Nat)(p:Pl):List (List C3):=iset ss h (Bz6 (J6 ss h) ways h p)
theorem IX.few{m:Nat}{ways:Int}{ss:List (List C3)}{A:A4}(h:IX m ways ss A)(hs:Nat):(J6 ss hs).length<=100:=by
 obtain⟨sv,oseg,p,r,s,a,rfl,ok,ha,fK,gK,hp,aM,cF⟩:=h.split hs;rw[aM];exact ok.few r (by simp)
theorem IX.lt{m:Nat}{ways:Int}{ss:List (List C3)}{A:A4}(h:IX m ways ss A)(hs:Nat):isi ss hs<ss.length:=by
 obtain⟨sv,oseg,rows,rfl,ok,rfl⟩:=h;unfold isi;have aT:(Aa9 rows).length=rows.length:=Dr1 ..;have:=ok.pos;exact Dx6 _ (by omega)
theorem Aq6{ss:List (List C3)}{h:Nat}(hl:isi ss h<ss.length)(row:List C3):J6 (iset ss h row) h=row:=by
 have aT:(iset ss h row).length=ss.length:=Dz4 ..;have e:isi (iset ss h row) h=isi ss h:=by unfold isi;rw[aT]
 unfold J6;rw[e];unfold iset;rw[Dt0,D94 hl];rfl
theorem Aq3(ss:List (List C3))(h:Nat)(r1 r2:List C3):iset (iset ss h r1) h r2=iset ss h r2:=by
 have aT:(iset ss h r1).length=ss.length:=Dz4 ..;have e:isi (iset ss h r1) h=isi ss h:=by unfold isi;rw[aT]
 unfold iset at*;rw[e,List.set_set]
theorem Dm8{l:List C3}(h:0<l.length):l.headD isz=l[0]:=by
 cases l with
 |nil=>simp at h
 |cons y t=>rfl
theorem Dl8(m:Nat)(ways:Int)(ss:List (List C3))(A:A4)(hA:IX m ways ss A)(hw:1<=ways)(h:Nat)(hh:h<2^64)(pl:Pl)(hf:(J6 ss h).length<100):
  CallF PP 173 #[.p m,.int .u64 h,.agg (ki3 pl)] A
   fun v L'=>(∃g:C3,v= .t #[.agg #[.i g.b,.i g.p,.i g.e],.b (Af2 (E9 (J6 ss h) (inm h pl)) ways)]/\g=Cp1 (J6 ss h) ways h pl)/\IX m ways (Cv9 ss ways h pl) L':=by
 refine(e173 (some m.z) h pl).c ?_;have hO:=hA.lt h;refine C4 fun n1 _=>C4 fun n2 _=>ifF rfl ?_;generalize dP:(n1,Obj.cells (ki3 pl) 102)=o1;generalize fJ:(n2,Obj.cells #[.i 0,.i 0,.i 0] 102)=o2;have l1: ∀{Z:A4},C9 n1.z [.i pl.1,.i pl.2.1,.i pl.2.2.1] (o2::o1::Z):=by subst dP;exact ldB (n:=n1) (c:=(ki3 pl)) (T:=102) (fz:=(0,0)) (by simp) rfl
 refine A6 pl l1 (K1 [o2,o1] [] (Ay5 m ways ss A hA h hh pl) (by simp) ?_);rintro _ A1-⟨⟨x,rfl,-⟩,mW⟩;refine⟨((x.part,x.b,x.p,x.e,x.freq,()),(Q6 ss h pl).isSome,()),rfl,?_⟩;have jC:=Aq6 hO (E9 (J6 ss h) (inm h pl));have kW: ∀row',iset (iset ss h (E9 (J6 ss h) (inm h pl))) h row'=iset ss h row':=fun row'=>Aq3 ..;generalize fK:E9 (J6 ss h) (inm h pl)=l1' at mW jC kW⊢;have eJ:Cv9 ss ways h pl=iset ss h ((if Af2 l1' ways then l1'.drop 1 else l1')++[Bl1 h pl 0]):=by unfold Cv9 Bz6;rw[fK]
 have jG:Cp1 (J6 ss h) ways h pl=if Af2 l1' ways then l1'.headD isz else isz:=by unfold Cp1;rw[fK]
 have hl1f:l1'.length<100:=by rw[<-fK];exact Nat.lt_of_le_of_lt (D62 ..) hf
 rw[eJ,jG];clear eJ jG fK;obtain⟨sv,oseg,p,r,s,a,rfl,ok,ha,bK,aJ,hp,aM,cF⟩:=mW.split h;rw[jC]at aM;subst aM;have hg:iO m ways sv∈IA m ways sv oseg (p++r::s):=Dq7;have lJ: ∀{X:A4},(∀x∈oseg,x∈X++IA m ways sv oseg (p++r::s)):=fun x hx=>by unfold IA;simp[hx]
 have eA: ∀{X:A4},(∀x∈r.2.2,x∈X++IA m ways sv oseg (p++r::s)):=fun x hx=>by unfold IA O9;simp[hx]
 refine B5 (Ak5 _ m ways sv (by simp[hg]) a ha bK (by omega) h hh) (some (a.add (h%sv.len)),()) rfl (C4 fun n3 _=>?_);rw[hp];have lr: ∀{o:Nat×Obj},C9 (a.add p.length) [.slice r.1.a r.1.len r.1.cap] (o::([o2,o1]++IA m ways sv oseg (p++r::s))):=fun{o}=>Cc2 ok ha (lJ (X:=[o,o2,o1]));have lsl: ∀{o:Nat×Obj},Sl (o::([o2,o1]++IA m ways sv oseg (p++r::s))) r.1 5 (r.2.1.flatMap An7):=fun{o}=>Au1 ok (eA (X:=[o,o2,o1]));have hC:=(lsl (o:=o1)).els_len K4 (by decide);rw[Dr3];refine A5 rfl (A5 rfl (A6 r.1 lr (A6 ways (i_ways (sv:=sv) (by simp[hg])) ?_)));have hv: ∀r1:Int,((r.1.len:Int)==r1)=(((r.2.1.length:Nat):Int)==r1):=fun r1=>by rw[hC]
 refine W2 (fun(_:RsV []) L'=> ∃(g:C3) (A':A4),L'=(n3,Obj.cells #[.i g.part,.i g.b,.i g.p,.i g.e,.i g.freq] 204)::o2::o1::A'/\g=(if Af2 r.2.1 ways then r.2.1.headD isz else isz)/\IX m ways (iset ss h (if Af2 r.2.1 ways then r.2.1.drop 1 else r.2.1)) A') ?_ ?_
 ·rintro⟨⟩ _ ⟨g,A',rfl,hgg,cM⟩;have fR:=Aq6 hO (if Af2 r.2.1 ways then r.2.1.drop 1 else r.2.1);have oO:(if Af2 r.2.1 ways then r.2.1.drop 1 else r.2.1).length<100:=by
   split
   ·rw[Ds6];omega
   ·omega
  generalize (if Af2 r.2.1 ways then r.2.1.drop 1 else r.2.1)=l2 at cM fR oO⊢;have l1':C9 n1.z [.i pl.1,.i pl.2.1,.i pl.2.2.1] ((n3,Obj.cells #[.i g.part,.i g.b,.i g.p,.i g.e,.i g.freq] 204)::o2::o1::A'):=(l1 (Z:=A')).mono fun _ hx=>Dr6 _ hx;refine A6 pl l1' (B5 (Br3 _ h hh pl) ((R9 h,pl.1,pl.2.1,pl.2.2.1,()),()) rfl ?_);refine K1 [(n3,Obj.cells #[.i g.part,.i g.b,.i g.p,.i g.e,.i g.freq] 204),o2,o1] [] (Bq7 m ways _ A' cM h hh (Bl1 h pl 0) (by rw[fR];exact oO)) (by simp) ?_;rintro _ A2-⟨rfl,vS⟩;rw[fR,Aq3]at vS;refine⟨(),rfl,A6 (g.b,g.p,g.e,()) (ldB (n:=n3) (c:=#[.i g.part,.i g.b,.i g.p,.i g.e,.i g.freq]) (T:=204) (fz:=(0,0)) (by simp) rfl) ?_⟩;subst fJ;refine E4 (n:=n2) (off:=0) (c:=#[.i 0,.i 0,.i 0]) (T:=102) (fz:=(0,0)) [(n3,Obj.cells #[.i g.part,.i g.b,.i g.p,.i g.e,.i g.freq] 204)] (o1::A2) rfl (by simp) (by simp) (.inl (Dq6 _)) #[.i g.b,.i g.p,.i g.e] rfl ?_;refine A6 (g.b,g.p,g.e,()) (ldB (n:=n2) (c:=#[.i g.b,.i g.p,.i g.e]) (T:=102) (fz:=(0,0)) (by simp) rfl) (.cons (.cons (.cons (.of ⟨⟨g,?_,hgg⟩,vS⟩))));rw[hv];rfl
 intro j hj;refine G1 (fun fX=>?_) (fun fX=>?_)
 ·rw[hv]at fX;have jI:Af2 r.2.1 ways=true:=fX;have ap:((r.2.1.length:Nat):Int)=ways:=by simpa using fX
  have h0:0<r.2.1.length:=by omega
  obtain⟨b,fZ,cD⟩:=(lsl (o:=(n3,Obj.cells #[.i 0,.i 0,.i 0,.i 0,.i 0] 204))).el K4 (by decide) h0;have hx:r.2.1.headD isz=r.2.1[0]:=Dm8 h0;have qQ:=Cp2 r.1 r.2.1 r.2.2 (ok.row r (by simp)) (by omega) 0 h0;refine A5 rfl (A6 r.1 lr (A5 fZ (D9 (by decide) (by omega) (A6 (r.2.1[0].part,r.2.1[0].b,r.2.1[0].p,r.2.1[0].e,r.2.1[0].freq,()) cD ?_))));clear cD;generalize r.2.1[0]=x0 at hx⊢;refine E4 [] _ rfl rfl (by simp) (.inl (Dq6 _)) #[.i x0.part,.i x0.b,.i x0.p,.i x0.e,.i x0.freq] rfl ?_;rw[Ds1];refine A5 rfl (A6 r.1 lr ?_);refine K1 ((n3,Obj.cells #[.i x0.part,.i x0.b,.i x0.p,.i x0.e,.i x0.freq] 204)::o2::o1::iO m ways sv::(oseg++O9 p)) (O9 s) qQ (by unfold IA;rw[Ab9];simp) ?_;rintro _ seg2-⟨v2,rfl,own2⟩;refine⟨(v2,()),rfl,A5 rfl ?_⟩;have e3:r.2.1.take 0++r.2.1.drop (0+1)=r.2.1.drop 1:=by simp
  rw[e3]at own2;refine ok.own.st ((n3,Obj.cells #[.i x0.part,.i x0.b,.i x0.p,.i x0.e,.i x0.freq] 204)::o2::o1::[iO m ways sv]) (O9 p++seg2++O9 s) (p:=p.length) (ws:=Bo4 (v2,r.2.1.drop 1,seg2)) (by rw[O5 O3,O3];simp) (by rw[O3];omega) ha rfl (by simp) fun oseg' own'=>?_;have ok':=C49 ok (v2,r.2.1.drop 1,seg2) own' own2 (by rw[Ds6];omega);refine hj _ _ ⟨x0,IA m ways sv oseg' (p++(v2,r.2.1.drop 1,seg2)::s),?_,by rw[Dq5 jI,hx],?_⟩
  ·unfold IA;rw[Ab9];simp
  ·rw[Dq5 jI];exact⟨sv,oseg',_,rfl,ok',by rw[Ak3,<-kW,cF]⟩
 ·rw[hv]at fX;have jI: ¬Af2 r.2.1 ways=true:=by unfold Af2;rw[fX];decide
  refine hj _ _ ⟨isz,IA m ways sv oseg (p++r::s),rfl,by rw[Dq4 jI],?_⟩;rw[Dq4 jI];exact⟨sv,oseg,_,rfl,ok,by rw[Ak3,<-kW,cF]⟩
theorem B57(m:Nat)(ways:Int)(ss:List (List C3))(A:A4)(hA:IX m ways ss A)(h:Nat)(hh:h<2^64)(pl:Pl):
  CallF PP 106 #[.p m,.int .u64 h,.agg (ki3 pl)] A
   fun v L'=>v= .b (Q6 ss h pl).isSome/\IX m ways (iset ss h (E9 (J6 ss h) (inm h pl))) L':=by
 refine(e106 (some m.z) h pl).c ?_;refine C4 fun n1 _=>A6 pl (ldB Dq7 rfl) (K1 [(n1,Obj.cells (ki3 pl) 102)] [] (Ay5 m ways ss A hA h hh pl) (by simp) ?_);rintro _ A1-⟨⟨x,rfl,-⟩,mW⟩;refine⟨((x.part,x.b,x.p,x.e,x.freq,()),(Q6 ss h pl).isSome,()),rfl,C4 fun n2 _=>E4 [] _ rfl rfl (by simp) (.inl (Dq6 _)) #[.i x.part,.i x.b,.i x.p,.i x.e,.i x.freq] rfl ?_⟩;rw[Dr3];exact .cons (.cons (.of ⟨rfl,mW⟩))
def Aq7(ss:List (List C3))(h:Nat)(p q:Pl):List (List C3):=match Q6 ss h p with
 |none=>ss
 |some x=>iset ss h (E9 (E9 (J6 ss h) (inm h p)) (inm h q)++[Bl1 h q (Aa2 (x.freq-1) 0)])
theorem C44(m:Nat)(ways:Int)(ss:List (List C3))(A:A4)(hA:IX m ways ss A)(h:Nat)(hh:h<2^64)(p q:Pl)(bQ: ∀s∈J6 ss h,0<=s.freq/\s.freq<=3):
  CallF PP 294 #[.p m,.int .u64 h,.agg (ki3 p),.agg (ki3 q)] A
   fun v L'=>v= .b (Q6 ss h p).isSome/\IX m ways (Aq7 ss h p q) L':=by
 refine(e294 (some m.z) h p q).c ?_;have hO:=hA.lt h;have dM:=hA.same h;refine C4 fun n1 _=>C4 fun n2 _=>A6 p (ldB (n:=n1) (c:=(ki3 p)) (T:=102) (fz:=(0,0)) (by simp) rfl) ?_;generalize dP:(n1,Obj.cells (ki3 p) 102)=o1;generalize fJ:(n2,Obj.cells (ki3 q) 102)=o2;have l2: ∀{Z:A4} {o:Nat×Obj},C9 n2.z [.i q.1,.i q.2.1,.i q.2.2.1] (o::o2::Z):=by subst fJ;exact ldB (n:=n2) (c:=(ki3 q)) (T:=102) (fz:=(0,0)) (by simp) rfl
 refine K1 [o2,o1] [] (Ay5 m ways ss A hA h hh p) (by simp) ?_;rintro _ A1-⟨⟨x,rfl,hx⟩,mW⟩;refine⟨((x.part,x.b,x.p,x.e,x.freq,()),(Q6 ss h p).isSome,()),rfl,C4 fun n3 _=>E4 [] _ rfl rfl (by simp) (.inl (Dq6 _)) #[.i x.part,.i x.b,.i x.p,.i x.e,.i x.freq] rfl ?_⟩;rw[Dr3,Ds1];generalize yB:(n3,Obj.cells #[.i x.part,.i x.b,.i x.p,.i x.e,.i x.freq] 204)=o3;have l3: ∀{Z:A4},C9 (Addr.add n3.z 4) [.i x.freq] (o3::Z):=by subst yB;exact ldB Dq7 rfl
 cases gG:Q6 ss h p with
 |none=>
  refine ifF rfl (.cons (.cons (.cons (.of ⟨rfl,?_⟩))));have aM:E9 (J6 ss h) (inm h p)=J6 ss h:=by
   rcases W4 (J6 ss h) (inm h p)with⟨_,_,e⟩|⟨j,hj,_,e,_⟩
   ·exact e
   ·unfold Q6 at gG;rw[gG]at e;cases e
  unfold Aq7;rw[gG];rw[aM,dM]at mW;exact mW
 |some y=>
  rw[gG]at hx;have aj:x=y:=hx;subst aj;have bY:x∈J6 ss h:=by unfold Q6 at gG;exact Ef3 gG
  have jH:=bQ x bY;have jC:=Aq6 hO (E9 (J6 ss h) (inm h p));refine ifT rfl (A6 q l2 (K1 [o3,o2,o1] [] (Ay5 m ways _ A1 mW h hh q) (by simp) ?_));rintro _ A2-⟨⟨y,rfl,-⟩,vS⟩;refine⟨((y.part,y.b,y.p,y.e,y.freq,()),(Q6 _ h q).isSome,()),rfl,?_⟩;rw[jC,Aq3]at vS;refine A6 q l2 (A6 x.freq l3 (B5 (Br3 _ h hh q) ((R9 h,q.1,q.2.1,q.2.2.1,()),()) rfl (F7 l3 ?_)));rw[C1 (by omega) (by omega)];have fR:=Aq6 hO (E9 (E9 (J6 ss h) (inm h p)) (inm h q));have bS:(E9 (E9 (J6 ss h) (inm h p)) (inm h q)).length<100:=by
   have h1:=hA.few h;have h2:(E9 (J6 ss h) (inm h p)).length<(J6 ss h).length:=by
    rcases W4 (J6 ss h) (inm h p)with⟨_,e,_⟩|⟨j,hj,_,_,_,e⟩
    ·unfold Q6 at gG;rw[gG]at e;cases e
    ·rw[e,Dr4,Ds0,Ds6];omega
   have h3:(E9 (E9 (J6 ss h) (inm h p)) (inm h q)).length<=(E9 (J6 ss h) (inm h p)).length:=D62 ..;omega
  refine K1 [o3,o2,o1] [] (Bq7 m ways _ A2 vS h hh (Bl1 h q (Aa2 (x.freq-1) 0)) (by rw[fR];exact bS)) (by simp) ?_;rintro _ A3-⟨rfl,ef⟩;rw[fR,Aq3]at ef;rw[Dr3];refine⟨(),rfl,.cons (.cons (.cons (.of ⟨rfl,?_⟩)))⟩;unfold Aq7;rw[gG];exact ef
def ilen(ss:List (List C3)):Nat:=(ss.map List.length).sum
theorem Cp0(ss:List (List C3))(i:Nat)(hi:i<ss.length):ilen (ss.take (i+1))=ilen (ss.take i)+ss[i].length:=by
 unfold ilen;rw[Ds4 hi,Ds2,List.sum_append];simp
theorem Dm1(m:Nat)(ways:Int)(ss:List (List C3))(A:A4)(hA:IX m ways ss A):Reads PP 68 #[.p m] A (.i (ilen ss:Int)):=by
 obtain⟨sv,oseg,rows,rfl,ok,rfl⟩:=hA;refine(e68 (some m.z)).r ?_;have aT:Sl (IA m ways sv oseg rows) sv 1 (rows.flatMap Bo4):=ok.own.sl.left.cons;have hC:=aT.els_len O3 (by decide);have bH:=ok.pos;refine ifT rfl (A5 rfl (A6 sv (B58 (ways:=ways) Dq7) ?_));refine G7 (fun k z L'=>L'=IA m ways sv oseg rows/\ ∃i:Nat,i<=rows.length/\k=rows.length-i/\z=(((ilen (Aa9 (rows.take i)):Nat):Int),(i:Int),())/\ilen (Aa9 (rows.take i))<=100*i) rows.length ⟨rfl,0,by omega,by omega,rfl,by simp[ilen,Aa9]⟩ ?_;rintro k z L ⟨rfl,i,hi,rfl,rfl,hb⟩;refine C0 (fun(hO:(i:Int)<sv.len)=>?_) (fun(aS: ¬(i:Int)<sv.len)=>?_)
 ·have hJ:i<rows.length:=by omega
  obtain⟨a,ha,cD⟩:=aT.el O3 (by decide) hJ;have bo:=(ok.row rows[i] (Dr7 hJ)).sl.els_len K4 (by decide);have hrf:=ok.few rows[i] (Dr7 hJ);refine A5 ha (D9 (show(0:Int)<=i by omega) hO (A6 rows[i].1 (by rw[Dr0];exact cD) ?_));have hs:ilen (Aa9 (rows.take (i+1)))=ilen (Aa9 (rows.take i))+rows[i].2.1.length:=by
   unfold Aa9;have:=Cp0 (rows.map fun r=>r.2.1) i (by rw[Dr1];exact hJ);rw[<-D15,<-D15,D07]at this;exact this
  refine⟨rows.length-(i+1),by omega,rfl,i+1,by omega,rfl,?_,by omega⟩;show(IntKind.i64.wrap (((ilen (Aa9 (rows.take i)):Nat):Int)+(rows[i].1.len:Int)),IntKind.i64.wrap ((i:Int)+1),())=_;rw[C1 (n:=((ilen (Aa9 (rows.take i)):Nat):Int)+(rows[i].1.len:Int)) (by omega) (by omega),C1 (n:=(i:Int)+1) (by omega) (by omega),hs,bo];rfl
 ·obtain rfl:i=rows.length:=by omega
  rw[Ds9];exact .of ⟨rfl,rfl⟩
def Bx9(p:Pl):List Value:=[.i p.1,.i p.2.1,.i p.2.2.1]
theorem Ah9(p:Pl):(Bx9 p).length=3:=rfl
theorem Bx8(l:List Pl):(l.flatMap Bx9).all T6=true:=by
 induction l with
 |nil=>rfl
 |cons e r ih=>rw[Du1,D84,ih];rfl
theorem elemPl:V4 PP 55 102 3 24 [.i 0,.i 0,.i 0]:=N3 (by kernel_rfl) (by kernel_rfl) rfl (by decide) (by decide)
theorem srcPl:Ax5 PP 55:=.inl ⟨102,by kernel_rfl⟩
def C3.pl(s:C3):Pl:=(s.b,s.p,s.e,())
def J4(l:List C3)(h:Nat):List Pl:=(l.filter fun s=>decide (s.part=R9 h)).map C3.pl
theorem An6(l:List C3)(x:C3)(h:Nat):J4 (l++[x]) h=J4 l h++(if x.part=R9 h then[x.pl]else[]):=by
 unfold J4;rw[Dz8,Ds2];by_cases hx:x.part=R9 h<;>simp[hx]
theorem B56(m:Nat)(ways:Int)(ss:List (List C3))(A:A4)(hA:IX m ways ss A)(h:Nat)(hh:h<2^64):
  CallF PP 117 #[.p m,.int .u64 h] A
   fun v L'=> ∃(u:SlV) (seg:A4),v= .slice u.a u.len u.cap/\L'=seg++A/\Own u 3 102 ((J4 (J6 ss h) h).flatMap Bx9) seg:=by
 obtain⟨sv,oseg,p,r,s,a,rfl,ok,ha,fK,gK,hp,aM,cF⟩:=hA.split h;refine(e117 (some m.z) h).c ?_;refine ifF rfl (B5 (Ak5 _ m ways sv (by unfold IA;simp) a ha fK (by omega) h hh) (some (a.add (h%sv.len)),()) rfl ?_);rw[hp];have lsl:Sl (IA m ways sv oseg (p++r::s)) r.1 5 (r.2.1.flatMap An7):=Au1 ok (fun x hx=>by unfold IA O9;simp[hx]);have hC:=lsl.els_len K4 (by decide);have hb:=ok.few r (by simp);refine A5 rfl (A6 r.1 (Cc2 ok ha (fun x hx=>by unfold IA;simp[hx])) ?_);rw[aM];refine G7 (fun k z L'=> ∃(i:Nat) (u:SlV) (seg J:A4),i<=r.2.1.length/\k=r.2.1.length-i/\z=(u,(i:Int),())/\L'=J++seg++IA m ways sv oseg (p++r::s)/\Own u 3 102 ((J4 (r.2.1.take i) h).flatMap Bx9) seg) r.2.1.length
  ⟨0,⟨none,0,0⟩,[],[],by omega,by omega,rfl,rfl,⟨rfl,Dq6 _,.inl ⟨rfl,rfl,rfl⟩⟩⟩ ?_
 rintro k z L' ⟨i,u,seg,J,hi,rfl,rfl,rfl,own⟩;refine C0 (fun(hO:(i:Int)<r.1.len)=>?_) (fun(aS: ¬(i:Int)<r.1.len)=>?_)
 ·have hJ:i<r.2.1.length:=by omega
  have lsl':Sl (J++seg++IA m ways sv oseg (p++r::s)) r.1 5 (r.2.1.flatMap An7):=lsl.right;obtain⟨b,fZ,cD⟩:=lsl'.el K4 (by decide) hJ;have bT:=An6 (r.2.1.take i) r.2.1[i] h;rw[<-Ds4 hJ]at bT;refine A5 fZ (D9 (show(0:Int)<=i by omega) hO (A6 (r.2.1[i].part,r.2.1[i].b,r.2.1[i].p,r.2.1[i].e,r.2.1[i].freq,()) (by rw[Dr0];exact cD) ?_));clear cD;generalize r.2.1[i]=x at bT⊢;have eZ:=own.sl.els_len Ah9 (by decide);have fM:(J4 (r.2.1.take i) h).length<=i:=by
   unfold J4;rw[Dr1];have:=Dz7 (fun s=>decide (s.part=R9 h)) (r.2.1.take i);rw[Ds0]at this;omega
  refine C4 fun n1 _=>E4 [] _ rfl rfl (by simp) (.inl (Dq6 _)) #[.i x.part,.i x.b,.i x.p,.i x.e,.i x.freq] rfl ?_;rw[Ds1];generalize dP:(n1,Obj.cells #[.i x.part,.i x.b,.i x.p,.i x.e,.i x.freq] 204)=o1;have l1: ∀{Z:A4},C9 n1.z [.i x.part] (o1::Z):=by subst dP;exact ldB Dq7 rfl
  have l2: ∀{Z:A4},C9 (Addr.add n1.z 1) [.i x.b,.i x.p,.i x.e] (o1::Z):=by subst dP;exact ldB Dq7 rfl
  have hw:IntKind.i64.wrap ((i:Int)+1)=((i+1:Nat):Int):=by rw[C1 (by omega) (by omega)];omega
  refine A6 x.part l1 (B5 (B54 _ h hh) (R9 h,()) rfl (F7 l1 ?_));refine Ac2 (fun hx=>?_) (fun hx=>?_)
  ·have aX:x.part=R9 h:=hx;rw[Dq5 aX]at bT;refine A6 x.pl l2 (C4 fun n2 _=>?_);have iQ: ∀{Z:A4},Sl ((n2,Obj.cells #[.i x.b,.i x.p,.i x.e] 102)::Z) ⟨some n2.z,1,1⟩ 3 ([x.pl].flatMap Bx9):=fun{Z}=>⟨rfl,Dq6 _,.inr ⟨_,rfl,ldB Dq7 rfl⟩⟩;refine E6 elemPl srcPl ((n2,Obj.cells #[.i x.b,.i x.p,.i x.e] 102)::o1::J) (IA m ways sv oseg (p++r::s)) own (by simp[C3.pl]) (.sl iQ) (Bx8 _) (by simp only;omega) fun v2 seg2 oB own2=>?_;rw[<-Dt3,<-bT]at own2;refine⟨r.2.1.length-(i+1),by omega,i+1,v2,seg2,(n2,Obj.cells #[.i x.b,.i x.p,.i x.e] 102)::o1::J,by omega,rfl,?_,rfl,own2⟩;show(v2,IntKind.i64.wrap ((i:Int)+1),())=_;rw[hw]
  ·have aX: ¬x.part=R9 h:=hx;rw[Dq4 aX,Dr3]at bT;rw[<-bT]at own;refine⟨r.2.1.length-(i+1),by omega,i+1,u,seg,o1::J,by omega,rfl,?_,rfl,own⟩;show(u,IntKind.i64.wrap ((i:Int)+1),())=_;rw[hw]
 ·obtain rfl:i=r.2.1.length:=by omega
  rw[Ds9]at own;rw[Ds5];exact .app (.of ⟨u,seg,rfl,rfl,own⟩)
def Cw0(s:C3):C3:={s with freq:=Ad3 (s.freq+1) 3}
def Ah0(l:List C3)(nm:Al8):List C3:=match l.findIdx? (fun s=>decide (s.nm=nm))with
 |some j=>l.modify j Cw0
 |none=>l
theorem C58(l:List C3)(j:Nat)(hj:j<l.length)(x:C3)(n:Int)(hx:l[j]=x):A77 (l.flatMap An7) (j*5+4) [.i n]=(l.take j++{x with freq:=n}::l.drop (j+1)).flatMap An7:=by
 have hl:l=l.take j++x::l.drop (j+1):=by rw[<-hx,<-Dv1 hj,Dw1]
 have hp:((l.take j).flatMap An7).length=j*5:=by rw[O5 K4,Ds0,Dx1 (by omega)]
 conv=>lhs;rw[hl]
 rw[Dt3,Dt3,Du1,Du1];unfold A77;have h1:((l.take j).flatMap An7++(An7 x++(l.drop (j+1)).flatMap An7)).take (j*5+4)=(l.take j).flatMap An7++[.i x.part,.i x.b,.i x.p,.i x.e]:=by
  rw[List.take_append,Dw9 (by omega),hp,show j*5+4-j*5=4 by omega];rfl
 have h2:((l.take j).flatMap An7++(An7 x++(l.drop (j+1)).flatMap An7)).drop (j*5+4+[Value.i n].length)=(l.drop (j+1)).flatMap An7:=by
  rw[show j*5+4+[Value.i n].length=j*5+5 from rfl,<-Dw6,D29 hp];rfl
 rw[h1,h2];simp[An7]
theorem Dm5(v:SlV)(l:List C3)(seg:A4)(own:Own v 5 eIs (l.flatMap An7) seg)(j:Nat)(hj:j<l.length)(a:Addr)(ha:v.a=some a)(bQ:0<=l[j].freq/\l[j].freq<=3):
  CallF PP 125 #[.q (some (a.add (j*5)))] seg fun r L'=>r= .t #[]/\Own v 5 eIs ((l.take j++Cw0 l[j]::l.drop (j+1)).flatMap An7) L':=by
 refine(e125 (some (a.add (j*5)))).c ?_;obtain⟨a',cQ,cD⟩:=own.sl.el K4 (by decide) hj;rw[ha]at cQ;obtain rfl:=Dq9 cQ;have dR:Addr.add (a.add (j*5)) 4=a.add (j*5+4):=by
  unfold Addr.add;by_cases h1:j*5=0<;>simp[h1,D34]
 refine A5 rfl (A6 l[j].freq (cD.one 4 rfl) (A5 rfl ?_));rw[C1 (by omega) (by omega)];refine own.st [] [] (p:=j*5+4) (by rw[O5 K4];simp only[Dr8,Du7];omega) (by simp) ha dR (by simp) fun seg' own'=>.of ⟨rfl,?_⟩;rw[C58 l j hj l[j] _ rfl]at own';rw[Ds1,Dr3];exact own'
theorem C59(A:A4)(ad:Addr)(fr:Int)(hl:C9 (ad.add 4) [.i fr] A)(n:Nat)(x:Int):
  CallF PP 324 #[.q (some ad),.p n] ((n,Obj.cells #[.i x] 3)::A) fun r L'=>r= .t #[]/\L'=(n,Obj.cells #[.i fr] 3)::A:=by
 refine(e324 (some ad) (some n.z)).c ?_;refine A5 rfl (A6 fr (hl.mono fun _ hx=>Dr6 _ hx) (A5 rfl (E4 [] _ rfl rfl (by simp) (.inl (Dq6 _)) #[.i fr] rfl (.of ⟨rfl,rfl⟩))))
theorem A55{l:List C3}{nm:Al8}{i:Nat}(hi:i<l.length)(he:l[i].nm=nm)(hn: ∀s∈l.take i,s.nm≠nm):l.findIdx? (fun s=>decide (s.nm=nm))=some i:=by
 rw[D09];refine⟨hi,by simpa using he,fun j hj=>?_⟩;have:=hn l[j] (by rw[D19];exact⟨j,by omega,rfl⟩);simpa using this
theorem Cl9(l:List C3)(i:Nat)(hi:i<l.length):l.modify i Cw0=l.take i++Cw0 l[i]::l.drop (i+1):=by
 rw[Ef4 hi]
theorem Cn9(m:Nat)(ways:Int)(ss:List (List C3))(A:A4)(hA:IX m ways ss A)(h:Nat)(hh:h<2^64)(pl:Pl)(bQ: ∀s∈J6 ss h,0<=s.freq/\s.freq<=3):
  CallF PP 124 #[.p m,.int .u64 h,.agg (ki3 pl),.func (.func 125) #[] #[]] A
   fun v L'=>v= .b (Q6 ss h pl).isSome/\IX m ways (iset ss h (Ah0 (J6 ss h) (inm h pl))) L':=by
 have dM:=hA.same h;obtain⟨sv,oseg,p,r,s,a,rfl,ok,ha,fK,gK,hp,aM,cF⟩:=hA.split h;refine(e124 (some m.z) h pl ⟨.func 125,#[],#[]⟩).c ?_;have hg:iO m ways sv∈IA m ways sv oseg (p++r::s):=Dq7;have lJ: ∀{X:A4},(∀x∈oseg,x∈X++IA m ways sv oseg (p++r::s)):=fun x hx=>by unfold IA;simp[hx]
 have eA: ∀{X:A4},(∀x∈r.2.2,x∈X++IA m ways sv oseg (p++r::s)):=fun x hx=>by unfold IA O9;simp[hx]
 have hb:=ok.few r (by simp);refine C4 fun n1 _=>ifF rfl ?_;generalize dP:(n1,Obj.cells (ki3 pl) 102)=o1;have l1: ∀{Z:A4},C9 n1.z [.i pl.1,.i pl.2.1,.i pl.2.2.1] (o1::Z):=by subst dP;exact ldB Dq7 rfl
 have lr:C9 (a.add p.length) [.slice r.1.a r.1.len r.1.cap] (o1::IA m ways sv oseg (p++r::s)):=Cc2 ok ha (lJ (X:=[o1]));refine A6 pl l1 (B5 (Ak5 _ m ways sv (by simp[hg]) a ha fK (by omega) h hh) (some (a.add (h%sv.len)),()) rfl (F7 l1 ?_));rw[hp];refine A5 rfl (A6 r.1 lr (B5 (Br3 _ h hh pl) ((R9 h,pl.1,pl.2.1,pl.2.2.1,()),()) rfl (F7 lr (C4 fun n2 _=>E4 [] _ rfl rfl (by simp) (.inl (Dq6 _)) #[.i (R9 h),.i pl.1,.i pl.2.1,.i pl.2.2.1] rfl ?_))));rw[Ds1];generalize fJ:(n2,Obj.cells #[.i (R9 h),.i pl.1,.i pl.2.1,.i pl.2.2.1] 202)=o2;have l2: ∀{Z:A4},C9 n2.z [.i (R9 h),.i pl.1,.i pl.2.1,.i pl.2.2.1] (o2::Z):=by subst fJ;exact ldB Dq7 rfl
 have lsl:Sl (o2::o1::IA m ways sv oseg (p++r::s)) r.1 5 (r.2.1.flatMap An7):=Au1 ok (eA (X:=[o2,o1]));have hC:=lsl.els_len K4 (by decide);rw[aM]at bQ;refine G7 (fun k z L'=>L'=o2::o1::IA m ways sv oseg (p++r::s)/\ ∃i:Nat,i<=r.2.1.length/\k=r.2.1.length-i/\z=((i:Int),())/\ ∀s∈r.2.1.take i,s.nm≠inm h pl) r.2.1.length ⟨rfl,0,by omega,by omega,rfl,by simp⟩ ?_;rintro k z L' ⟨rfl,i,hi,rfl,rfl,hn⟩;refine C0 (fun(hO:(i:Int)<r.1.len)=>?_) (fun(aS: ¬(i:Int)<r.1.len)=>?_)
 ·have hJ:i<r.2.1.length:=by omega
  have kL:(0:Int)<=(i:Int):=by omega
  obtain⟨b,fZ,cD⟩:=lsl.el K4 (by decide) hJ;refine A5 fZ (D9 kL hO (A6 (r.2.1[i].part,r.2.1[i].b,r.2.1[i].p,r.2.1[i].e,()) ?_ (A6 (R9 h,pl) l2 (eqNm _ _ _ _ _ _ _ _ ?_))))
  ·rw[Dr0];exact cD.pre fun j u hu=>by rcases j with _|_|_|_|j<;>first|exact hu|exact absurd (show(none:Option Value)=some u from hu) (by simp)
  refine C0 (fun(he:r.2.1[i].nm=inm h pl)=>?_) (fun(he: ¬r.2.1[i].nm=inm h pl)=>?_)
  ·have nQ:=A55 hJ he hn;refine A5 fZ (D9 kL hO (Ab4 (by kernel_rfl) ?_));refine K1 (o2::o1::iO m ways sv::(oseg++O9 p)) (O9 s) (Dm5 r.1 r.2.1 r.2.2 (ok.row r (by simp)) i hJ b fZ (bQ _ (Dr7 hJ))) (by unfold IA;rw[Ab9];simp) ?_;rintro _ seg2-⟨rfl,own2⟩;refine⟨(),rfl,?_⟩;refine .cons (.cons (.of ⟨?_,?_⟩))
   ·unfold Q6;rcases W4 r.2.1 (inm h pl)with⟨e1,_⟩|⟨j,hj,e1,e2,_⟩
    ·rw[nQ]at e1;cases e1
    ·rw[aM,e2];rfl
   ·rw[aM];unfold Ah0;rw[nQ];simp only;rw[Cl9 _ _ hJ];refine⟨sv,oseg,p++(r.1,r.2.1.take i++Cw0 r.2.1[i]::r.2.1.drop (i+1),seg2)::s,by unfold IA;rw[Ab9];simp,?_,by rw[cF,Ak3]⟩;refine C49 ok (r.1,r.2.1.take i++Cw0 r.2.1[i]::r.2.1.drop (i+1),seg2) (seg':=oseg) ?_ own2 ?_
    ·rw[rput];have e:(p++(r.1,r.2.1.take i++Cw0 r.2.1[i]::r.2.1.drop (i+1),seg2)::s).flatMap Bo4=(p++r::s).flatMap Bo4:=by
      rw[Dt3,Dt3,Du1,Du1];rfl
     rw[e];exact ok.own
    ·simp only[Dr4,Dr8,Ds0,Ds6];omega
  ·refine⟨r.2.1.length-(i+1),by omega,rfl,i+1,by omega,rfl,?_,fun e hx=>?_⟩
   ·rw[C1 (by first|omega|(simp only;omega)) (by first|omega|(simp only;omega))];rfl
   ·rw[Ds4 hJ]at hx;rcases Dr5.1 hx with hx|hx
    ·exact hn e hx
    ·rw[Dr2.1 hx];exact he
 ·obtain rfl:i=r.2.1.length:=by omega
  rw[Ds9]at hn;have e0:r.2.1.findIdx? (fun s=>decide (s.nm=inm h pl))=none:=by
   rw[D10];intro s hs;simpa using hn s hs
  refine .cons (.cons (.of ⟨?_,?_⟩))
  ·unfold Q6;rcases W4 r.2.1 (inm h pl)with⟨_,e2,_⟩|⟨j,hj,e1,e2,_⟩
   ·rw[aM,e2];rfl
   ·rw[e0]at e1;cases e1
  ·unfold Ah0;rw[aM,e0];simp only;rw[<-aM,dM];exact hA
def A47(ss:List (List C3))(h:Nat)(p:Pl):Int:=match Q6 ss h p with|some x=>x.freq|none=>0
theorem Co0(m:Nat)(ways:Int)(ss:List (List C3))(A:A4)(hA:IX m ways ss A)(h:Nat)(hh:h<2^64)(pl:Pl)(nf:Nat):
  CallF PP 124 #[.p m,.int .u64 h,.agg (ki3 pl),.func (.func 324) #[] #[.p nf]] ((nf,Obj.cells #[.i 0] 3)::A)
   fun v L'=>v= .b (Q6 ss h pl).isSome/\L'=(nf,Obj.cells #[.i (A47 ss h pl)] 3)::A:=by
 obtain⟨sv,oseg,p,r,s,a,rfl,ok,ha,fK,gK,hp,aM,cF⟩:=hA.split h;refine(e124 (some m.z) h pl ⟨.func 324,#[],#[.p nf]⟩).c ?_;have hg:iO m ways sv∈IA m ways sv oseg (p++r::s):=Dq7;have lJ: ∀{X:A4},(∀x∈oseg,x∈X++IA m ways sv oseg (p++r::s)):=fun x hx=>by unfold IA;simp[hx]
 have eA: ∀{X:A4},(∀x∈r.2.2,x∈X++IA m ways sv oseg (p++r::s)):=fun x hx=>by unfold IA O9;simp[hx]
 have hb:=ok.few r (by simp);refine C4 fun n1 _=>ifF rfl ?_;generalize dP:(n1,Obj.cells (ki3 pl) 102)=o1;generalize ce:(nf,Obj.cells #[.i 0] 3)=o0;have l1: ∀{Z:A4},C9 n1.z [.i pl.1,.i pl.2.1,.i pl.2.2.1] (o1::Z):=by subst dP;exact ldB Dq7 rfl
 have lr:C9 (a.add p.length) [.slice r.1.a r.1.len r.1.cap] (o1::o0::IA m ways sv oseg (p++r::s)):=Cc2 ok ha (lJ (X:=[o1,o0]));refine A6 pl l1 (B5 (Ak5 _ m ways sv (by simp[hg]) a ha fK (by omega) h hh) (some (a.add (h%sv.len)),()) rfl (F7 l1 ?_));rw[hp];refine A5 rfl (A6 r.1 lr (B5 (Br3 _ h hh pl) ((R9 h,pl.1,pl.2.1,pl.2.2.1,()),()) rfl (F7 lr (C4 fun n2 _=>E4 [] _ rfl rfl (by simp) (.inl (Dq6 _)) #[.i (R9 h),.i pl.1,.i pl.2.1,.i pl.2.2.1] rfl ?_))));rw[Ds1];generalize fJ:(n2,Obj.cells #[.i (R9 h),.i pl.1,.i pl.2.1,.i pl.2.2.1] 202)=o2;have l2: ∀{Z:A4},C9 n2.z [.i (R9 h),.i pl.1,.i pl.2.1,.i pl.2.2.1] (o2::Z):=by subst fJ;exact ldB Dq7 rfl
 have lsl0:Sl (IA m ways sv oseg (p++r::s)) r.1 5 (r.2.1.flatMap An7):=Au1 ok (eA (X:=[]));have lsl:Sl (o2::o1::o0::IA m ways sv oseg (p++r::s)) r.1 5 (r.2.1.flatMap An7):=Au1 ok (eA (X:=[o2,o1,o0]));have hC:=lsl.els_len K4 (by decide);refine G7 (fun k z L'=>L'=o2::o1::o0::IA m ways sv oseg (p++r::s)/\ ∃i:Nat,i<=r.2.1.length/\k=r.2.1.length-i/\z=((i:Int),())/\ ∀s∈r.2.1.take i,s.nm≠inm h pl) r.2.1.length ⟨rfl,0,by omega,by omega,rfl,by simp⟩ ?_;rintro k z L' ⟨rfl,i,hi,rfl,rfl,hn⟩;refine C0 (fun(hO:(i:Int)<r.1.len)=>?_) (fun(aS: ¬(i:Int)<r.1.len)=>?_)
 ·have hJ:i<r.2.1.length:=by omega
  have kL:(0:Int)<=(i:Int):=by omega
  obtain⟨b,fZ,cD⟩:=lsl.el K4 (by decide) hJ;refine A5 fZ (D9 kL hO (A6 (r.2.1[i].part,r.2.1[i].b,r.2.1[i].p,r.2.1[i].e,()) ?_ (A6 (R9 h,pl) l2 (eqNm _ _ _ _ _ _ _ _ ?_))))
  ·rw[Dr0];exact cD.pre fun j u hu=>by rcases j with _|_|_|_|j<;>first|exact hu|exact absurd (show(none:Option Value)=some u from hu) (by simp)
  refine C0 (fun(he:r.2.1[i].nm=inm h pl)=>?_) (fun(he: ¬r.2.1[i].nm=inm h pl)=>?_)
  ·have nQ:=A55 hJ he hn;obtain⟨b2,dE,nJ⟩:=lsl0.el K4 (by decide) hJ;rw[fZ]at dE;obtain rfl:=Dq9 dE;have gG:Q6 ss h pl=some r.2.1[i]:=by
    unfold Q6;rcases W4 r.2.1 (inm h pl)with⟨e1,_⟩|⟨j,hj,e1,e2,_⟩
    ·rw[nQ]at e1;cases e1
    ·rw[nQ]at e1;obtain rfl:=Dq9 e1;rw[aM,e2]
   subst ce;refine A5 fZ (D9 kL hO (Ab4 (by kernel_rfl) ?_));refine K1 [o2,o1] [] (C59 (IA m ways sv oseg (p++r::s)) (b.add ((i:Int).toNat*5)) r.2.1[i].freq (by rw[Dr0];exact nJ.one 4 rfl) nf 0) (by simp) ?_;rintro _ _-⟨rfl,rfl⟩;rw[Dr3];refine⟨(),rfl,.cons (.cons (.of ⟨by rw[gG];rfl,?_⟩))⟩;unfold A47;rw[gG];rfl
  ·refine⟨r.2.1.length-(i+1),by omega,rfl,i+1,by omega,rfl,?_,fun e hx=>?_⟩
   ·rw[C1 (by first|omega|(simp only;omega)) (by first|omega|(simp only;omega))];rfl
   ·rw[Ds4 hJ]at hx;rcases Dr5.1 hx with hx|hx
    ·exact hn e hx
    ·rw[Dr2.1 hx];exact he
 ·obtain rfl:i=r.2.1.length:=by omega
  rw[Ds9]at hn;have gG:Q6 ss h pl=none:=by
   unfold Q6;rw[aM,D18];intro s hs;simpa using hn s hs
  subst ce;refine .cons (.cons (.of ⟨by rw[gG];rfl,?_⟩));unfold A47;rw[gG]
theorem Dm2(m:Nat)(ways:Int)(ss:List (List C3))(A:A4)(hA:IX m ways ss A)(h:Nat)(hh:h<2^64)(pl:Pl)(bQ: ∀s∈J6 ss h,0<=s.freq/\s.freq<=3):
  CallF PP 60 #[.p m,.int .u64 h,.agg (ki3 pl)] A
   fun v L'=>v= .b (Q6 ss h pl).isSome/\IX m ways (iset ss h (Ah0 (J6 ss h) (inm h pl))) L':=by
 refine(e60 (some m.z) h pl).c ?_;refine C4 fun n1 _=>A6 pl (ldB Dq7 rfl) (K1 [(n1,Obj.cells (ki3 pl) 102)] [] (Cn9 m ways ss A hA h hh pl bQ) (by simp) ?_);rintro _ A1-⟨rfl,mW⟩;rw[Dr3];exact⟨((Q6 ss h pl).isSome,()),rfl,.cons (.of ⟨rfl,mW⟩)⟩
theorem C46(m:Nat)(ways:Int)(ss:List (List C3))(A:A4)(hA:IX m ways ss A)(h:Nat)(hh:h<2^64)(pl:Pl):
  Reads PP 293 #[.p m,.int .u64 h,.agg (ki3 pl)] A (.i (A47 ss h pl)):=by
 refine(e293 (some m.z) h pl).r ?_;refine C4 fun n1 _=>C4 fun n2 _=>E4 [] _ rfl rfl (by simp) (.inl (Dq6 _)) #[.i 0] rfl (A6 pl (ldB (n:=n1) (c:=(ki3 pl)) (T:=102) (fz:=(0,0)) (by simp) rfl) ?_);generalize (n1,Obj.cells (ki3 pl) 102)=o1;refine G5 (R:=[o1]) (Co0 m ways ss A hA h hh pl n2) ?_ ?_
 ·exact(D35 _ (Du8 (l₁:=[o1]) (l₂:=A)))
 rintro _ _ ⟨rfl,rfl⟩;refine⟨(n2,Obj.cells #[.i (A47 ss h pl)] 3)::o1::A,D35 _ (Du8 (l₁:=A) (l₂:=[o1])),((Q6 ss h pl).isSome,()),rfl,?_⟩;exact A6 (A47 ss h pl) (ldB Dq7 rfl) (.cons (.cons (.of ⟨rfl,rfl⟩)))
structure BS where
 wear:Int
 bad:Bool
 dirty:Bool
def Y9(s:BS):List Value:=[.i s.wear,.b s.bad,.b s.dirty]
theorem H3(s:BS):(Y9 s).length=3:=rfl
theorem B12(l:List BS):(l.flatMap Y9).all T6=true:=by
 induction l with
 |nil=>rfl
 |cons e r ih=>rw[Du1,D84,ih];rfl
def bs0:BS:=⟨0,false,false⟩
abbrev tyIn:TypeId:=49
abbrev B74:TypeId:=3
abbrev tySt:TypeId:=159
abbrev eSt:TypeId:=194
theorem Bj4:V4 PP tyIn B74 1 8 [.i 0]:=N3 (by kernel_rfl) (by kernel_rfl) rfl (by decide) (by decide)
theorem Cg3:Ax5 PP tyIn:=.inl ⟨B74,by kernel_rfl⟩
theorem Cs2:V4 PP tySt eSt 3 16 [.i 0,.b false,.b false]:=N3 (by kernel_rfl) (by kernel_rfl) rfl (by decide) (by decide)
theorem C99:Ax5 PP tySt:=.inl ⟨eSt,by kernel_rfl⟩
theorem own_z{sz:Nat}{e:TypeId}:Own ⟨none,0,0⟩ sz e [] []:=⟨by simp,Dq6 _,.inl ⟨rfl,rfl,rfl⟩⟩
theorem own_n{sz n:Nat}{e:TypeId}:Own ⟨some n.z,0,0⟩ sz e [] [(n,Obj.cells #[] e)]:=⟨by simp,Dq6 _,.inr ⟨n,0,#[],(0,0),rfl,rfl,by simp,.inl (Dq6 _),fun i u hu=>by simp at hu⟩⟩
theorem Cc0(L:A4)(v:SlV)(l:List Int)(h:ISl L v .i64 l)(hb:l.length<=1000000)(x:Int):
  Reads PP 289 #[.slice v.a v.len v.cap,.i x] L (.i (match l.findIdx? (fun y=>decide (y=x))with|some i=>(i:Int)|none=> -1)):=by
 refine(e289 v x).r ?_;have hC:=h.len;refine G7 (fun k z L'=>L'=L/\ ∃i:Nat,i<=l.length/\k=l.length-i/\z=((i:Int),())/\ ∀y∈l.take i,y≠x) l.length ⟨rfl,0,by omega,by omega,rfl,by simp⟩ ?_;rintro k z L' ⟨rfl,i,hi,rfl,rfl,hn⟩;refine C0 (fun(hO:(i:Int)<v.len)=>?_) (fun(aS: ¬(i:Int)<v.len)=>?_)
 ·have hJ:i<l.length:=by omega
  obtain⟨a,ha⟩:=h.some hJ;refine A5 ha (D9 (show(0:Int)<=i by omega) hO (A6 l[i] (h.rd hJ ha _ (by simp)) ?_));refine Ac2 (fun he=>.of ⟨?_,rfl⟩) (fun he=>⟨l.length-(i+1),by omega,rfl,i+1,by omega,rfl,?_,fun y hy=>?_⟩)
  ·have:l.findIdx? (fun y=>decide (y=x))=some i:=by
    rw[D09];refine⟨hJ,by simpa using he.symm,fun j hj=>?_⟩;have:=hn l[j] (by rw[D19];exact⟨j,by omega,rfl⟩);simpa using this
   rw[this]
  ·rw[C1 (by first|omega|(simp only;omega)) (by first|omega|(simp only;omega))];rfl
  ·rw[Ds4 hJ]at hy;rcases Dr5.1 hy with hy|hy
   ·exact hn y hy
   ·rw[Dr2.1 hy];exact fun e=>he e.symm
 ·obtain rfl:i=l.length:=by omega
  rw[Ds9]at hn;have:l.findIdx? (fun y=>decide (y=x))=none:=by
   rw[D10];intro y hy;simpa using hn y hy
  rw[this];exact .of ⟨rfl,rfl⟩
theorem C42(L:A4)(v:SlV)(l:List Int)(h:ISl L v .i64 l)(hb:l.length<=1000000)(x:Int):
  Reads PP 228 #[.slice v.a v.len v.cap,.i x] L (.b (decide (x∈l))):=by
 refine(e228 v x).r ?_;refine B5 (Cc0 _ v l h hb x) (_,()) rfl (.of ⟨?_,rfl⟩);cases hf:l.findIdx? (fun y=>decide (y=x))with
 |none=>
  rw[D10]at hf;have:x∉l:=fun hx=>by have:=hf x hx;simp at this
  simp[this]
 |some i=>
  rw[D09]at hf;obtain⟨hi,h1,_⟩:=hf;have:x∈l:=by
   have e:l[i]=x:=by simpa using h1
   rw[<-e];exact Dr7 hi
  simp[this]
theorem B98(A:A4)(v:SlV)(l:List BS)(h:Sl A v 3 (l.flatMap Y9))(hb:l.length<=1000000):
  CallF PP 171 #[.slice v.a v.len v.cap] A fun r L'=> ∃(s:SlV) (seg:A4),r= .slice s.a s.len s.cap/\L'=seg++A/\Own s 3 eSt (l.flatMap Y9) seg:=by
 refine(e171 v).c ?_;have hC:=h.els_len H3 (by decide);refine G1 (fun hn=>?_) (fun hn=>?_)
 ·have:l=[]:=by
   cases l with
   |nil=>rfl
   |cons x r=>
    obtain⟨a,ha,_⟩:=h.el H3 (by decide) (i:=0) (by simp);rw[ha]at hn;cases hn
  subst this;exact .of ⟨⟨none,0,0⟩,[],rfl,rfl,own_z⟩
 ·refine C4 fun n1 _=>E6 Cs2 C99 [] A own_n rfl (.sl h.cons) (B12 _) (by first|omega|(simp only;omega)) fun s seg hs own=>?_;rw[Ds1]at own;exact .of ⟨s,seg,rfl,by simp,own⟩
theorem B19(L:A4)(y x:Int)(ad:Addr)(hl:C9 ad [.i x] L):Reads PP 326 #[.i y,.q (some ad)] L (.b (decide (y=x))):=by
 refine(e326 y (some ad)).r ?_;refine A5 rfl (A6 x hl (.of ⟨?_,rfl⟩));congr 1
theorem Bz8(L:A4)(v:SlV)(l:List Int)(h:ISl L v .i64 l)(hb:l.length<=1000000)(x:Int)(ad:Addr)(hl:C9 ad [.i x] L):
  Reads PP 335 #[.slice v.a v.len v.cap,.func (.func 326) #[] #[.q (some ad)]] L (.i (match l.findIdx? (fun y=>decide (y=x))with|some i=>(i:Int)|none=> -1)):=by
 refine(e335 v ⟨.func 326,#[],#[.q (some ad)]⟩).r ?_;have hC:=h.len;refine G7 (fun k z L'=>L'=L/\ ∃i:Nat,i<=l.length/\k=l.length-i/\z=((i:Int),())/\ ∀y∈l.take i,y≠x) l.length ⟨rfl,0,by omega,by omega,rfl,by simp⟩ ?_;rintro k z L' ⟨rfl,i,hi,rfl,rfl,hn⟩;refine C0 (fun(hO:(i:Int)<v.len)=>?_) (fun(aS: ¬(i:Int)<v.len)=>?_)
 ·have hJ:i<l.length:=by omega
  obtain⟨a,ha⟩:=h.some hJ;refine A5 ha (D9 (show(0:Int)<=i by omega) hO (A6 l[i] (h.rd hJ ha _ (by simp)) (Ab4 (by kernel_rfl) (B5 (B19 _ l[i] x ad hl) (decide (l[i]=x),()) rfl ?_))));refine C0 (fun(he:l[i]=x)=>.of ⟨?_,rfl⟩) (fun(he: ¬l[i]=x)=>⟨l.length-(i+1),by omega,rfl,i+1,by omega,rfl,?_,fun y hy=>?_⟩)
  ·have:l.findIdx? (fun y=>decide (y=x))=some i:=by
    rw[D09];refine⟨hJ,by simpa using he,fun j hj=>?_⟩;have:=hn l[j] (by rw[D19];exact⟨j,by omega,rfl⟩);simpa using this
   rw[this]
  ·rw[C1 (by first|omega|(simp only;omega)) (by first|omega|(simp only;omega))];rfl
  ·rw[Ds4 hJ]at hy;rcases Dr5.1 hy with hy|hy
   ·exact hn y hy
   ·rw[Dr2.1 hy];exact he
 ·obtain rfl:i=l.length:=by omega
  rw[Ds9]at hn;have:l.findIdx? (fun y=>decide (y=x))=none:=by
   rw[D10];intro y hy;simpa using hn y hy
  rw[this];exact .of ⟨rfl,rfl⟩
def iwo(l:List Int)(x:Int):List Int:=l.filter fun y=>decide (y≠x)
theorem B52(l:List Int)(x y:Int):iwo (l++[y]) x=iwo l x++(if y=x then[]else[y]):=by
 unfold iwo;rw[Dz8];by_cases h:y=x<;>simp[h]
theorem C43(v:SlV)(l:List Int)(seg:A4)(own:Own v 1 B74 (ivs .i64 l) seg)(hb:l.length<=1000000)(x:Int)(n1:Nat):
  CallF PP 325 #[.slice v.a v.len v.cap,.func (.func 326) #[] #[.p n1]] ((n1,Obj.cells #[.i x] 3)::seg)
   fun r L'=> ∃(s:SlV) (seg':A4),r= .slice s.a s.len s.cap/\L'=(n1,Obj.cells #[.i x] 3)::seg'/\Own s 1 B74 (ivs .i64 (iwo l x)) seg':=by
 refine(e325 v ⟨.func 326,#[],#[.p n1]⟩).c ?_;generalize ho:(n1,Obj.cells #[.i x] 3)=o1;have l1: ∀{Z:A4},C9 n1.z [.i x] (o1::Z):=by subst ho;exact ldB Dq7 rfl
 clear ho;have h0:ISl (o1::seg) v .i64 l:=own.sl.cons;have hC:=h0.len;have aU:=own.cap;refine B5 (Bz8 _ v l h0 hb x n1.z l1) (_,()) rfl ?_;cases hf:l.findIdx? (fun y=>decide (y=x))with
 |none=>
  rw[D10]at hf;have:iwo l x=l:=by
   unfold iwo;rw[Dz9];intro y hy;have:=hf y hy;simpa using this
  rw[this];exact ifT rfl (.of ⟨v,seg,rfl,rfl,own⟩)
 |some i0=>
  rw[D09]at hf;obtain⟨kL,h1,h2⟩:=hf;have vT:l[i0]=x:=by simpa using h1
  have lC:iwo (l.take i0) x=l.take i0:=by
   unfold iwo;rw[Dz9];intro y hy;obtain⟨j,hj,rfl⟩:=D19.1 hy;have:=h2 j (by omega);simpa using this
  have bT:=B52 (l.take i0) x l[i0];rw[<-Ds4 kL,Dq5 vT,lC,Dr3]at bT;refine ifF (by simp) ?_;have hw:IntKind.i64.wrap ((i0:Int)+1)=((i0+1:Nat):Int):=by rw[C1 (by omega) (by omega)];omega
  simp only[hw];refine G7 (fun k z L'=> ∃(i j:Nat) (cur:List Int) (seg:A4),i<=j/\j<=l.length/\k=l.length-j/\z=((i:Int),(j:Int),())/\L'=o1::seg/\Own v 1 B74 (ivs .i64 cur) seg/\cur.length=l.length/\i=(iwo (l.take j) x).length/\cur.take i=iwo (l.take j) x/\cur.drop j=l.drop j) (l.length-(i0+1))
   ⟨i0,i0+1,l,seg,by omega,by omega,by omega,rfl,rfl,own,rfl,by rw[bT,Ds0];omega,by rw[bT],rfl⟩ ?_
  clear bT lC own h0;rintro k z L' ⟨i,j,cur,seg,oQ,hj,rfl,rfl,rfl,own,bN,iJ,bW,dT⟩;have h0:ISl (o1::seg) v .i64 cur:=own.sl.cons;refine C0 (fun(hO:(j:Int)<v.len)=>?_) (fun(aS: ¬(j:Int)<v.len)=>?_)
  ·have iX:j<cur.length:=by omega
   have oP:j<l.length:=by omega
   have zJ:cur[j]=l[j]:=by
    have a1:=Dv1 iX;have a2:=Dv1 oP;rw[dT,a2]at a1;injection a1 with b1 b2;exact b1.symm
   have mA:cur.drop (j+1)=l.drop (j+1):=by
    rw[<-Dw6,dT,Dw6]
   obtain⟨a,ha⟩:=h0.some iX;have bT:=B52 (l.take j) x l[j];rw[<-Ds4 oP]at bT;have ao:IntKind.i64.wrap ((j:Int)+1)=((j+1:Nat):Int):=by rw[C1 (by omega) (by omega)];omega
   have gN:IntKind.i64.wrap ((i:Int)+1)=((i+1:Nat):Int):=by rw[C1 (by omega) (by omega)];omega
   refine A5 ha (D9 (show(0:Int)<=(j:Int) by omega) hO (A6 cur[j] (h0.rd iX ha _ (by simp)) (Ab4 (by kernel_rfl) (B5 (B19 _ cur[j] x n1.z l1) (decide (cur[j]=x),()) rfl ?_))));rw[zJ];refine G1 (fun aE=>?_) (fun he=>?_)
   ·have qA:l[j]≠x:=by simpa using aE
    rw[Dq4 qA]at bT;refine A5 ha (D9 (show(0:Int)<=(i:Int) by omega) (show(i:Int)<v.len by omega) ?_);refine own.st [o1] [] (p:=i) (by rw[N1];simp only[Dr8,Du7];omega) (by simp) ha (by simp) (by simp) fun seg' own'=>?_;rw[Ap1 (by rw[N1];omega),Dl6]at own';refine⟨l.length-(j+1),by omega,i+1,j+1,cur.set i l[j],seg',by omega,by omega,rfl,?_,by simp,own',by rw[Dz4];exact bN,?_,?_,?_⟩
    ·show(IntKind.i64.wrap ((i:Int)+1),IntKind.i64.wrap ((j:Int)+1),())=_;rw[gN,ao]
    ·rw[bT,Dr4,<-iJ];rfl
    ·rw[bT,<-bW,Ds4 (by rw[Dz4];omega),Ef5 (by omega),Ef6]
    ·rw[Ef7 (by omega)];exact mA
   ·have qP:l[j]=x:=by simpa using he
    rw[Dq5 qP,Dr3]at bT;refine⟨l.length-(j+1),by omega,i,j+1,cur,seg,by omega,by omega,rfl,?_,rfl,own,bN,by rw[bT];exact iJ,by rw[bT];exact bW,mA⟩;show((i:Int),IntKind.i64.wrap ((j:Int)+1),())=_;rw[ao]
  ·obtain rfl:j=l.length:=by omega
   rw[Ds9]at iJ bW;have own':=own.slc (l:=0) (h:=i) (by omega) (by omega);rw[Co1,D06,Dx4,bW]at own';refine K7 (l':=i) (h':=v.len) (m':=v.cap) rfl rfl rfl (by omega) aU (Dq6 _) ?_;have hs:Q0 v ((i:Nat):Int) ((v.len:Nat):Int) ((v.cap:Nat):Int) 1=Q0 (Q0 v ((0:Nat):Int) ((i:Nat):Int) ((v.cap:Nat):Int) 1) ((Q0 v ((0:Nat):Int) ((i:Nat):Int) ((v.cap:Nat):Int) 1).len) ((v.len:Nat):Int) ((Q0 v ((0:Nat):Int) ((i:Nat):Int) ((v.cap:Nat):Int) 1).cap) 1:=by
    have ea: ∀o:Option Addr,o.map (·.add 0)=o:=fun o=>by cases o<;>simp[Addr.add]
    simp only[Q0,Dr0,Dx4,Dz2,Dt8,ea,ite_self]
   refine Ai8 Bj4 rfl [o1] [] own' (by simp) (h:=v.len) (by simp only[Q0,Dr0];omega) (by simp only[Q0,Dr0];omega) hs fun seg2 own2=>?_;refine K7 (l':=0) (h':=i) (m':=v.cap) rfl rfl rfl (by omega) (by omega) (Dq6 _) (.of ⟨_,seg2,rfl,by simp,own2⟩)
def bO(m:Nat)(sv uv:SlV):Nat×Obj:=(m,Obj.cells #[.slice sv.a sv.len sv.cap,.slice uv.a uv.len uv.cap] 259)
structure BOk(sv:SlV)(sseg:A4)(ss:List BS)(uv:SlV)(useg:A4)(us:List Int):Prop where
 own:Own sv 3 eSt (ss.flatMap Y9) sseg
 uown:Own uv 1 B74 (ivs .i64 us) useg
 cnt:1<=ss.length/\ss.length<=16
 few:us.length<=100000
 wr: ∀s∈ss,0<=s.wear/\s.wear<=1000000000
def BX(m:Nat)(ss:List BS)(us:List Int)(A:A4):Prop:= ∃sv sseg uv useg,A=bO m sv uv::(sseg++useg)/\BOk sv sseg ss uv useg us
section
variable {L:A4} {m:Nat} {sv uv:SlV}
theorem b_s(h:bO m sv uv∈L):C9 m.z [.slice sv.a sv.len sv.cap] L:=ldB (by unfold bO at h;exact h) rfl
theorem b_u(h:bO m sv uv∈L):C9 ⟨m,1,none⟩ [.slice uv.a uv.len uv.cap] L:=ldB (by unfold bO at h;exact h) rfl
end
def F5(ss:List BS)(n:Int):Bool:=decide (0<=n)&&(match ss[n.toNat]? with|some s=> !s.bad|none=>false)
def N6(ss:List BS)(us:List Int)(n:Int):Bool:=F5 ss n&& !decide (n∈us)
theorem B86(L:A4)(m:Nat)(ss:List BS)(us:List Int)(A:A4)(hA:BX m ss us A)(hs: ∀x∈A,x∈L)(n:Int):Reads PP 120 #[.p m,.i n] L (.b (F5 ss n)):=by
 obtain⟨sv,sseg,uv,useg,rfl,ok⟩:=hA;refine(e120 (some m.z) n).r ?_;have hm:bO m sv uv∈L:=hs _ Dq7;have aT:Sl L sv 3 (ss.flatMap Y9):=ok.own.sl.mono fun x hx=>hs x (by simp[hx]);have hC:=aT.els_len H3 (by decide);refine ifT rfl (C0 (fun(h0:n≥0)=>A5 rfl (A6 sv (b_s hm) (C0 (fun(h1:n<sv.len)=>?_) (fun(h1: ¬n<sv.len)=>.of ⟨?_,rfl⟩)))) (fun(h0: ¬n≥0)=>.of ⟨?_,rfl⟩))
 ·have hi:n.toNat<ss.length:=by omega
  obtain⟨a,ha,hl⟩:=aT.el H3 (by decide) hi;refine A5 rfl (A6 sv (b_s hm) (A5 ha (D9 h0 h1 (A6 ss[n.toNat].bad (hl.one 1 rfl) (.of ⟨?_,rfl⟩)))));unfold F5;rw[Dr9 hi,Dt2 (show 0<=n by omega)];rfl
 ·unfold F5;rw[D12 (by omega)];simp
 ·unfold F5;rw[Ds7 (by omega)];rfl
theorem Az2(L:A4)(m:Nat)(ss:List BS)(us:List Int)(A:A4)(hA:BX m ss us A)(hs: ∀x∈A,x∈L)(n:Int):Reads PP 172 #[.p m,.i n] L (.b (N6 ss us n)):=by
 refine(e172 (some m.z) n).r ?_;refine B5 (B86 _ m ss us A hA hs n) (F5 ss n,()) rfl ?_;obtain⟨sv,sseg,uv,useg,rfl,ok⟩:=hA;have hm:bO m sv uv∈L:=hs _ Dq7;have iN:ISl L uv .i64 us:=ok.uown.sl.mono fun x hx=>hs x (by simp[hx]);refine G1 (fun hg=>?_) (fun hg=>.of ⟨?_,rfl⟩)
 ·have cX:F5 ss n=true:=hg;have bR:=ok.few;refine A5 rfl (A6 uv (b_u hm) (B5 (C42 _ uv us iN (by omega) n) (decide (n∈us),()) rfl (.of ⟨?_,rfl⟩)));unfold N6;rw[cX];rfl
 ·have cX:F5 ss n=false:=hg;unfold N6;rw[cX];rfl
def Al5{σ:Type}(q:Int->Bool)(step:σ->Int->BS->σ)(s0:σ)(ss:List BS):σ:=ss.zipIdx.foldl (fun s p=>if q p.2 then step s p.2 p.1 else s) s0
theorem Bb7{σ:Type}(q:Int->Bool)(step:σ->Int->BS->σ)(s0:σ)(ss:List BS)(x:BS):Al5 q step s0 (ss++[x])=if q ss.length then step (Al5 q step s0 ss) ss.length x else Al5 q step s0 ss:=by
 unfold Al5;rw[List.zipIdx_append,Ec3];simp
theorem B87{σ:Type}(m:Nat)(ss:List BS)(us:List Int)(A:A4)(hA:BX m ss us A)(q:Int->Bool)(step:σ->Int->BS->σ)(ok:Nat->σ->Prop)(sN: ∀n s,ok n s->ok (n+1) s)(obs:σ->A4)(i1 i2:FuncId)(dP:Af8 PP i1=true)(fJ:Af8 PP i2=true)(caps:Array Value)
  (h1: ∀(L:A4) (n:Int),(∀x∈A,x∈L)->Reads PP i1 #[.p m,.i n] L (.b (q n)))
  (h2: ∀(s:σ) (n:Nat) (x:BS),n<16->ok n s->0<=x.wear->x.wear<=1000000000->CallF PP i2 (#[.i n,.agg #[.i x.wear,.b x.bad,.b x.dirty]]++caps) (obs s) fun r L'=>r= .t #[]/\L'=obs (step s n x)/\ok (n+1) (step s n x)) (s0:σ) (dH:ok 0 s0):
  CallF PP 119 #[.p m,.func (.func i1) #[.p m] #[],.func (.func i2) #[] caps] (obs s0++A) fun r L'=>r= .t #[]/\L'=obs (Al5 q step s0 ss)++A/\ok ss.length (Al5 q step s0 ss):=by
 have cM:=hA;obtain⟨sv,sseg,uv,useg,ee,bok⟩:=hA;refine(e119 (some m.z) ⟨.func i1,#[.p m],#[]⟩ ⟨.func i2,#[],caps⟩).c ?_;have hm: ∀{X:A4},bO m sv uv∈X++A:=fun{X}=>by subst ee;simp
 have aT: ∀{X:A4},Sl (X++A) sv 3 (ss.flatMap Y9):=fun{X}=>bok.own.sl.mono fun x hx=>by subst ee;simp[hx]
 have hC:=(aT (X:=[])).els_len H3 (by decide);have nT:=bok.cnt;refine ifF rfl (A5 rfl (A6 sv (b_s hm) ?_));refine G7 (fun k z L'=> ∃i:Nat,i<=ss.length/\k=ss.length-i/\z=((i:Int),())/\L'=obs (Al5 q step s0 (ss.take i))++A/\ok i (Al5 q step s0 (ss.take i))) ss.length ⟨0,by omega,by omega,rfl,by simp[Al5],by simpa[Al5]using dH⟩ ?_;rintro k z L ⟨i,hi,rfl,rfl,rfl,aA⟩;refine C0 (fun(hO:(i:Int)<sv.len)=>?_) (fun(aS: ¬(i:Int)<sv.len)=>?_)
 ·have hJ:i<ss.length:=by omega
  have bT:=Bb7 q step s0 (ss.take i) ss[i];rw[<-Ds4 hJ,Ds0,Dx1 hi]at bT;have nY:=bok.wr ss[i] (Dr7 hJ);obtain⟨a,ha,hl⟩:=(aT (X:=obs (Al5 q step s0 (ss.take i)))).el H3 (by decide) hJ;have hw:IntKind.i64.wrap ((i:Int)+1)=((i+1:Nat):Int):=by rw[C1 (by omega) (by omega)];omega
  refine Ab4 dP (B5 (h1 _ (i:Int) (fun x hx=>Du2 _ hx)) (q i,()) rfl ?_);refine G1 (fun hq=>?_) (fun hq=>?_)
  ·have nC:q (i:Int)=true:=hq;rw[Dq5 nC]at bT;refine A5 rfl (A6 sv (b_s hm) (A5 ha (D9 (show(0:Int)<=(i:Int) by omega) hO (A6 (ss[i].wear,ss[i].bad,ss[i].dirty,()) (by rw[Dr0];exact hl) (Ab4 fJ ?_)))));refine K1 [] A (h2 _ i ss[i] (by omega) aA nY.1 nY.2) rfl ?_;rintro _ _-⟨rfl,rfl,fI⟩;refine⟨(),rfl,ss.length-(i+1),by omega,i+1,by omega,rfl,?_,by rw[bT];rfl,by rw[bT];exact fI⟩;rw[hw]
  ·have nC: ¬q (i:Int)=true:=by rw[show q (i:Int)=false from hq];decide
   rw[Dq4 nC]at bT;refine⟨ss.length-(i+1),by omega,i+1,by omega,rfl,?_,by rw[bT],by rw[bT];exact sN _ _ aA⟩;rw[hw]
 ·obtain rfl:i=ss.length:=by omega
  rw[Ds9]at aA⊢;exact .of ⟨rfl,rfl,aA⟩
def A65(ss:List BS)(us:List Int):Int:=Al5 (N6 ss us) (fun(k:Int) _ _=>k+1) 0 ss
theorem C60(n1:Nat)(k:Int)(hk:0<=k/\k<=1000000)(n:Int)(x:BS):CallF PP 244 #[.i n,.agg #[.i x.wear,.b x.bad,.b x.dirty],.p n1] [(n1,Obj.cells #[.i k] 3)]
  fun r L'=>r= .t #[]/\L'=[(n1,Obj.cells #[.i (k+1)] 3)]:=by
 refine(e244 n (x.wear,x.bad,x.dirty,()) (some n1.z)).c ?_;refine C4 fun n2 _=>A5 rfl (A6 k (ldB (n:=n1) (c:=#[.i k]) (T:=3) (fz:=(0,0)) (by simp) rfl) (A5 rfl ?_));rw[C1 (by omega) (by omega)];exact E4 (n:=n1) (off:=0) (c:=#[.i k]) (T:=3) (fz:=(0,0)) [_] [] rfl rfl (by simp) (.inl (Dq6 _)) #[.i (k+1)] rfl (.cons (.of ⟨rfl,rfl⟩))
theorem Bt2{σ:Type}(q:Int->Bool)(step:σ->Int->BS->σ)(s0:σ)(ss:List BS)(P:Nat->σ->Prop)(h0:P 0 s0)(h: ∀(i:Nat) (hi:i<ss.length) (s:σ),P i s->P (i+1) (if q i then step s i ss[i]else s)):P ss.length (Al5 q step s0 ss):=by
 have key: ∀k,k<=ss.length->P k (Al5 q step s0 (ss.take k)):=by
  intro k;induction k with
  |zero=>intro _;simpa[Al5]using h0
  |succ k ih=>
   intro hk;have bT:=Bb7 q step s0 (ss.take k) (ss[k]'(by omega));rw[<-Ds4 (by omega),Ds0,Dx1 (by omega)]at bT;rw[bT];exact h k (by omega) _ (ih (by omega))
 have:=key ss.length (Dq6 _)
 rwa [Ds9]at this
theorem Bu6(m:Nat)(ss:List BS)(us:List Int)(A:A4)(hA:BX m ss us A):Reads PP 185 #[.p m] A (.i (A65 ss us)):=by
 refine(e185 (some m.z)).r ?_;refine C4 fun n1 _=>E4 [] _ rfl rfl (by simp) (.inl (Dq6 _)) #[.i 0] rfl ?_;refine K1 [] [] (B87 m ss us A hA (N6 ss us) (fun(k:Int) _ _=>k+1) (fun n k=>0<=k/\k<=n) (fun n s h=>by omega) (fun k=>[(n1,Obj.cells #[.i k] 3)]) 172 244 (by kernel_rfl) (by kernel_rfl) #[.p n1]
  (fun L n hs=>Az2 L m ss us A hA hs n) (fun s n x hn hs _ _=>CallF.mono (C60 n1 s (by omega) n x) (by rintro r L' _ ⟨rfl,rfl⟩;exact⟨rfl,rfl,by omega⟩)) 0 (by omega)) (by simp) ?_
 rintro _ _-⟨rfl,rfl,aA⟩;rw[Dr3,Ds1];exact⟨(),rfl,A6 (A65 ss us) (ldB Dq7 rfl) (.cons (.of ⟨rfl,rfl⟩))⟩
def Ab6(s:BS):Int:=if s.dirty then s.wear+1 else s.wear
theorem B89(L:A4)(s:BS)(h:0<=s.wear/\s.wear<=1000000000):Reads PP 251 #[.agg #[.i s.wear,.b s.bad,.b s.dirty]] L (.i (Ab6 s)):=by
 refine(e251 (s.wear,s.bad,s.dirty,())).r ?_;refine C4 fun n1 _=>A6 s.dirty (ldB Dq7 rfl) (G1 (fun hd=>A6 s.wear (ldB Dq7 rfl) (.cons (.of ⟨?_,rfl⟩))) (fun hd=>A6 s.wear (ldB Dq7 rfl) (.cons (.of ⟨?_,rfl⟩))))
 ·unfold Ab6;rw[Dq5 hd,C1 (by omega) (by omega)]
 ·unfold Ab6;rw[Dq4 (by rw[hd];decide)]
abbrev BPk:=Bool×BS×Int
def O4(s:BPk)(n:Int)(x:BS):BPk:=if s.1=false\/Ab6 x<Ab6 s.2.1 then(true,x,n)else s
def E2(ss:List BS)(us:List Int):BPk:=Al5 (N6 ss us) O4 (false,bs0,0) ss
def An1(n3 n1 n2:Nat)(s:BPk):A4:=[(n3,Obj.cells #[.b s.1] 4),(n1,Obj.cells #[.i s.2.1.wear,.b s.2.1.bad,.b s.2.1.dirty] eSt),(n2,Obj.cells #[.i s.2.2] 3)]
theorem C18(n3 n1 n2:Nat)(s:BPk)(hs:0<=s.2.1.wear/\s.2.1.wear<=1000000000)(n:Int)(x:BS)(hx:0<=x.wear/\x.wear<=1000000000):
  CallF PP 250 #[.i n,.agg #[.i x.wear,.b x.bad,.b x.dirty],.p n3,.p n1,.p n2] (An1 n3 n1 n2 s)
  fun r L'=>r= .t #[]/\L'=An1 n3 n1 n2 (O4 s n x):=by
 obtain⟨fd,best,at'⟩:=s;refine(e250 n (x.wear,x.bad,x.dirty,()) (some n3.z) (some n1.z) (some n2.z)).c ?_;unfold An1;simp only at hs⊢;refine C4 fun n4 _=>?_;generalize ho:(n4,Obj.cells #[.i x.wear,.b x.bad,.b x.dirty] eSt)=o4;have l4: ∀{Z:A4},C9 n4.z (Y9 x) (o4::Z):=by subst ho;exact ldB Dq7 rfl
 clear ho;have take:O4 (fd,best,at') n x=(true,x,n)->
   (st n2.z [.i n]<|keep (C9 n4.z [.i x.wear,.b x.bad,.b x.dirty])<|A8 (some n1.z) fun a3=>st a3 [.i x.wear,.b x.bad,.b x.dirty]<|A8 (some n3.z) fun a4=>st a4 [.b true]<|
    HL.Ends (fun r L'=>r=Value.t #[]/\L'=[(n3,Obj.cells #[.b (O4 (fd,best,at') n x).1] 4),(n1,Obj.cells #[.i (O4 (fd,best,at') n x).2.1.wear,.b (O4 (fd,best,at') n x).2.1.bad,.b (O4 (fd,best,at') n x).2.1.dirty] eSt),(n2,Obj.cells #[.i (O4 (fd,best,at') n x).2.2] 3)]) (.t #[]))
    (o4::[(n3,Obj.cells #[.b fd] 4),(n1,Obj.cells #[.i best.wear,.b best.bad,.b best.dirty] eSt),(n2,Obj.cells #[.i at'] 3)]):=by
  intro e;rw[e];refine E4 (n:=n2) (off:=0) (c:=#[.i at']) (T:=3) (fz:=(0,0)) [o4,(n3,Obj.cells #[.b fd] 4),(n1,Obj.cells #[.i best.wear,.b best.bad,.b best.dirty] eSt)] [] rfl rfl (by simp) (.inl (Dq6 _)) #[.i n] rfl (F7 l4 (A5 rfl ?_));refine E4 (n:=n1) (off:=0) (c:=#[.i best.wear,.b best.bad,.b best.dirty]) (T:=eSt) (fz:=(0,0)) [o4,(n3,Obj.cells #[.b fd] 4)] [(n2,Obj.cells #[.i n] 3)] rfl rfl (by simp) (.inl (Dq6 _)) #[.i x.wear,.b x.bad,.b x.dirty] rfl (A5 rfl ?_);exact E4 (n:=n3) (off:=0) (c:=#[.b fd]) (T:=4) (fz:=(0,0)) [o4] [(n1,Obj.cells #[.i x.wear,.b x.bad,.b x.dirty] eSt),(n2,Obj.cells #[.i n] 3)] rfl rfl (by simp) (.inl (Dq6 _)) #[.b true] rfl (.cons (.of ⟨rfl,rfl⟩))
 refine A5 rfl (A6 fd (ldB (n:=n3) (off:=0) (c:=#[.b fd]) (T:=4) (fz:=(0,0)) (by simp) rfl) (G1 (fun hf=>?_) (fun hf=>?_)))
 ·have mR:fd=false:=by simpa using hf
  refine A6 (x.wear,x.bad,x.dirty,()) l4 (A5 rfl (take ?_));unfold O4;rw[Dq5 (.inl mR)]
 ·have mR:fd=true:=by simpa using hf
  have lb:C9 n1.z [.i best.wear,.b best.bad,.b best.dirty] (o4::[(n3,Obj.cells #[.b fd] 4),(n1,Obj.cells #[.i best.wear,.b best.bad,.b best.dirty] eSt),(n2,Obj.cells #[.i at'] 3)]):=ldB (n:=n1) (off:=0) (c:=#[.i best.wear,.b best.bad,.b best.dirty]) (T:=eSt) (fz:=(0,0)) (by simp) rfl;refine A6 (x.wear,x.bad,x.dirty,()) l4 (A5 rfl (A6 (best.wear,best.bad,best.dirty,()) lb (B5 (B89 _ x hx) (Ab6 x,()) rfl (F7 lb (B5 (B89 _ best hs) (Ab6 best,()) rfl ?_)))));refine C0 (fun(hc:Ab6 x<Ab6 best)=>?_) (fun(hc: ¬Ab6 x<Ab6 best)=>.cons (.of ⟨rfl,?_⟩))
  ·refine A6 (x.wear,x.bad,x.dirty,()) l4 (A5 rfl (take ?_));unfold O4;rw[Dq5 (.inr hc)]
  ·have:O4 (fd,best,at') n x=(fd,best,at'):=by
    unfold O4;rw[Dq4];rintro(c|c)
    ·rw[mR]at c;cases c
    ·exact hc c
   rw[this]
theorem C76(m:Nat)(ss:List BS)(us:List Int)(A:A4)(hA:BX m ss us A):Reads PP 189 #[.p m] A (.t #[.i (E2 ss us).2.2,.b (E2 ss us).2.1.dirty,.b (E2 ss us).1]):=by
 refine(e189 (some m.z)).r ?_;refine C4 fun n1 _=>C4 fun n2 _=>C4 fun n3 _=>?_;refine E4 (n:=n2) (off:=0) (c:=#[.i 0]) (T:=3) (fz:=(0,0)) [(n3,Obj.cells #[.b false] 4)] ((n1,Obj.cells #[.i 0,.b false,.b false] eSt)::A) rfl rfl (by simp) (.inl (Dq6 _)) #[.i 0] rfl ?_;refine E4 (n:=n3) (off:=0) (c:=#[.b false]) (T:=4) (fz:=(0,0)) [] ((n2,Obj.cells #[.i 0] 3)::(n1,Obj.cells #[.i 0,.b false,.b false] eSt)::A) rfl rfl (by simp) (.inl (Dq6 _)) #[.b false] rfl ?_;refine G5 (R:=[]) (B87 m ss us A hA (N6 ss us) O4 (fun _ s=>0<=s.2.1.wear/\s.2.1.wear<=1000000000) (fun n s h=>h) (An1 n3 n1 n2) 172 250 (by kernel_rfl) (by kernel_rfl) #[.p n3,.p n1,.p n2]
  (fun L n hs=>Az2 L m ss us A hA hs n) (fun s n x hn hs a b=>CallF.mono (C18 n3 n1 n2 s hs n x ⟨a,b⟩) ?_) (false,bs0,0) (by decide)) ?_ ?_
 ·rintro r L' _ ⟨rfl,rfl⟩;refine⟨rfl,rfl,?_⟩;unfold O4;split
  ·exact⟨a,b⟩
  ·exact hs
 ·rw[Dr3];unfold An1 bs0;exact D35 _ (D45 _ _ _)
 rintro _ _ ⟨rfl,rfl,aA⟩;refine⟨_,.refl _,(),rfl,?_⟩;show HL.ld _ _ _ (An1 n3 n1 n2 (E2 ss us)++A++[]);rw[Dr3];generalize E2 ss us=s;unfold An1;refine A6 s.2.2 (ldB (n:=n2) (off:=0) (c:=#[.i s.2.2]) (T:=3) (fz:=(0,0)) (by simp) rfl) (A6 s.2.1.dirty (ldB (n:=n1) (off:=2) (c:=#[.i s.2.1.wear,.b s.2.1.bad,.b s.2.1.dirty]) (T:=eSt) (fz:=(0,0)) (by simp) rfl) (A6 s.1 (ldB (n:=n3) (off:=0) (c:=#[.b s.1]) (T:=4) (fz:=(0,0)) (by simp) rfl) ?_));exact .cons (.cons (.cons (.of ⟨rfl,rfl⟩)))
theorem Cd2(m:Nat)(ss:List BS)(us:List Int)(A:A4)(hA:BX m ss us A):Reads PP 245 #[.p m] A (.t #[.i (us.headD 0),.b (decide (us≠[]))]):=by
 obtain⟨sv,sseg,uv,useg,rfl,ok⟩:=hA;refine(e245 (some m.z)).r ?_;have hm:bO m sv uv∈bO m sv uv::(sseg++useg):=Dq7;have iN:ISl (bO m sv uv::(sseg++useg)) uv .i64 us:=ok.uown.sl.right.cons;have hC:=iN.len;refine ifF rfl (A5 rfl (A6 uv (b_u hm) (Ac2 (fun h0=>.of ⟨?_,rfl⟩) (fun h0=>?_))))
 ·cases us with
  |nil=>rfl
  |cons x r=>rw[Dr8]at hC;have h0':(uv.len:Int)=0:=h0;omega
 ·cases us with
  |nil=>exact absurd (show(uv.len:Int)=0 by simp at hC;omega) h0
  |cons x r=>
   obtain⟨a,ha⟩:=iN.some (i:=0) (by simp);rw[Dr8]at hC;exact A5 rfl (A6 uv (b_u hm) (A5 ha (D9 (by decide) (by omega) (A6 x (iN.rd (i:=0) (by simp) ha _ rfl) (.of ⟨by simp,rfl⟩)))))
def Ag4(ss:List BS)(us:List Int)(n:Int):Bool:=N6 ss us n&&(match ss[n.toNat]? with|some s=> !s.dirty|none=>false)
theorem K5{ss:List BS}{n:Int}(h:F5 ss n=true):0<=n/\ ∃hi:n.toNat<ss.length,ss[n.toNat].bad=false:=by
 unfold F5 at h;rw[Dv4]at h;obtain⟨h1,h2⟩:=h;refine⟨Dv5 h1,?_⟩;split at h2
 ·rename_i s hs;obtain⟨hi,he⟩:=Dw0.1 hs;exact⟨hi,by rw[he];simpa using h2⟩
 ·cases h2
theorem D8{ss:List BS}{us:List Int}{n:Int}(h:N6 ss us n=true):F5 ss n=true/\n∉us:=by
 unfold N6 at h;rw[Dv4]at h;exact⟨h.1,by simpa using h.2⟩
theorem Cd1(m:Nat)(ss:List BS)(us:List Int)(A:A4)(hA:BX m ss us A)(hf:us.length<100000)(n:Int):CallF PP 255 #[.p m,.i n] A
  fun r L'=>r= .b (Ag4 ss us n)/\BX m ss (if Ag4 ss us n=true then us++[n]else us) L':=by
 have cM:=hA;obtain⟨sv,sseg,uv,useg,rfl,ok⟩:=hA;refine(e255 (some m.z) n).c ?_;have hm:bO m sv uv∈bO m sv uv::(sseg++useg):=Dq7;refine B5 (Az2 _ m ss us _ cM (fun x hx=>hx) n) (N6 ss us n,()) rfl ?_;cases bQ:N6 ss us n with
 |false=>
  have:Ag4 ss us n=false:=by unfold Ag4;rw[bQ];rfl
  rw[this];exact ifT rfl (.of ⟨rfl,cM⟩)
 |true=>
  obtain⟨h0,hi,hb⟩:=K5 (D8 bQ).1;have aT:Sl (bO m sv uv::(sseg++useg)) sv 3 (ss.flatMap Y9):=ok.own.sl.left.cons;have hC:=aT.els_len H3 (by decide);obtain⟨a,ha,hl⟩:=aT.el H3 (by decide) hi;have bM:Ag4 ss us n= !ss[n.toNat].dirty:=by unfold Ag4;rw[bQ,Dr9 hi];rfl
  refine ifF rfl (A5 rfl (A6 sv (b_s hm) (A5 ha (D9 h0 (show n<sv.len by omega) (A6 ss[n.toNat].dirty (hl.one 2 rfl) ?_)))));rw[bM];refine G1 (fun hd=>?_) (fun hd=>?_)
  ·have zF:ss[n.toNat].dirty=true:=hd;rw[zF];exact .of ⟨rfl,cM⟩
  ·have zF:ss[n.toNat].dirty=false:=hd;rw[zF];refine A5 rfl (A6 uv (b_u hm) (C4 fun n1 _=>?_));have eZ:=ok.uown.sl.len;rw[N1]at eZ;have iQ: ∀{Z:A4},Sl ((n1,Obj.cells #[.i n] B74)::Z) ⟨some n1.z,1,1⟩ 1 (ivs .i64 [n]):=fun{Z}=>⟨rfl,Dq6 _,.inr ⟨_,rfl,ldB Dq7 rfl⟩⟩;refine E6 Bj4 Cg3 ((n1,Obj.cells #[.i n] B74)::bO m sv uv::sseg) [] ok.uown (by simp) (.sl iQ) (Ai3 _ _) (by first|omega|(simp only;omega)) fun v2 seg2 oB own2=>A5 rfl ?_;rw[<-Ae2]at own2;refine E4 (n:=m) (off:=1) (c:=#[.slice sv.a sv.len sv.cap,.slice uv.a uv.len uv.cap]) (T:=259) (fz:=(0,0)) [(n1,Obj.cells #[.i n] B74)] (sseg++seg2) rfl (by simp[bO]) (by simp) (.inl (Dq6 _)) #[.slice sv.a sv.len sv.cap,.slice v2.a v2.len v2.cap] rfl ?_;exact .cons (.of ⟨rfl,sv,sseg,v2,seg2,rfl,ok.own,own2,ok.cnt,(by show(us++[n]).length<=100000;rw[Dr4];simp only[Dr8,Du7];omega),ok.wr⟩)
def Ad4(ss:List BS)(n:Int)(g:BS->BS):List BS:=ss.modify n.toNat g
theorem Bk0{ss:List BS}{n:Int}(hi:n.toNat<ss.length)(g:BS->BS):Ad4 ss n g=ss.take n.toNat++g ss[n.toNat]::ss.drop (n.toNat+1):=by
 unfold Ad4;rw[Ef4 hi]
theorem Dl5(us:List Int)(n:Int):(iwo us n).length<=us.length:=Dz7 ..
theorem C75(m:Nat)(ss:List BS)(us:List Int)(A:A4)(hA:BX m ss us A)(n:Int)(i:FuncId)(hio:Af8 PP i=true)(caps:Array Value)(obs:A4)(g:BS->BS)(hg: ∀s∈ss,0<=(g s).wear/\(g s).wear<=1000000000)
  (h: ∀(v:SlV) (seg:A4) (j:Nat) (a:Addr) (hj:j<ss.length),Own v 3 eSt (ss.flatMap Y9) seg->v.a=some a->CallF PP i (#[.q (some (a.add (j*3)))]++caps) (obs++seg) fun r L'=>r= .t #[]/\ ∃seg',L'=obs++seg'/\Own v 3 eSt ((ss.take j++g ss[j]::ss.drop (j+1)).flatMap Y9) seg'):
  CallF PP 299 #[.p m,.i n,.func (.func i) #[] caps] (obs++A)
   fun r L'=>r= .b (F5 ss n)/\ ∃A',L'=obs++A'/\BX m (if F5 ss n=true then Ad4 ss n g else ss) (if F5 ss n=true then iwo us n else us) A':=by
 have cM:=hA;obtain⟨sv,sseg,uv,useg,rfl,ok⟩:=hA;refine(e299 (some m.z) n ⟨.func i,#[],caps⟩).c ?_;refine C4 fun n1 _=>A6 n (ldB Dq7 rfl) ?_;refine B5 (B86 _ m ss us _ cM (fun x hx=>by simp at hx⊢;simp[hx]) n) (F5 ss n,()) rfl ?_;cases iK:F5 ss n with
 |false=>
  refine ifT rfl (.cons (.of ⟨rfl,_,rfl,?_⟩));simpa using cM
 |true=>
  obtain⟨h0,hi,hb⟩:=K5 iK;have hC:=ok.own.sl.els_len H3 (by decide);have bR:=ok.few;refine ifF rfl (A5 rfl (A6 uv (b_u (sv:=sv) (by simp)) ?_));refine G5 (R:=obs++(bO m sv uv::sseg)) (C43 uv us useg ok.uown (by omega) n n1) ?_ ?_
  ·classical
   rw[Dt9];intro x;simp only[Dw2,Dt7,Du0,Dv0,Dv7];omega
  rintro _ _ ⟨u2,useg2,rfl,rfl,uown2⟩;generalize dP:(n1,Obj.cells #[.i n] 3)=o1;have l1: ∀{Z:A4},C9 n1.z [.i n] (o1::Z):=by subst dP;exact ldB Dq7 rfl
  refine⟨(o1::obs)++bO m sv uv::(sseg++useg2),?_,(u2,()),rfl,A5 rfl ?_⟩
  ·classical
   rw[Dt9];intro x;simp only[Dw2,Dt7,Du0,Dv0,Dv7];omega
  refine E4 (n:=m) (off:=1) (c:=#[.slice sv.a sv.len sv.cap,.slice uv.a uv.len uv.cap]) (T:=259) (fz:=(0,0)) (o1::obs) (sseg++useg2) rfl (by simp[bO]) (by simp) (.inl (Dq6 _)) #[.slice sv.a sv.len sv.cap,.slice u2.a u2.len u2.cap] rfl ?_;obtain⟨a,ha,_⟩:=ok.own.sl.el H3 (by decide) hi;refine A5 rfl (A6 sv (b_s (m:=m) (uv:=u2) (by unfold bO;simp)) (A6 n l1 (A5 ha (D9 h0 (show n<sv.len by omega) (Ab4 hio ?_)))));refine G5 (R:=o1::bO m sv u2::useg2) (h sv sseg n.toNat a hi ok.own ha) ?_ ?_
  ·unfold bO
   classical
   rw[Dt9];intro x;simp only[Dw2,Dt7,Du0,Dv0,Dv7];omega
  rintro _ _ ⟨rfl,sseg2,rfl,own2⟩;refine⟨o1::(obs++(bO m sv u2::(sseg2++useg2))),?_,(),rfl,?_⟩
  ·classical
   rw[Dt9];intro x;simp only[Dw2,Dt7,Du0,Dv0,Dv7];omega
  rw[<-Bk0 hi]at own2;refine .cons (.of ⟨rfl,_,rfl,?_⟩);simp only[if_true];have iJ:=Dl5 us n;refine⟨sv,sseg2,u2,useg2,rfl,own2,uown2,by unfold Ad4;rw[D63];exact ok.cnt,by omega,fun s hs=>?_⟩;rw[Bk0 hi]at hs;rcases Dr5.1 hs with h1|h1
  ·exact ok.wr s (D25 h1)
  ·rcases Dt5.1 h1 with rfl|h2
   ·exact hg _ (Dr7 hi)
   ·exact ok.wr s (D59 h2)
theorem Dp5(a:Addr)(i k:Nat):Addr.add (a.add i) k=a.add (i+k):=by
 unfold Addr.add;by_cases h1:i=0<;>by_cases h2:k=0<;>simp[h1,h2,D34]
theorem B73(p s:List BS)(x x':BS)(k:Nat)(hk:k<3)(w:Value)(hx:(Y9 x).set k w=Y9 x'):A77 ((p++x::s).flatMap Y9) (p.length*3+k) [w]=(p++x'::s).flatMap Y9:=by
 have hp:(p.flatMap Y9).length=p.length*3:=O5 H3 p;rw[Ap1 (by rw[O5 H3,Dr4,Dr8];omega)];rw[Dt3,Dt3,Du1,Du1,<-hx,Ec5 _ _ (by omega),hp,show p.length*3+k-p.length*3=k by omega,List.set_append_left _ _ (by rw[H3];exact hk)]
def R5(bad:Bool)(s:BS):BS:=⟨s.wear+1,bad,false⟩
def Ac3(s:BS):BS:={s with dirty:=false}
theorem Cc5(ss:List BS)(hw: ∀s∈ss,0<=s.wear/\s.wear<=1000000000)(bad:Bool)(n1:Nat)(v:SlV)(seg:A4)(j:Nat)(a:Addr)(hj:j<ss.length)(own:Own v 3 eSt (ss.flatMap Y9) seg)(ha:v.a=some a):
  CallF PP 300 #[.q (some (a.add (j*3))),.p n1] ([(n1,Obj.cells #[.b bad] 4)]++seg)
   fun r L'=>r= .t #[]/\ ∃seg',L'=[(n1,Obj.cells #[.b bad] 4)]++seg'/\Own v 3 eSt ((ss.take j++R5 bad ss[j]::ss.drop (j+1)).flatMap Y9) seg':=by
 refine(e300 (some (a.add (j*3))) (some n1.z)).c ?_;have hx:=hw ss[j] (Dr7 hj);have hs:ss=ss.take j++ss[j]::ss.drop (j+1):=by rw[<-Dv1 hj,Dw1]
 have tD:(ss.take j).length=j:=by rw[Ds0];omega
 generalize ss.take j=p at hs tD⊢;generalize ss.drop (j+1)=t at hs⊢;generalize ss[j]=x at hs hx⊢;subst hs;have hl: ∀(y:BS),((p++y::t).flatMap Y9).length=(p.length+1+t.length)*3:=fun y=>by rw[O5 H3,Dr4,Dr8];congr 1;omega
 have cD:=own.sl.el H3 (by decide) (i:=p.length) (by simp);obtain⟨a',cQ,cD⟩:=cD;rw[ha]at cQ;obtain rfl:=Dq9 cQ;rw[show(p++x::t)[p.length]'(by simp)=x by simp,tD]at cD;generalize ho:(n1,Obj.cells #[.b bad] 4)=o1;have lb: ∀{Z:A4},C9 n1.z [.b bad] (o1::Z):=by subst ho;exact ldB Dq7 rfl
 clear ho;refine A5 rfl (A6 x.wear ?_ (A5 rfl ?_))
 ·exact(cD.mono fun _ hx=>Du2 _ hx).pre fun i u hu=>by cases i with|zero=>exact hu|succ i=>exact absurd (show(none:Option Value)=some u from hu) (by simp)
 rw[C1 (by omega) (by omega)];refine own.st [o1] [] (p:=j*3+0) (by rw[hl];simp only[Dr8,Du7];omega) (by simp) ha rfl (by simp) fun seg1 own1=>?_;rw[<-tD,B73 p t x ⟨x.wear+1,x.bad,x.dirty⟩ 0 (by decide) _ rfl]at own1;refine A5 rfl (A6 bad lb (A5 rfl ?_));refine own1.st [o1] [] (p:=j*3+1) (by rw[hl];simp only[Dr8,Du7];omega) (by simp) ha (Dp5 a (j*3) 1) rfl fun seg2 own2=>?_;rw[<-tD,B73 p t ⟨x.wear+1,x.bad,x.dirty⟩ ⟨x.wear+1,bad,x.dirty⟩ 1 (by decide) _ rfl]at own2;refine A5 rfl (own2.st [o1] [] (p:=j*3+2) (by rw[hl];simp only[Dr8,Du7];omega) (by simp) ha (Dp5 a (j*3) 2) rfl fun seg3 own3=>?_);rw[<-tD,B73 p t ⟨x.wear+1,bad,x.dirty⟩ ⟨x.wear+1,bad,false⟩ 2 (by decide) _ rfl]at own3;rw[Dr3];exact .of ⟨rfl,seg3,rfl,own3⟩
theorem Cd4(m:Nat)(ss:List BS)(us:List Int)(A:A4)(hA:BX m ss us A)(hw: ∀s∈ss,0<=s.wear/\s.wear<=900000000)(n:Int)(bad:Bool):CallF PP 253 #[.p m,.i n,.b bad] A
  fun r L'=>r= .b (F5 ss n)/\BX m (if F5 ss n=true then Ad4 ss n (R5 bad)else ss) (if F5 ss n=true then iwo us n else us) L':=by
 refine(e253 (some m.z) n bad).c ?_;refine C4 fun n1 _=>?_;refine K1 [] [] (C75 m ss us A hA n 300 (by kernel_rfl) #[.p n1] [(n1,Obj.cells #[.b bad] 4)] (R5 bad) (fun s hs=>by have:=hw s hs;unfold R5;simp only;omega)
  (fun v seg j a hj own ha=>Cc5 ss (fun s hs=>by have:=hw s hs;omega) bad n1 v seg j a hj own ha)) (by simp) ?_
 rintro _ _-⟨rfl,A',rfl,cM⟩;rw[Dr3];exact⟨(F5 ss n,()),rfl,.cons (.of ⟨rfl,cM⟩)⟩
def Au9:List BS->List Int->List Int->Option (List BS×List Int)
 |ss,us,[]=>some (ss,us)
 |ss,us,n::r=>if N6 ss us n=true then Au9 (Ad4 ss n Ac3) (us++[n]) r else none
def Bu2(ss:List BS):Bool:=ss.all fun s=>decide (0<=s.wear/\s.wear<=1048576)
def Ah1(ss:List BS)(used:List Int):Option (List BS×List Int):=if 1<=ss.length/\ss.length<=16/\Bu2 ss=true then Au9 ss [] used else none
theorem Al0(ss:List BS)(n:Int)(g:BS->BS):(Ad4 ss n g).length=ss.length:=D63 ..
theorem Bp7: ∀(k:Nat) (l:List Int),l.Nodup->(∀x∈l,0<=x/\x<k)->l.length<=k
 |0,l,_,h=>by
  cases l with
  |nil=>simp
  |cons x r=>have:=h x (by simp);omega
 |k+1,l,hn,h=>by
  have h1:=Bp7 k (l.erase (k:Int)) (hn.erase _) (fun x hx=>by
   rw[hn.mem_erase_iff]at hx;have:=h x hx.2;have:=hx.1;omega)
  by_cases hk:(k:Int)∈l
  ·rw[Ef8 hk]at h1;omega
  ·rw[Ec6 hk]at h1;omega
def bus(ss:List BS)(us:List Int):Prop:=us.Nodup/\ ∀x∈us,0<=x/\x<ss.length
theorem B11{ss:List BS}{us:List Int}(h:bus ss us):us.length<=ss.length:=Bp7 _ _ h.1 h.2
theorem B83{ss:List BS}{us:List Int}(h:bus ss us){n:Int}(hf:N6 ss us n=true):bus ss (us++[n]):=by
 obtain⟨h1,h2⟩:=D8 hf;obtain⟨h0,hi,_⟩:=K5 h1;refine⟨?_,fun x hx=>?_⟩
 ·rw[Dx3];exact⟨h.1,by simp,fun a ha b hb=>by rw[Dr2.1 hb];rintro rfl;exact h2 ha⟩
 ·rcases Dr5.1 hx with h3|h3
  ·exact h.2 x h3
  ·rw[Dr2.1 h3];omega
theorem Ct6{ss:List BS}(h:Bu2 ss=true): ∀s∈ss,0<=s.wear/\s.wear<=1048576:=by
 unfold Bu2 at h;rw[Dy1]at h;intro s hs;simpa using h s hs
def A68(ss:List BS)(used:List Int)(A:A4)(v:Value)(L':A4):Prop:=match Ah1 ss used with
 |none=>v= .t #[.q none,.i 2]/\L'=A
 |some r=> ∃(m:Nat) (B:A4),v= .t #[.p m,.i 0]/\L'=B++A/\BX m r.1 r.2 B/\bus r.1 r.2
theorem A68.bad{ss:List BS}{used:List Int}{A:A4}(h:Ah1 ss used=none):A68 ss used A (.t #[.q none,.i 2]) A:=by
 unfold A68;rw[h];exact⟨rfl,rfl⟩
theorem Dp0(A:A4)(v:SlV)(ss:List BS)(hv:Sl A v 3 (ss.flatMap Y9))(u:SlV)(used:List Int)(hu:ISl A u .i64 used)(eZ:used.length<=9223372036854775807):CallF PP 99 #[.slice v.a v.len v.cap,.slice u.a u.len u.cap] A (A68 ss used A):=by
 refine(e99 v u).c ?_;have cR:=hv.els_len H3 (by decide);have sG:=hu.len;refine C0 (fun(h1:(v.len:Int)<1)=>.of (A68.bad (by unfold Ah1;rw[Dq4 (by omega)]))) (fun(h1: ¬(v.len:Int)<1)=>?_);refine C0 (fun(h2:(v.len:Int)>16)=>.of (A68.bad (by unfold Ah1;rw[Dq4 (by omega)]))) (fun(h2: ¬(v.len:Int)>16)=>?_);refine K1 [] [] (B98 A v ss hv (by omega)) (by simp) ?_;rintro _ _-⟨sv,sseg,rfl,rfl,sown⟩;rw[Dr3,Ds1];refine⟨(sv,()),rfl,C4 fun m _=>?_⟩;refine G7 (fun k z L'=> ∃(i:Nat) (J:A4),i<=ss.length/\k=ss.length-i/\z=((i:Int),())/\L'=J++(bO m sv ⟨none,0,0⟩::(sseg++A))/\ ∀s∈ss.take i,0<=s.wear/\s.wear<=1048576) ss.length ⟨0,[],by omega,by omega,rfl,rfl,by simp⟩ ?_;rintro k z L' ⟨i,J,hi,rfl,rfl,rfl,aB⟩;refine C0 (fun(hO:(i:Int)<v.len)=>?_) (fun(aS: ¬(i:Int)<v.len)=>?_)
 ·have hJ:i<ss.length:=by omega
  have ax:Sl (J++(bO m sv ⟨none,0,0⟩::(sseg++A))) v 3 (ss.flatMap Y9):=hv.right.cons.right;obtain⟨a,ha,hl⟩:=ax.el H3 (by decide) hJ;refine A5 ha (D9 (show(0:Int)<=(i:Int) by omega) hO (A6 (ss[i].wear,ss[i].bad,ss[i].dirty,()) (by rw[Dr0];exact hl) ?_));have bG: ¬(0<=ss[i].wear/\ss[i].wear<=1048576)->Ah1 ss used=none:=by
   intro hc;unfold Ah1;rw[Dq4];rintro⟨_,_,h3⟩;exact hc (Ct6 h3 _ (Dr7 hJ))
  have bW: ∀(h:0<=ss[i].wear/\ss[i].wear<=1048576),∀s∈ss.take (i+1),0<=s.wear/\s.wear<=1048576:=by
   intro h s hs;rw[Ds4 hJ]at hs;rcases Dr5.1 hs with h3|h3
   ·exact aB s h3
   ·rw[Dr2.1 h3];exact h
  generalize ss[i]=x at bG bW⊢;refine C4 fun n2 _=>E4 [] _ rfl rfl (by simp) (.inl (Dq6 _)) #[.i x.wear,.b x.bad,.b x.dirty] rfl ?_;rw[Ds1];refine A6 x.wear (ldB Dq7 rfl) (C0 (fun(hc:x.wear<0)=>.cons (.app (.cons (.app (.of (A68.bad (bG (by omega)))))))) (fun(hc: ¬x.wear<0)=>?_));refine A6 x.wear (ldB Dq7 rfl) (C0 (fun(cK:x.wear>1048576)=>.cons (.app (.cons (.app (.of (A68.bad (bG (by omega)))))))) (fun(cK: ¬x.wear>1048576)=>?_));refine⟨ss.length-(i+1),by omega,i+1,(n2,Obj.cells #[.i x.wear,.b x.bad,.b x.dirty] eSt)::J,by omega,rfl,?_,rfl,bW (by omega)⟩;rw[C1 (by first|omega|(simp only;omega)) (by first|omega|(simp only;omega))];rfl
 ·obtain rfl:i=ss.length:=by omega
  rw[Ds9]at aB;have zK:Bu2 ss=true:=by unfold Bu2;rw[Dy1];intro s hs;simpa using aB s hs
  have hR:Ah1 ss used=Au9 ss [] used:=by unfold Ah1;rw[Dq5 ⟨by omega,by omega,zK⟩]
  refine G7 (fun k z L'=> ∃(i:Nat) (J:A4) (cs:List BS) (us:List Int) (sseg useg:A4) (uv:SlV),i<=used.length/\k=used.length-i/\z=((i:Int),())/\L'=J++(bO m sv uv::(sseg++useg))++A/\BOk sv sseg cs uv useg us/\bus cs us/\cs.length=ss.length/\Au9 ss [] used=Au9 cs us (used.drop i)) used.length
   ⟨0,J,ss,[],sseg,[],⟨none,0,0⟩,by omega,by omega,rfl,by simp,⟨sown,own_z,by omega,by simp,fun s hs=>by have:=aB s hs;omega⟩,⟨by simp,by simp⟩,rfl,rfl⟩ ?_
  rintro k z L' ⟨i,J,cs,us,sseg,useg,uv,hi,rfl,rfl,rfl,ok,hb,bN,hU⟩;refine C0 (fun(hO:(i:Int)<u.len)=>?_) (fun(aS: ¬(i:Int)<u.len)=>?_)
  ·have hJ:i<used.length:=by omega
   have fP:ISl (J++(bO m sv uv::(sseg++useg))++A) u .i64 used:=hu.right;obtain⟨a,ha⟩:=fP.some hJ;have dT:=Dv1 hJ;rw[dT]at hU;refine A5 ha (D9 (show(0:Int)<=(i:Int) by omega) hO (A6 used[i] (fP.rd hJ ha _ (by simp)) ?_));generalize used[i]=n at hU⊢;have hBX:BX m cs us (bO m sv uv::(sseg++useg)):=⟨sv,sseg,uv,useg,rfl,ok⟩;refine B5 (Az2 _ m cs us _ hBX (fun x hx=>Ds8 _ (Du2 _ hx)) n) (N6 cs us n,()) rfl ?_;cases bQ:N6 cs us n with
   |false=>
    refine ifT rfl (.app (.of (A68.bad ?_)));rw[hR,hU];unfold Au9;rw[Dq4 (by rw[bQ];decide)]
   |true=>
    have hU2:Au9 ss [] used=Au9 (Ad4 cs n Ac3) (us++[n]) (used.drop (i+1)):=by
     rw[hU];conv=>lhs;unfold Au9
     rw[Dq5 bQ]
    obtain⟨h0,dC,_⟩:=K5 (D8 bQ).1;have kV:=ok.own.sl.els_len H3 (by decide);have pL:=ok.uown.sl.len;rw[N1,Dt8]at pL;obtain⟨b,fZ,_⟩:=ok.own.sl.el H3 (by decide) dC;have bR:=B11 hb;refine ifF rfl (A6 sv (b_s (uv:=uv) (by simp)) (A5 fZ (D9 h0 (show n<sv.len by omega) ?_)));refine ok.own.st (J++[bO m sv uv]) (useg++A) (p:=n.toNat*3+2) (by rw[O5 H3];simp only[Dr8,Du7];omega) (by simp) fZ (Dp5 b (n.toNat*3) 2) (by simp) fun sseg2 own2=>?_;have pP:cs=cs.take n.toNat++cs[n.toNat]::cs.drop (n.toNat+1):=by rw[<-Dv1 dC,Dw1]
    have tC:(cs.take n.toNat).length=n.toNat:=by rw[Ds0];omega
    have eJ:=B73 (cs.take n.toNat) (cs.drop (n.toNat+1)) cs[n.toNat] (Ac3 cs[n.toNat]) 2 (by decide) (.b false) rfl;rw[<-pP,tC,<-Bk0 dC]at eJ;rw[eJ]at own2;refine A6 uv (b_u (sv:=sv) (by simp)) (C4 fun n3 _=>?_);have iQ: ∀{Z:A4},Sl ((n3,Obj.cells #[.i n] B74)::Z) ⟨some n3.z,1,1⟩ 1 (ivs .i64 [n]):=fun{Z}=>⟨rfl,Dq6 _,.inr ⟨_,rfl,ldB Dq7 rfl⟩⟩;have nT:=ok.cnt;refine E6 Bj4 Cg3 ((n3,Obj.cells #[.i n] B74)::(J++(bO m sv uv::sseg2))) A ok.uown (by simp) (.sl iQ) (Ai3 _ _) (by first|omega|(simp only;omega)) fun v2 seg2 oB uown2=>?_;rw[<-Ae2]at uown2;refine E4 (n:=m) (off:=1) (c:=#[.slice sv.a sv.len sv.cap,.slice uv.a uv.len uv.cap]) (T:=259) (fz:=(0,0)) ((n3,Obj.cells #[.i n] B74)::J) (sseg2++(seg2++A)) rfl (by simp[bO]) (by simp) (.inl (Dq6 _)) #[.slice sv.a sv.len sv.cap,.slice v2.a v2.len v2.cap] rfl ?_;have qR:=B83 hb bQ;have hml:=Al0 cs n Ac3;refine⟨used.length-(i+1),by omega,i+1,(n3,Obj.cells #[.i n] B74)::J,Ad4 cs n Ac3,us++[n],sseg2,seg2,v2,by omega,rfl,?_,by simp[bO],⟨own2,uown2,by omega,by have:=B11 qR;omega,fun s hs=>?_⟩,⟨qR.1,fun x hx=>by rw[hml];exact qR.2 x hx⟩,by omega,hU2⟩
    ·rw[C1 (by first|omega|(simp only;omega)) (by first|omega|(simp only;omega))];rfl
    ·rw[Bk0 dC]at hs;rcases Dr5.1 hs with h3|h3
     ·exact ok.wr s (D25 h3)
     ·rcases Dt5.1 h3 with rfl|h4
      ·exact ok.wr cs[n.toNat] (Dr7 dC)
      ·exact ok.wr s (D59 h4)
  ·obtain rfl:i=used.length:=by omega
   rw[D90]at hU;have hRR:Ah1 ss used=some (cs,us):=by rw[hR,hU];rfl
   rw[Ds5];refine .app (.of ?_);unfold A68;rw[hRR];exact⟨m,_,rfl,rfl,⟨sv,sseg,uv,useg,rfl,ok⟩,hb⟩
def cut(n m:Int):Int:=if n<0 then 0 else if m<n then m else n
theorem Ad1(n m:Int)(h:0<=m):0<=cut n m/\cut n m<=m:=by unfold cut;split<;>(try split)<;>omega
theorem Dd3(n m:Int)(h:0<=n)(h2:n<=m):cut n m=n:=by unfold cut;split<;>(try split)<;>omega
theorem C53(n m:Int)(h:0<=m):Aa2 (Ad3 n m) 0=cut n m:=by unfold cut Aa2 Ad3;split<;>split<;>(try split)<;>(try split)<;>omega
structure Bk where
 rate:Int
 last:Int
 burst:Int
 tokens:Int
structure Bk.Ok(b:Bk):Prop where
 r0:0<=b.rate
 r1:b.rate<=1048576
 l0:0<=b.last
 l1:b.last<=253402300799
 b0:0<=b.burst
 b1:b.burst<=1073741824
 t0:0<=b.tokens
 t1:b.tokens<=b.burst
def Al7(rate burst now tokens:Int):Bk:=⟨cut rate 1048576,cut now 253402300799,cut burst 1073741824,cut tokens (cut burst 1073741824)⟩
theorem C79(rate burst now tokens:Int):(Al7 rate burst now tokens).Ok:=by
 have h1:=Ad1 rate 1048576 (by decide);have h2:=Ad1 now 253402300799 (by decide);have h3:=Ad1 burst 1073741824 (by decide);have h4:=Ad1 tokens (cut burst 1073741824) h3.1;exact⟨h1.1,h1.2,h2.1,h2.2,h3.1,h3.2,h4.1,h4.2⟩
def Ag6(b:Bk)(t:Int):Int:=if t<=b.last then 0 else b.rate*(t-b.last)
def Ag5(b:Bk)(now:Int):Bk:=
 let t:=cut now 253402300799
 ⟨b.rate,if t<=b.last then b.last else t,b.burst,cut (b.tokens+Ag6 b t) b.burst⟩
theorem Cl1{a b:Int}(h1:0<=a)(h2:a<=1048576)(h3:0<=b)(h4:b<=253402300799):0<=a*b/\a*b<=265711571000000000:=by
 refine⟨Dx8 h1 h3,?_⟩;have h5:a*b<=1048576*253402300799:=Int.mul_le_mul h2 h4 h3 (by decide);omega
theorem Bc1{b:Bk}(h:b.Ok){t:Int}(h0:0<=t)(h1:t<=253402300799):0<=Ag6 b t/\Ag6 b t<=265711571000000000:=by
 unfold Ag6;split
 ·omega
 ·have:=h.l0;exact Cl1 h.r0 h.r1 (by omega) (by omega)
theorem Ct8{b:Bk}(h:b.Ok)(now:Int):(Ag5 b now).Ok:=by
 have h1:=Ad1 now 253402300799 (by decide);have h2:=Ad1 (b.tokens+Ag6 b (cut now 253402300799)) b.burst h.b0;have h3:=h.l0;have h4:=h.l1;refine⟨h.r0,h.r1,?_,?_,h.b0,h.b1,h2.1,h2.2⟩<;>(simp only[Ag5];split<;>omega)
def Av0(b:Bk)(n:Int):Bool:=decide (0<=n/\n<=b.tokens)
def Af0(b:Bk)(n:Int):Bk:=if 0<=n/\n<=b.tokens then{b with tokens:=b.tokens-n}else b
theorem Ct9{b:Bk}(h:b.Ok)(n:Int):(Af0 b n).Ok:=by
 unfold Af0;split
 ·have:=h.t1;exact⟨h.r0,h.r1,h.l0,h.l1,h.b0,h.b1,by first|omega|(simp only;omega),by first|omega|(simp only;omega)⟩
 ·exact h
abbrev Bc4(b:Bk):Obj:=.cells #[.i b.rate,.i b.last,.i b.burst,.i b.tokens] 171
theorem Au3(L:A4)(n m:Int)(b:Nat)(h:0<=m)(hm:(b,Obj.cells #[.i m] 3)∈L):Reads PP 123 #[.i n,.slice (some b.z) 1 1] L (.i (cut n m)):=by
 refine(e123 n ⟨some b.z,1,1⟩).r ?_;refine G7 (fun k z L'=>L'=L/\((k=1/\z=(n,0,()))\/(k=0/\z=(Ad3 n m,1,())))) 1 ⟨rfl,.inl ⟨rfl,rfl⟩⟩ ?_;rintro k z L ⟨rfl,⟨rfl,rfl⟩|⟨rfl,rfl⟩⟩
 ·refine ifP (show(0:Int)<1 by decide) (D9 (show(0:Int)<=0 by decide) (show(0:Int)<1 by decide) (A6 m (ldB hm rfl) ⟨0,by omega,rfl,.inr ⟨rfl,rfl⟩⟩))
 ·refine ifN (show¬(1:Int)<1 by decide) (.of ⟨?_,rfl⟩);simp only[C53 n m h]
theorem C78(rate burst now tokens:Int):CallF PP 96 #[.i rate,.i burst,.i now,.i tokens] [] fun v L'=> ∃n,v= .p n/\L'=[(n,Bc4 (Al7 rate burst now tokens))]:=by
 refine(e96 rate burst now tokens).c ?_;have h3:=Ad1 burst 1073741824 (by decide);refine C4 fun n1 _=>B5 (Au3 _ rate 1048576 n1 (by decide) Dq7) (cut rate 1048576,()) rfl ?_;refine C4 fun n2 _=>B5 (Au3 _ now 253402300799 n2 (by decide) Dq7) (cut now 253402300799,()) rfl ?_;refine C4 fun n3 _=>B5 (Au3 _ burst 1073741824 n3 (by decide) Dq7) (cut burst 1073741824,()) rfl ?_;refine C4 fun n4 _=>A6 (cut burst 1073741824) (ldB Dq7 rfl) ?_;refine C4 fun n5 _=>B5 (Au3 _ tokens (cut burst 1073741824) n5 h3.1 Dq7) (cut tokens (cut burst 1073741824),()) rfl ?_;refine E4 [_] _ rfl rfl (by simp[N7]) (.inl (Dq6 _)) _ rfl ?_;exact .drop (A:=[_]) (J:=[_,_,_,_]) ⟨n4,rfl,rfl⟩ (D45 _ _ _)
theorem Cy7(L:A4)(b:Bk)(hb:b.Ok)(t:Int)(h0:0<=t)(h1:t<=253402300799):Reads PP 122 #[.agg #[.i b.rate,.i b.last],.i t] L
  (.t #[.i (Ag6 b t),.agg #[.i b.rate,.i (if t<=b.last then b.last else t)]]):=by
 refine(e122 (b.rate,b.last,()) t).r ?_;have hr:=Bc1 hb h0 h1;have jE:=hb.l0;have fK:=hb.l1;refine C4 fun n1 _=>C4 fun n2 _=>A6 b.last (ldB (Dr6 _ Dq7) rfl) ?_;refine C0 (fun(h:t<=b.last)=>?_) (fun(h: ¬t<=b.last)=>?_)
 ·refine A6 (b.rate,b.last,()) (ldB (Dr6 _ Dq7) rfl) (E4 [] _ rfl rfl (by simp[N7]) (.inl (Dq6 _)) _ rfl (A6 (b.rate,b.last,()) (ldB Dq7 rfl) ?_));refine .drop (A:=L) (J:=[_,_]) ⟨?_,rfl⟩ (Du8 (l₁:=[_,_]));unfold Ag6;rw[Dq5 h,Dq5 h]
 ·refine A6 b.rate (ldB (Dr6 _ Dq7) rfl) (A6 b.last (ldB (Dr6 _ Dq7) rfl) (A6 b.rate (ldB (Dr6 _ Dq7) rfl) ?_));refine E4 [] _ rfl rfl (by simp[N7]) (.inl (Dq6 _)) _ rfl (A6 (b.rate,t,()) (ldB Dq7 rfl) ?_);refine .drop (A:=L) (J:=[_,_]) ⟨?_,rfl⟩ (Du8 (l₁:=[_,_]));unfold Ag6 at hr⊢;rw[Dq4 h]at hr;rw[Dq4 h,Dq4 h,C1 (n:=t-b.last) (by omega) (by omega),C1 (by omega) (by omega)]
theorem Df0(n:Nat)(b:Bk)(hb:b.Ok)(t:Int):CallF PP 58 #[.p n,.i t] [(n,Bc4 b)] fun v L'=>v= .t #[]/\L'=[(n,Bc4 (Ag5 b t))]:=by
 refine(e58 (some n.z) t).c ?_;have hc:=Ad1 t 253402300799 (by decide);have hr:=Bc1 hb hc.1 hc.2;have ht0:=hb.t0;have bc:=hb.t1;have dF:=hb.b1;refine ifF rfl (A5 rfl (A6 (b.rate,b.last,()) (ldB Dq7 rfl) ?_));refine C4 fun n1 _=>B5 (Au3 _ t 253402300799 n1 (by decide) Dq7) (cut t 253402300799,()) rfl (F7 (ldB (Dr6 _ Dq7) rfl) ?_);refine B5 (Cy7 _ b hb (cut t 253402300799) hc.1 hc.2) (Ag6 b (cut t 253402300799),(b.rate,(if cut t 253402300799<=b.last then b.last else cut t 253402300799),()),()) rfl ?_;refine C4 fun n2 _=>E4 [] _ rfl rfl (by simp[N7]) (.inl (Dq6 _)) _ rfl ?_;refine A5 rfl (A5 rfl (A6 b.tokens (ldB (Dr6 _ (Dr6 _ Dq7)) rfl) (A6 b.burst (ldB (Dr6 _ (Dr6 _ Dq7)) rfl) ?_)));refine A6 (b.rate,(if cut t 253402300799<=b.last then b.last else cut t 253402300799),()) (ldB Dq7 rfl) ?_;have hw:IntKind.i64.wrap (b.tokens+Ag6 b (cut t 253402300799))=b.tokens+Ag6 b (cut t 253402300799):=C1 (by omega) (by omega);refine C4 fun n3 _=>?_;simp only[hw];refine B5 (Au3 _ _ b.burst n3 hb.b0 Dq7) (cut (b.tokens+Ag6 b (cut t 253402300799)) b.burst,()) rfl (F7 (ldB (Dr6 _ Dq7) rfl) ?_);refine A5 rfl (E4 [_,_,_] [] rfl rfl (by simp[N7]) (.inl (Dq6 _)) _ rfl (F7 (ldB (Dr6 _ Dq7) rfl) (A5 rfl (E4 [_,_,_] [] rfl rfl (by simp[N7]) (.inl (Dq6 _)) _ rfl ?_))));exact .drop (A:=[_]) (J:=[_,_,_]) ⟨rfl,rfl⟩ (Du8 (l₁:=[_,_,_]))
theorem Bm3(L:A4)(n:Nat)(b:Bk)(hm:(n,Bc4 b)∈L):Reads PP 44 #[.p n] L (.i b.tokens):=by
 refine(e44 (some n.z)).r ?_;exact ifF rfl (A5 rfl (A6 b.tokens (ldB hm rfl) (.of ⟨rfl,rfl⟩)))
theorem Df2(n:Nat)(b:Bk)(hb:b.Ok)(t:Int):CallF PP 133 #[.p n,.i t] [(n,Bc4 b)] fun v L'=>v= .b (Av0 b t)/\L'=[(n,Bc4 (Af0 b t))]:=by
 refine(e133 (some n.z) t).c ?_;have bc:=hb.t1;have dF:=hb.b1;unfold Av0 Af0;refine ifF rfl (C0 (fun(h:t<0)=>.of ⟨?_,?_⟩) (fun(h: ¬t<0)=>A5 rfl (A6 b.tokens (ldB Dq7 rfl) (C0 (fun(h2:t>b.tokens)=>.of ⟨?_,?_⟩) (fun(h2: ¬t>b.tokens)=>?_)))))
 ·rw[Ds7 (by omega)]
 ·rw[Dq4 (by omega)]
 ·rw[Ds7 (by omega)]
 ·rw[Dq4 (by omega)]
 ·refine A5 rfl (A6 b.tokens (ldB Dq7 rfl) (A5 rfl (E4 [] [] rfl rfl (by simp[N7]) (.inl (Dq6 _)) _ rfl (.of ⟨?_,?_⟩))))
  ·rw[Dt2 (by omega)]
  ·rw[Dq5 (by omega),C1 (by first|omega|(simp only;omega)) (by first|omega|(simp only;omega))];rfl
def Bh8(room:Int)(l:List Int)(x:Int):List Int:=if((l.erase x++[x]).length:Int)>room then(l.erase x++[x]).drop 1 else l.erase x++[x]
def Bv1(l:List Int)(x i:Int):Prop:=(i= -1/\x∉l)\/ ∃k:Nat,i=k/\k<l.length/\l[k]?=some x/\x∉l.take k
theorem Bv1.mem{l:List Int}{x i:Int}(h:Bv1 l x i):(0<=i↔x∈l):=by
 rcases h with⟨rfl,h⟩|⟨k,rfl,hk,hx,_⟩
 ·simp[h]
 ·exact⟨fun _=>Dx2 hx,fun _=>by omega⟩
theorem Bv1.erase{l:List Int}{x:Int}{k:Nat}(hk:k<l.length)(hx:l[k]?=some x)(hn:x∉l.take k):l.erase x=l.take k++l.drop (k+1):=by
 have h1:l=l.take k++x::l.drop (k+1):=by
  have:l[k]=x:=by rw[Dr9 hk]at hx;exact Dq9 hx
  rw[<-this,<-Dv1 hk,Dw1]
 conv=>lhs;rw[h1]
 rw[List.erase_append_right _ hn,List.erase_cons_head]
theorem Bf3{l:List Int}{x:Int}{i:Nat}(hi:i<l.length)(h:x∉l.take i)(hx:l[i]≠x):x∉l.take (i+1):=by
 rw[Ds4 hi,Dr5];rintro(h1|h1)
 ·exact h h1
 ·exact hx (Dr2.1 h1).symm
abbrev tU:TypeId:=165
abbrev eU:TypeId:=91
theorem C69:V4 PP tU eU 1 8 [.int .u64 0]:=N3 (by kernel_rfl) (by kernel_rfl) rfl (by decide) (by decide)
theorem srcU:Ax5 PP tU:=.inl ⟨eU,by kernel_rfl⟩
theorem B42(L:A4)(v:SlV)(l:List Int)(h:ISl L v .u64 l)(hb:l.length<=1000000)(x:Int):
  CallF PP 102 #[.slice v.a v.len v.cap,.int .u64 x] L fun r L'=>L'=L/\ ∃i,r= .i i/\Bv1 l x i:=by
 refine(e102 v x).c ?_;have hC:=h.len;refine G7 (fun k z L'=>L'=L/\ ∃i,i<=l.length/\k=l.length-i/\z=((i:Int),())/\x∉l.take i) l.length ⟨rfl,0,by omega,by omega,rfl,by simp⟩ ?_;rintro k z L ⟨rfl,i,hi,rfl,rfl,hn⟩;refine C0 (fun(hO:(i:Int)<v.len)=>?_) (fun(aS: ¬(i:Int)<v.len)=>?_)
 ·have hJ:i<l.length:=by omega
  obtain⟨a,ha⟩:=h.some hJ;refine A5 ha (D9 (show(0:Int)<=i by omega) hO (A6 l[i] (h.rd hJ ha _ (by simp)) ?_));refine Ac2 (fun(he:x=l[i])=>.of ⟨rfl,i,rfl,.inr ⟨i,rfl,hJ,by rw[Dr9 hJ,he],hn⟩⟩) (fun(he:x≠l[i])=>?_);refine⟨l.length-(i+1),by omega,rfl,i+1,by omega,rfl,?_,Bf3 hJ hn (fun e=>he e.symm)⟩;rw[C1 (by first|omega|(simp only;omega)) (by first|omega|(simp only;omega))];rfl
 ·obtain rfl:i=l.length:=by omega
  rw[Ds9]at hn;exact .of ⟨rfl,-1,rfl,.inl ⟨rfl,hn⟩⟩
def GOb(room:Int)(l:List Int)(o:Obj):Prop:= ∃(c:Array Value) (f:Nat),o= .cells c 256/\c.size=67/\c[0]?=some (.i room)/\c[65]?=some (.i f)/\c[66]?=some (.i l.length)/\f<64/\l.length<=64/\
 ∀(i:Nat) (x:Int),l[i]?=some x->c[1+(f+i)%64]?=some (.int .u64 x)
theorem ldC{L:A4}{n off:Nat}{c:Array Value}{T:TypeId}{fz:Nat×Nat}{v:Value}(hm:(n,Obj.cells c T fz)∈L)(h:c[off]?=some v):C9 ⟨n,off,none⟩ [v] L:=
 .blk hm fun i u hu=>by
  cases i with
  |zero=>simp at hu;subst hu;exact h
  |succ i=>simp at hu
theorem M1(c:Array Value)(i j:Nat)(v:Value)(hi:i<c.size):(c.setIfInBounds i v)[j]?=if i=j then some v else c[j]?:=by
 rw[Array.getElem?_setIfInBounds];simp[hi]
theorem De0(n:Nat)(room:Int)(l:List Int)(o:Obj)(h:GOb room l o):CallF PP 103 #[.p n] [(n,o)] fun v L'=> ∃s seg,v= .slice s.a s.len s.cap/\L'=(n,o)::seg/\Own s 1 eU (ivs .u64 l) seg:=by
 refine(e103 (some n.z)).c ?_;obtain⟨c,f,rfl,aC,h0,h65,h66,hf,hl,hr⟩:=h;refine A5 rfl (A6 (l.length:Int) (ldC Dq7 h66) ?_);refine G7 (fun k z L'=> ∃i s seg J,i<=l.length/\k=l.length-i/\z=(s,(i:Int),())/\L'=J++seg++[(n,Obj.cells c 256)]/\Own s 1 eU (ivs .u64 (l.take i)) seg) l.length
  ⟨0,⟨none,0,0⟩,[],[],by omega,by omega,rfl,rfl,⟨rfl,Dq6 _,.inl ⟨rfl,rfl,rfl⟩⟩⟩ ?_
 rintro k z L' ⟨i,s,seg,J,hi,rfl,rfl,rfl,own⟩;have hm:(n,Obj.cells c 256)∈J++seg++[(n,Obj.cells c 256)]:=by simp
 refine C0 (fun(hO:(i:Int)<l.length)=>?_) (fun(aS: ¬(i:Int)<l.length)=>?_)
 ·have hJ:i<l.length:=by omega
  have hw:IntKind.i64.wrap ((f:Int)+i)=((f+i:Nat):Int):=by rw[C1 (by omega) (by omega)];omega
  have aQ:Int.tmod ((f+i:Nat):Int) 64=(((f+i)%64:Nat):Int):=by rw[D57 (by omega)];omega
  refine A5 rfl (A5 rfl (A6 (f:Int) (ldC hm h65) (Ad8 (by decide) ?_)));simp only[hw,aQ,Dr0,Dt8];refine D9 (by omega) (by omega) (A6 l[i] ?_ ?_)
  ·rw[P2 (ad:=n.z) rfl,P2 rfl];exact ldC hm (by rw[Dy2];exact hr i l[i] (Dr9 hJ))
  refine C4 fun m _=>E6 C69 srcU ((m,Obj.cells #[.int .u64 l[i]] eU)::J) [(n,Obj.cells c 256)] own rfl (.sl (ISl.const (l:=[l[i]]) 1 (Dq6 _) Dq7)) (Ai3 _ _)
   (by have:=own.sl.len;rw[N1,Ds0]at this;simp only[Dr8,Du7];omega) fun s' seg' cC own'=>?_
  rw[<-Ae2,<-Ds4 hJ]at own';refine⟨l.length-(i+1),by omega,i+1,s',seg',(m,Obj.cells #[.int .u64 l[i]] eU)::J,by omega,rfl,?_,rfl,own'⟩;rw[C1 (by first|omega|(simp only;omega)) (by first|omega|(simp only;omega))];rfl
 ·obtain rfl:i=l.length:=by omega
  rw[Ds9]at own;refine .drop (A:=(n,Obj.cells c 256)::seg) (J:=J) ⟨s,seg,rfl,rfl,own⟩ ?_;have h1:(J++seg++[(n,Obj.cells c 256)]).Perm ([(n,Obj.cells c 256)]++(J++seg)):=Du8;have h2:([(n,Obj.cells c 256)]++(J++seg)).Perm ([(n,Obj.cells c 256)]++(seg++J)):=Eb5 _ Du8;simpa using h1.trans h2
theorem Bt0(l:List Int)(x:Int):(l.erase x).length<=l.length:=D00 ..
theorem del_cl(v:SlV)(l:List Int)(seg:A4)(own:Own v 1 eU (ivs .u64 l) seg)(hb:l.length<=1000000)(k:Nat)(hk:k<l.length):
  CallF PP 110 #[.slice v.a v.len v.cap,.i k,.i ((k:Int)+1)] seg fun r L'=> ∃s,r= .slice s.a s.len s.cap/\Own s 1 eU (ivs .u64 (l.take k++l.drop (k+1))) L':=by
 refine(e110 v k ((k:Int)+1)).c ?_;have hC:=own.sl.len;rw[N1,Dt8]at hC;have aU:=own.cap;refine K7 (l':=k) (h':=k+1) (m':=v.len) rfl rfl rfl (by omega) (by omega) aU ?_;refine Ac2 (fun(he:(k:Int)=(k:Int)+1)=>absurd he (by omega)) (fun _=>?_);refine K7 (l':=0) (h':=k) (m':=v.cap) rfl rfl rfl (by omega) (by omega) (Dq6 _) ?_;refine K7 (l':=k+1) (h':=v.len) (m':=v.cap) rfl rfl rfl (by omega) aU (Dq6 _) ?_;have own2:=own.slc (l:=0) (h:=k) (by omega) (by omega);have src2:=Sl.slc (m:=v.cap) own.sl (by omega) (l:=k+1) (h':=v.len) (by omega) (Dq6 _) aU;rw[Co1]at own2 src2;refine Al3 C69 srcU [] [] own2 (by simp) (.sl src2) (Ai3 _ _) (by simp only[Q0,Dr0];omega) fun s seg' hs _ iA own'=>?_;rw[<-Ae2]at own';have e1:(l.drop 0).take (k-0)=l.take k:=by simp
 have e2:(l.drop (k+1)).take (v.len-(k+1))=l.drop (k+1):=by rw[hC];exact Dw9 (by rw[Ds6];omega)
 rw[e1,e2]at own';simp only[Q0,Dr0]at hs iA;have cT:=own'.cap;refine K7 (l':=s.len) (h':=v.len) (m':=s.cap) rfl rfl rfl (by omega) (by omega) (Dq6 _) ?_;refine Ai8 C69 rfl [] [] own' (by simp) (h:=v.len) (by omega) (by omega) rfl fun seg2 own2=>?_;exact .of ⟨s,rfl,by simpa using own2⟩
def Cq8(h:BitVec 64)(k:Nat):BitVec 64:=h^^^h>>>k
def Cm0(h:BitVec 64)(c:UInt8):BitVec 64:=Cq8 ((h^^^BitVec.ofNat 64 c.toNat)*1099511628211#64) 29
def Ak0(h:BitVec 64)(l:List UInt8):BitVec 64:=l.foldl Cm0 h
def By7(seed:Int)(l:List UInt8):BitVec 64:=Cq8 ((Ak0 (BitVec.ofInt 64 seed^^^11400714819323198485#64) l^^^BitVec.ofNat 64 l.length)*11400714819323198485#64) 32
theorem Bf7(c:BitVec 64)(l:List UInt8)(b:UInt8):Ak0 c (l++[b])=Cm0 (Ak0 c l) b:=by simp[Ak0]
theorem Cl2(L:A4)(v:SlV)(l:List UInt8)(h:BSl L v l)(hb:l.length<=1000000)(c:BitVec 64):Reads PP 174 #[.int .u64 c.toNat,.slice v.a v.len v.cap] L (.int .u64 (Ak0 c l).toNat):=by
 refine(e174 c.toNat v).r ?_;have hC:=h.len;refine G7 (fun k z L'=>L'=L/\ ∃i,i<=l.length/\k=l.length-i/\z=(((Ak0 c (l.take i)).toNat:Int),(i:Int),())) l.length ⟨rfl,0,by omega,by omega,rfl⟩ ?_;rintro k z L ⟨rfl,i,hi,rfl,rfl⟩;refine C0 (fun(hO:(i:Int)<v.len)=>?_) (fun(aS: ¬(i:Int)<v.len)=>?_)
 ·have iW:i<l.length:=by omega
  obtain⟨ad,ha⟩:=h.some iW;refine A5 ha (D9 (show(0:Int)<=i by omega) hO (A6 (l[i].toNat:Int) (h.rd iW ha _ (by simp)) ?_));refine Ad8 (by decide) ⟨l.length-(i+1),by omega,rfl,i+1,by omega,rfl,?_⟩;rw[C1 (by simp only;omega) (by simp only;omega),Ds4 iW,Bf7];simp only[Bw0,BitVec.ofInt_mul,Aw7,xor64,shr64,C20];rfl
 ·refine .of ⟨?_,rfl⟩;obtain rfl:i=l.length:=by omega
  rw[Ds9]
theorem Cb6(s:ByteArray):s.data.toList.length=s.size:=by rw[D14];rfl
theorem C24(L:A4)(seed:Int)(s:ByteArray)(hb:s.size<=1000000):Reads PP 104 #[.i seed,.w s] L (.int .u64 (By7 seed s.data.toList).toNat):=by
 refine(e104 seed s).r ?_;refine Da2 fun n ob v hv own hs=>?_;have hl:=Cb6 s;simp only[xor64,Bw0,Aw7];refine B5 (Cl2 _ v s.data.toList (Own.sl own).head (by omega) _) (_,()) rfl (Ad8 (by decide) ?_);refine .drop (A:=L) (J:=[_]) ⟨?_,rfl⟩ (Du8 (l₁:=[_]));simp only[BitVec.ofInt_mul,Aw7,shr64];unfold By7 Cq8;rw[hl];rfl
abbrev tyB:TypeId:=27
abbrev tyb:TypeId:=5
structure QE where
 id:Nat
 key:ByteArray
 val:List UInt8
 freq:Int
 v:SlV
 seg:A4
def pt(o:Option Nat):Option Addr:=o.map fun n=>n.z
def M5(e:QE)(prev next:Option Nat):Obj:=.cells #[.w e.key,.slice e.v.a e.v.len e.v.cap,.i e.freq,.q (pt prev),.q (pt next)] 184
def C6:List QE->Option Nat->Option Nat
 |[],n=>n
 |e::_,_=>some e.id
def C7:Option Nat->List QE->Option Nat
 |p,[]=>p
 |_,e::r=>C7 (some e.id) r
def P7:Option Nat->List QE->Option Nat->A4
 |_,[],_=>[]
 |p,e::r,n=>(e.id,M5 e p (C6 r n))::P7 (some e.id) r n
theorem Q7(p s:List QE)(n:Option Nat):C6 (p++s) n=C6 p (C6 s n):=by cases p<;>rfl
theorem Q5: ∀(p s:List QE) (q:Option Nat),C7 q (p++s)=C7 (C7 q p) s
 |[],s,q=>rfl
 |e::r,s,q=>Q5 r s (some e.id)
theorem W0: ∀(p s:List QE) (q n:Option Nat),P7 q (p++s) n=P7 q p (C6 s n)++P7 (C7 q p) s n
 |[],s,q,n=>rfl
 |e::r,s,q,n=>by
  show(e.id,M5 e q (C6 (r++s) n))::P7 (some e.id) (r++s) n=_;rw[Q7,W0 r s];rfl
def Ao5(l:List QE):A4:=l.flatMap QE.seg
def T5(l:List QE):Nat:=(l.map fun e=>e.key.size+e.val.length).sum
def Be2(l:List QE):List (ByteArray×Value):=l.map fun e=>(e.key,.q (pt (some e.id)))
structure QOk(l:List QE):Prop where
 own: ∀e∈l,Own e.v 1 tyb (bvs e.val) e.seg
 small: ∀e∈l,e.key.size<=100000/\e.val.length<=100000
 few:l.length<=100000
 nd:(l.map QE.key).Nodup
 fr: ∀e∈l,0<=e.freq/\e.freq<=3
def qO(room:Int)(l:List QE)(mk:Nat)(bytes:Int):Obj:=.cells #[.i room,.i bytes,.q (pt (C6 l none)),.q (pt (C7 none l)),.map (some mk)] 182
def QL(m:Nat)(room:Int)(l:List QE)(mk:Nat)(mes:Array MapEntry)(clock:Nat):A4:=
 (m,qO room l mk (T5 l))::(mk,Obj.map mes clock)::(P7 none l none++Ao5 l)
def QH(m:Nat)(room:Int)(l:List QE)(A:A4):Prop:= ∃mk mes clock,A=QL m room l mk mes clock/\Mp Value.w mes (Be2 l)/\QOk l
theorem Am8(p s:List QE):T5 (p++s)=T5 p+T5 s:=by simp[T5]
theorem Dh8{l:List QE}(h: ∀e∈l,e.key.size<=100000/\e.val.length<=100000):T5 l<=l.length*200000:=by
 induction l with
 |nil=>simp[T5]
 |cons e r ih=>
  have h1:=h e Dq7;have h2:=ih fun x hx=>h x (Dr6 _ hx);simp only[T5,Ds3,Ec7,Dr8]at h2⊢;omega
theorem QOk.sum{l:List QE}(h:QOk l):T5 l<=20000000000:=by
 have h1:=Dh8 h.small;have h2:=h.few;have:l.length*200000<=100000*200000:=Du9 _ h2;omega
theorem QOk.sub{p s:List QE}{e:QE}(h:QOk (p++e::s)):QOk (p++s):=by
 have hs: ∀x,x∈p++s->x∈p++e::s:=fun x hx=>by
  rcases Dr5.1 hx with h1|h1
  ·exact Ds8 _ h1
  ·exact Du2 _ (Dr6 _ h1)
 have aV:(p++s).Sublist (p++e::s):=List.Sublist.append_left (List.sublist_cons_self e s) p;refine⟨fun x hx=>h.own x (hs x hx),fun x hx=>h.small x (hs x hx),?_,h.nd.sublist (aV.map QE.key),fun x hx=>h.fr x (hs x hx)⟩;have:=h.few;rw[Dr4,Dr8]at this;rw[Dr4];omega
abbrev tyM:TypeId:=180
theorem mapQ:Cv5 PP tyM 9 177 Value.w (.q none):=Bg3 (by kernel_rfl) (Dc1 (by kernel_rfl)) (by kernel_rfl)
def V8(l:List QE)(k:ByteArray):Option QE:=l.find? fun e=>decide (k=e.key)
theorem Cm1(l:List QE)(k:ByteArray):(A36 (Be2 l) k).getD (.q none)= .q (pt ((V8 l k).map QE.id)):=by
 induction l with
 |nil=>rfl
 |cons e r ih=>
  unfold A36 V8 Be2 at*;rw[Ds3];by_cases h:k=e.key
  ·rw[D39 (by simpa using h),D39 (by simpa using h)];rfl
  ·rw[D53 (by simpa using h),D53 (by simpa using h)];exact ih
theorem Be3(m:Nat)(room:Int)(l:List QE)(A:A4)(h:QH m room l A)(k:ByteArray):
  Reads PP 116 #[.p m,.w k] A (.q (pt ((V8 l k).map QE.id))):=by
 obtain⟨mk,mes,clock,rfl,hm,ok⟩:=h;refine(e116 (some m.z) k).r ?_;refine ifF rfl (A5 rfl (A6 (some mk) (ldB (c:=#[.i room,.i (T5 l),.q (pt (C6 l none)),.q (pt (C7 none l)),.map (some mk)]) (T:=182) (fz:=(0,0)) Dq7 rfl) ?_));refine⟨(pt ((V8 l k).map QE.id),()),?_,.of ⟨rfl,rfl⟩⟩;have:=Aq0 (P:=PP) (L:=QL m room l mk mes clock) mapQ (r:=mk) (es:=mes) (clock:=clock) (m:=Be2 l) (by unfold QL;simp) hm k;rw[Cm1]at this;exact this
theorem Cg5(L:A4)(e:QE)(p n:Option Nat)(hm:(e.id,M5 e p n)∈L)(hv:e.v.len=e.val.length)(hs:e.key.size<=100000/\e.val.length<=100000):
  Reads PP 112 #[.p e.id] L (.i ((e.key.size+e.val.length:Nat):Int)):=by
 refine(e112 (some e.id.z)).r ?_;unfold M5 at hm;refine A5 rfl (A5 rfl (A6 e.key (ldB hm rfl) (A6 e.v (ldB hm rfl) (.of ⟨?_,rfl⟩))));rw[hv,C1 (by first|omega|(simp only;omega)) (by first|omega|(simp only;omega))];congr 1
section
variable {L:A4} {e:QE} {p n:Option Nat}
theorem C22(h:(e.id,M5 e p n)∈L):C9 e.id.z [.w e.key] L:=ldB (by unfold M5 at h;exact h) rfl
theorem B48(h:(e.id,M5 e p n)∈L):C9 ⟨e.id,1,none⟩ [.slice e.v.a e.v.len e.v.cap] L:=ldB (by unfold M5 at h;exact h) rfl
theorem Cl0(h:(e.id,M5 e p n)∈L):C9 ⟨e.id,2,none⟩ [.i e.freq] L:=ldB (by unfold M5 at h;exact h) rfl
theorem Ap8(h:(e.id,M5 e p n)∈L):C9 ⟨e.id,3,none⟩ [.q (pt p)] L:=ldB (by unfold M5 at h;exact h) rfl
theorem Ap9(h:(e.id,M5 e p n)∈L):C9 ⟨e.id,4,none⟩ [.q (pt n)] L:=ldB (by unfold M5 at h;exact h) rfl
theorem Cb5(h:(e.id,M5 e p n)∈L):C9 e.id.z [.w e.key,.slice e.v.a e.v.len e.v.cap,.i e.freq] L:=ldB (by unfold M5 at h;exact h) rfl
end
def qG(room bytes:Int)(o y:Option Nat)(mk:Nat):Obj:=.cells #[.i room,.i bytes,.q (pt o),.q (pt y),.map (some mk)] 182
section
variable {L:A4} {m mk:Nat} {room bytes:Int} {o y:Option Nat}
theorem q_room(h:(m,qG room bytes o y mk)∈L):C9 m.z [.i room] L:=ldB (by unfold qG at h;exact h) rfl
theorem A22(h:(m,qG room bytes o y mk)∈L):C9 ⟨m,1,none⟩ [.i bytes] L:=ldB (by unfold qG at h;exact h) rfl
theorem q_old(h:(m,qG room bytes o y mk)∈L):C9 ⟨m,2,none⟩ [.q (pt o)] L:=ldB (by unfold qG at h;exact h) rfl
theorem Cj4(h:(m,qG room bytes o y mk)∈L):C9 ⟨m,3,none⟩ [.q (pt y)] L:=ldB (by unfold qG at h;exact h) rfl
theorem q_map(h:(m,qG room bytes o y mk)∈L):C9 ⟨m,4,none⟩ [.map (some mk)] L:=ldB (by unfold qG at h;exact h) rfl
end
theorem Cm4{p s:List QE}{e:QE}(h:((p++e::s).map QE.key).Nodup):Bl0 (Be2 (p++e::s)) e.key=Be2 (p++s):=by
 induction p with
 |nil=>
  show(if e.key=e.key then _ else _)=_;rw[Dq5 rfl];rfl
 |cons a r ih=>
  rw[Dt7,Ds3,Dv9]at h;have aE:e.key≠a.key:=fun he=>h.1 (by rw[<-he];simp);show(if e.key=a.key then _ else _)=_;rw[Dq4 aE];have:=ih h.2;show(a.key,Value.q (pt (some a.id)))::Bl0 (Be2 (r++e::s)) e.key=_;rw[this];rfl
theorem A92(p:List QE):p=[]\/ ∃p0 a,p=p0++[a]:=by
 rcases List.eq_nil_or_concat p with h|⟨p0,a,h⟩
 ·exact .inl h
 ·exact .inr ⟨p0,a,by simpa using h⟩
theorem Ae0(p0:List QE)(a:QE)(q n:Option Nat):P7 q (p0++[a]) n=P7 q p0 (some a.id)++[(a.id,M5 a (C7 q p0) n)]:=by
 rw[W0];rfl
theorem Aa8(p0:List QE)(a:QE)(q:Option Nat):C7 q (p0++[a])=some a.id:=by rw[Q5];rfl
theorem Bl8(m:Nat)(room:Int)(p s:List QE)(e:QE)(mk:Nat)(mes:Array MapEntry)(clock:Nat)(hm:Mp Value.w mes (Be2 (p++e::s)))(ok:QOk (p++e::s)):
  CallF PP 175 #[.p m,.p e.id] (QL m room (p++e::s) mk mes clock)
   fun v L'=>v= .t #[]/\ ∃mes' clock',L'=QL m room (p++s) mk mes' clock'++((e.id,M5 e (C7 none p) (C6 s none))::e.seg)/\Mp Value.w mes' (Be2 (p++s)):=by
 refine(e175 (some m.z) (some e.id.z)).c ?_;have jP:=ok.sum;have bY:e∈p++e::s:=by simp
 have vZ:=(ok.own e bY).sl.len;rw[E5,Dt8]at vZ;have iF:=ok.small e bY;have fS:T5 (p++e::s)=T5 (p++s)+(e.key.size+e.val.length):=by
  rw[Am8,Am8];simp only[T5,Ds3,Ec7];omega
 refine W2 (fun y L1=>L1=(m,qG room (T5 (p++e::s)) (C6 (p++s) none) (C7 none (p++e::s)) mk)::(mk,Obj.map mes clock)::((P7 none p (C6 s none)++(e.id,M5 e (C7 none p) (C6 s none))::P7 (some e.id) s none)++Ao5 (p++e::s))) ?_ ?_
 ·rintro y L1 rfl;refine W2 (fun y L2=>L2=(m,qG room (T5 (p++e::s)) (C6 (p++s) none) (C7 none (p++s)) mk)::(mk,Obj.map mes clock)::((P7 none p (C6 s none)++(e.id,M5 e (C7 none p) (C6 s none))::P7 (C7 none p) s none)++Ao5 (p++e::s))) ?_ ?_
  ·rintro y L2 rfl;refine A5 rfl (A6 ((T5 (p++e::s):Nat):Int) (A22 Dq7) ?_);refine B5 (Cg5 _ e (C7 none p) (C6 s none) (by simp) vZ iF) (((e.key.size+e.val.length:Nat):Int),()) rfl (F7 (A22 Dq7) ?_);have hw:IntKind.i64.wrap (((T5 (p++e::s):Nat):Int)-((e.key.size+e.val.length:Nat):Int))=((T5 (p++s):Nat):Int):=by rw[C1 (by omega) (by omega)];omega
   simp only[hw];refine A5 rfl (E4 [] _ rfl rfl (by simp) (.inl (Dq6 _)) #[.i room,.i ((T5 (p++s):Nat):Int),.q (pt (C6 (p++s) none)),.q (pt (C7 none (p++s))),.map (some mk)] rfl ?_);refine A5 rfl (A5 rfl (A6 (some mk) (ldB (n:=m) (c:=#[.i room,.i ((T5 (p++s):Nat):Int),.q (pt (C6 (p++s) none)),.q (pt (C7 none (p++s))),.map (some mk)]) (T:=182) (fz:=(0,0)) Dq7 rfl) (A6 e.key (C22 (p:=C7 none p) (n:=C6 s none) (by simp)) ?_)));refine Bt7 mapQ [(m,_)] _ rfl hm e.key fun mes' clock' kI=>?_;rw[Cm4 ok.nd]at kI;refine .drop (A:=QL m room (p++s) mk mes' clock'++((e.id,M5 e (C7 none p) (C6 s none))::e.seg)) (J:=[]) ⟨rfl,mes',clock',rfl,kI⟩ ?_;rw[Dr3];unfold QL;refine D35 _ (D35 _ ?_);rw[W0];unfold Ao5
   classical
   rw[Dt9];intro x;simp only[Dw2,Dt3,Du1,Du0,Dv0];omega
  ·intro j2 fB;refine A5 rfl (A6 (pt (C6 s none)) (Ap9 (p:=C7 none p) (by simp)) ?_);cases s with
   |nil=>
    refine ifF rfl (A5 rfl (A6 (pt (C7 none p)) (Ap8 (n:=C6 [] none) (by simp)) (A5 rfl (E4 [] _ rfl rfl (by simp) (.inl (Dq6 _)) #[.i room,.i (T5 (p++[e])),.q (pt (C6 (p++[]) none)),.q (pt (C7 none p)),.map (some mk)] rfl (fB _ _ ?_)))));rw[Dr3];rfl
   |cons b s0=>
    refine ifT rfl (A5 rfl (A5 rfl (A6 (pt (some b.id)) (Ap9 (p:=C7 none p) (by simp[C6])) (A6 (pt (C7 none p)) (Ap8 (n:=C6 (b::s0) none) (by simp)) (A5 rfl ?_)))));refine E4 (n:=b.id) (off:=3) (c:=#[.w b.key,.slice b.v.a b.v.len b.v.cap,.i b.freq,.q (pt (some e.id)),.q (pt (C6 s0 none))]) (T:=184) (fz:=(0,0))
     ((m,qG room (T5 (p++e::b::s0)) (C6 (p++b::s0) none) (C7 none (p++e::b::s0)) mk)::(mk,Obj.map mes clock)::(P7 none p (C6 (b::s0) none)++[(e.id,M5 e (C7 none p) (C6 (b::s0) none))]))
     (P7 (some b.id) s0 none++Ao5 (p++e::b::s0)) rfl (by simp[P7,M5]) (by simp) (.inl (Dq6 _)) #[.w b.key,.slice b.v.a b.v.len b.v.cap,.i b.freq,.q (pt (C7 none p)),.q (pt (C6 s0 none))] rfl (fB _ _ ?_)
    have hl:C7 none (p++e::b::s0)=C7 none (p++b::s0):=by rw[Q5,Q5];rfl
    rw[hl];simp[P7,M5]
 ·intro j1 bP;have hQL:QL m room (p++e::s) mk mes clock=(m,qG room (T5 (p++e::s)) (C6 (p++e::s) none) (C7 none (p++e::s)) mk)::(mk,Obj.map mes clock)::((P7 none p (some e.id)++(e.id,M5 e (C7 none p) (C6 s none))::P7 (some e.id) s none)++Ao5 (p++e::s)):=by
   unfold QL;rw[W0];rfl
  rw[hQL];refine A5 rfl (A6 (pt (C7 none p)) (Ap8 (n:=C6 s none) (by simp)) ?_);rcases A92 p with rfl|⟨p0,a,rfl⟩
  ·refine ifF rfl (A5 rfl (A6 (pt (C6 s none)) (Ap9 (p:=none) (by simp[C7])) (A5 rfl (E4 [] _ rfl rfl (by simp) (.inl (Dq6 _)) #[.i room,.i (T5 ([]++e::s)),.q (pt (C6 s none)),.q (pt (C7 none ([]++e::s))),.map (some mk)] rfl (bP _ _ ?_)))));rfl
  ·rw[Aa8];refine ifT rfl (A5 rfl (A5 rfl (A6 (pt (some a.id)) (Ap8 (n:=C6 s none) (by simp)) (A6 (pt (C6 s none)) (Ap9 (p:=some a.id) (by simp)) (A5 rfl ?_)))));refine E4 (n:=a.id) (off:=4) (c:=#[.w a.key,.slice a.v.a a.v.len a.v.cap,.i a.freq,.q (pt (C7 none p0)),.q (pt (some e.id))]) (T:=184) (fz:=(0,0))
    ((m,qG room (T5 (p0++[a]++e::s)) (C6 (p0++[a]++e::s) none) (C7 none (p0++[a]++e::s)) mk)::(mk,Obj.map mes clock)::P7 none p0 (some a.id))
    ((e.id,M5 e (some a.id) (C6 s none))::P7 (some e.id) s none++Ao5 (p0++[a]++e::s)) rfl (by simp[Ae0,M5]) (by simp) (.inl (Dq6 _)) #[.w a.key,.slice a.v.a a.v.len a.v.cap,.i a.freq,.q (pt (C7 none p0)),.q (pt (C6 s none))] rfl (bP _ _ ?_)
   have hh:C6 (p0++[a]++e::s) none=C6 (p0++[a]++s) none:=by
    rw[Q7,Q7];cases p0<;>rfl
   rw[hh,Ae0,Aa8];simp[M5]
def A21(l:List QE)(k:ByteArray):List QE:=l.eraseP fun e=>decide (k=e.key)
theorem Aj6{l:List QE}{k:ByteArray}{e:QE}(h:V8 l k=some e): ∃p s,l=p++e::s/\e.key=k/\A21 l k=p++s:=by
 unfold V8 at h;rw[Ef0]at h;obtain⟨hk,p,s,rfl,hp⟩:=h;refine⟨p,s,rfl,(Dv5 hk).symm,?_⟩;unfold A21;rw[Ef1 _ (fun b hb=>by simpa using hp b hb),Ef2 (p:=fun e:QE=>decide (k=e.key)) hk]
theorem Aj7{l:List QE}{k:ByteArray}(h:V8 l k=none):A21 l k=l/\k∉l.map QE.key:=by
 unfold V8 at h;rw[D18]at h;refine⟨Ee9 h,fun hm=>?_⟩;obtain⟨e,he,rfl⟩:=Dt4.1 hm;exact h e he (by simp)
theorem Ci9{l:List QE}{k:ByteArray}(ok:QOk l):k∉(A21 l k).map QE.key:=by
 cases hf:V8 l k with
 |none=>rw[(Aj7 hf).1];exact(Aj7 hf).2
 |some e=>
  obtain⟨p,s,rfl,rfl,hd⟩:=Aj6 hf;rw[hd];have h:=ok.nd;rw[Ds2,Ds3]at h;have h2:(e.key::(p.map QE.key++s.map QE.key)).Nodup:=(Dw4.nodup_iff).1 h;rw[Ds2];exact(Dv9.1 h2).1
theorem Cj0(l:List QE)(k:ByteArray):(A21 l k).length<=l.length:=D62 ..
theorem Di1(room:Int):CallF PP 97 #[.i room] [] fun r L'=> ∃m,r= .p m/\QH m (Aa2 room 0) [] L':=by
 refine(e97 room).c ?_;refine C4 fun mk _=>C4 fun m _=>.of ⟨m,rfl,mk,#[],0,rfl,rfl,?_⟩;exact⟨fun e h=>by simp at h,fun e h=>by simp at h,by simp,by simp,fun e h=>by simp at h⟩
theorem B37(m:Nat)(room:Int)(l:List QE)(A:A4)(h:QH m room l A)(k:ByteArray):
  CallF PP 105 #[.p m,.w k] A fun r L'=>r= .b (V8 l k).isSome/\QH m room (A21 l k) L':=by
 refine(e105 (some m.z) k).c ?_;refine B5 (Be3 m room l A h k) (pt ((V8 l k).map QE.id),()) rfl ?_;cases hf:V8 l k with
 |none=>
  refine ifT rfl (.of ⟨rfl,?_⟩);rw[(Aj7 hf).1];exact h
 |some e=>
  obtain⟨mk,mes,clock,rfl,hm,ok⟩:=h;obtain⟨p,s,rfl,rfl,hd⟩:=Aj6 hf;refine ifF rfl (K1 [] [] (Bl8 m room p s e mk mes clock hm ok) (by simp) ?_);rintro _ _-⟨rfl,mes',clock',rfl,kI⟩;rw[hd];exact⟨(),rfl,.drop (A:=QL m room (p++s) mk mes' clock') (J:=(e.id,M5 e (C7 none p) (C6 s none))::e.seg) ⟨rfl,mk,mes',clock',rfl,kI,ok.sub⟩ (by simp)⟩
theorem Do0:V4 PP tyB tyb 1 1 [.int .u8 0]:=N3 (by kernel_rfl) (by kernel_rfl) rfl (by decide) (by decide)
theorem srcY:Ax5 PP tyB:=.inl ⟨tyb,by kernel_rfl⟩
theorem Dj6{n:Nat}{e:TypeId}:Own ⟨some n.z,0,0⟩ 1 e [] [(n,Obj.cells #[] e)]:=⟨rfl,Dq6 _,.inr ⟨n,0,#[],(0,0),rfl,rfl,by simp,.inl (Dq6 _),fun i u hu=>by simp at hu⟩⟩
theorem Bp8: ∀(l:List QE) (k:ByteArray) (v:Value),k∉l.map QE.key->A79 (Be2 l) k v=Be2 l++[(k,v)]
 |[],k,v,_=>rfl
 |e::r,k,v,h=>by
  rw[Ds3,Dt5,Du4]at h;show(if k=e.key then _ else _)=_;rw[Dq4 h.1];show(e.key,Value.q (pt (some e.id)))::A79 (Be2 r) k v=_;rw[Bp8 r k v h.2];rfl
theorem Dh9(m:Nat)(room:Int)(l:List QE)(A A0:A4)(h:QH m room l A)(bR:l.length<100000)(k:ByteArray)(hk:k.size<=100000)(v:SlV)(b:List UInt8)(hv:BSl A0 v b)(hb:b.length<=100000):
  CallF PP 50 #[.p m,.w k,.slice v.a v.len v.cap] (A++A0)
   fun r L'=>r= .t #[]/\ ∃A' e,L'=A'++A0/\QH m room (A21 l k++[e]) A'/\e.key=k/\e.val=b/\e.freq=0:=by
 refine(e50 (some m.z) k v).c ?_;have pY:k∉(A21 l k).map QE.key:=by obtain⟨_,_,_,_,_,ok⟩:=h;exact Ci9 ok
 have lW:=Cj0 l k;refine ifF rfl (K1 [] A0 (B37 m room l A h k) (by simp) ?_);rintro _ _-⟨rfl,mk,mes,clock,rfl,hm,ok⟩;refine⟨((V8 l k).isSome,()),rfl,?_⟩;generalize A21 l k=l1 at pY lW hm ok⊢;have hC:=hv.len;have jP:=ok.sum;have hQ:QL m room l1 mk mes clock=(m,qG room (T5 l1) (C6 l1 none) (C7 none l1) mk)::(mk,Obj.map mes clock)::(P7 none l1 none++Ao5 l1):=rfl;rw[hQ];refine A5 rfl (A6 (pt (C7 none l1)) (Cj4 (by simp;exact .inl rfl)) (C4 fun n1 _=>?_));refine E6 Do0 srcY [] ([]++((m,qG room (T5 l1) (C6 l1 none) (C7 none l1) mk)::(mk,Obj.map mes clock)::(P7 none l1 none++Ao5 l1))++A0) Dj6 (by simp) (.sl ((hv.right (R:=[]++((m,qG room (T5 l1) (C6 l1 none) (C7 none l1) mk)::(mk,Obj.map mes clock)::(P7 none l1 none++Ao5 l1)))).cons)) (L8 _)
  (by first|omega|(simp only;omega)) fun v2 seg oB own=>?_
 rw[Ds1]at own;refine F7 (Cj4 (room:=room) (bytes:=T5 l1) (o:=C6 l1 none) (mk:=mk) (by simp)) (C4 fun n2 _=>?_);obtain⟨e,rfl,rfl,rfl,qM,rfl,rfl⟩: ∃e:QE,e.id=n2/\e.key=k/\e.val=b/\e.freq=0/\e.v=v2/\e.seg=seg:=⟨⟨n2,k,b,0,v2,seg⟩,rfl,rfl,rfl,rfl,rfl,rfl⟩;have vZ:e.v.len=e.val.length:=by have:=own.sl.len;rw[E5]at this;omega
 have tS:(e.id,Obj.cells #[.w e.key,.slice e.v.a e.v.len e.v.cap,.i 0,.q (pt (C7 none l1)),.q none] 184)=(e.id,M5 e (C7 none l1) none):=by unfold M5;rw[qM];rfl
 have aA:QOk (l1++[e]):=by
  refine⟨fun x hx=>?_,fun x hx=>?_,?_,?_,fun x hx=>?_⟩
  ·rcases Dr5.1 hx with h1|h1
   ·exact ok.own x h1
   ·rw[Dr2.1 h1];exact own
  ·rcases Dr5.1 hx with h1|h1
   ·exact ok.small x h1
   ·rw[Dr2.1 h1];exact⟨hk,hb⟩
  ·rw[Dr4];simp only[Dr8,Du7];omega
  ·rw[Ds2,Dx3];refine⟨ok.nd,by simp,fun x hx y hy=>?_⟩;simp only[Ds3,D61,Dr2]at hy;rintro rfl;rw[hy]at hx;exact pY hx
  ·rcases Dr5.1 hx with h1|h1
   ·exact ok.fr x h1
   ·rw[Dr2.1 h1,qM];omega
 have bh:=aA.sum;have fS:T5 (l1++[e])=T5 l1+(e.key.size+e.val.length):=by rw[Am8];simp[T5]
 refine W2 (fun y L'=>L'=(e.id,M5 e (C7 none l1) none)::(e.seg++((m,qG room (T5 l1) (C6 (l1++[e]) none) (C7 none l1) mk)::(mk,Obj.map mes clock)::(P7 none l1 (some e.id)++Ao5 l1)++A0))) ?_ ?_
 ·rintro y L' rfl;refine A5 rfl (E4 ((e.id,M5 e (C7 none l1) none)::e.seg) ((mk,Obj.map mes clock)::(P7 none l1 (some e.id)++Ao5 l1)++A0) rfl rfl (by simp) (.inl (Dq6 _)) #[.i room,.i (T5 l1),.q (pt (C6 (l1++[e]) none)),.p e.id,.map (some mk)] rfl ?_);have jD: ∀{bb:Int},(m,qG room bb (C6 (l1++[e]) none) (some e.id) mk)∈((e.id,M5 e (C7 none l1) none)::e.seg)++(m,qG room bb (C6 (l1++[e]) none) (some e.id) mk)::((mk,Obj.map mes clock)::(P7 none l1 (some e.id)++Ao5 l1)++A0):=by simp
  refine A5 rfl (A6 ((T5 l1:Nat):Int) (A22 jD) ?_);have aC:=Cg5 (((e.id,M5 e (C7 none l1) none)::e.seg)++(m,qG room (T5 l1) (C6 (l1++[e]) none) (some e.id) mk)::((mk,Obj.map mes clock)::(P7 none l1 (some e.id)++Ao5 l1)++A0)) e (C7 none l1) none Dq7 vZ ⟨hk,hb⟩;refine B5 aC (((e.key.size+e.val.length:Nat):Int),()) rfl (F7 (A22 jD) ?_);have hw:IntKind.i64.wrap (((T5 l1:Nat):Int)+((e.key.size+e.val.length:Nat):Int))=((T5 (l1++[e]):Nat):Int):=by
   rw[C1 (by omega) (by omega)];omega
  simp only[hw];refine A5 rfl (E4 ((e.id,M5 e (C7 none l1) none)::e.seg) ((mk,Obj.map mes clock)::(P7 none l1 (some e.id)++Ao5 l1)++A0) rfl rfl (by simp) (.inl (Dq6 _)) #[.i room,.i ((T5 (l1++[e]):Nat):Int),.q (pt (C6 (l1++[e]) none)),.p e.id,.map (some mk)] rfl ?_);refine A5 rfl (A6 (some mk) (q_map (room:=room) (bytes:=((T5 (l1++[e]):Nat):Int)) (o:=C6 (l1++[e]) none) (y:=some e.id) jD) ?_);refine Bl7 mapQ (((e.id,M5 e (C7 none l1) none)::e.seg)++[(m,qG room ((T5 (l1++[e]):Nat):Int) (C6 (l1++[e]) none) (some e.id) mk)]) ((P7 none l1 (some e.id)++Ao5 l1)++A0) (es:=mes) (clock:=clock) (by simp[qG,pt]) hm e.key _ fun mes' clock' kI=>?_;rw[Bp8 l1 e.key _ pY]at kI;have qD:Be2 l1++[(e.key,Value.p e.id)]=Be2 (l1++[e]):=by simp[Be2,pt]
  rw[qD]at kI;refine .drop (A:=QL m room (l1++[e]) mk mes' clock'++A0) (J:=[]) ⟨rfl,_,e,rfl,⟨mk,mes',clock',rfl,kI,aA⟩,rfl,rfl,qM⟩ ?_;have eS:C7 none (l1++[e])=some e.id:=by rw[Aa8]
  have aN:Ao5 (l1++[e])=Ao5 l1++e.seg:=by unfold Ao5;simp
  unfold QL;rw[Ae0,aN];have hq:qO room (l1++[e]) mk (T5 (l1++[e]))=qG room ((T5 (l1++[e]):Nat):Int) (C6 (l1++[e]) none) (some e.id) mk:=by unfold qO;rw[eS];rfl
  rw[hq]
  classical
  rw[Dt9];intro x;simp only[Dw2,Dt7,Ds1,Dr3,Du0,Dv0,Dv7];omega
 ·intro j hj;rw[tS];rcases A92 l1 with rfl|⟨p0,a,rfl⟩
  ·refine A5 rfl (A6 (pt (C7 none [])) (Cj4 (room:=room) (bytes:=T5 []) (o:=C6 [] none) (mk:=mk) (by simp)) (ifF rfl (A5 rfl ?_)));refine E4 (n:=m) (off:=2) (c:=#[.i room,.i (T5 []),.q (pt (C6 [] none)),.q (pt (C7 none [])),.map (some mk)]) (T:=182) (fz:=(0,0)) ((e.id,M5 e (C7 none []) none)::e.seg) ((mk,Obj.map mes clock)::(P7 none [] none++Ao5 [])++A0) rfl (by simp[qG]) (by simp) (.inl (Dq6 _)) #[.i room,.i (T5 []),.p e.id,.q (pt (C7 none [])),.map (some mk)] rfl (hj _ _ ?_);rfl
  ·refine A5 rfl (A6 (pt (C7 none (p0++[a]))) (Cj4 (room:=room) (bytes:=T5 (p0++[a])) (o:=C6 (p0++[a]) none) (mk:=mk) (by simp)) ?_);rw[Aa8];refine ifT rfl (A5 rfl (A6 (pt (some a.id)) (Cj4 (room:=room) (bytes:=T5 (p0++[a])) (o:=C6 (p0++[a]) none) (mk:=mk) (by simp)) (A5 rfl ?_)));refine E4 (n:=a.id) (off:=4) (c:=#[.w a.key,.slice a.v.a a.v.len a.v.cap,.i a.freq,.q (pt (C7 none p0)),.q (pt none)]) (T:=184) (fz:=(0,0))
    ((e.id,M5 e (some a.id) none)::(e.seg++((m,qG room (T5 (p0++[a])) (C6 (p0++[a]) none) (some a.id) mk)::(mk,Obj.map mes clock)::P7 none p0 (some a.id))))
    (Ao5 (p0++[a])++A0) rfl (by simp[Ae0,M5]) (by simp) (.inl (Dq6 _)) #[.w a.key,.slice a.v.a a.v.len a.v.cap,.i a.freq,.q (pt (C7 none p0)),.p e.id] rfl (hj _ _ ?_)
   have hh:C6 (p0++[a]++[e]) none=C6 (p0++[a]) none:=by rw[Q7];cases p0<;>rfl
   rw[hh,Ae0,Aa8];simp[M5,pt]
def Ax4(e:QE):QE:={e with freq:=Ad3 (e.freq+1) 3}
def Bx4(l:List QE)(k:ByteArray):List QE:=l.map fun e=>if e.key=k then Ax4 e else e
theorem C10{p s:List QE}{e:QE}(h:((p++e::s).map QE.key).Nodup):Bx4 (p++e::s) e.key=p++Ax4 e::s:=by
 rw[Ds2,Ds3]at h;have h2:(e.key::(p.map QE.key++s.map QE.key)).Nodup:=(Dw4.nodup_iff).1 h;have h3:=(Dv9.1 h2).1;rw[Dr5,Du4]at h3;have id_of: ∀l:List QE,e.key∉l.map QE.key->l.map (fun x=>if x.key=e.key then Ax4 x else x)=l:=by
  intro l hl;induction l with
  |nil=>rfl
  |cons a r ih=>
   rw[Ds3,Dt5,Du4]at hl;rw[Ds3,Dq4 (fun he=>hl.1 he.symm),ih hl.2]
 unfold Bx4;rw[Ds2,Ds3,id_of p h3.1,id_of s h3.2,Dq5 rfl]
theorem Do9{p s:List QE}{e:QE}(ok:QOk (p++e::s)):QOk (p++Ax4 e::s):=by
 have hk:(p++Ax4 e::s).map QE.key=(p++e::s).map QE.key:=by simp[Ax4]
 have hx: ∀x,x∈p++Ax4 e::s->x=Ax4 e\/x∈p++e::s:=by
  intro x hx;rw[Dr5,Dt5]at hx;rcases hx with h|h|h
  ·exact .inr (by simp[h])
  ·exact .inl h
  ·exact .inr (by simp[h])
 have he:e∈p++e::s:=by simp
 refine⟨fun x h=>?_,fun x h=>?_,?_,by rw[hk];exact ok.nd,fun x h=>?_⟩
 ·rcases hx x h with rfl|h
  ·exact ok.own e he
  ·exact ok.own x h
 ·rcases hx x h with rfl|h
  ·exact ok.small e he
  ·exact ok.small x h
 ·have:=ok.few;rw[Dr4,Dr8]at this⊢;exact this
 ·rcases hx x h with rfl|h
  ·have:=ok.fr e he;show 0<=Ad3 (e.freq+1) 3/\Ad3 (e.freq+1) 3<=3;unfold Ad3;split<;>omega
  ·exact ok.fr x h
theorem Dp6(m:Nat)(room:Int)(p s:List QE)(e:QE)(mk:Nat)(mes:Array MapEntry)(clock:Nat):QL m room (p++e::s) mk mes clock=
  (m,qG room (T5 (p++e::s)) (C6 (p++e::s) none) (C7 none (p++e::s)) mk)::(mk,Obj.map mes clock)::((P7 none p (some e.id)++(e.id,M5 e (C7 none p) (C6 s none))::P7 (some e.id) s none)++Ao5 (p++e::s)):=by
 unfold QL;rw[W0];rfl
theorem Bf4{m:Nat}{room:Int}{p s:List QE}{e:QE}{mk:Nat}{mes:Array MapEntry}{clock:Nat}:(e.id,M5 e (C7 none p) (C6 s none))∈QL m room (p++e::s) mk mes clock:=by
 rw[Dp6];simp
theorem Ch1{m:Nat}{room:Int}{l:List QE}{mk:Nat}{mes:Array MapEntry}{clock:Nat}: ∀x∈Ao5 l,x∈QL m room l mk mes clock:=by
 intro x hx;unfold QL;simp[hx]
theorem Db1{l:List QE}{e:QE}{L:A4}(ok:QOk l)(he:e∈l)(hL: ∀x∈Ao5 l,x∈L):BSl L e.v e.val:=
 (ok.own e he).sl.mono fun x hx=>hL x (Dw7.2 ⟨e,he,hx⟩)
theorem C02(m:Nat)(room:Int)(l:List QE)(A:A4)(h:QH m room l A)(k:ByteArray):
  CallF PP 54 #[.p m,.w k] A fun r L'=> ∃(u:SlV) (seg:A4),r= .t #[.slice u.a u.len u.cap,.b (V8 l k).isSome]/\L'=seg++A/\Own u 1 tyb (bvs (((V8 l k).map QE.val).getD [])) seg:=by
 refine(e54 (some m.z) k).c ?_;refine B5 (Be3 m room l A h k) (pt ((V8 l k).map QE.id),()) rfl ?_;cases hf:V8 l k with
 |none=>exact ifT rfl (.of ⟨⟨none,0,0⟩,[],rfl,rfl,⟨rfl,Dq6 _,.inl ⟨rfl,rfl,rfl⟩⟩⟩)
 |some e=>
  obtain⟨mk,mes,clock,rfl,hm,ok⟩:=h;obtain⟨p,s,rfl,rfl,hd⟩:=Aj6 hf;have he:e∈p++e::s:=by simp
  have iF:=ok.small e he;refine ifF rfl (C4 fun n1 _=>A5 rfl (A6 e.v (B48 (Dr6 _ Bf4)) ?_));have aT:=Db1 (L:=(n1,Obj.cells #[] tyb)::QL m room (p++e::s) mk mes clock) ok he (fun x hx=>Dr6 _ (Ch1 x hx));have cR:=aT.len;refine E6 Do0 srcY [] (QL m room (p++e::s) mk mes clock) Dj6 rfl (.sl aT) (L8 _) (by first|omega|(simp only;omega)) fun u seg hu own=>?_;exact .of ⟨u,seg,rfl,rfl,by simpa using own⟩
theorem Di4(m:Nat)(room:Int)(l:List QE)(A:A4)(h:QH m room l A)(k:ByteArray):
  CallF PP 59 #[.p m,.w k] A fun r L'=> ∃(u:SlV) (seg A':A4),r= .t #[.slice u.a u.len u.cap,.b (V8 l k).isSome]/\L'=seg++A'/\Own u 1 tyb (bvs (((V8 l k).map QE.val).getD [])) seg/\QH m room (Bx4 l k) A':=by
 refine(e59 (some m.z) k).c ?_;refine B5 (Be3 m room l A h k) (pt ((V8 l k).map QE.id),()) rfl ?_;cases hf:V8 l k with
 |none=>
  have hb:Bx4 l k=l:=by
   have hn:=(Aj7 hf).2;unfold Bx4;clear hf h;induction l with
   |nil=>rfl
   |cons a r ih=>
    rw[Ds3,Dt5,Du4]at hn;rw[Ds3,Dq4 (fun he=>hn.1 he.symm),ih hn.2]
  exact ifT rfl (.of ⟨⟨none,0,0⟩,[],A,rfl,rfl,⟨rfl,Dq6 _,.inl ⟨rfl,rfl,rfl⟩⟩,by rw[hb];exact h⟩)
 |some e=>
  obtain⟨mk,mes,clock,rfl,hm,ok⟩:=h;obtain⟨p,s,rfl,rfl,hd⟩:=Aj6 hf;have he:e∈p++e::s:=by simp
  have iF:=ok.small e he;have bQ:=ok.fr e he;have hw:IntKind.i64.wrap (e.freq+1)=e.freq+1:=C1 (by omega) (by omega);refine ifF rfl (A5 rfl (A6 e.freq (Cl0 Bf4) (A5 rfl ?_)));rw[hw];have ok':=Do9 ok;have qP:Ax4 e∈p++Ax4 e::s:=by simp
  refine E4 (n:=e.id) (off:=2) (c:=#[.w e.key,.slice e.v.a e.v.len e.v.cap,.i e.freq,.q (pt (C7 none p)),.q (pt (C6 s none))]) (T:=184) (fz:=(0,0))
   ((m,qG room (T5 (p++e::s)) (C6 (p++e::s) none) (C7 none (p++e::s)) mk)::(mk,Obj.map mes clock)::P7 none p (some e.id)) (P7 (some e.id) s none++Ao5 (p++e::s)) rfl (by rw[Dp6];simp[M5]) (by simp) (.inl (Dq6 _))
   #[.w e.key,.slice e.v.a e.v.len e.v.cap,.i (Ad3 (e.freq+1) 3),.q (pt (C7 none p)),.q (pt (C6 s none))] rfl ?_
  have e1:T5 (p++e::s)=T5 (p++Ax4 e::s):=by simp[T5,Ax4]
  have e2:C6 (p++e::s) none=C6 (p++Ax4 e::s) none:=by rw[Q7,Q7];rfl
  have e3:C7 none (p++e::s)=C7 none (p++Ax4 e::s):=by rw[Q5,Q5];rfl
  have e4:Ao5 (p++e::s)=Ao5 (p++Ax4 e::s):=by simp[Ao5,Ax4]
  have e5:Be2 (p++e::s)=Be2 (p++Ax4 e::s):=by simp[Be2,Ax4]
  have hL:((m,qG room (T5 (p++e::s)) (C6 (p++e::s) none) (C7 none (p++e::s)) mk)::(mk,Obj.map mes clock)::P7 none p (some e.id))++(e.id,Obj.cells #[.w e.key,.slice e.v.a e.v.len e.v.cap,.i (Ad3 (e.freq+1) 3),.q (pt (C7 none p)),.q (pt (C6 s none))] 184)::(P7 (some e.id) s none++Ao5 (p++e::s))=
    QL m room (p++Ax4 e::s) mk mes clock:=by
   rw[Dp6,<-e1,<-e2,<-e3,<-e4];simp[Ax4,M5]
  rw[hL];refine C4 fun n1 _=>A5 rfl (A6 e.v (B48 (e:=Ax4 e) (Dr6 _ Bf4)) ?_);have aT:=Db1 (L:=(n1,Obj.cells #[] tyb)::QL m room (p++Ax4 e::s) mk mes clock) ok' qP (fun x hx=>Dr6 _ (Ch1 x hx));have cR:e.v.len=e.val.length:=aT.len;refine E6 Do0 srcY [] (QL m room (p++Ax4 e::s) mk mes clock) Dj6 rfl (.sl aT) (L8 _) (by first|omega|(simp only;omega)|(show(0+e.v.len)*1<=_;omega)) fun u seg hu own=>?_;rw[C10 ok.nd];refine .of ⟨u,seg,_,rfl,rfl,own,mk,mes,clock,rfl,by rw[<-e5];exact hm,ok'⟩
theorem Di3(m:Nat)(room:Int)(l:List QE)(A:A4)(h:QH m room l A)(k:ByteArray):Reads PP 52 #[.p m,.w k] A (.b (V8 l k).isSome):=by
 refine(e52 (some m.z) k).r ?_;refine B5 (Be3 m room l A h k) (pt ((V8 l k).map QE.id),()) rfl (.of ⟨?_,rfl⟩);cases V8 l k<;>rfl
theorem Di2(m:Nat)(room:Int)(l:List QE)(A:A4)(h:QH m room l A):Reads PP 70 #[.p m] A (.i l.length):=by
 obtain⟨mk,mes,clock,rfl,hm,ok⟩:=h;refine(e70 (some m.z)).r ?_;refine ifF rfl (A5 rfl (A6 (some mk) (q_map (room:=room) (bytes:=T5 l) (o:=C6 l none) (y:=C7 none l) Dq7) ?_));have hC:mes.size=l.length:=by rw[hm.size];simp[Be2]
 refine⟨((l.length:Int),()),?_,.of ⟨rfl,rfl⟩⟩;have:=Dk9 (P:=PP) (L:=QL m room l mk mes clock) (t:=tyM) (ty:=3) mapQ.und (r:=mk) (es:=mes) (clock:=clock) (by unfold QL;simp);rw[hC]at this;exact this
theorem C03(m:Nat)(room:Int)(l:List QE)(A:A4)(h:QH m room l A):Reads PP 113 #[.p m] A (.b (decide ((T5 l:Int)>room))):=by
 obtain⟨mk,mes,clock,rfl,hm,ok⟩:=h;refine(e113 (some m.z)).r ?_;exact ifT rfl (A5 rfl (A5 rfl (A6 ((T5 l:Nat):Int) (A22 (room:=room) (o:=C6 l none) (y:=C7 none l) (mk:=mk) Dq7) (A6 room (q_room (bytes:=T5 l) (o:=C6 l none) (y:=C7 none l) (mk:=mk) Dq7) (.of ⟨rfl,rfl⟩)))))
theorem Di0(m:Nat)(room:Int)(e:QE)(s:List QE)(A:A4)(h:QH m room (e::s) A):
  CallF PP 114 #[.p m] A fun r L'=>r= .t #[.agg #[.w e.key,.slice e.v.a e.v.len e.v.cap,.i e.freq],.b true]/\ ∃A',L'=A'++e.seg/\QH m room s A':=by
 obtain⟨mk,mes,clock,rfl,hm,ok⟩:=h;refine(e114 (some m.z)).c ?_;have lK: ∀{n1:Nat} {o:Obj},C9 ⟨m,2,none⟩ [.q (pt (some e.id))] ((n1,o)::QL m room (e::s) mk mes clock):=q_old (room:=room) (bytes:=T5 (e::s)) (o:=some e.id) (y:=C7 none (e::s)) (mk:=mk) (Dr6 _ Dq7);refine C4 fun n1 _=>ifF rfl (A5 rfl (A6 (pt (some e.id)) lK (ifF rfl (A5 rfl (A6 (pt (some e.id)) lK ?_)))));refine K1 [(n1,Obj.cells #[.w ByteArray.empty,.slice none 0 0,.i 0] 179)] [] (Bl8 m room [] s e mk mes clock hm ok) (by simp) ?_;rintro _ _-⟨rfl,mes',clock',rfl,kI⟩;refine⟨(),rfl,A5 rfl (A6 (e.key,e.v,e.freq,()) (Cb5 (p:=C7 none []) (n:=C6 s none) (by simp)) ?_)⟩;refine E4 (n:=n1) (off:=0) (c:=#[.w ByteArray.empty,.slice none 0 0,.i 0]) (T:=179) (fz:=(0,0)) [] ((QL m room ([]++s) mk mes' clock'++((e.id,M5 e (C7 none []) (C6 s none))::e.seg))++[]) rfl rfl (by simp) (.inl (Dq6 _)) #[.w e.key,.slice e.v.a e.v.len e.v.cap,.i e.freq] rfl ?_;refine A6 (e.key,e.v,e.freq,()) (ldB (n:=n1) (c:=#[.w e.key,.slice e.v.a e.v.len e.v.cap,.i e.freq]) (T:=179) (fz:=(0,0)) Dq7 rfl) ?_;refine .drop (A:=QL m room s mk mes' clock'++e.seg) (J:=[(n1,Obj.cells #[.w e.key,.slice e.v.a e.v.len e.v.cap,.i e.freq] 179),(e.id,M5 e (C7 none []) (C6 s none))]) ⟨rfl,_,rfl,mk,mes',clock',rfl,kI,ok.sub (p:=[])⟩ ?_
 classical
 rw[Dt9];intro x;simp only[Ds1,Dr3,Du0,Dv0,Dv7];omega
structure Reg where
 b:Int
 ep:Int
 nx:Int
 l:List It
abbrev QD:=ByteArray×List UInt8×Int
structure SC where
 c:Cfg
 sets:Int
 ways:Int
 small:Int
 ghost:Int
 rate:Int
 burst:Int
 seed:Int
structure Sto where
 sc:SC
 d:Dev
 ss:List BS
 rs:List Reg
 op:Option Reg
 bk:Bk
 epoch:Int
 pend:List It
 down:Bool
 q:List QD
 gh:List Int
 ix:List (List C3)
def J8(c:Cfg):Cf:=((c.B:Int),(c.P:Int),(c.S:Int),(c.W:Int),())
def Sto.us(s:Sto):List Int:=s.rs.map Reg.b++(s.op.map Reg.b).toList
def Sto.hash(s:Sto)(key:ByteArray):Nat:=(By7 s.sc.seed key.data.toList).toNat
def Sto.cost(s:Sto)(n:Int):Int:=n*s.sc.c.S
def Sto.pays(s:Sto)(n:Int):Bool:=decide (s.bk.tokens≥s.cost n)
def Sto.fits(s:Sto)(n:Int):Bool:=match s.op with|none=>false|some o=>decide (o.nx+n<s.sc.c.P)
def Sto.met(s:Sto)(e:Int):Sto:={s with down:=s.down||decide (e=11)}
def Sto.pay(s:Sto)(n:Int):Sto:={s with bk:=Af0 s.bk (s.cost n)}
def Sto.dev(s:Sto)(d:Dev):Sto:={s with d:=d}
def Reg.grown(o:Reg)(kind:Int)(n:Nat):Reg:={o with nx:=o.nx+n,l:=o.l++[(kind,o.nx,(n:Int),())]}
def Sto.write(s:Sto)(kind:Int)(parts:List (List UInt8)):Sto×It×Int:=
 match s.op with
 |none=>(s,(0,0,0,()),0)
 |some o=>
  let q:=Ah3 s.d o.b o.ep o.nx kind parts
  let s1:=(s.pay parts.length).dev q.2
  if q.1≠0 then(s1.met q.1,(o.b,o.nx,o.ep,()),q.1)else({s1 with op:=some (o.grown kind parts.length)},(o.b,o.nx,o.ep,()),0)
def Sto.seals(s:Sto):Sto×Int:=
 match s.op with
 |none=>(s,0)
 |some o=>
  let q:=T2 s.d o.b o.ep o.nx o.l
  (({(s.pay 1).dev q.2 with op:=none,rs:=s.rs++[o]}).met q.1,q.1)
def Sto.begins(s:Sto)(b:Int):Sto×Int:=
 let q:=T3 s.d b (s.epoch+1)
 let s1:=(s.pay 1).dev q.2
 if q.1≠0 then(s1.met q.1,q.1)else({s1 with epoch:=s.epoch+1,op:=some ⟨b,s.epoch+1,1,[]⟩},0)
def Sto.erase(s:Sto)(b:Int):Sto×Int:=
 let q:=E7 s.d b
 if q.1=11 then((s.dev q.2).met 11,11)else
 ({s.dev q.2 with ss:=if F5 s.ss b=true then Ad4 s.ss b (R5 (decide (q.1=10)))else s.ss,rs:=s.rs.filter fun r=> !decide (r.b=b)},0)
def Sto.list(s:Sto)(key:ByteArray)(p:It):Sto:=
 let h:=s.hash key
 {s with ix:=Cv9 s.ix s.sc.ways h p,pend:=if Af2 (E9 (J6 s.ix h) (inm h p)) s.sc.ways=true then s.pend++[(Cp1 (J6 s.ix h) s.sc.ways h p).pl]else s.pend}
def Sto.ixdrop(s:Sto)(h:Nat)(p:It):Sto:={s with ix:=iset s.ix h (E9 (J6 s.ix h) (inm h p))}
def Sto.move(s:Sto)(p:It)(n beside:Int):Sto×Int:=
 let f:=A9 s.d p
 let h:=s.hash (Ak2 f.1)
 if f.2.2≠0\/p∉J4 (J6 s.ix h) h then(s,0)else
 if A47 s.ix h p=0\/s.fits (n+beside)=false\/s.pays (n+beside)=false then(s.ixdrop h p,0)else
 let c:=J5 f.1 f.2.1 (J8 s.sc.c)
 if c.2≠0 then(s,c.2)else
 let w:=s.write 2 c.1
 if w.2.2=0 then({w.1 with ix:=Aq7 w.1.ix h p w.2.1},0)else(w.1,w.2.2)
def Sto.moves(b ep beside:Int):List It->Sto->Sto×Int
 |[],s=>(s,0)
 |x::r,s=>if x.1≠2 then Sto.moves b ep beside r s else
  let w:=s.move (b,x.2.1,ep,()) x.2.2.1 beside
  if w.2≠0 then w else Sto.moves b ep beside r w.1
def Sto.reclaim(s:Sto)(h:Reg)(beside:Int):Sto×Int:=
 let w:=Sto.moves h.b h.ep beside h.l s
 if w.2≠0 then w else Sto.erase {w.1 with pend:=w.1.pend.filter fun p=> !decide (p.1=h.b)} h.b
def Sto.free(s:Sto):Int:=A65 s.ss s.us
def Sto.frees(n:Int):Nat->Sto->Sto×Int
 |0,s=>(s,0)
 |k+1,s=>if s.free=0 then(match s.rs with
  |[]=>(s,0)
  |h::_=>let w:=s.reclaim h n
   if w.2≠0 then w else Sto.frees n k w.1)else(s,0)
def Sto.badAt(s:Sto)(b:Int):Bool:=match s.d.bs[b.toNat]? with|some k=>k.bad|none=>false
def Sto.sealN(s:Sto):Int:=match s.op with|none=>0|some _=>1
def Sto.more(s:Sto)(n:Int):Sto×Int:=
 if s.pays (n+1+s.sealN)=false then(s,13)else
 if s.epoch≥1073741824 then(s,7)else
 if s.free=0 then(match s.rs with
  |[]=>(s,7)
  |h::_=>s.reclaim h n)else
 let w:=s.seals
 if w.2≠0 then w else
 let p:=E2 w.1.ss w.1.us
 let z:=if p.2.1.dirty then w.1.erase p.2.2 else(w.1,0)
 if z.2≠0 then z else
 if p.2.1.dirty=true/\z.1.badAt p.2.2=true then(z.1,0)else
 let y:=z.1.begins p.2.2
 if y.2≠0 then y else Sto.frees n (y.1.rs.length+1) y.1
def Sto.room(n:Int):Nat->Sto->Sto×Int
 |0,s=>(s,13)
 |k+1,s=>if s.fits n=true then(if s.pays n=true then(s,0)else(s,13))else
  let w:=s.more n
  if w.2≠0 then w else Sto.room n k w.1
def Sto.mu(s:Sto):Nat:=s.bk.tokens.toNat*1000+s.ss.length*20+s.us.length
def Sto.roomy(s:Sto)(n:Int):Sto×Int:=Sto.room n (s.mu+1) s
def Sto.adm(s:Sto)(key:ByteArray)(val:List UInt8):Sto×Int:=
 let c:=J5 key.data.toList val (J8 s.sc.c)
 if c.2≠0 then(s,c.2)else
 let w:=s.roomy c.1.length
 if w.2≠0 then w else
 let z:=w.1.write 2 c.1
 if z.2.2=0 then(z.1.list key z.2.1,0)else(z.1,z.2.2)
def Sto.place(s:Sto)(key:ByteArray):Option It:=(J4 (J6 s.ix (s.hash key)) (s.hash key)).find? fun p=>decide ((A9 s.d p).2.2=0/\Ak2 (A9 s.d p).1=key)
def T4(l:List QD)(k:ByteArray):Option QD:=l.find? fun e=>decide (k=e.1)
def P1(l:List QD)(k:ByteArray):List QD:=l.eraseP fun e=>decide (k=e.1)
def Ar4(l:List QD)(k:ByteArray):List QD:=l.map fun e=>if e.1=k then(e.1,e.2.1,Ad3 (e.2.2+1) 3)else e
def Bv6(l:List QD):Nat:=(l.map fun e=>e.1.size+e.2.1.length).sum
def Sto.forget(s:Sto)(key:ByteArray):Sto×Bool:=
 let s1:={s with q:=P1 s.q key}
 match s1.place key with
 |none=>(s1,(T4 s.q key).isSome)
 |some p=>({s1.ixdrop (s.hash key) p with pend:=s.pend++[p]},true)
def Sto.trim:Nat->Sto->Sto×Int
 |0,s=>(s,0)
 |k+1,s=>if(Bv6 s.q:Int)>s.sc.small then(match s.q with
  |[]=>(s,0)
  |y::r=>
   let s1:={s with q:=r}
   let w:=if y.2.2>0 then s1.adm y.1 y.2.1 else(s1,8)
   if w.2=0 then Sto.trim k w.1 else if w.2=11 then w else Sto.trim k {w.1 with gh:=Bh8 s.sc.ghost w.1.gh (s.hash y.1)})else(s,0)
def Sto.asked(s:Sto)(key:ByteArray):Int:=if s.down=true then 11 else if key.size=0\/key.size>255 then 2 else 0
def Sto.putYoung(s:Sto)(key:ByteArray)(val:List UInt8):Sto×Int:=Sto.trim (s.q.length+2) {s with q:=P1 s.q key++[(key,val,0)]}
def Sto.put(s:Sto)(key:ByteArray)(val:List UInt8):Sto×Int:=
 if s.asked key≠0 then(s,s.asked key)else
 if val.length>65536 then(s,4)else
 let s1:=(s.forget key).1
 if F9 key.size val.length (J8 s.sc.c)=0 then(s1,14)else
 let h:=s.hash key
 if(h:Int)∈s1.gh then
  let s2:={s1 with gh:=s1.gh.erase (h:Int)}
  let w:=s2.adm key val
  if w.2=0\/w.2=11 then w else w.1.putYoung key val
 else s1.putYoung key val
def Sto.get(s:Sto)(key:ByteArray):Sto×List UInt8×Int:=
 if s.asked key≠0 then(s,[],s.asked key)else
 match T4 s.q key with
 |some e=>({s with q:=Ar4 s.q key},e.2.1,0)
 |none=>match s.place key with
  |none=>(s,[],8)
  |some p=>({s with ix:=iset s.ix (s.hash key) (Ah0 (J6 s.ix (s.hash key)) (inm (s.hash key) p))},(A9 s.d p).2.1,0)
def Sto.peek(s:Sto)(key:ByteArray):List UInt8×Int:=
 if s.asked key≠0 then([],s.asked key)else
 match T4 s.q key with
 |some e=>(e.2.1,0)
 |none=>match s.place key with
  |none=>([],8)
  |some p=>((A9 s.d p).2.1,0)
def Sto.delete(s:Sto)(key:ByteArray):Sto×Bool×Int:=if s.asked key≠0 then(s,false,s.asked key)else((s.forget key).1,(s.forget key).2,0)
def Sto.flushes:Nat->Sto->Sto×Int
 |0,s=>(s,0)
 |k+1,s=>match s.pend with
  |[]=>(s,0)
  |p::r=>
   let w:=s.roomy 1
   if w.2≠0 then w else
   let n:=min w.1.pend.length (B7 w.1.sc.c.S/6).toNat
   if n=0 then(w.1,0)else
   let l:=M7 (w.1.pend.take n)
   if l.2≠0 then(w.1,l.2)else
   let z:=w.1.write 3 [l.1]
   if z.2.2≠0 then(z.1,z.2.2)else Sto.flushes k {z.1 with pend:=z.1.pend.drop n}
def Sto.flush(s:Sto):Sto×Int:=if s.down=true then(s,11)else Sto.flushes (s.pend.length+1) s
def Sto.tick(s:Sto)(now:Int):Sto:=if s.down=true then s else{s with bk:=Ag5 s.bk now}
def Sto.has(s:Sto)(key:ByteArray):Int:=if s.asked key≠0 then 0 else if(T4 s.q key).isSome then 1 else if(s.place key).isSome then 2 else 0
theorem Bx5(d:Dev)(i p:Nat)(k:Blk)(data:List UInt8):(Ap3 d i p k data).2.c=d.c:=by
 have:=(Ab7 d).1;unfold Ap3;split<;>exact this
theorem Da8(d:Dev)(b p:Int)(data:List UInt8):(prog d b p data).2.c=d.c:=by
 unfold prog;split
 ·rfl
 ·split
  ·rfl
  ·split
   ·rfl
   ·split
    ·rfl
    ·split
     ·rfl
     ·exact Bx5 ..
theorem Am9(d:Dev)(b:Int)(h:Hd)(p:List UInt8):(M9 d b h p).2.c=d.c:=by
 unfold M9;split
 ·rfl
 ·exact Da8 ..
theorem Dd9(b ep at' kind n:Int): ∀(l:List (List UInt8)) (d:Dev) (i:Nat),(W8 b ep at' kind n d i l).2.c=d.c
 |[],d,i=>rfl
 |p::r,d,i=>by
  unfold W8;split
  ·rw[Dd9 b ep at' kind n r];exact Am9 ..
  ·exact Am9 ..
theorem appR_c(d:Dev)(b ep at' kind:Int)(l:List (List UInt8)):(Ah3 d b ep at' kind l).2.c=d.c:=by
 unfold Ah3;split
 ·rfl
 ·exact Dd9 ..
theorem Dj8(d:Dev)(b ep:Int):(T3 d b ep).2.c=d.c:=Am9 ..
theorem Dg7(d:Dev)(b ep at':Int)(l:List It):(T2 d b ep at' l).2.c=d.c:=by
 unfold T2;split
 ·exact Am9 ..
 ·rfl
theorem Az0(d:Dev)(b:Int):(E7 d b).2.c=d.c:=by
 have h0:=(Av3 d).1;unfold E7;split
 ·rfl
 ·split
  ·rfl
  ·split
   ·rfl
   ·unfold Ai6;split<;>exact h0
structure DSt(d d':Dev)(e:Int):Prop where
 c:d'.c=d.c
 ok:P6 d'
 dn:d'.down=decide (e=11)
 tn:d'.torn.length+(if d'.down=true then 0 else 1)<=d.torn.length+1
 ln:d'.bs.length=d.bs.length
 wr: ∀(i:Nat) k',d'.bs[i]?=some k'-> ∃k,d.bs[i]?=some k/\k'.wear=k.wear/\k'.bad=k.bad
theorem DSt.same{d:Dev}(ok:P6 d)(aK:d.down=false){e:Int}(he:e≠11):DSt d d e:=⟨rfl,ok,by rw[aK];exact(Ds7 he).symm,by rw[aK];simp,rfl,fun i k h=>⟨k,h,rfl,rfl⟩⟩
theorem DSt.then{d d1 d2:Dev}{e:Int}(h1:DSt d d1 0)(h2:DSt d1 d2 e):DSt d d2 e:=by
 have bI:d1.down=false:=by rw[h1.dn];rfl
 refine⟨h2.c.trans h1.c,h2.ok,h2.dn,?_,h2.ln.trans h1.ln,fun i k' cU=>?_⟩
 ·have:=h1.tn;have:=h2.tn;rw[bI]at*;simp at*;omega
 ·obtain⟨k1,e1,w1,b1⟩:=h2.wr i k' cU;obtain⟨k,e0,w0,b0⟩:=h1.wr i k1 e1;exact⟨k,e0,w1.trans w0,b1.trans b0⟩
theorem Bm5{d:Dev}(h:d.down=false):(W6 d).2.down=(W6 d).1:=by
 unfold W6;split
 ·exact h
 ·rfl
theorem Di7{d:Dev}(ok:P6 d)(aK:d.down=false)(b p:Int)(data:List UInt8):DSt d (prog d b p data).2 (prog d b p data).1/\((prog d b p data).1=0->0<=p/\p<d.c.P):=by
 have aA:=Cj9 ok b p data;have hc:=Da8 d b p data;unfold prog at aA hc⊢;have fN:G9 d b p≠11:=by
  unfold G9;rw[Dq4 (by rw[aK];decide)];split
  ·decide
  ·split<;>decide
 by_cases hf:G9 d b p=0
 ·rw[Dq4 (by simpa using hf)]at aA hc⊢;have hp:0<=p/\p<d.c.P:=by
   unfold G9 at hf;rw[Dq4 (by rw[aK];decide)]at hf;split at hf
   ·cases hf
   ·split at hf
    ·cases hf
    ·rename_i h;exact Dt6.1 h
  split
  ·exact⟨.same (e:=2) ok aK (by decide),fun h=>absurd (show(2:Int)=0 from h) (by decide)⟩
  ·rename_i hC;rw[Dq4 hC]at aA hc;split
   ·exact⟨.same (e:=2) ok aK (by decide),fun h=>absurd (show(2:Int)=0 from h) (by decide)⟩
   ·rename_i k hk;rw[hk]at aA hc;dsimp only at aA hc;split
    ·exact⟨.same (e:=10) ok aK (by decide),fun h=>absurd (show(10:Int)=0 from h) (by decide)⟩
    ·rename_i hb;rw[Dq4 hb]at aA hc;split
     ·exact⟨.same (e:=9) ok aK (by decide),fun h=>absurd (show(9:Int)=0 from h) (by decide)⟩
     ·rename_i hn;rw[Dq4 hn]at aA hc;have kN:(H9 d).down=false:=aK;have pN:=Bm5 kN;obtain⟨t1,t2,t3,t4⟩:=Ab7 d;have wr: ∀(img:List UInt8) (i:Nat) (k':Blk),(d.bs.set b.toNat (k.put p.toNat img))[i]?=some k'-> ∃k,d.bs[i]?=some k/\k'.wear=k.wear/\k'.bad=k.bad:=fun img i k' cU=>by
       rw[D38]at cU;split at cU
       ·rename_i hi;split at cU
        ·obtain rfl:=Dq9 cU;exact⟨k,hi▸hk,rfl,rfl⟩
        ·cases cU
       ·exact⟨k',cU,rfl,rfl⟩
      refine⟨?_,fun _=>hp⟩;unfold Ap3 at aA hc⊢;by_cases ht:(W6 (H9 d)).1=true
      ·rw[Dq5 ht]at aA hc⊢;refine⟨hc,aA,?_,?_,by simp,wr _⟩
       ·show(W6 (H9 d)).2.down=_;rw[pN,ht];rfl
       ·show(d.torn++[_]).length+(if(W6 (H9 d)).2.down=true then 0 else 1)<=_;rw[pN,ht,Dr4];simp
      ·rw[Dq4 ht]at aA hc⊢;have ht:(W6 (H9 d)).1=false:=by simpa using ht
       refine⟨hc,aA,?_,?_,by simp,wr _⟩
       ·show(W6 (H9 d)).2.down=_;rw[pN,ht];rfl
       ·show(W6 (H9 d)).2.torn.length+(if(W6 (H9 d)).2.down=true then 0 else 1)<=_;rw[pN,ht,t3];simp
 ·rw[Dq5 hf];exact⟨.same ok aK fN,fun h=>absurd h hf⟩
theorem imgR_e(h:Hd)(p:List UInt8)(size:Int):(Ak6 h p size).2≠11:=by
 unfold Ak6 Y3
 repeat' split
 all_goals simp
theorem Ay1{d:Dev}(ok:P6 d)(aK:d.down=false)(b:Int)(h:Hd)(p:List UInt8):DSt d (M9 d b h p).2 (M9 d b h p).1/\((M9 d b h p).1=0->0<=h.2.2.2.2.1/\h.2.2.2.2.1<d.c.P):=by
 unfold M9;split
 ·rename_i he;exact⟨.same ok aK (imgR_e h p _),fun h=>absurd h he⟩
 ·exact Di7 ok aK b _ _
theorem Cu8(b ep at' kind n:Int): ∀(l:List (List UInt8)) {d:Dev} (i:Nat),P6 d->d.down=false->DSt d (W8 b ep at' kind n d i l).2 (W8 b ep at' kind n d i l).1/\((W8 b ep at' kind n d i l).1=0->l≠[]->0<=at'+i/\at'+i+l.length<=d.c.P)
 |[],d,i,ok,aK=>⟨.same (e:=0) ok aK (by decide),fun _ h=>absurd rfl h⟩
 |p::r,d,i,ok,aK=>by
  have h1:=Ay1 ok aK b (kind,i,n,ep,at'+i,()) p;unfold W8;split
  ·rename_i h0;have h2:=h1.2 h0;have aP:=h1.1;rw[h0]at aP;have h3:=Cu8 b ep at' kind n r (i+1) aP.ok (by rw[aP.dn];rfl);refine⟨aP.then h3.1,fun he _=>?_⟩;have h4:=h3.2 he;rw[aP.c]at h4;simp only at h2;refine⟨h2.1,?_⟩;cases r with
   |nil=>simp;omega
   |cons x y=>
    have:=h4 (by simp);simp only[Dr8]at*;omega
  ·rename_i h0;exact⟨h1.1,fun h=>absurd h h0⟩
theorem Bk5{d:Dev}(ok:P6 d)(aK:d.down=false)(b ep at' kind:Int)(l:List (List UInt8)):DSt d (Ah3 d b ep at' kind l).2 (Ah3 d b ep at' kind l).1/\((Ah3 d b ep at' kind l).1=0->l≠[]/\0<=at'/\at'+l.length<=d.c.P):=by
 unfold Ah3;split
 ·exact⟨.same (e:=2) ok aK (by decide),fun h=>absurd (show(2:Int)=0 from h) (by decide)⟩
 ·rename_i hl;have h:=Cu8 b ep at' kind l.length l 0 ok aK;exact⟨h.1,fun h0=>by have:=h.2 h0 hl;simp at this;exact⟨hl,by omega,by omega⟩⟩
theorem Bf2{d:Dev}(ok:P6 d)(aK:d.down=false)(b ep:Int):DSt d (T3 d b ep).2 (T3 d b ep).1:=(Ay1 ok aK _ _ _).1
theorem Bd7{d:Dev}(ok:P6 d)(aK:d.down=false)(b ep at':Int)(l:List It):DSt d (T2 d b ep at' l).2 (T2 d b ep at' l).1:=by
 unfold T2;split
 ·exact(Ay1 ok aK _ _ _).1
 ·exact .same (e:=3) ok aK (by decide)
structure ESt(d d':Dev)(b e:Int):Prop where
 c:d'.c=d.c
 ok:P6 d'
 dn:d'.down=decide (e=11)
 tn:d'.torn=d.torn
 ln:d'.bs.length=d.bs.length
 wr:e≠11-> ∀(i:Nat) k',d'.bs[i]?=some k'-> ∃k,d.bs[i]?=some k/\((((i:Int)=b/\k.bad=false)/\k'.wear=k.wear+1/\k'.bad=decide (e=10))\/(¬((i:Int)=b/\k.bad=false)/\k'.wear=k.wear/\k'.bad=k.bad))
theorem Ar1{d:Dev}(ok:P6 d)(aK:d.down=false)(b:Int):ESt d (E7 d b).2 b (E7 d b).1:=by
 have aA:=C65 ok b;have hc:=Az0 d b;have ht:=Cc6 d b;have same: ∀e:Int,e≠11->(∀(i:Nat) k,d.bs[i]?=some k-> ¬((i:Int)=b/\k.bad=false))->ESt d d b e:=fun e he hn=>⟨rfl,ok,by rw[aK];exact(Ds7 he).symm,rfl,rfl,fun _ i k h=>⟨k,h,.inr ⟨hn i k h,rfl,rfl⟩⟩⟩;unfold E7 at aA hc ht⊢;have hP:=ok.c.p;by_cases hf:G9 d b 0=0
 ·rw[Dq4 (by simpa using hf)]at aA hc ht⊢;have hb:0<=b/\b<d.bs.length:=by
   unfold G9 at hf;rw[Dq4 (by rw[aK];decide)]at hf;split at hf
   ·cases hf
   ·rename_i h;exact Dt6.1 h
  have pD:b.toNat<d.bs.length:=by omega
  rw[Dr9 pD]at aA hc ht⊢;dsimp only at aA hc ht⊢;by_cases bG:d.bs[b.toNat].bad=true
  ·rw[Dq5 bG];refine same 10 (by decide) fun i k hk hh=>?_;have:i=b.toNat:=by omega
   subst this;rw[Dr9 pD]at hk;obtain rfl:=Dq9 hk;rw[bG]at hh;exact absurd hh.2 (by decide)
  ·have hbf:d.bs[b.toNat].bad=false:=by simpa using bG
   rw[Dq4 bG]at aA hc ht⊢;have pN:=Bm5 aK;unfold Ai6 at aA hc ht⊢;by_cases oC:(W6 d).1=true
   ·rw[Dq5 oC]at aA hc ht⊢;refine⟨hc,aA,?_,ht,by simp,fun h=>absurd rfl h⟩;show(W6 d).2.down=_;rw[pN,oC];rfl
   ·have oC:(W6 d).1=false:=by simpa using oC
    rw[Dq4 (by rw[oC];decide)]at aA hc ht⊢;refine⟨hc,aA,?_,ht,by simp,fun _ i k' cU=>?_⟩
    ·show(W6 d).2.down=_;rw[pN,oC];split<;>rfl
    ·simp only at cU;rw[D38]at cU;split at cU
     ·rename_i hi;subst hi;obtain rfl:=Dq9 cU;refine⟨d.bs[b.toNat],Dr9 pD,.inl ⟨⟨by omega,hbf⟩,rfl,?_⟩⟩;unfold Blk.fresh;simp only;split<;>rename_i h<;>simp[h]
     ·rename_i hi;exact⟨k',cU,.inr ⟨fun h=>hi (by omega),rfl,rfl⟩⟩
 ·rw[Dq5 hf];unfold G9 at hf⊢;rw[Dq4 (by rw[aK];decide)]at hf⊢;by_cases hr:0<=b/\b<d.bs.length
  ·rw[Dq4 (fun h=>h hr),Dq4 (by omega)]at hf;exact absurd rfl hf
  ·rw[Dq5 hr];refine same 2 (by decide) fun i k hk hh=>?_;have:=(Dw0.1 hk).1;omega
theorem A20(d:Dev): ∀n:Nat,((A69 d n).map fun h=>h.1).Nodup/\ ∀h∈A69 d n,h.1<(n:Int)
 |0=>⟨D32,by simp[A69]⟩
 |n+1=>by
  obtain⟨i1,i2⟩:=A20 d n;rw[A19];cases hr:Bn9 d n with
  |none=>
   simp only[Option.toList_none,Dr3];exact⟨i1,fun h hh=>by have:=i2 h hh;omega⟩
  |some x=>
   have hx:=(Av5 hr).1;refine⟨?_,fun h hh=>?_⟩
   ·rw[D93,Ds2,Dz5,Dx3];refine⟨i1,Dv9.2 ⟨by simp,D32⟩,fun a ha b hb=>?_⟩;rw[Dr2]at hb;subst hb;obtain⟨h,hh,rfl⟩:=Dt4.1 ha;have:=i2 h hh;omega
   ·rcases Dr5.1 hh with hh|hh
    ·have:=i2 h hh;omega
    ·rw[D93,Dr2]at hh;subst hh;omega
def A63(d:Dev):List Int:=(H0 d).map fun h=>h.1
theorem Al1(d:Dev):(A63 d).Nodup:=by
 unfold A63 H0;exact((O7 epK (A69 d d.c.B)).map (fun h:HD=>h.1)).nodup_iff.2 (A20 d d.c.B).1
theorem Br6{l:List Int}(hn:l.Nodup){i:Nat}(hi:i<l.length):l.idxOf l[i]=i:=List.Nodup.idxOf_getElem hn i hi
theorem C52(d:Dev):(H0 d).Pairwise fun a b=>(A63 d).idxOf a.1<=(A63 d).idxOf b.1/\a.1≠b.1:=by
 have hn:=Al1 d;rw[Ef9];intro i j hi hj oQ;have hl:(A63 d).length=(H0 d).length:=by unfold A63;rw[Dr1]
 have e: ∀(k:Nat) (hk:k<(H0 d).length),(H0 d)[k].1=(A63 d)[k]'(by omega):=fun k hk=>by unfold A63;rw[D07]
 rw[e i hi,e j hj];refine⟨by rw[Br6 hn,Br6 hn];omega,fun h=>?_⟩;have h1:=Br6 hn (i:=i) (by omega);have h2:=Br6 hn (i:=j) (by omega);rw[h]at h1;omega
theorem Dg2(d:Dev)(kind:Int):(Bw9 kind (H0 d)).Pairwise fun a b=>(A63 d).idxOf a.1.1<=(A63 d).idxOf b.1.1/\(a.1.1≠b.1.1\/a.2.2.1≠b.2.2.1):=by
 unfold Bw9;rw[List.pairwise_flatMap];refine⟨fun h hh=>?_,(C52 d).imp fun{a b} eQ x hx y hy=>?_⟩
 ·obtain⟨b,-,hb⟩:=Bh6 hh;have ho:=(Av5 hb).2.2.2;rw[List.pairwise_map];refine(ho.filter _).imp fun{x y} aj=>⟨Dq6 _,.inr ?_⟩;simp only;omega
 ·obtain⟨x',-,rfl⟩:=Dt4.1 hx;obtain⟨y',-,rfl⟩:=Dt4.1 hy;exact⟨eQ.1,.inl eQ.2⟩
theorem Dp3(d:Dev):(Cv2 d (H0 d)).Pairwise fun x y=>(A63 d).idxOf x.2.1<=(A63 d).idxOf y.2.1/\x.2≠y.2:=by
 unfold Cv2;rw[List.pairwise_filterMap];refine(Dg2 d 2).imp fun{a b} eQ x hx y hy=>?_;have key: ∀{q:HD×It} {x:LE},Y0 d q=some x->x.2=Ck3 q.1 q.2:=fun{q x} h=>by
  unfold Y0 at h;split at h
  ·obtain rfl:=Dq9 h;rfl
  ·cases h
 rw[key hx,key hy];refine⟨eQ.1,fun h=>?_⟩;unfold Ck3 at h;have h1:=congrArg (fun t:It=>t.1) h;have h2:=congrArg (fun t:It=>t.2.1) h;rcases eQ.2 with h3|h3
 ·exact h3 h1
 ·exact h3 h2
structure B94(d:Dev)(x:LE):Prop where
 fetch:(A9 d x.2).2.2=0/\Ak2 (A9 d x.2).1=x.1
 held: ∃h∈H0 d,h.1=x.2.1/\h.2.1=x.2.2.2.1
 page:1<=x.2.2.1/\x.2.2.1<=255
theorem all_ok{d:Dev}{x:LE}(hx:x∈Cv2 d (H0 d)):B94 d x:=by
 unfold Cv2 at hx;rw[D73]at hx;obtain⟨q,hq,h⟩:=hx;unfold Bw9 at hq;rw[Dw7]at hq;obtain⟨hd,hm,hq⟩:=hq;obtain⟨y,hy,rfl⟩:=Dt4.1 hq;have hy:=(Dw5.1 hy).1;obtain⟨b,-,hb⟩:=Bh6 hm;have hr:=(Av5 hb).2.2.1 y hy;unfold Y0 at h;split at h
 ·rename_i h0;obtain rfl:=Dq9 h;exact⟨⟨h0,rfl⟩,⟨hd,hm,rfl,rfl⟩,hr.1,hr.2.1⟩
 ·cases h
theorem Bg5{d:Dev}{x:LE}(hx:x∈R7 d):B94 d x:=all_ok (Dw5.1 hx).1
theorem C31(d:Dev):(R7 d).Pairwise fun x y=>(A63 d).idxOf x.2.1<=(A63 d).idxOf y.2.1/\x.1≠y.1:=by
 have h0:(R7 d).Pairwise fun x y=>(A63 d).idxOf x.2.1<=(A63 d).idxOf y.2.1/\x.2≠y.2:=(Dp3 d).filter _;rw[Ef9]at h0⊢;intro i j hi hj oQ;refine⟨(h0 i j hi hj oQ).1,fun h=>(h0 i j hi hj oQ).2 ?_⟩;have h1:=(Dw5.1 (Dr7 hi)).2;have h2:=(Dw5.1 (Dr7 hj)).2;simp only[Dy0]at h1 h2;have h3:=h1.1;have h4:=h2.1;rw[h]at h3;exact Dq9 (h3.symm.trans h4)
theorem By9: ∀(l:List HD) (a:Int),a<=l.foldl (fun a h=>Aa2 a h.2.1) a/\ ∀h∈l,h.2.1<=l.foldl (fun a h=>Aa2 a h.2.1) a
 |[],a=>by simp
 |x::r,a=>by
  obtain⟨h1,h2⟩:=By9 r (Aa2 a x.2.1);have h3:a<=Aa2 a x.2.1/\x.2.1<=Aa2 a x.2.1:=by unfold Aa2;split<;>omega
  rw[D02];refine⟨by omega,fun h hh=>?_⟩;rcases Dt5.1 hh with rfl|hh
  ·omega
  ·exact h2 h hh
theorem Bz9(d:Dev):(H0 d).Pairwise fun a b=>a.2.1<=b.2.1:=Br0 epK (A69 d d.c.B)
theorem Dm7{d:Dev}{x:LE}(hx:B94 d x): ∃(i:Nat) (hi:i<(H0 d).length),(H0 d)[i].1=x.2.1/\(H0 d)[i].2.1=x.2.2.2.1/\(A63 d).idxOf x.2.1=i:=by
 obtain⟨h,hh,e1,e2⟩:=hx.held;obtain⟨i,hi,rfl⟩:=D95 hh;refine⟨i,hi,e1,e2,?_⟩;have hl:(A63 d).length=(H0 d).length:=by unfold A63;rw[Dr1]
 have e:(A63 d)[i]'(by omega)=x.2.1:=by rw[<-e1];unfold A63;rw[D07]
 rw[<-e];exact Br6 (Al1 d) (by omega)
theorem Aq8{h:Hd}{p:List UInt8}{S:Nat}(h1:16<=S)(h2:p.length<=S-16):(S7 h p S).length=S:=by
 unfold S7;rw[Dr4,Ab2 h1 h2,Q1];omega
theorem dig0{n:Nat}(h:n<256):(dig n 0).toNat=n:=by
 have:=Ap7 1 n (by simpa using h);have e:num (N4 n 1)=(dig n 0).toNat:=by simp[digs1,num]
 omega
theorem Ai4(h:Hd)(p:List UInt8){S:Nat}(h1:16<=S)(h2:p.length<=S-16):(S7 h p S).take (S-4)=Ac8 h p S:=by
 unfold S7;exact D30 (Ab2 h1 h2)
theorem Cp3(h:Hd)(p:List UInt8){S:Nat}(h1:16<=S)(h2:p.length<=S-16):(S7 h p S).drop (S-4)=N4 (G3 (Ac8 h p S)).toNat 4:=by
 unfold S7;exact D29 (Ab2 h1 h2)
theorem Dk3(l:List UInt8):((num (N4 (G3 l).toNat 4):Nat):Int)=G3 l:=by
 have h:=Au7 l;rw[Ap7 4 _ (show(G3 l).toNat<4294967296 by omega)];omega
theorem Au2{h:Hd}(e:Y3 h=0)(p:List UInt8){S:Nat}(h1:64<=S/\S<=512)(h2:p.length<=S-16):
  hOf (S7 h p S)=h/\nOf (S7 h p S)=p.length/\Ad9 (S7 h p S)=p/\(∀x∈V3 (S7 h p S),x=0)/\(S7 h p S).getD 3 0=165/\(S7 h p S).getD 9 0=0:=by
 have aA:=Ac9 e;obtain⟨k,pa,ps,ep,pg,u⟩:=h;simp only at aA;obtain⟨k,rfl⟩: ∃n:Nat,k=n:=⟨k.toNat,by omega⟩;obtain⟨pa,rfl⟩: ∃n:Nat,pa=n:=⟨pa.toNat,by omega⟩;obtain⟨ps,rfl⟩: ∃n:Nat,ps=n:=⟨ps.toNat,by omega⟩;obtain⟨ep,rfl⟩: ∃n:Nat,ep=n:=⟨ep.toNat,by omega⟩;obtain⟨pg,rfl⟩: ∃n:Nat,pg=n:=⟨pg.toNat,by omega⟩;have hC:=Aq8 (h:=((k:Int),(pa:Int),(ps:Int),(ep:Int),(pg:Int),())) (p:=p) (S:=S) (by omega) h2;generalize hq:List.replicate (S-16-p.length) 0++N4 (G3 (Ac8 ((k:Int),(pa:Int),(ps:Int),(ep:Int),(pg:Int),()) p S)).toNat 4=q;have hb:S7 ((k:Int),(pa:Int),(ps:Int),(ep:Int),(pg:Int),()) p S=dig k 0::dig pa 0::dig ps 0::165::dig ep 0::dig ep 1::dig ep 2::dig ep 3::dig pg 0::0::dig p.length 0::dig p.length 1::(p++q):=by
  rw[<-hq];unfold S7;conv=>lhs;arg 1;unfold Ac8 Am2
  simp only[Dr0,Ds5];rfl
 have dD:(S-4)-12-p.length=S-16-p.length:=by omega
 generalize hB:S7 ((k:Int),(pa:Int),(ps:Int),(ep:Int),(pg:Int),()) p S=b at hb hC⊢;have e4:num (N4 ep 4)=ep:=Ap7 4 ep (show ep<4294967296 by omega);have e2:num (N4 p.length 2)=p.length:=Ap7 2 _ (show p.length<65536 by omega);have hn:nOf b=p.length:=by rw[hb];exact e2
 refine⟨?_,hn,?_,?_,by rw[hb];rfl,by rw[hb];rfl⟩
 ·have:hOf b=(((dig k 0).toNat:Int),((dig pa 0).toNat:Int),((dig ps 0).toNat:Int),((num (N4 ep 4):Nat):Int),((dig pg 0).toNat:Int),()):=by rw[hb];rfl
  rw[this,e4,dig0 (by omega),dig0 (by omega),dig0 (by omega),dig0 (by omega)]
 ·unfold Ad9;rw[hn,hb];show List.take p.length (p++q)=p;exact D30 rfl
 ·unfold V3;rw[hn,hC,hb];have:List.drop (12+p.length) (dig k 0::dig pa 0::dig ps 0::165::dig ep 0::dig ep 1::dig ep 2::dig ep 3::dig pg 0::0::dig p.length 0::dig p.length 1::(p++q))=q:=by
   rw[<-Dw6];show List.drop p.length (p++q)=q;exact D29 rfl
  rw[this,<-hq,show S-4-(12+p.length)=S-16-p.length by omega,D30 (by rw[Dv3])];exact fun x hx=>Dv8 hx
theorem An3{h:Hd}(e:Y3 h=0)(p:List UInt8){S:Nat}(h1:64<=S/\S<=512)(h2:p.length<=S-16):E0 (S7 h p S)=(h,p,0)/\P3 (S7 h p S)=false:=by
 obtain⟨a1,a2,a3,a4,a5,a6⟩:=Au2 e p h1 h2;have hC:=Aq8 (h:=h) (p:=p) (S:=S) (by omega) h2;have jL:P3 (S7 h p S)=false:=by
  unfold P3;rw[D83];rw[Af3 (by omega)]at a5;exact⟨_,Dr7 (show 3<(S7 h p S).length by omega),by rw[a5];decide⟩
 have hc:G3 ((S7 h p S).take ((S7 h p S).length-4))=(num ((S7 h p S).drop ((S7 h p S).length-4)):Int):=by
  rw[hC,Ai4 h p (by omega) h2,Cp3 h p (by omega) h2,Dk3]
 have:=By3 (b:=S7 h p S) (by rw[hC];exact h1) jL hc (Db0 a5 a6 (by omega) (by rw[a1];exact e) a4);rw[a1,a3]at this;exact⟨this,jL⟩
theorem An5{b:List UInt8}(h:(E0 b).2.2=0):(64<=b.length/\b.length<=512)/\Y3 (E0 b).1=0/\(E0 b).2.1.length<=b.length-16/\S7 (E0 b).1 (E0 b).2.1 b.length=b/\P3 b=false:=by
 by_cases h1:64<=b.length/\b.length<=512
 ·cases h2:P3 b with
  |true=>rw[Ba1 h1 h2]at h;cases h
  |false=>
   by_cases h3:G3 (b.take (b.length-4))=(num (b.drop (b.length-4)):Int)
   ·cases h4:Dj3 b with
    |true=>rw[Aj9 h1 h2 h3 h4]at h;cases h
    |false=>
     have bF:=fun c=>(Bool.eq_false_iff.1 h4) ((Ac0 b).2 c);have hn:nOf b<=b.length-16:=by
      rcases Dw8 (b.length-16) (nOf b)with c|c
      ·exact absurd (.inr (.inr (.inl c))) bF
      ·exact c
     rw[By3 h1 h2 h3 h4];refine⟨h1,Dy3 fun c=>bF (.inr (.inr (.inr (.inl c)))),by rw[Bp3 (by omega)];exact hn,?_,rfl⟩;refine(Dp4 h1.1 h3 hn).2 ⟨Dy3 fun c=>bF (.inl c),Dy3 fun c=>bF (.inr (.inl c)),fun x hx=>Dy3 fun c=>bF (.inr (.inr (.inr (.inr ⟨x,hx,c⟩))))⟩
   ·rw[B44 h1 h2 h3]at h;cases h
 ·rw[Bp4 h1]at h;cases h
theorem Au0(h:Hd)(p:List UInt8)(size:Int):(Ak6 h p size).2=0/\(∃S:Nat,size=S/\(64<=S/\S<=512)/\Y3 h=0/\p.length<=S-16/\Ak6 h p size=(S7 h p S,0))\/(Ak6 h p size).2≠0/\(Ak6 h p size).1=[]:=by
 by_cases h1:64<=size/\size<=512
 ·obtain⟨S,rfl⟩: ∃S:Nat,size=S:=⟨size.toNat,by omega⟩;by_cases h2:Y3 h=0
  ·by_cases h3:p.length<=S-16
   ·have:=Co9 (h:=h) (p:=p) (S:=S) (by omega) h2 h3;exact .inl ⟨by rw[this],S,rfl,by omega,h2,h3,this⟩
   ·refine .inr ?_;unfold Ak6;rw[Dq4 (by omega),Dq4 (by simpa using h2),Dq5 (by omega)];exact⟨by decide,rfl⟩
  ·refine .inr ?_;rw[C45 (by omega) h2];exact⟨h2,rfl⟩
 ·refine .inr ?_;unfold Ak6;rw[Dq5 h1];exact⟨by decide,rfl⟩
def bct(q:Nat->Bool):Nat->Nat
 |0=>0
 |k+1=>bct q k+(if q k=true then 1 else 0)
theorem Aj0{q r:Nat->Bool}: ∀{k:Nat},(∀i,i<k->q i=r i)->bct q k=bct r k
 |0,_=>rfl
 |k+1,h=>by
  unfold bct;rw[Aj0 (fun i hi=>h i (by omega)),h k (by omega)]
theorem Bu8(q r:Nat->Bool): ∀k,bct (fun i=>q i&& !r i) k+bct (fun i=>q i&&r i) k=bct q k
 |0=>rfl
 |k+1=>by
  have:=Bu8 q r k;unfold bct;cases q k<;>cases r k<;>simp<;>omega
theorem Dd6(q:Nat->Bool): ∀k,bct q k<=k
 |0=>Dq6 _
 |k+1=>by
  have:=Dd6 q k;unfold bct;split<;>omega
theorem B14{q r:Nat->Bool}{j:Nat}: ∀{k:Nat},(∀i,i<k->i≠j->q i=r i)->j<k->bct q k+(if r j=true then 1 else 0)=bct r k+(if q j=true then 1 else 0)
 |0,_,hj=>by omega
 |k+1,h,hj=>by
  unfold bct;by_cases hk:j=k
  ·subst hk;rw[Aj0 (q:=q) (r:=r) (fun i hi=>h i (by omega) (by omega))];omega
  ·have h1:=B14 (q:=q) (r:=r) (j:=j) (k:=k) (fun i hi aE=>h i (by omega) aE) (by omega);have h2:=h k (by omega) (fun e=>hk e.symm);rw[h2];omega
theorem Bk3: ∀k,bct (fun _=>false) k=0
 |0=>rfl
 |k+1=>by unfold bct;rw[Bk3 k];rfl
theorem Cu2: ∀(us:List Int) (k:Nat),us.Nodup->(∀x∈us,0<=x/\x<k)->bct (fun i=>decide ((i:Int)∈us)) k=us.length
 |[],k,_,_=>by
  rw[Aj0 (r:=fun _=>false) (fun i _=>by simp),Bk3];rfl
 |x::r,k,hn,h=>by
  rw[Dv9]at hn;have h1:=Cu2 r k hn.2 (fun y hy=>h y (by simp[hy]));have hx:=h x (by simp);have h2:=B14 (q:=fun i=>decide ((i:Int)∈x::r)) (r:=fun i=>decide ((i:Int)∈r)) (j:=x.toNat) (k:=k) (fun i hi aE=>by
   have:(i:Int)≠x:=by omega
   simp[this]) (by omega)
  have e:((x.toNat:Nat):Int)=x:=by omega
  simp only[e]at h2;rw[Dq4 (by simpa using hn.1),Dq5 (by simp)]at h2;rw[Dr8];omega
theorem Bc3(ss:List BS)(us:List Int):A65 ss us=((bct (fun i=>N6 ss us (i:Int)) ss.length:Nat):Int):=by
 unfold A65;refine Bt2 (N6 ss us) (fun(k:Int) _ _=>k+1) 0 ss (fun n k=>k=((bct (fun i=>N6 ss us (i:Int)) n:Nat):Int)) rfl ?_;intro i hi s hs;subst hs;show _=((bct (fun i=>N6 ss us (i:Int)) i+(if N6 ss us (i:Int)=true then 1 else 0):Nat):Int);split<;>simp
def Ce4(ss:List BS)(us:List Int):Prop:=us.Nodup/\ ∀x∈us,F5 ss x=true
theorem Ac4{ss:List BS}{x:Int}(h:F5 ss x=true):0<=x/\x<ss.length:=by
 obtain⟨h0,hi,_⟩:=K5 h;omega
theorem Bj9{ss:List BS}{us:List Int}(h:Ce4 ss us):bus ss us:=⟨h.1,fun x hx=>Ac4 (h.2 x hx)⟩
def V0(ss:List BS):Nat:=bct (fun i=>F5 ss (i:Int)) ss.length
theorem Cd3{ss:List BS}{us:List Int}(h:Ce4 ss us):A65 ss us=(V0 ss:Int)-us.length:=by
 rw[Bc3];have h1:=Bu8 (fun i=>F5 ss (i:Int)) (fun i=>decide ((i:Int)∈us)) ss.length;have h2:=Cu2 us ss.length h.1 (Bj9 h).2;have h3:bct (fun i=>F5 ss (i:Int)&&decide ((i:Int)∈us)) ss.length=bct (fun i=>decide ((i:Int)∈us)) ss.length:=by
  refine Aj0 fun i hi=>?_;by_cases hm:(i:Int)∈us
  ·rw[h.2 _ hm];rfl
  ·simp[hm]
 have h4:bct (fun i=>N6 ss us (i:Int)) ss.length=bct (fun i=>F5 ss (i:Int)&& !decide ((i:Int)∈us)) ss.length:=rfl;unfold V0;omega
theorem Bu3{ss:List BS}{us:List Int}(h:Ce4 ss us){n:Int}(hf:N6 ss us n=true):Ce4 ss (us++[n]):=by
 refine⟨(B83 (Bj9 h) hf).1,fun x hx=>?_⟩;rcases Dr5.1 hx with h1|h1
 ·exact h.2 x h1
 ·rw[Dr2.1 h1];exact(D8 hf).1
theorem Ar7{ss:List BS}{n:Int}(g:BS->BS){x:Int}(hn:0<=n)(hx:x≠n):F5 (Ad4 ss n g) x=F5 ss x:=by
 unfold F5 Ad4;by_cases h0:0<=x
 ·rw[Dy7];have: ¬n.toNat=x.toNat:=by omega
  simp[this]
 ·rw[Ds7 h0];rfl
theorem Aw8{ss:List BS}{n:Int}(g:BS->BS)(hg:F5 ss n=true): ∃s,ss[n.toNat]?=some s/\F5 (Ad4 ss n g) n= !(g s).bad:=by
 obtain⟨h0,hi,hb⟩:=K5 hg;refine⟨ss[n.toNat],Dr9 hi,?_⟩;unfold F5 Ad4;rw[Dy7,Dt2 h0,Dr9 hi];simp
theorem Cn8{us:List Int}{n x:Int}:x∈iwo us n↔x∈us/\x≠n:=by
 unfold iwo;rw[Dw5];simp
theorem C74{ss:List BS}{us:List Int}(h:Ce4 ss us){n:Int}(hn:F5 ss n=true)(g:BS->BS):Ce4 (Ad4 ss n g) (iwo us n):=by
 have h0:=(K5 hn).1;refine⟨h.1.filter _,fun x hx=>?_⟩;obtain⟨h1,h2⟩:=Cn8.1 hx;rw[Ar7 g h0 h2];exact h.2 x h1
theorem Bc2{ss:List BS}{n:Int}(hn:F5 ss n=true)(g:BS->BS){bad:Bool}(hb: ∀s,ss[n.toNat]?=some s->(g s).bad=bad):(V0 (Ad4 ss n g):Int)=V0 ss-(if bad=true then 1 else 0):=by
 obtain⟨h0,hi,mF⟩:=K5 hn;obtain⟨s,hs,hg⟩:=Aw8 g hn;rw[hb s hs]at hg;have h1:=B14 (q:=fun i=>F5 (Ad4 ss n g) (i:Int)) (r:=fun i=>F5 ss (i:Int)) (j:=n.toNat) (k:=ss.length) (fun i hi aE=>Ar7 g h0 (by omega)) (by omega);have e:((n.toNat:Nat):Int)=n:=by omega
 simp only[e]at h1;rw[hn,hg]at h1;unfold V0;rw[Al0];cases bad<;>simp at h1⊢ <;>omega
def bat(ss:List BS)(n:Int):BS:=(ss[n.toNat]?).getD bs0
theorem B90{ss:List BS}{i:Nat}(hi:i<ss.length):bat ss (i:Int)=ss[i]:=by
 unfold bat;rw[Dr0,Dr9 hi];rfl
theorem Bb9(ss:List BS)(us:List Int):((E2 ss us).1=false-> ∀i:Nat,i<ss.length->N6 ss us i=false)/\
  ((E2 ss us).1=true->N6 ss us (E2 ss us).2.2=true/\(E2 ss us).2.1=bat ss (E2 ss us).2.2/\ ∀i:Nat,i<ss.length->N6 ss us i=true->Ab6 (bat ss (E2 ss us).2.2)<=Ab6 (bat ss i))/\((E2 ss us).1=false->(E2 ss us).2.1=bs0/\(E2 ss us).2.2=0):=by
 unfold E2;refine Bt2 (N6 ss us) O4 (false,bs0,0) ss (fun n (s:BPk)=>(s.1=false-> ∀i:Nat,i<n->N6 ss us i=false)/\(s.1=true->N6 ss us s.2.2=true/\s.2.1=bat ss s.2.2/\ ∀i:Nat,i<n->N6 ss us i=true->Ab6 (bat ss s.2.2)<=Ab6 (bat ss i))/\(s.1=false->s.2.1=bs0/\s.2.2=0)) ⟨fun _ i hi=>by omega,fun h=>by simp at h,fun _=>⟨rfl,rfl⟩⟩ ?_;rintro i hi ⟨fd,best,at'⟩ ⟨h1,h2,h3⟩;simp only at h1 h2 h3;by_cases hf:N6 ss us (i:Int)=true
 ·rw[Dq5 hf];unfold O4;simp only;by_cases hc:fd=false\/Ab6 ss[i]<Ab6 best
  ·rw[Dq5 hc];refine⟨fun h=>by simp at h,fun _=>⟨hf,(B90 hi).symm,fun j hj lU=>?_⟩,fun h=>by simp at h⟩;simp only[B90 hi];rcases Dw8 j i with fT|fT
   ·rcases hc with hc|hc
    ·rw[h1 hc j fT]at lU;cases lU
    ·cases fd with
     |false=>rw[h1 rfl j fT]at lU;cases lU
     |true=>
      obtain⟨a,b,c⟩:=h2 rfl;have:=c j fT lU;rw[b]at hc;omega
   ·obtain rfl:j=i:=by omega
    rw[B90 hi];exact Du5 _
  ·rw[Dq4 hc];have gG:fd=true:=by
    cases fd with
    |true=>rfl
    |false=>exact absurd (.inl rfl) hc
   subst gG;obtain⟨a,b,c⟩:=h2 rfl;refine⟨fun h=>by simp at h,fun _=>⟨a,b,fun j hj lU=>?_⟩,fun h=>by simp at h⟩;rcases Dw8 j i with fT|fT
   ·exact c j fT lU
   ·obtain rfl:j=i:=by omega
    have: ¬Ab6 ss[j]<Ab6 best:=fun q=>hc (.inr q);rw[b,<-B90 hi]at this;show Ab6 (bat ss at')<=_;omega
 ·rw[Dq4 hf];have mR:N6 ss us (i:Int)=false:=by simpa using hf
  refine⟨fun h j hj=>?_,fun h=>⟨(h2 h).1,(h2 h).2.1,fun j hj lU=>?_⟩,h3⟩
  ·rcases Dw8 j i with fT|fT
   ·exact h1 h j fT
   ·obtain rfl:j=i:=by omega
    exact mR
  ·rcases Dw8 j i with fT|fT
   ·exact(h2 h).2.2 j fT lU
   ·obtain rfl:j=i:=by omega
    rw[mR]at lU;cases lU
structure Bk6(good:Int->Prop)(c:Int->Int)(us:List Int)(s:Int):Prop where
 A: ∀u∈us,∀f,good f->f∉us->c u<=c f+s/\c f<=c u+1+s
 D: ∀f g,good f->f∉us->good g->g∉us->c f<=c g+1+s
 B:us.Pairwise fun u v=>c u<=c v+s/\c v<=c u+1+s
theorem Cj5{α:Type}{R:α->α->Prop}(hs: ∀a b,R a b->R b a)(hr: ∀a,R a a): ∀{l:List α},l.Pairwise R-> ∀x∈l,∀y∈l,R x y
 |[],_,x,hx,_,_=>by simp at hx
 |a::r,h,x,hx,y,hy=>by
  obtain⟨h1,h2⟩:=Dy6.1 h;rcases Dt5.1 hx with e|aX
  ·rcases Dt5.1 hy with e2|cI
   ·rw[e,e2];exact hr _
   ·rw[e];exact h1 y cI
  ·rcases Dt5.1 hy with e2|cI
   ·rw[e2];exact hs _ _ (h1 x aX)
   ·exact Cj5 hs hr h2 x aX y cI
theorem Bk6.all{good:Int->Prop}{c:Int->Int}{us:List Int}{s:Int}(h:Bk6 good c us s)(hs:0<=s){i j:Int}(hi:good i)(hj:good j):c i<=c j+1+s:=by
 by_cases h1:i∈us
 ·by_cases h2:j∈us
  ·have hB:us.Pairwise fun u v=>c u<=c v+1+s/\c v<=c u+1+s:=h.B.imp fun{a b} eQ=>⟨by omega,eQ.2⟩;exact(Cj5 (R:=fun u v=>c u<=c v+1+s/\c v<=c u+1+s) (fun a b eQ=>⟨eQ.2,eQ.1⟩) (fun x=>⟨by omega,by omega⟩) hB i h1 j h2).1
  ·have:=(h.A i h1 j hj h2).1;omega
 ·by_cases h2:j∈us
  ·exact(h.A j h2 i hi h1).2
  ·exact h.D i j hi h1 hj h2
theorem Bk6.open{good:Int->Prop}{c:Int->Int}{us:List Int}{s:Int}(h:Bk6 good c us s)(hs:0<=s){v:Int}(hv:good v)(hn:v∉us)(hm: ∀f,good f->f∉us->c v<=c f):Bk6 good c (us++[v]) s:=by
 refine⟨fun u hu f hf fD=>?_,fun f g hf fD hg oS=>?_,?_⟩
 ·have mR:f∉us:=fun q=>fD (Ds8 _ q);rcases Dr5.1 hu with h1|h1
  ·exact h.A u h1 f hf mR
  ·rw[Dr2.1 h1];have:=hm f hf mR;have:=h.D f v hf mR hv hn;exact⟨by omega,this⟩
 ·exact h.D f g hf (fun q=>fD (Ds8 _ q)) hg (fun q=>oS (Ds8 _ q))
 ·rw[Eg0];refine⟨h.B,by simp,fun a ha b hb=>?_⟩;rw[Dr2.1 hb];exact h.A a ha v hv hn
theorem Bk6.drop{good good':Int->Prop}{c c':Int->Int}{o:Int}{r:List Int}{s:Int}(h:Bk6 good c (o::r) s)(hs:0<=s)(hg: ∀x,good' x->good x)(ho:c' o=c o+1)(hc: ∀x,good x->x≠o->c' x=c x)(hor:o∉r)(hgr: ∀u∈r,good u):Bk6 good' c' r s:=by
 have hB:=Dy6.1 h.B;have uX: ∀u∈r,c' u=c u:=fun u hu=>hc u (hgr u hu) (fun e=>hor (e▸hu));refine⟨fun u hu f hf fD=>?_,fun f g hf fD cX oS=>?_,?_⟩
 ·rw[uX u hu];have hou:=hB.1 u hu;by_cases iL:f=o
  ·subst iL;rw[ho];exact⟨by omega,by omega⟩
  ·rw[hc f (hg f hf) iL];exact h.A u (by simp[hu]) f (hg f hf) (by simp[iL,fD])
 ·by_cases iL:f=o
  ·by_cases fV:g=o
   ·subst iL fV;omega
   ·subst iL;rw[ho,hc g (hg g cX) fV];have:=(h.A f (by simp) g (hg g cX) (by simp[fV,oS])).1;omega
  ·rw[hc f (hg f hf) iL];by_cases fV:g=o
   ·subst fV;rw[ho];have:=(h.A g (by simp) f (hg f hf) (by simp[iL,fD])).2;omega
   ·rw[hc g (hg g cX) fV];exact h.D f g (hg f hf) (by simp[iL,fD]) (hg g cX) (by simp[fV,oS])
 ·refine hB.2.imp_of_mem ?_;intro a b ha hb eQ;rw[uX a ha,uX b hb];exact eQ
theorem Bk6.spoil{good:Int->Prop}{c c':Int->Int}{us:List Int}{s:Int}(h:Bk6 good c us s)(hs:0<=s){k:Int}(hk:good k)(hku:k∉us)(uY:c' k=c k+1)(hc: ∀x,good x->x≠k->c' x=c x)(oS: ∀u∈us,good u):Bk6 good c' us (s+1):=by
 have zG: ∀u∈us,c' u=c u:=fun u hu=>hc u (oS u hu) (fun e=>hku (e▸hu));have bN: ∀x,good x->c x<=c' x/\c' x<=c x+1:=fun x hx=>by
  by_cases e:x=k
  ·subst e;omega
  ·rw[hc x hx e];omega
 refine⟨fun u hu f hf fD=>?_,fun f g hf fD hg yX=>?_,?_⟩
 ·rw[zG u hu];have h1:=h.A u hu f hf fD;have h2:=bN f hf;omega
 ·have h1:=h.D f g hf fD hg yX;have h2:=bN f hf;have h3:=bN g hg;omega
 ·refine h.B.imp_of_mem ?_;intro a b ha hb eQ;rw[zG a ha,zG b hb];omega
theorem Bk6.congr{good good':Int->Prop}{c c':Int->Int}{us:List Int}{s:Int}(h:Bk6 good c us s)(hg: ∀x,good' x->good x/\c' x=c x)(hu: ∀u∈us,good' u):Bk6 good' c' us s:=by
 refine⟨fun u fP f hf fD=>?_,fun f g hf fD cX oS=>?_,?_⟩
 ·rw[(hg u (hu u fP)).2,(hg f hf).2];exact h.A u fP f (hg f hf).1 fD
 ·rw[(hg f hf).2,(hg g cX).2];exact h.D f g (hg f hf).1 fD (hg g cX).1 oS
 ·refine h.B.imp_of_mem ?_;intro a b ha hb eQ;rw[(hg a (hu a ha)).2,(hg b (hu b hb)).2];exact eQ
theorem Av1{ss:List BS}{n:Int}(g:BS->BS)(hi:n.toNat<ss.length):bat (Ad4 ss n g) n=g (bat ss n):=by
 unfold bat Ad4;rw[Dy7,Dr9 hi];simp
theorem Al2{ss:List BS}{n x:Int}(g:BS->BS)(hn:0<=n)(hx:0<=x)(aE:x≠n):bat (Ad4 ss n g) x=bat ss x:=by
 unfold bat Ad4;rw[Dy7];have: ¬n.toNat=x.toNat:=by omega
 simp[this]
def hdI(ep:Int):Hd:=(1,0,1,ep,0,())
def hdE(p:List UInt8):Option Int:=if(E0 p).2.2=0/\(E0 p).1=hdI (E0 p).1.2.2.2.1/\(E0 p).2.1=[]then some (E0 p).1.2.2.2.1 else none
theorem B60{p:List UInt8}{ep:Int}(h:hdE p=some ep):(64<=p.length/\p.length<=512)/\S7 (hdI ep) [] p.length=p/\P3 p=false:=by
 unfold hdE at h;split at h
 ·rename_i hc;obtain⟨h1,h2,h3⟩:=hc;obtain⟨a1,a2,a3,a4,a5⟩:=An5 h1;obtain rfl:=Dq9 h;rw[<-h2];rw[h3]at a4;exact⟨a1,a4,a5⟩
 ·cases h
theorem Bh7(S:Nat):hdE (blk S)=none:=by
 cases h:hdE (blk S)with
 |none=>rfl
 |some ep=>
  have:=(B60 h).2.2;unfold P3 blk at this;rw[D83]at this;obtain⟨x,hx,hn⟩:=this;rw[Dv8 hx]at hn;exact absurd (by decide) hn
theorem Cp9{ep:Int}(e:Y3 (hdI ep)=0){S:Nat}(h1:64<=S/\S<=512):hdE (S7 (hdI ep) [] S)=some ep:=by
 have:=(An3 e [] h1 (by simp)).1;unfold hdE;rw[this];exact Dq5 ⟨rfl,rfl,rfl⟩
theorem img_at{ep:Int}{S:Nat}(h1:64<=S/\S<=512):(S7 (hdI ep) [] S)[S-5]?=some 0:=by
 have hl:=Ab2 (h:=hdI ep) (p:=[]) (size:=S) (by omega) (by simp);unfold S7;rw[Dy4 (by omega)];have e:Ac8 (hdI ep) [] S=Am2 (hdI ep) 0++List.replicate (S-16) 0:=by unfold Ac8;simp
 have gK:(Am2 (hdI ep) 0).length+(S-16)=S-4:=by
  rw[e,Dr4,Dv3]at hl;exact hl
 rw[e,Dy5 (by omega),D20];exact Dq5 (by omega)
theorem C54{ep:Int}(e:Y3 (hdI ep)=0){S n:Nat}(h1:64<=S/\S<=512)(hn:n<=S):hdE ((S7 (hdI ep) [] S).take n++blk (S-n))=none\/hdE ((S7 (hdI ep) [] S).take n++blk (S-n))=some ep:=by
 have hC:=Aq8 (h:=hdI ep) (p:=[]) (S:=S) (by omega) (by simp);have dD:((S7 (hdI ep) [] S).take n++blk (S-n)).length=S:=by
  rw[Dr4,Ds0,hC];unfold blk;rw[Dv3];omega
 cases h:hdE ((S7 (hdI ep) [] S).take n++blk (S-n))with
 |none=>exact .inl rfl
 |some q=>
  right;obtain⟨-,h2,-⟩:=B60 h;rw[dD]at h2;have hS:S-4<=n:=by
   rcases Dw8 n (S-4)with hc|hc
   ·have h3:=img_at (ep:=q) h1;rw[h2,Dy5 (by rw[Ds0,hC];omega)]at h3;unfold blk at h3;rw[D20]at h3;split at h3
    ·cases h3
    ·cases h3
   ·exact hc
  have h4:=congrArg (List.take (S-4)) h2;rw[Ai4 _ _ (by omega) (by simp),Eg1 (by rw[Ds0,hC];omega),List.take_take,Dx1 hS,Ai4 _ _ (by omega) (by simp)]at h4;have h5:S7 (hdI q) [] S=S7 (hdI ep) [] S:=by unfold S7;rw[h4]
  rw[<-h2,h5,Cp9 e h1]at h;rw[<-h]
def U5(k:Blk):Option Int:=if k.bad=true then none else hdE (k.pages.getD 0 [])
def U7(d:Dev)(x:Int):Option Int:=(D7 d x).bind U5
def K6(d:Dev)(x:Int):Prop:= ∃k,D7 d x=some k/\k.bad=false
def nz(k:Blk):Int:=if k.next≠0 then 1 else 0
def P9(d:Dev)(us:List Int)(x:Int):Int:=(D7 d x).elim 0 fun k=>(k.wear:Int)+if x∈us then 0 else nz k
structure A71(d d':Dev)(b:Int)(k k':Blk):Prop where
 c:d'.c=d.c
 at':D7 d b=some k
 bs:d'.bs=d.bs.set b.toNat k'
theorem U9{d:Dev}{b:Int}{k:Blk}(h:D7 d b=some k):0<=b/\ ∃hi:b.toNat<d.bs.length,d.bs[b.toNat]=k:=by
 unfold D7 at h;split at h
 ·exact⟨by assumption,Dw0.1 h⟩
 ·cases h
section
variable {d d':Dev} {b:Int} {k k':Blk}
theorem A71.own(t:A71 d d' b k k'):D7 d' b=some k':=by
 obtain⟨h0,hi,-⟩:=U9 t.at';unfold D7;rw[Dq5 h0,t.bs,D94 hi]
theorem A71.ne(t:A71 d d' b k k'){x:Int}(hx:x≠b):D7 d' x=D7 d x:=by
 obtain⟨h0,hi,-⟩:=U9 t.at';unfold D7;split
 ·rw[t.bs,D96 (by omega)]
 ·rfl
theorem Br7{x e:Int}(h:U7 d x=some e):K6 d x:=by
 unfold U7 at h;cases hk:D7 d x with
 |none=>rw[hk]at h;cases h
 |some k=>
  rw[hk]at h;refine⟨k,hk,?_⟩;have h:U5 k=some e:=h;unfold U5 at h;split at h
  ·cases h
  ·rename_i hb;simpa using hb
theorem A71.head(t:A71 d d' b k k')(x:Int):U7 d' x=if x=b then U5 k' else U7 d x:=by
 unfold U7;split
 ·rename_i e;rw[e,t.own];rfl
 ·rename_i e;rw[t.ne e]
theorem A71.good(t:A71 d d' b k k')(x:Int):K6 d' x↔(x=b/\k'.bad=false)\/(x≠b/\K6 d x):=by
 unfold K6;by_cases e:x=b
 ·rw[e,t.own];simp
 ·rw[t.ne e];simp[e]
theorem A71.cost(t:A71 d d' b k k')(us:List Int)(x:Int):P9 d' us x=if x=b then(k'.wear:Int)+(if x∈us then 0 else nz k')else P9 d us x:=by
 unfold P9;by_cases e:x=b
 ·rw[Dq5 e,e,t.own];rfl
 ·rw[Dq4 e,t.ne e]
theorem Af7{us:List Int}(h:D7 d b=some k):P9 d us b=(k.wear:Int)+if b∈us then 0 else nz k:=by unfold P9;rw[h];rfl
theorem B77{us vs:List Int}{x:Int}(h:x∈us↔x∈vs):P9 d us x=P9 d vs x:=by
 unfold P9;cases D7 d x with
 |none=>rfl
 |some k=>
  simp only[Ec8,h]
theorem Bl6(us:List Int)(x:Int):O0 d x<=P9 d us x/\P9 d us x<=O0 d x+1:=by
 unfold O0 P9 nz;cases D7 d x with
 |none=>exact⟨Du5 _,by simp⟩
 |some k=>
  simp only[Ec8];split
  ·omega
  ·split<;>omega
end
abbrev fs(us:List (Int×Int)):List Int:=us.map Prod.fst
structure DI(d:Dev)(us:List (Int×Int))(s:Int):Prop where
 hd: ∀u∈us,U7 d u.1=some u.2
 fr: ∀x,x∉fs us->U7 d x=none
 srt:us.Pairwise fun u v=>u.2<v.2
 nd:(fs us).Nodup
 s0:0<=s
 inv:Bk6 (K6 d) (P9 d (fs us)) (fs us) s
def SPd(d:Dev)(n:Int):Prop:= ∀x y,K6 d x->K6 d y->O0 d x<=O0 d y+n
section
variable {d d':Dev} {b:Int} {k k':Blk} {us:List (Int×Int)} {s:Int}
theorem DI.good(h:DI d us s){x:Int}(hx:x∈fs us):K6 d x:=by
 obtain⟨u,hu,rfl⟩:=Dt4.1 hx;exact Br7 (h.hd u hu)
theorem DI.sp(h:DI d us s):SPd d (2+s):=fun x y hx hy=>by
 have h1:=h.inv.all h.s0 hx hy;have h2:=Bl6 (d:=d) (fs us) x;have h3:=Bl6 (d:=d) (fs us) y;omega
theorem Bk6.mono{good:Int->Prop}{c:Int->Int}{us:List Int}{s t:Int}(h:Bk6 good c us s)(aP:s<=t):Bk6 good c us t:=
 ⟨fun u hu f hf hn=>by have:=h.A u hu f hf hn;omega,fun f g hf hn hg hm=>by have:=h.D f g hf hn hg hm;omega,h.B.imp fun{a b} eQ=>by omega⟩
theorem DI.mono(h:DI d us s){t:Int}(aP:s<=t):DI d us t:=⟨h.hd,h.fr,h.srt,h.nd,by have:=h.s0;omega,h.inv.mono aP⟩
theorem DI.congr(h:DI d us s)(hb:d'.bs=d.bs):DI d' us s:=by
 have e:D7 d'=D7 d:=by funext x;unfold D7;rw[hb]
 have e1:U7 d'=U7 d:=by funext x;unfold U7;rw[e]
 have e2:K6 d'=K6 d:=by funext x;unfold K6;rw[e]
 have e3:P9 d'=P9 d:=by funext u x;unfold P9;rw[e]
 exact⟨by rw[e1];exact h.hd,by rw[e1];exact h.fr,h.srt,h.nd,h.s0,by rw[e2,e3];exact h.inv⟩
theorem SPd.congr{n:Int}(h:SPd d n)(hb:d'.bs=d.bs):SPd d' n:=by
 have e:D7 d'=D7 d:=by funext x;unfold D7;rw[hb]
 have e2:K6 d'=K6 d:=by funext x;unfold K6;rw[e]
 have e3:O0 d'=O0 d:=by funext x;unfold O0;rw[e]
 unfold SPd;rw[e2,e3];exact h
theorem SPd.set{n:Int}(h:SPd d n)(t:A71 d d' b k k')(hw:k'.wear=k.wear)(hb:k'.bad=k.bad):SPd d' n:=by
 have hg: ∀x,K6 d' x->K6 d x:=fun x hx=>by
  rcases(t.good x).1 hx with⟨rfl,h2⟩|⟨_,h2⟩
  ·exact⟨k,t.at',by rw[<-hb];exact h2⟩
  ·exact h2
 have he: ∀x,O0 d' x=O0 d x:=fun x=>by
  unfold O0;by_cases e:x=b
  ·rw[e,t.own,t.at'];simp[hw]
  ·rw[t.ne e]
 intro x y hx hy;rw[he,he];exact h x y (hg x hx) (hg y hy)
theorem DI.frame(h:DI d us s)(t:A71 d d' b k k')(hw:k'.wear=k.wear)(hb:k'.bad=k.bad)(hh:U5 k'=U5 k)(hn:b∈fs us):DI d' us s:=by
 have e1: ∀x,U7 d' x=U7 d x:=fun x=>by
  rw[t.head];split
  ·rename_i e;rw[e,hh];unfold U7;rw[t.at'];rfl
  ·rfl
 have hg: ∀x,K6 d' x↔K6 d x:=fun x=>by
  rw[t.good];by_cases e:x=b
  ·simp only[e,hb,true_and,ne_eq,not_true_eq_false,false_and,or_false];exact⟨fun q=>⟨k,t.at',q⟩,fun⟨k2,q1,q2⟩=>by rw[t.at']at q1;rw[Dq9 q1];exact q2⟩
  ·simp[e]
 refine⟨fun u hu=>by rw[e1];exact h.hd u hu,fun x hx=>by rw[e1];exact h.fr x hx,h.srt,h.nd,h.s0,h.inv.congr (fun x hx=>⟨(hg x).1 hx,?_⟩) fun u hu=>(hg u).2 (h.good hu)⟩;rw[t.cost];split
 ·rename_i e;rw[e,Af7 t.at',Dq5 hn,Dq5 hn,hw]
 ·rfl
theorem DI.drop{u:Int×Int}(h:DI d (u::us) s)(t:A71 d d' u.1 k k')(hh:U5 k'=none)(ho:(k'.wear:Int)+nz k'=k.wear+1):DI d' us s:=by
 have bV:u.1∉fs us/\(fs us).Nodup:=Dv9.1 h.nd;have aE: ∀x∈fs us,x≠u.1:=fun x hx e=>bV.1 (e▸hx);refine⟨fun v hv=>?_,fun x hx=>?_,(Dy6.1 h.srt).2,bV.2,h.s0,?_⟩
 ·rw[t.head,Dq4 (aE v.1 (Du6 hv))];exact h.hd v (Dr6 _ hv)
 ·rw[t.head];split
  ·exact hh
  ·rename_i e;exact h.fr x (by simp only[fs,Ds3,Dt5,Du4];exact⟨e,hx⟩)
 ·refine Bk6.drop (o:=u.1) (good:=K6 d) (c:=P9 d (fs (u::us))) h.inv h.s0 (fun x hx=>?_) ?_ (fun x hx vW=>?_) bV.1 fun v hv=>h.good (Dr6 _ hv)
  ·rcases(t.good x).1 hx with⟨e,-⟩|⟨-,h2⟩
   ·rw[e];exact h.good (by simp[fs])
   ·exact h2
  ·rw[t.cost,Dq5 rfl,Dq4 bV.1,Af7 t.at',Dq5 (by simp[fs]),ho];simp
  ·rw[t.cost,Dq4 vW];exact B77 (by simp[fs,vW])
theorem DI.wash(h:DI d us s)(t:A71 d d' b k k')(hb:b∉fs us)(bC:k.bad=false)(hh:U5 k'=none)(hc:(k'.wear:Int)+nz k'=k.wear+nz k):
  DI d' us s/\ ∀x,K6 d' x->K6 d x/\P9 d' (fs us) x=P9 d (fs us) x:=by
 have aE: ∀x∈fs us,x≠b:=fun x hx e=>hb (e▸hx);have key: ∀x,K6 d' x->K6 d x/\P9 d' (fs us) x=P9 d (fs us) x:=fun x hx=>by
  rcases(t.good x).1 hx with⟨e,-⟩|⟨h1,h2⟩
  ·rw[e];refine⟨⟨k,t.at',bC⟩,?_⟩;rw[t.cost,Dq5 rfl,Dq4 hb,Af7 t.at',Dq4 hb,hc]
  ·exact⟨h2,by rw[t.cost,Dq4 h1]⟩
 refine⟨⟨fun v hv=>?_,fun x hx=>?_,h.srt,h.nd,h.s0,h.inv.congr key fun u hu=>(t.good u).2 (.inr ⟨aE u hu,h.good hu⟩)⟩,key⟩
 ·rw[t.head,Dq4 (aE v.1 (Du6 hv))];exact h.hd v hv
 ·rw[t.head];split
  ·exact hh
  ·exact h.fr x hx
theorem DI.opn(h:DI d us s)(t:A71 d d' b k k')(hb:b∉fs us)(bC:k.bad=false)(hn:k.next=0)(hw:k'.wear=k.wear)(cO:k'.bad=k.bad){ep:Int}(hh:U5 k'=some ep)(bX: ∀u∈us,u.2<ep)
  (hm: ∀f,K6 d f->f∉fs us->P9 d (fs us) b<=P9 d (fs us) f):DI d' (us++[(b,ep)]) s:=by
 have aE: ∀x∈fs us,x≠b:=fun x hx e=>hb (e▸hx);have gF:fs (us++[(b,ep)])=fs us++[b]:=by simp[fs]
 have hg: ∀x,K6 d x->K6 d' x:=fun x hx=>by
  rw[t.good];by_cases e:x=b
  ·exact .inl ⟨e,cO.trans bC⟩
  ·exact .inr ⟨e,hx⟩
 refine⟨fun v hv=>?_,fun x hx=>?_,?_,?_,h.s0,?_⟩
 ·rcases Dr5.1 hv with hv|hv
  ·rw[t.head,Dq4 (aE v.1 (Du6 hv))];exact h.hd v hv
  ·rw[Dr2.1 hv,t.head,Dq5 rfl];exact hh
 ·rw[gF,Dr5,Du4]at hx;rw[t.head,Dq4 (by simpa using hx.2)];exact h.fr x hx.1
 ·rw[Eg0];exact⟨h.srt,by simp,fun a ha c hc=>by rw[Dr2.1 hc];exact bX a ha⟩
 ·rw[gF,Dx3];exact⟨h.nd,by simp,fun x hx y hy=>by rw[Dr2.1 hy];exact aE x hx⟩
 ·rw[gF];have h1:=h.inv.open h.s0 ⟨k,t.at',bC⟩ hb hm;refine h1.congr (fun x hx=>?_) fun u hu=>?_
  ·rcases(t.good x).1 hx with⟨e,-⟩|⟨e,h2⟩
   ·rw[e];refine⟨⟨k,t.at',bC⟩,?_⟩;rw[t.cost,Dq5 rfl,Dq5 (by simp),Af7 t.at',Dq4 hb,hw];unfold nz;simp[hn]
   ·refine⟨h2,?_⟩;rw[t.cost,Dq4 e];exact B77 (by simp[e])
  ·rcases Dr5.1 hu with hu|hu
   ·exact hg u (h.good hu)
   ·rw[Dr2.1 hu];exact hg b ⟨k,t.at',bC⟩
theorem DI.spoil(h:DI d us s)(t:A71 d d' b k k')(hb:b∉fs us)(bC:k.bad=false)(hn:k.next=0)(hw:k'.wear=k.wear)(cO:k'.bad=k.bad)(hh:U5 k'=none)(lO:k'.next≠0):DI d' us (s+1):=by
 have aE: ∀x∈fs us,x≠b:=fun x hx e=>hb (e▸hx);refine⟨fun v hv=>?_,fun x hx=>?_,h.srt,h.nd,by have:=h.s0;omega,?_⟩
 ·rw[t.head,Dq4 (aE v.1 (Du6 hv))];exact h.hd v hv
 ·rw[t.head];split
  ·exact hh
  ·exact h.fr x hx
 ·have h1:=h.inv.spoil (c':=P9 d' (fs us)) h.s0 ⟨k,t.at',bC⟩ hb (by
   rw[t.cost,Dq5 rfl,Dq4 hb,Af7 t.at',Dq4 hb,hw];unfold nz;simp[hn,lO]) (fun x hx mM=>by rw[t.cost,Dq4 mM]) fun u hu=>h.good hu
  refine h1.congr (fun x hx=>⟨?_,rfl⟩) fun u hu=>(t.good u).2 (.inr ⟨aE u hu,h.good hu⟩);rcases(t.good x).1 hx with⟨e,-⟩|⟨-,h2⟩
  ·rw[e];exact⟨k,t.at',bC⟩
  ·exact h2
end
def Fx(us:List (Int×Int))(d d':Dev):Prop:= ∀x,x∉fs us->D7 d' x=D7 d x
theorem Be6(d:Dev)(b p:Int)(data:List UInt8):((prog d b p data).2=d/\(prog d b p data).1≠0)\/
  ∃k img,A71 d (prog d b p data).2 b k (k.put p.toNat img)/\k.bad=false/\(k.next:Int)=p/\(((prog d b p data).1=0/\img=data)\/((prog d b p data).1=11/\img=N0 d data)):=by
 unfold prog;split
 ·rename_i h;exact .inl ⟨rfl,h⟩
 ·rename_i hf;split
  ·exact .inl ⟨rfl,show(2:Int)≠0 by decide⟩
  ·split
   ·exact .inl ⟨rfl,show(2:Int)≠0 by decide⟩
   ·rename_i k hk;split
    ·exact .inl ⟨rfl,show(10:Int)≠0 by decide⟩
    ·rename_i hb;split
     ·exact .inl ⟨rfl,show(9:Int)≠0 by decide⟩
     ·rename_i hn;right;have h0:=(Ad0 (Dt6.1 hf)).2.1;have fF:D7 d b=some k:=by unfold D7;rw[Dq5 h0];exact hk
      have hc:=Bx5 d b.toNat p.toNat k data;have iI:(k.next:Int)=p:=Dt6.1 hn;unfold Ap3 at hc⊢;split
      ·rename_i ht;rw[Dq5 ht]at hc;exact⟨k,N0 d data,⟨hc,fF,rfl⟩,by simpa using hb,iI,.inr ⟨rfl,rfl⟩⟩
      ·rename_i ht;rw[Dq4 ht]at hc;exact⟨k,data,⟨hc,fF,rfl⟩,by simpa using hb,iI,.inl ⟨rfl,rfl⟩⟩
theorem C13{k:Blk}{p:Nat}(hp:1<=p)(img:List UInt8):U5 (k.put p img)=U5 k:=by
 unfold U5 Blk.put;simp only;rw[Dt0,D96 (by omega),Dt0]
section
variable {d:Dev} {us:List (Int×Int)} {s:Int} {b:Int}
theorem DI.pg(h:DI d us s)(hb:b∈fs us){p:Int}(hp:1<=p)(data:List UInt8):DI (prog d b p data).2 us s/\Fx us d (prog d b p data).2:=by
 rcases Be6 d b p data with⟨h1,-⟩|⟨k,img,t,h1,h2,-⟩
 ·rw[h1];exact⟨h,fun x _=>rfl⟩
 ·exact⟨h.frame t rfl rfl (C13 (by omega) img) hb,fun x hx=>t.ne fun e=>hx (e▸hb)⟩
theorem DI.pgI(h:DI d us s)(hb:b∈fs us)(hd:Hd)(hp:1<=hd.2.2.2.2.1)(p:List UInt8):DI (M9 d b hd p).2 us s/\Fx us d (M9 d b hd p).2:=by
 unfold M9;split
 ·exact⟨h,fun x _=>rfl⟩
 ·exact h.pg hb hp _
theorem DI.apG(ep at' kind n:Int)(ha:1<=at'): ∀(l:List (List UInt8)) {d:Dev} (i:Nat),DI d us s->b∈fs us->DI (W8 b ep at' kind n d i l).2 us s/\Fx us d (W8 b ep at' kind n d i l).2
 |[],d,i,h,hb=>⟨h,fun x _=>rfl⟩
 |p::r,d,i,h,hb=>by
  obtain⟨h1,h2⟩:=h.pgI hb (kind,i,n,ep,at'+i,()) (by simp only;omega) p;unfold W8;split
  ·obtain⟨h3,h4⟩:=DI.apG ep at' kind n ha r (i+1) h1 hb;exact⟨h3,fun x hx=>(h4 x hx).trans (h2 x hx)⟩
  ·exact⟨h1,h2⟩
theorem DI.app(h:DI d us s)(hb:b∈fs us)(ep:Int){at':Int}(ha:1<=at')(kind:Int)(l:List (List UInt8)):DI (Ah3 d b ep at' kind l).2 us s/\Fx us d (Ah3 d b ep at' kind l).2:=by
 unfold Ah3;split
 ·exact⟨h,fun x _=>rfl⟩
 ·exact DI.apG ep at' kind _ ha l 0 h hb
theorem DI.sealD(h:DI d us s)(hb:b∈fs us)(ep:Int){at':Int}(ha:1<=at')(l:List It):DI (T2 d b ep at' l).2 us s/\Fx us d (T2 d b ep at' l).2:=by
 unfold T2;split
 ·exact h.pgI hb _ ha _
 ·exact⟨h,fun x _=>rfl⟩
theorem DI.opn2(h:DI d us s)(dv:P6 d){k:Blk}(hk:D7 d b=some k)(bC:k.bad=false)(hb:b∉fs us){ep:Int}(bX: ∀u∈us,u.2<ep)(hm: ∀f,K6 d f->f∉fs us->P9 d (fs us) b<=P9 d (fs us) f):
  ((T3 d b ep).2=d/\(T3 d b ep).1≠0)\/((T3 d b ep).1=0/\DI (T3 d b ep).2 (us++[(b,ep)]) s/\ ∀x,x≠b->D7 (T3 d b ep).2 x=D7 d x)\/
  ((T3 d b ep).1=11/\(∃us',DI (T3 d b ep).2 us' (s+1)/\ ∀u∈us',u.2<=ep)/\ ∀n,SPd d n->SPd (T3 d b ep).2 n):=by
 unfold T3 M9;rcases Au0 (1,0,1,ep,0,()) [] (d.c.S:Int)with⟨h0,S,hS,h1,he,-,gL⟩|⟨h0,-⟩
 ·rw[Dq4 (by simpa using h0),gL];obtain rfl:d.c.S=S:=by omega
  have he:Y3 (hdI ep)=0:=he;dsimp only;rcases Be6 d b 0 (S7 (1,0,1,ep,0,()) [] d.c.S)with hu|⟨k2,img,t,h2,h3,hc⟩
  ·exact .inl hu
  ·right;obtain rfl:k2=k:=by have:=t.at';rw[hk]at this;exact(Dq9 this).symm
   have hn:k2.next=0:=by omega
   have aW:=(dv.pg k2 (by obtain⟨_,hi,e⟩:=U9 hk;rw[<-e];exact Dr7 hi)).1;have hP:=dv.c.p;have jF:U5 (k2.put (0:Int).toNat img)=hdE img:=by
    unfold U5 Blk.put;simp only;rw[Dq4 (by rw[h2];decide),Dt0];rw[show(0:Int).toNat=0 from rfl,D94 (by omega)];rfl
   rcases hc with⟨e1,rfl⟩|⟨e1,rfl⟩
   ·left;exact⟨e1,h.opn t hb h2 hn rfl rfl (by rw[jF];exact Cp9 he h1) bX hm,fun x hx=>t.ne hx⟩
   ·right;refine⟨e1,?_,fun n lO=>lO.set t rfl rfl⟩;unfold N0 at jF t;rcases C54 he h1 (n:=R8 d.keep d.c.S) (by unfold R8;omega)with hz|hz
    ·exact⟨us,h.spoil t hb h2 hn rfl rfl (jF.trans hz) (by unfold Blk.put;simp),fun u hu=>D49 (bX u hu)⟩
    ·exact⟨us++[(b,ep)],(h.opn t hb h2 hn rfl rfl (jF.trans hz) bX hm).mono (by omega),fun u hu=>by
      rcases Dr5.1 hu with hu|hu
      ·exact D49 (bX u hu)
      ·rw[Dr2.1 hu];exact Du5 _⟩
 ·rw[Dq5 h0];exact .inl ⟨rfl,h0⟩
theorem Ai5{k:Blk}(dv:P6 d)(aK:d.down=false)(hk:D7 d b=some k)(bC:k.bad=false): ∃k',A71 d (E7 d b).2 b k k'/\(((E7 d b).1=11/\ ∃n,k'=k.torn d.c n)\/((E7 d b).1≠11/\k'=k.fresh d.c/\(E7 d b).1=if k'.bad=true then 10 else 0)):=by
 obtain⟨h0,hi,e⟩:=U9 hk;have hP:=dv.c.p;have hf:G9 d b 0=0:=by
  unfold G9;rw[Dq4 (by rw[aK];decide),Dq4 (by omega),Dq4 (by omega)]
 have hc:=Az0 d b;unfold E7 at hc⊢;rw[Dq4 (by simpa using hf),Dr9 hi,e]at hc⊢;dsimp only at hc⊢;rw[Dq4 (by rw[bC];decide)]at hc⊢;unfold Ai6 at hc⊢;split
 ·rename_i ht;rw[Dq5 ht]at hc;exact⟨_,⟨hc,hk,rfl⟩,.inl ⟨rfl,_,rfl⟩⟩
 ·rename_i ht;rw[Dq4 ht]at hc;refine⟨_,⟨hc,hk,rfl⟩,.inr ⟨?_,rfl,?_⟩⟩
  ·simp only;split<;>decide
  ·unfold Blk.fresh;simp only[Dy0]
theorem Ba9{c:Cfg}(hP:4<=c.P)(k:Blk):U5 (k.fresh c)=none/\nz (k.fresh c)=0/\(k.fresh c).wear=k.wear+1:=by
 refine⟨?_,by unfold nz Blk.fresh;simp,rfl⟩;unfold U5 Blk.fresh;split
 ·rfl
 ·simp only;rw[Dt0,D20,Dq5 (by omega)];exact Bh7 _
theorem Bm2{c:Cfg}(hP:4<=c.P)(k:Blk)(n:Nat):(U5 (k.torn c n)=none\/U5 (k.torn c n)=U5 k)/\nz (k.torn c n)=1/\(k.torn c n).wear=k.wear/\(k.torn c n).bad=k.bad:=by
 refine⟨?_,by unfold nz Blk.torn;simp only;rw[Dq5 (by omega)],rfl,rfl⟩;cases n with
 |zero=>right;unfold U5 Blk.torn;simp
 |succ n=>
  left;unfold U5 Blk.torn;split
  ·rfl
  ·simp only[Dz3,Dt7,Eg2];exact Bh7 _
end
theorem Bn8{d:Dev}(ok:P6 d)(aK:d.down=false){b:Nat}{k:Blk}(hk:d.bs[b]?=some k):(Bn9 d b).map (fun h=>h.2.1)=U5 k:=by
 have hP:=ok.c.p;have hi:=(Dw0.1 hk).1;have hb:b<d.c.B:=by rw[<-ok.len];exact hi
 have hf: ∀p:Nat,p<d.c.P->G9 d b p=0:=fun p hp=>by
  unfold G9;rw[Dq4 (by rw[aK];decide),Dq4 (by omega),Dq4 (by omega)]
 obtain⟨ps,eC⟩: ∃ps,ps=(N8 d b).1:=⟨_,rfl⟩;have hl:(N8 d b).1=(List.range d.c.P).map fun(p:Nat)=>(H2 d b (p:Int)).1:=by
  unfold N8;rw[Dq4 (by simpa using hf 0 (by omega))]
 have h0:ps[0]?=some (if k.bad=true then blk d.c.S else k.pages.getD 0 []):=by
  rw[eC,hl,Du3,Ee8 (by omega)];simp only[D04];unfold H2;have:=hf 0 (by omega);rw[Dq4 (by simpa using this),show((b:Int)).toNat=b by omega,hk];dsimp only;split<;>rfl
 have jF:U5 k=hdE (if k.bad=true then blk d.c.S else k.pages.getD 0 []):=by
  unfold U5;split
  ·exact(Bh7 _).symm
  ·rfl
 rw[jF];generalize (if k.bad=true then blk d.c.S else k.pages.getD 0 [])=p0 at h0;have aE:ps≠[]:=fun e=>by rw[e]at h0;cases h0
 have hg:ps.getD 0 []=p0:=by rw[Dt0,h0];rfl
 have bX:epR ps=(E0 p0).1.2.2.2.1:=by unfold epR;rw[hg]
 have kX:Ab5 ps 0 (1,0,1,epR ps,0,())=if(E0 p0).2.2=0/\(E0 p0).1=hdI (epR ps)then some (E0 p0).2.1 else none:=by
  unfold Ab5;rw[Dq5 (by omega),show(0:Int).toNat=0 from rfl,h0];rfl
 have gQ:(Q3 ps).2=(hdE p0).isSome/\((hdE p0).isSome=true->some (Q3 ps).1.1=hdE p0):=by
  by_cases hc:(E0 p0).2.2=0/\(E0 p0).1=hdI (E0 p0).1.2.2.2.1
  ·by_cases cK:(E0 p0).2.1=[]
   ·have e1:hdE p0=some (E0 p0).1.2.2.2.1:=by unfold hdE;exact Dq5 ⟨hc.1,hc.2,cK⟩
    rw[e1];unfold Q3;rw[Dq4 aE,kX,bX,Dq5 hc,cK];dsimp only;split<;>exact⟨rfl,fun _=>rfl⟩
   ·have e1:hdE p0=none:=by unfold hdE;exact Dq4 fun q=>cK q.2.2
    rw[e1];unfold Q3;rw[Dq4 aE,kX,bX,Dq5 hc];cases hq:(E0 p0).2.1 with
    |nil=>exact absurd hq cK
    |cons x r=>exact⟨rfl,fun h=>by cases h⟩
  ·have e1:hdE p0=none:=by unfold hdE;exact Dq4 fun q=>hc ⟨q.1,q.2.1⟩
   rw[e1];unfold Q3;rw[Dq4 aE,kX,bX,Dq4 hc];exact⟨rfl,fun h=>by cases h⟩
 unfold Bn9;rw[<-eC];cases hq:hdE p0 with
 |none=>
  rw[hq]at gQ;rw[Dq4 (by rw[gQ.1];decide)];rfl
 |some e=>
  rw[hq]at gQ;rw[Dq5 (by rw[gQ.1];rfl)];exact gQ.2 rfl
theorem Dm6{d:Dev}{us:List (Int×Int)}{s:Int}(h:DI d us s)(ok:P6 d)(aK:d.down=false):(H0 d).map (fun x=>(x.1,x.2.1))=us:=by
 have kY: ∀(b:Nat) x,Bn9 d b=some x->b<d.c.B->U7 d x.1=some x.2.1:=fun b x hx hb=>by
  have h1:=(Av5 hx).1;have hi:b<d.bs.length:=by rw[ok.len];exact hb
  have h2:=Bn8 ok aK (Dr9 hi);rw[hx]at h2;unfold U7 D7;rw[h1,Dq5 (by omega),Dr0,Dr9 hi];exact h2.symm
 have dC: ∀x∈H0 d,(x.1,x.2.1)∈us:=fun x hx=>by
  obtain⟨b,hb,hr⟩:=Ap0 ((O7 epK (A69 d d.c.B)).subset hx);have h1:=kY b x hr hb;have h2:x.1∈fs us:=Dy3 fun hn=>by rw[h.fr _ hn]at h1;cases h1
  obtain⟨u,hu,he⟩:=Dt4.1 h2;have h3:=h.hd u hu;rw[he,h1]at h3;have:(x.1,x.2.1)=u:=by rw[<-he,Dq9 h3]
  rw[this];exact hu
 have xZ: ∀u∈us,u∈(H0 d).map fun x=>(x.1,x.2.1):=fun u hu=>by
  have h1:=h.hd u hu;obtain⟨k,hk,-⟩:=Br7 h1;obtain⟨h0,hi,-⟩:=U9 hk;have h2:=Bn8 ok aK (Dr9 hi);have h3:U5 d.bs[u.1.toNat]=some u.2:=by
   unfold U7 D7 at h1;rw[Dq5 h0,Dr9 hi]at h1;exact h1
  rw[h3]at h2;cases hr:Bn9 d u.1.toNat with
  |none=>rw[hr]at h2;cases h2
  |some x=>
   rw[hr]at h2;have h4:=(Av5 hr).1;refine Dt4.2 ⟨x,(O7 epK (A69 d d.c.B)).symm.subset ?_,?_⟩
   ·unfold A69;exact D73.2 ⟨u.1.toNat,Dy9.2 (by rw[<-ok.len];exact hi),hr⟩
   ·have h5:x.2.1=u.2:=Dq9 h2;rw[h4,h5,D17 h0]
 have bV:((H0 d).map fun x=>(x.1,x.2.1)).Nodup:=by
  have h1:=Al1 d;unfold A63 at h1;refine Eg3 Prod.fst (fun a b eQ e=>eQ (congrArg Prod.fst e)) (S:=fun a b=>a≠b) ?_;rw[Dv2];exact h1
 have yD:us.Nodup:=Eg3 Prod.fst (fun a b eQ e=>eQ (congrArg Prod.fst e)) (S:=fun a b=>a≠b) h.nd;have hp:((H0 d).map fun x=>(x.1,x.2.1)).Perm us:=(Ed4 bV yD).2 fun u=>⟨fun hu=>by
  obtain⟨x,hx,rfl⟩:=Dt4.1 hu;exact dC x hx,xZ u⟩
 refine List.Perm.eq_of_pairwise (le:=fun a b=>a.2<=b.2) (fun a b ha hb h1 h2=>?_) ?_ (h.srt.imp fun eQ=>D49 eQ) hp
 ·have hs:=h.srt;have:=Cj5 (R:=fun u v:Int×Int=>u.2=v.2->u=v) (fun a b eQ e=>(eQ e.symm).symm) (fun a _=>rfl) (hs.imp fun{u v} xB e=>absurd e (Int.ne_of_lt xB)) a (hp.subset ha) b hb;exact this (Int.le_antisymm h1 h2)
 ·rw[List.pairwise_map];exact Bz9 d
end Go.Proofs.YtbaoieipijmakaaGreatDoor
