/-
  It is proved what the functions that the law StoreServes reaches compute, part 2. There are no further conditions than those that each theorem names.
-/
import Derived.Test.YtbaoieipijmakaaGreatDoorMStoreServes1
set_option linter.unusedVariables false
set_option linter.unusedSimpArgs false
namespace Go.Proofs.YtbaoieipijmakaaGreatDoor
open Go.HL
def Ab5(ps:List (List UInt8))(at':Int)(h:Hd):Option (List UInt8):=
 if 0<=at'/\at'<16 then match ps[at'.toNat]? with
  |some b=>if(E0 b).2.2=0/\(E0 b).1=h then some (E0 b).2.1 else none
  |none=>none
 else none
def Bh0(ps:List (List UInt8)):Nat->Nat
 |0=>0
 |n+1=>if P3 (ps.getD (n+1) [])then Bh0 ps n else n+1
def M6(ps:List (List UInt8)):Nat:=Bh0 ps (min ps.length 16-1)
theorem Bg9(ps:List (List UInt8)): ∀n,Bh0 ps n<=n
 |0=>Dq6 _
 |n+1=>by
  unfold Bh0;split
  ·exact Nat.le_succ_of_le (Bg9 ps n)
  ·exact Dq6 _
def G8(p:List UInt8)(i:Nat):It:=(((p.getD (i*3) 0).toNat:Int),((p.getD (i*3+1) 0).toNat:Int),((p.getD (i*3+2) 0).toNat:Int),())
def Ag8(p:List UInt8):Nat->Nat->Int->Option (List It×Int)
 |0,_,nx=>some ([],nx)
 |n+1,i,nx=>if((G8 p i).1=2\/(G8 p i).1=3)/\(G8 p i).2.2.1≠0/\(G8 p i).2.1=nx then(Ag8 p n (i+1) (nx+(G8 p i).2.2.1)).map fun y=>(G8 p i::y.1,y.2)else none
def Ad6(p:List UInt8)(last:Nat):Option (List It):=
 if p.length%3≠0 then none else match Ag8 p (p.length/3) 0 1 with
 |some y=>if y.2=last then some y.1 else none
 |none=>none
def O1(ps:List (List UInt8))(ep:Int)(at':Nat):Option It:=
 match ps[at']? with
 |some b=>if(E0 b).2.2=0/\((E0 b).1.1=2\/(E0 b).1.1=3)then
   if(List.range (E0 b).1.2.2.1.toNat).all (fun i=>(Ab5 ps ((at':Int)+i) ((E0 b).1.1,i,(E0 b).1.2.2.1,ep,(at':Int)+i,())).isSome)=true then some ((E0 b).1.1,at',(E0 b).1.2.2.1,())else none
  else none
 |none=>none
def Af5(f:Nat->Option It)(last:Nat):Nat->Nat->List It
 |0,_=>[]
 |k+1,p=>if p<=last then match f p with
  |some x=>x::Af5 f last k (p+x.2.2.1.toNat)
  |none=>Af5 f last k (p+1)
  else[]
def A74(ps:List (List UInt8))(ep:Int):Option (List It):=(Ab5 ps (M6 ps) (4,0,1,ep,M6 ps,())).bind fun p=>Ad6 p (M6 ps)
def epR(ps:List (List UInt8)):Int:=(E0 (ps.getD 0 [])).1.2.2.2.1
def Q3(ps:List (List UInt8)):(Int×Bool×List It)×Bool:=
 if ps=[]then((0,false,[]),false)else
 match Ab5 ps 0 (1,0,1,epR ps,0,())with
 |some []=>match(if M6 ps>0 then A74 ps (epR ps)else none)with
  |some l=>((epR ps,true,l),true)
  |none=>((epR ps,false,Af5 (O1 ps (epR ps)) (M6 ps) 17 1),true)
 |_=>((0,false,[]),false)
theorem B43{b:List UInt8}(h:(E0 b).2.2=0):Y3 (E0 b).1=0:=by
 unfold E0 at h⊢;split at h
 ·exact absurd h (by simp)
 ·rename_i h1;split at h
  ·exact absurd h (by simp)
  ·rename_i h2;split at h
   ·exact absurd h (by simp)
   ·rename_i h3;split at h
    ·exact absurd h (by simp)
    ·rename_i h4;rw[Dq4 h1,Dq4 h2,Dq4 h3,Dq4 h4];simp only;by_cases he:Y3 (hOf b)=0
     ·exact he
     ·exact absurd ((Ac0 b).2 (.inr (.inr (.inr (.inl he))))) h4
theorem Ay2(b:List UInt8):(E0 b).2.1.length<=b.length:=by
 unfold E0;split
 ·exact Dv6 _
 ·split
  ·exact Dv6 _
  ·split
   ·exact Dv6 _
   ·split
    ·exact Dv6 _
    ·show(Ad9 b).length<=b.length;unfold Ad9;rw[Ds0,Ds6];omega
abbrev tIm:TypeId:=373
abbrev eIm:TypeId:=377
theorem elemIm:V4 PP tIm eIm 7 72 [.i 0,.i 0,.i 0,.i 0,.i 0,.slice none 0 0,.b false]:=N3 (by kernel_rfl) (by kernel_rfl) rfl (by decide) (by decide)
theorem srcIm:Ax5 PP tIm:=.inl ⟨eIm,by kernel_rfl⟩
structure IM where
 h:Hd
 g:PG
 fine:Bool
def IM.enc(x:IM):List Value:=[.i x.h.1,.i x.h.2.1,.i x.h.2.2.1,.i x.h.2.2.2.1,.i x.h.2.2.2.2.1,x.g.val,.b x.fine]
theorem IM.enc_len(x:IM):x.enc.length=7:=rfl
def IM.dat(x:IM):Hd×List UInt8×Bool:=(x.h,x.g.l,x.fine)
def imOf(b:List UInt8):Hd×List UInt8×Bool:=((E0 b).1,(E0 b).2.1,decide ((E0 b).2.2=0))
def Y2(l:List IM):A4:=l.flatMap fun x=>x.g.seg
theorem Bh3(a b:List IM):Y2 (a++b)=Y2 a++Y2 b:=Dt3
theorem Cc1(a:IM):Y2 [a]=a.g.seg:=by simp[Y2]
def sO(m:Nat)(sv:SlV)(ep last:Int):Nat×Obj:=(m,.cells #[.slice sv.a sv.len sv.cap,.i ep,.i last] 375)
structure SHs(ps:List (List UInt8))(sv:SlV)(seg:A4)(ims:List IM):Prop where
 own:Own sv 7 eIm (ims.flatMap IM.enc) seg
 ok: ∀x∈ims,x.g.Ok
 dat:ims.map IM.dat=(ps.take 16).map imOf
 len: ∀b∈ps,b.length<=1000000
def SH(m:Nat)(ps:List (List UInt8))(ep:Int)(last:Nat)(A:A4):Prop:= ∃sv seg ims,A=sO m sv ep last::(seg++Y2 ims)/\SHs ps sv seg ims
section
variable {L:A4} {m:Nat} {sv:SlV} {ep last:Int} {ps:List (List UInt8)} {seg:A4} {ims:List IM}
theorem Da1(h:sO m sv ep last∈L):C9 m.z [.slice sv.a sv.len sv.cap] L:=ldB (by unfold sO at h;exact h) rfl
theorem s_ep(h:sO m sv ep last∈L):C9 ⟨m,1,none⟩ [.i ep] L:=ldB (by unfold sO at h;exact h) rfl
theorem s_la(h:sO m sv ep last∈L):C9 ⟨m,2,none⟩ [.i last] L:=ldB (by unfold sO at h;exact h) rfl
theorem SHs.ilen(h:SHs ps sv seg ims):ims.length=min 16 ps.length:=by
 have:=congrArg List.length h.dat
 rwa [Dr1,Dr1,Ds0]at this
theorem SHs.im(h:SHs ps sv seg ims){i:Nat}(hi:i<ims.length): ∃hp:i<ps.length,ims[i].h=(E0 ps[i]).1/\ims[i].g.l=(E0 ps[i]).2.1/\ims[i].fine=decide ((E0 ps[i]).2.2=0):=by
 have hl:=h.ilen;have hp:i<ps.length:=by omega
 refine⟨hp,?_⟩;have h1:(ims.map IM.dat)[i]?=((ps.take 16).map imOf)[i]?:=by rw[h.dat]
 rw[Du3,Du3,Dr9 hi,Ee4 (by omega),Dr9 hp]at h1;have h2:=Dq9 h1;unfold IM.dat imOf at h2;simp only[Dx0]at h2;exact h2
end
theorem undHd2:A80 PP 272=true:=by kernel_rfl
theorem neHd2{L:A4}(x y:Hd){k:ShV (.lf .bool)->HP}(hk:k (!decide (x=y)) L):
  smP PP (binOp .neq 272 (.agg (ki5 x)) (.agg (ki5 y))) (.lf .bool) k L:=by
 refine Db6 (r:=(x.1==y.1&&(x.2.1==y.2.1&&(x.2.2.1==y.2.2.1&&(x.2.2.2.1==y.2.2.2.1&&(x.2.2.2.2.1==y.2.2.2.2.1&&true)))))) undHd2 (by kernel_rfl) ?_;have e:decide (x=y)=(x.1==y.1&&(x.2.1==y.2.1&&(x.2.2.1==y.2.2.1&&(x.2.2.2.1==y.2.2.2.1&&(x.2.2.2.2.1==y.2.2.2.2.1&&true))))):=by
  obtain⟨a,b,c,d,f,⟨⟩⟩:=x;obtain⟨a',b',c',d',f',⟨⟩⟩:=y;rw[D85];simp
 rw[e]at hk;exact hk
theorem Co3(L:A4)(n:Int):Reads PP 320 #[.i n] L (.b (decide (n=2\/n=3))):=by
 refine(e320 n).r ?_;refine Ac2 (fun(h:n=2)=>.of ⟨by rw[Dt2 (.inl h)],rfl⟩) (fun(h:n≠2)=>.of ⟨?_,rfl⟩);congr 1;by_cases h3:n=3
 ·rw[h3];rfl
 ·rw[Ds7 (by omega),D54];exact h3
theorem Dl0(A:A4)(v:SlV)(l:List PV)(h:Z0 A v l)(hl:l.length<=1000000)(hb: ∀x∈l,x.2.length<=1000000):
  CallF PP 283 #[.slice v.a v.len v.cap] A fun r L'=> ∃m B,r= .p m/\L'=B++A/\SH m (l.map Prod.snd) 0 (M6 (l.map Prod.snd)) B:=by
 refine(e283 v).c ?_;have cR:=h.len;have aU:=h.sl.cap;refine C4 fun m _=>?_;have gL:Ad3 (v.len:Int) 16=((min l.length 16:Nat):Int):=by unfold Ad3;omega
 simp only[gL];refine K7 (l':=0) (h':=min l.length 16) (m':=v.cap) rfl rfl rfl (by omega) (by omega) (Dq6 _) ?_;have hs:Sl A (Q0 v ((0:Nat):Int) ((min l.length 16:Nat):Int) (v.cap:Int) 1) 1 ((l.take (min l.length 16)).map pvV):=by
  have h0:=Sl.slc (m:=v.cap) h.sl (by decide) (l:=0) (h':=min l.length 16) (by omega) (by omega) (by omega);rw[Dz2,D06,Dx4,Dt8,<-D15]at h0;exact h0
 generalize Q0 v ((0:Nat):Int) ((min l.length 16:Nat):Int) (v.cap:Int) 1=s at hs⊢;have aT:=hs.len;rw[Dr1,Ds0]at aT;have qE:((m,Obj.cells #[.slice none 0 0,.i 0,.i 0] 375):Nat×Obj)=sO m ⟨none,0,0⟩ 0 ((0:Nat):Int):=rfl;rw[qE];obtain⟨n,hn⟩: ∃n,n=min l.length 16:=⟨_,rfl⟩;have aW:(l.map Prod.snd).length=l.length:=Dr1 _;refine G7 (fun z' z L'=> ∃(i last:Nat) (sv:SlV) (seg:A4) (ims:List IM) (J X Y:A4),i<=n/\z'=n-i/\z=((i:Int),())/\L'=X++sO m sv 0 last::(seg++Y)/\(X++Y).Perm (Y2 ims++(J++A))/\Own sv 7 eIm (ims.flatMap IM.enc) seg/\(∀x∈ims,x.g.Ok)/\ims.map IM.dat=((l.map Prod.snd).take i).map imOf/\last=Bh0 (l.map Prod.snd) (i-1)) n
  ⟨0,0,⟨none,0,0⟩,[],[],[],[],A,by omega,by omega,rfl,rfl,Dq8 _,F6,by simp,rfl,rfl⟩ ?_
 rintro z' z _ ⟨i,last,sv,seg,ims,J,X,Y,hi,rfl,rfl,rfl,hp,own,aA,bL,eS⟩;have aV: ∀x∈A,x∈X++sO m sv 0 last::(seg++Y):=by
  intro x hx;have h5:x∈X++Y:=(hp.mem_iff (a:=x)).2 (by simp[hx]);have h6:x∈X\/x∈Y:=by simpa using h5
  rcases h6 with h6|h6<;>simp[h6]
 have iJ:ims.length=i:=by
  have:=congrArg List.length bL;rw[Dr1,Dr1,Ds0]at this;omega
 have wY:=own.sl.els_len IM.enc_len (by decide);refine C0 (fun(hO:(i:Int)<(s.len:Int))=>?_) (fun(aS: ¬(i:Int)<(s.len:Int))=>?_)
 ·have hJ:i<l.length:=by omega
  obtain⟨a,ha,cD⟩:=hs.at' (i:=i) (by omega) (by decide);have yL:C9 (a.add ((i:Int).toNat*1)) [pvV l[i]] A:=by
   rw[Dr0,Dt8];exact cD.one i (by rw[Du3,Ee4 (by omega),Dr9 hJ];rfl)
  have dq:=h.val _ (Dr7 hJ);have dD:=hb _ (Dr7 hJ);refine A5 ha (D9 (show(0:Int)<=(i:Int) by omega) hO (A6 l[i].1 (yL.mono aV) ?_));refine K1 [] [] (A28 (X++sO m sv 0 last::(seg++Y)) l[i].1 l[i].2 (Sl.mono dq aV) dD) (by simp) ?_;rintro _ _-⟨s2,sg2,rfl,rfl,own2⟩;rw[Ds1,Dr3];refine⟨((E0 l[i].2).1,s2,(E0 l[i].2).2.2,()),rfl,C4 fun n2 _=>?_⟩;refine E4 (n:=n2) (off:=0) (c:=#[.i 0,.i 0,.i 0,.i 0,.i 0]) (T:=272) (fz:=(0,0)) [] _ rfl rfl (by simp) (.inl (Dq6 _)) #[.i (E0 l[i].2).1.1,.i (E0 l[i].2).1.2.1,.i (E0 l[i].2).1.2.2.1,.i (E0 l[i].2).1.2.2.2.1,.i (E0 l[i].2).1.2.2.2.2.1] rfl ?_;rw[Ds1];refine A6 sv (Da1 (m:=m) (ep:=0) (last:=last) (by simp)) (A6 ((E0 l[i].2).1:Hd) (ldB Dq7 rfl) (C4 fun n3 _=>?_));generalize ((n2,Obj.cells #[.i (E0 l[i].2).1.1,.i (E0 l[i].2).1.2.1,.i (E0 l[i].2).1.2.2.1,.i (E0 l[i].2).1.2.2.2.1,.i (E0 l[i].2).1.2.2.2.2.1] 272):Nat×Obj)=o2;have uP:((E0 l[i].2).2.2==0)=decide ((E0 l[i].2).2.2=0):=by
   by_cases he:(E0 l[i].2).2.2=0
   ·rw[he];rfl
   ·rw[Ds7 he,D54];exact he
  simp only[uP];refine E6 elemIm srcIm ((n3,Obj.cells #[.i (E0 l[i].2).1.1,.i (E0 l[i].2).1.2.1,.i (E0 l[i].2).1.2.2.1,.i (E0 l[i].2).1.2.2.2.1,.i (E0 l[i].2).1.2.2.2.2.1,.slice s2.a s2.len s2.cap,.b (decide ((E0 l[i].2).2.2=0))] eIm)::o2::(sg2++(X++[sO m sv 0 last]))) Y own (by simp)
   (n:=1) (ws:=IM.enc ⟨(E0 l[i].2).1,⟨s2,sg2,(E0 l[i].2).2.1⟩,decide ((E0 l[i].2).2.2=0)⟩) (x:=.slice (some n3.z) 1 1) (Src.sl (v:=⟨some n3.z,1,1⟩) ⟨rfl,Dq6 _,.inr ⟨_,rfl,ldB Dq7 rfl⟩⟩) rfl (by omega) fun v8 seg8 xA own8=>?_
  generalize ((n3,Obj.cells #[.i (E0 l[i].2).1.1,.i (E0 l[i].2).1.2.1,.i (E0 l[i].2).1.2.2.1,.i (E0 l[i].2).1.2.2.2.1,.i (E0 l[i].2).1.2.2.2.2.1,.slice s2.a s2.len s2.cap,.b (decide ((E0 l[i].2).2.2=0))] eIm):Nat×Obj)=o3;refine E4 (n:=m) (off:=0) (c:=#[.slice sv.a sv.len sv.cap,.i 0,.i last]) (T:=375) (fz:=(0,0)) (o3::o2::(sg2++X)) (seg8++Y) rfl (by simp[sO]) (by simp) (.inl (Dq6 _)) #[.slice v8.a v8.len v8.cap,.i 0,.i last] rfl ?_;have jD:((m,Obj.cells #[.slice v8.a v8.len v8.cap,.i 0,.i last] 375):Nat×Obj)=sO m v8 0 last:=rfl;rw[jD];have gP: ∀x∈A,x∈(o3::o2::(sg2++X))++sO m v8 0 last::(seg8++Y):=by
   intro x hx;have h5:x∈X++Y:=(hp.mem_iff (a:=x)).2 (by simp[hx]);have h6:x∈X\/x∈Y:=by simpa using h5
   rcases h6 with h6|h6<;>simp[h6]
  refine B5 (Bp1 _ l[i].1 l[i].2 (Sl.mono dq gP) dD) (P3 l[i].2,()) rfl ?_;have iK:(l.map Prod.snd).getD i []=l[i].2:=by rw[Dt0,Du3,Dr9 hJ];rfl
  have nE:((o3::o2::(sg2++X))++Y).Perm (Y2 (ims++[⟨(E0 l[i].2).1,⟨s2,sg2,(E0 l[i].2).2.1⟩,decide ((E0 l[i].2).2.2=0)⟩])++((o3::o2::J)++A)):=by
   rw[Bh3,Cc1]
   classical
   rw[Dt9]at hp⊢;intro z;have:=hp z;simp only[Dw2,Dt7,Du0,Dv0,Dv7]at this⊢;omega
  have fV: ∀(last':Nat),last'=Bh0 (l.map Prod.snd) i->(fun(x':RsV [lI]) (L'':A4)=> ∃k',k'<n-i/\ ∃(i last:Nat) (sv:SlV) (seg:A4) (ims:List IM) (J X Y:A4),i<=n/\k'=n-i/\x'=((i:Int),())/\L''=X++sO m sv 0 last::(seg++Y)/\(X++Y).Perm (Y2 ims++(J++A))/\Own sv 7 eIm (ims.flatMap IM.enc) seg/\(∀x∈ims,x.g.Ok)/\ims.map IM.dat=((l.map Prod.snd).take i).map imOf/\last=Bh0 (l.map Prod.snd) (i-1)) (IntKind.i64.wrap ((i:Int)+1),()) ((o3::o2::(sg2++X))++sO m v8 0 last'::(seg8++Y)):=by
   intro last' bZ;refine⟨n-(i+1),by omega,i+1,last',v8,seg8,ims++[⟨(E0 l[i].2).1,⟨s2,sg2,(E0 l[i].2).2.1⟩,decide ((E0 l[i].2).2.2=0)⟩],o3::o2::J,o3::o2::(sg2++X),Y,by omega,rfl,?_,rfl,nE,?_,?_,?_,bZ⟩
   ·rw[C1 (by first|omega|(simp only;omega)) (by first|omega|(simp only;omega))];rfl
   ·rw[Dt3,Dx7];exact own8
   ·intro z hz;rcases Dr5.1 hz with h5|h5
    ·exact aA z h5
    ·rw[Dr2.1 h5];exact own2
   ·rw[Ds2,bL,Ds4 (by rw[aW];exact hJ),Ds2,D07];rfl
  cases jL:P3 l[i].2 with
  |true=>
   refine ifF rfl (fV last ?_);rw[eS];cases i with
   |zero=>rfl
   |succ j=>
    rw[Nat.add_sub_cancel];show _=if P3 ((l.map Prod.snd).getD (j+1) [])then Bh0 (l.map Prod.snd) j else j+1
    rw[iK,jL,Dq5 rfl]
  |false=>
   refine ifT rfl ?_;refine E4 (n:=m) (off:=2) (c:=#[.slice v8.a v8.len v8.cap,.i 0,.i last]) (T:=375) (fz:=(0,0)) (o3::o2::(sg2++X)) (seg8++Y) rfl rfl (by simp) (.inl (Dq6 _)) #[.slice v8.a v8.len v8.cap,.i 0,.i i] rfl ?_;refine fV i ?_;cases i with
   |zero=>rfl
   |succ j=>
    show _=if P3 ((l.map Prod.snd).getD (j+1) [])then Bh0 (l.map Prod.snd) j else j+1
    rw[iK,jL,Dq4 (by decide)]
 ·obtain rfl:i=n:=by omega
  refine .drop (A:=(sO m sv 0 last::(seg++Y2 ims))++A) (J:=J) ⟨m,_,rfl,rfl,sv,seg,ims,?_,own,aA,?_,?_⟩ ?_
  ·have:M6 (l.map Prod.snd)=last:=by rw[eS];unfold M6;rw[aW,hn]
   rw[this]
  ·rw[bL];congr 1;rcases Nat.le_total l.length 16 with h16|h16
   ·rw[Dw9 (by omega),Dw9 (by omega)]
   ·rw[show i=16 by omega]
  ·intro b fZ;obtain⟨x,hx,rfl⟩:=Dt4.1 fZ;exact hb x hx
  ·classical
   rw[Dt9]at hp⊢;intro z;have:=hp z;simp only[Dw2,Dt7,Du0,Dv0,Dv7]at this⊢;omega
theorem Bx1(L B:A4)(m:Nat)(ps:List (List UInt8))(ep:Int)(last:Nat)(hB:SH m ps ep last B)(hs: ∀x∈B,x∈L)(at':Int)(h:Hd):
  CallF PP 284 #[.p m,.i at',.agg (ki5 h)] L fun r L'=>L'=L/\
   ((Ab5 ps at' (h.1,h.2.1,h.2.2.1,ep,at',())=none/\r= .t #[.slice none 0 0,.b false])\/ ∃(v:SlV) (p:List UInt8),Ab5 ps at' (h.1,h.2.1,h.2.2.1,ep,at',())=some p/\r= .t #[.slice v.a v.len v.cap,.b true]/\BSl L v p/\p.length<=1000000):=by
 obtain⟨sv,seg,ims,rfl,hh⟩:=hB;refine(e284 (some m.z) at' h).c ?_;have gU:sO m sv ep last∈L:=hs _ Dq7;have aT:Sl L sv 7 (ims.flatMap IM.enc):=Sl.mono hh.own.sl fun x hx=>hs x (by simp[hx]);have cR:=aT.els_len IM.enc_len (by decide);have iJ:=hh.ilen;refine C4 fun n1 _=>A5 rfl (A6 ep ((s_ep gU).mono fun x hx=>Dr6 _ hx) ?_);refine E4 (n:=n1) (off:=3) (c:=(ki5 h)) (T:=272) (fz:=(0,0)) [] L rfl rfl (by simp) (.inl (Dq6 _)) #[.i h.1,.i h.2.1,.i h.2.2.1,.i ep,.i h.2.2.2.2.1] rfl ?_;refine E4 (n:=n1) (off:=4) (T:=272) (fz:=(0,0)) [] L rfl rfl (by simp) (.inl (Dq6 _)) #[.i h.1,.i h.2.1,.i h.2.2.1,.i ep,.i at'] rfl ?_;rw[Ds1];generalize hH:((h.1,h.2.1,h.2.2.1,ep,at',()):Hd)=H;have lH:C9 n1.z [.i H.1,.i H.2.1,.i H.2.2.1,.i H.2.2.2.1,.i H.2.2.2.2.1] ((n1,Obj.cells #[.i h.1,.i h.2.1,.i h.2.2.1,.i ep,.i at'] 272)::L):=ldB Dq7 (by rw[<-hH];rfl);generalize (n1,Obj.cells #[.i h.1,.i h.2.1,.i h.2.2.1,.i ep,.i at'] 272)=o1 at lH;have iE: ∀x∈L,x∈o1::L:=fun x hx=>Dr6 _ hx;have bF:Ab5 ps at' H=none->HL.Ends (fun r L'=>L'=L/\((Ab5 ps at' H=none/\r= .t #[.slice none 0 0,.b false])\/ ∃(v:SlV) (p:List UInt8),Ab5 ps at' H=some p/\r= .t #[.slice v.a v.len v.cap,.b true]/\BSl L v p/\p.length<=1000000)) (.t #[.slice none 0 0,.b false]) (o1::L):=fun hx=>.cons (.of ⟨rfl,.inl ⟨hx,rfl⟩⟩);refine C0 (fun(h1:at'<0)=>bF (by unfold Ab5;rw[Dq4 (by omega)])) (fun(h1: ¬at'<0)=>?_);obtain⟨i,rfl⟩: ∃i:Nat,at'=i:=⟨at'.toNat,by omega⟩;refine A5 rfl (A6 sv ((Da1 gU).mono iE) (C0 (fun(h2:(i:Int)≥(sv.len:Int))=>bF ?_) (fun(h2: ¬(i:Int)≥(sv.len:Int))=>?_)))
 ·unfold Ab5;by_cases h16:i<16
  ·rw[Dq5 (by omega),Dr0,D12 (by omega)]
  ·rw[Dq4 (by omega)]
 have hi:i<ims.length:=by omega
 obtain⟨rO,i1,i2,i3⟩:=hh.im hi;obtain⟨a,ha,cD⟩:=aT.el IM.enc_len (by decide) hi;have qF:C9 (a.add ((i:Int).toNat*7)) ims[i].enc (o1::L):=by rw[Dr0];exact cD.mono iE
 have g0:(0:Int)<=(i:Int):=by omega
 have g1:(i:Int)<(sv.len:Int):=by omega
 have xK:Ab5 ps (i:Int) H=if(E0 ps[i]).2.2=0/\(E0 ps[i]).1=H then some (E0 ps[i]).2.1 else none:=by
  unfold Ab5;rw[Dq5 (by omega),Dr0,Dr9 rO]
 refine A5 rfl (A6 sv ((Da1 gU).mono iE) (A5 ha (D9 g0 g1 (A6 ims[i].fine (qF.one 6 rfl) ?_))));rw[i3];by_cases hf:(E0 ps[i]).2.2=0
 case neg=>rw[Ds7 hf];exact ifT rfl (bF (by rw[xK,Dq4 (fun hx=>hf hx.1)]))
 rw[Dt2 hf];refine ifF rfl (A5 rfl (A6 sv ((Da1 gU).mono iE) (A5 ha (D9 g0 g1 (A6 ims[i].h (qF.pre fun j u hu=>?_) (A6 H lH (neHd2 _ _ ?_)))))))
 ·match j,hu with
  |0,hu=>exact hu
  |1,hu=>exact hu
  |2,hu=>exact hu
  |3,hu=>exact hu
  |4,hu=>exact hu
  |j+5,hu=>exact absurd (show(none:Option Value)=some u from hu) (by simp)
 rw[i1];by_cases he:(E0 ps[i]).1=H
 case neg=>rw[Ds7 he];exact ifT rfl (bF (by rw[xK,Dq4 (fun hx=>he hx.2)]))
 rw[Dt2 he];refine ifF rfl (A5 rfl (A6 sv ((Da1 gU).mono iE) (A5 ha (D9 g0 g1 (A6 ims[i].g.v (qF.one 5 rfl) (.cons (.of ⟨rfl,.inr ⟨ims[i].g.v,ims[i].g.l,by rw[xK,Dq5 ⟨hf,he⟩,i2],rfl,?_,?_⟩⟩)))))))
 ·exact Sl.mono (hh.ok _ (Dr7 hi)).sl fun x hx=>hs x (Dr6 _ (Du2 _ (Dw7.2 ⟨_,Dr7 hi,hx⟩)))
 ·rw[i2];have:=Ay2 ps[i];have:=hh.len _ (Dr7 rO);omega
def B16(o:Option (List It))(A:A4)(r:Value)(L':A4):Prop:=
 (o=none/\L'=A/\ ∃v:SlV,r= .t #[.slice v.a v.len v.cap,.b false])\/ ∃(l:List It) (v:SlV) (seg:A4),o=some l/\r= .t #[.slice v.a v.len v.cap,.b true]/\L'=seg++A/\Own v 3 Cc7 (l.flatMap P8) seg
theorem B16.no{o:Option (List It)}{A:A4}(h:o=none):B16 o A (.t #[.slice none 0 0,.b false]) A:=.inl ⟨h,rfl,⟨none,0,0⟩,rfl⟩
theorem Ca5(p:List UInt8)(n i:Nat)(nx:Int):Ag8 p (n+1) i nx=if((G8 p i).1=2\/(G8 p i).1=3)/\(G8 p i).2.2.1≠0/\(G8 p i).2.1=nx then(Ag8 p n (i+1) (nx+(G8 p i).2.2.1)).map fun y=>(G8 p i::y.1,y.2)else none:=rfl
theorem Ch9(p:List UInt8)(i:Nat):0<=(G8 p i).2.2.1/\(G8 p i).2.2.1<=255:=by
 unfold G8;have:=(p.getD (i*3+2) 0).toNat_lt;simp only;omega
theorem Dg6(L B:A4)(m:Nat)(ps:List (List UInt8))(ep:Int)(hB:SH m ps ep (M6 ps) B)(hs: ∀x∈B,x∈L):CallF PP 285 #[.p m] L (B16 (A74 ps ep) L):=by
 refine(e285 (some m.z)).c ?_;have vR:=hB;obtain⟨sv,seg,ims,rX,hh⟩:=hB;have gU:sO m sv ep (M6 ps)∈L:=hs _ (by rw[rX];exact Dq7);refine A5 rfl (A6 (M6 ps:Int) (s_la gU) ?_);refine K1 [] [] (Bx1 L B m ps ep (M6 ps) vR hs (M6 ps) (4,0,1,0,0,())) (by simp) ?_;rintro _ L1-⟨eX,⟨hn,rfl⟩|⟨v,p,iF,rfl,hp,aW⟩⟩
 ·rw[Ds1,Dr3,eX];exact⟨(⟨none,0,0⟩,false,()),rfl,ifT rfl (.of (B16.no (by unfold A74;rw[hn];rfl)))⟩
 rw[Ds1,Dr3,eX];clear eX L1;refine⟨(v,true,()),rfl,ifF rfl (Ad8 (by decide) ?_)⟩;have hS:A74 ps ep=Ad6 p (M6 ps):=by unfold A74;rw[iF];rfl
 rw[hS];have cR:=hp.len;have xI:Int.tmod (v.len:Int) 3=((p.length%3:Nat):Int):=by rw[D57 (by omega),cR];omega
 rw[xI];refine P0 (fun(h3:((p.length%3:Nat):Int)≠0)=>.of (B16.no (by unfold Ad6;rw[Dq5 (by omega)]))) (fun(h3:((p.length%3:Nat):Int)=0)=>?_);obtain⟨n,hn⟩: ∃n,p.length=n*3:=⟨p.length/3,by omega⟩;have gY:p.length/3=n:=by omega
 have du: ∀y,Ag8 p n 0 1=some y->Ad6 p (M6 ps)=if y.2=M6 ps then some y.1 else none:=by
  intro y hy;unfold Ad6;rw[Dq4 (by omega),gY,hy]
 have hR0:Ag8 p n 0 1=none->Ad6 p (M6 ps)=none:=by
  intro hy;unfold Ad6;rw[Dq4 (by omega),gY,hy]
 refine G7 (fun z' z L'=> ∃(i:Nat) (b s:SlV) (nx:Int) (ds:List It) (sg J:A4),i<=n/\z'=n-i/\z=(b,s,nx,())/\L'=J++(sg++L)/\Own s 3 Cc7 (ds.flatMap P8) sg/\ds.length=i/\BSl L b (p.drop (i*3))/\1<=nx/\nx<=1+255*i/\Ag8 p n 0 1=(Ag8 p (n-i) i nx).map fun y=>(ds++y.1,y.2)) n
  ⟨0,v,⟨none,0,0⟩,1,[],[],[],by omega,by omega,rfl,rfl,F6,rfl,by simpa using hp,by omega,by omega,by simp⟩ ?_
 rintro z' z _ ⟨i,b,s,nx,ds,sg,J,hi,rfl,rfl,rfl,own,oU,hb,hnx0,hnx1,hG⟩;have dD:=hb.len;rw[Ds6]at dD;have vD:=hb.cap;have bK:=own.sl.els_len E3 (by decide);refine C0 (fun(yY:(b.len:Int)>0)=>?_) (fun(bS: ¬(b.len:Int)>0)=>?_)
 ·have hJ:i<n:=by omega
  have hB:BSl (J++(sg++L)) b (p.drop (i*3)):=hb.right.right;have cy:3<=(p.drop (i*3)).length:=by rw[Ds6];omega
  obtain⟨a,ha⟩:=hB.some (i:=0) (by omega);have e0:(p.drop (i*3))[0]'(by omega)=p.getD (i*3) 0:=by rw[A50 (by omega),D58];simp
  have e1:(p.drop (i*3))[1]'(by omega)=p.getD (i*3+1) 0:=by rw[A50 (by omega),D58]
  have e2:(p.drop (i*3))[2]'(by omega)=p.getD (i*3+2) 0:=by rw[A50 (by omega),D58]
  have l0:=hB.rd (i:=0) (by omega) ha ((0:Int).toNat*1) rfl;have l1:=hB.rd (i:=1) (by omega) ha ((1:Int).toNat*1) rfl;have l2:=hB.rd (i:=2) (by omega) ha ((2:Int).toNat*1) rfl;rw[e0]at l0;rw[e1]at l1;rw[e2]at l2;refine A5 ha (D9 (by decide) (show(0:Int)<(b.len:Int) by omega) (A5 ha (D9 (by decide) (show(1:Int)<(b.len:Int) by omega) (A5 ha (D9 (by decide) (show(2:Int)<(b.len:Int) by omega) (A6 ((p.getD (i*3) 0).toNat:Int) l0 (A6 ((p.getD (i*3+1) 0).toNat:Int) l1 (A6 ((p.getD (i*3+2) 0).toNat:Int) l2 (C4 fun n1 _=>?_)))))))));rw[Ce9,Ce9,Ce9];refine E4 (n:=n1) (off:=0) (c:=#[.i 0,.i 0,.i 0]) (T:=Cc7) (fz:=(0,0)) [] (J++(sg++L)) rfl rfl (by simp) (.inl (Dq6 _)) #[.i (G8 p i).1,.i (G8 p i).2.1,.i (G8 p i).2.2.1] rfl ?_;rw[Ds1];generalize ho:((n1,Obj.cells #[.i (G8 p i).1,.i (G8 p i).2.1,.i (G8 p i).2.2.1] Cc7):Nat×Obj)=o1;have lc:C9 n1.z [.i (G8 p i).1,.i (G8 p i).2.1,.i (G8 p i).2.2.1] (o1::(J++(sg++L))):=ldB (by rw[<-ho];exact Dq7) rfl;clear ho;have bi:Ag8 p (n-i) i nx=if((G8 p i).1=2\/(G8 p i).1=3)/\(G8 p i).2.2.1≠0/\(G8 p i).2.1=nx then(Ag8 p (n-(i+1)) (i+1) (nx+(G8 p i).2.2.1)).map fun y=>(G8 p i::y.1,y.2)else none:=by
   rw[show n-i=(n-(i+1))+1 by omega,Ca5]
  have bF: ¬(((G8 p i).1=2\/(G8 p i).1=3)/\(G8 p i).2.2.1≠0/\(G8 p i).2.1=nx)->HL.Ends (B16 (Ad6 p (M6 ps)) L) (.t #[.slice none 0 0,.b false]) (o1::(J++(sg++L))):=by
   intro hx;rw[bi,Dq4 hx]at hG;exact .cons (.app (.app (.of (B16.no (hR0 (by rw[hG];rfl))))))
  refine A6 (G8 p i).1 (lc.pre fun i u hu=>by cases i with|zero=>exact hu|succ i=>exact absurd (show(none:Option Value)=some u from hu) (by simp)) (B5 (Co3 _ (G8 p i).1) (decide ((G8 p i).1=2\/(G8 p i).1=3),()) rfl ?_);by_cases hk:(G8 p i).1=2\/(G8 p i).1=3
  case neg=>rw[Ds7 hk];exact ifT rfl (bF fun h=>hk h.1)
  rw[Dt2 hk];refine ifF rfl (A6 (G8 p i).2.2.1 (lc.one 2 rfl) (Ac2 (fun(hz:(G8 p i).2.2.1=0)=>bF fun h=>h.2.1 hz) (fun(hz:(G8 p i).2.2.1≠0)=>?_)));refine A6 (G8 p i).2.1 (lc.one 1 rfl) (P0 (fun(hx:(G8 p i).2.1≠nx)=>bF fun h=>hx h.2.2) (fun(hx:(G8 p i).2.1=nx)=>?_));have hr:=Ch9 p i;refine A6 (G8 p i).2.2.1 (lc.one 2 rfl) (A6 (G8 p i) lc (C4 fun n2 _=>?_));refine E6 B06 Cg2 ((n2,Obj.cells #[.i (G8 p i).1,.i (G8 p i).2.1,.i (G8 p i).2.2.1] Cc7)::o1::J) L own (by simp) (n:=1) (ws:=P8 (G8 p i)) (x:=.slice (some n2.z) 1 1) (Src.sl (v:=⟨some n2.z,1,1⟩) ⟨rfl,Dq6 _,.inr ⟨_,rfl,ldB Dq7 rfl⟩⟩) rfl (by omega) fun s2 sg2 aJ own2=>?_;refine K7 (l':=3) (h':=b.len) (m':=b.cap) rfl rfl rfl (by omega) (by omega) (Dq6 _) ?_;have aR:BSl L (Q0 b ((3:Nat):Int) (b.len:Int) (b.cap:Int) 1) (p.drop ((i+1)*3)):=by
   have h0:=Sl.slc (m:=b.cap) hb (by decide) (l:=3) (h':=b.len) (by omega) (by omega) (by omega);rw[Ai9,Dw9 (by rw[Ds6,Ds6];omega),Dw6]at h0;rw[show(i+1)*3=i*3+3 by omega];exact h0
  refine⟨n-(i+1),by omega,i+1,_,s2,nx+(G8 p i).2.2.1,ds++[G8 p i],sg2,_,by omega,rfl,?_,Ds5 ..,?_,by simp[oU],aR,by omega,by omega,?_⟩
  ·rw[C1 (by first|omega|(simp only;omega)) (by first|omega|(simp only;omega))]
  ·rw[Dt3,Dx7];exact own2
  ·rw[hG,bi,Dq5 ⟨hk,hz,hx⟩,D86];have: ∀y:List It×Int,(ds++(G8 p i::y.1),y.2)=(ds++[G8 p i]++y.1,y.2):=fun y=>by simp
   exact congrArg (fun f=>Option.map f _) (funext this)
 ·obtain rfl:i=n:=by omega
  rw[D27]at hG;have ec:Ag8 p i 0 1=some (ds,nx):=by rw[hG];simp[Ag8]
  refine A5 rfl (A6 (M6 ps:Int) ((s_la gU).mono fun x hx=>by simp[hx]) ?_);by_cases hl:nx=M6 ps
  ·have dE:(nx==(M6 ps:Int))=true:=by simp[hl]
   simp only[dE];refine .app (.of (.inr ⟨ds,s,sg,?_,rfl,rfl,own⟩));rw[du _ ec,Dq5 hl]
  ·have dE:(nx==(M6 ps:Int))=false:=by rw[D54];exact hl
   simp only[dE];refine .app (.app (.of (.inl ⟨?_,rfl,s,rfl⟩)));rw[du _ ec,Dq4 hl]
theorem at_cl(L B:A4)(m:Nat)(ps:List (List UInt8))(ep:Int)(last:Nat)(hB:SH m ps ep last B)(hs: ∀x∈B,x∈L)(q:Nat)(hq:q<min ps.length 16):
  CallF PP 287 #[.p m,.i q] L fun r L'=>L'=L/\((O1 ps ep q=none/\r= .t #[.agg #[.i 0,.i 0,.i 0],.b false])\/ ∃x:It,O1 ps ep q=some x/\r= .t #[itV x,.b true]):=by
 have vR:=hB;obtain⟨sv,seg,ims,rX,hh⟩:=hB;refine(e287 (some m.z) q).c ?_;have gU:sO m sv ep last∈L:=hs _ (by rw[rX];exact Dq7);have aT:Sl L sv 7 (ims.flatMap IM.enc):=Sl.mono hh.own.sl fun x hx=>hs x (by rw[rX];simp[hx]);have cR:=aT.els_len IM.enc_len (by decide);have iJ:=hh.ilen;have hi:q<ims.length:=by omega
 obtain⟨rO,i1,i2,i3⟩:=hh.im hi;obtain⟨a,ha,cD⟩:=aT.el IM.enc_len (by decide) hi;refine C4 fun n1 _=>A5 rfl (A6 sv ((Da1 gU).mono fun x hx=>Dr6 _ hx) (A5 ha (D9 (show(0:Int)<=(q:Int) by omega) (show(q:Int)<(sv.len:Int) by omega) ?_)));refine A6 (ims[q].h.1,ims[q].h.2.1,ims[q].h.2.2.1,ims[q].h.2.2.2.1,ims[q].h.2.2.2.2.1,ims[q].g.v,ims[q].fine,()) (by rw[Dr0];exact cD.mono fun x hx=>Dr6 _ hx) (C4 fun n2 _=>?_);have aC:wr #[.i 0,.i 0,.i 0,.i 0,.i 0,.slice none 0 0,.b false] 0 [.i ims[q].h.1,.i ims[q].h.2.1,.i ims[q].h.2.2.1,.i ims[q].h.2.2.2.1,.i ims[q].h.2.2.2.2.1,.slice ims[q].g.v.a ims[q].g.v.len ims[q].g.v.cap,.b ims[q].fine]=#[.i ims[q].h.1,.i ims[q].h.2.1,.i ims[q].h.2.2.1,.i ims[q].h.2.2.2.1,.i ims[q].h.2.2.2.2.1,.slice ims[q].g.v.a ims[q].g.v.len ims[q].g.v.cap,.b ims[q].fine]:=C89 _ _ rfl;refine E4 (n:=n2) (off:=0) (c:=#[.i 0,.i 0,.i 0,.i 0,.i 0,.slice none 0 0,.b false]) (T:=eIm) (fz:=(0,0)) [] _ rfl rfl (by simp) (.inl (Dq6 _)) _ aC ?_;rw[Ds1];generalize fJ:((n2,Obj.cells #[.i ims[q].h.1,.i ims[q].h.2.1,.i ims[q].h.2.2.1,.i ims[q].h.2.2.2.1,.i ims[q].h.2.2.2.2.1,.slice ims[q].g.v.a ims[q].g.v.len ims[q].g.v.cap,.b ims[q].fine] eIm):Nat×Obj)=o2;have lc: ∀Z:A4,o2∈Z->C9 n2.z [.i ims[q].h.1,.i ims[q].h.2.1,.i ims[q].h.2.2.1,.i ims[q].h.2.2.2.1,.i ims[q].h.2.2.2.2.1,.slice ims[q].g.v.a ims[q].g.v.len ims[q].g.v.cap,.b ims[q].fine] Z:=fun Z hm=>ldB (by rw[<-fJ]at hm;exact hm) rfl;clear fJ aC;have lk: ∀Z:A4,o2∈Z->C9 n2.z [.i ims[q].h.1] Z:=fun Z hm=>(lc Z hm).pre fun i u hu=>by cases i with|zero=>exact hu|succ i=>exact absurd (show(none:Option Value)=some u from hu) (by simp)
 have bQ:O1 ps ep q=if(E0 ps[q]).2.2=0/\((E0 ps[q]).1.1=2\/(E0 ps[q]).1.1=3)then
   if(List.range (E0 ps[q]).1.2.2.1.toNat).all (fun i=>(Ab5 ps ((q:Int)+i) ((E0 ps[q]).1.1,i,(E0 ps[q]).1.2.2.1,ep,(q:Int)+i,())).isSome)=true then some ((E0 ps[q]).1.1,((q:Nat):Int),(E0 ps[q]).1.2.2.1,())else none
  else none:=by unfold O1;rw[Dr9 rO]
 generalize cY:((n1,Obj.cells #[.i 0,.i 0,.i 0] 215):Nat×Obj)=o1;have wS: ∀(Z:A4),O1 ps ep q=none->st n1.z [.i 0,.i 0,.i 0] (ld n1.z Z1 fun v4=>HL.Ends (fun r L'=>L'=L/\((O1 ps ep q=none/\r= .t #[.agg #[.i 0,.i 0,.i 0],.b false])\/ ∃x:It,O1 ps ep q=some x/\r= .t #[itV x,.b true])) (.t #[.agg (ki3 v4),.b false])) (o2::o1::L):=by
  intro Z hx;refine E4 (n:=n1) (off:=0) (c:=#[.i 0,.i 0,.i 0]) (T:=215) (fz:=(0,0)) [o2] L rfl (by rw[<-cY];rfl) (by simp) (.inl (Dq6 _)) #[.i 0,.i 0,.i 0] rfl ?_;exact A6 (0,0,0,()) (ldB (n:=n1) (off:=0) (c:=#[.i 0,.i 0,.i 0]) (T:=215) (fz:=(0,0)) (by simp) rfl) (.cons (.cons (.of ⟨rfl,.inl ⟨hx,rfl⟩⟩)))
 have eR:o2∈o2::o1::L:=Dq7;refine A6 ims[q].fine ((lc _ eR).one 6 rfl) ?_;rw[i3];by_cases hf:(E0 ps[q]).2.2=0
 case neg=>rw[Ds7 hf];exact ifT rfl (wS [] (by rw[bQ,Dq4 (fun h=>hf h.1)]))
 rw[Dt2 hf];refine ifF rfl (A6 ims[q].h.1 (lk _ eR) (B5 (Co3 _ ims[q].h.1) (decide (ims[q].h.1=2\/ims[q].h.1=3),()) rfl ?_));by_cases hk:ims[q].h.1=2\/ims[q].h.1=3
 case neg=>rw[Ds7 hk];exact ifT rfl (wS [] (by rw[bQ,Dq4 (fun h=>hk (by rw[i1];exact h.2))]))
 rw[Dt2 hk];rw[i1]at lc lk hk;simp only[i1];have aA:=Ac9 (B43 hf);generalize hH:(E0 ps[q]).1=H at*;refine ifF rfl (A6 H.2.2.1 ((lc _ eR).one 2 rfl) ?_);refine G7 (fun z' z L'=>L'=o2::o1::L/\ ∃i:Nat,(i:Int)<=H.2.2.1/\z'=H.2.2.1.toNat-i/\z=((i:Int),())/\ ∀j,j<i->(Ab5 ps ((q:Int)+j) (H.1,j,H.2.2.1,ep,(q:Int)+j,())).isSome=true) H.2.2.1.toNat ⟨rfl,0,by omega,by omega,rfl,by omega⟩ ?_;rintro z' z _ ⟨rfl,i,hi,rfl,rfl,aB⟩;refine C0 (fun(hO:(i:Int)<H.2.2.1)=>?_) (fun(aS: ¬(i:Int)<H.2.2.1)=>?_)
 ·refine A6 H.1 (lk _ eR) (A6 H.2.2.1 ((lc _ eR).one 2 rfl) ?_);have gN:IntKind.i64.wrap ((q:Int)+(i:Int))=(q:Int)+i:=C1 (by omega) (by omega);simp only[gN];refine K1 [] [] (Bx1 (o2::o1::L) B m ps ep last vR (fun x hx=>Dr6 _ (Dr6 _ (hs x hx))) ((q:Int)+i) (H.1,i,H.2.2.1,0,0,())) (by simp) ?_;rintro _ L1-⟨eX,⟨hn,rfl⟩|⟨v,p,iF,rfl,-,-⟩⟩
  ·rw[Ds1,Dr3,eX];refine⟨(⟨none,0,0⟩,false,()),rfl,ifT rfl (wS [] ?_)⟩;rw[bQ,Dq5 ⟨hf,hk⟩,Dq4];intro hx;rw[Dy1]at hx;have:=hx i (Dy9.2 (by omega));rw[hn]at this;cases this
  ·rw[Ds1,Dr3,eX];refine⟨(v,true,()),rfl,ifF rfl ⟨H.2.2.1.toNat-(i+1),by omega,rfl,i+1,by omega,rfl,?_,fun j hj=>?_⟩⟩
   ·rw[C1 (by first|omega|(simp only;omega)) (by first|omega|(simp only;omega))];rfl
   ·rcases Dw8 j i with h5|h5
    ·exact aB j h5
    ·obtain rfl:j=i:=by omega
     rw[iF];rfl
 ·refine A6 H.1 (lk _ eR) (A6 H.2.2.1 ((lc _ eR).one 2 rfl) ?_);refine E4 (n:=n1) (off:=0) (c:=#[.i 0,.i 0,.i 0]) (T:=215) (fz:=(0,0)) [o2] L rfl (by rw[<-cY];rfl) (by simp) (.inl (Dq6 _)) #[.i H.1,.i q,.i H.2.2.1] rfl ?_;refine A6 (H.1,(q:Int),H.2.2.1,()) (ldB (n:=n1) (off:=0) (c:=#[.i H.1,.i q,.i H.2.2.1]) (T:=215) (fz:=(0,0)) (by simp) rfl) (.cons (.cons (.of ⟨rfl,.inr ⟨(H.1,(q:Int),H.2.2.1,()),?_,rfl⟩⟩)));rw[bQ,Dq5 ⟨hf,hk⟩,Dq5];rw[Dy1];intro j hj;exact aB j (by have:=Dy9.1 hj;omega)
set_option maxRecDepth 100000
theorem c3(x0:ShV Z2)(x1:SlV)(x2:ByteArray)(x3:SlV):CC 3 #[.agg (ki11 x0),.sv x1,.w x2,.sv x3] fun K=>
  cl PP 8 #[.agg (ki11 x0)] [.lf .ptr,.lf .ptr] fun r1=>
  jn (fun y1:RsV []=>
   lp [.lf .ptr,lI,lI] (r1.1,0,0,()) fun z1 go1=>
    ifB (decide ((z1.2.2.1:Int)<x1.len)) (
     jn (fun y2:RsV [lI]=>
      elp x1.a x1.len z1.2.2.1 5 fun a2=>
      ld a2 Z10 fun v3=>
      cl PP 11 #[.agg (ki11 x0),.q z1.1,.q r1.2.1,.agg (kiwvii v3),.i y2.1] [.lf .ptr] fun r8=>
      ifB (Option.isNone r8.1) (
       K (.b false)) (
       w64 (z1.2.2.1+1) fun i1=>
       go1 (r8.1,y2.1,i1,()))) fun j2=>
     elp x1.a x1.len z1.2.2.1 5 fun a1=>
      ld a1 (lI) fun v1=>
      ifB (decide ((v1:Int)=4)) (
       ld (a1.add 3) (lI) fun v2=>
       j2 (v2,())) (
       j2 (z1.2.1,()))) (
     cl PP 12 #[.q r1.2.1,.i 0,.i 0] [] fun r9=>
     cl PP 13 #[.q z1.1,.w x2] [.lf .bool] fun r10=>
     cl PP 14 #[.q z1.1] [lI] fun r11=>
     lp [.lf .bool,lI] (false,0,()) fun z2 go2=>
      ifB (decide ((z2.2.1:Int)<x0.1)) (
       ifB z2.1 (
        w64 (z2.2.1+1) fun i2=>
        go2 (true,i2,())) (
        cl PP 15 #[.q r1.2.1,.i z2.2.1] [.lf .bool] fun r12=>
        ifB r12.1 (
         w64 (z2.2.1+1) fun i3=>
         go2 (true,i3,())) (
         cl PP 16 #[.q r1.2.1,.i z2.2.1] [lI] fun r13=>
         w64 (r13.1+1) fun i4=>
         w64 (z2.2.1+1) fun i5=>
         go2 (decide ((i4:Int)≥x0.2.2.2.1),i5,())))) (
       cl PP 17 #[.q z1.1,.w x2,.sv x3] [lI] fun r14=>
       ifB (decide ((r14.1:Int)=0)) (
        cl PP 20 #[.q z1.1,.w x2] [.lf .sl,lI] fun r22=>
        jn (fun y3:RsV []=>
         jn (fun y4:RsV []=>
          ifB (decide ((r22.2.1:Int)=0)) (
           cl PP 21 #[.sv r22.1,.sv x3] [.lf .bool] fun r24=>
           ifB r24.1 (
            cl PP 10 #[] [.lf .bool] fun r25=>
            K (.b r25.1)) (
            ifB (decide ((r22.2.1:Int)=8)) (
             ifB (decide ((r22.1.len:Int)=0)) (
              cl PP 10 #[] [.lf .bool] fun r26=>
              K (.b r26.1)) (
              K (.b false))) (
             K (.b false)))) (
           ifB (decide ((r22.2.1:Int)=8)) (
            ifB (decide ((r22.1.len:Int)=0)) (
             cl PP 10 #[] [.lf .bool] fun r27=>
             K (.b r27.1)) (
             K (.b false))) (
            K (.b false)))) fun j4=>
         w64 (x2.size+x3.len) fun i7=>
          ifB (decide ((i7:Int)<=x0.2.2.2.2.2.2.1)) (
           ifB (decide ((r22.2.1:Int)=0)) (
            j4 (())) (
            K (.b false))) (
           j4 (()))) fun j3=>
        ifB r10.1 (
          ifB z2.1 (
           j3 (())) (
           w64 (10*x0.2.2.1) fun i6=>
           ifB (decide ((r11.1:Int)≥i6)) (
            cl PP 19 #[.q z1.1,.w x2] [lI] fun r23=>
            ifB (decide ((r23.1:Int)=2)) (
             j3 (())) (
             K (.b false))) (
            j3 (())))) (
          j3 (()))) (
        ifB (decide ((r14.1:Int)=11)) (
         cl PP 18 #[.q r1.2.1] [.lf .bool] fun r15=>
         ifB r15.1 (
          cl PP 19 #[.q z1.1,.w x2] [lI] fun r16=>
          ifB (decide ((r16.1:Int)=0)) (
           cl PP 10 #[] [.lf .bool] fun r17=>
           K (.b r17.1)) (
           K (.b false))) (
          ifB (decide ((r14.1:Int)=14)) (
           cl PP 19 #[.q z1.1,.w x2] [lI] fun r18=>
           ifB (decide ((r18.1:Int)=0)) (
            cl PP 10 #[] [.lf .bool] fun r19=>
            K (.b r19.1)) (
            K (.b false))) (
           K (.b false)))) (
         ifB (decide ((r14.1:Int)=14)) (
          cl PP 19 #[.q z1.1,.w x2] [lI] fun r20=>
          ifB (decide ((r20.1:Int)=0)) (
           cl PP 10 #[] [.lf .bool] fun r21=>
           K (.b r21.1)) (
           K (.b false))) (
          K (.b false))))))) fun j1=>
  ifB (Option.isNone r1.1) (
    cl PP 10 #[] [.lf .bool] fun r2=>
    K (.b r2.1)) (
    cl PP 9 #[.sv x1,.i 150,.i 700] [.lf .bool] fun r3=>
    ifB r3.1 (
     ifB (decide ((x2.size:Int)>255)) (
      cl PP 10 #[] [.lf .bool] fun r5=>
      K (.b r5.1)) (
      ifB (decide ((x2.size:Int)<1)) (
       cl PP 10 #[] [.lf .bool] fun r6=>
       K (.b r6.1)) (
       ifB (decide ((x3.len:Int)>700)) (
        cl PP 10 #[] [.lf .bool] fun r7=>
        K (.b r7.1)) (
        j1 (()))))) (
     cl PP 10 #[] [.lf .bool] fun r4=>
     K (.b r4.1)))
  :=(e3 x0 x1 x2 x3).cc fun K=>by
  refine D2 fun n1=>B3 0 0 rfl rfl rfl<|B0 fun r1=>?_;refine U8 (fun y1=>?_) fun j1' j1 bP=>?_
  · refine K9 fun go1' go1 aD z1=>?_
    refine B9 ?_ ?_
    · refine U8 (fun y2=>?_) fun j2' j2 fB=>?_
      · refine H8 fun a2 bA=>B3 0 0 rfl rfl rfl<|B8 fun v3=>B0 fun r8=>?_
        refine B9 ?_ ?_
        · exact A7
        · exact D0<|E8 (aD _) rfl
      · refine H8 fun a1 aG=>B8 fun v1=>?_
        refine C8 ?_ ?_
        · exact B00 aG<|B8 fun v2=>E8 (fB _) rfl
        · exact E8 (fB _) rfl
    · refine B0 fun r9=>B0 fun r10=>B0 fun r11=>K9 fun go2' go2 cV z2=>B3 0 0 rfl rfl rfl ?_
      refine B9 ?_ ?_
      · refine B9 ?_ ?_
        · exact D0<|E8 (cV _) rfl
        · refine B0 fun r12=>?_
          refine B9 ?_ ?_
          · exact D0<|E8 (cV _) rfl
          · exact B3 0 3 rfl rfl rfl<|B0 fun r13=>M8 0 3 rfl rfl rfl<|D0<|D0<|E8 (cV _) rfl
      · refine B0 fun r14=>?_
        refine E1 ?_ ?_
        · refine C8 ?_ ?_
          · refine B0 fun r15=>?_
            refine B9 ?_ ?_
            · refine B0 fun r16=>?_
              refine C8 ?_ ?_
              · exact B0 fun r17=>A7
              · exact A7
            · refine C8 ?_ ?_
              · refine B0 fun r18=>?_
                refine C8 ?_ ?_
                · exact B0 fun r19=>A7
                · exact A7
              · exact A7
          · refine C8 ?_ ?_
            · refine B0 fun r20=>?_
              refine C8 ?_ ?_
              · exact B0 fun r21=>A7
              · exact A7
            · exact A7
        · refine B0 fun r22=>?_
          refine U8 (fun y3=>?_) fun j3' j3 nM=>?_
          · refine U8 (fun y4=>?_) fun j4' j4 uA=>?_
            · refine C8 ?_ ?_
              · refine B0 fun r24=>?_
                refine B9 ?_ ?_
                · exact B0 fun r25=>A7
                · refine C8 ?_ ?_
                  · refine C8 ?_ ?_
                    · exact B0 fun r26=>A7
                    · exact A7
                  · exact A7
              · refine C8 ?_ ?_
                · refine C8 ?_ ?_
                  · exact B0 fun r27=>A7
                  · exact A7
                · exact A7
            · refine D0<|B3 0 6 rfl rfl rfl ?_
              refine B9 ?_ ?_
              · refine E1 ?_ ?_
                · exact A7
                · exact E8 (uA _) rfl
              · exact E8 (uA _) rfl
          · refine B9 ?_ ?_
            · refine K0 ?_ ?_
              · refine B3 0 2 rfl rfl rfl<|D0 ?_
                refine B9 ?_ ?_
                · refine B0 fun r23=>?_
                  refine E1 ?_ ?_
                  · exact A7
                  · exact E8 (nM _) rfl
                · exact E8 (nM _) rfl
              · exact E8 (nM _) rfl
            · exact E8 (nM _) rfl
  · refine B9 ?_ ?_
    · exact B0 fun r2=>A7
    · refine B0 fun r3=>?_
      refine K0 ?_ ?_
      · exact B0 fun r4=>A7
      · refine B9 ?_ ?_
        · exact B0 fun r5=>A7
        · refine B9 ?_ ?_
          · exact B0 fun r6=>A7
          · refine B9 ?_ ?_
            · exact B0 fun r7=>A7
            · exact E8 (bP _) rfl
theorem c8(x0:ShV Z2):CC 8 #[.agg (ki11 x0)] fun K=>
  cl PP 35 #[.agg (ki4 x0)] [.lf .ptr,lI] fun r1=>
  ifB (decide ((r1.2.1:Int)=0)) (
   cl PP 36 #[.agg (ki11 x0),.q r1.1,.i 0] [.lf .ptr,lI] fun r2=>
   ifB (decide ((r2.2.1:Int)=0)) (
    K (.t #[.q r2.1,.q r1.1])) (
    K (.t #[.q none,.q none]))) (
   K (.t #[.q none,.q none]))
  :=(e8 x0).cc fun K=>by
  refine D2 fun n1=>B3 0 0 rfl rfl rfl<|B0 fun r1=>?_;refine E1 ?_ ?_
  · exact A7
  · refine B3 0 0 rfl rfl rfl<|B0 fun r2=>?_
    refine E1 ?_ ?_
    · exact A7
    · exact A7
theorem c9(x0:SlV)(x1:Int)(x2:Int):CC 9 #[.sv x0,.i x1,.i x2] fun K=>
  jn (fun y1:RsV []=>
   K (.b (decide ((x0.len:Int)<=x1)))) fun j1=>
  lp [lI] (0,()) fun z1 go1=>
    jn (fun y2:RsV []=>
     elp x0.a x0.len z1.1 5 fun a1=>
     ld (a1.add 1) (.lf .str) fun v1=>
     ifB (decide ((v1.size:Int)>x2)) (
      K (.b false)) (
      ld (a1.add 2) (.lf .sl) fun v2=>
      ifB (decide ((v2.len:Int)>x2)) (
       K (.b false)) (
       w64 (z1.1+1) fun i1=>
       go1 (i1,())))) fun j2=>
    ifB (decide ((z1.1:Int)<x0.len)) (
      ifB (decide ((z1.1:Int)<=x1)) (
       j2 (())) (
       j1 (()))) (
      j1 (()))
  :=(e9 x0 x1 x2).cc fun K=>by
  refine U8 (fun y1=>?_) fun j1' j1 bP=>?_
  · exact A7
  · refine K9 fun go1' go1 aD z1=>?_
    refine U8 (fun y2=>?_) fun j2' j2 fB=>?_
    · refine H8 fun a1 aG=>B8 fun v1=>?_
      refine B9 ?_ ?_
      · exact A7
      · refine B00 aG<|B8 fun v2=>?_
        refine B9 ?_ ?_
        · exact A7
        · exact D0<|E8 (aD _) rfl
    · refine B9 ?_ ?_
      · refine B9 ?_ ?_
        · exact E8 (fB _) rfl
        · exact E8 (bP _) rfl
      · exact E8 (bP _) rfl
theorem c10:CC 10 #[] fun K=>
  cl PP 37 #[] [Z2] fun r1=>
  cl PP 35 #[.agg (ki4 r1.1)] [.lf .ptr,lI] fun r2=>
  cl PP 37 #[] [Z2] fun r3=>
  cl PP 36 #[.agg (ki11 r3.1),.q r2.1,.i 0] [.lf .ptr,lI] fun r4=>
  cl PP 37 #[] [Z2] fun r5=>
  cl PP 36 #[.agg (ki11 r5.1),.q none,.i 0] [.lf .ptr,lI] fun r6=>
  jn (fun y1:RsV []=>
   cl PP 24 #[.q r4.1,.i 9] [] fun r7=>
   nw (.cells #[.int .u8 49,.int .u8 50,.int .u8 51,.int .u8 52,.int .u8 53] 5) fun n1=>
   smW PP (convert 27 27 (.slice (some n1.z) 5 5)) [.lf .sl] fun v1=>
   cl PP 17 #[.q r4.1,.w (ByteArray.mk #[97]),.sv v1.1] [lI] fun r8=>
   nw (.cells #[.int .u8 49,.int .u8 50,.int .u8 51,.int .u8 52,.int .u8 53] 5) fun n2=>
   smW PP (convert 27 27 (.slice (some n2.z) 5 5)) [.lf .sl] fun v2=>
   cl PP 17 #[.q r4.1,.w (ByteArray.mk #[98]),.sv v2.1] [lI] fun r9=>
   nw (.cells #[.int .u8 49] 5) fun n3=>
   smW PP (convert 27 27 (.slice (some n3.z) 1 1)) [.lf .sl] fun v3=>
   cl PP 17 #[.q r4.1,.w (ByteArray.mk #[99]),.sv v3.1] [lI] fun r10=>
   cl PP 13 #[.q r4.1,.w (ByteArray.mk #[97])] [.lf .bool] fun r11=>
   cl PP 19 #[.q r4.1,.w (ByteArray.mk #[98])] [lI] fun r12=>
   nw (.cells #[.int .u8 49] 5) fun n4=>
   smW PP (convert 27 27 (.slice (some n4.z) 1 1)) [.lf .sl] fun v4=>
   cl PP 17 #[.q r4.1,.w (ByteArray.mk #[97]),.sv v4.1] [lI] fun r13=>
   cl PP 25 #[.q r4.1,.w (ByteArray.mk #[97])] [.lf .sl,lI] fun r14=>
   cl PP 26 #[.q r4.1,.w (ByteArray.mk #[97])] [.lf .bool,lI] fun r15=>
   cl PP 31 #[.q r4.1] [.lf .sl] fun r16=>
   cl PP 27 #[.q r4.1] [lI] fun r17=>
   cl PP 25 #[.q r4.1,.w (ByteArray.mk #[97])] [.lf .sl,lI] fun r18=>
   ifB (decide ((r8.1:Int)=0)) (
    ifB (decide ((r9.1:Int)=0)) (
     ifB (decide ((r10.1:Int)=0)) (
      ifB r11.1 (
       ifB (decide ((r12.1:Int)=1)) (
        ifB (decide ((r13.1:Int)=0)) (
         smR PP (Conv.bytesToString (.sv r14.1)) [.lf .str] fun v5=>
         ifB (decide (v5.1=(ByteArray.mk #[49]))) (
          ifB (decide ((r14.2.1:Int)=0)) (
           ifB r15.1 (
            ifB (decide ((r15.2.1:Int)=0)) (
             ifB (decide ((r16.1.len:Int)=1)) (
              ifB (decide ((r17.1:Int)=0)) (
               cl PP 31 #[.q r4.1] [.lf .sl] fun r19=>
               ifB (decide ((r19.1.len:Int)=0)) (
                ifB (decide ((r18.2.1:Int)=8)) (
                 cl PP 27 #[.q none] [lI] fun r20=>
                 ifB (decide ((r20.1:Int)=1)) (
                  cl PP 30 #[.q r4.1] [lI] fun r21=>
                  ifB (decide ((r21.1:Int)=2)) (
                   cl PP 29 #[.q r4.1] [lI] fun r22=>
                   ifB (decide ((r22.1:Int)=0)) (
                    cl PP 14 #[.q r4.1] [lI] fun r23=>
                    K (.b ((r23.1:Int)==3808))) (
                    K (.b false))) (
                   K (.b false))) (
                  K (.b false))) (
                 K (.b false))) (
                K (.b false))) (
               K (.b false))) (
              K (.b false))) (
             K (.b false))) (
            K (.b false))) (
           K (.b false))) (
          K (.b false))) (
         K (.b false))) (
        K (.b false))) (
       K (.b false))) (
      K (.b false))) (
     K (.b false))) (
    K (.b false))) fun j1=>
  ifB (decide ((r2.2.1:Int)=0)) (
    ifB (decide ((r4.2.1:Int)=0)) (
     ifB (decide ((r6.2.1:Int)=1)) (
      j1 (())) (
      K (.b false))) (
     K (.b false))) (
    K (.b false))
  :=e10.cc fun K=>by
  refine B0 fun r1=>B0 fun r2=>B0 fun r3=>B0 fun r4=>B0 fun r5=>B0 fun r6=>?_;refine U8 (fun y1=>?_) fun j1' j1 bP=>?_
  · refine B0 fun r7=>U0 fun n1=>Am3 fun v1=>B0 fun r8=>U0 fun n2=>Am3 fun v2=>B0 fun r9=>U0 fun n3=>Am3 fun v3=>B0 fun r10=>B0 fun r11=>B0 fun r12=>U0 fun n4=>Am3 fun v4=>B0 fun r13=>B0 fun r14=>B0 fun r15=>B0 fun r16=>B0 fun r17=>B0 fun r18=>?_
    refine C8 ?_ ?_
    · refine C8 ?_ ?_
      · refine C8 ?_ ?_
        · refine B9 ?_ ?_
          · refine C8 ?_ ?_
            · refine C8 ?_ ?_
              · refine Br8 fun v5=>?_
                refine Cq7 ?_ ?_
                · refine C8 ?_ ?_
                  · refine B9 ?_ ?_
                    · refine C8 ?_ ?_
                      · refine C8 ?_ ?_
                        · refine C8 ?_ ?_
                          · refine B0 fun r19=>?_
                            refine C8 ?_ ?_
                            · refine C8 ?_ ?_
                              · refine B0 fun r20=>?_
                                refine C8 ?_ ?_
                                · refine B0 fun r21=>?_
                                  refine C8 ?_ ?_
                                  · refine B0 fun r22=>?_
                                    refine C8 ?_ ?_
                                    · exact B0 fun r23=>A7
                                    · exact A7
                                  · exact A7
                                · exact A7
                              · exact A7
                            · exact A7
                          · exact A7
                        · exact A7
                      · exact A7
                    · exact A7
                  · exact A7
                · exact A7
              · exact A7
            · exact A7
          · exact A7
        · exact A7
      · exact A7
    · exact A7
  · refine E1 ?_ ?_
    · exact A7
    · refine E1 ?_ ?_
      · exact A7
      · refine E1 ?_ ?_
        · exact A7
        · exact E8 (bP _) rfl
theorem c11(x0:ShV Z2)(x1:Option Addr)(x2:Option Addr)(x3:ShV Z10)(x4:Int):CC 11 #[.agg (ki11 x0),.q x1,.q x2,.agg (kiwvii x3),.i x4] fun K=>
  ifB (decide ((x3.1:Int)=0)) (
   cl PP 17 #[.q x1,.w x3.2.1,.sv x3.2.2.1] [lI] fun r1=>
   K (.q x1)) (
   ifB (decide ((x3.1:Int)=1)) (
    cl PP 25 #[.q x1,.w x3.2.1] [.lf .sl,lI] fun r2=>
    K (.q x1)) (
    ifB (decide ((x3.1:Int)=2)) (
     cl PP 26 #[.q x1,.w x3.2.1] [.lf .bool,lI] fun r3=>
     K (.q x1)) (
     ifB (decide ((x3.1:Int)=3)) (
      cl PP 27 #[.q x1] [lI] fun r4=>
      K (.q x1)) (
      ifB (decide ((x3.1:Int)=4)) (
       cl PP 24 #[.q x1,.i x4] [] fun r5=>
       K (.q x1)) (
       ifB (decide ((x3.1:Int)=5)) (
        cl PP 12 #[.q x2,.i x3.2.2.2.1,.i x3.2.2.2.2.1] [] fun r6=>
        K (.q x1)) (
        ifB (decide ((x3.1:Int)=6)) (
         cl PP 38 #[.q x2] [] fun r7=>
         cl PP 36 #[.agg (ki11 x0),.q x2,.i x4] [.lf .ptr,lI] fun r8=>
         ifB (decide ((r8.2.1:Int)=0)) (
          K (.q r8.1)) (
          K (.q none))) (
         cl PP 20 #[.q x1,.w x3.2.1] [.lf .sl,lI] fun r9=>
         K (.q x1))))))))
  :=(e11 x0 x1 x2 x3 x4).cc fun K=>by
  refine D2 fun n1=>D2 fun n2=>B3 0 0 rfl rfl rfl ?_;refine C8 ?_ ?_
  · exact B3 0 1 rfl rfl rfl<|B3 0 2 rfl rfl rfl<|B0 fun r1=>A7
  · refine C8 ?_ ?_
    · exact B3 0 1 rfl rfl rfl<|B0 fun r2=>A7
    · refine C8 ?_ ?_
      · exact B3 0 1 rfl rfl rfl<|B0 fun r3=>A7
      · refine C8 ?_ ?_
        · exact B0 fun r4=>A7
        · refine C8 ?_ ?_
          · exact B0 fun r5=>A7
          · refine C8 ?_ ?_
            · exact B3 0 3 rfl rfl rfl<|B3 0 4 rfl rfl rfl<|B0 fun r6=>A7
            · refine C8 ?_ ?_
              · refine B0 fun r7=>B3 1 0 rfl rfl rfl<|B0 fun r8=>?_
                refine E1 ?_ ?_
                · exact A7
                · exact A7
              · exact B3 0 1 rfl rfl rfl<|B0 fun r9=>A7
theorem c13(x0:Option Addr)(x1:ByteArray):CC 13 #[.q x0,.w x1] fun K=>
  cl PP 39 #[.q x0,.w x1] [lI] fun r1=>
  ifB (decide ((r1.1:Int)=0)) (
   A8 x0 fun a1=>
   ld (Addr.add (a1.add 19) 1) (.lf .ptr) fun v1=>
   cl PP 41 #[.q x0,.w x1] [.lf (.int .u64)] fun r2=>
   keep (C9 (Addr.add (a1.add 19) 1) [.q v1])<|
   cl PP 40 #[.q v1,.int .u64 r2.1] [.lf .bool] fun r3=>
   K (.b r3.1)) (
   K (.b false))
  :=(e13 x0 x1).cc fun K=>by
  refine B0 fun r1=>?_;refine C8 ?_ ?_
  · exact C2 fun a1 aG=>B8 fun v1=>B0 fun r2=>S9<|B0 fun r3=>A7
  · exact A7
theorem c14(x0:Option Addr):CC 14 #[.q x0] fun K=>
 nw (.cells #[.q x0] 28) fun n1=>
 ld n1.z (.lf .ptr) fun v1=>
 cl PP 42 #[.q v1,.func (.func 43) #[] #[.p n1]] [lI] fun r1=>
 K (.i r1.1)
 :=(e14 x0).cc fun K=>by
 exact U0 fun n1=>B8 fun v1=>B0 fun r1=>A7
set_option maxRecDepth 100000
theorem c17(x0:Option Addr)(x1:ByteArray)(x2:SlV):CC 17 #[.q x0,.w x1,.slice x2.a x2.len x2.cap] fun K=>
  cl PP 39 #[.q x0,.w x1] [lI] fun r1=>
  ifB (decide ((r1.1:Int)=0)) (
   ifB (decide ((x2.len:Int)>65536)) (
    K (.i 4)) (
    cl PP 46 #[.q x0,.w x1] [.lf .bool] fun r2=>
    A8 x0 fun a1=>
    ld a1 Z4 fun v1=>
    cl PP 47 #[.i x1.size,.i x2.len,.agg (ki4 v1)] [lI] fun r3=>
    ifB (decide ((r3.1:Int)=0)) (
     K (.i 14)) (
     jn (fun y1:RsV []=>
      ld (a1.add 19) (.lf .ptr) fun v3=>
      cl PP 50 #[.q v3,.w x1,.slice x2.a x2.len x2.cap] [] fun r7=>
      cl PP 51 #[.q x0] [lI] fun r8=>
      K (.i r8.1)) fun j1=>
     ld (Addr.add (a1.add 19) 1) (.lf .ptr) fun v2=>
      cl PP 41 #[.q x0,.w x1] [.lf (.int .u64)] fun r4=>
      keep (C9 (Addr.add (a1.add 19) 1) [.q v2])<|
      cl PP 48 #[.q v2,.int .u64 r4.1] [.lf .bool] fun r5=>
      ifB r5.1 (
       cl PP 49 #[.q x0,.w x1,.slice x2.a x2.len x2.cap] [lI] fun r6=>
       ifB (decide ((r6.1:Int)=0)) (
        K (.i r6.1)) (
        ifB (decide ((r6.1:Int)=11)) (
         K (.i r6.1)) (
         j1 (())))) (
       j1 (()))))) (
   K (.i r1.1))
  :=(e17 x0 x1 x2).cc fun K=>by
  refine B0 fun r1=>?_;refine E1 ?_ ?_
  · exact A7
  · refine B9 ?_ ?_
    · exact A7
    · refine B0 fun r2=>C2 fun a1 aG=>B8 fun v1=>B0 fun r3=>?_
      refine C8 ?_ ?_
      · exact A7
      · refine U8 (fun y1=>?_) fun j1' j1 bP=>?_
        · exact B1 aG<|B8 fun v3=>B0 fun r7=>B0 fun r8=>A7
        · refine B1 aG<|B8 fun v2=>B0 fun r4=>S9<|B0 fun r5=>?_
          refine B9 ?_ ?_
          · refine B0 fun r6=>?_
            refine C8 ?_ ?_
            · exact A7
            · refine C8 ?_ ?_
              · exact A7
              · exact E8 (bP _) rfl
          · exact E8 (bP _) rfl
theorem c19(x0:Option Addr)(x1:ByteArray):CC 19 #[.q x0,.w x1] fun K=>
  cl PP 39 #[.q x0,.w x1] [lI] fun r1=>
  ifB (decide ((r1.1:Int)=0)) (
   A8 x0 fun a1=>
   ld (a1.add 19) (.lf .ptr) fun v1=>
   cl PP 52 #[.q v1,.w x1] [.lf .bool] fun r2=>
   ifB r2.1 (
    K (.i 1)) (
    cl PP 53 #[.q x0,.w x1] [Z1,.lf .sl,.lf .bool] fun r3=>
    ifB r3.2.2.1 (
     K (.i 2)) (
     K (.i 0)))) (
   K (.i 0))
  :=(e19 x0 x1).cc fun K=>by
  refine B0 fun r1=>?_;refine E1 ?_ ?_
  · exact A7
  · refine C2 fun a1 aG=>B8 fun v1=>B0 fun r2=>?_
    refine B9 ?_ ?_
    · exact A7
    · refine B0 fun r3=>D2 fun n1=>G2 0 0 rfl rfl rfl rfl ?_
      refine B9 ?_ ?_
      · exact A7
      · exact A7
theorem c20(x0:Option Addr)(x1:ByteArray):CC 20 #[.q x0,.w x1] fun K=>
  cl PP 39 #[.q x0,.w x1] [lI] fun r1=>
  ifB (decide ((r1.1:Int)=0)) (
   A8 x0 fun a1=>
   ld (a1.add 19) (.lf .ptr) fun v1=>
   cl PP 54 #[.q v1,.w x1] [.lf .sl,.lf .bool] fun r2=>
   ifB r2.2.1 (
    K (.t #[.sv r2.1,.i 0])) (
    cl PP 53 #[.q x0,.w x1] [Z1,.lf .sl,.lf .bool] fun r3=>
    ifB r3.2.2.1 (
     K (.t #[.sv r3.2.1,.i 0])) (
     K (.t #[.slice none 0 0,.i 8])))) (
   K (.t #[.slice none 0 0,.i r1.1]))
  :=(e20 x0 x1).cc fun K=>by
  refine B0 fun r1=>?_;refine E1 ?_ ?_
  · exact A7
  · refine C2 fun a1 aG=>B8 fun v1=>B0 fun r2=>?_
    refine B9 ?_ ?_
    · exact A7
    · refine B0 fun r3=>D2 fun n1=>G2 0 0 rfl rfl rfl rfl ?_
      refine K0 ?_ ?_
      · exact A7
      · exact A7
theorem c24(x0:Option Addr)(x1:Int):CC 24 #[.q x0,.i x1] fun K=>
  cl PP 57 #[.q x0] [.lf .bool] fun r1=>
  ifB r1.1 (
   A8 x0 fun a1=>
   ld (Addr.add (a1.add 11) 2) (.lf .ptr) fun v1=>
   cl PP 58 #[.q v1,.i x1] [] fun r2=>
   K (.t #[])) (
   K (.t #[]))
  :=(e24 x0 x1).cc fun K=>by
  refine B0 fun r1=>?_;refine B9 ?_ ?_
  · exact C2 fun a1 aG=>B8 fun v1=>B0 fun r2=>A7
  · exact A7
theorem c25(x0:Option Addr)(x1:ByteArray):CC 25 #[.q x0,.w x1] fun K=>
  cl PP 39 #[.q x0,.w x1] [lI] fun r1=>
  ifB (decide ((r1.1:Int)=0)) (
   A8 x0 fun a1=>
   ld (a1.add 19) (.lf .ptr) fun v1=>
   cl PP 59 #[.q v1,.w x1] [.lf .sl,.lf .bool] fun r2=>
   ifB r2.2.1 (
    K (.t #[.sv r2.1,.i 0])) (
    cl PP 53 #[.q x0,.w x1] [Z1,.lf .sl,.lf .bool] fun r3=>
    ifB r3.2.2.1 (
     ld (Addr.add (a1.add 19) 2) (.lf .ptr) fun v2=>
     cl PP 41 #[.q x0,.w x1] [.lf (.int .u64)] fun r4=>
     keep (C9 (Addr.add (a1.add 19) 2) [.q v2])<|
     cl PP 60 #[.q v2,.int .u64 r4.1,.agg (ki3 r3.1)] [.lf .bool] fun r5=>
     K (.t #[.sv r3.2.1,.i 0])) (
     K (.t #[.slice none 0 0,.i 8])))) (
   K (.t #[.slice none 0 0,.i r1.1]))
  :=(e25 x0 x1).cc fun K=>by
  refine B0 fun r1=>?_;refine E1 ?_ ?_
  · exact A7
  · refine C2 fun a1 aG=>B8 fun v1=>B0 fun r2=>?_
    refine B9 ?_ ?_
    · exact A7
    · refine B0 fun r3=>D2 fun n1=>G2 0 0 rfl rfl rfl rfl ?_
      refine K0 ?_ ?_
      · exact A7
      · exact B1 aG<|B8 fun v2=>B3 0 0 rfl rfl rfl<|B0 fun r4=>M8 0 0 rfl rfl rfl<|S9<|B0 fun r5=>A7
theorem c26(x0:Option Addr)(x1:ByteArray):CC 26 #[.q x0,.w x1] fun K=>
  cl PP 39 #[.q x0,.w x1] [lI] fun r1=>
  ifB (decide ((r1.1:Int)=0)) (
   cl PP 46 #[.q x0,.w x1] [.lf .bool] fun r2=>
   K (.t #[.b r2.1,.i 0])) (
   K (.t #[.b false,.i r1.1]))
  :=(e26 x0 x1).cc fun K=>by
  refine B0 fun r1=>?_;refine E1 ?_ ?_
  · exact A7
  · exact B0 fun r2=>A7
theorem c27(x0:Option Addr):CC 27 #[.q x0] fun K=>
  ifB (Option.isNone x0) (
   K (.i 1)) (
   A8 x0 fun a1=>
   ld (Addr.add (a1.add 11) 7) (.lf .bool) fun v1=>
   ifB v1 (
    K (.i 11)) (
    lp [] (()) fun z1 go1=>
     ld (Addr.add (a1.add 11) 6) (.lf .sl) fun v2=>
     ifB (decide ((v2.len:Int)>0)) (
      cl PP 61 #[.q x0,.i 1] [lI] fun r1=>
      ifB (decide ((r1.1:Int)=0)) (
       ld (Addr.add (a1.add 11) 6) (.lf .sl) fun v3=>
       ld (a1.add 2) (lI) fun v4=>
       cl PP 62 #[.i v4] [lI] fun r2=>
       keep (C9 (Addr.add (a1.add 11) 6) [.sv v3])<|
       w64 (Int.tdiv r2.1 6) fun i1=>
       ifB (decide ((Ad3 v3.len i1:Int)=0)) (
        K (.i 0)) (
        ld (Addr.add (a1.add 11) 6) (.lf .sl) fun v5=>
        slc v5 0 (Ad3 v3.len i1) v5.cap 3 fun s1=>
        cl PP 63 #[.sv s1] [.lf .sl,lI] fun r3=>
        ifB (decide ((r3.2.1:Int)=0)) (
         nw (.cells #[.slice r3.1.a r3.1.len r3.1.cap] 27) fun n1=>
         cl PP 64 #[.q (some (a1.add 11)),.i 3,.slice (some n1.z) 1 1] [Z1,lI] fun r4=>
         ifB (decide ((r4.2.1:Int)=0)) (
          ld (Addr.add (a1.add 11) 6) (.lf .sl) fun v6=>
          cl PP 65 #[.sv v6,.i 0,.i (Ad3 v3.len i1)] [.lf .sl] fun r5=>
          st (Addr.add (a1.add 11) 6) [.slice r5.1.a r5.1.len r5.1.cap]<|
          go1 (())) (
          K (.i r4.2.1))) (
         K (.i r3.2.1)))) (
       K (.i r1.1))) (
      K (.i 0))))
  :=(e27 x0).cc fun K=>by
  refine B9 ?_ ?_
  · exact A7
  · refine C2 fun a1 aG=>B8 fun v1=>?_
    refine B9 ?_ ?_
    · exact A7
    · refine K9 fun go1' go1 aD z1=>B1 aG<|B8 fun v2=>?_
      refine B9 ?_ ?_
      · refine B0 fun r1=>?_
        refine E1 ?_ ?_
        · exact A7
        · refine B1 aG<|B1 aG<|B8 fun v3=>B8 fun v4=>B0 fun r2=>S9<|Dn1 (by decide)<|D0 ?_
          refine C8 ?_ ?_
          · exact A7
          · refine B1 aG<|B8 fun v5=>A52 fun s1=>B0 fun r3=>?_
            refine E1 ?_ ?_
            · exact A7
            · refine B1 aG<|U0 fun n1=>B0 fun r4=>D2 fun n2=>G2 0 0 rfl rfl rfl rfl ?_
              refine E1 ?_ ?_
              · exact A7
              · exact B1 aG<|B8 fun v6=>B0 fun r5=>B1 aG<|Ae5<|E8 (aD _) rfl
      · exact A7
theorem c29(x0:Option Addr):CC 29 #[.q x0] fun K=>
 nw (.cells #[.q x0] 28) fun n1=>
 ld n1.z (.lf .ptr) fun v1=>
 cl PP 42 #[.q v1,.func (.func 67) #[] #[.p n1]] [lI] fun r1=>
 K (.i r1.1)
 :=(e29 x0).cc fun K=>by
 exact U0 fun n1=>B8 fun v1=>B0 fun r1=>A7
theorem c30(x0:Option Addr):CC 30 #[.q x0] fun K=>
 nw (.cells #[.q x0] 28) fun n1=>
 ld n1.z (.lf .ptr) fun v1=>
 cl PP 42 #[.q v1,.func (.func 69) #[] #[.p n1]] [lI] fun r1=>
 K (.i r1.1)
 :=(e30 x0).cc fun K=>by
 exact U0 fun n1=>B8 fun v1=>B0 fun r1=>A7
theorem c31(x0:Option Addr):CC 31 #[.q x0] fun K=>
  cl PP 57 #[.q x0] [.lf .bool] fun r1=>
  ifB r1.1 (
   A8 x0 fun a1=>
   ld (Addr.add (a1.add 11) 6) (.lf .sl) fun v1=>
   cl PP 71 #[.sv v1] [.lf .sl] fun r2=>
   K (.sv r2.1)) (
   K (.slice none 0 0))
  :=(e31 x0).cc fun K=>by
  refine B0 fun r1=>?_;refine K0 ?_ ?_
  · exact A7
  · exact C2 fun a1 aG=>B8 fun v1=>B0 fun r2=>A7
theorem c36(x0:ShV Z2)(x1:Option Addr)(x2:Int):CC 36 #[.agg (ki11 x0),.q x1,.i x2] fun K=>
  ifB (Option.isNone x1) (
   K (.t #[.q none,.i 1])) (
   cl PP 92 (kii x0.2.2.2.2) [.lf .ptr,lI] fun r1=>
   jn (fun y1:RsV []=>
    cl PP 95 #[.q x1] [Z12,lI] fun r4=>
    ifB (decide ((r4.2.1:Int)=0)) (
     cl PP 96 #[.i x0.2.2.2.2.2.2.2.2.1,.i x0.2.2.2.2.2.2.2.2.2.1,.i x2,.i 0] [.lf .ptr] fun r5=>
     cl PP 97 #[.i x0.2.2.2.2.2.2.1] [.lf .ptr] fun r6=>
     cl PP 98 #[.i x0.2.2.2.2.2.2.2.1] [.lf .ptr] fun r7=>
     nw (.map #[] 0) fun n3=>
     nw (.cells #[.i x0.1,.i x0.2.1,.i x0.2.2.1,.i x0.2.2.2.1,.i x0.2.2.2.2.1,.i x0.2.2.2.2.2.1,.i x0.2.2.2.2.2.2.1,.i x0.2.2.2.2.2.2.2.1,.i x0.2.2.2.2.2.2.2.2.1,.i x0.2.2.2.2.2.2.2.2.2.1,.i x0.2.2.2.2.2.2.2.2.2.2.1,.q x1,.q none,.q r5.1,.map (some n3),.q none,.i r4.1.2.2.1,.slice none 0 0,.b false,.q r6.1,.q r7.1,.q r1.1] 89) fun n4=>
     lp [.lf .sl,lI] (⟨none,0,0⟩,0,()) fun z1 go1=>
      ifB (decide ((z1.2.1:Int)<r4.1.1.len)) (
       elp r4.1.1.a r4.1.1.len z1.2.1 3 fun a1=>
       ld a1 Z5 fun v2=>
       apv PP 49 49 49 3 z1.1 1 [.i v2.1] fun s1=>
       ld (Addr.add (Addr.add n4.z 11) 3) (.lf .map) fun v3=>
       nw (.cells #[.i v2.1,.i v2.2.1,.i 0,.slice v2.2.2.1.a v2.2.2.1.len v2.2.2.1.cap] 156) fun n7=>
       smU PP (Instr.mapUpdate 79 (.map v3) (.i v2.1) (.p n7))<|
       w64 (z1.2.1+1) fun i1=>
       go1 (s1,i1,())) (
       cl PP 100 #[.q x1] [.lf .sl] fun r8=>
       cl PP 99 #[.sv r8.1,.sv z1.1] [.lf .ptr,lI] fun r9=>
       st (Addr.add (Addr.add n4.z 11) 1) [.q r9.1]<|
       ifB (decide ((r9.2.1:Int)=0)) (
        lp [lI] (0,()) fun z2 go2=>
         ifB (decide ((z2.1:Int)<r4.1.2.1.len)) (
          elp r4.1.2.1.a r4.1.2.1.len z2.1 4 fun a2=>
          ld a2 Z6 fun v4=>
          cl PP 101 #[.p n4,.w v4.1,.agg (ki3 v4.2)] [] fun r10=>
          w64 (z2.1+1) fun i2=>
          go2 (i2,())) (
          K (.t #[.p n4,.i 0]))) (
        K (.t #[.q none,.i r9.2.1])))) (
     K (.t #[.q none,.i r4.2.1]))) fun j1=>
   cl PP 93 #[.q x1] [Z4] fun r2=>
    smP PP (binOp .neq 23 (.agg (ki4 r2.1)) (.agg (ki4 x0))) (.lf .bool) fun v1=>
    ifB v1 (
     K (.t #[.q none,.i 30])) (
     ifB (decide ((r1.2.1:Int)=0)) (
      cl PP 94 #[.agg (ki11 x0)] [.lf .bool] fun r3=>
      ifB r3.1 (
       j1 (())) (
       K (.t #[.q none,.i 30]))) (
      K (.t #[.q none,.i 30]))))
  :=(e36 x0 x1 x2).cc fun K=>by
  refine D2 fun n1=>?_;refine B9 ?_ ?_
  · exact A7
  · refine B3 0 4 rfl rfl rfl<|B3 0 5 rfl rfl rfl<|B0 fun r1=>?_
    refine U8 (fun y1=>?_) fun j1' j1 bP=>?_
    · refine B0 fun r4=>D2 fun n2=>G2 0 0 rfl rfl rfl rfl ?_
      refine E1 ?_ ?_
      · exact A7
      · refine B3 1 0 rfl rfl rfl<|B3 1 8 rfl rfl rfl<|B3 1 9 rfl rfl rfl<|B3 0 2 rfl rfl rfl<|B3 1 6 rfl rfl rfl<|B3 1 7 rfl rfl rfl<|B0 fun r5=>M8 1 7 rfl rfl rfl<|M8 1 6 rfl rfl rfl<|M8 0 2 rfl rfl rfl<|M8 1 0 rfl rfl rfl<|B0 fun r6=>M8 1 7 rfl rfl rfl<|M8 0 2 rfl rfl rfl<|M8 1 0 rfl rfl rfl<|B0 fun r7=>M8 0 2 rfl rfl rfl<|M8 1 0 rfl rfl rfl<|U0 fun n3=>U0 fun n4=>B3 0 0 rfl rfl rfl<|K9 fun go1' go1 aD z1=>?_
        refine B9 ?_ ?_
        · exact H8 fun a1 aG=>B8 fun v2=>D2 fun n5=>G2 0 0 rfl rfl rfl rfl<|B3 0 0 rfl rfl rfl<|D2 fun n6=>Ae6 (v:=_) 0 rfl fun s1=>B8 fun v3=>B3 1 0 rfl rfl rfl<|B3 1 0 rfl rfl rfl<|B3 1 1 rfl rfl rfl<|B3 1 2 rfl rfl rfl<|U0 fun n7=>B66<|D0<|H7 3 rfl rfl<|H7 3 rfl rfl<|E8 (aD _) rfl
        · refine B0 fun r8=>B0 fun r9=>Ae5 ?_
          refine E1 ?_ ?_
          · exact A7
          · refine B3 0 1 rfl rfl rfl<|K9 fun go2' go2 cV z2=>?_
            refine B9 ?_ ?_
            · exact H8 fun a2 bA=>B8 fun v4=>D2 fun n8=>G2 0 0 rfl rfl rfl rfl<|B3 0 0 rfl rfl rfl<|B3 0 1 rfl rfl rfl<|B0 fun r10=>D0<|H7 2 rfl rfl<|H7 2 rfl rfl<|E8 (cV _) rfl
            · exact A7
    · refine B3 0 0 rfl rfl rfl<|B0 fun r2=>M8 0 0 rfl rfl rfl<|Cq6 fun v1=>?_
      refine B9 ?_ ?_
      · exact A7
      · refine E1 ?_ ?_
        · exact A7
        · refine B3 0 0 rfl rfl rfl<|B0 fun r3=>?_
          refine K0 ?_ ?_
          · exact A7
          · exact E8 (bP _) rfl
theorem c37:CC 37 #[] fun K=>
 K (.agg #[.i 4,.i 8,.i 64,.i 1000,.i 4,.i 4,.i 12,.i 8,.i 1000,.i 4000,.i 0])
 :=e37.cc fun K=>by
 exact D2 fun n1=>G2 0 0 rfl rfl rfl rfl<|B3 0 0 rfl rfl rfl<|A7
theorem c39(x0:Option Addr)(x1:ByteArray):CC 39 #[.q x0,.w x1] fun K=>
  ifB (Option.isNone x0) (
   K (.i 1)) (
   A8 x0 fun a1=>
   ld (Addr.add (a1.add 11) 7) (.lf .bool) fun v1=>
   ifB v1 (
    K (.i 11)) (
    ifB (decide (x1=(ByteArray.mk #[]))) (
     K (.i 2)) (
     ifB (decide ((x1.size:Int)>255)) (
      K (.i 2)) (
      K (.i 0)))))
  :=(e39 x0 x1).cc fun K=>by
  refine B9 ?_ ?_
  · exact A7
  · refine C2 fun a1 aG=>B8 fun v1=>?_
    refine B9 ?_ ?_
    · exact A7
    · refine Cq7 ?_ ?_
      · exact A7
      · refine B9 ?_ ?_
        · exact A7
        · exact A7
set_option maxRecDepth 100000
theorem c41(x0:Option Addr)(x1:ByteArray):CC 41 #[.q x0,.w x1] fun K=>
 A8 x0 fun a1=>
 ld (a1.add 10) (lI) fun v1=>
 cl PP 104 #[.i v1,.w x1] [.lf (.int .u64)] fun r1=>
 K (.int .u64 r1.1)
 :=(e41 x0 x1).cc fun K=>by
 exact C2 fun a1 aG=>B8 fun v1=>B0 fun r1=>A7
theorem c42(x0:Option Addr)(x1:FnV):CC 42 #[.q x0,.func x1.fn x1.first x1.captured] fun K=>
  cl PP 57 #[.q x0] [.lf .bool] fun r1=>
  ifB r1.1 (
   clv PP x1.fn (x1.first++#[]) x1.captured [lI] fun r2=>
   K (.i r2.1)) (
   K (.i 0))
  :=(e42 x0 x1).cc fun K=>by
  refine B0 fun r1=>?_;refine K0 ?_ ?_
  · exact A7
  · exact Bb2 fun r2=>A7
theorem c43(x0:Option Addr):CC 43 #[.q x0] fun K=>
 A8 x0 fun a1=>
 ld a1 (.lf .ptr) fun v1=>
 A8 v1 fun a2=>
 ld (Addr.add (a2.add 11) 2) (.lf .ptr) fun v2=>
 cl PP 44 #[.q v2] [lI] fun r1=>
 K (.i r1.1)
 :=(e43 x0).cc fun K=>by
 exact C2 fun a1 aG=>B8 fun v1=>C2 fun a2 bA=>B8 fun v2=>B0 fun r1=>A7
theorem c46(x0:Option Addr)(x1:ByteArray):CC 46 #[.q x0,.w x1] fun K=>
  A8 x0 fun a1=>
  ld (a1.add 19) (.lf .ptr) fun v1=>
  cl PP 105 #[.q v1,.w x1] [.lf .bool] fun r1=>
  cl PP 53 #[.q x0,.w x1] [Z1,.lf .sl,.lf .bool] fun r2=>
  ifB r2.2.2.1 (
   ld (Addr.add (a1.add 19) 2) (.lf .ptr) fun v2=>
   cl PP 41 #[.q x0,.w x1] [.lf (.int .u64)] fun r3=>
   keep (C9 (Addr.add (a1.add 19) 2) [.q v2])<|
   cl PP 106 #[.q v2,.int .u64 r3.1,.agg (ki3 r2.1)] [.lf .bool] fun r4=>
   ld (Addr.add (a1.add 11) 6) (.lf .sl) fun v3=>
   apv PP 55 55 55 102 v3 1 [.i r2.1.1,.i r2.1.2.1,.i r2.1.2.2.1] fun s1=>
   st (Addr.add (a1.add 11) 6) [.slice s1.a s1.len s1.cap]<|
   ifB r1.1 (
    K (.b true)) (
    K (.b r2.2.2.1))) (
   ifB r1.1 (
    K (.b true)) (
    K (.b r2.2.2.1)))
  :=(e46 x0 x1).cc fun K=>by
  refine C2 fun a1 aG=>B8 fun v1=>B0 fun r1=>B0 fun r2=>D2 fun n1=>G2 0 0 rfl rfl rfl rfl ?_;refine B9 ?_ ?_
  · refine B1 aG<|B8 fun v2=>B3 0 0 rfl rfl rfl<|B0 fun r3=>M8 0 0 rfl rfl rfl<|S9<|B0 fun r4=>B1 aG<|B8 fun v3=>B3 0 0 rfl rfl rfl<|D2 fun n2=>Ae6 (v:=_) 0 rfl fun s1=>B1 aG<|Ae5 ?_
    refine B9 ?_ ?_
    · exact A7
    · exact A7
  · refine B9 ?_ ?_
    · exact A7
    · exact A7
theorem c49(x0:Option Addr)(x1:ByteArray)(x2:SlV):CC 49 #[.q x0,.w x1,.slice x2.a x2.len x2.cap] fun K=>
  A8 x0 fun a1=>
  ld a1 Z4 fun v1=>
  cl PP 111 #[.w x1,.slice x2.a x2.len x2.cap,.agg (ki4 v1)] [.lf .sl,lI] fun r1=>
  ifB (decide ((r1.2.1:Int)=0)) (
   cl PP 61 #[.q x0,.i r1.1.len] [lI] fun r2=>
   ifB (decide ((r2.1:Int)=0)) (
    cl PP 64 #[.q (some (a1.add 11)),.i 2,.slice r1.1.a r1.1.len r1.1.cap] [Z1,lI] fun r3=>
    ifB (decide ((r3.2.1:Int)=0)) (
     cl PP 101 #[.q x0,.w x1,.agg (ki3 r3.1)] [] fun r4=>
     K (.i r3.2.1)) (
     K (.i r3.2.1))) (
    K (.i r2.1))) (
   K (.i r1.2.1))
  :=(e49 x0 x1 x2).cc fun K=>by
  refine C2 fun a1 aG=>B8 fun v1=>B0 fun r1=>?_;refine E1 ?_ ?_
  · exact A7
  · refine B0 fun r2=>?_
    refine E1 ?_ ?_
    · exact A7
    · refine B1 aG<|B0 fun r3=>D2 fun n1=>G2 0 0 rfl rfl rfl rfl ?_
      refine C8 ?_ ?_
      · exact B3 0 0 rfl rfl rfl<|B0 fun r4=>A7
      · exact A7
theorem c51(x0:Option Addr):CC 51 #[.q x0] fun K=>
  lp [] (()) fun z1 go1=>
   A8 x0 fun a1=>
   ld (a1.add 19) (.lf .ptr) fun v1=>
   cl PP 113 #[.q v1] [.lf .bool] fun r1=>
   ifB r1.1 (
    ld (a1.add 19) (.lf .ptr) fun v2=>
    cl PP 114 #[.q v2] [Z13,.lf .bool] fun r2=>
    jn (fun y1:RsV [lI]=>
     ifB (decide ((y1.1:Int)=0)) (
      go1 (())) (
      ifB (decide ((y1.1:Int)=11)) (
       K (.i y1.1)) (
       ld (Addr.add (a1.add 19) 1) (.lf .ptr) fun v3=>
       cl PP 41 #[.q x0,.w r2.1.1] [.lf (.int .u64)] fun r4=>
       keep (C9 (Addr.add (a1.add 19) 1) [.q v3])<|
       cl PP 115 #[.q v3,.int .u64 r4.1] [] fun r5=>
       go1 (())))) fun j1=>
    ifB (decide ((r2.1.2.2.1:Int)>0)) (
      cl PP 49 #[.q x0,.w r2.1.1,.sv r2.1.2.1] [lI] fun r3=>
      j1 (r3.1,())) (
      j1 (8,()))) (
    K (.i 0))
  :=(e51 x0).cc fun K=>by
  refine K9 fun go1' go1 aD z1=>C2 fun a1 aG=>B8 fun v1=>B0 fun r1=>?_;refine B9 ?_ ?_
  · refine B1 aG<|B8 fun v2=>B0 fun r2=>D2 fun n1=>G2 0 0 rfl rfl rfl rfl ?_
    refine U8 (fun y1=>?_) fun j1' j1 bP=>?_
    · refine C8 ?_ ?_
      · exact E8 (aD _) rfl
      · refine C8 ?_ ?_
        · exact A7
        · exact B1 aG<|B8 fun v3=>B3 0 0 rfl rfl rfl<|B0 fun r4=>S9<|B0 fun r5=>E8 (aD _) rfl
    · refine B3 0 2 rfl rfl rfl ?_
      refine B9 ?_ ?_
      · exact B3 0 0 rfl rfl rfl<|B3 0 1 rfl rfl rfl<|B0 fun r3=>E8 (bP _) rfl
      · exact E8 (bP _) rfl
  · exact A7
theorem c53(x0:Option Addr)(x1:ByteArray):CC 53 #[.q x0,.w x1] fun K=>
  A8 x0 fun a1=>
  ld (Addr.add (a1.add 19) 2) (.lf .ptr) fun v1=>
  cl PP 41 #[.q x0,.w x1] [.lf (.int .u64)] fun r1=>
  keep (C9 (Addr.add (a1.add 19) 2) [.q v1])<|
  cl PP 117 #[.q v1,.int .u64 r1.1] [.lf .sl] fun r2=>
  lp [lI] (0,()) fun z1 go1=>
   ifB (decide ((z1.1:Int)<r2.1.len)) (
    elp r2.1.a r2.1.len z1.1 3 fun a2=>
    ld a2 Z1 fun v2=>
    ld (a1.add 11) (.lf .ptr) fun v3=>
    cl PP 118 #[.q v3,.agg (ki3 v2)] [.lf .str,.lf .sl,lI] fun r3=>
    ifB (decide ((r3.2.2.1:Int)=0)) (
     ifB (decide (r3.1=x1)) (
      K (.t #[.agg (ki3 v2),.sv r3.2.1,.b true])) (
      w64 (z1.1+1) fun i1=>
      go1 (i1,()))) (
     w64 (z1.1+1) fun i2=>
     go1 (i2,()))) (
    K (.t #[.agg #[.i 0,.i 0,.i 0],.slice none 0 0,.b false]))
  :=(e53 x0 x1).cc fun K=>by
  refine D2 fun n1=>C2 fun a1 aG=>B8 fun v1=>B0 fun r1=>S9<|B0 fun r2=>K9 fun go1' go1 aD z1=>?_;refine B9 ?_ ?_
  · refine H8 fun a2 bA=>B8 fun v2=>D2 fun n2=>G2 0 0 rfl rfl rfl rfl<|B1 aG<|B8 fun v3=>B3 0 0 rfl rfl rfl<|B0 fun r3=>?_
    refine C8 ?_ ?_
    · refine Cq7 ?_ ?_
      · exact B3 0 0 rfl rfl rfl<|G2 1 0 rfl rfl rfl rfl<|B3 1 0 rfl rfl rfl<|A7
      · exact D0<|H7 1 rfl rfl<|E8 (aD _) rfl
    · exact D0<|H7 1 rfl rfl<|E8 (aD _) rfl
  · exact G2 0 0 rfl rfl rfl rfl<|B3 0 0 rfl rfl rfl<|A7
theorem c57(x0:Option Addr):CC 57 #[.q x0] fun K=>
  ifB (Option.isNone x0) (
   K (.b false)) (
   A8 x0 fun a1=>
   ld (Addr.add (a1.add 11) 7) (.lf .bool) fun v1=>
   K (.b (!v1)))
  :=(e57 x0).cc fun K=>by
  refine K0 ?_ ?_
  · exact C2 fun a1 aG=>B8 fun v1=>A7
  · exact A7
theorem c61(x0:Option Addr)(x1:Int):CC 61 #[.q x0,.i x1] fun K=>
  lp [] (()) fun z1 go1=>
   A8 x0 fun a1=>
   nw (.cells #[.i x1] 3) fun n1=>
   cl PP 126 #[.q (some (a1.add 11)),.slice (some n1.z) 1 1] [.lf .bool] fun r1=>
   ifB r1.1 (
    nw (.cells #[.i x1] 3) fun n2=>
    cl PP 128 #[.q (some (a1.add 11)),.slice (some n2.z) 1 1] [.lf .bool] fun r3=>
    ifB r3.1 (
     K (.i 0)) (
     K (.i 13))) (
    cl PP 127 #[.q x0,.i x1] [lI] fun r2=>
    ifB (decide ((r2.1:Int)=0)) (
     go1 (())) (
     K (.i r2.1)))
  :=(e61 x0 x1).cc fun K=>by
  refine K9 fun go1' go1 aD z1=>C2 fun a1 aG=>U0 fun n1=>B0 fun r1=>?_;refine K0 ?_ ?_
  · refine B0 fun r2=>?_
    refine E1 ?_ ?_
    · exact A7
    · exact E8 (aD _) rfl
  · refine B1 aG<|U0 fun n2=>B0 fun r3=>?_
    refine K0 ?_ ?_
    · exact A7
    · exact A7
theorem c64(x0:Option Addr)(x1:Int)(x2:SlV):CC 64 #[.q x0,.i x1,.sv x2] fun K=>
  A8 x0 fun a1=>
  ld (a1.add 4) (.lf .ptr) fun v1=>
  ld (a1.add 2) (.lf .ptr) fun v2=>
  nw (.cells #[.i x2.len] 3) fun n2=>
  cl PP 134 #[.q x0,.slice (some n2.z) 1 1] [lI] fun r1=>
  keep (C9 (a1.add 2) [.q v2])<|
  cl PP 133 #[.q v2,.i r1.1] [.lf .bool] fun r2=>
  A8 v1 fun a2=>
  ld a2 (lI) fun v3=>
  ld (a2.add 2) (lI) fun v4=>
  ld (a2.add 1) (lI) fun v5=>
  ld a1 (.lf .ptr) fun v6=>
  ld a2 (lI) fun v7=>
  ld (a2.add 1) (lI) fun v8=>
  ld (a2.add 2) (lI) fun v9=>
  cl PP 135 #[.q v6,.i v7,.i v8,.i v9,.i x1,.sv x2] [lI] fun r3=>
  ifB (decide ((r3.1:Int)=0)) (
   ld (a2.add 3) (.lf .sl) fun v10=>
   ld (a2.add 2) (lI) fun v11=>
   apv PP 152 152 152 215 v10 1 [.i x1,.i v11,.i x2.len] fun s1=>
   st (a2.add 3) [.slice s1.a s1.len s1.cap]<|
   ld (a2.add 2) (lI) fun v12=>
   w64 (v12+x2.len) fun i1=>
   st (a2.add 2) [.i i1]<|
   K (.t #[.agg #[.i v3,.i v4,.i v5],.i 0])) (
   cl PP 136 #[.q x0,.i r3.1] [lI] fun r4=>
   K (.t #[.agg #[.i v3,.i v4,.i v5],.i r4.1]))
  :=(e64 x0 x1 x2).cc fun K=>by
  refine D2 fun n1=>C2 fun a1 aG=>B8 fun v1=>B1 aG<|B8 fun v2=>U0 fun n2=>B0 fun r1=>S9<|B0 fun r2=>C2 fun a2 bA=>B1 bA<|B1 bA<|B8 fun v3=>B8 fun v4=>B8 fun v5=>D2 fun n3=>G2 0 0 rfl rfl rfl rfl<|B1 aG<|B1 bA<|B1 bA<|B1 bA<|B8 fun v6=>B8 fun v7=>B8 fun v8=>B8 fun v9=>B0 fun r3=>?_;refine E1 ?_ ?_
  · exact B3 0 0 rfl rfl rfl<|B0 fun r4=>M8 0 0 rfl rfl rfl<|G2 1 0 rfl rfl rfl rfl<|B3 1 0 rfl rfl rfl<|A7
  · exact B1 bA<|B1 bA<|B8 fun v10=>B8 fun v11=>D2 fun n4=>Ae6 (v:=_) 0 rfl fun s1=>B1 bA<|Ae5<|B1 bA<|B8 fun v12=>D0<|B1 bA<|Ae5<|B3 1 0 rfl rfl rfl<|G2 2 0 rfl rfl rfl rfl<|B3 2 0 rfl rfl rfl<|A7
theorem c65(x0:SlV)(x1:Int)(x2:Int):CC 65 #[.sv x0,.i x1,.i x2] fun K=>
  slc x0 x1 x2 x0.len 3 fun s1=>
  ifB (decide ((x1:Int)=x2)) (
   K (.sv x0)) (
   slc x0 0 x1 x0.cap 3 fun s2=>
   slc x0 x2 x0.len x0.cap 3 fun s3=>
   smW PP (Builtin.append_ #[55,55] 55 #[.sv s2,.sv s3]) [.lf .sl] fun v1=>
   slc v1.1 v1.1.len x0.len v1.1.cap 3 fun s4=>
   smW PP (Builtin.clear_ #[55] 0 #[.sv s4]) [] fun v2=>
   K (.sv v1.1))
  :=(e65 x0 x1 x2).cc fun K=>by
  refine A52 fun s1=>?_;refine C8 ?_ ?_
  · exact A7
  · exact A52 fun s2=>A52 fun s3=>Am3 fun v1=>A52 fun s4=>Am3 fun v2=>A7
theorem c67(x0:Option Addr):CC 67 #[.q x0] fun K=>
 A8 x0 fun a1=>
 ld a1 (.lf .ptr) fun v1=>
 A8 v1 fun a2=>
 ld (Addr.add (a2.add 19) 2) (.lf .ptr) fun v2=>
 cl PP 68 #[.q v2] [lI] fun r1=>
 K (.i r1.1)
 :=(e67 x0).cc fun K=>by
 exact C2 fun a1 aG=>B8 fun v1=>C2 fun a2 bA=>B8 fun v2=>B0 fun r1=>A7
theorem c69(x0:Option Addr):CC 69 #[.q x0] fun K=>
 A8 x0 fun a1=>
 ld a1 (.lf .ptr) fun v1=>
 A8 v1 fun a2=>
 ld (a2.add 19) (.lf .ptr) fun v2=>
 cl PP 70 #[.q v2] [lI] fun r1=>
 K (.i r1.1)
 :=(e69 x0).cc fun K=>by
 exact C2 fun a1 aG=>B8 fun v1=>C2 fun a2 bA=>B8 fun v2=>B0 fun r1=>A7
theorem c71(x0:SlV):CC 71 #[.slice x0.a x0.len x0.cap] fun K=>
  ifB (Option.isNone x0.a) (
   K (.slice none 0 0)) (
   nw (.cells #[] 102) fun n1=>
   smW PP (Builtin.append_ #[55,55] 55 #[.slice (some n1.z) 0 0,.slice x0.a x0.len x0.cap]) [.lf .sl] fun v1=>
   K (.slice v1.1.a v1.1.len v1.1.cap))
  :=(e71 x0).cc fun K=>by
  refine B9 ?_ ?_
  · exact A7
  · exact U0 fun n1=>Am3 fun v1=>A7
set_option maxRecDepth 100000
theorem c94(x0:ShV Z2):CC 94 #[.agg (ki11 x0)] fun K=>
  cl PP 164 #[.i x0.2.2.2.2.2.2.1,.i 65536] [.lf .bool] fun r1=>
  ifB r1.1 (
   cl PP 164 #[.i x0.2.2.2.2.2.2.2.1,.i 64] [.lf .bool] fun r2=>
   cl PP 164 #[.i x0.2.2.2.2.2.2.2.2.1,.i 1048576] [.lf .bool] fun r3=>
   ifB r3.1 (
    cl PP 164 #[.i x0.2.2.2.2.2.2.2.2.2.1,.i 1073741824] [.lf .bool] fun r4=>
    ifB r2.1 (
     ifB r4.1 (
      w64 (x0.2.1-2) fun i1=>
      w64 (3*i1) fun i2=>
      cl PP 62 #[.i x0.2.2.1] [lI] fun r5=>
      K (.b (decide ((i2:Int)<=r5.1)))) (
      K (.b false))) (
     K (.b false))) (
    ifB r2.1 (
     K (.b false)) (
     K (.b false)))) (
   cl PP 164 #[.i x0.2.2.2.2.2.2.2.2.1,.i 1048576] [.lf .bool] fun r6=>
   ifB r6.1 (
    cl PP 164 #[.i x0.2.2.2.2.2.2.2.2.2.1,.i 1073741824] [.lf .bool] fun r7=>
    K (.b false)) (
    K (.b false)))
  :=(e94 x0).cc fun K=>by
  refine D2 fun n1=>B3 0 6 rfl rfl rfl<|B0 fun r1=>?_;refine B9 ?_ ?_
  · refine B3 0 7 rfl rfl rfl<|B0 fun r2=>B3 0 8 rfl rfl rfl<|B0 fun r3=>?_
    refine B9 ?_ ?_
    · refine B3 0 9 rfl rfl rfl<|B0 fun r4=>?_
      refine B9 ?_ ?_
      · refine B9 ?_ ?_
        · exact B3 0 1 rfl rfl rfl<|D0<|D0<|B3 0 2 rfl rfl rfl<|B0 fun r5=>M8 0 1 rfl rfl rfl<|A7
        · exact A7
      · exact A7
    · refine B9 ?_ ?_
      · exact A7
      · exact A7
  · refine B3 0 8 rfl rfl rfl<|B0 fun r6=>?_
    refine B9 ?_ ?_
    · exact B3 0 9 rfl rfl rfl<|B0 fun r7=>A7
    · exact A7
theorem c95(x0:Option Addr):CC 95 #[.q x0] fun K=>
  nw (.cells #[.q x0] 29) fun n1=>
  ld n1.z (.lf .ptr) fun v1=>
  ifB (Option.isNone v1) (
   K (.t #[.agg #[.slice none 0 0,.slice none 0 0,.i 0],.i 1])) (
   ld n1.z (.lf .ptr) fun v2=>
   cl PP 18 #[.q v2] [.lf .bool] fun r1=>
   ifB r1.1 (
    K (.t #[.agg #[.slice none 0 0,.slice none 0 0,.i 0],.i 11])) (
    ld n1.z (.lf .ptr) fun v3=>
    cl PP 165 #[.q v3] [.lf .sl,.lf .sl,lI] fun r2=>
    nw (.cells #[.slice none 0 0] 243) fun n3=>
    st n3.z [.slice r2.2.1.a r2.2.1.len r2.2.1.cap]<|
    ifB (decide ((r2.2.2.1:Int)=0)) (
     lp [lI,lI] (0,0,()) fun z1 go1=>   --,n4.2
      ifB (decide ((z1.1:Int)<r2.1.len)) (
       elp r2.1.a r2.1.len z1.1 3 fun a1=>
       ld a1 Z5 fun v4=>
       w64 (z1.1+1) fun i1=>
       go1 (i1,Aa2 z1.2.1 v4.2.1,())) (
       nw (.cells #[.slice none 0 0] 144) fun n6=>
       nw (.map #[] 0) fun n7=>
       nw (.cells #[.map none] 246) fun n8=>
       st n8.z [.map (some n7)]<|
       cl PP 166 #[.sv r2.1,.i 2,.func (.func 167) #[] #[.p n1,.p n6,.p n8]] [] fun r3=>
       nw (.map #[] 0) fun n9=>
       nw (.cells #[.map none] 249) fun n10=>
       st n10.z [.map (some n9)]<|
       cl PP 166 #[.sv r2.1,.i 3,.func (.func 168) #[] #[.p n3,.p n10]] [] fun r4=>
       ld n6.z (.lf .sl) fun v5=>
       lp [lI] (0,()) fun z2 go2=>
        ifB (decide ((z2.1:Int)<v5.len)) (
         elp v5.a v5.len z2.1 4 fun a2=>
         ld a2 Z6 fun v6=>
         ld n10.z (.lf .map) fun v7=>
         ld n8.z (.lf .map) fun v8=>
         smR PP (Instr.lookup 246 (.map v8) (.w v6.1) false) [Z1] fun v9=>
         smR PP (Instr.lookup 249 (.map v7) (.agg (ki3 v9.1)) false) [.lf .bool] fun v10=>
         ifB v10.1 (
          ld n8.z (.lf .map) fun v11=>
          smW PP (Builtin.delete_ #[246,9] 0 #[.map v11,.w v6.1]) [] fun v12=>
          w64 (z2.1+1) fun i2=>
          go2 (i2,())) (
          w64 (z2.1+1) fun i3=>
          go2 (i3,()))) (
         ld n6.z (.lf .sl) fun v13=>
         lp [lI,.lf .sl,lI] (0,⟨none,0,0⟩,z1.2.1,()) fun z3 go3=>   --,n4.1,n4.2
          ifB (decide ((z3.1:Int)<v13.len)) (
           elp v13.a v13.len z3.1 4 fun a3=>
           ld a3 Z6 fun v14=>
           ld n8.z (.lf .map) fun v15=>
           smR PP (Instr.lookup 246 (.map v15) (.w v14.1) true) [Z1,.lf .bool] fun v16=>
           ifB v16.2.1 (
            smP PP (binOp .eql 102 (.agg (ki3 v16.1)) (.agg (ki3 v14.2))) (.lf .bool) fun v17=>
            ifB v17 (
             apv PP 144 144 144 162 z3.2.1 1 [.w v14.1,.i v14.2.1,.i v14.2.2.1,.i v14.2.2.2.1] fun s1=>
             w64 (z3.1+1) fun i4=>
             go3 (i4,s1,z3.2.2.1,())) (
             w64 (z3.1+1) fun i5=>
             go3 (i5,z3.2.1,z3.2.2.1,()))) (
            w64 (z3.1+1) fun i6=>
            go3 (i6,z3.2.1,z3.2.2.1,()))) (
           K (.t #[.agg #[.sv r2.1,.sv z3.2.1,.i z3.2.2.1],.i 0]))))) (
     K (.t #[.agg #[.slice none 0 0,.slice none 0 0,.i 0],.i r2.2.2.1]))))
  :=(e95 x0).cc fun K=>by
  refine U0 fun n1=>D2 fun n2=>B8 fun v1=>?_;refine B9 ?_ ?_
  · exact G2 0 0 rfl rfl rfl rfl<|B3 0 0 rfl rfl rfl<|A7
  · refine B8 fun v2=>B0 fun r1=>?_
    refine B9 ?_ ?_
    · exact G2 0 0 rfl rfl rfl rfl<|B3 0 0 rfl rfl rfl<|A7
    · refine B8 fun v3=>B0 fun r2=>U0 fun n3=>Ae5 ?_
      refine E1 ?_ ?_
      · exact G2 0 0 rfl rfl rfl rfl<|B3 0 0 rfl rfl rfl<|A7
      · refine D2 fun n4=>G2 0 0 rfl rfl rfl rfl<|C61 (fun z1=>[(n4,.cells #[.sv r2.1,.slice none 0 0,.i z1.2.1] 146 (0,0))]) (fun z1=>(z1.1,())) rfl rfl fun go1' go1 aD z1=>?_
        refine B9 ?_ ?_
        · exact H8 fun a1 aG=>B8 fun v4=>D2 fun n5=>G2 0 0 rfl rfl rfl rfl<|B3 1 2 rfl rfl rfl<|B3 0 1 rfl rfl rfl<|G2 1 2 rfl rfl rfl rfl<|D0<|H7 2 rfl rfl<|H7 2 rfl rfl<|E8 (aD _) rfl
        · refine U0 fun n6=>U0 fun n7=>U0 fun n8=>Ae5<|B0 fun r3=>U0 fun n9=>U0 fun n10=>Ae5<|B0 fun r4=>B8 fun v5=>K9 fun go2' go2 cV z2=>?_
          refine B9 ?_ ?_
          · refine H8 fun a2 bA=>B8 fun v6=>D2 fun n11=>G2 0 0 rfl rfl rfl rfl<|B8 fun v7=>B8 fun v8=>B3 0 0 rfl rfl rfl<|Br8 fun v9=>Br8 fun v10=>?_
            refine B9 ?_ ?_
            · exact B8 fun v11=>B3 0 0 rfl rfl rfl<|Am3 fun v12=>D0<|H7 2 rfl rfl<|H7 2 rfl rfl<|E8 (cV _) rfl
            · exact D0<|H7 2 rfl rfl<|H7 2 rfl rfl<|E8 (cV _) rfl
          · refine B8 fun v13=>C61 (fun z3=>[(n4,.cells #[.sv r2.1,.sv z3.2.1,.i z3.2.2.1] 146 (0,0))]) (fun z3=>(z3.1,())) rfl rfl fun go3' go3 lT z3=>?_
            refine B9 ?_ ?_
            · refine H8 fun a3 jN=>B8 fun v14=>D2 fun n12=>G2 0 0 rfl rfl rfl rfl<|B8 fun v15=>B3 0 0 rfl rfl rfl<|Br8 fun v16=>D2 fun n13=>G2 0 0 rfl rfl rfl rfl ?_
              refine B9 ?_ ?_
              · refine B3 0 0 rfl rfl rfl<|B3 1 1 rfl rfl rfl<|Cq6 fun v17=>?_
                refine B9 ?_ ?_
                · exact B3 2 1 rfl rfl rfl<|B3 1 0 rfl rfl rfl<|D2 fun n14=>Ae6 (v:=_) 0 rfl fun s1=>G2 3 1 rfl rfl rfl rfl<|D0<|H7 4 rfl rfl<|H7 4 rfl rfl<|E8 (lT _) rfl
                · exact D0<|H7 3 rfl rfl<|H7 3 rfl rfl<|E8 (lT _) rfl
              · exact D0<|H7 3 rfl rfl<|H7 3 rfl rfl<|E8 (lT _) rfl
            · exact B3 0 0 rfl rfl rfl<|G2 1 0 rfl rfl rfl rfl<|B3 1 0 rfl rfl rfl<|A7
theorem c100(x0:Option Addr):CC 100 #[.q x0] fun K=>
  cl PP 93 #[.q x0] [Z4] fun r1=>
  lp [.lf .sl,lI] (⟨none,0,0⟩,0,()) fun z1 go1=>
   ifB (decide ((z1.2.1:Int)<r1.1.1)) (
    cl PP 16 #[.q x0,.i z1.2.1] [lI] fun r2=>
    cl PP 15 #[.q x0,.i z1.2.1] [.lf .bool] fun r3=>
    cl PP 82 #[.q x0,.i z1.2.1] [lI] fun r4=>
    apv PP 159 159 159 194 z1.1 1 [.i r2.1,.b r3.1,.b ((r4.1:Int) !=0)] fun s1=>
    w64 (z1.2.1+1) fun i1=>
    go1 (s1,i1,())) (
    K (.sv z1.1))
  :=(e100 x0).cc fun K=>by
  refine B0 fun r1=>K9 fun go1' go1 aD z1=>?_;refine B9 ?_ ?_
  · exact B0 fun r2=>B0 fun r3=>B0 fun r4=>D2 fun n1=>Ae6 (v:=_) 0 rfl fun s1=>D0<|E8 (aD _) rfl
  · exact A7
theorem c101(x0:Option Addr)(x1:ByteArray)(x2:ShV Z1):CC 101 #[.q x0,.w x1,.agg (ki3 x2)] fun K=>
  A8 x0 fun a1=>
  ld (Addr.add (a1.add 19) 2) (.lf .ptr) fun v1=>
  cl PP 41 #[.q x0,.w x1] [.lf (.int .u64)] fun r1=>
  keep (C9 (Addr.add (a1.add 19) 2) [.q v1])<|
  cl PP 173 #[.q v1,.int .u64 r1.1,.agg (ki3 x2)] [Z1,.lf .bool] fun r2=>
  ifB r2.2.1 (
   ld (Addr.add (a1.add 11) 6) (.lf .sl) fun v2=>
   apv PP 55 55 55 102 v2 1 [.i r2.1.1,.i r2.1.2.1,.i r2.1.2.2.1] fun s1=>
   st (Addr.add (a1.add 11) 6) [.slice s1.a s1.len s1.cap]<|
   K (.t #[])) (
   K (.t #[]))
  :=(e101 x0 x1 x2).cc fun K=>by
  refine D2 fun n1=>C2 fun a1 aG=>B8 fun v1=>B3 0 0 rfl rfl rfl<|B0 fun r1=>M8 0 0 rfl rfl rfl<|S9<|B0 fun r2=>D2 fun n2=>G2 0 0 rfl rfl rfl rfl ?_;refine B9 ?_ ?_
  · exact B1 aG<|B8 fun v2=>B3 0 0 rfl rfl rfl<|D2 fun n3=>Ae6 (v:=_) 0 rfl fun s1=>B1 aG<|Ae5<|A7
  · exact A7
theorem c118(x0:Option Addr)(x1:ShV Z1):CC 118 #[.q x0,.agg (ki3 x1)] fun K=>
  cl PP 181 #[.q x0,.i x1.1,.i 0] [.lf .sl,lI] fun r1=>
  ifB (decide ((r1.2.1:Int)=0)) (
   lp [.lf .sl,lI] (⟨none,0,0⟩,1,()) fun z1 go1=>
    ifB (decide ((z1.1.len:Int)<z1.2.1)) (
     w64 (x1.2.1+z1.1.len) fun i1=>
     cl PP 181 #[.q x0,.i x1.1,.i i1] [.lf .sl,lI] fun r2=>
     ifB (decide ((r2.2.1:Int)=0)) (
      cl PP 182 #[.sv r2.1] [Z3,.lf .sl,lI] fun r3=>
      ifB (decide ((r3.2.2.1:Int)=0)) (
       jn (fun y1:RsV [lI]=>
        apv PP 96 96 96 27 z1.1 1 [.sv r3.2.1] fun s1=>
        go1 (s1,y1.1,())) fun j1=>
       ifB (decide ((z1.1.len:Int)=0)) (
         ifB (decide ((r3.1.1:Int)=2)) (
          ifB (decide ((r3.1.2.1:Int)=0)) (
           ifB (decide ((r3.1.2.2.2.1:Int)=x1.2.2.1)) (
            ifB (decide ((r3.1.2.2.2.2.1:Int)=x1.2.1)) (
             j1 (r3.1.2.2.1,())) (
             K (.t #[.w (ByteArray.mk #[]),.slice none 0 0,.i 8]))) (
            K (.t #[.w (ByteArray.mk #[]),.slice none 0 0,.i 8]))) (
           K (.t #[.w (ByteArray.mk #[]),.slice none 0 0,.i 8]))) (
          K (.t #[.w (ByteArray.mk #[]),.slice none 0 0,.i 8]))) (
         j1 (z1.2.1,()))) (
       K (.t #[.w (ByteArray.mk #[]),.slice none 0 0,.i 8]))) (
      K (.t #[.w (ByteArray.mk #[]),.slice none 0 0,.i 8]))) (
     cl PP 183 #[.sv z1.1] [.lf .str,.lf .sl,lI] fun r4=>
     K (.t (kwvi r4)))) (
   K (.t #[.w (ByteArray.mk #[]),.slice none 0 0,.i r1.2.1]))
  :=(e118 x0 x1).cc fun K=>by
  refine D2 fun n1=>B3 0 0 rfl rfl rfl<|B0 fun r1=>?_;refine E1 ?_ ?_
  · exact A7
  · refine K9 fun go1' go1 aD z1=>?_
    refine B9 ?_ ?_
    · refine B3 0 0 rfl rfl rfl<|B3 0 1 rfl rfl rfl<|D0<|B0 fun r2=>?_
      refine E1 ?_ ?_
      · exact A7
      · refine B0 fun r3=>D2 fun n2=>G2 0 0 rfl rfl rfl rfl ?_
        refine E1 ?_ ?_
        · exact A7
        · refine U8 (fun y1=>?_) fun j1' j1 bP=>?_
          · exact D2 fun n3=>Ae6 (v:=_) 0 rfl fun s1=>H7 2 rfl rfl<|E8 (aD _) rfl
          · refine C8 ?_ ?_
            · refine B3 0 0 rfl rfl rfl ?_
              refine E1 ?_ ?_
              · exact A7
              · refine B3 0 1 rfl rfl rfl ?_
                refine E1 ?_ ?_
                · exact A7
                · refine B3 0 3 rfl rfl rfl<|B3 1 2 rfl rfl rfl ?_
                  refine E1 ?_ ?_
                  · exact A7
                  · refine B3 0 4 rfl rfl rfl<|B3 1 1 rfl rfl rfl ?_
                    refine E1 ?_ ?_
                    · exact A7
                    · exact B3 0 2 rfl rfl rfl<|E8 (bP _) rfl
            · exact E8 (bP _) rfl
    · exact B0 fun r4=>A7
set_option maxRecDepth 100000
theorem c126(x0:Option Addr)(x1:SlV):CC 126 #[.q x0,.sv x1] fun K=>
  A8 x0 fun a1=>
  ld (a1.add 4) (.lf .ptr) fun v1=>
  ifB (Option.isNone v1) (
   K (.b false)) (
   ld (a1.add 4) (.lf .ptr) fun v2=>
   A8 v2 fun a2=>
   ld (a2.add 2) (lI) fun v3=>
   lp [lI,lI] (v3,0,()) fun z1 go1=>
    ifB (decide ((z1.2.1:Int)<x1.len)) (
     elp x1.a x1.len z1.2.1 1 fun a3=>
     ld a3 (lI) fun v4=>
     w64 (z1.1+v4) fun i1=>
     w64 (z1.2.1+1) fun i2=>
     go1 (i1,i2,())) (
     ld a1 (.lf .ptr) fun v5=>
     cl PP 93 #[.q v5] [Z4] fun r1=>
     K (.b (decide ((z1.1:Int)<r1.1.2.1)))))
  :=(e126 x0 x1).cc fun K=>by
  refine C2 fun a1 aG=>B8 fun v1=>?_;refine B9 ?_ ?_
  · exact A7
  · refine B1 aG<|B8 fun v2=>C2 fun a2 bA=>B8 fun v3=>K9 fun go1' go1 aD z1=>?_
    refine B9 ?_ ?_
    · exact H8 fun a3 jN=>B8 fun v4=>D0<|D0<|E8 (aD _) rfl
    · exact B1 aG<|B8 fun v5=>B0 fun r1=>A7
theorem c127(x0:Option Addr)(x1:Int):CC 127 #[.q x0,.i x1] fun K=>
  jn (fun y1:RsV [lI]=>
   A8 x0 fun a2=>
   nw (.cells #[.i x1,.i 1,.i y1.1] 3) fun n1=>
   cl PP 128 #[.q (some (a2.add 11)),.slice (some n1.z) 3 3] [.lf .bool] fun r1=>
   ifB r1.1 (
    ld (Addr.add (a2.add 11) 5) (lI) fun v2=>
    ifB (decide ((v2:Int)≥1073741824)) (
     K (.i 7)) (
     ld (Addr.add (a2.add 11) 1) (.lf .ptr) fun v3=>
     cl PP 185 #[.q v3] [lI] fun r2=>
     ifB (decide ((r2.1:Int)=0)) (
      cl PP 186 #[.q (some (a2.add 11))] [.lf .ptr] fun r3=>
      ifB (Option.isNone r3.1) (
       K (.i 7)) (
       cl PP 187 #[.q x0,.q r3.1,.i x1] [lI] fun r4=>
       K (.i r4.1))) (
      cl PP 188 #[.q (some (a2.add 11))] [lI] fun r5=>
      ifB (decide ((r5.1:Int)=0)) (
       ld (Addr.add (a2.add 11) 1) (.lf .ptr) fun v4=>
       cl PP 189 #[.q v4] [lI,.lf .bool,.lf .bool] fun r6=>
       jn (fun y2:RsV []=>
        cl PP 191 #[.q (some (a2.add 11)),.i r6.1] [lI] fun r9=>
        ifB (decide ((r9.1:Int)=0)) (
         lp [] (()) fun z1 go1=>
          ld (Addr.add (a2.add 11) 1) (.lf .ptr) fun v6=>
          cl PP 185 #[.q v6] [lI] fun r10=>
          ifB (decide ((r10.1:Int)=0)) (
           cl PP 186 #[.q (some (a2.add 11))] [.lf .ptr] fun r11=>
           ifB (Option.isNone r11.1) (
            K (.i 0)) (
            cl PP 187 #[.q x0,.q r11.1,.i x1] [lI] fun r12=>
            ifB (decide ((r12.1:Int)=0)) (
             go1 (())) (
             K (.i r12.1)))) (
           K (.i 0))) (
         K (.i r9.1))) fun j2=>
       ifB r6.2.1 (
         cl PP 190 #[.q (some (a2.add 11)),.i r6.1] [lI] fun r7=>
         ifB (decide ((r7.1:Int)=0)) (
          ld (a2.add 11) (.lf .ptr) fun v5=>
          cl PP 15 #[.q v5,.i r6.1] [.lf .bool] fun r8=>
          ifB r8.1 (
           K (.i r7.1)) (
           j2 (()))) (
          K (.i r7.1))) (
         j2 (()))) (
       K (.i r5.1))))) (
    K (.i 13))) fun j1=>
  A8 x0 fun a1=>
   ld (Addr.add (a1.add 11) 4) (.lf .ptr) fun v1=>
   ifB (Option.isNone v1) (
    j1 (0,())) (
    j1 (1,()))
  :=(e127 x0 x1).cc fun K=>by
  refine U8 (fun y1=>?_) fun j1' j1 bP=>?_
  · refine C2 fun a2 bA=>U0 fun n1=>B0 fun r1=>?_
    refine K0 ?_ ?_
    · exact A7
    · refine B1 bA<|B8 fun v2=>?_
      refine B9 ?_ ?_
      · exact A7
      · refine B1 bA<|B8 fun v3=>B0 fun r2=>?_
        refine C8 ?_ ?_
        · refine B1 bA<|B0 fun r3=>?_
          refine B9 ?_ ?_
          · exact A7
          · exact B0 fun r4=>A7
        · refine B1 bA<|B0 fun r5=>?_
          refine E1 ?_ ?_
          · exact A7
          · refine B1 bA<|B8 fun v4=>B0 fun r6=>?_
            refine U8 (fun y2=>?_) fun j2' j2 fB=>?_
            · refine B1 bA<|B0 fun r9=>?_
              refine E1 ?_ ?_
              · exact A7
              · refine K9 fun go1' go1 aD z1=>B1 bA<|B8 fun v6=>B0 fun r10=>?_
                refine C8 ?_ ?_
                · refine B1 bA<|B0 fun r11=>?_
                  refine B9 ?_ ?_
                  · exact A7
                  · refine B0 fun r12=>?_
                    refine E1 ?_ ?_
                    · exact A7
                    · exact E8 (aD _) rfl
                · exact A7
            · refine B9 ?_ ?_
              · refine B1 bA<|B0 fun r7=>?_
                refine E1 ?_ ?_
                · exact A7
                · refine B1 bA<|B8 fun v5=>B0 fun r8=>?_
                  refine B9 ?_ ?_
                  · exact A7
                  · exact E8 (fB _) rfl
              · exact E8 (fB _) rfl
  · refine C2 fun a1 aG=>B8 fun v1=>?_
    refine K0 ?_ ?_
    · exact E8 (bP _) rfl
    · exact E8 (bP _) rfl
theorem c128(x0:Option Addr)(x1:SlV):CC 128 #[.q x0,.sv x1] fun K=>
 A8 x0 fun a1=>
 ld (a1.add 2) (.lf .ptr) fun v1=>
 cl PP 44 #[.q v1] [lI] fun r1=>
 cl PP 134 #[.q x0,.sv x1] [lI] fun r2=>
 K (.b (decide ((r1.1:Int)≥r2.1)))
 :=(e128 x0 x1).cc fun K=>by
 exact C2 fun a1 aG=>B8 fun v1=>B0 fun r1=>B0 fun r2=>A7
theorem c134(x0:Option Addr)(x1:SlV):CC 134 #[.q x0,.sv x1] fun K=>
  lp [lI,lI] (0,0,()) fun z1 go1=>
   ifB (decide ((z1.2.1:Int)<x1.len)) (
    elp x1.a x1.len z1.2.1 1 fun a1=>
    ld a1 (lI) fun v1=>
    w64 (z1.1+v1) fun i1=>
    w64 (z1.2.1+1) fun i2=>
    go1 (i1,i2,())) (
    A8 x0 fun a2=>
    ld a2 (.lf .ptr) fun v2=>
    cl PP 93 #[.q v2] [Z4] fun r1=>
    w64 (z1.1*r1.1.2.2.1) fun i3=>
    K (.i i3))
  :=(e134 x0 x1).cc fun K=>by
  refine K9 fun go1' go1 aD z1=>?_;refine B9 ?_ ?_
  · exact H8 fun a1 aG=>B8 fun v1=>D0<|D0<|E8 (aD _) rfl
  · exact C2 fun a2 bA=>B8 fun v2=>B0 fun r1=>D0<|A7
theorem c135(x0:Option Addr)(x1:Int)(x2:Int)(x3:Int)(x4:Int)(x5:SlV):CC 135 #[.q x0,.i x1,.i x2,.i x3,.i x4,.sv x5] fun K=>
  ifB (decide ((x5.len:Int)=0)) (
   K (.i 2)) (
   lp [lI,lI,lI,lI,lI,lI] (0,x4,0,x5.len,x2,x3,()) fun z1 go1=>   --,n1.0,n1.1,n1.2,n1.3,n1.4
    ifB (decide ((z1.1:Int)<x5.len)) (
     elp x5.a x5.len z1.1 1 fun a1=>
     ld a1 (.lf .sl) fun v1=>
     cl PP 193 #[.q x0,.i x1,.agg #[.i z1.2.1,.i z1.1,.i z1.2.2.2.1,.i z1.2.2.2.2.1,.i z1.2.2.2.2.2.1],.sv v1] [lI] fun r1=>
     ifB (decide ((r1.1:Int)=0)) (
      w64 (z1.2.2.2.2.2.1+1) fun i1=>
      w64 (z1.1+1) fun i2=>
      go1 (i2,z1.2.1,z1.1,z1.2.2.2.1,z1.2.2.2.2.1,i1,())) (
      K (.i r1.1))) (
     K (.i 0)))
  :=(e135 x0 x1 x2 x3 x4 x5).cc fun K=>by
  refine C8 ?_ ?_
  · exact A7
  · refine D2 fun n1=>G2 0 0 rfl rfl rfl rfl<|C61 (fun z1=>[(n1,.cells (ki5 z1.2) 272 (0,0))]) (fun z1=>(z1.1,())) rfl rfl fun go1' go1 aD z1=>?_
    refine B9 ?_ ?_
    · refine H8 fun a1 aG=>B8 fun v1=>G2 0 1 rfl rfl rfl rfl<|B3 0 0 rfl rfl rfl<|B0 fun r1=>?_
      refine E1 ?_ ?_
      · exact A7
      · exact B3 0 4 rfl rfl rfl<|D0<|G2 0 4 rfl rfl rfl rfl<|D0<|E8 (aD _) rfl
    · exact A7
theorem c136(x0:Option Addr)(x1:Int):CC 136 #[.q x0,.i x1] fun K=>
  A8 x0 fun a1=>
  ld (a1.add 7) (.lf .bool) fun v1=>
  ifB v1 (
   st (a1.add 7) [.b true]<|
   K (.i x1)) (
   st (a1.add 7) [.b ((x1:Int)==11)]<|
   K (.i x1))
  :=(e136 x0 x1).cc fun K=>by
  refine C2 fun a1 aG=>B8 fun v1=>?_;refine B9 ?_ ?_
  · exact B1 aG<|Ae5<|A7
  · exact B1 aG<|Ae5<|A7
set_option maxRecDepth 100000
theorem c164(x0:Int)(x1:Int):CC 164 #[.i x0,.i x1] fun K=>
  ifB (decide ((x0:Int)≥0)) (
   K (.b (decide ((x0:Int)<=x1)))) (
   K (.b false))
  :=(e164 x0 x1).cc fun K=>by
  refine B9 ?_ ?_
  · exact A7
  · exact A7
theorem c165(x0:Option Addr):CC 165 #[.q x0] fun K=>
  cl PP 93 #[.q x0] [Z4] fun r1=>
  lp [.lf .sl,.lf .sl,lI] (⟨none,0,0⟩,⟨none,0,0⟩,0,()) fun z1 go1=>
   ifB (decide ((z1.2.2.1:Int)<r1.1.1)) (
    cl PP 223 #[.q x0,.i z1.2.2.1] [.lf .sl,lI] fun r2=>
    ifB (decide ((r2.2.1:Int)=0)) (
     apv PP 243 243 243 96 z1.2.1 1 [.sv r2.1] fun s1=>
     cl PP 224 #[.sv r2.1] [Z11,.lf .bool] fun r3=>
     ifB r3.2.1 (
      apv PP 143 143 143 154 z1.1 1 [.i z1.2.2.1,.i r3.1.1,.sv r3.1.2.2.1] fun s2=>
      w64 (z1.2.2.1+1) fun i1=>
      go1 (s2,s1,i1,())) (
      w64 (z1.2.2.1+1) fun i2=>
      go1 (z1.1,s1,i2,()))) (
     K (.t #[.slice none 0 0,.slice none 0 0,.i r2.2.1]))) (
    cl PP 225 #[.sv z1.1,.func (.func 226) #[] #[]] [] fun r4=>
    K (.t #[.sv z1.1,.sv z1.2.1,.i 0]))
  :=(e165 x0).cc fun K=>by
  refine B0 fun r1=>K9 fun go1' go1 aD z1=>?_;refine B9 ?_ ?_
  · refine B0 fun r2=>?_
    refine E1 ?_ ?_
    · exact A7
    · refine D2 fun n1=>Ae6 (v:=_) 0 rfl fun s1=>B0 fun r3=>D2 fun n2=>G2 0 0 rfl rfl rfl rfl ?_
      refine B9 ?_ ?_
      · exact B3 0 0 rfl rfl rfl<|B3 0 2 rfl rfl rfl<|D2 fun n3=>Ae6 (v:=_) 0 rfl fun s2=>D0<|E8 (aD _) rfl
      · exact D0<|E8 (aD _) rfl
  · exact B0 fun r4=>A7
theorem c166(x0:SlV)(x1:Int)(x2:FnV):CC 166 #[.slice x0.a x0.len x0.cap,.i x1,.func x2.fn x2.first x2.captured] fun K=>
  lp [lI] (0,()) fun z1 go1=>
   ifB (decide ((z1.1:Int)<x0.len)) (
    elp x0.a x0.len z1.1 3 fun a1=>
    ld a1 Z5 fun v1=>
    lp [lI] (0,()) fun z2 go2=>
     ifB (decide ((z2.1:Int)<v1.2.2.1.len)) (
      elp v1.2.2.1.a v1.2.2.1.len z2.1 3 fun a2=>
      ld a2 Z1 fun v2=>
      ifB (decide ((v2.1:Int)=x1)) (
       clv PP x2.fn (x2.first++#[.agg #[.i v1.1,.i v1.2.1,.slice v1.2.2.1.a v1.2.2.1.len v1.2.2.1.cap],.agg (ki3 v2)]) x2.captured [] fun r1=>
       w64 (z2.1+1) fun i1=>
       go2 (i1,())) (
       w64 (z2.1+1) fun i2=>
       go2 (i2,()))) (
      w64 (z1.1+1) fun i3=>
      go1 (i3,()))) (
    K (.t #[]))
  :=(e166 x0 x1 x2).cc fun K=>by
  refine K9 fun go1' go1 aD z1=>?_;refine B9 ?_ ?_
  · refine H8 fun a1 aG=>B8 fun v1=>D2 fun n1=>G2 0 0 rfl rfl rfl rfl<|B3 0 2 rfl rfl rfl<|K9 fun go2' go2 cV z2=>?_
    refine B9 ?_ ?_
    · refine H8 fun a2 bA=>B8 fun v2=>D2 fun n2=>G2 0 0 rfl rfl rfl rfl<|B3 0 0 rfl rfl rfl ?_
      refine C8 ?_ ?_
      · exact B3 1 0 rfl rfl rfl<|B3 0 0 rfl rfl rfl<|Bb2 fun r1=>D0<|H7 1 rfl rfl<|E8 (cV _) rfl
      · exact D0<|H7 1 rfl rfl<|E8 (cV _) rfl
    · exact D0<|E8 (aD _) rfl
  · exact A7
theorem c167(x0:ShV Z5)(x1:ShV Z1)(x2:Option Addr)(x3:Option Addr)(x4:Option Addr):CC 167 #[.agg (kiiv x0),.agg (ki3 x1),.q x2,.q x3,.q x4] fun K=>
  A8 x2 fun a1=>
  ld a1 (.lf .ptr) fun v1=>
  cl PP 118 #[.q v1,.agg #[.i x0.1,.i x1.2.1,.i x0.2.1]] [.lf .str,.lf .sl,lI] fun r1=>
  ifB (decide ((r1.2.2.1:Int)=0)) (
   A8 x3 fun a2=>
   ld a2 (.lf .sl) fun v2=>
   apv PP 144 144 144 162 v2 1 [.w r1.1,.i x0.1,.i x1.2.1,.i x0.2.1] fun s1=>
   st a2 [.slice s1.a s1.len s1.cap]<|
   A8 x4 fun a3=>
   ld a3 (.lf .map) fun v3=>
   smU PP (Instr.mapUpdate 246 (.map v3) (.w r1.1) (.agg #[.i x0.1,.i x1.2.1,.i x0.2.1]))<|
   K (.t #[])) (
   K (.t #[]))
  :=(e167 x0 x1 x2 x3 x4).cc fun K=>by
  refine D2 fun n1=>D2 fun n2=>B3 1 0 rfl rfl rfl<|B3 0 1 rfl rfl rfl<|B3 1 1 rfl rfl rfl<|D2 fun n3=>G2 0 0 rfl rfl rfl rfl<|C2 fun a1 aG=>B8 fun v1=>B3 0 0 rfl rfl rfl<|B0 fun r1=>?_;refine C8 ?_ ?_
  · exact C2 fun a2 bA=>B8 fun v2=>B3 0 0 rfl rfl rfl<|D2 fun n4=>Ae6 (v:=_) 0 rfl fun s1=>B1 bA<|Ae5<|C2 fun a3 jN=>B8 fun v3=>B3 1 0 rfl rfl rfl<|B66<|A7
  · exact A7
theorem c168(x0:ShV Z5)(x1:ShV Z1)(x2:Option Addr)(x3:Option Addr):CC 168 #[.agg (kiiv x0),.agg (ki3 x1),.q x2,.q x3] fun K=>
  A8 x2 fun a1=>
  ld a1 (.lf .sl) fun v1=>
  elp v1.a v1.len x0.1 1 fun a2=>
  ld a2 (.lf .sl) fun v2=>
  cl PP 169 #[.sv v2,.agg (ki3 x1)] [.lf .sl] fun r1=>
  lp [lI] (0,()) fun z1 go1=>
   ifB (decide ((z1.1:Int)<r1.1.len)) (
    elp r1.1.a r1.1.len z1.1 1 fun a3=>
    ld a3 (.lf .sl) fun v3=>
    cl PP 170 #[.sv v3] [.lf .sl,lI] fun r2=>
    lp [lI] (0,()) fun z2 go2=>
     ifB (decide ((z2.1:Int)<r2.1.len)) (
      elp r2.1.a r2.1.len z2.1 3 fun a4=>
      ld a4 Z1 fun v4=>
      A8 x3 fun a5=>
      ld a5 (.lf .map) fun v5=>
      smU PP (Instr.mapUpdate 249 (.map v5) (.agg (ki3 v4)) (.b true))<|
      w64 (z2.1+1) fun i1=>
      go2 (i1,())) (
      w64 (z1.1+1) fun i2=>
      go1 (i2,()))) (
    K (.t #[]))
  :=(e168 x0 x1 x2 x3).cc fun K=>by
  refine D2 fun n1=>D2 fun n2=>C2 fun a1 aG=>B8 fun v1=>B3 1 0 rfl rfl rfl<|H8 fun a2 bA=>B8 fun v2=>B3 0 0 rfl rfl rfl<|B0 fun r1=>K9 fun go1' go1 aD z1=>?_;refine B9 ?_ ?_
  · refine H8 fun a3 jN=>B8 fun v3=>B0 fun r2=>K9 fun go2' go2 cV z2=>?_
    refine B9 ?_ ?_
    · exact H8 fun a4 rW=>B8 fun v4=>D2 fun n3=>G2 0 0 rfl rfl rfl rfl<|C2 fun a5 vL=>B8 fun v5=>B3 0 0 rfl rfl rfl<|B66<|D0<|H7 2 rfl rfl<|H7 2 rfl rfl<|E8 (cV _) rfl
    · exact D0<|E8 (aD _) rfl
  · exact A7
theorem c169(x0:SlV)(x1:ShV Z1):CC 169 #[.sv x0,.agg (ki3 x1)] fun K=>
  lp [.lf .sl,lI] (⟨none,0,0⟩,0,()) fun z1 go1=>
   ifB (decide ((z1.2.1:Int)<x1.2.2.1)) (
    ifB (decide ((x1.2.1:Int)<0)) (
     K (.slice none 0 0)) (
     w64 (x0.len-z1.2.1) fun i1=>
     ifB (decide ((x1.2.1:Int)≥i1)) (
      K (.slice none 0 0)) (
      w64 (x1.2.1+z1.2.1) fun i2=>
      elp x0.a x0.len i2 1 fun a1=>
      ld a1 (.lf .sl) fun v1=>
      cl PP 182 #[.sv v1] [Z3,.lf .sl,lI] fun r1=>
      ifB (decide ((r1.2.2.1:Int)=0)) (
       apv PP 96 96 96 27 z1.1 1 [.sv r1.2.1] fun s1=>
       w64 (z1.2.1+1) fun i3=>
       go1 (s1,i3,())) (
       K (.slice none 0 0))))) (
    K (.sv z1.1))
  :=(e169 x0 x1).cc fun K=>by
  refine D2 fun n1=>K9 fun go1' go1 aD z1=>B3 0 2 rfl rfl rfl ?_;refine B9 ?_ ?_
  · refine B3 0 1 rfl rfl rfl ?_
    refine B9 ?_ ?_
    · exact A7
    · refine B3 0 1 rfl rfl rfl<|D0 ?_
      refine B9 ?_ ?_
      · exact A7
      · refine B3 0 1 rfl rfl rfl<|D0<|H8 fun a1 aG=>B8 fun v1=>B0 fun r1=>D2 fun n2=>G2 0 0 rfl rfl rfl rfl ?_
        refine E1 ?_ ?_
        · exact A7
        · exact D2 fun n3=>Ae6 (v:=_) 0 rfl fun s1=>D0<|H7 2 rfl rfl<|E8 (aD _) rfl
  · exact A7
theorem c186(x0:Option Addr):CC 186 #[.q x0] fun K=>
  A8 x0 fun a1=>
  ld (a1.add 1) (.lf .ptr) fun v1=>
  cl PP 245 #[.q v1] [lI,.lf .bool] fun r1=>
  jn (fun y1:RsV []=>
   ld (a1.add 3) (.lf .map) fun v5=>
   smR PP (Instr.lookup 79 (.map v5) (.i r1.1) false) [.lf .ptr] fun v6=>
   K (.q v6.1)) fun j1=>
  ifB r1.2.1 (
    ld (a1.add 4) (.lf .ptr) fun v2=>
    ifB (Option.isNone v2) (
     j1 (())) (
     ld (a1.add 4) (.lf .ptr) fun v3=>
     A8 v3 fun a2=>
     ld a2 (lI) fun v4=>
     ifB (decide ((v4:Int)=r1.1)) (
      K (.q none)) (
      j1 (())))) (
    K (.q none))
  :=(e186 x0).cc fun K=>by
  refine C2 fun a1 aG=>B8 fun v1=>B0 fun r1=>?_;refine U8 (fun y1=>?_) fun j1' j1 bP=>?_
  · exact B1 aG<|B8 fun v5=>Br8 fun v6=>A7
  · refine K0 ?_ ?_
    · exact A7
    · refine B1 aG<|B8 fun v2=>?_
      refine K0 ?_ ?_
      · refine B1 aG<|B8 fun v3=>C2 fun a2 bA=>B8 fun v4=>?_
        refine C8 ?_ ?_
        · exact A7
        · exact E8 (bP _) rfl
      · exact E8 (bP _) rfl
theorem c187(x0:Option Addr)(x1:Option Addr)(x2:Int):CC 187 #[.q x0,.q x1,.i x2] fun K=>
  nw (.cells #[.q x1] 80) fun n1=>
  ld n1.z (.lf .ptr) fun v1=>
  A8 v1 fun a1=>
  ld (a1.add 3) (.lf .sl) fun v2=>
  lp [lI] (0,()) fun z1 go1=>
   ifB (decide ((z1.1:Int)<v2.len)) (
    elp v2.a v2.len z1.1 3 fun a2=>
    ld a2 Z1 fun v3=>
    ifB (decide ((v3.1:Int)=2)) (
     ld n1.z (.lf .ptr) fun v4=>
     A8 v4 fun a3=>
     ld a3 (lI) fun v5=>
     ld n1.z (.lf .ptr) fun v6=>
     A8 v6 fun a4=>
     ld (a4.add 1) (lI) fun v7=>
     cl PP 246 #[.q x0,.agg #[.i v5,.i v3.2.1,.i v7],.agg (ki3 v3),.i x2] [lI] fun r1=>
     ifB (decide ((r1.1:Int)=0)) (
      w64 (z1.1+1) fun i2=>
      go1 (i2,())) (
      K (.i r1.1))) (
     w64 (z1.1+1) fun i1=>
     go1 (i1,()))) (
    A8 x0 fun a5=>
    ld (Addr.add (a5.add 11) 6) (.lf .sl) fun v8=>
    cl PP 247 #[.sv v8,.func (.func 248) #[] #[.p n1]] [.lf .sl] fun r2=>
    st (Addr.add (a5.add 11) 6) [.slice r2.1.a r2.1.len r2.1.cap]<|
    ld n1.z (.lf .ptr) fun v9=>
    A8 v9 fun a6=>
    ld a6 (lI) fun v10=>
    cl PP 190 #[.q (some (a5.add 11)),.i v10] [lI] fun r3=>
    K (.i r3.1))
  :=(e187 x0 x1 x2).cc fun K=>by
  refine U0 fun n1=>B8 fun v1=>C2 fun a1 aG=>B8 fun v2=>K9 fun go1' go1 aD z1=>?_;refine B9 ?_ ?_
  · refine H8 fun a2 bA=>B8 fun v3=>D2 fun n2=>G2 0 0 rfl rfl rfl rfl<|B3 0 0 rfl rfl rfl ?_
    refine E1 ?_ ?_
    · exact D0<|E8 (aD _) rfl
    · refine B8 fun v4=>C2 fun a3 jN=>B8 fun v5=>B3 0 1 rfl rfl rfl<|B8 fun v6=>C2 fun a4 rW=>B8 fun v7=>B3 0 0 rfl rfl rfl<|B0 fun r1=>?_
      refine E1 ?_ ?_
      · exact A7
      · exact D0<|E8 (aD _) rfl
  · exact C2 fun a5 vL=>B8 fun v8=>B0 fun r2=>B1 vL<|Ae5<|B1 vL<|B8 fun v9=>C2 fun a6 ha6=>B8 fun v10=>B0 fun r3=>A7
set_option maxRecDepth 100000
theorem c188(x0:Option Addr):CC 188 #[.q x0] fun K=>
  A8 x0 fun a1=>
  ld (a1.add 4) (.lf .ptr) fun v1=>
  ifB (Option.isNone v1) (
   K (.i 0)) (
   st (a1.add 4) [.q none]<|
   ld (a1.add 2) (.lf .ptr) fun v2=>
   nw (.cells #[.i 1] 3) fun n1=>
   cl PP 134 #[.q x0,.slice (some n1.z) 1 1] [lI] fun r1=>
   keep (C9 (a1.add 2) [.q v2])<|
   cl PP 133 #[.q v2,.i r1.1] [.lf .bool] fun r2=>
   A8 v1 fun a2=>
   ld a1 (.lf .ptr) fun v3=>
   ld a2 (lI) fun v4=>
   ld (a2.add 1) (lI) fun v5=>
   ld (a2.add 2) (lI) fun v6=>
   ld (a2.add 3) (.lf .sl) fun v7=>
   cl PP 249 #[.q v3,.i v4,.i v5,.i v6,.sv v7] [lI] fun r3=>
   cl PP 136 #[.q x0,.i r3.1] [lI] fun r4=>
   K (.i r4.1))
  :=(e188 x0).cc fun K=>by
  refine C2 fun a1 aG=>B8 fun v1=>?_;refine B9 ?_ ?_
  · exact A7
  · exact B1 aG<|Ae5<|B1 aG<|B8 fun v2=>U0 fun n1=>B0 fun r1=>S9<|B0 fun r2=>B1 aG<|C2 fun a2 bA=>B1 bA<|B1 bA<|B1 bA<|B8 fun v3=>B8 fun v4=>B8 fun v5=>B8 fun v6=>B8 fun v7=>B0 fun r3=>B0 fun r4=>A7
theorem c190(x0:Option Addr)(x1:Int):CC 190 #[.q x0,.i x1] fun K=>
  A8 x0 fun a1=>
  ld a1 (.lf .ptr) fun v1=>
  cl PP 252 #[.q v1,.i x1] [lI] fun r1=>
  ifB (decide ((r1.1:Int)=11)) (
   cl PP 136 #[.q x0,.i r1.1] [lI] fun r2=>
   K (.i r2.1)) (
   ld (a1.add 1) (.lf .ptr) fun v2=>
   cl PP 253 #[.q v2,.i x1,.b ((r1.1:Int)==10)] [.lf .bool] fun r3=>
   ld (a1.add 3) (.lf .map) fun v3=>
   smW PP (Builtin.delete_ #[79,3] 0 #[.map v3,.i x1]) [] fun v4=>
   K (.i 0))
  :=(e190 x0 x1).cc fun K=>by
  refine C2 fun a1 aG=>B8 fun v1=>B0 fun r1=>?_;refine C8 ?_ ?_
  · exact B0 fun r2=>A7
  · exact B1 aG<|B8 fun v2=>B0 fun r3=>B1 aG<|B8 fun v3=>Am3 fun v4=>A7
theorem c191(x0:Option Addr)(x1:Int):CC 191 #[.q x0,.i x1] fun K=>
  A8 x0 fun a1=>
  ld (a1.add 2) (.lf .ptr) fun v1=>
  nw (.cells #[.i 1] 3) fun n1=>
  cl PP 134 #[.q x0,.slice (some n1.z) 1 1] [lI] fun r1=>
  keep (C9 (a1.add 2) [.q v1])<|
  cl PP 133 #[.q v1,.i r1.1] [.lf .bool] fun r2=>
  ld a1 (.lf .ptr) fun v2=>
  ld (a1.add 5) (lI) fun v3=>
  w64 (v3+1) fun i1=>
  cl PP 254 #[.q v2,.i x1,.i i1] [lI] fun r3=>
  ifB (decide ((r3.1:Int)=0)) (
   ld (a1.add 5) (lI) fun v4=>
   w64 (v4+1) fun i2=>
   st (a1.add 5) [.i i2]<|
   ld (a1.add 1) (.lf .ptr) fun v5=>
   cl PP 255 #[.q v5,.i x1] [.lf .bool] fun r5=>
   ld (a1.add 5) (lI) fun v6=>
   nw (.cells #[.i x1,.i v6,.i 1,.slice none 0 0] 156) fun n2=>
   st (a1.add 4) [.p n2]<|
   ld (a1.add 3) (.lf .map) fun v7=>
   ld (a1.add 4) (.lf .ptr) fun v8=>
   smU PP (Instr.mapUpdate 79 (.map v7) (.i x1) (.q v8))<|
   K (.i 0)) (
   cl PP 136 #[.q x0,.i r3.1] [lI] fun r4=>
   K (.i r4.1))
  :=(e191 x0 x1).cc fun K=>by
  refine C2 fun a1 aG=>B8 fun v1=>U0 fun n1=>B0 fun r1=>S9<|B0 fun r2=>B1 aG<|B1 aG<|B8 fun v2=>B8 fun v3=>D0<|B0 fun r3=>?_;refine E1 ?_ ?_
  · exact B0 fun r4=>A7
  · exact B1 aG<|B8 fun v4=>D0<|B1 aG<|Ae5<|B1 aG<|B8 fun v5=>B0 fun r5=>B1 aG<|B8 fun v6=>U0 fun n2=>B1 aG<|Ae5<|B1 aG<|B1 aG<|B8 fun v7=>B8 fun v8=>B66<|A7
theorem c193(x0:Option Addr)(x1:Int)(x2:ShV Z3)(x3:SlV):CC 193 #[.q x0,.i x1,.agg (ki5 x2),.sv x3] fun K=>
  cl PP 93 #[.q x0] [Z4] fun r1=>
  cl PP 256 #[.agg (ki5 x2),.sv x3,.i r1.1.2.2.1] [.lf .sl,lI] fun r2=>
  ifB (decide ((r2.2.1:Int)=0)) (
   cl PP 257 #[.q x0,.i x1,.i x2.2.2.2.2.1,.sv r2.1] [lI] fun r3=>
   K (.i r3.1)) (
   K (.i r2.2.1))
  :=(e193 x0 x1 x2 x3).cc fun K=>by
  refine D2 fun n1=>B3 0 0 rfl rfl rfl<|B0 fun r1=>M8 0 0 rfl rfl rfl<|B0 fun r2=>?_;refine E1 ?_ ?_
  · exact A7
  · exact B3 0 4 rfl rfl rfl<|B0 fun r3=>A7
set_option maxRecDepth 100000
theorem c223(x0:Option Addr)(x1:Int):CC 223 #[.q x0,.i x1] fun K=>
  ifB (Option.isNone x0) (
   K (.t #[.slice none 0 0,.i 1])) (
   cl PP 93 #[.q x0] [Z4] fun r1=>
   lp [.lf .sl,lI] (⟨none,0,0⟩,0,()) fun z1 go1=>
    ifB (decide ((z1.2.1:Int)<r1.1.2.1)) (
     cl PP 181 #[.q x0,.i x1,.i z1.2.1] [.lf .sl,lI] fun r2=>
     ifB (decide ((r2.2.1:Int)=0)) (
      apv PP 96 96 96 27 z1.1 1 [.sv r2.1] fun s1=>
      w64 (z1.2.1+1) fun i1=>
      go1 (s1,i1,())) (
      K (.t #[.slice none 0 0,.i r2.2.1]))) (
     K (.t #[.sv z1.1,.i 0])))
  :=(e223 x0 x1).cc fun K=>by
  refine B9 ?_ ?_
  · exact A7
  · refine B0 fun r1=>K9 fun go1' go1 aD z1=>?_
    refine B9 ?_ ?_
    · refine B0 fun r2=>?_
      refine E1 ?_ ?_
      · exact A7
      · exact D2 fun n1=>Ae6 (v:=_) 0 rfl fun s1=>D0<|E8 (aD _) rfl
    · exact A7
theorem c224(x0:SlV):CC 224 #[.sv x0] fun K=>
  cl PP 283 #[.sv x0] [.lf .ptr] fun r1=>
  A8 r1.1 fun a1=>
  ld a1 (.lf .sl) fun v1=>
  ifB (decide ((v1.len:Int)=0)) (
   K (.t #[.agg #[.i 0,.b false,.slice none 0 0],.b false])) (
   ld a1 (.lf .sl) fun v2=>
   elp v2.a v2.len 0 7 fun a2=>
   ld (a2.add 3) (lI) fun v3=>
   st (a1.add 1) [.i v3]<|
   cl PP 284 #[.q r1.1,.i 0,.agg #[.i 1,.i 0,.i 1,.i 0,.i 0]] [.lf .sl,.lf .bool] fun r2=>
   ifB r2.2.1 (
    ifB (decide ((r2.1.len:Int)>0)) (
     K (.t #[.agg #[.i 0,.b false,.slice none 0 0],.b false])) (
     jn (fun y1:RsV []=>
      ld (a1.add 1) (lI) fun v6=>
      cl PP 286 #[.q r1.1,.func (.func 287) #[.q r1.1] #[]] [.lf .sl] fun r4=>
      keep (C9 (a1.add 1) [.i v6])<|
      K (.t #[.agg #[.i v6,.b false,.sv r4.1],.b true])) fun j1=>
     ld (a1.add 2) (lI) fun v4=>
      ifB (decide ((v4:Int)>0)) (
       cl PP 285 #[.q r1.1] [.lf .sl,.lf .bool] fun r3=>
       ifB r3.2.1 (
        ld (a1.add 1) (lI) fun v5=>
        K (.t #[.agg #[.i v5,.b true,.sv r3.1],.b true])) (
        j1 (()))) (
       j1 (())))) (
    K (.t #[.agg #[.i 0,.b false,.slice none 0 0],.b false])))
  :=(e224 x0).cc fun K=>by
  refine D2 fun n1=>B0 fun r1=>C2 fun a1 aG=>B8 fun v1=>?_;refine C8 ?_ ?_
  · exact G2 0 0 rfl rfl rfl rfl<|B3 0 0 rfl rfl rfl<|A7
  · refine B1 aG<|B8 fun v2=>H8 fun a2 bA=>B8 fun v3=>B1 aG<|Ae5<|B0 fun r2=>?_
    refine K0 ?_ ?_
    · exact G2 0 0 rfl rfl rfl rfl<|B3 0 0 rfl rfl rfl<|A7
    · refine B9 ?_ ?_
      · exact G2 0 0 rfl rfl rfl rfl<|B3 0 0 rfl rfl rfl<|A7
      · refine U8 (fun y1=>?_) fun j1' j1 bP=>?_
        · exact B1 aG<|B8 fun v6=>B0 fun r4=>S9<|G2 0 0 rfl rfl rfl rfl<|B3 0 0 rfl rfl rfl<|A7
        · refine B1 aG<|B8 fun v4=>?_
          refine B9 ?_ ?_
          · refine B0 fun r3=>?_
            refine B9 ?_ ?_
            · exact B1 aG<|B8 fun v5=>G2 0 0 rfl rfl rfl rfl<|B3 0 0 rfl rfl rfl<|A7
            · exact E8 (bP _) rfl
          · exact E8 (bP _) rfl
theorem c225(x0:SlV)(x1:FnV):CC 225 #[.slice x0.a x0.len x0.cap,.func x1.fn x1.first x1.captured] fun K=>
 cl PP 288 #[.slice x0.a x0.len x0.cap,.i x0.len,.func x1.fn x1.first x1.captured] [] fun r1=>
 K (.t #[])
 :=(e225 x0 x1).cc fun K=>by
 exact B0 fun r1=>A7
theorem c226(x0:ShV Z5)(x1:ShV Z5):CC 226 #[.agg (kiiv x0),.agg (kiiv x1)] fun K=>
 w64 (x0.2.1-x1.2.1) fun i1=>
 K (.i i1)
 :=(e226 x0 x1).cc fun K=>by
 exact D2 fun n1=>D2 fun n2=>B3 1 1 rfl rfl rfl<|B3 0 1 rfl rfl rfl<|D0<|A7
theorem c246(x0:Option Addr)(x1:ShV Z1)(x2:ShV Z1)(x3:Int):CC 246 #[.q x0,.agg (ki3 x1),.agg (ki3 x2),.i x3] fun K=>
  A8 x0 fun a1=>
  ld (a1.add 11) (.lf .ptr) fun v1=>
  cl PP 118 #[.q v1,.agg (ki3 x1)] [.lf .str,.lf .sl,lI] fun r1=>
  cl PP 41 #[.q x0,.w r1.1] [.lf (.int .u64)] fun r2=>
  jn (fun y1:RsV []=>
   jn (fun y2:RsV []=>
    ld a1 Z4 fun v7=>
    cl PP 111 #[.w r1.1,.sv r1.2.1,.agg (ki4 v7)] [.lf .sl,lI] fun r11=>
    ifB (decide ((r11.2.1:Int)=0)) (
     cl PP 64 #[.q (some (a1.add 11)),.i 2,.sv r11.1] [Z1,lI] fun r12=>
     ifB (decide ((r12.2.1:Int)=0)) (
      ld (Addr.add (a1.add 19) 2) (.lf .ptr) fun v8=>
      cl PP 294 #[.q v8,.int .u64 r2.1,.agg (ki3 x1),.agg (ki3 r12.1)] [.lf .bool] fun r13=>
      K (.i r12.2.1)) (
      K (.i r12.2.1))) (
     K (.i r11.2.1))) fun j2=>
   ld (Addr.add (a1.add 19) 2) (.lf .ptr) fun v3=>
    cl PP 293 #[.q v3,.int .u64 r2.1,.agg (ki3 x1)] [lI] fun r5=>
    ifB (decide ((r5.1:Int)=0)) (
     ld (Addr.add (a1.add 19) 2) (.lf .ptr) fun v4=>
     cl PP 106 #[.q v4,.int .u64 r2.1,.agg (ki3 x1)] [.lf .bool] fun r6=>
     K (.i 0)) (
     nw (.cells #[.i x2.2.2.1,.i x3] 3) fun n3=>
     cl PP 126 #[.q (some (a1.add 11)),.slice (some n3.z) 2 2] [.lf .bool] fun r7=>
     ifB r7.1 (
      nw (.cells #[.i x2.2.2.1,.i x3] 3) fun n4=>
      cl PP 128 #[.q (some (a1.add 11)),.slice (some n4.z) 2 2] [.lf .bool] fun r9=>
      ifB r9.1 (
       j2 (())) (
       ld (Addr.add (a1.add 19) 2) (.lf .ptr) fun v6=>
       cl PP 106 #[.q v6,.int .u64 r2.1,.agg (ki3 x1)] [.lf .bool] fun r10=>
       K (.i 0))) (
      ld (Addr.add (a1.add 19) 2) (.lf .ptr) fun v5=>
      cl PP 106 #[.q v5,.int .u64 r2.1,.agg (ki3 x1)] [.lf .bool] fun r8=>
      K (.i 0)))) fun j1=>
  ifB (decide ((r1.2.2.1:Int)=0)) (
    ld (Addr.add (a1.add 19) 2) (.lf .ptr) fun v2=>
    cl PP 117 #[.q v2,.int .u64 r2.1] [.lf .sl] fun r3=>
    cl PP 292 #[.sv r3.1,.agg (ki3 x1)] [.lf .bool] fun r4=>
    ifB r4.1 (
     j1 (())) (
     K (.i 0))) (
    K (.i 0))
  :=(e246 x0 x1 x2 x3).cc fun K=>by
  refine D2 fun n1=>D2 fun n2=>C2 fun a1 aG=>B8 fun v1=>B3 1 0 rfl rfl rfl<|B0 fun r1=>B0 fun r2=>?_;refine U8 (fun y1=>?_) fun j1' j1 bP=>?_
  · refine U8 (fun y2=>?_) fun j2' j2 fB=>?_
    · refine B1 aG<|B8 fun v7=>B0 fun r11=>?_
      refine E1 ?_ ?_
      · exact A7
      · refine B1 aG<|B0 fun r12=>D2 fun n5=>G2 0 0 rfl rfl rfl rfl ?_
        refine C8 ?_ ?_
        · exact B1 aG<|B8 fun v8=>B3 2 0 rfl rfl rfl<|B3 0 0 rfl rfl rfl<|B0 fun r13=>A7
        · exact A7
    · refine B1 aG<|B8 fun v3=>B3 1 0 rfl rfl rfl<|B0 fun r5=>?_
      refine C8 ?_ ?_
      · exact B1 aG<|B8 fun v4=>B3 1 0 rfl rfl rfl<|B0 fun r6=>A7
      · refine B1 aG<|B3 0 2 rfl rfl rfl<|U0 fun n3=>B0 fun r7=>?_
        refine K0 ?_ ?_
        · exact B1 aG<|B8 fun v5=>B3 1 0 rfl rfl rfl<|B0 fun r8=>A7
        · refine B1 aG<|B3 0 2 rfl rfl rfl<|U0 fun n4=>B0 fun r9=>?_
          refine K0 ?_ ?_
          · exact B1 aG<|B8 fun v6=>B3 1 0 rfl rfl rfl<|B0 fun r10=>A7
          · exact E8 (fB _) rfl
  · refine E1 ?_ ?_
    · exact A7
    · refine B1 aG<|B8 fun v2=>B3 1 0 rfl rfl rfl<|B0 fun r3=>M8 1 0 rfl rfl rfl<|B0 fun r4=>?_
      refine K0 ?_ ?_
      · exact A7
      · exact E8 (bP _) rfl
theorem c247(x0:SlV)(x1:FnV):CC 247 #[.slice x0.a x0.len x0.cap,.func x1.fn x1.first x1.captured] fun K=>
  cl PP 295 #[.slice x0.a x0.len x0.cap,.func x1.fn x1.first x1.captured] [lI] fun r1=>
  ifB (decide ((r1.1:Int)=(-1))) (
   K (.sv x0)) (
   w64 (r1.1+1) fun i1=>
   lp [lI,lI] (r1.1,i1,()) fun z1 go1=>
    ifB (decide ((z1.2.1:Int)<x0.len)) (
     elp x0.a x0.len z1.2.1 3 fun a1=>
     ld a1 Z1 fun v1=>
     clv PP x1.fn (x1.first++#[.agg (ki3 v1)]) x1.captured [.lf .bool] fun r2=>
     ifB r2.1 (
      w64 (z1.2.1+1) fun i4=>
      go1 (z1.1,i4,())) (
      elp x0.a x0.len z1.1 3 fun a2=>
      st a2 [.i v1.1,.i v1.2.1,.i v1.2.2.1]<|
      w64 (z1.1+1) fun i2=>
      w64 (z1.2.1+1) fun i3=>
      go1 (i2,i3,()))) (
     slc x0 z1.1 x0.len x0.cap 3 fun s1=>
     smW PP (Builtin.clear_ #[55] 0 #[.sv s1]) [] fun v2=>
     slc x0 0 z1.1 x0.cap 3 fun s2=>
     K (.sv s2)))
  :=(e247 x0 x1).cc fun K=>by
  refine B0 fun r1=>?_;refine C8 ?_ ?_
  · exact A7
  · refine D0<|K9 fun go1' go1 aD z1=>?_
    refine B9 ?_ ?_
    · refine H8 fun a1 aG=>B8 fun v1=>D2 fun n1=>G2 0 0 rfl rfl rfl rfl<|B3 0 0 rfl rfl rfl<|Bb2 fun r2=>?_
      refine K0 ?_ ?_
      · exact B3 0 0 rfl rfl rfl<|H8 fun a2 bA=>Ae5<|D0<|D0<|E8 (aD _) rfl
      · exact D0<|E8 (aD _) rfl
    · exact A52 fun s1=>Am3 fun v2=>A52 fun s2=>A7
theorem c248(x0:ShV Z1)(x1:Option Addr):CC 248 #[.agg (ki3 x0),.q x1] fun K=>
 A8 x1 fun a1=>
 ld a1 (.lf .ptr) fun v1=>
 A8 v1 fun a2=>
 ld a2 (lI) fun v2=>
 K (.b ((x0.1:Int)==v2))
 :=(e248 x0 x1).cc fun K=>by
 exact D2 fun n1=>B3 0 0 rfl rfl rfl<|C2 fun a1 aG=>B8 fun v1=>C2 fun a2 bA=>B8 fun v2=>A7
theorem c249(x0:Option Addr)(x1:Int)(x2:Int)(x3:Int)(x4:SlV):CC 249 #[.q x0,.i x1,.i x2,.i x3,.sv x4] fun K=>
  lp [.lf .sl,lI] (⟨none,0,0⟩,0,()) fun z1 go1=>
   ifB (decide ((z1.2.1:Int)<x4.len)) (
    elp x4.a x4.len z1.2.1 3 fun a1=>
    ld a1 Z1 fun v1=>
    nw (.cells (ki3 v1) 3) fun n2=>
    cl PP 131 #[.sv z1.1,.slice (some n2.z) 3 3] [.lf .sl,.lf .bool] fun r1=>
    ifB r1.2.1 (
     w64 (z1.2.1+1) fun i1=>
     go1 (r1.1,i1,())) (
     K (.i 3))) (
    cl PP 193 #[.q x0,.i x1,.agg #[.i 4,.i 0,.i 1,.i x2,.i x3],.sv z1.1] [lI] fun r2=>
    K (.i r2.1))
  :=(e249 x0 x1 x2 x3 x4).cc fun K=>by
  refine K9 fun go1' go1 aD z1=>?_;refine B9 ?_ ?_
  · refine H8 fun a1 aG=>B8 fun v1=>D2 fun n1=>G2 0 0 rfl rfl rfl rfl<|B3 0 0 rfl rfl rfl<|B3 0 1 rfl rfl rfl<|B3 0 2 rfl rfl rfl<|U0 fun n2=>B0 fun r1=>?_
    refine K0 ?_ ?_
    · exact A7
    · exact D0<|E8 (aD _) rfl
  · exact B0 fun r2=>A7
set_option maxRecDepth 100000
theorem c254(x0:Option Addr)(x1:Int)(x2:Int):CC 254 #[.q x0,.i x1,.i x2] fun K=>
 cl PP 193 #[.q x0,.i x1,.agg #[.i 1,.i 0,.i 1,.i x2,.i 0],.slice none 0 0] [lI] fun r1=>
 K (.i r1.1)
 :=(e254 x0 x1 x2).cc fun K=>by
 exact B0 fun r1=>A7
set_option maxRecDepth 100000
theorem c286(x0:Option Addr)(x1:FnV):CC 286 #[.q x0,.func x1.fn x1.first x1.captured] fun K=>
  lp [.lf .sl,lI] (⟨none,0,0⟩,1,()) fun z1 go1=>
   A8 x0 fun a1=>
   ld (a1.add 2) (lI) fun v1=>
   ifB (decide ((z1.2.1:Int)<=v1)) (
    clv PP x1.fn (x1.first++#[.i z1.2.1]) x1.captured [Z1,.lf .bool] fun r1=>
    ifB r1.2.1 (
     apv PP 152 152 152 215 z1.1 1 [.i r1.1.1,.i r1.1.2.1,.i r1.1.2.2.1] fun s1=>
     w64 (r1.1.2.2.1-1) fun i2=>
     w64 (z1.2.1+i2) fun i3=>
     w64 (i3+1) fun i4=>
     go1 (s1,i4,())) (
     w64 (z1.2.1+1) fun i1=>
     go1 (z1.1,i1,()))) (
    K (.sv z1.1))
  :=(e286 x0 x1).cc fun K=>by
  refine K9 fun go1' go1 aD z1=>C2 fun a1 aG=>B8 fun v1=>?_;refine B9 ?_ ?_
  · refine Bb2 fun r1=>D2 fun n1=>G2 0 0 rfl rfl rfl rfl ?_
    refine K0 ?_ ?_
    · exact D0<|E8 (aD _) rfl
    · exact B3 0 0 rfl rfl rfl<|D2 fun n2=>Ae6 (v:=_) 0 rfl fun s1=>B3 1 2 rfl rfl rfl<|D0<|D0<|D0<|E8 (aD _) rfl
  · exact A7
theorem c288(x0:SlV)(x1:Int)(x2:FnV):CC 288 #[.slice x0.a x0.len x0.cap,.i x1,.func x2.fn x2.first x2.captured] fun K=>
  lp [lI,lI] (0,20,()) fun z1 go1=>
   ifB (decide ((z1.2.1:Int)<=x1)) (
    cl PP 321 #[.slice x0.a x0.len x0.cap,.i z1.1,.i z1.2.1,.func x2.fn x2.first x2.captured] [] fun r1=>
    w64 (z1.2.1+20) fun i1=>
    go1 (z1.2.1,i1,())) (
    cl PP 321 #[.slice x0.a x0.len x0.cap,.i z1.1,.i x1,.func x2.fn x2.first x2.captured] [] fun r2=>
    lp [lI] (20,()) fun z2 go2=>
     ifB (decide ((z2.1:Int)<x1)) (
      w64 (2*z2.1) fun i2=>
      lp [lI,lI] (0,i2,()) fun z3 go3=>
       ifB (decide ((z3.2.1:Int)<=x1)) (
        w64 (z3.1+z2.1) fun i3=>
        cl PP 322 #[.slice x0.a x0.len x0.cap,.i z3.1,.i i3,.i z3.2.1,.func x2.fn x2.first x2.captured] [] fun r3=>
        w64 (2*z2.1) fun i4=>
        w64 (z3.2.1+i4) fun i5=>
        go3 (z3.2.1,i5,())) (
        w64 (z3.1+z2.1) fun i6=>
        ifB (decide ((i6:Int)<x1)) (
         cl PP 322 #[.slice x0.a x0.len x0.cap,.i z3.1,.i i6,.i x1,.func x2.fn x2.first x2.captured] [] fun r4=>
         w64 (z2.1*2) fun i7=>
         go2 (i7,())) (
         w64 (z2.1*2) fun i8=>
         go2 (i8,())))) (
      K (.t #[])))
  :=(e288 x0 x1 x2).cc fun K=>by
  refine K9 fun go1' go1 aD z1=>?_;refine B9 ?_ ?_
  · exact B0 fun r1=>D0<|E8 (aD _) rfl
  · refine B0 fun r2=>K9 fun go2' go2 cV z2=>?_
    refine B9 ?_ ?_
    · refine D0<|K9 fun go3' go3 lT z3=>?_
      refine B9 ?_ ?_
      · exact D0<|B0 fun r3=>D0<|D0<|E8 (lT _) rfl
      · refine D0 ?_
        refine B9 ?_ ?_
        · exact B0 fun r4=>D0<|E8 (cV _) rfl
        · exact D0<|E8 (cV _) rfl
    · exact A7
theorem c292(x0:SlV)(x1:ShV Z1):CC 292 #[.sv x0,.agg (ki3 x1)] fun K=>
 cl PP 323 #[.sv x0,.agg (ki3 x1)] [lI] fun r1=>
 K (.b (decide ((r1.1:Int)≥0)))
 :=(e292 x0 x1).cc fun K=>by
 exact D2 fun n1=>B3 0 0 rfl rfl rfl<|B0 fun r1=>A7
theorem c295(x0:SlV)(x1:FnV):CC 295 #[.slice x0.a x0.len x0.cap,.func x1.fn x1.first x1.captured] fun K=>
  lp [lI] (0,()) fun z1 go1=>
   ifB (decide ((z1.1:Int)<x0.len)) (
    elp x0.a x0.len z1.1 3 fun a1=>
    ld a1 Z1 fun v1=>
    clv PP x1.fn (x1.first++#[.agg (ki3 v1)]) x1.captured [.lf .bool] fun r1=>
    ifB r1.1 (
     K (.i z1.1)) (
     w64 (z1.1+1) fun i1=>
     go1 (i1,()))) (
    K (.i (-1)))
  :=(e295 x0 x1).cc fun K=>by
  refine K9 fun go1' go1 aD z1=>?_;refine B9 ?_ ?_
  · refine H8 fun a1 aG=>B8 fun v1=>Bb2 fun r1=>?_
    refine B9 ?_ ?_
    · exact A7
    · exact D0<|E8 (aD _) rfl
  · exact A7
set_option maxRecDepth 100000
theorem c321(x0:SlV)(x1:Int)(x2:Int)(x3:FnV):CC 321 #[.slice x0.a x0.len x0.cap,.i x1,.i x2,.func x3.fn x3.first x3.captured] fun K=>
  w64 (x1+1) fun i1=>
  lp [lI] (i1,()) fun z1 go1=>
   ifB (decide ((z1.1:Int)<x2)) (
    lp [lI] (z1.1,()) fun z2 go2=>
     jn (fun y1:RsV []=>
      w64 (z2.1-1) fun i5=>
      w64 (z2.1-1) fun i6=>
      elp x0.a x0.len i6 3 fun a3=>
      elp x0.a x0.len z2.1 3 fun a4=>
      ld a3 Z5 fun v3=>
      ld a4 Z5 fun v4=>
      st a4 [.i v3.1,.i v3.2.1,.slice v3.2.2.1.a v3.2.2.1.len v3.2.2.1.cap]<|
      elp x0.a x0.len i5 3 fun a5=>
      st a5 [.i v4.1,.i v4.2.1,.slice v4.2.2.1.a v4.2.2.1.len v4.2.2.1.cap]<|
      w64 (z2.1-1) fun i7=>
      go2 (i7,())) fun j1=>
     ifB (decide ((z2.1:Int)>x1)) (
       elp x0.a x0.len z2.1 3 fun a1=>
       w64 (z2.1-1) fun i2=>
       elp x0.a x0.len i2 3 fun a2=>
       ld a1 Z5 fun v1=>
       ld a2 Z5 fun v2=>
       clv PP x3.fn (x3.first++#[.agg #[.i v1.1,.i v1.2.1,.slice v1.2.2.1.a v1.2.2.1.len v1.2.2.1.cap],.agg #[.i v2.1,.i v2.2.1,.slice v2.2.2.1.a v2.2.2.1.len v2.2.2.1.cap]]) x3.captured [lI] fun r1=>
       ifB (decide ((r1.1:Int)<0)) (
        j1 (())) (
        w64 (z1.1+1) fun i3=>
        go1 (i3,()))) (
       w64 (z1.1+1) fun i4=>
       go1 (i4,()))) (
    K (.t #[]))
  :=(e321 x0 x1 x2 x3).cc fun K=>by
  refine D0<|K9 fun go1' go1 aD z1=>?_;refine B9 ?_ ?_
  · refine K9 fun go2' go2 cV z2=>?_
    refine U8 (fun y1=>?_) fun j1' j1 bP=>?_
    · exact D0<|D0<|H8 fun a3 jN=>H8 fun a4 rW=>B8 fun v3=>B8 fun v4=>B00 rW<|Ae5<|H8 fun a5 vL=>Ae5<|D0<|E8 (cV _) rfl
    · refine B9 ?_ ?_
      · refine H8 fun a1 aG=>D0<|H8 fun a2 bA=>B8 fun v1=>B8 fun v2=>Bb2 fun r1=>?_
        refine B9 ?_ ?_
        · exact E8 (bP _) rfl
        · exact D0<|E8 (aD _) rfl
      · exact D0<|E8 (aD _) rfl
  · exact A7
theorem c323(x0:SlV)(x1:ShV Z1):CC 323 #[.sv x0,.agg (ki3 x1)] fun K=>
  lp [lI] (0,()) fun z1 go1=>
   ifB (decide ((z1.1:Int)<x0.len)) (
    elp x0.a x0.len z1.1 3 fun a1=>
    ld a1 Z1 fun v1=>
    smP PP (binOp .eql 102 (.agg (ki3 x1)) (.agg (ki3 v1))) (.lf .bool) fun v2=>
    ifB v2 (
     K (.i z1.1)) (
     w64 (z1.1+1) fun i1=>
     go1 (i1,()))) (
    K (.i (-1)))
  :=(e323 x0 x1).cc fun K=>by
  refine D2 fun n1=>K9 fun go1' go1 aD z1=>?_;refine B9 ?_ ?_
  · refine H8 fun a1 aG=>B3 0 0 rfl rfl rfl<|B8 fun v1=>Cq6 fun v2=>?_
    refine B9 ?_ ?_
    · exact A7
    · exact D0<|E8 (aD _) rfl
  · exact A7
set_option maxRecDepth 100000
theorem Br9{ps:List (List UInt8)}{ep:Int}{q:Nat}{x:It}(h:O1 ps ep q=some x):1<=x.2.2.1/\x.2.2.1<=16:=by
 unfold O1 at h;split at h
 ·rename_i b hb;split at h
  ·rename_i h1;split at h
   ·obtain rfl:=Dq9 h;have:=Ac9 (B43 h1.1);exact⟨this.2.2.1,this.2.2.2.1⟩
   ·cases h
  ·cases h
 ·cases h
theorem Do2(L B:A4)(m:Nat)(ps:List (List UInt8))(ep:Int)(last:Nat)(hB:SH m ps ep last B)(hs: ∀x∈B,x∈L)(eS:last<min ps.length 16):
  CallF PP 286 #[.p m,.func (.func 287) #[.p m] #[]] L fun r L'=> ∃(v:SlV) (seg:A4),r= .slice v.a v.len v.cap/\L'=seg++L/\Own v 3 Cc7 ((Af5 (O1 ps ep) last 17 1).flatMap P8) seg:=by
 refine(c286 (some m.z) ⟨.func 287,#[.p m],#[]⟩).c ?_;have vR:=hB;obtain⟨sv,seg,ims,rX,hh⟩:=hB;have gU:sO m sv ep last∈L:=hs _ (by rw[rX];exact Dq7);refine G7 (fun z' z L'=> ∃(p k:Nat) (s:SlV) (ds:List It) (sg:A4),1<=p/\p<=32/\z'=40-p/\last+1<=p+k/\z=(s,(p:Int),())/\L'=sg++L/\Own s 3 Cc7 (ds.flatMap P8) sg/\ds.length<p/\Af5 (O1 ps ep) last 17 1=ds++Af5 (O1 ps ep) last k p) 39
  ⟨1,17,⟨none,0,0⟩,[],[],by omega,by omega,rfl,by omega,rfl,rfl,F6,by simp,rfl⟩ ?_
 rintro z' z _ ⟨p,k,s,ds,sg,h1,h2,rfl,hk,rfl,rfl,own,hd,he⟩;dsimp only;have aT:=own.sl.els_len E3 (by decide);refine A5 rfl (A6 (last:Int) ((s_la gU).mono Bf9) (B6 (fun(bS:(p:Int)<=last)=>?_) (fun(yY: ¬(p:Int)<=last)=>?_)))
 ·obtain⟨k,rfl⟩: ∃k',k=k'+1:=⟨k-1,by omega⟩;have aP:Af5 (O1 ps ep) last (k+1) p=match O1 ps ep p with|some x=>x::Af5 (O1 ps ep) last k (p+x.2.2.1.toNat)|none=>Af5 (O1 ps ep) last k (p+1):=by
   rw[Af5,Dq5 (by omega)]<;>rfl
  refine Ab4 (by kernel_rfl) (S8 (at_cl (sg++L) B m ps ep last vR (fun x hx=>Du2 _ (hs x hx)) p (by omega)) ?_);rintro _ _-⟨rfl,⟨hn,rfl⟩|⟨x,hx,rfl⟩⟩
  ·rw[aP,hn]at he;refine⟨((0,0,0,()),false,()),rfl,ifF rfl (D6 (by omega) ⟨40-(p+1),by omega,p+1,k,s,ds,sg,by omega,by omega,rfl,by omega,rfl,rfl,own,by omega,he⟩)⟩
  ·have hr:=Br9 hx;rw[aP,hx]at he;refine⟨(x,true,()),rfl,ifT rfl ?_⟩;dsimp only;refine Cu6 B06 Cg2 [] L own rfl rfl rfl (by omega) fun s2 sg2 aJ own2=>D6 (by omega) (D6 (by omega) (D6 (by omega) ?_));refine⟨40-(p+x.2.2.1.toNat),by omega,p+x.2.2.1.toNat,k,s2,ds++[x],sg2,by omega,by omega,rfl,by omega,?_,rfl,?_,by simp;omega,by rw[he];simp⟩
   ·show(s2,(p:Int)+(x.2.2.1-1)+1,())=_;rw[show(p:Int)+(x.2.2.1-1)+1=((p+x.2.2.1.toNat:Nat):Int) by omega]
   ·rw[Dt3,Dx7];exact own2
 ·have aP:Af5 (O1 ps ep) last k p=[]:=by
   cases k with
   |zero=>rfl
   |succ k=>rw[Af5,Dq4 (by omega)]
  rw[aP,Dr3]at he;exact .of ⟨s,sg,rfl,rfl,by rw[he];exact own⟩
abbrev Rg:=(Int×Bool×List It)×Bool
def Cd7(q:Rg)(A:A4)(r:Value)(L':A4):Prop:= ∃(v:SlV) (seg:A4),r= .t #[.agg #[.i q.1.1,.b q.1.2.1,.slice v.a v.len v.cap],.b q.2]/\L'=seg++A/\Own v 3 Cc7 (q.1.2.2.flatMap P8) seg
theorem Cd7.no{q:Rg}{A J:A4}(h:q=((0,false,[]),false)):HL.Ends (Cd7 q A) (.t #[.agg #[.i 0,.b false,.slice none 0 0],.b false]) (J++A):=.app (.of ⟨⟨none,0,0⟩,[],by rw[h],rfl,by rw[h];exact F6⟩)
theorem C34{ps:List (List UInt8)}(h:ps≠[]):M6 ps<min ps.length 16:=by
 have h1:=Bg9 ps (min ps.length 16-1);have h2:0<ps.length:=List.length_pos_iff.2 h;unfold M6;omega
theorem B36{ps:List (List UInt8)}(h:Ab5 ps 0 (1,0,1,epR ps,0,())≠some []):Q3 ps=((0,false,[]),false):=by
 unfold Q3;split
 ·rfl
 ·split
  ·rename_i h2;exact absurd h2 h
  ·rfl
theorem Ca6{ps:List (List UInt8)}(h0:ps≠[])(h:Ab5 ps 0 (1,0,1,epR ps,0,())=some []){l:List It}(hl:(if M6 ps>0 then A74 ps (epR ps)else none)=some l):Q3 ps=((epR ps,true,l),true):=by
 unfold Q3;rw[Dq4 h0,h];simp only[hl]
theorem A95{ps:List (List UInt8)}(h0:ps≠[])(h:Ab5 ps 0 (1,0,1,epR ps,0,())=some [])(hl:(if M6 ps>0 then A74 ps (epR ps)else none)=none):Q3 ps=((epR ps,false,Af5 (O1 ps (epR ps)) (M6 ps) 17 1),true):=by
 unfold Q3;rw[Dq4 h0,h];simp only[hl]
theorem Dh0(A:A4)(v:SlV)(l:List PV)(h:Z0 A v l)(hl:l.length<=1000000)(hb: ∀x∈l,x.2.length<=1000000):CallF PP 224 #[.slice v.a v.len v.cap] A (Cd7 (Q3 (l.map Prod.snd)) A):=by
 refine(c224 v).c ?_;refine S8 (Dl0 A v l h hl hb) ?_;rintro _ _-⟨m,B,rfl,rfl,vM⟩;refine⟨(some m.z,()),rfl,A5 rfl ?_⟩;obtain⟨sv,seg,ims,rfl,hh⟩:=vM;generalize eC:l.map Prod.snd=ps at hh⊢;have cR:=hh.own.sl.els_len IM.enc_len (by decide);have iJ:=hh.ilen;refine A6 sv (Da1 (L:=sO m sv 0 (M6 ps)::(seg++Y2 ims)++A) Dq7) (B6 (fun(h0:(sv.len:Int)=0)=>?_) (fun(h0: ¬(sv.len:Int)=0)=>?_))
 ·have:ps=[]:=D13.1 (by omega);exact Cd7.no (by rw[this];rfl)
 have aE:ps≠[]:=fun e=>h0 (by rw[e,Du7]at iJ;omega);have hO:=C34 aE;refine A6 sv (Da1 (L:=sO m sv 0 (M6 ps)::(seg++Y2 ims)++A) Dq7) ?_;have hSl:Sl (sO m sv 0 (M6 ps)::(seg++Y2 ims)++A) sv 7 (ims.flatMap IM.enc):=Sl.mono hh.own.sl fun x hx=>by simp[hx]
 have kL:0<ims.length:=by omega
 refine W5 IM.enc_len (by decide) hSl (i:=0) (n:=0) rfl kL fun a ha=>?_;obtain⟨rO,i1,-,-⟩:=hh.im kL;have bX:epR ps=ims[0].h.2.2.2.1:=by
  unfold epR;rw[i1];congr 4;simp[Dt0,rO]
 refine A6 ims[0].h.2.2.2.1 (ha.one 3 rfl) ?_;rw[<-bX];refine E4 (n:=m) (off:=1) (c:=#[.slice sv.a sv.len sv.cap,.i 0,.i (M6 ps)]) (T:=375) (fz:=(0,0)) [] ((seg++Y2 ims)++A) rfl (by simp[sO]) (by simp) (.inl (Dq6 _)) #[.slice sv.a sv.len sv.cap,.i (epR ps),.i (M6 ps)] rfl ?_;obtain⟨B,aa⟩: ∃B,B=sO m sv (epR ps) (M6 ps)::(seg++Y2 ims):=⟨_,rfl⟩;have hBB:([]++(m,Obj.cells #[.slice sv.a sv.len sv.cap,.i (epR ps),.i (M6 ps)] 375)::((seg++Y2 ims)++A))=B++A:=by rw[aa];rfl
 rw[hBB];have vM:SH m ps (epR ps) (M6 ps) B:=⟨sv,seg,ims,aa,hh⟩;have gU:sO m sv (epR ps) (M6 ps)∈B++A:=by rw[aa];simp
 refine S8 (Bx1 (B++A) B m ps (epR ps) (M6 ps) vM mem_l 0 (1,0,1,0,0,())) ?_;rintro _ _-⟨rfl,⟨hn,rfl⟩|⟨w,p,iF,rfl,hw,-⟩⟩
 ·exact⟨(⟨none,0,0⟩,false,()),rfl,ifF rfl (Cd7.no (B36 (by rw[hn];exact fun e=>by cases e)))⟩
 have hwl:=hw.len;refine⟨(w,true,()),rfl,ifT rfl (B6 (fun(h1:(w.len:Int)>0)=>Cd7.no (B36 (by rw[iF];intro e;cases e;simp at hwl;omega))) (fun(h1: ¬(w.len:Int)>0)=>?_))⟩;obtain rfl:p=[]:=D13.1 (by omega);refine W2 (fun _ L'=> ∃J,L'=J++(B++A)/\(if M6 ps>0 then A74 ps (epR ps)else none)=none) ?_ ?_
 ·rintro _ _ ⟨J,rfl,bF⟩;refine A6 (epR ps) ((s_ep gU).mono Bf9) (S8 (Do2 (J++(B++A)) B m ps (epR ps) (M6 ps) vM (fun x hx=>by simp[hx]) hO) ?_);rintro _ _-⟨v1,sg1,rfl,rfl,own1⟩;refine⟨(v1,()),rfl,F7 (((s_ep gU).mono Bf9).mono Bf9) (.drop (A:=sg1++A) (J:=J++B) ⟨v1,sg1,?_,rfl,?_⟩ ?_)⟩
  ·rw[A95 aE iF bF]
  ·rw[A95 aE iF bF];exact own1
  ·classical
   rw[Dt9];intro z;simp only[Du0];omega
 ·intro j hj;refine A6 (M6 ps:Int) (s_la gU) (B6 (fun(h2:(M6 ps:Int)>0)=>?_) (fun(h2: ¬(M6 ps:Int)>0)=>hj _ _ ⟨[],rfl,by rw[Dq4 (by omega)]⟩));have pH:M6 ps>0:=by omega
  refine S8 (Dg6 (B++A) B m ps (epR ps) vM mem_l) ?_;rintro _ _-(⟨hn,rfl,w2,rfl⟩|⟨its,w2,sg2,aJ,rfl,rfl,own2⟩)
  ·exact⟨(w2,false,()),rfl,ifF rfl (hj _ _ ⟨[],rfl,by rw[Dq5 pH];exact hn⟩)⟩
  ·have cT:=Ca6 aE iF (l:=its) (by rw[Dq5 pH];exact aJ);refine⟨(w2,true,()),rfl,ifT rfl (A6 (epR ps) ((s_ep gU).mono Bf9) (.drop (A:=sg2++A) (J:=B) ⟨w2,sg2,by rw[cT],rfl,by rw[cT];exact own2⟩ ?_))⟩
   classical
   rw[Dt9];intro z;simp only[Du0];omega
def T7(ps:List (List UInt8))(pg:Int):Nat->Option (List (List UInt8))
 |0=>some []
 |n+1=>match T7 ps pg n with
  |some l=>if pg<0\/(ps.length:Int)<=pg+n then none else if(E0 (ps.getD (pg.toNat+n) [])).2.2=0 then some (l++[(E0 (ps.getD (pg.toNat+n) [])).2.1])else none
  |none=>none
def Am0(ps:List (List UInt8))(x:It):List (List UInt8):=(T7 ps x.2.1 x.2.2.1.toNat).getD []
theorem By1{ps:List (List UInt8)}{pg:Int}: ∀{n m:Nat},n<=m->T7 ps pg n=none->T7 ps pg m=none
  |n,m,h,hn=>by
    induction m with
    | zero => obtain rfl:n=0:=by omega
              exact hn
    |succ m ih=>
      rcases Dw8 m n with h1|h1
      · obtain rfl:n=m+1:=by omega
        exact hn
      · rw[T7,ih h1]
theorem At3{ps:List (List UInt8)}{pg:Int}: ∀{n:Nat} {l:List (List UInt8)},T7 ps pg n=some l->l.length=n/\(0<n->pg+n<=ps.length)
 |0,l,h=>by obtain rfl:=Dq9 h;exact⟨rfl,fun h=>absurd h (by omega)⟩
 |n+1,l,h=>by
  rw[T7]at h;split at h
  ·rename_i l' bZ;split at h
   ·cases h
   ·split at h
    ·obtain rfl:=Dq9 h;exact⟨by simp[(At3 bZ).1],fun _=>by omega⟩
    ·cases h
  ·cases h
def Bc5(l:List (List UInt8))(A:A4)(r:Value)(L':A4):Prop:= ∃(v:SlV) (gs:List PG) (seg:A4),r= .slice v.a v.len v.cap/\L'=seg++(pgs gs++A)/\Own v 1 tB (gs.map PG.val) seg/\(∀g∈gs,g.Ok)/\gs.map PG.l=l
theorem Bc5.nil{l:List (List UInt8)}{A:A4}(h:l=[]):Bc5 l A (.slice none 0 0) A:=⟨⟨none,0,0⟩,[],[],rfl,rfl,F6,by simp,by rw[h];rfl⟩
def Cv4(ps:List (List UInt8))(pg:Int)(A:A4)(i:Nat)(s:SlV)(L':A4):Prop:= ∃(gs:List PG) (sg J X Y:A4),L'=X++sg++Y/\(X++Y).Perm (pgs gs++(J++A))/\Own s 1 tB (gs.map PG.val) sg/\(∀g∈gs,g.Ok)/\T7 ps pg i=some (gs.map PG.l)
theorem Cv4.sub{ps:List (List UInt8)}{pg:Int}{A:A4}{i:Nat}{s:SlV}{L':A4}(h:Cv4 ps pg A i s L'): ∀x∈A,x∈L':=by
 obtain⟨gs,sg,J,X,Y,rfl,hp,-⟩:=h;intro x hx;have h5:x∈X++Y:=(hp.mem_iff (a:=x)).2 (by simp[hx]);simp only[Dr5]at h5⊢;rcases h5 with h5|h5<;>simp[h5]
theorem Cv4.fin{ps:List (List UInt8)}{x:It}{A:A4}{i:Nat}{s:SlV}{L':A4}(h:Cv4 ps x.2.1 A i s L')(hi:i=x.2.2.1.toNat):HL.Ends (Bc5 (Am0 ps x) A) (.slice s.a s.len s.cap) L':=by
 obtain⟨gs,sg,J,X,Y,rfl,hp,own,aA,hg⟩:=h;refine .drop (A:=sg++(pgs gs++A)) (J:=J) ⟨s,gs,sg,rfl,rfl,own,aA,?_⟩ ?_
 ·unfold Am0;rw[<-hi,hg];rfl
 ·classical
  rw[Dt9]at hp⊢;intro z;have:=hp z;simp only[Du0]at this⊢;omega
theorem Cv4.app{ps:List (List UInt8)}{x:It}{A:A4}{i:Nat}{s:SlV}{L':A4}(h:Cv4 ps x.2.1 A i s L')(hn:T7 ps x.2.1 (i+1)=none)(hi:i<x.2.2.1.toNat)(seg:A4):HL.Ends (Bc5 (Am0 ps x) A) (.slice none 0 0) (seg++L'):=by
 obtain⟨gs,sg,J,X,Y,rfl,hp,-⟩:=h;refine .drop (A:=A) (J:=seg++(sg++(pgs gs++J))) (Bc5.nil (by unfold Am0;rw[By1 hi hn];rfl)) ?_
 classical
 rw[Dt9]at hp⊢;intro z;have:=hp z;simp only[Du0]at this⊢;omega
theorem Cv4.snoc{ps:List (List UInt8)}{pg:Int}{A:A4}{i:Nat}{s:SlV}{L':A4}(h:Cv4 ps pg A i s L')(g:PG)(hg:g.Ok)(dL:g.l.length<=1000000)(hi:i<=1000000)(hn:T7 ps pg (i+1)=(T7 ps pg i).map fun l=>l++[g.l]){k:SlV->HP}(hk: ∀s' L',Cv4 ps pg A (i+1) s' L'->k s' L'):
  apv PP tPs tPs tPs tB s 1 [g.val] k (g.seg++L'):=by
 obtain⟨gs,sg,J,X,Y,rfl,hp,own,aA,hl⟩:=h;have lR:=(At3 hl).1;rw[Dr1]at lR;have aT:=own.len;rw[Dr1]at aT;refine Cu6 Bt1 Cy3 (g.seg++X) Y own (by simp) rfl rfl (by omega) fun s2 sg2 _ own2=>hk _ _ ⟨gs++[g],sg2,J,g.seg++X,Y,by simp,?_,?_,?_,?_⟩
 ·rw[Q4,A31]
  classical
  rw[Dt9]at hp⊢;intro z;have:=hp z;simp only[Du0]at this⊢;omega
 ·rw[Ds2];exact own2
 ·intro g' cX;rcases Dr5.1 cX with h1|h1
  ·exact aA g' h1
  ·rw[Dr2.1 h1];exact hg
 ·rw[hn,hl];simp
theorem Bx6(A:A4)(v:SlV)(l:List PV)(h:Z0 A v l)(hl:l.length<=1000000)(hb: ∀x∈l,x.2.length<=1000000)(x:It)(hx:S0 .i64 x.2.1/\S0 .i64 x.2.2.1):
  CallF PP 169 #[.slice v.a v.len v.cap,.agg (ki3 x)] A (Bc5 (Am0 (l.map Prod.snd) x) A):=by
 refine(c169 v x).c ?_;have cR:=h.len;have vX:=Bl5 hx.1;have mN:=Bl5 hx.2;generalize eC:l.map Prod.snd=ps;have aW:ps.length=l.length:=by rw[<-eC];simp
 refine G7 (fun z' z L'=> ∃(i:Nat) (s:SlV),i<=x.2.2.1.toNat/\i<=l.length/\z'=x.2.2.1.toNat-i/\z=(s,(i:Int),())/\Cv4 ps x.2.1 A i s L') x.2.2.1.toNat ⟨0,⟨none,0,0⟩,by omega,by omega,by omega,rfl,[],[],[],[],A,rfl,Dq8 _,F6,by simp,rfl⟩ ?_;rintro z' z L1 ⟨i,s,hi,iJ,rfl,rfl,hP⟩;dsimp only;refine B6 (fun(hO:(i:Int)<x.2.2.1)=>?_) (fun(aS: ¬(i:Int)<x.2.2.1)=>hP.fin (by omega));obtain⟨gs,sg,J,X,Y,wP,hp,own,aA,hg⟩:=hP;have hP:Cv4 ps x.2.1 A i s L1:=⟨gs,sg,J,X,Y,wP,hp,own,aA,hg⟩;have hJ:i<x.2.2.1.toNat:=by omega
 have oD:=show T7 ps x.2.1 (i+1)=_ from rfl
 rw[T7,hg]at oD;simp only at oD;refine B6 (fun(h1:x.2.1<0)=>hP.app (by rw[T7,hg];simp only;rw[Dq5 (.inl h1)]) hJ []) (fun(h1: ¬x.2.1<0)=>D6 (by omega) (B6 (fun(h2:x.2.1≥(v.len:Int)-i)=>hP.app (by rw[T7,hg];simp only;rw[Dq5 (.inr (by omega))]) hJ []) (fun(h2: ¬x.2.1≥(v.len:Int)-i)=>D6 (by omega) ?_)));have hq:x.2.1.toNat+i<l.length:=by omega
 have aP:T7 ps x.2.1 (i+1)=if(E0 l[x.2.1.toNat+i].2).2.2=0 then some (gs.map PG.l++[(E0 l[x.2.1.toNat+i].2).2.1])else none:=by
  rw[T7,hg];simp only;rw[Dq4 (by omega)];have:ps.getD (x.2.1.toNat+i) []=l[x.2.1.toNat+i].2:=by rw[<-eC];simp[Dt0,hq]
  rw[this]
 refine C68 (h.sl.mono hP.sub) (n:=x.2.1.toNat+i) (by omega) (by rw[Dr1];exact hq) fun a ha=>?_;rw[D07]at ha;refine A6 l[x.2.1.toNat+i].1 ha (S8 (A28 L1 _ l[x.2.1.toNat+i].2 (Sl.mono (h.val _ (Dr7 hq)) hP.sub) (hb _ (Dr7 hq))) ?_);rintro _ _-⟨s2,sg2,rfl,rfl,own2⟩;refine⟨((E0 l[x.2.1.toNat+i].2).1,s2,(E0 l[x.2.1.toNat+i].2).2.2,()),rfl,B6 (fun(h3:(E0 l[x.2.1.toNat+i].2).2.2=0)=>?_) (fun(h3: ¬(E0 l[x.2.1.toNat+i].2).2.2=0)=>hP.app (by rw[aP,Dq4 h3]) hJ sg2)⟩;refine hP.snoc ⟨s2,sg2,(E0 l[x.2.1.toNat+i].2).2.1⟩ own2 (Dt1 (Ay2 _) (hb _ (Dr7 hq))) (by omega) (by rw[aP,hg,Dq5 h3];rfl) fun s' L' hP'=>D6 (by omega) ⟨x.2.2.1.toNat-(i+1),by omega,i+1,s',by omega,by omega,rfl,rfl,hP'⟩
structure Cfg where
 B:Nat
 P:Nat
 S:Nat
 W:Nat
structure Cv7(c:Cfg):Prop where
 b:2<=c.B/\c.B<=16
 p:4<=c.P/\c.P<=16
 s:64<=c.S/\c.S<=512
 w:1<=c.W/\c.W<=1048576
structure Blk where
 pages:List (List UInt8)
 next:Nat
 wear:Nat
 bad:Bool
structure Tn where
 b:Nat
 p:Nat
 meant:List UInt8
 image:List UInt8
structure Dev where
 c:Cfg
 after:Nat
 keep:Int
 down:Bool
 bs:List Blk
 bytes:Int
 torn:List Tn
def blk(n:Nat):List UInt8:=List.replicate n 255
def W6(d:Dev):Bool×Dev:=if d.after=0 then(false,d)else(decide (d.after=1),{d with after:=d.after-1,down:=decide (d.after=1)})
def R8(k:Int)(n:Nat):Nat:=min k.toNat n
theorem Av3(d:Dev):(W6 d).2.c=d.c/\(W6 d).2.bs=d.bs/\(W6 d).2.keep=d.keep/\(W6 d).2.bytes=d.bytes/\(W6 d).2.torn=d.torn:=by unfold W6;split<;>exact⟨rfl,rfl,rfl,rfl,rfl⟩
abbrev tBk:TypeId:=98
abbrev tFl:TypeId:=75
abbrev tPb:TypeId:=72
abbrev ePb:TypeId:=94
abbrev tTs:TypeId:=73
abbrev eT:TypeId:=401
theorem elemPb:V4 PP tPb ePb 1 8 [.q none]:=N3 (by kernel_rfl) (by kernel_rfl) rfl (by decide) (by decide)
theorem srcPb:Ax5 PP tPb:=.inl ⟨ePb,by kernel_rfl⟩
theorem elemTs:V4 PP tTs eT 4 64 [.i 0,.i 0,.slice none 0 0,.slice none 0 0]:=N3 (by kernel_rfl) (by kernel_rfl) rfl (by decide) (by decide)
theorem srcTs:Ax5 PP tTs:=.inl ⟨eT,by kernel_rfl⟩
structure PB where
 id:Nat
 v:SlV
 seg:A4
 ps:List PG
 next:Nat
 wear:Nat
 bad:Bool
def PB.blk(b:PB):Blk:=⟨b.ps.map PG.l,b.next,b.wear,b.bad⟩
def PB.obj(b:PB):Nat×Obj:=(b.id,.cells #[.slice b.v.a b.v.len b.v.cap,.i b.next,.i b.wear,.b b.bad] tBk)
def PB.objs(b:PB):A4:=b.obj::(b.seg++pgs b.ps)
structure PB.Ok(b:PB):Prop where
 own:Own b.v 1 tB (b.ps.map PG.val) b.seg
 ps: ∀g∈b.ps,g.Ok
def pbp(b:PB):Value:=.p b.id
def fO(m:Nat)(d:Dev)(bv tv:SlV):Nat×Obj:=
 (m,.cells #[.i d.after,.i d.keep,.b d.down,.i d.c.B,.i d.c.P,.i d.c.S,.i d.c.W,.slice bv.a bv.len bv.cap,.i d.bytes,.slice tv.a tv.len tv.cap] tFl)
section
variable {L:A4} {m:Nat} {d:Dev} {bv tv:SlV} {b:PB}
theorem b_ps(h:b.obj∈L):C9 b.id.z [.slice b.v.a b.v.len b.v.cap] L:=ldB (by unfold PB.obj at h;exact h) rfl
theorem Cu4(h:b.obj∈L):C9 ⟨b.id,1,none⟩ [.i b.next] L:=ldB (by unfold PB.obj at h;exact h) rfl
theorem b_wear(h:b.obj∈L):C9 ⟨b.id,2,none⟩ [.i b.wear] L:=ldB (by unfold PB.obj at h;exact h) rfl
theorem C83(h:b.obj∈L):C9 ⟨b.id,3,none⟩ [.b b.bad] L:=ldB (by unfold PB.obj at h;exact h) rfl
theorem Cr5(h:fO m d bv tv∈L):C9 m.z [.i d.after] L:=ldB (by unfold fO at h;exact h) rfl
theorem f_keep(h:fO m d bv tv∈L):C9 ⟨m,1,none⟩ [.i d.keep] L:=ldB (by unfold fO at h;exact h) rfl
theorem Cr4(h:fO m d bv tv∈L):C9 ⟨m,2,none⟩ [.b d.down] L:=ldB (by unfold fO at h;exact h) rfl
theorem f_cfg(h:fO m d bv tv∈L):C9 ⟨m,3,none⟩ [.i d.c.B,.i d.c.P,.i d.c.S,.i d.c.W] L:=ldB (by unfold fO at h;exact h) rfl
theorem f_P(h:fO m d bv tv∈L):C9 ⟨m,4,none⟩ [.i d.c.P] L:=ldB (by unfold fO at h;exact h) rfl
theorem f_S(h:fO m d bv tv∈L):C9 ⟨m,5,none⟩ [.i d.c.S] L:=ldB (by unfold fO at h;exact h) rfl
theorem f_W(h:fO m d bv tv∈L):C9 ⟨m,6,none⟩ [.i d.c.W] L:=ldB (by unfold fO at h;exact h) rfl
theorem f_bs(h:fO m d bv tv∈L):C9 ⟨m,7,none⟩ [.slice bv.a bv.len bv.cap] L:=ldB (by unfold fO at h;exact h) rfl
theorem Dn5(h:fO m d bv tv∈L):C9 ⟨m,8,none⟩ [.i d.bytes] L:=ldB (by unfold fO at h;exact h) rfl
theorem Dc4(h:fO m d bv tv∈L):C9 ⟨m,9,none⟩ [.slice tv.a tv.len tv.cap] L:=ldB (by unfold fO at h;exact h) rfl
end
theorem Ad5(L:A4)(n a b:Int):Reads PP 90 #[.i n,.i a,.i b] L (.b (decide (a<=n/\n<=b))):=by
 refine(e90 n a b).r ?_;refine C0 (fun(h:n≥a)=>.of ⟨?_,rfl⟩) (fun(h: ¬n≥a)=>.of ⟨?_,rfl⟩)
 ·congr 1;by_cases h2:n<=b
  ·rw[Dt2 h2,Dt2 (by omega)]
  ·rw[Ds7 h2,Ds7 (by omega)]
 ·congr 1;rw[Ds7 (by omega)]
theorem Bk1(n:Nat)(hn:n<=1048576):CallF PP 163 #[.i n] [] fun r L'=> ∃(g:PG),r=g.val/\L'=g.seg/\g.Ok/\g.l=blk n:=by
 refine(e163 n).c ?_;refine A38 Ar2 (l:=n) (c:=n) (Dq6 _) (by omega) fun q ob own _ _=>?_;rw[Bl4]at own;refine G7 (fun z' z L'=> ∃(i:Nat) (seg:A4),i<=n/\z'=n-i/\z=((i:Int),())/\L'=seg/\Own ⟨some q.z,n,n⟩ 1 eB (bvs (List.replicate i 255++List.replicate (n-i) 0)) seg) n ⟨0,[(q,ob)],by omega,by omega,rfl,rfl,by simpa using own⟩ ?_;rintro z' z L ⟨i,seg,hi,rfl,rfl,rfl,own⟩;refine C0 (fun(hO:(i:Int)<(n:Nat))=>?_) (fun(aS: ¬(i:Int)<(n:Nat))=>?_)
 ·refine A5 rfl (D9 (show(0:Int)<=i by omega) hO ?_);refine own.st (p:=i) [] [] (by rw[E5,Dr4,Dv3,Dv3,D42];omega) (by simp) rfl (by rw[Dr0,Dt8]) (by simp) fun seg' own'=>?_;rw[Ap1 (by rw[E5,Dr4,Dv3,Dv3];omega)]at own';refine⟨n-(i+1),by omega,i+1,seg',by omega,rfl,?_,by simp,?_⟩
  ·rw[C1 (by first|omega|(simp only;omega)) (by first|omega|(simp only;omega))];rfl
  ·have:(bvs (List.replicate i 255++List.replicate (n-i) 0)).set i (.int .u8 255)=bvs (List.replicate (i+1) 255++List.replicate (n-(i+1)) 0):=by
    have h1:=Do7 (List.replicate i 255++List.replicate (n-i) 0) i 255;rw[show((255:UInt8).toNat:Int)=255 by decide]at h1;rw[h1];congr 1;rw[D87,Dq4 (by simp),Dv3,D27,show n-i=(n-(i+1))+1 by omega,Dz3,D88,Ec0,Ds5];rfl
   rw[this]at own';exact own'
 ·obtain rfl:i=n:=by omega
  refine .of ⟨⟨⟨some q.z,i,i⟩,L,blk i⟩,rfl,rfl,?_,rfl⟩;rw[D27,List.replicate_zero,Dr3]at own;exact own
theorem Bv8(b:PB)(hb:b.Ok)(n S:Nat)(hn:n<=b.ps.length)(iI:n<=1048576)(hS:S<=1048576):
  CallF PP 91 #[.p b.id,.i n,.i S] b.objs fun r L'=>r= .t #[]/\ ∃(seg':A4) (ps':List PG),L'=({b with seg:=seg',ps:=ps'}:PB).objs/\({b with seg:=seg',ps:=ps'}:PB).Ok/\ps'.map PG.l=List.replicate n (blk S)++(b.ps.map PG.l).drop n:=by
 refine(e91 (some b.id.z) n S).c ?_;refine G7 (fun z' z L'=> ∃(i:Nat) (seg':A4) (D:List PG) (J:A4),i<=n/\z'=n-i/\z=((i:Int),())/\L'=b.obj::(seg'++(pgs D++(J++pgs (b.ps.drop i))))/\Own b.v 1 tB ((D++b.ps.drop i).map PG.val) seg'/\D.length=i/\(∀g∈D,g.Ok)/\D.map PG.l=List.replicate i (blk S)) n
  ⟨0,b.seg,[],[],by omega,by omega,rfl,rfl,hb.own,rfl,by simp,rfl⟩ ?_
 rintro z' z L ⟨i,seg',D,J,hi,rfl,rfl,rfl,own,hD,aA,hl⟩;have aT:Sl (b.obj::(seg'++(pgs D++(J++pgs (b.ps.drop i))))) b.v 1 ((D++b.ps.drop i).map PG.val):=own.sl.left.cons;have cR:b.v.len=b.ps.length:=by
  have:=own.len;rw[Dr1,Dr4,Ds6]at this;omega
 refine C0 (fun(hO:(i:Int)<(n:Int))=>?_) (fun(aS: ¬(i:Int)<(n:Int))=>?_)
 ·have hJ:i<b.ps.length:=by omega
  have dT:b.ps.drop i=b.ps[i]::b.ps.drop (i+1):=Dv1 hJ;refine A5 rfl (A6 b.v (b_ps Dq7) ?_);refine K1 (b.obj::(seg'++pgs D)) (J++pgs (b.ps.drop i)) (Bk1 S hS) (by simp) ?_;rintro _ _-⟨g,rfl,rfl,hg,dL⟩;refine⟨(g.v,()),rfl,F7 (b_ps (by simp)) ?_⟩;obtain⟨a,ha,-⟩:=aT.at' (i:=i) (by omega) (by decide);refine A5 ha (D9 (show(0:Int)<=i by omega) (show(i:Int)<b.v.len by omega) ?_);refine own.st (p:=i) [b.obj] (pgs D++(g.seg++(J++pgs (b.ps.drop i)))) (by rw[Dr1,Dr4,Ds6,D42];omega) (by simp) ha (by rw[Dr0,Dt8]) (by simp) fun seg2 own2=>?_;rw[Ap1 (by rw[Dr1,Dr4,Ds6];omega)]at own2;refine⟨n-(i+1),by omega,i+1,seg2,D++[g],J++b.ps[i].seg,by omega,rfl,?_,?_,?_,by simp[hD],?_,?_⟩
  ·rw[C1 (by first|omega|(simp only;omega)) (by first|omega|(simp only;omega))];rfl
  ·rw[dT,Ap5,Q4,A31];simp
  ·have:(((D++b.ps.drop i).map PG.val).set i g.val)=(((D++[g])++b.ps.drop (i+1)).map PG.val):=by
    rw[dT,Ds2,D87,Dq4 (by simp[hD]),Dr1,hD,D27,Ds3,D88];simp
   rw[<-this];exact own2
  ·intro x hx;rcases Dr5.1 hx with h|h
   ·exact aA x h
   ·rw[Dr2.1 h];exact hg
  ·rw[Ds2,hl,Ec0,Dz5,dL]
 ·obtain rfl:i=n:=by omega
  refine .drop (A:=({b with seg:=seg',ps:=D++b.ps.drop i}:PB).objs) (J:=J) ⟨rfl,seg',D++b.ps.drop i,rfl,⟨own,fun x hx=>?_⟩,?_⟩ ?_
  ·rcases Dr5.1 hx with h|h
   ·exact aA x h
   ·exact hb.ps x (D59 h)
  ·rw[Ds2,hl,D52]
  ·show(b.obj::(seg'++(pgs D++(J++pgs (b.ps.drop i))))).Perm ((b.obj::(seg'++pgs (D++b.ps.drop i)))++J);rw[Q4]
   classical
   rw[Dt9];intro x;simp only[Dw2,Dt7,Du0,Dv0,Dv7];omega
theorem De9(b:PB)(W:Int)(hw:b.wear<=1048576):
  CallF PP 298 #[.p b.id,.i W] [b.obj] fun r L'=>r= .b (decide (((b.wear+1:Nat):Int)=W))/\L'=[({b with next:=0,wear:=b.wear+1,bad:=decide (((b.wear+1:Nat):Int)=W)}:PB).obj]:=by
 refine(e298 (some b.id.z) W).c ?_;have wX:IntKind.i64.wrap ((b.wear:Int)+1)=((b.wear+1:Nat):Int):=by rw[C1 (by omega) (by omega)];omega
 refine A5 rfl (E4 (n:=b.id) (off:=1) (c:=#[.slice b.v.a b.v.len b.v.cap,.i b.next,.i b.wear,.b b.bad]) (T:=tBk) (fz:=(0,0)) [] [] rfl rfl (by simp) (.inl (Dq6 _)) #[.slice b.v.a b.v.len b.v.cap,.i 0,.i b.wear,.b b.bad] rfl ?_);refine A5 rfl (A6 (b.wear:Int) (ldB Dq7 rfl) (A5 rfl ?_));simp only[wX];refine E4 (n:=b.id) (off:=2) (T:=tBk) (fz:=(0,0)) [] [] rfl rfl (by simp) (.inl (Dq6 _)) #[.slice b.v.a b.v.len b.v.cap,.i 0,.i ((b.wear+1:Nat):Int),.b b.bad] rfl ?_;refine A5 rfl (A6 ((b.wear+1:Nat):Int) (ldB Dq7 rfl) (A5 rfl ?_));refine E4 (n:=b.id) (off:=3) (T:=tBk) (fz:=(0,0)) [] [] rfl rfl (by simp) (.inl (Dq6 _)) #[.slice b.v.a b.v.len b.v.cap,.i 0,.i ((b.wear+1:Nat):Int),.b (decide (((b.wear+1:Nat):Int)=W))] rfl ?_;refine A5 rfl (A6 (decide (((b.wear+1:Nat):Int)=W)) (ldB Dq7 rfl) ?_);exact .of ⟨rfl,rfl⟩
theorem B21(m:Nat)(d:Dev)(bv tv:SlV)(ha:(d.after:Int)<=9223372036854775807):
  CallF PP 296 #[.p m] [fO m d bv tv] fun r L'=>r= .b (W6 d).1/\L'=[fO m (W6 d).2 bv tv]:=by
 refine(e296 (some m.z)).c ?_;refine A5 rfl (A6 (d.after:Int) (Cr5 Dq7) ?_);refine Ac2 (fun(h:(d.after:Int)=0)=>?_) (fun(h:(d.after:Int)≠0)=>?_)
 ·have h0:d.after=0:=by omega
  unfold W6;rw[Dq5 h0];exact .of ⟨rfl,rfl⟩
 ·have h0:d.after≠0:=by omega
  have wX:IntKind.i64.wrap ((d.after:Int)-1)=((d.after-1:Nat):Int):=by rw[C1 (by omega) (by omega)];omega
  have dU:(((d.after-1:Nat):Int)==0)=decide (d.after=1):=by
   by_cases h1:d.after=1
   ·rw[h1];rfl
   ·rw[Ds7 h1,D54];omega
  unfold W6;rw[Dq4 h0];refine A5 rfl (A6 (d.after:Int) (Cr5 Dq7) (A5 rfl ?_));simp only[wX];refine E4 (n:=m) (off:=0) (c:=#[.i d.after,.i d.keep,.b d.down,.i d.c.B,.i d.c.P,.i d.c.S,.i d.c.W,.slice bv.a bv.len bv.cap,.i d.bytes,.slice tv.a tv.len tv.cap]) (T:=tFl) (fz:=(0,0)) [] [] rfl rfl (by simp) (.inl (Dq6 _))
   #[.i ((d.after-1:Nat):Int),.i d.keep,.b d.down,.i d.c.B,.i d.c.P,.i d.c.S,.i d.c.W,.slice bv.a bv.len bv.cap,.i d.bytes,.slice tv.a tv.len tv.cap] rfl ?_
  refine A5 rfl (A6 ((d.after-1:Nat):Int) (ldB Dq7 rfl) (A5 rfl ?_));simp only[dU];refine E4 (n:=m) (off:=2) (T:=tFl) (fz:=(0,0)) [] [] rfl rfl (by simp) (.inl (Dq6 _))
   #[.i ((d.after-1:Nat):Int),.i d.keep,.b (decide (d.after=1)),.i d.c.B,.i d.c.P,.i d.c.S,.i d.c.W,.slice bv.a bv.len bv.cap,.i d.bytes,.slice tv.a tv.len tv.cap] rfl ?_
  refine A5 rfl (A6 (decide (d.after=1)) (ldB Dq7 rfl) ?_);exact .of ⟨rfl,rfl⟩
theorem Co8(k:Int)(n:Nat):Ad3 (Aa2 k 0) n=(R8 k n:Int):=by
 unfold Ad3 Aa2 R8;omega
theorem Cn6(L:A4)(m:Nat)(d:Dev)(bv tv:SlV)(h:fO m d bv tv∈L)(n:Nat):Reads PP 297 #[.p m,.i n] L (.i (R8 d.keep n)):=by
 refine(e297 (some m.z) n).r ?_;refine A5 rfl (A6 d.keep (f_keep h) ?_);rw[Co8];exact .of ⟨rfl,rfl⟩
def Bv4(l:List PB)(b:Int):Option Addr:=if 0<=b then(l[b.toNat]?).map fun k=>k.id.z else none
theorem Ah8{l:List PB}{i:Nat}(h:i<l.length):Bv4 l (i:Int)=some ⟨l[i].id,0,none⟩:=by
 unfold Bv4;rw[Dq5 (by omega),Dr0,Dr9 h];rfl
theorem A26{l:List PB}{b:Int}(h: ¬(0<=b/\b<l.length)):Bv4 l b=none:=by
 unfold Bv4;split
 ·rw[D12 (by omega)];rfl
 ·rfl
theorem C84(L:A4)(m:Nat)(d:Dev)(bv tv:SlV)(h:fO m d bv tv∈L)(l:List PB)(hl:Sl L bv 1 (l.map pbp))(bS:l.length<=1048576)(b:Int):
  Reads PP 45 #[.p m,.i b] L (.q (Bv4 l b)):=by
 refine(e45 (some m.z) b).r ?_;have hC:bv.len=l.length:=by have:=hl.len;rw[Dr1]at this;omega
 refine ifF rfl (A5 rfl (A6 bv (f_bs h) ?_));have hw:IntKind.i64.wrap ((bv.len:Int)-1)=(l.length:Int)-1:=by rw[C1 (by omega) (by omega)];omega
 simp only[hw];refine B5 (Ad5 _ b 0 ((l.length:Int)-1)) (decide (0<=b/\b<=(l.length:Int)-1),()) rfl ?_;by_cases hb:0<=b/\b<=(l.length:Int)-1
 ·rw[Dt2 hb];refine ifF rfl ?_;obtain⟨i,rfl⟩: ∃i:Nat,b=i:=⟨b.toNat,by omega⟩;have hi:i<l.length:=by omega
  rw[Ah8 hi];obtain⟨a,ha,cD⟩:=hl.at' (i:=i) (by omega) (by decide);refine A5 rfl (A6 bv (f_bs h) (A5 ha (D9 (show(0:Int)<=i by omega) (show(i:Int)<bv.len by omega) (A6 (some ⟨l[i].id,0,none⟩:Option Addr) (cD.one ((i:Int).toNat*1) ?_) ?_))))
  ·rw[Dr0,Dt8,Du3,Dr9 hi];rfl
  ·exact .of ⟨rfl,rfl⟩
 ·rw[Ds7 hb];refine ifT rfl (.of ⟨?_,rfl⟩);rw[A26 (by omega)]
def G9(d:Dev)(b p:Int):Int:=if d.down then 11 else if¬(0<=b/\b<d.bs.length)then 2 else if¬(0<=p/\p<d.c.P)then 2 else 0
theorem B04(L:A4)(m:Nat)(d:Dev)(bv tv:SlV)(h:fO m d bv tv∈L)(l:List PB)(hl:Sl L bv 1 (l.map pbp))(bS:l.length<=1048576)(hd:l.map PB.blk=d.bs)(hP:d.c.P<=1048576)(b p:Int):
  Reads PP 235 #[.p m,.i b,.i p] L (.t #[.q (if G9 d b p=0 then Bv4 l b else none),.i (G9 d b p)]):=by
 refine(e235 (some m.z) b p).r ?_;have dD:d.bs.length=l.length:=by rw[<-hd,Dr1]
 refine ifF rfl (A5 rfl (A6 d.down (Cr4 h) ?_));refine G1 (fun(aK:d.down=true)=>.of ⟨?_,rfl⟩) (fun(aK:d.down=false)=>?_)
 ·have hE:G9 d b p=11:=by unfold G9;rw[Dq5 aK]
  rw[hE];rfl
 ·refine B5 (C84 L m d bv tv h l hl bS b) (Bv4 l b,()) rfl ?_;by_cases hb:0<=b/\b<d.bs.length
  ·obtain⟨i,rfl⟩: ∃i:Nat,b=i:=⟨b.toNat,by omega⟩;rw[Ah8 (by omega)];refine ifF rfl (A5 rfl (A6 (d.c.P:Int) (f_P h) ?_));have hw:IntKind.i64.wrap ((d.c.P:Int)-1)=(d.c.P:Int)-1:=C1 (by omega) (by omega);simp only[hw];refine B5 (Ad5 _ p 0 ((d.c.P:Int)-1)) (decide (0<=p/\p<=(d.c.P:Int)-1),()) rfl ?_;by_cases hp:0<=p/\p<d.c.P
   ·have hE:G9 d i p=0:=by unfold G9;rw[aK,Dq4 (by decide),Dq4 (by simpa using hb),Dq4 (by simpa using hp)]
    rw[Dt2 (by omega),hE,Dq5 rfl];exact ifF rfl (.of ⟨rfl,rfl⟩)
   ·have hE:G9 d i p=2:=by unfold G9;rw[aK,Dq4 (by decide),Dq4 (by simpa using hb),Dq5 hp]
    rw[Ds7 (by omega),hE];exact ifT rfl (.of ⟨rfl,rfl⟩)
  ·have hE:G9 d b p=2:=by unfold G9;rw[aK,Dq4 (by decide),Dq5 hb]
   rw[hE,A26 (by omega)];exact ifT rfl (.of ⟨rfl,rfl⟩)
structure P6(d:Dev):Prop where
 c:Cv7 d.c
 len:d.bs.length=d.c.B
 pg: ∀k∈d.bs,k.pages.length=d.c.P/\ ∀l∈k.pages,l.length=d.c.S
 nx: ∀k∈d.bs,k.next<=d.c.P/\k.wear<=d.c.W/\k.bad=decide (k.wear=d.c.W)
 after:(d.after:Int)<=9223372036854775807
 torn: ∀t∈d.torn,t.meant.length=d.c.S/\t.image.length=d.c.S
structure PT where
 b:Nat
 p:Nat
 m:PG
 i:PG
def PT.enc(t:PT):List Value:=[.i t.b,.i t.p,t.m.val,t.i.val]
theorem PT.enc_len(t:PT):t.enc.length=4:=rfl
def PT.tn(t:PT):Tn:=⟨t.b,t.p,t.m.l,t.i.l⟩
def O6(l:List PT):A4:=l.flatMap fun t=>t.m.seg++t.i.seg
theorem Bm1(a b:List PT):O6 (a++b)=O6 a++O6 b:=Dt3
theorem Cf0(t:PT):O6 [t]=t.m.seg++t.i.seg:=by simp[O6]
def F4(l:List PB):A4:=l.flatMap PB.objs
theorem N5(a b:List PB):F4 (a++b)=F4 a++F4 b:=Dt3
theorem Q9(a:PB)(b:List PB):F4 (a::b)=a.objs++F4 b:=rfl
structure FHs(m:Nat)(d:Dev)(bv:SlV)(bseg:A4)(bs:List PB)(tv:SlV)(tseg:A4)(ts:List PT):Prop where
 ob:Own bv 1 ePb (bs.map pbp) bseg
 okb: ∀b∈bs,b.Ok
 hb:bs.map PB.blk=d.bs
 ot:Own tv 4 eT (ts.flatMap PT.enc) tseg
 okt: ∀t∈ts,t.m.Ok/\t.i.Ok
 ht:ts.map PT.tn=d.torn
def fL(m:Nat)(d:Dev)(bv:SlV)(bseg:A4)(bs:List PB)(tv:SlV)(tseg:A4)(ts:List PT):A4:=fO m d bv tv::(bseg++(F4 bs++(tseg++O6 ts)))
def FH(m:Nat)(d:Dev)(A:A4):Prop:= ∃bv bseg bs tv tseg ts,A=fL m d bv bseg bs tv tseg ts/\FHs m d bv bseg bs tv tseg ts
def D7(d:Dev)(b:Int):Option Blk:=if 0<=b then d.bs[b.toNat]? else none
def P4(d:Dev)(b:Int):Int:=((D7 d b).elim 0 fun k=>k.next:Nat)
def O0(d:Dev)(b:Int):Int:=((D7 d b).elim 0 fun k=>k.wear:Nat)
def Ar8(d:Dev)(b:Int):Bool:=(D7 d b).elim false fun k=>k.bad
theorem Bk4{d:Dev}{bs:List PB}(h:bs.map PB.blk=d.bs)(b:Int):(Bv4 bs b=none/\D7 d b=none)\/ ∃(i:Nat) (hi:i<bs.length),b=i/\Bv4 bs b=some ⟨bs[i].id,0,none⟩/\D7 d b=some bs[i].blk:=by
 by_cases hb:0<=b/\b<bs.length
 ·right;obtain⟨i,rfl⟩: ∃i:Nat,b=i:=⟨b.toNat,by omega⟩;have hi:i<bs.length:=by omega
  refine⟨i,hi,rfl,Ah8 hi,?_⟩;unfold D7;rw[Dq5 (by omega),Dr0,<-h,Du3,Dr9 hi];rfl
 ·left;refine⟨A26 hb,?_⟩;have hl:d.bs.length=bs.length:=by rw[<-h,Dr1]
  unfold D7;split
  ·rw[D12 (by omega)]
  ·rfl
theorem Dk2{bs:List PB}{i:Nat}(hi:i<bs.length):bs[i].obj∈F4 bs:=Dw7.2 ⟨bs[i],Dr7 hi,Dq7⟩
section
variable {m:Nat} {d:Dev} {bv:SlV} {bseg:A4} {bs:List PB} {tv:SlV} {tseg:A4} {ts:List PT}
theorem Ce1:fO m d bv tv∈fL m d bv bseg bs tv tseg ts:=Dq7
theorem FHs.sl(h:FHs m d bv bseg bs tv tseg ts):Sl (fL m d bv bseg bs tv tseg ts) bv 1 (bs.map pbp):=h.ob.sl.left.cons
theorem FHs.few(h:FHs m d bv bseg bs tv tseg ts)(ok:P6 d):bs.length<=16:=by
 have h1:=ok.len;have h2:=ok.c.b;rw[<-h.hb,Dr1]at h1;omega
theorem fL_b{i:Nat}(hi:i<bs.length):bs[i].obj∈fL m d bv bseg bs tv tseg ts:=Dr6 _ (Du2 _ (Ds8 _ (Dk2 hi)))
end
theorem Dk4(m:Nat)(d:Dev)(A:A4)(h:FH m d A)(ok:P6 d)(b:Int):Reads PP 82 #[.p m,.i b] A (.i (P4 d b)):=by
 obtain⟨bv,bseg,bs,tv,tseg,ts,rfl,h⟩:=h;refine(e82 (some m.z) b).r ?_;unfold P4;have:=h.few ok;refine B5 (C84 _ m d bv tv Ce1 bs h.sl (by omega) b) (Bv4 bs b,()) rfl ?_;rcases Bk4 h.hb b with⟨h1,h2⟩|⟨i,hi,rfl,h1,h2⟩
 ·rw[h1,h2];exact ifF rfl (.of ⟨rfl,rfl⟩)
 ·rw[h1,h2];exact ifT rfl (A5 rfl (A6 (bs[i].next:Int) (Cu4 (fL_b hi)) (.of ⟨rfl,rfl⟩)))
theorem Ce6(m:Nat)(d:Dev)(A:A4)(h:FH m d A)(ok:P6 d)(b:Int):Reads PP 16 #[.p m,.i b] A (.i (O0 d b)):=by
 obtain⟨bv,bseg,bs,tv,tseg,ts,rfl,h⟩:=h;refine(e16 (some m.z) b).r ?_;unfold O0;have:=h.few ok;refine B5 (C84 _ m d bv tv Ce1 bs h.sl (by omega) b) (Bv4 bs b,()) rfl ?_;rcases Bk4 h.hb b with⟨h1,h2⟩|⟨i,hi,rfl,h1,h2⟩
 ·rw[h1,h2];exact ifF rfl (.of ⟨rfl,rfl⟩)
 ·rw[h1,h2];exact ifT rfl (A5 rfl (A6 (bs[i].wear:Int) (b_wear (fL_b hi)) (.of ⟨rfl,rfl⟩)))
theorem Cu3(m:Nat)(d:Dev)(A:A4)(h:FH m d A)(ok:P6 d)(b:Int):Reads PP 15 #[.p m,.i b] A (.b (Ar8 d b)):=by
 obtain⟨bv,bseg,bs,tv,tseg,ts,rfl,h⟩:=h;refine(e15 (some m.z) b).r ?_;unfold Ar8;have:=h.few ok;refine B5 (C84 _ m d bv tv Ce1 bs h.sl (by omega) b) (Bv4 bs b,()) rfl ?_;rcases Bk4 h.hb b with⟨h1,h2⟩|⟨i,hi,rfl,h1,h2⟩
 ·rw[h1,h2];exact ifF rfl (.of ⟨rfl,rfl⟩)
 ·rw[h1,h2];exact ifT rfl (A5 rfl (A6 bs[i].bad (C83 (fL_b hi)) (.of ⟨rfl,rfl⟩)))
theorem B07(m:Nat)(d:Dev)(A:A4)(h:FH m d A):Reads PP 18 #[.p m] A (.b d.down):=by
 obtain⟨bv,bseg,bs,tv,tseg,ts,rfl,h⟩:=h;refine(e18 (some m.z)).r ?_;exact ifT rfl (A5 rfl (A6 d.down (Cr4 Ce1) (.of ⟨rfl,rfl⟩)))
def cfV(c:Cfg):Value:=.agg #[.i c.B,.i c.P,.i c.S,.i c.W]
theorem Ar6(m:Nat)(d:Dev)(A:A4)(h:FH m d A):CallF PP 93 #[.p m] A fun r L'=>r=cfV d.c/\L'=A:=by
 obtain⟨bv,bseg,bs,tv,tseg,ts,rfl,h⟩:=h;refine(e93 (some m.z)).c ?_;refine C4 fun n _=>ifF rfl (A5 rfl ?_);refine A6 ((d.c.B:Int),(d.c.P:Int),(d.c.S:Int),(d.c.W:Int),()) (f_cfg (Dr6 _ Ce1)) ?_;refine E4 (n:=n) (off:=0) (c:=#[.i 0,.i 0,.i 0,.i 0]) (T:=23) (fz:=(0,0)) [] _ rfl rfl (by simp) (.inl (Dq6 _)) #[.i d.c.B,.i d.c.P,.i d.c.S,.i d.c.W] rfl ?_;refine A6 ((d.c.B:Int),(d.c.P:Int),(d.c.S:Int),(d.c.W:Int),()) (ldB Dq7 rfl) ?_;exact .cons (.of ⟨rfl,rfl⟩)
def arm(d:Dev)(n k:Int):Dev:=if d.down then d else{d with after:=n.toNat,keep:=k}
theorem Dd8(m:Nat)(d:Dev)(A:A4)(h:FH m d A)(n k:Int):CallF PP 12 #[.p m,.i n,.i k] A fun r L'=>r= .t #[]/\FH m (arm d n k) L':=by
 obtain⟨bv,bseg,bs,tv,tseg,ts,rfl,h⟩:=h;refine(e12 (some m.z) n k).c ?_;unfold arm;refine ifT rfl (A5 rfl (A6 d.down (Cr4 Ce1) ?_));rcases Bool.eq_false_or_eq_true d.down with hd|hd
 ·rw[Dq5 hd];exact ifF (by simp only[hd];rfl) (.of ⟨rfl,bv,bseg,bs,tv,tseg,ts,rfl,h⟩)
 ·rw[Dq4 (by rw[hd];decide)];have hn:Aa2 n 0=(n.toNat:Int):=by unfold Aa2;omega
  refine ifT (by simp only[hd];rfl) (A5 rfl ?_);rw[hn];refine E4 (n:=m) (off:=0) (c:=#[.i d.after,.i d.keep,.b d.down,.i d.c.B,.i d.c.P,.i d.c.S,.i d.c.W,.slice bv.a bv.len bv.cap,.i d.bytes,.slice tv.a tv.len tv.cap]) (T:=tFl) (fz:=(0,0)) [] _ rfl rfl (by simp) (.inl (Dq6 _))
   #[.i (n.toNat:Int),.i d.keep,.b d.down,.i d.c.B,.i d.c.P,.i d.c.S,.i d.c.W,.slice bv.a bv.len bv.cap,.i d.bytes,.slice tv.a tv.len tv.cap] rfl (A5 rfl ?_)
  refine E4 (n:=m) (off:=1) (T:=tFl) (fz:=(0,0)) [] _ rfl rfl (by simp) (.inl (Dq6 _))
   #[.i (n.toNat:Int),.i k,.b d.down,.i d.c.B,.i d.c.P,.i d.c.S,.i d.c.W,.slice bv.a bv.len bv.cap,.i d.bytes,.slice tv.a tv.len tv.cap] rfl ?_
  exact .of ⟨rfl,bv,bseg,bs,tv,tseg,ts,rfl,⟨h.ob,h.okb,h.hb,h.ot,h.okt,h.ht⟩⟩
def U3(d:Dev):Dev:={d with down:=false,after:=0}
theorem Ca7(m:Nat)(d:Dev)(A:A4)(h:FH m d A):CallF PP 38 #[.p m] A fun r L'=>r= .t #[]/\FH m (U3 d) L':=by
 obtain⟨bv,bseg,bs,tv,tseg,ts,rfl,h⟩:=h;refine(e38 (some m.z)).c ?_;unfold U3;refine ifT rfl (A5 rfl ?_);refine E4 (n:=m) (off:=2) (c:=#[.i d.after,.i d.keep,.b d.down,.i d.c.B,.i d.c.P,.i d.c.S,.i d.c.W,.slice bv.a bv.len bv.cap,.i d.bytes,.slice tv.a tv.len tv.cap]) (T:=tFl) (fz:=(0,0)) [] _ rfl rfl (by simp) (.inl (Dq6 _))
  #[.i d.after,.i d.keep,.b false,.i d.c.B,.i d.c.P,.i d.c.S,.i d.c.W,.slice bv.a bv.len bv.cap,.i d.bytes,.slice tv.a tv.len tv.cap] rfl (A5 rfl ?_)
 refine E4 (n:=m) (off:=0) (T:=tFl) (fz:=(0,0)) [] _ rfl rfl (by simp) (.inl (Dq6 _))
  #[.i 0,.i d.keep,.b false,.i d.c.B,.i d.c.P,.i d.c.S,.i d.c.W,.slice bv.a bv.len bv.cap,.i d.bytes,.slice tv.a tv.len tv.cap] rfl ?_
 exact .of ⟨rfl,bv,bseg,bs,tv,tseg,ts,rfl,⟨h.ob,h.okb,h.hb,h.ot,h.okt,h.ht⟩⟩
def H2(d:Dev)(b p:Int):List UInt8×Int:=
 if G9 d b p≠0 then([],G9 d b p)else match d.bs[b.toNat]? with
 |none=>([],2)
 |some k=>if k.bad then(blk d.c.S,0)else(k.pages.getD p.toNat [],0)
theorem Ad0{d:Dev}{b p:Int}(h:G9 d b p=0):d.down=false/\0<=b/\b<d.bs.length/\0<=p/\p<d.c.P:=by
 unfold G9 at h;split at h
 ·cases h
 ·split at h
  ·cases h
  ·split at h
   ·cases h
   ·rename_i h1 h2 h3;refine⟨by simpa using h1,?_,?_,?_,?_⟩<;>omega
theorem Bx3(m:Nat)(d:Dev)(A:A4)(h:FH m d A)(ok:P6 d)(b p:Int):
  CallF PP 181 #[.p m,.i b,.i p] A fun r L'=> ∃g:PG,r= .t #[g.val,.i (H2 d b p).2]/\L'=g.seg++A/\g.Ok/\g.l=(H2 d b p).1:=by
 obtain⟨bv,bseg,bs,tv,tseg,ts,rfl,h⟩:=h;refine(e181 (some m.z) b p).c ?_;have bR:=h.few ok;have hP:=ok.c.p;have hS:=ok.c.s;refine B5 (B04 _ m d bv tv Ce1 bs h.sl (by omega) h.hb (by omega) b p) (if G9 d b p=0 then Bv4 bs b else none,G9 d b p,()) rfl ?_;refine P0 (fun(he:G9 d b p≠0)=>?_) (fun(he:G9 d b p=0)=>?_)
 ·have hr:H2 d b p=([],G9 d b p):=by unfold H2;rw[Dq5 he]
  rw[hr];exact .of ⟨pg0,rfl,rfl,Bo9,rfl⟩
 obtain⟨aK,eM,dF,bD,aL⟩:=Ad0 he;obtain⟨i,rfl⟩: ∃i:Nat,b=i:=⟨b.toNat,by omega⟩;obtain⟨q,rfl⟩: ∃q:Nat,p=q:=⟨p.toNat,by omega⟩;have dD:d.bs.length=bs.length:=by rw[<-h.hb,Dr1]
 have hi:i<bs.length:=by omega
 have hk:d.bs[i]?=some bs[i].blk:=by rw[<-h.hb,Du3,Dr9 hi];rfl
 have qC:bs[i].blk∈d.bs:=Dx2 hk;rw[Dq5 he,Ah8 hi];refine A5 rfl (A6 bs[i].bad (C83 (fL_b hi)) ?_);refine G1 (fun(bG:bs[i].bad=true)=>?_) (fun(bG:bs[i].bad=false)=>?_)
 ·have hr:H2 d i q=(blk d.c.S,0):=by
   unfold H2;rw[Dq4 (by simpa using he),Dr0,hk];show(if bs[i].bad=true then _ else _)=_;rw[Dq5 bG]
  rw[hr];refine A5 rfl (A6 (d.c.S:Int) (f_S Ce1) ?_);refine K1 [] (fL m d bv bseg bs tv tseg ts) (Bk1 d.c.S (by omega)) rfl ?_;rintro _ _-⟨g,rfl,rfl,hg,dL⟩;exact⟨(g.v,()),rfl,.of ⟨g,rfl,rfl,hg,dL⟩⟩
 ·have aW:=(ok.pg _ qC).1;have jR:bs[i].ps.length=d.c.P:=by rw[<-aW];simp[PB.blk]
  have hq:q<bs[i].ps.length:=by omega
  have hr:H2 d i q=(bs[i].ps[q].l,0):=by
   unfold H2;rw[Dq4 (by simpa using he),Dr0,Dr0,hk];show(if bs[i].bad=true then _ else((bs[i].ps.map PG.l).getD q [],(0:Int)))=_;rw[Dq4 (by rw[bG];decide),Dt0,Du3,Dr9 hq];rfl
  rw[hr];have pD:=h.okb _ (Dr7 hi);have aV: ∀x∈bs[i].objs,x∈fL m d bv bseg bs tv tseg ts:=fun x hx=>Dr6 _ (Du2 _ (Ds8 _ (Dw7.2 ⟨bs[i],Dr7 hi,hx⟩)));have sY:Sl (fL m d bv bseg bs tv tseg ts) bs[i].v 1 (bs[i].ps.map PG.val):=Sl.mono (pD.own.sl.left.cons (p:=bs[i].obj)) aV;have fV:=pD.ps _ (Dr7 hq);have uG:BSl (fL m d bv bseg bs tv tseg ts) bs[i].ps[q].v bs[i].ps[q].l:=Sl.mono fV.sl fun x hx=>aV x (Dr6 _ (Du2 _ (Dw7.2 ⟨_,Dr7 hq,hx⟩)));have dL:bs[i].ps[q].l.length=d.c.S:=(ok.pg _ qC).2 _ (Dt4.2 ⟨_,Dr7 hq,rfl⟩);have cR:=sY.len;rw[Dr1]at cR;obtain⟨a,ha,cD⟩:=sY.at' (i:=q) (by omega) (by decide);refine C4 fun n _=>A5 rfl (A6 bs[i].v (b_ps (Dr6 _ (fL_b hi))) (A5 ha (D9 (show(0:Int)<=q by omega) (show(q:Int)<bs[i].v.len by omega) ?_)));refine A6 bs[i].ps[q].v ((cD.one ((q:Int).toNat*1) (v:=bs[i].ps[q].val) (by rw[Dr0,Dt8,Du3,Dr9 hq];rfl)).mono fun x hx=>Dr6 _ hx) ?_;refine E6 Ar2 Cy4 [] (fL m d bv bseg bs tv tseg ts) Ai1 rfl (.sl uG.cons) (L8 _) (by rw[uG.len];simp only;omega) fun v' seg' ax own'=>?_;rw[Ds1]at own'⊢;exact .of ⟨⟨v',seg',bs[i].ps[q].l⟩,rfl,rfl,own',rfl⟩
def Blk.put(k:Blk)(p:Nat)(l:List UInt8):Blk:={k with pages:=k.pages.set p l,next:=p+1}
def H9(d:Dev):Dev:={d with bytes:=IntKind.i64.wrap (d.bytes+d.c.S)}
def N0(d:Dev)(data:List UInt8):List UInt8:=data.take (R8 d.keep d.c.S)++blk (d.c.S-R8 d.keep d.c.S)
def Ap3(d:Dev)(i p:Nat)(k:Blk)(data:List UInt8):Int×Dev:=
 if(W6 (H9 d)).1 then(11,{(W6 (H9 d)).2 with bs:=d.bs.set i (k.put p (N0 d data)),torn:=d.torn++[⟨i,p,data,N0 d data⟩]})
 else(0,{(W6 (H9 d)).2 with bs:=d.bs.set i (k.put p data)})
def prog(d:Dev)(b p:Int)(data:List UInt8):Int×Dev:=
 if G9 d b p≠0 then(G9 d b p,d)else if data.length≠d.c.S then(2,d)else
 match d.bs[b.toNat]? with
 |none=>(2,d)
 |some k=>if k.bad then(10,d)else if(k.next:Int)≠p then(9,d)else Ap3 d b.toNat p.toNat k data
theorem B39(pre post:List PB)(x:PB):Bv4 (pre++x::post) (pre.length:Int)=some x.id.z:=by
 rw[Ah8 (by simp)];simp
theorem Cb0(m:Nat)(d:Dev)(A R:A4)(h:FH m d A)(ok:P6 d)(hf:d.torn.length<=1048576)(b p:Int)(u:SlV)(data:List UInt8)(hu:BSl R u data):
  CallF PP 257 #[.p m,.i b,.i p,.slice u.a u.len u.cap] (A++R) fun r L'=> ∃A',L'=A'++R/\r= .i (prog d b p data).1/\FH m (prog d b p data).2 A':=by
 have hA:=h;obtain⟨bv,bseg,bs,tv,tseg,ts,rfl,h⟩:=h;refine(e257 (some m.z) b p u).c ?_;have bR:=h.few ok;have hP:=ok.c.p;have hS:=ok.c.s;have eZ:=hu.len;refine B5 (B04 _ m d bv tv (Ds8 _ Ce1) bs h.sl.left (by omega) h.hb (by omega) b p) (if G9 d b p=0 then Bv4 bs b else none,G9 d b p,()) rfl ?_;refine P0 (fun(he:G9 d b p≠0)=>?_) (fun(he:G9 d b p=0)=>?_)
 ·have hr:prog d b p data=(G9 d b p,d):=by unfold prog;rw[Dq5 he]
  rw[hr];exact .of ⟨_,rfl,rfl,hA⟩
 refine A5 rfl (A6 (d.c.S:Int) (f_S (Ds8 _ Ce1)) ?_);refine P0 (fun(hs:(u.len:Int)≠(d.c.S:Int))=>?_) (fun(hs:(u.len:Int)=(d.c.S:Int))=>?_)
 ·have hr:prog d b p data=(2,d):=by unfold prog;rw[Dq4 (by simpa using he),Dq5 (by omega)]
  rw[hr];exact .of ⟨_,rfl,rfl,hA⟩
 have oU:data.length=d.c.S:=by omega
 obtain⟨aK,eM,dF,bD,aL⟩:=Ad0 he;obtain⟨i,rfl⟩: ∃i:Nat,b=i:=⟨b.toNat,by omega⟩;obtain⟨q,rfl⟩: ∃q:Nat,p=q:=⟨p.toNat,by omega⟩;have dD:d.bs.length=bs.length:=by rw[<-h.hb,Dr1]
 have hi:i<bs.length:=by omega
 obtain⟨pre,x,post,rfl,rfl⟩: ∃pre x post,bs=pre++x::post/\pre.length=i:=⟨bs.take i,bs[i],bs.drop (i+1),by rw[<-Dv1 hi,Dw1],by rw[Ds0];omega⟩;have hk:d.bs[pre.length]?=some x.blk:=by rw[<-h.hb,Du3];simp
 have cF: ∀y:PB,(pre++y::post).map PB.blk=d.bs.set pre.length y.blk:=fun y=>by rw[<-h.hb];simp
 have qC:x.blk∈d.bs:=Dx2 hk;have oH:prog d (pre.length:Int) (q:Int) data=if x.bad then(10,d)else if(x.next:Int)≠(q:Int)then(9,d)else Ap3 d pre.length q x.blk data:=by
  unfold prog;rw[Dq4 (by simpa using he),Dq4 (by omega),Dr0,Dr0,hk];rfl
 have rB:x.obj∈fL m d bv bseg (pre++x::post) tv tseg ts++R:=Ds8 _ (Dr6 _ (Du2 _ (Ds8 _ (by rw[N5,Q9];exact Du2 _ (Ds8 _ Dq7)))));rw[Dq5 he,B39];refine A5 rfl (A6 x.bad (C83 rB) ?_);refine G1 (fun(bG:x.bad=true)=>?_) (fun(bG:x.bad=false)=>?_)
 ·rw[oH,Dq5 bG];exact .of ⟨_,rfl,rfl,hA⟩
 refine A5 rfl (A6 (x.next:Int) (Cu4 rB) ?_);refine P0 (fun(hn:(x.next:Int)≠(q:Int))=>?_) (fun(hn:(x.next:Int)=(q:Int))=>?_)
 ·rw[oH,Dq4 (by rw[bG];decide),Dq5 hn];exact .of ⟨_,rfl,rfl,hA⟩
 rw[oH,Dq4 (by rw[bG];decide),Dq4 (by omega)];clear oH hA;refine A5 rfl (A6 (d.c.S:Int) (f_S (Ds8 _ Ce1)) ?_);have aA:=h.okb x (by simp);have aW:=(ok.pg _ qC).1;have jR:x.ps.length=d.c.P:=by rw[<-aW];simp[PB.blk]
 have hq:q<x.ps.length:=by omega
 obtain⟨D,g0,E,eC,wR⟩: ∃D g0 E,x.ps=D++g0::E/\D.length=q:=⟨x.ps.take q,x.ps[q],x.ps.drop (q+1),by rw[<-Dv1 hq,Dw1],by rw[Ds0];omega⟩;have hL:fL m d bv bseg (pre++x::post) tv tseg ts++R=fO m d bv tv::(bseg++(F4 pre++(x.obj::(x.seg++(pgs D++(g0.seg++(pgs E++(F4 post++(tseg++(O6 ts++R)))))))))):=by
  unfold fL;rw[N5,Q9];unfold PB.objs;rw[eC,Q4,Ap5];simp
 rw[hL];clear hL rB;refine K1 (fO m d bv tv::(bseg++(F4 pre++(x.obj::(x.seg++pgs D))))) (g0.seg++(pgs E++(F4 post++(tseg++(O6 ts++R))))) (Bk1 d.c.S (by omega)) (by simp) ?_;rintro _ _-⟨g,rfl,rfl,hg,dL⟩;refine⟨(g.v,()),rfl,A5 rfl (A6 x.v (b_ps (by simp)) ?_)⟩;have sB:=aA.own.len;rw[Dr1]at sB;have wW:Sl x.seg x.v 1 (x.ps.map PG.val):=aA.own.sl;obtain⟨xa,am,-⟩:=wW.at' (i:=q) (by omega) (by decide);refine A5 am (D9 (show(0:Int)<=q by omega) (show(q:Int)<x.v.len by omega) ?_);refine aA.own.st (p:=q) (ws:=[g.val]) (fO m d bv tv::(bseg++(F4 pre++[x.obj]))) (pgs D++(g.seg++(g0.seg++(pgs E++(F4 post++(tseg++(O6 ts++R))))))) (by rw[Dr1,D42];omega) (by simp) am (by rw[Dr0,Dt8]) (by simp) fun xs xown=>?_;rw[Ap1 (by rw[Dr1];omega)]at xown;have sE: ∀v,(x.ps.map PG.val).set q v=(D.map PG.val)++v::(E.map PG.val):=by
  intro v;rw[eC,Ds2,D87,Dq4 (by simp[wR]),Dr1,wR,D27,Ds3,D88]
 rw[sE]at xown;have gT:IntKind.i64.wrap ((x.next:Int)+1)=((q+1:Nat):Int):=by rw[C1 (by omega) (by omega)];omega
 refine A5 rfl (A6 (x.next:Int) (Cu4 (by simp)) (A5 rfl ?_));simp only[gT];refine E4 (n:=x.id) (off:=1) (c:=#[.slice x.v.a x.v.len x.v.cap,.i x.next,.i x.wear,.b x.bad]) (T:=tBk) (fz:=(0,0)) (fO m d bv tv::(bseg++F4 pre)) (xs++(pgs D++(g.seg++(g0.seg++(pgs E++(F4 post++(tseg++(O6 ts++R)))))))) rfl (by simp[PB.obj]) (by simp) (.inl (Dq6 _))
  #[.slice x.v.a x.v.len x.v.cap,.i ((q+1:Nat):Int),.i x.wear,.b x.bad] rfl ?_
 have kH:((x.id,Obj.cells #[.slice x.v.a x.v.len x.v.cap,.i ((q+1:Nat):Int),.i x.wear,.b x.bad] tBk):Nat×Obj)=({x with next:=q+1}:PB).obj:=rfl;rw[kH];refine A5 rfl (A5 rfl (A6 d.bytes (Dn5 (m:=m) (bv:=bv) (tv:=tv) (by simp)) (A6 (d.c.S:Int) (f_S (m:=m) (bv:=bv) (tv:=tv) (by simp)) (A5 rfl ?_))));refine E4 (n:=m) (off:=8) (c:=#[.i d.after,.i d.keep,.b d.down,.i d.c.B,.i d.c.P,.i d.c.S,.i d.c.W,.slice bv.a bv.len bv.cap,.i d.bytes,.slice tv.a tv.len tv.cap]) (T:=tFl) (fz:=(0,0)) [] (bseg++(F4 pre++(({x with next:=q+1}:PB).obj::(xs++(pgs D++(g.seg++(g0.seg++(pgs E++(F4 post++(tseg++(O6 ts++R))))))))))) rfl (by simp[fO]) (by simp) (.inl (Dq6 _))
  #[.i d.after,.i d.keep,.b d.down,.i d.c.B,.i d.c.P,.i d.c.S,.i d.c.W,.slice bv.a bv.len bv.cap,.i (IntKind.i64.wrap (d.bytes+d.c.S)),.slice tv.a tv.len tv.cap] rfl (A5 rfl ?_)
 rw[Ds1];refine K1 [] (bseg++(F4 pre++(({x with next:=q+1}:PB).obj::(xs++(pgs D++(g.seg++(g0.seg++(pgs E++(F4 post++(tseg++(O6 ts++R))))))))))) (B21 m (H9 d) bv tv ok.after) rfl ?_;rintro _ _-⟨rfl,rfl⟩;refine⟨((W6 (H9 d)).1,()),rfl,?_⟩;unfold Ap3;obtain⟨cK,dE,fA,rA,nA⟩:=Av3 (H9 d);generalize fE:W6 (H9 d)=tt at cK dE fA rA nA⊢;obtain⟨t,d2⟩:=tt;simp only at cK dE fA rA nA⊢;have eO:g.v.len=d.c.S:=by have:=hg.sl.len;rw[E5,dL,blk,Dv3]at this;omega
 obtain⟨ga,oT⟩:=BSl.some (L:=g.seg) hg.sl (i:=0) (by rw[dL,blk,Dv3];omega);unfold PG.Ok at hg;rw[dL]at hg;have cA: ∀X:A4,BSl (X++R) u data:=fun X=>hu.right;have nP: ∀(l:List UInt8) (segg:A4),Own g.v 1 eB (bvs l) segg->({x with seg:=xs,ps:=D++⟨g.v,segg,l⟩::E,next:=q+1}:PB).Ok:=by
  intro l segg ho;refine⟨?_,fun y hy=>?_⟩
  ·show Own x.v 1 tB ((D++⟨g.v,segg,l⟩::E).map PG.val) xs;rw[Ds2,Ds3];exact xown
  ·have cI:y∈D\/y=⟨g.v,segg,l⟩\/y∈E:=by simpa using hy
   rcases cI with h1|rfl|h1
   ·exact aA.ps y (by rw[eC];simp[h1])
   ·exact ho
   ·exact aA.ps y (by rw[eC];simp[h1])
 have cL: ∀(l:List UInt8) (segg:A4),({x with seg:=xs,ps:=D++⟨g.v,segg,l⟩::E,next:=q+1}:PB).blk=x.blk.put q l:=by
  intro l segg;unfold PB.blk Blk.put;simp only;rw[eC];congr 1;rw[Ds2,Ds2,D87,Dq4 (by simp[wR]),Dr1,wR,D27,Ds3,Ds3,D88]
 have gS: ∀y:PB,y.Ok-> ∀z∈pre++y::post,z.Ok:=by
  intro y hy z hz;have wU:z∈pre\/z=y\/z∈post:=by simpa using hz
  rcases wU with h1|rfl|h1
  ·exact h.okb z (by simp[h1])
  ·exact hy
  ·exact h.okb z (by simp[h1])
 have lN: ∀y:PB,y.id=x.id->Own bv 1 ePb ((pre++y::post).map pbp) bseg:=by
  intro y hy;have:(pre++y::post).map pbp=(pre++x::post).map pbp:=by simp[pbp,hy]
  rw[this];exact h.ob
 cases t with
 |false=>
  refine ifT rfl ?_;rw[Dq4 (by decide)];refine Az1 (T:=eB) (sz:=1) (l:=0) (v:=g.v) (a:=ga) undB (by kernel_rfl) (fO m d2 bv tv::(bseg++(F4 pre++(({x with next:=q+1}:PB).obj::(xs++pgs D))))) (g0.seg++(pgs E++(F4 post++(tseg++(O6 ts++R))))) hg (by simp) oT (d:=g.v) (by rw[oT];rfl) (by omega) (u:=u) (ws:=bvs data) ?_ (L8 _) fun segg owng=>?_
  ·have:=cA (fO m d2 bv tv::(bseg++(F4 pre++(({x with next:=q+1}:PB).obj::(xs++(pgs D++(g.seg++(g0.seg++(pgs E++(F4 post++(tseg++O6 ts)))))))))));simpa using this
  have mF:A77 (bvs (blk d.c.S)) (0*1) ((bvs data).take (min u.len g.v.len*1))=bvs data:=by
   rw[B82,Bj8,Dw9 (l:=data) (by omega),Dz2,D82,Ds1,D40 (by rw[blk,Dv3];omega),Dr3]
  rw[mF]at owng;refine .drop (A:=fL m {d2 with bs:=d.bs.set pre.length (x.blk.put q data)} bv bseg (pre++({x with seg:=xs,ps:=D++⟨g.v,segg,data⟩::E,next:=q+1}:PB)::post) tv tseg ts++R) (J:=g0.seg)
   ⟨_,rfl,rfl,bv,bseg,_,tv,tseg,ts,rfl,lN _ rfl,gS _ (nP _ _ owng),?_,h.ot,h.okt,?_⟩ ?_
  ·rw[cF,cL]
  ·simp only;rw[nA];exact h.ht
  ·unfold fL;rw[N5,Q9];unfold PB.objs;simp only;rw[Q4,Ap5];have dP:({x with seg:=xs,ps:=D++⟨g.v,segg,data⟩::E,next:=q+1}:PB).obj=({x with next:=q+1}:PB).obj:=rfl;have fJ:fO m {d2 with bs:=d.bs.set pre.length (x.blk.put q data)} bv tv=fO m d2 bv tv:=rfl;rw[dP,fJ];generalize ({x with next:=q+1}:PB).obj=ox;generalize fO m d2 bv tv=of
   classical
   rw[Dt9];intro z;simp only[Dw2,Dt7,Du0,Dv0,Dv7];omega
 |true=>
  refine ifF rfl (A5 rfl (A5 rfl ?_));rw[Dq5 rfl];have hcS:d2.c.S=d.c.S:=by rw[cK];rfl
  have rL:d2.keep=d.keep:=fA;have ht2':d2.torn=d.torn:=nA;refine A6 (d2.c.S:Int) (f_S (m:=m) (bv:=bv) (tv:=tv) (by simp)) ?_;rw[hcS];refine B5 (Cn6 _ m d2 bv tv (by simp) d.c.S) ((R8 d2.keep d.c.S:Int),()) rfl ?_;rw[show R8 d2.keep d.c.S=R8 d.keep d.c.S by rw[rL]];have nK:R8 d.keep d.c.S<=d.c.S:=by unfold R8;omega
  have aU:=hu.cap;refine K7 (l':=0) (h':=R8 d.keep d.c.S) (m':=u.cap) rfl rfl rfl (by omega) (by omega) (Dq6 _) ?_;have fQ: ∀X:A4,Sl (X++R) (Q0 u (0:Nat) (R8 d.keep d.c.S:Nat) (u.cap:Nat) 1) 1 (bvs (data.take (R8 d.keep d.c.S))):=by
   intro X;have:=(cA X).slc (l:=0) (h':=R8 d.keep d.c.S) (m:=u.cap) (by decide) (by omega) (by omega) (by omega);rw[Ai9,D06,Dx4]at this;exact this
  generalize Q0 u (0:Nat) (R8 d.keep d.c.S:Nat) (u.cap:Nat) 1=us at fQ⊢;have iN:=(fQ []).len;rw[E5,Ds0]at iN;refine Az1 (T:=eB) (sz:=1) (l:=0) (v:=g.v) (a:=ga) undB (by kernel_rfl) (fO m d2 bv tv::(bseg++(F4 pre++(({x with next:=q+1}:PB).obj::(xs++pgs D))))) (g0.seg++(pgs E++(F4 post++(tseg++(O6 ts++R))))) hg (by simp) oT (d:=g.v) (by rw[oT];rfl) (by omega) (u:=us) (ws:=bvs (data.take (R8 d.keep d.c.S))) ?_ (L8 _) fun segg owng=>?_
  ·have:=fQ (fO m d2 bv tv::(bseg++(F4 pre++(({x with next:=q+1}:PB).obj::(xs++(pgs D++(g.seg++(g0.seg++(pgs E++(F4 post++(tseg++O6 ts)))))))))));simpa using this
  have mF:A77 (bvs (blk d.c.S)) (0*1) ((bvs (data.take (R8 d.keep d.c.S))).take (min us.len g.v.len*1))=bvs (N0 d data):=by
   rw[B82,Bj8,Dw9 (l:=data.take (R8 d.keep d.c.S)) (by rw[Ds0];omega),Dz2,D82,Ds1,Ds0];unfold N0 blk;rw[Ee3,Dy2,Dx1 (by omega)]
  rw[mF]at owng;have himl:(N0 d data).length=d.c.S:=by
   unfold N0 blk;rw[Dr4,Ds0,Dv3];omega
  refine A5 rfl (A6 tv (Dc4 (m:=m) (d:=d2) (bv:=bv) (by simp)) (C4 fun n1 _=>?_));have sF:BSl (fO m d2 bv tv::(bseg++(F4 pre++(({x with next:=q+1}:PB).obj::(xs++pgs D))))++segg++(g0.seg++(pgs E++(F4 post++(tseg++(O6 ts++R)))))) u data:=by
   have:=cA (fO m d2 bv tv::(bseg++(F4 pre++(({x with next:=q+1}:PB).obj::(xs++(pgs D++(segg++(g0.seg++(pgs E++(F4 post++(tseg++O6 ts)))))))))));simpa using this
  have uH:BSl (fO m d2 bv tv::(bseg++(F4 pre++(({x with next:=q+1}:PB).obj::(xs++pgs D))))++segg++(g0.seg++(pgs E++(F4 post++(tseg++(O6 ts++R)))))) g.v (N0 d data):=owng.sl.right.left;have pM:C9 ⟨m,9,none⟩ [.slice tv.a tv.len tv.cap] (fO m d2 bv tv::(bseg++(F4 pre++(({x with next:=q+1}:PB).obj::(xs++pgs D))))++segg++(g0.seg++(pgs E++(F4 post++(tseg++(O6 ts++R)))))):=Dc4 (m:=m) (d:=d2) (bv:=bv) (by simp);generalize hLL:fO m d2 bv tv::(bseg++(F4 pre++(({x with next:=q+1}:PB).obj::(xs++pgs D))))++segg++(g0.seg++(pgs E++(F4 post++(tseg++(O6 ts++R)))))=LL at sF uH pM⊢;refine E6 Ar2 Cy4 [] LL Ai1 rfl (.sl sF.cons) (L8 _) (by simp only;omega) fun v5 seg5 hv5 own5=>?_;rw[Ds1]at own5⊢;refine F7 (pM.mono fun z hz=>Du2 _ hz) (C4 fun n2 _=>?_);refine E6 Ar2 Cy4 [] (seg5++LL) Ai1 rfl (.sl uH.right.cons) (L8 _) (by simp only;omega) fun v6 seg6 hv6 own6=>?_;rw[Ds1]at own6⊢;refine F7 (pM.mono fun z hz=>Du2 _ (Du2 _ hz)) (C4 fun n3 _=>?_);subst hLL;have rC:ts.length=d.torn.length:=by rw[<-h.ht,Dr1]
  have htvl:=h.ot.sl.els_len PT.enc_len (by decide);refine E6 elemTs srcTs ((n3,Obj.cells #[.i pre.length,.i q,.slice v5.a v5.len v5.cap,.slice v6.a v6.len v6.cap] eT)::(seg6++(seg5++(fO m d2 bv tv::(bseg++(F4 pre++(({x with next:=q+1}:PB).obj::(xs++(pgs D++(segg++(g0.seg++(pgs E++F4 post)))))))))))) (O6 ts++R) h.ot (by simp)
   (n:=1) (ws:=PT.enc ⟨pre.length,q,⟨v5,seg5,data⟩,⟨v6,seg6,N0 d data⟩⟩) (x:=.slice (some n3.z) 1 1) (Src.sl (v:=⟨some n3.z,1,1⟩) ⟨rfl,Dq6 _,.inr ⟨_,rfl,ldB Dq7 rfl⟩⟩) rfl (by omega) fun v8 seg8 xA own8=>?_
  refine A5 rfl ?_;refine E4 (n:=m) (off:=9) (c:=#[.i d2.after,.i d2.keep,.b d2.down,.i d2.c.B,.i d2.c.P,.i d2.c.S,.i d2.c.W,.slice bv.a bv.len bv.cap,.i d2.bytes,.slice tv.a tv.len tv.cap]) (T:=tFl) (fz:=(0,0)) ((n3,Obj.cells #[.i pre.length,.i q,.slice v5.a v5.len v5.cap,.slice v6.a v6.len v6.cap] eT)::(seg6++seg5)) (bseg++(F4 pre++(({x with next:=q+1}:PB).obj::(xs++(pgs D++(segg++(g0.seg++(pgs E++(F4 post++(seg8++(O6 ts++R))))))))))) rfl (by simp[fO]) (by simp) (.inl (Dq6 _))
   #[.i d2.after,.i d2.keep,.b d2.down,.i d2.c.B,.i d2.c.P,.i d2.c.S,.i d2.c.W,.slice bv.a bv.len bv.cap,.i d2.bytes,.slice v8.a v8.len v8.cap] rfl ?_
  refine .drop (A:=fL m {d2 with bs:=d.bs.set pre.length (x.blk.put q (N0 d data)),torn:=d.torn++[⟨pre.length,q,data,N0 d data⟩]} bv bseg (pre++({x with seg:=xs,ps:=D++⟨g.v,segg,N0 d data⟩::E,next:=q+1}:PB)::post) v8 seg8 (ts++[⟨pre.length,q,⟨v5,seg5,data⟩,⟨v6,seg6,N0 d data⟩⟩])++R) (J:=(n3,Obj.cells #[.i pre.length,.i q,.slice v5.a v5.len v5.cap,.slice v6.a v6.len v6.cap] eT)::g0.seg)
   ⟨_,rfl,rfl,bv,bseg,_,v8,seg8,_,rfl,lN _ rfl,gS _ (nP _ _ owng),?_,?_,?_,?_⟩ ?_
  ·rw[cF,cL]
  ·rw[Dt3,Dx7];exact own8
  ·intro z hz;rcases Dr5.1 hz with h1|h1
   ·exact h.okt z h1
   ·rw[Dr2.1 h1];exact⟨own5,own6⟩
  ·rw[Ds2,h.ht];rfl
  ·unfold fL;rw[N5,Q9,Bm1,Cf0];unfold PB.objs;simp only;rw[Q4,Ap5];have dP:({x with seg:=xs,ps:=D++⟨g.v,segg,N0 d data⟩::E,next:=q+1}:PB).obj=({x with next:=q+1}:PB).obj:=rfl;have fJ:fO m {d2 with bs:=d.bs.set pre.length (x.blk.put q (N0 d data)),torn:=d.torn++[⟨pre.length,q,data,N0 d data⟩]} bv v8=(m,Obj.cells #[.i d2.after,.i d2.keep,.b d2.down,.i d2.c.B,.i d2.c.P,.i d2.c.S,.i d2.c.W,.slice bv.a bv.len bv.cap,.i d2.bytes,.slice v8.a v8.len v8.cap] tFl):=rfl;rw[dP,fJ];generalize ({x with next:=q+1}:PB).obj=ox;generalize (m,Obj.cells #[.i d2.after,.i d2.keep,.b d2.down,.i d2.c.B,.i d2.c.P,.i d2.c.S,.i d2.c.W,.slice bv.a bv.len bv.cap,.i d2.bytes,.slice v8.a v8.len v8.cap] tFl)=of;generalize (n3,Obj.cells #[.i pre.length,.i q,.slice v5.a v5.len v5.cap,.slice v6.a v6.len v6.cap] eT)=o3
   classical
   rw[Dt9];intro z;simp only[Dw2,Dt7,Du0,Dv0,Dv7];omega
def Blk.torn(k:Blk)(c:Cfg)(n:Nat):Blk:={k with pages:=List.replicate n (blk c.S)++k.pages.drop n,next:=c.P}
def Blk.fresh(k:Blk)(c:Cfg):Blk:=⟨List.replicate c.P (blk c.S),0,k.wear+1,decide (k.wear+1=c.W)⟩
def Ai6(d:Dev)(i:Nat)(k:Blk):Int×Dev:=
 if(W6 d).1 then(11,{(W6 d).2 with bs:=d.bs.set i (k.torn d.c (R8 d.keep d.c.P))})
 else(if k.wear+1=d.c.W then 10 else 0,{(W6 d).2 with bs:=d.bs.set i (k.fresh d.c)})
def E7(d:Dev)(b:Int):Int×Dev:=
 if G9 d b 0≠0 then(G9 d b 0,d)else
 match d.bs[b.toNat]? with
 |none=>(2,d)
 |some k=>if k.bad then(10,d)else Ai6 d b.toNat k
theorem C66(m:Nat)(d:Dev)(A:A4)(h:FH m d A)(ok:P6 d)(b:Int):
  CallF PP 252 #[.p m,.i b] A fun r L'=>r= .i (E7 d b).1/\FH m (E7 d b).2 L':=by
 have hA:=h;obtain⟨bv,bseg,bs,tv,tseg,ts,rfl,h⟩:=h;refine(e252 (some m.z) b).c ?_;have bR:=h.few ok;have hP:=ok.c.p;have hS:=ok.c.s;have hW:=ok.c.w;refine B5 (B04 _ m d bv tv Ce1 bs h.sl (by omega) h.hb (by omega) b 0) (if G9 d b 0=0 then Bv4 bs b else none,G9 d b 0,()) rfl ?_;refine P0 (fun(he:G9 d b 0≠0)=>?_) (fun(he:G9 d b 0=0)=>?_)
 ·have hr:E7 d b=(G9 d b 0,d):=by unfold E7;rw[Dq5 he]
  rw[hr];exact .of ⟨rfl,hA⟩
 obtain⟨aK,eM,dF,bD,aL⟩:=Ad0 he;obtain⟨i,rfl⟩: ∃i:Nat,b=i:=⟨b.toNat,by omega⟩;have dD:d.bs.length=bs.length:=by rw[<-h.hb,Dr1]
 have hi:i<bs.length:=by omega
 obtain⟨pre,x,post,rfl,rfl⟩: ∃pre x post,bs=pre++x::post/\pre.length=i:=⟨bs.take i,bs[i],bs.drop (i+1),by rw[<-Dv1 hi,Dw1],by rw[Ds0];omega⟩;have hk:d.bs[pre.length]?=some x.blk:=by rw[<-h.hb,Du3];simp
 have cF: ∀y:PB,(pre++y::post).map PB.blk=d.bs.set pre.length y.blk:=fun y=>by rw[<-h.hb];simp
 have qC:x.blk∈d.bs:=Dx2 hk;have oH:E7 d (pre.length:Int)=if x.bad then(10,d)else Ai6 d pre.length x.blk:=by
  unfold E7;rw[Dq4 (by simpa using he),Dr0,hk];rfl
 have rB:x.obj∈fL m d bv bseg (pre++x::post) tv tseg ts:=(Dr6 _ (Du2 _ (Ds8 _ (by rw[N5,Q9];exact Du2 _ (Ds8 _ Dq7)))));rw[Dq5 he,B39];refine A5 rfl (A6 x.bad (C83 rB) ?_);refine G1 (fun(bG:x.bad=true)=>?_) (fun(bG:x.bad=false)=>?_)
 ·rw[oH,Dq5 bG];exact .of ⟨rfl,hA⟩
 rw[oH,Dq4 (by rw[bG];decide)];clear oH hA rB;have aA:=h.okb x (by simp);have aW:=(ok.pg _ qC).1;have jR:x.ps.length=d.c.P:=by rw[<-aW];simp[PB.blk]
 have hxw:x.wear<=d.c.W:=(ok.nx _ qC).2.1;have hL:fL m d bv bseg (pre++x::post) tv tseg ts=fO m d bv tv::(bseg++(F4 pre++(x.objs++(F4 post++(tseg++O6 ts))))):=by
  unfold fL;rw[N5,Q9];simp
 rw[hL];clear hL;have gS: ∀y:PB,y.Ok-> ∀z∈pre++y::post,z.Ok:=by
  intro y hy z hz;have wU:z∈pre\/z=y\/z∈post:=by simpa using hz
  rcases wU with h1|rfl|h1
  ·exact h.okb z (by simp[h1])
  ·exact hy
  ·exact h.okb z (by simp[h1])
 have lN: ∀y:PB,y.id=x.id->Own bv 1 ePb ((pre++y::post).map pbp) bseg:=by
  intro y hy;have:(pre++y::post).map pbp=(pre++x::post).map pbp:=by simp[pbp,hy]
  rw[this];exact h.ob
 refine A5 rfl ?_;refine K1 [] (bseg++(F4 pre++(x.objs++(F4 post++(tseg++O6 ts))))) (B21 m d bv tv ok.after) rfl ?_;rintro _ _-⟨rfl,rfl⟩;refine⟨((W6 d).1,()),rfl,?_⟩;unfold Ai6;obtain⟨cK,dE,fA,rA,nA⟩:=Av3 d;generalize fE:W6 d=tt at cK dE fA rA nA⊢;obtain⟨t,d2⟩:=tt;simp only at cK dE fA rA nA⊢;rw[Ds1];have hLs:[fO m d2 bv tv]++(bseg++(F4 pre++(x.objs++(F4 post++(tseg++O6 ts)))))=(fO m d2 bv tv::(bseg++F4 pre))++x.objs++(F4 post++(tseg++O6 ts)):=by simp
 rw[hLs];cases t with
 |true=>
  refine ifT rfl (A5 rfl (A5 rfl (A5 rfl ?_)));refine A6 (d.c.P:Int) (by have:=f_P (m:=m) (d:=d2) (bv:=bv) (tv:=tv) (L:=(fO m d2 bv tv::(bseg++F4 pre))++x.objs++(F4 post++(tseg++O6 ts))) (by simp);rw[cK]at this;exact this) ?_;have jW:C9 ⟨m,5,none⟩ [.i d.c.S] ((fO m d2 bv tv::(bseg++F4 pre))++x.objs++(F4 post++(tseg++O6 ts))):=by have:=f_S (m:=m) (d:=d2) (bv:=bv) (tv:=tv) (L:=(fO m d2 bv tv::(bseg++F4 pre))++x.objs++(F4 post++(tseg++O6 ts))) (by simp);rw[cK]at this;exact this
  refine A6 (d.c.S:Int) jW ?_;refine B5 (Cn6 _ m d2 bv tv (by simp) d.c.P) ((R8 d2.keep d.c.P:Int),()) rfl (F7 jW ?_);rw[show R8 d2.keep d.c.P=R8 d.keep d.c.P by rw[fA]];have nK:R8 d.keep d.c.P<=d.c.P:=by unfold R8;omega
  refine K1 (fO m d2 bv tv::(bseg++F4 pre)) (F4 post++(tseg++O6 ts)) (Bv8 x aA (R8 d.keep d.c.P) d.c.S (by omega) (by omega) (by omega)) rfl ?_;rintro _ _-⟨rfl,seg',ps',rfl,fI,lA⟩;refine⟨(),rfl,A5 rfl (A6 (d.c.P:Int) (by have:=f_P (m:=m) (d:=d2) (bv:=bv) (tv:=tv) (L:=(fO m d2 bv tv::(bseg++F4 pre))++({x with seg:=seg',ps:=ps'}:PB).objs++(F4 post++(tseg++O6 ts))) (by simp);rw[cK]at this;exact this) (A5 rfl ?_))⟩;refine E4 (n:=x.id) (off:=1) (c:=#[.slice x.v.a x.v.len x.v.cap,.i x.next,.i x.wear,.b x.bad]) (T:=tBk) (fz:=(0,0)) (fO m d2 bv tv::(bseg++F4 pre)) (seg'++(pgs ps'++(F4 post++(tseg++O6 ts)))) rfl (by simp[PB.obj,PB.objs]) (by simp) (.inl (Dq6 _))
   #[.slice x.v.a x.v.len x.v.cap,.i d.c.P,.i x.wear,.b x.bad] rfl ?_
  refine .of ⟨rfl,bv,bseg,pre++({x with seg:=seg',ps:=ps',next:=d.c.P}:PB)::post,tv,tseg,ts,?_,lN _ rfl,gS _ ⟨fI.own,fI.ps⟩,?_,h.ot,h.okt,?_⟩
  ·unfold fL;rw[N5,Q9];unfold PB.objs PB.obj;simp[fO]
  ·rw[cF];congr 1;unfold PB.blk Blk.torn;simp only;rw[lA]
  ·rw[Dq5 rfl];show _=d2.torn;rw[nA];exact h.ht
 |false=>
  refine ifF rfl (A5 rfl (A5 rfl ?_));refine A6 (d.c.P:Int) (by have:=f_P (m:=m) (d:=d2) (bv:=bv) (tv:=tv) (L:=(fO m d2 bv tv::(bseg++F4 pre))++x.objs++(F4 post++(tseg++O6 ts))) (by simp);rw[cK]at this;exact this) ?_;have jW:C9 ⟨m,5,none⟩ [.i d.c.S] ((fO m d2 bv tv::(bseg++F4 pre))++x.objs++(F4 post++(tseg++O6 ts))):=by have:=f_S (m:=m) (d:=d2) (bv:=bv) (tv:=tv) (L:=(fO m d2 bv tv::(bseg++F4 pre))++x.objs++(F4 post++(tseg++O6 ts))) (by simp);rw[cK]at this;exact this
  refine A6 (d.c.S:Int) jW ?_;refine K1 (fO m d2 bv tv::(bseg++F4 pre)) (F4 post++(tseg++O6 ts)) (Bv8 x aA d.c.P d.c.S (by omega) (by omega) (by omega)) rfl ?_;rintro _ _-⟨rfl,seg',ps',rfl,fI,lA⟩;refine⟨(),rfl,A5 rfl (A6 (d.c.W:Int) (by have:=f_W (m:=m) (d:=d2) (bv:=bv) (tv:=tv) (L:=(fO m d2 bv tv::(bseg++F4 pre))++({x with seg:=seg',ps:=ps'}:PB).objs++(F4 post++(tseg++O6 ts))) (by simp);rw[cK]at this;exact this) ?_)⟩;refine K1 (fO m d2 bv tv::(bseg++F4 pre)) (seg'++(pgs ps'++(F4 post++(tseg++O6 ts)))) (De9 ({x with seg:=seg',ps:=ps'}:PB) d.c.W (by show x.wear<=1048576;omega)) (by simp[PB.objs]) ?_;rintro _ _-⟨rfl,rfl⟩;have kD:decide ((((({x with seg:=seg',ps:=ps'}:PB).wear+1:Nat)):Int)=(d.c.W:Int))=decide (x.wear+1=d.c.W):=by
   show decide (((x.wear+1:Nat):Int)=(d.c.W:Int))=_;by_cases iM:x.wear+1=d.c.W
   ·rw[Dt2 iM,Dt2 (by omega)]
   ·rw[Ds7 iM,Ds7 (by omega)]
  rw[kD];refine⟨(decide (x.wear+1=d.c.W),()),rfl,?_⟩;rw[Dq4 (by decide)];have uQ:FH m {d2 with bs:=d.bs.set pre.length (x.blk.fresh d.c)} ((fO m d2 bv tv::(bseg++F4 pre))++[({x with seg:=seg',ps:=ps',next:=0,wear:=x.wear+1,bad:=decide (x.wear+1=d.c.W)}:PB).obj]++(seg'++(pgs ps'++(F4 post++(tseg++O6 ts))))):=by
   refine⟨bv,bseg,pre++({x with seg:=seg',ps:=ps',next:=0,wear:=x.wear+1,bad:=decide (x.wear+1=d.c.W)}:PB)::post,tv,tseg,ts,?_,lN _ rfl,gS _ ⟨fI.own,fI.ps⟩,?_,h.ot,h.okt,?_⟩
   ·unfold fL;rw[N5,Q9];unfold PB.objs PB.obj;simp[fO]
   ·rw[cF];congr 1;unfold PB.blk Blk.fresh;simp only;rw[lA,D40 (by rw[Dr1];omega),Dr3]
   ·show _=d2.torn;rw[nA];exact h.ht
  refine C0 (fun(iM:x.wear+1=d.c.W)=>.of ⟨?_,uQ⟩) (fun(iM: ¬x.wear+1=d.c.W)=>.of ⟨?_,uQ⟩)
  ·show Value.i 10= .i (if x.wear+1=d.c.W then 10 else 0);rw[Dq5 iM]
  ·show Value.i 0= .i (if x.wear+1=d.c.W then 10 else 0);rw[Dq4 iM]
def right(c:Int×Int×Int×Int×Unit):Prop:=2<=c.1/\c.1<=16/\4<=c.2.1/\c.2.1<=16/\64<=c.2.2.1/\c.2.2.1<=512/\1<=c.2.2.2.1/\c.2.2.2.1<=1048576
def cfg(c:Int×Int×Int×Int×Unit):Cfg:=⟨c.1.toNat,c.2.1.toNat,c.2.2.1.toNat,c.2.2.2.1.toNat⟩
def blk0(c:Cfg):Blk:=⟨List.replicate c.P (blk c.S),0,0,false⟩
def fresh(c:Cfg):Dev:=⟨c,0,0,false,List.replicate c.B (blk0 c),0,[]⟩
theorem Ct3{c:Int×Int×Int×Int×Unit}(h:right c):Cv7 (cfg c):=by
 unfold right at h;refine⟨?_,?_,?_,?_⟩<;>simp only[cfg]<;>omega
theorem B61{c:Cfg}(h:Cv7 c):P6 (fresh c):=by
 refine⟨h,by simp[fresh],?_,?_,by simp[fresh],by simp[fresh]⟩
 ·intro k hk;rw[Dv8 hk];refine⟨by simp[blk0,fresh],fun l hl=>?_⟩;rw[Dv8 hl];simp[blk,fresh]
 ·intro k hk;rw[Dv8 hk];have:=h.w;refine⟨Dv6 _,Dv6 _,?_⟩;show false=decide (0=c.W);rw[Ds7 (by omega)]
theorem Cw3(n:Nat):Ag7 [.slice none 0 0] n=(List.replicate n pg0).map PG.val:=by
 unfold Ag7;rw[List.map_replicate];induction n with
 |zero=>rfl
 |succ n ih=>rw[Dz3,Dz3,D55,ih];rfl
theorem Dj1(n:Nat):pgs (List.replicate n pg0)=[]:=by
 induction n with
 |zero=>rfl
 |succ n ih=>rw[Dz3,Ap5,ih];rfl
theorem Db5(c:Int×Int×Int×Int×Unit):
  CallF PP 35 #[.agg (ki4 c)] [] fun r L'=>(¬right c/\r= .t #[.q none,.i 30]/\L'=[])\/(right c/\ ∃m,r= .t #[.p m,.i 0]/\FH m (fresh (cfg c)) L'):=by
 refine(e35 c).c ?_;refine C4 fun n1 _=>?_;generalize ho:(n1,Obj.cells (ki4 c) 23)=o1;have lc: ∀L:A4,o1∈L->C9 n1.z [.i c.1,.i c.2.1,.i c.2.2.1,.i c.2.2.2.1] L:=fun L hm=>ldB (by rw[<-ho]at hm;exact hm) rfl;clear ho;have lB: ∀L:A4,o1∈L->C9 n1.z [.i c.1] L:=fun L hm=>(lc L hm).pre fun i u hu=>by cases i with|zero=>exact hu|succ i=>exact absurd (show(none:Option Value)=some u from hu) (by simp)
 refine A6 c.1 (lB _ Dq7) ?_;refine B5 (Ad5 _ c.1 2 16) (decide (2<=c.1/\c.1<=16),()) rfl ?_;refine C0 (fun(h1:2<=c.1/\c.1<=16)=>?_) (fun(h1: ¬(2<=c.1/\c.1<=16))=>.cons (.of (.inl ⟨by unfold right;omega,rfl,rfl⟩)));refine A6 c.2.1 ((lc _ Dq7).one 1 rfl) ?_;refine B5 (Ad5 _ c.2.1 4 16) (decide (4<=c.2.1/\c.2.1<=16),()) rfl ?_;by_cases h2:4<=c.2.1/\c.2.1<=16
 case neg=>rw[Ds7 h2];exact ifT rfl (.cons (.of (.inl ⟨by unfold right;omega,rfl,rfl⟩)))
 rw[Dt2 h2];refine ifF rfl (A6 c.2.2.1 ((lc _ Dq7).one 2 rfl) ?_);refine B5 (Ad5 _ c.2.2.1 64 512) (decide (64<=c.2.2.1/\c.2.2.1<=512),()) rfl ?_;by_cases h3:64<=c.2.2.1/\c.2.2.1<=512
 case neg=>rw[Ds7 h3];exact ifT rfl (.cons (.of (.inl ⟨by unfold right;omega,rfl,rfl⟩)))
 rw[Dt2 h3];refine ifF rfl (A6 c.2.2.2.1 ((lc _ Dq7).one 3 rfl) ?_);refine B5 (Ad5 _ c.2.2.2.1 1 1048576) (decide (1<=c.2.2.2.1/\c.2.2.2.1<=1048576),()) rfl ?_;by_cases h4:1<=c.2.2.2.1/\c.2.2.2.1<=1048576
 case neg=>rw[Ds7 h4];exact ifT rfl (.cons (.of (.inl ⟨by unfold right;omega,rfl,rfl⟩)))
 rw[Dt2 h4];refine ifF rfl ?_;have hr:right c:=by unfold right;omega
 have uY:=Ct3 hr;obtain⟨cB,cP,cS,cW,u⟩:=c;obtain⟨B,rfl⟩: ∃B:Nat,cB=B:=⟨cB.toNat,by simp only at h1;omega⟩;obtain⟨Pn,rfl⟩: ∃B:Nat,cP=B:=⟨cP.toNat,by simp only at h2;omega⟩;obtain⟨S,rfl⟩: ∃B:Nat,cS=B:=⟨cS.toNat,by simp only at h3;omega⟩;obtain⟨W,rfl⟩: ∃B:Nat,cW=B:=⟨cW.toNat,by simp only at h4;omega⟩;simp only at h1 h2 h3 h4;have rU:cfg ((B:Int),(Pn:Int),(S:Int),(W:Int),u)=⟨B,Pn,S,W⟩:=by simp[cfg]
 rw[rU]at uY⊢;refine A6 ((B:Int),(Pn:Int),(S:Int),(W:Int),()) (lc _ Dq7) (C4 fun m _=>?_);have qE:((m,Obj.cells #[.i 0,.i 0,.b false,.i B,.i Pn,.i S,.i W,.slice none 0 0,.i 0,.slice none 0 0] tFl):Nat×Obj)=fO m {fresh ⟨B,Pn,S,W⟩with bs:=[]} ⟨none,0,0⟩ ⟨none,0,0⟩:=rfl;refine A6 (B:Int) (lB _ (by simp)) ?_;refine G7 (fun z' z L'=> ∃(i:Nat) (bv:SlV) (bseg:A4) (bs:List PB) (J X Y:A4),i<=B/\z'=B-i/\z=((i:Int),())/\L'=X++fO m (fresh ⟨B,Pn,S,W⟩) bv ⟨none,0,0⟩::(bseg++Y)/\(X++Y).Perm (F4 bs++(o1::J))/\Own bv 1 ePb (bs.map pbp) bseg/\(∀b∈bs,b.Ok)/\bs.map PB.blk=List.replicate i (blk0 ⟨B,Pn,S,W⟩)) B
  ⟨0,⟨none,0,0⟩,[],[],[],[],[o1],by omega,by omega,rfl,rfl,Dq8 _,F6,by simp,rfl⟩ ?_
 rintro z' z L ⟨i,bv,bseg,bs,J,X,Y,hi,rfl,rfl,rfl,hp,own,gS,pA⟩;have dP:o1∈X++fO m (fresh ⟨B,Pn,S,W⟩) bv ⟨none,0,0⟩::(bseg++Y):=by
  have h5:o1∈X++Y:=(hp.mem_iff (a:=o1)).2 (by simp);have h6:o1∈X\/o1∈Y:=by simpa using h5
  rcases h6 with h6|h6<;>simp[h6]
 have dD:bs.length=i:=by have:=congrArg List.length pA;rwa [Dr1,Dv3]at this
 refine C0 (fun(hO:(i:Int)<(B:Int))=>?_) (fun(aS: ¬(i:Int)<(B:Int))=>?_)
 ·refine A6 (Pn:Int) ((lc _ dP).one 1 rfl) ?_;refine A38 Bt1 (l:=Pn) (c:=Pn) (Dq6 _) (by omega) fun q ob ownq _ _=>?_;rw[Cw3]at ownq;refine C4 fun n3 _=>?_;refine A6 (Pn:Int) ((lc _ (Dr6 _ (Dr6 _ dP))).one 1 rfl) (A6 (S:Int) ((lc _ (Dr6 _ (Dr6 _ dP))).one 2 rfl) ?_);have gJ:({id:=n3,v:=⟨some q.z,Pn,Pn⟩,seg:=[(q,ob)],ps:=List.replicate Pn pg0,next:=0,wear:=0,bad:=false}:PB).Ok:=⟨ownq,fun g hg=>by rw[Dv8 hg];exact Bo9⟩;refine K1 [] (X++fO m (fresh ⟨B,Pn,S,W⟩) bv ⟨none,0,0⟩::(bseg++Y)) (Bv8 _ gJ Pn S (by simp) (by omega) (by omega)) (by simp[PB.objs,PB.obj,Dj1]) ?_;rintro _ _-⟨rfl,seg',ps',rfl,fI,lA⟩;refine⟨(),rfl,?_⟩;rw[Ds1];generalize hx:({id:=n3,v:=⟨some q.z,Pn,Pn⟩,seg:=seg',ps:=ps',next:=0,wear:=0,bad:=false}:PB)=x at fI⊢;have hxi:x.id=n3:=by rw[<-hx]
  have mM:x.blk=blk0 ⟨B,Pn,S,W⟩:=by
   rw[<-hx];unfold PB.blk blk0;simp only;rw[lA,D40 (by simp),Dr3]
  refine A6 bv (f_bs (m:=m) (d:=fresh ⟨B,Pn,S,W⟩) (tv:=⟨none,0,0⟩) (by simp)) (C4 fun n4 _=>?_);have zL:=own.len;rw[Dr1]at zL;refine E6 elemPb srcPb ((n4,Obj.cells #[.q (some n3.z)] 94)::(x.objs++(X++[fO m (fresh ⟨B,Pn,S,W⟩) bv ⟨none,0,0⟩]))) Y own (by simp)
   (n:=1) (ws:=[pbp x]) (x:=.slice (some n4.z) 1 1) (Src.sl (v:=⟨some n4.z,1,1⟩) ⟨rfl,Dq6 _,.inr ⟨_,rfl,ldB (n:=n4) (off:=0) (T:=94) (fz:=(0,0)) (c:=#[.p n3]) Dq7 (by unfold pbp;rw[hxi];rfl)⟩⟩) rfl (by omega) fun v8 seg8 xA own8=>?_
  refine E4 (n:=m) (off:=7) (c:=#[.i 0,.i 0,.b false,.i B,.i Pn,.i S,.i W,.slice bv.a bv.len bv.cap,.i 0,.slice none 0 0]) (T:=tFl) (fz:=(0,0)) ((n4,Obj.cells #[.q (some n3.z)] 94)::(x.objs++X)) (seg8++Y) rfl (by simp[fO,fresh]) (by simp) (.inl (Dq6 _))
   #[.i 0,.i 0,.b false,.i B,.i Pn,.i S,.i W,.slice v8.a v8.len v8.cap,.i 0,.slice none 0 0] rfl ?_
  refine⟨B-(i+1),by omega,i+1,v8,seg8,bs++[x],(n4,Obj.cells #[.q (some n3.z)] 94)::J,(n4,Obj.cells #[.q (some n3.z)] 94)::(x.objs++X),Y,by omega,rfl,?_,rfl,?_,?_,?_,?_⟩
  ·rw[C1 (by first|omega|(simp only;omega)) (by first|omega|(simp only;omega))];rfl
  ·generalize (n4,Obj.cells #[.q (some n3.z)] 94)=o4;have pC:F4 (bs++[x])=F4 bs++x.objs:=by rw[N5,Q9];simp[F4]
   rw[pC]
   classical
   rw[Dt9]at hp⊢;intro z;have:=hp z;simp only[Dw2,Dt7,Du0,Dv0,Dv7]at this⊢;omega
  ·rw[Ds2];exact own8
  ·intro z hz;rcases Dr5.1 hz with h5|h5
   ·exact gS z h5
   ·rw[Dr2.1 h5];exact fI
  ·rw[Ds2,pA,Ec0,Dz5,mM]
 ·obtain rfl:i=B:=by omega
  refine .drop (A:=fL m (fresh ⟨i,Pn,S,W⟩) bv bseg bs ⟨none,0,0⟩ [] []) (J:=o1::J) (.inr ⟨hr,m,rfl,bv,bseg,bs,⟨none,0,0⟩,[],[],rfl,own,gS,pA,F6,by simp,rfl⟩) ?_;unfold fL;have:O6 []=[]:=rfl;rw[this]
  classical
  rw[Dt9]at hp⊢;intro z;have:=hp z;simp only[Dw2,Dt7,Du0,Dv0,Dv7]at this⊢;omega
structure Dq3(c:Cfg)(k:Blk):Prop where
 pg:k.pages.length=c.P/\ ∀l∈k.pages,l.length=c.S
 nx:k.next<=c.P/\k.wear<=c.W/\k.bad=decide (k.wear=c.W)
theorem P6.bk{d:Dev}(h:P6 d){k:Blk}(hk:k∈d.bs):Dq3 d.c k:=⟨h.pg k hk,h.nx k hk⟩
theorem P6.set{d e:Dev}(h:P6 d)(hc:e.c=d.c)(i:Nat)(k:Blk)(hk:Dq3 d.c k)(hb:e.bs=d.bs.set i k)(ha:(e.after:Int)<=9223372036854775807)(ht: ∀t∈e.torn,t.meant.length=d.c.S/\t.image.length=d.c.S):P6 e:=by
 have hm: ∀x∈e.bs,Dq3 d.c x:=by
  intro x hx;rw[hb]at hx;rcases D89 hx with h1|rfl
  ·exact h.bk h1
  ·exact hk
 refine⟨hc▸h.c,?_,?_,?_,ha,?_⟩
 ·rw[hb,Dz4,hc];exact h.len
 ·intro x hx;rw[hc];exact(hm x hx).pg
 ·intro x hx;rw[hc];exact(hm x hx).nx
 ·rw[hc];exact ht
theorem A89(d:Dev):(W6 d).2.after<=d.after:=by
 unfold W6;split
 ·exact Dq6 _
 ·exact Nat.sub_le _ _
theorem Ab7(d:Dev):(W6 (H9 d)).2.c=d.c/\(W6 (H9 d)).2.bs=d.bs/\(W6 (H9 d)).2.torn=d.torn/\(W6 (H9 d)).2.after<=d.after:=by
 obtain⟨h1,h2,h3,h4,h5⟩:=Av3 (H9 d);exact⟨h1,h2,h5,A89 (H9 d)⟩
theorem Da6{c:Cfg}{k:Blk}(hk:Dq3 c k){p:Nat}(hp:p<c.P){l:List UInt8}(hl:l.length=c.S):Dq3 c (k.put p l):=by
 refine⟨⟨?_,fun x hx=>?_⟩,?_,hk.nx.2⟩
 ·show(k.pages.set p l).length=c.P;rw[Dz4];exact hk.pg.1
 ·rcases D89 hx with h1|rfl
  ·exact hk.pg.2 x h1
  ·exact hl
 ·show p+1<=c.P;exact hp
theorem A00{d:Dev}{data:List UInt8}(h:data.length=d.c.S):(N0 d data).length=d.c.S:=by
 unfold N0 blk R8;rw[Dr4,Ds0,Dv3];omega
theorem C15{d:Dev}(ok:P6 d){i p:Nat}{k:Blk}(hk:Dq3 d.c k)(hp:p<d.c.P){data:List UInt8}(hl:data.length=d.c.S):P6 (Ap3 d i p k data).2:=by
 obtain⟨h1,h2,h3,h4⟩:=Ab7 d;have ha:=ok.after;unfold Ap3;split
 ·refine ok.set h1 i (k.put p (N0 d data)) (Da6 hk hp (A00 hl)) rfl (by show((W6 (H9 d)).2.after:Int)<=_;omega) ?_;intro t ht;rcases Dr5.1 ht with h|h
  ·exact ok.torn t h
  ·rw[Dr2.1 h];exact⟨hl,A00 hl⟩
 ·refine ok.set h1 i (k.put p data) (Da6 hk hp hl) rfl (by show((W6 (H9 d)).2.after:Int)<=_;omega) ?_;intro t ht;exact ok.torn t (by rw[<-h3];exact ht)
theorem Cj9{d:Dev}(ok:P6 d)(b p:Int)(data:List UInt8):P6 (prog d b p data).2:=by
 unfold prog;split
 ·exact ok
 ·rename_i he;have qP:G9 d b p=0:=by simpa using he
  obtain⟨_,_,_,bD,aL⟩:=Ad0 qP;split
  ·exact ok
  ·rename_i hl;split
   ·exact ok
   ·rename_i k hk;split
    ·exact ok
    ·split
     ·exact ok
     ·exact C15 ok (ok.bk (Dx2 hk)) (by omega) (by omega)
theorem Cr9{d:Dev}(ok:P6 d){i:Nat}{k:Blk}(hk:Dq3 d.c k)(hb:k.bad=false):P6 (Ai6 d i k).2:=by
 obtain⟨h1,h2,h3,h4,h5⟩:=Av3 d;have h6:=A89 d;have ha:=ok.after;have nK:R8 d.keep d.c.P<=d.c.P:=by unfold R8;omega
 unfold Ai6;split
 ·refine ok.set h1 i (k.torn d.c (R8 d.keep d.c.P)) ⟨⟨?_,fun l hl=>?_⟩,Dq6 _,hk.nx.2⟩ rfl (by show((W6 d).2.after:Int)<=_;omega) (by intro t ht;exact ok.torn t (by rw[<-h5];exact ht))
  ·show(List.replicate _ _++_).length=_;rw[Dr4,Dv3,Ds6,hk.pg.1];omega
  ·rcases Dr5.1 hl with h|h
   ·rw[Dv8 h];simp[blk]
   ·exact hk.pg.2 l (D59 h)
 ·have hw:k.wear+1<=d.c.W:=by
   have h7:=hk.nx.2;rw[hb]at h7;have:=D24 h7.2.symm;omega
  refine ok.set h1 i (k.fresh d.c) ⟨⟨?_,fun l hl=>?_⟩,Dv6 _,hw,rfl⟩ rfl (by show((W6 d).2.after:Int)<=_;omega) (by intro t ht;exact ok.torn t (by rw[<-h5];exact ht))
  ·show(List.replicate _ _).length=_;rw[Dv3]
  ·rw[Dv8 hl];simp[blk]
theorem C65{d:Dev}(ok:P6 d)(b:Int):P6 (E7 d b).2:=by
 unfold E7;split
 ·exact ok
 ·split
  ·exact ok
  ·rename_i k hk;split
   ·exact ok
   ·rename_i hb;exact Cr9 ok (ok.bk (Dx2 hk)) (by simpa using hb)
theorem arm_ok{d:Dev}(ok:P6 d){n k:Int}(hn:n<=9223372036854775807):P6 (arm d n k):=by
 unfold arm;split
 ·exact ok
 ·exact⟨ok.c,ok.len,ok.pg,ok.nx,by show((n.toNat:Nat):Int)<=_;omega,ok.torn⟩
theorem As9{d:Dev}(ok:P6 d):P6 (U3 d):=⟨ok.c,ok.len,ok.pg,ok.nx,by show((0:Nat):Int)<=_;omega,ok.torn⟩
theorem Cb1(d:Dev)(i p:Nat)(k:Blk)(data:List UInt8):(Ap3 d i p k data).2.torn.length<=d.torn.length+1:=by
 obtain⟨h1,h2,h3,h4⟩:=Ab7 d;unfold Ap3;split
 ·show(d.torn++[_]).length<=_;rw[Dr4];exact Dq6 _
 ·show(W6 (H9 d)).2.torn.length<=_;rw[h3];omega
theorem Cj8(d:Dev)(b p:Int)(data:List UInt8):(prog d b p data).2.torn.length<=d.torn.length+1:=by
 unfold prog;split
 ·exact D60 _
 ·split
  ·exact D60 _
  ·split
   ·exact D60 _
   ·split
    ·exact D60 _
    ·split
     ·exact D60 _
     ·exact Cb1 _ _ _ _ _
theorem Cc6(d:Dev)(b:Int):(E7 d b).2.torn=d.torn:=by
 obtain⟨h1,h2,h3,h4,h5⟩:=Av3 d;unfold E7;split
 ·rfl
 ·split
  ·rfl
  ·split
   ·rfl
   ·unfold Ai6;split
    ·exact h5
    ·exact h5
structure RK where
 v:SlV
 seg:A4
 l:List (List UInt8)
section
variable {L:A4} {m:Nat} {d:Dev} {pv nv wv bv tv:SlV}
end
instance (c:Int×Int×Int×Int×Unit):Decidable (right c):=by unfold right;infer_instance
section
variable {m:Nat} {d:Dev} {pv:SlV} {pseg:A4} {rs:List RK} {nv:SlV} {nseg:A4} {wv:SlV} {wseg:A4} {bv:SlV} {bseg:A4} {tv:SlV} {tseg:A4} {ts:List PT}
end
structure DG(d:Dev)(n:Nat):Prop where
 ok:P6 d
 few:d.torn.length+n<=1048576
def M9(d:Dev)(b:Int)(h:Hd)(p:List UInt8):Int×Dev:=if(Ak6 h p d.c.S).2≠0 then((Ak6 h p d.c.S).2,d)else prog d b h.2.2.2.2.1 (Ak6 h p d.c.S).1
def T3(d:Dev)(b ep:Int):Int×Dev:=M9 d b (1,0,1,ep,0,()) []
def W8(b ep at' kind n:Int):Dev->Nat->List (List UInt8)->Int×Dev
 |d,_,[]=>(0,d)
 |d,i,p::r=>if(M9 d b (kind,i,n,ep,at'+i,()) p).1=0 then W8 b ep at' kind n (M9 d b (kind,i,n,ep,at'+i,()) p).2 (i+1) r else M9 d b (kind,i,n,ep,at'+i,()) p
def Ah3(d:Dev)(b ep at' kind:Int)(l:List (List UInt8)):Int×Dev:=if l=[]then(2,d)else W8 b ep at' kind l.length d 0 l
def itB(x:It):List Int:=[x.1,x.2.1,x.2.2.1]
instance (l:List Int):Decidable (inB l):=by unfold inB;infer_instance
def J7(l:List It):List UInt8:=(l.flatMap itB).map A73
def T2(d:Dev)(b ep at':Int)(l:List It):Int×Dev:=if inB (l.flatMap itB)then M9 d b (4,0,1,ep,at',()) (J7 l)else(3,d)
def N8(d:Dev)(b:Int):List (List UInt8)×Int:=if G9 d b 0≠0 then([],G9 d b 0)else((List.range d.c.P).map fun(p:Nat)=>(H2 d b (p:Int)).1,0)
theorem imgR_0{h:Hd}{p:List UInt8}{size:Int}(e:(Ak6 h p size).2=0):Y3 h=0:=by
 unfold Ak6 at e;split at e
 ·simp at e
 ·split at e
  ·rename_i h2;exact absurd e h2
  ·rename_i h2;exact Ec1.1 h2
theorem Dj0{d:Dev}{b:Int}{h:Hd}{p:List UInt8}(e:(M9 d b h p).1=0):Y3 h=0:=by
 unfold M9 at e;split at e
 ·rename_i h2;exact absurd e h2
 ·rename_i h2;exact imgR_0 (Ec1.1 h2)
theorem Di9{d:Dev}{n:Nat}(g:DG d (n+1))(b:Int)(h:Hd)(p:List UInt8):DG (M9 d b h p).2 n:=by
 unfold M9;split
 ·exact⟨g.ok,by have:=g.few;show d.torn.length+n<=_;omega⟩
 ·refine⟨Cj9 g.ok _ _ _,?_⟩;have h1:=Cj8 d b h.2.2.2.2.1 (Ak6 h p d.c.S).1;have:=g.few;omega
theorem DG.le{d:Dev}{n m:Nat}(g:DG d n)(h:m<=n):DG d m:=⟨g.ok,by have:=g.few;omega⟩
theorem p3{A B C:A4}:(A++(B++C)).Perm (B++(A++C)):=Ed2 A B C
def DevK(H:Nat->Dev->A4->Prop)(m:Nat)(q:Int×Dev)(R:A4)(r:Value)(L':A4):Prop:= ∃A',L'=A'++R/\r= .i q.1/\H m q.2 A'
theorem Be9(m:Nat)(d:Dev)(A R:A4)(h:FH m d A)(g:DG d 1)(b:Int)(hd:Hd)(u:SlV)(p:List UInt8)(hu:BSl R u p):
  CallF PP 193 #[.p m,.i b,.agg (ki5 hd),.slice u.a u.len u.cap] (A++R) (DevK FH m (M9 d b hd p) R):=by
 refine(c193 (some m.z) b hd u).c ?_;have hc:=g.ok.c.s;refine B5 (Reads.in (X:=[]) (Y:=R) (Ar6 m d A h)) ((d.c.B,d.c.P,d.c.S,d.c.W,()),()) rfl ?_;refine S8 (Ck4 (A++R) hd u p hu.right (d.c.S:Int) (by omega)) ?_;rintro _ _-⟨s,sg,rfl,rfl,own⟩;refine⟨(s,(Ak6 hd p d.c.S).2,()),rfl,B6 (fun(h0:(Ak6 hd p d.c.S).2=0)=>?_) (fun(h0: ¬(Ak6 hd p d.c.S).2=0)=>?_)⟩
 ·refine S8 (CallF.perm p3 (Cb0 m d A (sg++R) h g.ok (by have:=g.few;omega) b hd.2.2.2.2.1 s (Ak6 hd p d.c.S).1 own.sl.left)) ?_;rintro _ _-⟨A',rfl,rfl,h'⟩;have e:M9 d b hd p=prog d b hd.2.2.2.2.1 (Ak6 hd p d.c.S).1:=by unfold M9;rw[Dq4 (by simpa using h0)]
  refine⟨((prog d b hd.2.2.2.2.1 (Ak6 hd p d.c.S).1).1,()),rfl,.drop (A:=A'++R) (J:=sg) ⟨A',rfl,by rw[e],by rw[e];exact h'⟩ ?_⟩;exact(p3.trans Du8)
 ·have e:M9 d b hd p=((Ak6 hd p d.c.S).2,d):=by unfold M9;rw[Dq5 h0]
  exact .app (.of ⟨A,rfl,by rw[e],by rw[e];exact h⟩)
theorem Dj7(m:Nat)(d:Dev)(A R:A4)(h:FH m d A)(g:DG d 1)(b ep:Int):CallF PP 254 #[.p m,.i b,.i ep] (A++R) (DevK FH m (T3 d b ep) R):=by
 refine(c254 (some m.z) b ep).c ?_;refine S8 (Be9 m d A R h g b (1,0,1,ep,0,()) ⟨none,0,0⟩ [] (Sl.nil 1)) ?_;rintro _ _-⟨A',rfl,rfl,h'⟩;exact⟨((T3 d b ep).1,()),rfl,.of ⟨A',rfl,rfl,h'⟩⟩
theorem Cu7(m:Nat)(d:Dev)(A R:A4)(h:FH m d A)(u:SlV)(l:List PV)(hu:Z0 R u l)(hl:l.length<=1000000)(g:DG d l.length)(b ep at' kind:Int)(fF:S0 .i64 at'):
  CallF PP 135 #[.p m,.i b,.i ep,.i at',.i kind,.slice u.a u.len u.cap] (A++R) (DevK FH m (Ah3 d b ep at' kind (l.map Prod.snd)) R):=by
 refine(c135 (some m.z) b ep at' kind u).c ?_;have eZ:=hu.len;have hat':=Bl5 fF;refine B6 (fun(h0:(u.len:Int)=0)=>?_) (fun(h0: ¬(u.len:Int)=0)=>?_)
 ·have e:l.map Prod.snd=[]:=by rw[List.map_eq_nil_iff];exact D13.1 (by omega)
  exact .of ⟨A,rfl,by unfold Ah3;rw[Dq5 e],by unfold Ah3;rw[Dq5 e];exact h⟩
 have aE:l.map Prod.snd≠[]:=fun e=>h0 (by have:=congrArg List.length e;rw[Dr1,Du7]at this;omega);have hA:Ah3 d b ep at' kind (l.map Prod.snd)=W8 b ep at' kind l.length d 0 (l.map Prod.snd):=by unfold Ah3;rw[Dq4 aE,Dr1]
 rw[hA];refine G7 (fun z' z L'=> ∃(i:Nat) (x:Int) (d':Dev) (A':A4),i<=l.length/\z'=l.length-i/\z=((i:Int),kind,x,(l.length:Int),ep,at'+i,())/\L'=A'++R/\FH m d' A'/\DG d' (l.length-i)/\(0<i->at'<=15)/\W8 b ep at' kind l.length d 0 (l.map Prod.snd)=W8 b ep at' kind l.length d' i ((l.drop i).map Prod.snd)) l.length
  ⟨0,0,d,A,by omega,by omega,by rw[eZ];simp,rfl,h,g,by omega,by simp⟩ ?_
 rintro z' z _ ⟨i,x,d',A',hi,rfl,rfl,rfl,h',g',h15,aP⟩;dsimp only;refine B6 (fun(hO:(i:Int)<u.len)=>?_) (fun(aS: ¬(i:Int)<u.len)=>?_)
 ·have hJ:i<l.length:=by omega
  refine C68 (hu.sl.mono Bf9) rfl (by rw[Dr1];exact hJ) fun a ha=>?_;rw[D07]at ha;refine A6 l[i].1 ha (S8 (Be9 m d' A' R h' (g'.le (by omega)) b (kind,(i:Int),(l.length:Int),ep,at'+i,()) l[i].1 l[i].2 (hu.val _ (Dr7 hJ))) ?_);rintro _ _-⟨A2,rfl,rfl,h2⟩;rw[Dv1 hJ,Ds3,W8]at aP;refine⟨((M9 d' b (kind,(i:Int),(l.length:Int),ep,at'+i,()) l[i].2).1,()),rfl,B6 (fun(h0:(M9 d' b (kind,(i:Int),(l.length:Int),ep,at'+i,()) l[i].2).1=0)=>?_) (fun(h0: ¬(M9 d' b (kind,(i:Int),(l.length:Int),ep,at'+i,()) l[i].2).1=0)=>?_)⟩
  ·have hk:=Ac9 (Dj0 h0);simp only at hk;rw[Dq5 h0]at aP;refine D6 (by omega) (D6 (by omega) ⟨l.length-(i+1),by omega,i+1,i,_,A2,by omega,rfl,?_,rfl,h2,Di9 (n:=l.length-(i+1)) (g'.le (by omega)) _ _ _,fun _=>by omega,aP⟩);rw[show at'+(i:Int)+1=at'+((i+1:Nat):Int) by omega];rfl
  ·rw[Dq4 h0]at aP;exact .of ⟨A2,rfl,by rw[aP],by rw[aP];exact h2⟩
 ·obtain rfl:i=l.length:=by omega
  rw[D90,D61,W8]at aP;exact .of ⟨A',rfl,by rw[aP],by rw[aP];exact h'⟩
theorem Dm0{a b:List Int}:inB (a++b)↔inB a/\inB b:=by
 unfold inB;constructor
 ·exact fun h=>⟨fun n hn=>h n (Ds8 _ hn),fun n hn=>h n (Du2 _ hn)⟩
 ·rintro⟨h1,h2⟩ n hn;rcases Dr5.1 hn with h|h
  ·exact h1 n h
  ·exact h2 n h
theorem inB_no{l:List It}{x:It}(hx:x∈l)(h: ¬inB (itB x)): ¬inB (l.flatMap itB):=fun hh=>h fun n hn=>hh n (Dw7.2 ⟨x,hx,hn⟩)
theorem Aj4(l:List It):(J7 l).length=3*l.length:=by
 unfold J7;rw[Dr1];induction l with
 |nil=>rfl
 |cons x r ih=>rw[Du1,Dr4,ih];simp[itB];omega
theorem Bx0(l:List It)(x:It):J7 (l++[x])=J7 l++(itB x).map A73:=by simp[J7]
theorem Ch2(m:Nat)(d:Dev)(A R:A4)(h:FH m d A)(u:SlV)(l:List It)(hu:Sl R u 3 (l.flatMap P8))(hl:l.length<=300)(g:DG d 1)(b ep at':Int):
  CallF PP 249 #[.p m,.i b,.i ep,.i at',.slice u.a u.len u.cap] (A++R) (DevK FH m (T2 d b ep at' l) R):=by
 refine(c249 (some m.z) b ep at' u).c ?_;have eZ:=hu.els_len E3 (by decide);refine G7 (fun z' z L'=> ∃(i:Nat) (s:SlV) (sg J:A4),i<=l.length/\z'=l.length-i/\z=(s,(i:Int),())/\L'=sg++(J++(A++R))/\Own s 1 eB (bvs (J7 (l.take i))) sg/\inB ((l.take i).flatMap itB)) l.length ⟨0,⟨none,0,0⟩,[],[],by omega,by omega,rfl,rfl,F6,by intro n hn;simp at hn⟩ ?_;rintro z' z _ ⟨i,s,sg,J,hi,rfl,rfl,rfl,own,dC⟩;dsimp only;refine B6 (fun(hO:(i:Int)<u.len)=>?_) (fun(aS: ¬(i:Int)<u.len)=>?_)
 ·have hJ:i<l.length:=by omega
  refine W5 E3 (by decide) (((hu.mono Bf9).mono Bf9).mono Bf9) rfl hJ fun a ha=>?_;refine A6 (l[i]:It) ha (C4 fun n2 _=>?_);have hC:=Aj4 (l.take i);rw[Ds0]at hC;refine S8 (CallF.perm Dw4 (B81 ((n2,Obj.cells #[.i l[i].1,.i l[i].2.1,.i l[i].2.2.1] 3)::(J++(A++R))) s (J7 (l.take i)) sg own (by omega) ⟨some n2.z,3,3⟩ (itB l[i]) ⟨rfl,Dq6 _,.inr ⟨_,rfl,ldB Dq7 rfl⟩⟩ (by simp[itB]))) ?_;rintro _ _-⟨sg2,rfl,⟨hb,v2,rfl,own2⟩|⟨hb,rfl⟩⟩
  ·refine⟨(v2,true,()),rfl,ifT rfl (D6 (by omega) ⟨l.length-(i+1),by omega,i+1,v2,sg2,(n2,Obj.cells #[.i l[i].1,.i l[i].2.1,.i l[i].2.2.1] 3)::J,by omega,rfl,rfl,by simp,?_,?_⟩)⟩
   ·rw[Ds4 hJ,Bx0];exact own2
   ·rw[Ds4 hJ,Dt3,Dm0,Dx7];exact⟨dC,hb⟩
  ·have e:T2 d b ep at' l=(3,d):=by unfold T2;rw[Dq4 (inB_no (Dr7 hJ) hb)]
   exact⟨(⟨none,0,0⟩,false,()),rfl,ifF rfl (.app (.cons (.app (.of ⟨A,rfl,by rw[e],by rw[e];exact h⟩))))⟩
 ·obtain rfl:i=l.length:=by omega
  rw[Ds9]at own dC;refine S8 (CallF.perm (L:=A++(sg++(J++R))) ?_ (Be9 m d A (sg++(J++R)) h g b (4,0,1,ep,at',()) s (J7 l) own.sl.left)) ?_
  ·classical
   rw[Dt9];intro z;simp only[Du0];omega
  rintro _ _-⟨A2,rfl,rfl,h2⟩;have e:T2 d b ep at' l=M9 d b (4,0,1,ep,at',()) (J7 l):=by unfold T2;rw[Dq5 dC]
  refine⟨(_,()),rfl,.drop (A:=A2++R) (J:=sg++J) ⟨A2,rfl,by rw[e],by rw[e];exact h2⟩ ?_⟩
  classical
  rw[Dt9];intro z;simp only[Du0];omega
def Dp9(q:List (List UInt8)×Int)(A:A4)(r:Value)(L':A4):Prop:= ∃(v:SlV) (gs:List PG) (seg:A4),r= .t #[.slice v.a v.len v.cap,.i q.2]/\L'=seg++(pgs gs++A)/\Own v 1 tB (gs.map PG.val) seg/\(∀g∈gs,g.Ok)/\gs.map PG.l=q.1
theorem Cr1{d:Dev}{b:Int}{p:Nat}(hp:p<d.c.P):G9 d b p=G9 d b 0:=by
 unfold G9;have h1:(0<=(p:Int)/\(p:Int)<d.c.P):=by omega
 have h2:(0<=(0:Int)/\(0:Int)<d.c.P):=by omega
 simp only[h1,h2,and_self,not_true_eq_false,if_false]
theorem Ao8{d:Dev}(ok:P6 d)(b p:Int):(H2 d b p).2=G9 d b p:=by
 unfold H2;split
 ·rfl
 ·rename_i h;have h0:G9 d b p=0:=Ec1.1 h;have:=Ad0 h0;split
  ·rename_i hn;have hO:b.toNat<d.bs.length:=by omega
   rw[Dr9 hO]at hn;cases hn
  ·split<;>exact h0.symm
theorem DG.pb{d:Dev}(ok:P6 d):4<=d.c.P/\d.c.P<=16:=ok.c.p
def Cd8(d:Dev)(b:Int)(A:A4)(i:Nat)(s:SlV)(L':A4):Prop:= ∃(gs:List PG) (sg J:A4),L'.Perm (sg++(pgs gs++(J++A)))/\Own s 1 tB (gs.map PG.val) sg/\(∀g∈gs,g.Ok)/\gs.map PG.l=(List.range i).map fun(p:Nat)=>(H2 d b (p:Int)).1
theorem Cd8.nil(d:Dev)(b:Int)(A:A4):Cd8 d b A 0 ⟨none,0,0⟩ A:=⟨[],[],[],Dq8 _,F6,by simp,rfl⟩
theorem Cd8.p{d:Dev}{b:Int}{A:A4}{i:Nat}{s:SlV}{L':A4}(h:Cd8 d b A i s L'): ∃G:A4,L'.Perm (A++G):=by
 obtain⟨gs,sg,J,hp,-⟩:=h;exact⟨sg++(pgs gs++J),pc fun z=>by have:=pcn hp z;simp only[B4]at this⊢;omega⟩
theorem Cd8.fin{d:Dev}{b:Int}{A:A4}{s:SlV}{L':A4}(h:Cd8 d b A d.c.P s L')(h0:G9 d b 0=0):HL.Ends (Dp9 (N8 d b) A) (.t #[.slice s.a s.len s.cap,.i 0]) L':=by
 obtain⟨gs,sg,J,hp,own,aA,hg⟩:=h;have e:N8 d b=((List.range d.c.P).map fun(p:Nat)=>(H2 d b (p:Int)).1,0):=by unfold N8;rw[Dq4 (by simpa using h0)]
 exact .drop (A:=sg++(pgs gs++A)) (J:=J) ⟨s,gs,sg,by rw[e],rfl,own,aA,by rw[e];exact hg⟩ (pc fun z=>by have:=pcn hp z;simp only[B4]at this⊢;omega)
theorem Cd8.snoc{d:Dev}{b:Int}{A:A4}{i:Nat}{s:SlV}{L':A4}(h:Cd8 d b A i s L')(hi:i<=16)(g:PG)(hg:g.Ok)(hl:g.l=(H2 d b i).1){L2:A4}(aH:L2.Perm (g.seg++L')){k:SlV->HP}(hk: ∀s' L',Cd8 d b A (i+1) s' L'->k s' L'):
  apv PP tPs tPs tPs tB s 1 [g.val] k L2:=by
 obtain⟨gs,sg,J,hp,own,aA,dL⟩:=h;have lR:=congrArg List.length dL;rw[Dr1,Dr1,D16]at lR;have aT:=own.len;rw[Dr1]at aT;refine Am5 Bt1 Cy3 (Y:=g.seg++(pgs gs++(J++A))) own (pc fun z=>by have:=pcn hp z;have:=pcn aH z;simp only[B4]at*;omega) rfl rfl (by omega) fun s2 sg2 _ own2=>hk _ _ ⟨gs++[g],sg2,J,?_,?_,?_,?_⟩
 ·rw[Q4,A31];exact pc fun z=>by simp only[B4];omega
 ·rw[Ds2];exact own2
 ·intro g' cX;rcases Dr5.1 cX with h1|h1
  ·exact aA g' h1
  ·rw[Dr2.1 h1];exact hg
 ·rw[D41,Ds2,Ds2,dL,Dz5,Dz5,hl]
theorem Cd8.err{d:Dev}{b:Int}{A:A4}{i:Nat}{s:SlV}{L' J L2:A4}(h:Cd8 d b A i s L')(hi:i<d.c.P){z:Int}(hz:z=G9 d b i)(aE:z≠0)(hp:L2.Perm (J++L')):HL.Ends (Dp9 (N8 d b) A) (.t #[.slice none 0 0,.i z]) L2:=by
 obtain⟨G,hG⟩:=h.p;have e:N8 d b=([],z):=by rw[Cr1 hi]at hz;unfold N8;rw[<-hz,Dq5 aE]
 exact .drop (A:=A) (J:=J++G) ⟨⟨none,0,0⟩,[],[],by rw[e],rfl,F6,by simp,by rw[e];rfl⟩ (pc fun z=>by have:=pcn hG z;have:=pcn hp z;simp only[B4]at*;omega)
theorem Dl1(m:Nat)(d:Dev)(A:A4)(h:FH m d A)(ok:P6 d)(b:Int):CallF PP 223 #[.p m,.i b] A (Dp9 (N8 d b) A):=by
 refine(c223 (some m.z) b).c ?_;have hP:=DG.pb ok;refine ifF rfl (B5 (Ar6 m d A h) ((d.c.B,d.c.P,d.c.S,d.c.W,()),()) rfl ?_);refine G7 (fun z' z L'=> ∃(i:Nat) (s:SlV),i<=d.c.P/\z'=d.c.P-i/\z=(s,(i:Int),())/\Cd8 d b A i s L'/\(0<i->G9 d b 0=0)) d.c.P ⟨0,⟨none,0,0⟩,by omega,by omega,rfl,Cd8.nil d b A,by omega⟩ ?_;rintro z' z L1 ⟨i,s,hi,rfl,rfl,hI,h0⟩;dsimp only;obtain⟨G,hG⟩:=hI.p;refine B6 (fun(hO:(i:Int)<d.c.P)=>?_) (fun(aS: ¬(i:Int)<d.c.P)=>?_)
 ·have hJ:i<d.c.P:=by omega
  refine G5 (Bx3 m d A h ok b i) hG ?_;rintro _ _ ⟨g,rfl,rfl,hg,dL⟩;have bq:=Ao8 ok b (i:Int);have bw:((g.seg++A)++G).Perm (g.seg++L1):=pc fun z=>by have:=pcn hG z;simp only[B4]at*;omega
  refine⟨_,Dq8 _,(g.v,(H2 d b (i:Int)).2,()),rfl,B6 (fun(he:(H2 d b (i:Int)).2=0)=>?_) (fun(he: ¬(H2 d b (i:Int)).2=0)=>hI.err hJ bq he bw)⟩;exact hI.snoc (by omega) g hg dL bw fun s' L' nV=>D6 (by omega) ⟨d.c.P-(i+1),by omega,i+1,s',by omega,rfl,rfl,nV,fun _=>by rw[<-Cr1 hJ,<-bq];exact he⟩
 ·obtain rfl:i=d.c.P:=by omega
  exact hI.fin (h0 (by omega))
theorem Cm7{d:Dev}(ok:P6 d)(b:Int):(N8 d b).1.length<=16/\ ∀x∈(N8 d b).1,x.length<=512:=by
 have hP:=ok.c.p;have hS:=ok.c.s;unfold N8;split
 ·exact⟨by simp,by simp⟩
 ·refine⟨by simp;omega,fun x hx=>?_⟩;simp only[Dt4]at hx;obtain⟨p,hp,rfl⟩:=hx;have aH:p<d.c.P:=Dy9.1 hp;unfold H2;split
  ·simp
  ·split
   ·simp
   ·rename_i k hk;have hm:k∈d.bs:=Dx2 hk;have h1:=ok.pg k hm;split
    ·simp[blk];omega
    ·rw[Dr0,Dt0,Dr9 (by omega),D67,h1.2 _ (Dr7 _)];omega
theorem Dj4{L:A4}{v:SlV}{gs:List PG}{seg Y:A4}(own:Own v 1 tB (gs.map PG.val) seg)(hg: ∀g∈gs,g.Ok)(hp:L.Perm (seg++(pgs gs++Y))):Z0 L v (pvs gs):=
 Bf0 own hg (fun x hx=>hp.symm.subset (by simp[hx])) (fun x hx=>hp.symm.subset (by simp[hx]))
theorem A23(gs:List PG):(pvs gs).map Prod.snd=gs.map PG.l:=by unfold pvs;rw[Dv2];rfl
theorem C29{d:Dev}(ok:P6 d){b:Int}{gs:List PG}(hl:gs.map PG.l=(N8 d b).1):(pvs gs).length<=16/\ ∀x∈pvs gs,x.2.length<=512:=by
 have h:=Cm7 ok b;rw[<-hl,<-A23,Dr1]at h;exact⟨h.1,fun x hx=>h.2 _ (Du6 hx)⟩
def Ax2(x:It):Prop:=1<=x.2.1/\x.2.1<=255/\1<=x.2.2.1/\x.2.2.1<=255
theorem Bn1{p:List UInt8}: ∀{n i:Nat} {nx:Int} {y:List It×Int},1<=nx->Ag8 p n i nx=some y->(∀x∈y.1,nx<=x.2.1/\Ax2 x)/\y.1.Pairwise (fun a b=>a.2.1<b.2.1)
 |0,i,nx,y,_,h=>by obtain rfl:=Dq9 h;simp
 |n+1,i,nx,y,h1,h=>by
  rw[Ag8]at h;split at h
  ·rename_i hc;rw[Eb4]at h;obtain⟨y2,h2,rfl⟩:=h;have hb: ∀k,(p.getD k 0).toNat<=255:=fun k=>by have:=(p.getD k 0).toNat_lt;omega
   have e1:(G8 p i).2.1=((p.getD (i*3+1) 0).toNat:Int):=rfl;have e2:(G8 p i).2.2.1=((p.getD (i*3+2) 0).toNat:Int):=rfl;have h3:=hb (i*3+1);have h4:=hb (i*3+2);have bH:1<=(G8 p i).2.2.1:=by have:=hc.2.1;omega
   obtain⟨i1,i2⟩:=Bn1 (by omega) h2;refine⟨fun x hx=>?_,?_⟩
   ·rcases Dt5.1 hx with rfl|hx
    ·exact⟨by omega,by omega,by omega,bH,by omega⟩
    ·have:=i1 x hx;exact⟨by omega,this.2⟩
   ·rw[Dy6];exact⟨fun x hx=>by have:=(i1 x hx).1;omega,i2⟩
  ·cases h
theorem C62{ps:List (List UInt8)}{ep:Int}{q:Nat}{x:It}(h:O1 ps ep q=some x):x.2.1=q:=by
 unfold O1 at h;split at h
 ·split at h
  ·split at h
   ·obtain rfl:=Dq9 h;rfl
   ·cases h
  ·cases h
 ·cases h
theorem A59{ps:List (List UInt8)}{ep:Int}{last:Nat}(hl:last<=15): ∀{k p:Nat},1<=p->(∀x∈Af5 (O1 ps ep) last k p,(p:Int)<=x.2.1/\Ax2 x)/\(Af5 (O1 ps ep) last k p).Pairwise (fun a b=>a.2.1<b.2.1)
 |0,p,_=>by simp[Af5]
 |k+1,p,h1=>by
  rw[Af5];split
  ·rename_i hp;cases hf:O1 ps ep p with
   |none=>
    obtain⟨i1,i2⟩:=A59 (ps:=ps) (ep:=ep) hl (k:=k) (p:=p+1) (by omega);exact⟨fun x hx=>by have:=i1 x hx;exact⟨by omega,this.2⟩,i2⟩
   |some x0=>
    have h2:=C62 hf;have h3:=Br9 hf;obtain⟨i1,i2⟩:=A59 (ps:=ps) (ep:=ep) hl (k:=k) (p:=p+x0.2.2.1.toNat) (by omega);refine⟨fun x hx=>?_,?_⟩
    ·rcases Dt5.1 hx with rfl|hx
     ·exact⟨by omega,by omega,by omega,by omega,by omega⟩
     ·have:=i1 x hx;exact⟨by omega,this.2⟩
    ·rw[Dy6];exact⟨fun x hx=>by have:=(i1 x hx).1;omega,i2⟩
  ·simp
theorem Ch3{p:List UInt8}{last:Nat}{l:List It}(h:Ad6 p last=some l):(∀x∈l,Ax2 x)/\l.Pairwise (fun a b=>a.2.1<b.2.1):=by
 unfold Ad6 at h;split at h
 ·cases h
 ·split at h
  ·rename_i y hy;split at h
   ·obtain rfl:=Dq9 h;obtain⟨h1,h2⟩:=Bn1 (by omega) hy;exact⟨fun x hx=>(h1 x hx).2,h2⟩
   ·cases h
  ·cases h
theorem Ch5(ps:List (List UInt8)):(∀x∈(Q3 ps).1.2.2,Ax2 x)/\(Q3 ps).1.2.2.Pairwise (fun a b=>a.2.1<b.2.1):=by
 unfold Q3;split
 ·simp
 ·split
  ·split
   ·rename_i l hl;split at hl
    ·unfold A74 at hl;rw[D71]at hl;obtain⟨p,-,hp⟩:=hl;exact Ch3 hp
    ·cases hl
   ·have hla:M6 ps<=15:=by have:=Bg9 ps (min ps.length 16-1);unfold M6;omega
    obtain⟨h1,h2⟩:=A59 (ps:=ps) (ep:=epR ps) hla (k:=17) (p:=1) (by omega);exact⟨fun x hx=>(h1 x hx).2,h2⟩
  ·simp
theorem Cz4(ps:List (List UInt8)):0<=(Q3 ps).1.1/\(Q3 ps).1.1<=1073741824:=by
 have h: ∀l,Ab5 ps 0 (1,0,1,epR ps,0,())=some l->0<=epR ps/\epR ps<=1073741824:=by
  intro l hl;unfold Ab5 at hl;split at hl
  ·split at hl
   ·split at hl
    ·rename_i b hb hc;have h1:=Ac9 (B43 hc.1);rw[hc.2]at h1;simp only at h1;omega
    ·cases hl
   ·cases hl
  ·cases hl
 unfold Q3;split
 ·simp
 ·split
  ·rename_i hs;have:=h _ hs;split
   ·exact this
   ·exact this
  ·simp
def Cv8(b:List UInt8)(s:ByteArray):List UInt8×Int:=if 65536<s.size then([],4)else(b++N4 s.size 4++s.data.toList,0)
def TxtK(b:List UInt8)(s:ByteArray)(A:A4)(v:Value)(L':A4):Prop:= ∃(u:SlV) (seg:A4),v= .t #[.slice u.a u.len u.cap,.i (Cv8 b s).2]/\L'=seg++A/\Own u 1 eB (bvs (Cv8 b s).1) seg
theorem Cg6(s:ByteArray):s.data.toList.length=s.size:=by rw[D14];rfl
theorem wput4(b:List UInt8)(n:Nat)(h:n<=65536):Az7 b n 4=(b++N4 n 4,0):=by
 have:=Am7 (b:=b) (n:=n) (w:=4) (by omega) (by omega) (by simp;omega);simpa using this
theorem Df5(s:ByteArray):(s.data.toList.map fun b=>Value.int .u8 b.toNat)=bvs s.data.toList:=rfl
theorem Ce5(A:A4)(v:SlV)(b:List UInt8)(hb:BSl A v b)(hl:b.length<=1000000)(s:ByteArray)(hs:s.size<=maxLen):
  CallF PP 177 #[.slice v.a v.len v.cap,.w s] A (TxtK b s A):=by
 refine(e177 v s).c ?_;refine C0 (fun(h1:(s.size:Int)>65536)=>.of ?_) (fun(h1: ¬(s.size:Int)>65536)=>?_)
 ·have e:Cv8 b s=([],4):=by unfold Cv8;rw[Dq5 (by omega)]
  exact⟨⟨none,0,0⟩,[],by rw[e],rfl,by rw[e];exact F6⟩
 ·have e:Cv8 b s=(b++N4 s.size 4++s.data.toList,0):=by unfold Cv8;rw[Dq4 (by omega)]
  refine K1 [] [] (Bd0 A v b hb hl s.size 4 (by omega)) (by simp) ?_;rintro w A'-⟨u,seg,rfl,rfl,own⟩;rw[wput4 b s.size (by omega)]at own⊢;refine⟨(u,0,()),rfl,?_⟩;have eZ:=own.sl.len;rw[E5,Dr4,Q1]at eZ;refine E6 Ar2 srcS [] A own (by simp) (.str s) (L8 _) (by first|omega|(simp only;omega)) fun u' seg' fP own'=>?_;rw[Df5,<-Ak9]at own';exact .of ⟨u',seg',by rw[e],rfl,by rw[e];exact own'⟩
def RD(m:Nat)(b:List UInt8)(at':Nat)(A:A4):Prop:= ∃(s:SlV) (seg:A4),A=(m,Obj.cells #[.slice s.a s.len s.cap,.i at'] 389)::seg/\Own s 1 eB (bvs b) seg/\at'<=b.length/\b.length<=1000000
theorem C01(A:A4)(v:SlV)(b:List UInt8)(hb:BSl A v b)(hl:b.length<=1000000):
  CallF PP 240 #[.slice v.a v.len v.cap] A fun r L'=> ∃m R,r= .p m/\L'=R++A/\RD m b 0 R:=by
 refine(e240 v).c ?_;have hC:=hb.len;refine C4 fun q _=>E6 Ar2 Cy4 [] A Ai1 (by simp) (.sl hb.cons) (L8 _) (by first|omega|(simp only;omega)) fun s seg hs own=>?_;rw[Ds1]at own;exact C4 fun m _=>.of ⟨m,_::seg,rfl,by simp,s,seg,rfl,own,by omega,hl⟩
def A98(b:List UInt8)(a:Nat)(w:Int):Nat:=if(V5 b a w).2=0 then a+w.toNat else a
theorem Ci8{b:List UInt8}{a:Nat}{w:Int}(h:a<=b.length):A98 b a w<=b.length:=by
 unfold A98;split
 ·rename_i h1;have:=(Aj3 b a w).2.2.2 h1;omega
 ·exact h
theorem num_cl(m:Nat)(b:List UInt8)(a:Nat)(A:A4)(h:RD m b a A)(w:Int):
  CallF PP 243 #[.p m,.i w] A fun r L'=>r= .t #[.i (V5 b a w).1,.i (V5 b a w).2]/\RD m b (A98 b a w) L':=by
 obtain⟨s,seg,rfl,own,ha,hl⟩:=h;refine(e243 (some m.z) w).c ?_;have aT:BSl ((m,Obj.cells #[.slice s.a s.len s.cap,.i a] 389)::seg) s b:=own.sl.cons;refine ifF rfl (A5 rfl (A5 rfl (A6 s (ldB Dq7 rfl) (A6 (a:Int) (ldB Dq7 rfl) ?_))));have hr:=Aj3 b a w;have hn:=Ci8 (w:=w) ha;unfold A98 at hn⊢;refine B5 (Bd1 _ s b aT (by omega) a w) ((V5 b a w).1,(V5 b a w).2,()) rfl ?_;generalize V5 b a w=g at hr hn⊢;refine Ac2 (fun(he:g.2=0)=>?_) (fun(he:g.2≠0)=>.of ⟨rfl,by rw[Dq4 he];exact⟨s,seg,rfl,own,ha,hl⟩⟩);obtain⟨u,rfl⟩: ∃u:Nat,w=u:=⟨w.toNat,by have:=hr.2.2.2 he;omega⟩;have h7:=hr.2.2.2 he;have hw:IntKind.i64.wrap ((a:Int)+u)=((a+u:Nat):Int):=by rw[C1 (by omega) (by omega)];omega
 refine A5 rfl (A6 (a:Int) (ldB Dq7 rfl) (A5 rfl (E4 [] seg rfl rfl (by simp) (.inl (Dq6 _)) #[.slice s.a s.len s.cap,.i ((a+u:Nat):Int)] (by rw[hw];rfl) (.of ⟨rfl,?_⟩))));rw[Dq5 he,Dr0]at hn⊢;exact⟨s,seg,rfl,own,hn,hl⟩
theorem Cn1(m:Nat)(b:List UInt8)(a:Nat)(A:A4)(h:RD m b a A):Reads PP 242 #[.p m] A (.i ((b.length:Int)-a)):=by
 obtain⟨s,seg,rfl,own,ha,hl⟩:=h;refine(e242 (some m.z)).r ?_;have hC:=own.sl.len;rw[E5,Dt8]at hC;refine ifF rfl (A5 rfl (A5 rfl (A6 s (ldB Dq7 rfl) (A6 (a:Int) (ldB Dq7 rfl) (.of ⟨?_,rfl⟩)))));rw[hC,C1 (by omega) (by omega)]
def F8(b:List UInt8)(a:Nat):List UInt8×Nat×Int:=
 if(V5 b a 4).2≠0 then([],a,(V5 b a 4).2)else if 65536<(V5 b a 4).1 then([],a,4)else if(b.length:Int)<a+4+(V5 b a 4).1 then([],a,6)
 else((b.drop (a+4)).take (V5 b a 4).1.toNat,a+4+(V5 b a 4).1.toNat,0)
def Df7(l:List UInt8):Value:=.w ⟨l.toArray⟩
theorem B75{L:A4}{s:SlV}{b:List UInt8}(h:BSl L s b){i j:Nat}(h1:i<=j)(h2:j<=b.length):BSl L (Q0 s i j s.cap 1) ((b.drop i).take (j-i)):=by
 have hl:=h.len;have hc:=h.cap;have:=Sl.slc (m:=s.cap) h (by omega) h1 (by omega) (by omega)
 rwa [Ai9]at this
theorem Cf2(m:Nat)(b:List UInt8)(a:Nat)(A:A4)(h:RD m b a A):
  CallF PP 241 #[.p m] A fun r L'=>r= .t #[Df7 (F8 b a).1,.i (F8 b a).2.2]/\RD m b (F8 b a).2.1 L':=by
 obtain⟨s,seg,rfl,own,ha,hl⟩:=h;refine(e241 (some m.z)).c ?_;have aT: ∀{o:Obj},BSl ((m,o)::seg) s b:=own.sl.cons;have hC:=own.sl.len;rw[E5,Dt8]at hC;have aU:=own.cap;refine ifF rfl (A5 rfl (A5 rfl (A6 s (ldB Dq7 rfl) (A6 (a:Int) (ldB Dq7 rfl) ?_))));have hr:=Aj3 b a 4;unfold F8;refine B5 (Bd1 _ s b aT (by omega) a 4) ((V5 b a 4).1,(V5 b a 4).2,()) rfl ?_;generalize V5 b a 4=g at hr⊢;refine P0 (fun(he:g.2≠0)=>.of ?_) (fun(he:g.2=0)=>?_)
 ·rw[Dq5 he];exact⟨rfl,s,seg,rfl,own,ha,hl⟩
 have h4:=hr.2.2.2 he;have hw:IntKind.i64.wrap ((a:Int)+4)=((a+4:Nat):Int):=by rw[C1 (by omega) (by omega)];omega
 rw[Dq4 (by omega)];refine A5 rfl (A6 (a:Int) (ldB Dq7 rfl) ?_);simp only[hw];refine C0 (fun(h5:g.1>65536)=>.of ?_) (fun(h5: ¬g.1>65536)=>?_)
 ·rw[Dq5 h5];exact⟨rfl,s,seg,rfl,own,ha,hl⟩
 rw[Dq4 h5];refine A5 rfl (A6 s (ldB Dq7 rfl) ?_);rw[C1 (n:=(s.len:Int)-((a+4:Nat):Int)) (by omega) (by omega)];refine C0 (fun(h6:g.1>(s.len:Int)-((a+4:Nat):Int))=>.of ?_) (fun(h6: ¬g.1>(s.len:Int)-((a+4:Nat):Int))=>?_)
 ·rw[Dq5 (by omega)];exact⟨rfl,s,seg,rfl,own,ha,hl⟩
 rw[Dq4 (by omega)];obtain⟨u,hu⟩: ∃u:Nat,g.1=u:=⟨g.1.toNat,by omega⟩;have nZ:IntKind.i64.wrap (((a+4:Nat):Int)+g.1)=((a+4+u:Nat):Int):=by rw[hu,C1 (by omega) (by omega)];omega
 rw[nZ,hu,Dr0];refine A5 rfl (E4 [] seg rfl rfl (by simp) (.inl (Dq6 _)) #[.slice s.a s.len s.cap,.i ((a+4+u:Nat):Int)] rfl ?_);refine A5 rfl (A5 rfl (A6 s (ldB Dq7 rfl) (A6 ((a+4+u:Nat):Int) (ldB Dq7 rfl) ?_)));refine K7 (l':=a+4) (h':=a+4+u) (m':=s.cap) rfl rfl rfl (by omega) (by omega) (Dq6 _) ?_;have hc:=B75 (aT (o:=Obj.cells #[.slice s.a s.len s.cap,.i ((a+4+u:Nat):Int)] 389)) (i:=a+4) (j:=a+4+u) (by omega) (by omega);rw[show a+4+u-(a+4)=u by omega]at hc;exact Bv0 hc (.of ⟨rfl,s,seg,rfl,own,(show a+4+u<=b.length by omega),hl⟩)
abbrev Tab(L:A4):Prop:=C9 ⟨0,0,none⟩ [.i 1,.i 2,.i 4,.i 8] L
theorem Tab.mono{A L:A4}(h:Tab A)(hs: ∀p∈A,p∈L):Tab L:=C9.mono h hs
theorem Tab.cons{L:A4}{p:Nat×Obj}(h:Tab L):Tab (p::L):=C9.mono h fun _ hp=>Dr6 _ hp
def Bl2:List Int->Int->Int->Int
 |[],_,_=>0
 |k::r,n,p=>if k≥n/\k<=p-2 then k else Bl2 r n p
def cls(n p:Int):Int:=if n<1\/p<2 then 0 else Bl2 [1,2,4,8] n p
theorem C73(L:A4)(hT:Tab L)(n p:Int)(hp:p<=9223372036854775807):Reads PP 108 #[.i n,.i p] L (.i (cls n p)):=by
 refine(e108 n p).r ?_;unfold cls;refine C0 (fun(h1:n<1)=>.of ⟨by rw[Dq5 (.inl h1)],rfl⟩) (fun(h1: ¬n<1)=>?_);refine C0 (fun(h2:p<2)=>.of ⟨by rw[Dq5 (.inr h2)],rfl⟩) (fun(h2: ¬p<2)=>?_);rw[Dq4 (by omega)];refine A6 (1,2,4,8,()) hT ?_;refine G7 (fun z' z L'=>L'=L/\ ∃i:Nat,i<=4/\z'=4-i/\z=((i:Int),())/\Bl2 (([1,2,4,8]:List Int).drop i) n p=Bl2 [1,2,4,8] n p) 4 ⟨rfl,0,by omega,by omega,rfl,rfl⟩ ?_;rintro z' z L1 ⟨eX,i,hi,rfl,rfl,hc⟩;rw[eX];have hw:IntKind.i64.wrap (p-2)=p-2:=C1 (by omega) (by omega);refine C0 (fun(hO:(i:Int)<4)=>?_) (fun(aS: ¬(i:Int)<4)=>?_)
 ·obtain⟨k,r,dT,dI,zE⟩: ∃(k:Int) (r:List Int),([1,2,4,8]:List Int).drop i=k::r/\(∀w,(Instr.index 266 (.agg #[.i 1,.i 2,.i 4,.i 8]) (.i (i:Int))).run PP w= .ok (.i k) w)/\([1,2,4,8]:List Int).drop (i+1)=r:=by
   have h4:i=0\/i=1\/i=2\/i=3:=by omega
   rcases h4 with rfl|rfl|rfl|rfl
   ·exact⟨1,[2,4,8],rfl,fun w=>by kernel_rfl,rfl⟩
   ·exact⟨2,[4,8],rfl,fun w=>by kernel_rfl,rfl⟩
   ·exact⟨4,[8],rfl,fun w=>by kernel_rfl,rfl⟩
   ·exact⟨8,[],rfl,fun w=>by kernel_rfl,rfl⟩
  rw[dT,show Bl2 (k::r) n p=(if k≥n/\k<=p-2 then k else Bl2 r n p)from rfl]at hc;have oJ: ¬(k≥n/\k<=p-2)-> ∃k',k'<4-i/\L=L/\ ∃j:Nat,j<=4/\k'=4-j/\((IntKind.i64.wrap ((i:Int)+1),()):Int×Unit)=((j:Int),())/\Bl2 (([1,2,4,8]:List Int).drop j) n p=Bl2 [1,2,4,8] n p:=by
   intro hn;refine⟨4-(i+1),by omega,rfl,i+1,by omega,rfl,?_,?_⟩
   ·rw[C1 (by first|omega|(simp only;omega)) (by first|omega|(simp only;omega))];rfl
   ·rw[zE];rw[Dq4 hn]at hc;exact hc
  refine⟨k,dI,?_⟩;simp only[hw];refine C0 (fun(h3:k≥n)=>?_) (fun(h3: ¬k≥n)=>oJ fun h=>h3 h.1);refine C0 (fun(h4:k<=p-2)=>.of ⟨?_,rfl⟩) (fun(h4: ¬k<=p-2)=>oJ fun h=>h4 h.2);rw[Dq5 ⟨h3,h4⟩]at hc;rw[hc]
 ·obtain rfl:i=4:=by omega
  refine .of ⟨?_,rfl⟩;rw[<-hc];rfl
theorem Do6(n p:Int):0<=cls n p/\cls n p<=8:=by
 unfold cls;split
 ·exact⟨by decide,by decide⟩
 ·simp only[Bl2]
  repeat' split
  all_goals omega
theorem cls_ge{n p:Int}(h:cls n p≠0):n<=cls n p/\cls n p<=p-2/\1<=cls n p/\cls (cls n p) p=cls n p:=by
 unfold cls at h;split at h
 ·exact absurd rfl h
 ·rename_i h0;have hc:cls n p=Bl2 [1,2,4,8] n p:=by unfold cls;rw[Dq4 h0]
  rw[hc];simp only[Bl2]at h⊢;split at h
  ·rename_i h1;rw[Dq5 h1];exact⟨h1.1,h1.2,by decide,by unfold cls;rw[Dq4 (by omega)];simp only[Bl2];rw[Dq5 (by omega)]⟩
  ·rename_i h1;rw[Dq4 h1];split at h
   ·rename_i h2;rw[Dq5 h2];exact⟨h2.1,h2.2,by decide,by unfold cls;rw[Dq4 (by omega)];simp only[Bl2];rw[Dq4 (by omega),Dq5 (by omega)]⟩
   ·rename_i h2;rw[Dq4 h2];split at h
    ·rename_i h3;rw[Dq5 h3];exact⟨h3.1,h3.2,by decide,by unfold cls;rw[Dq4 (by omega)];simp only[Bl2];rw[Dq4 (by omega),Dq4 (by omega),Dq5 (by omega)]⟩
    ·rename_i h3;rw[Dq4 h3];split at h
     ·rename_i h4;rw[Dq5 h4];exact⟨h4.1,h4.2,by decide,by unfold cls;rw[Dq4 (by omega)];simp only[Bl2];rw[Dq4 (by omega),Dq4 (by omega),Dq4 (by omega),Dq5 (by omega)]⟩
     ·exact absurd rfl h
theorem Bh1(L:A4)(n:Int):Reads PP 107 #[.i n] L (.b (decide (1<=n/\n<=255))):=by
 refine(e107 n).r ?_;refine C0 (fun(h:n≥1)=>.of ⟨?_,rfl⟩) (fun(h: ¬n≥1)=>.of ⟨by rw[Ds7 (by omega)],rfl⟩);congr 1;rw[D81];omega
abbrev Cf:=Int×Int×Int×Int×Unit
def F9(key value:Int)(c:Cf):Int:=
 if key<1\/key>255\/value<0\/value>65536\/B7 c.2.2.1=0 then 0 else cls ((key+value+12+B7 c.2.2.1-1)/B7 c.2.2.1) c.2.1
theorem V2{n:Int}(h:B7 n≠0):48<=B7 n/\B7 n<=496:=by
 unfold B7 at h⊢;split at h
 ·rename_i h1;rw[Dq5 h1];omega
 ·exact absurd rfl h
theorem B45(L:A4)(hT:Tab L)(key value:Int)(c:Cf)(hc:c.2.1<=9223372036854775807):Reads PP 47 #[.i key,.i value,.agg (ki4 c)] L (.i (F9 key value c)):=by
 refine(e47 key value c).r ?_;refine C4 fun n1 _=>?_;generalize ho:(n1,Obj.cells (ki4 c) 23)=o1;have lc:C9 n1.z [.i c.1,.i c.2.1,.i c.2.2.1,.i c.2.2.2.1] (o1::L):=ldB (by rw[<-ho];exact Dq7) rfl;clear ho;refine A6 c.2.2.1 (lc.one 2 rfl) (B5 (Aj8 _ c.2.2.1) (B7 c.2.2.1,()) rfl (B5 (Bh1 _ key) (decide (1<=key/\key<=255),()) rfl ?_));have bF:(key<1\/key>255\/value<0\/value>65536\/B7 c.2.2.1=0)->HL.Ends (fun v' L'=>v'=Value.i (F9 key value c)/\L'=L) (.i 0) (o1::L):=fun h=>.cons (.of ⟨by unfold F9;rw[Dq5 h],rfl⟩);by_cases hk:1<=key/\key<=255
 case neg=>rw[Ds7 hk];exact ifT rfl (bF (by omega))
 rw[Dt2 hk];refine ifF rfl (C0 (fun(h1:value<0)=>bF (by omega)) (fun(h1: ¬value<0)=>C0 (fun(h2:value>65536)=>bF (by omega)) (fun(h2: ¬value>65536)=>?_)));refine Ac2 (fun(h3:B7 c.2.2.1=0)=>bF (by omega)) (fun(h3:B7 c.2.2.1≠0)=>Ad8 h3 ?_);have hr:=V2 h3;have hp:F9 key value c=cls ((key+value+12+B7 c.2.2.1-1)/B7 c.2.2.1) c.2.1:=by unfold F9;rw[Dq4 (by omega)]
 have e1:IntKind.i64.wrap (key+value)=key+value:=C1 (by omega) (by omega);have e2:IntKind.i64.wrap (key+value+12)=key+value+12:=C1 (by omega) (by omega);have e3:IntKind.i64.wrap (key+value+12+B7 c.2.2.1)=key+value+12+B7 c.2.2.1:=C1 (by omega) (by omega);have e4:IntKind.i64.wrap (key+value+12+B7 c.2.2.1-1)=key+value+12+B7 c.2.2.1-1:=C1 (by omega) (by omega);have e5:Int.tdiv (key+value+12+B7 c.2.2.1-1) (B7 c.2.2.1)=(key+value+12+B7 c.2.2.1-1)/B7 c.2.2.1:=Ee5 (by omega);have e6:IntKind.i64.wrap ((key+value+12+B7 c.2.2.1-1)/B7 c.2.2.1)=(key+value+12+B7 c.2.2.1-1)/B7 c.2.2.1:=by
  have h1:=Int.ediv_le_self (B7 c.2.2.1) (show 0<=key+value+12+B7 c.2.2.1-1 by omega);have h2:=Int.ediv_nonneg (show 0<=key+value+12+B7 c.2.2.1-1 by omega) (show 0<=B7 c.2.2.1 by omega);exact C1 (by omega) (by omega)
 simp only[e1,e2,e3,e4,e5,e6];refine A6 c.2.1 (lc.one 1 rfl) (B5 (C73 _ hT.cons _ c.2.1 hc) (cls ((key+value+12+B7 c.2.2.1-1)/B7 c.2.2.1) c.2.1,()) rfl (.cons (.of ⟨by rw[hp],rfl⟩)))
theorem Dm9(n:Nat)(hn:n<=1099511627776):CallF PP 290 #[.slice none 0 0,.i n] [] fun r L'=> ∃(s:SlV) (seg:A4),r= .slice s.a s.len s.cap/\L'=seg/\Own s 1 eB [] seg:=by
 refine(e290 ⟨none,0,0⟩ n).c ?_;refine W2 (fun y L'=>L'=[]) ?_ (fun j hj=>ifN (show¬(n:Int)<0 by omega) (hj _ _ rfl));rintro _ _ rfl;have e0:IntKind.i64.wrap (((0:Nat):Int)-((0:Nat):Int))=0:=by decide
 have e1:IntKind.i64.wrap ((n:Int)-0)=n:=C1 (by omega) (by omega);simp only[e0,e1];refine C0 (fun(h:(n:Int)>0)=>?_) (fun(h: ¬(n:Int)>0)=>.of ⟨⟨none,0,0⟩,[],rfl,rfl,F6⟩);refine K7 (l':=0) (h':=0) (m':=0) rfl rfl rfl (by decide) (by decide) (by decide) ?_;have dH:Q0 ⟨none,0,0⟩ ((0:Nat):Int) ((0:Nat):Int) ((0:Nat):Int) 1=⟨none,0,0⟩:=by simp[Q0]
 rw[dH];refine C55 (n:=n) (ik:=.i64) Ar2 (by kernel_rfl) (by omega) (by omega) fun q cap ob aU own=>?_;refine K7 (l':=0) (h':=0) (m':=cap) rfl rfl rfl (by omega) (by omega) (Dq6 _) ?_;have hs:Q0 ⟨some q.z,n,cap⟩ ((0:Nat):Int) ((0:Nat):Int) (cap:Int) 1=⟨some q.z,0,cap⟩:=by
  simp only[Q0];rw[Dq4 (by omega)];simp[Addr.add]
 rw[hs];exact .of ⟨⟨some q.z,0,cap⟩,[(q,ob)],rfl,rfl,own⟩
theorem Ct2(A:A4)(v:SlV)(l:List PV)(h:Z0 A v l)(hb:(Al6 l).length<=1099511627776)(hl:l.length<=1099511627776):
  CallF PP 233 #[.slice v.a v.len v.cap] A fun r L'=> ∃(s:SlV) (seg:A4),r= .slice s.a s.len s.cap/\L'=seg++A/\Own s 1 eB (bvs (Al6 l)) seg:=by
 refine(e233 v).c ?_;have hC:=h.len;refine G7 (fun z' z L'=>L'=A/\ ∃i:Nat,i<=l.length/\z'=l.length-i/\z=(((Al6 (l.take i)).length:Int),(i:Int),())) l.length ⟨rfl,0,by omega,by omega,rfl⟩ ?_;rintro z' z L1 ⟨eX,i,hi,rfl,rfl⟩;rw[eX];refine C0 (fun(hO:(i:Int)<(v.len:Int))=>?_) (fun(aS: ¬(i:Int)<(v.len:Int))=>?_)
 ·have hJ:i<l.length:=by omega
  obtain⟨a,ha,cD⟩:=h.at' hJ;have dD:=(h.val _ (Dr7 hJ)).len;have hs:=Bu1 l hJ;have bS:=Aw5 l (i+1);have aT:(Al6 (l.take (i+1))).length=(Al6 (l.take i)).length+l[i].1.len:=by rw[hs,Dr4,dD]
  refine A5 ha (D9 (show(0:Int)<=(i:Int) by omega) hO (A6 l[i].1 cD ?_));have e1:IntKind.i64.wrap (((Al6 (l.take i)).length:Int)+(l[i].1.len:Int))=((Al6 (l.take (i+1))).length:Int):=by rw[C1 (by omega) (by omega),aT];omega
  simp only[e1];refine ifN (show¬((Al6 (l.take (i+1))).length:Int)<0 by omega) ⟨l.length-(i+1),by omega,rfl,i+1,by omega,rfl,?_⟩;rw[C1 (by first|omega|(simp only;omega)) (by first|omega|(simp only;omega))];rfl
 ·obtain rfl:i=l.length:=by omega
  rw[Ds9];refine K1 [] A (Dm9 (Al6 l).length hb) rfl ?_;rintro _ seg0-⟨s0,_,rfl,rfl,own0⟩;refine⟨(s0,()),rfl,?_⟩;rw[Ds1];refine G7 (fun z' z L'=> ∃(i:Nat) (s:SlV) (seg:A4),i<=l.length/\z'=l.length-i/\z=(s,(i:Int),())/\L'=seg++A/\Own s 1 eB (bvs (Al6 (l.take i))) seg) l.length ⟨0,s0,seg0,by omega,by omega,rfl,rfl,own0⟩ ?_;rintro z' z _ ⟨i,s,seg,hi,rfl,rfl,rfl,own⟩;refine C0 (fun(hO:(i:Int)<(v.len:Int))=>?_) (fun(aS: ¬(i:Int)<(v.len:Int))=>?_)
  ·have hJ:i<l.length:=by omega
   obtain⟨a,ha,cD⟩:=h.at' hJ;have dD:=(h.val _ (Dr7 hJ)).len;have hs:=Bu1 l hJ;have bS:=Aw5 l (i+1);have aT:(Al6 (l.take (i+1))).length=(Al6 (l.take i)).length+l[i].1.len:=by rw[hs,Dr4,dD]
   have lL:=own.sl.len;rw[E5]at lL;refine A5 ha (D9 (show(0:Int)<=(i:Int) by omega) hO (A6 l[i].1 (cD.mono fun x hx=>Du2 _ hx) ?_));refine E6 Ar2 Cy4 [] A own rfl (.sl (Sl.right (h.val _ (Dr7 hJ)))) (L8 _) (by omega) fun s' seg' cC own'=>?_;rw[<-Ak9,<-hs]at own';refine⟨l.length-(i+1),by omega,i+1,s',seg',by omega,rfl,?_,rfl,own'⟩;rw[C1 (by first|omega|(simp only;omega)) (by first|omega|(simp only;omega))];rfl
  ·obtain rfl:i=l.length:=by omega
   rw[Ds9]at own;exact .of ⟨s,seg,rfl,rfl,own⟩
theorem A41(A:A4)(v:SlV)(l:List PV)(h:Z0 A v l)(hb:(Al6 l).length<=1099511627776)(hl:l.length<=1099511627776):
  CallF PP 178 #[.slice v.a v.len v.cap] A fun r L'=> ∃(s:SlV) (seg:A4),r= .slice s.a s.len s.cap/\L'=seg++A/\Own s 1 eB (bvs (Al6 l)) seg:=by
 refine(e178 v).c ?_;refine K1 [] [] (Ct2 A v l h hb hl) (by simp) ?_;rintro _ _-⟨s,seg,rfl,rfl,own⟩;refine⟨(s,()),rfl,?_⟩;rw[Ds1,Dr3];exact .of ⟨s,seg,rfl,rfl,own⟩
def Ao0(key val:List UInt8):List UInt8:=N4 key.length 4++key++(N4 val.length 4++val)
def Bj3(key val:List UInt8):List UInt8:=Ao0 key val++N4 (G3 (Ao0 key val)).toNat 4
theorem Bj1(key val:List UInt8):(Ao0 key val).length=key.length+val.length+8:=by
 unfold Ao0;simp only[Dr4,Q1];omega
theorem Bj2(key val:List UInt8):(Bj3 key val).length=key.length+val.length+12:=by
 unfold Bj3;rw[Dr4,Bj1,Q1]
def Y4(n r:Nat)(b:List UInt8):List (List UInt8):=(List.range n).map fun i=>(b.drop (i*r)).take r
theorem A62(n r:Nat)(b:List UInt8):Y4 (n+1) r b=Y4 n r b++[(b.drop (n*r)).take r]:=by simp[Y4,D41]
def J5(key val:List UInt8)(c:Cf):List (List UInt8)×Int:=
 if key.length<1\/key.length>255 then([],2)else if val.length>65536 then([],4)else
 if F9 key.length val.length c=0 then([],14)else(Y4 (F9 key.length val.length c).toNat (B7 c.2.2.1).toNat (Bj3 key val),0)
def Dq2(key val:List UInt8)(c:Cf)(A:A4)(r:Value)(L':A4):Prop:= ∃(ov:SlV) (oseg:A4) (gs:List PG),r= .t #[.slice ov.a ov.len ov.cap,.i (J5 key val c).2]/\L'=oseg++(pgs gs++A)/\Own ov 1 tB (gs.map PG.val) oseg/\(∀g∈gs,g.Ok)/\gs.map PG.l=(J5 key val c).1
theorem Dq2.err{key val:List UInt8}{c:Cf}{A:A4}{e:Int}(h:J5 key val c=([],e)):Dq2 key val c A (.t #[.slice none 0 0,.i e]) A:=
 ⟨⟨none,0,0⟩,[],[],by rw[h],rfl,F6,by simp,by rw[h];rfl⟩
theorem Aa1{key value:Int}{c:Cf}(h:F9 key value c≠0):1<=key/\key<=255/\0<=value/\value<=65536/\B7 c.2.2.1≠0/\1<=F9 key value c/\F9 key value c<=8/\F9 key value c<=c.2.1-2/\key+value+12<=F9 key value c*B7 c.2.2.1/\cls (F9 key value c) c.2.1=F9 key value c:=by
 unfold F9 at h⊢;split at h
 ·exact absurd rfl h
 ·rename_i h0;rw[Dq4 h0];obtain⟨h1,h2,h3,h4⟩:=cls_ge h;have h5:=Do6 ((key+value+12+B7 c.2.2.1-1)/B7 c.2.2.1) c.2.1;have hr:=V2 (show B7 c.2.2.1≠0 by omega);refine⟨by omega,by omega,by omega,by omega,by omega,h3,h5.2,h2,?_,h4⟩;generalize B7 c.2.2.1=room at*;generalize hq:(key+value+12+room-1)/room=q at*;have eI:key+value+12+room-1<(q+1)*room:=by rw[<-hq];exact Int.lt_ediv_add_one_mul_self _ (by omega)
  rw[Dw3,Int.one_mul]at eI;have:=D08 h1 (show 0<=room by omega);omega
theorem A87(s:ByteArray):s.data.toList.length=s.size:=Cg6 s
theorem Dd4(A:A4)(hT:Tab A)(key:ByteArray)(hk:key.size<=maxLen)(u:SlV)(val:List UInt8)(hu:BSl A u val)(c:Cf)(hc:c.2.1<=9223372036854775807):
  CallF PP 111 #[.w key,.slice u.a u.len u.cap,.agg (ki4 c)] A (Dq2 key.data.toList val c A):=by
 refine(e111 key u c).c ?_;have eZ:=hu.len;have jX:=A87 key;refine C4 fun n1 _=>?_;generalize ho:(n1,Obj.cells (ki4 c) 23)=o1;have lc: ∀L:A4,o1∈L->C9 n1.z [.i c.1,.i c.2.1,.i c.2.2.1,.i c.2.2.2.1] L:=fun L hm=>ldB (by rw[<-ho]at hm;exact hm) rfl;clear ho;refine B5 (Bh1 _ key.size) (decide (1<=(key.size:Int)/\(key.size:Int)<=255),()) rfl ?_;by_cases h1:1<=(key.size:Int)/\(key.size:Int)<=255
 case neg=>
  rw[Ds7 h1];exact ifT rfl (.cons (.of (Dq2.err (by unfold J5;rw[Dq5 (by omega)]))))
 rw[Dt2 h1];refine ifF rfl (C0 (fun(h2:(u.len:Int)>65536)=>.cons (.of (Dq2.err (by unfold J5;rw[Dq4 (by omega),Dq5 (by omega)])))) (fun(h2: ¬(u.len:Int)>65536)=>?_));have kG:F9 (key.size:Int) (u.len:Int) c=F9 (key.data.toList.length:Int) (val.length:Int) c:=by rw[jX,eZ]
 refine A6 c (lc _ Dq7) (B5 (B45 _ hT.cons key.size u.len c hc) (F9 key.size u.len c,()) rfl ?_);rw[kG];refine Ac2 (fun(h3:F9 (key.data.toList.length:Int) (val.length:Int) c=0)=>.cons (.of (Dq2.err (by unfold J5;rw[Dq4 (by omega),Dq4 (by omega),Dq5 h3])))) (fun(h3:F9 (key.data.toList.length:Int) (val.length:Int) c≠0)=>?_);have uX:J5 key.data.toList val c=(Y4 (F9 key.data.toList.length val.length c).toNat (B7 c.2.2.1).toNat (Bj3 key.data.toList val),0):=by unfold J5;rw[Dq4 (by omega),Dq4 (by omega),Dq4 h3]
 obtain⟨_,_,_,_,pT,nI,ch,_,sH,_⟩:=Aa1 h3;have bn:=V2 pT;unfold Dq2;rw[uX];generalize hN:F9 (key.data.toList.length:Int) (val.length:Int) c=N at nI ch sH;obtain⟨n,rfl⟩: ∃n:Nat,N=n:=⟨N.toNat,by omega⟩;obtain⟨room,hZ⟩: ∃r:Nat,B7 c.2.2.1=r:=⟨(B7 c.2.2.1).toNat,by omega⟩;rw[hZ]at bn;simp only[hZ,Dr0];refine K1 [] [] (Ce5 (o1::A) ⟨none,0,0⟩ [] (Sl.nil 1) (by decide) key hk) (by simp) ?_;rintro _ _-⟨s1,sg1,rfl,rfl,own1⟩;have iM:Cv8 [] key=(N4 key.data.toList.length 4++key.data.toList,0):=by unfold Cv8;rw[Dq4 (by omega),jX];rfl
 rw[iM]at own1⊢;rw[Ds1,Dr3];refine⟨(s1,0,()),rfl,Bv0 (v:=u) (l:=val) (Sl.right (R:=sg1) (Sl.cons hu)) ?_⟩;have kF:(ByteArray.mk val.toArray).size=val.length:=by show val.toArray.size=_;simp
 refine K1 [] [] (Ce5 (sg1++(o1::A)) ⟨none,0,0⟩ [] (Sl.nil 1) (by decide) ⟨val.toArray⟩ (by rw[kF];show val.length<=9223372036854775807;omega)) (by simp) ?_;rintro _ _-⟨s2,sg2,rfl,rfl,own2⟩;have nZ:Cv8 [] ⟨val.toArray⟩=(N4 val.length 4++val,0):=by
  unfold Cv8;rw[kF,Dq4 (by omega)];simp
 rw[nZ]at own2⊢;rw[Ds1,Dr3];refine⟨(s2,0,()),rfl,C4 fun n2 _=>?_⟩;have gD:Z0 ((n2,Obj.cells #[.slice s1.a s1.len s1.cap,.slice s2.a s2.len s2.cap] 27)::(sg2++(sg1++(o1::A)))) ⟨some n2.z,2,2⟩ [(s1,N4 key.data.toList.length 4++key.data.toList),(s2,N4 val.length 4++val)]:=by
  refine⟨⟨rfl,Dq6 _,.inr ⟨_,rfl,ldB Dq7 rfl⟩⟩,fun x hx=>?_⟩;have aX:x=(s1,N4 key.data.toList.length 4++key.data.toList)\/x=(s2,N4 val.length 4++val):=by simpa using hx
  rcases aX with rfl|rfl
  ·exact own1.sl.left.right.cons
  ·exact own2.sl.left.cons
 have eL:Al6 [((s1,N4 key.data.toList.length 4++key.data.toList):PV),(s2,N4 val.length 4++val)]=Ao0 key.data.toList val:=by simp[Al6,Ao0]
 have wJ:=Bj1 key.data.toList val;refine K1 [] [] (A41 _ ⟨some n2.z,2,2⟩ _ gD (by rw[eL];omega) (by simp)) (by simp) ?_;rintro _ _-⟨s3,sg3,rfl,rfl,own3⟩;rw[eL]at own3;rw[Ds1,Dr3];refine⟨(s3,()),rfl,?_⟩;generalize (n2,Obj.cells #[.slice s1.a s1.len s1.cap,.slice s2.a s2.len s2.cap] 27)=o2;refine B5 (Cf7 _ s3 (Ao0 key.data.toList val) own3.sl.left (by omega)) (G3 (Ao0 key.data.toList val),()) rfl ?_;have eK:0<=G3 (Ao0 key.data.toList val)/\G3 (Ao0 key.data.toList val)<4294967296:=Q8 0 _;refine K1 [] [] (Bd0 (sg3++(o2::(sg2++(sg1++(o1::A))))) s3 (Ao0 key.data.toList val) own3.sl.left (by omega) (G3 (Ao0 key.data.toList val)) 4 (by omega)) (by simp) ?_;rintro _ _-⟨s4,sg4,rfl,rfl,own4⟩;have au:Az7 (Ao0 key.data.toList val) (G3 (Ao0 key.data.toList val)) 4=(Bj3 key.data.toList val,0):=by
  rw[Am7 (by decide) (by omega) (by show(G3 (Ao0 key.data.toList val)).toNat<4294967296;omega)];rfl
 rw[au]at own4⊢;rw[Ds1,Dr3];refine⟨(s4,0,()),rfl,?_⟩;have cE:=Bj2 key.data.toList val;generalize Bj3 key.data.toList val=E at own4 cE;have vF: ∃J0,sg4++(sg3++(o2::(sg2++(sg1++(o1::A)))))=J0++A/\o1∈J0/\BSl J0 s4 E:=⟨sg4++(sg3++(o2::(sg2++(sg1++[o1])))),by simp,by simp,own4.sl.left⟩;obtain⟨J0,eb,dP,hE0⟩:=vF;rw[eb];clear eb own4 own3 own2 own1 gD eL wJ eK au iM nZ;refine G7 (fun z' z L'=> ∃(i:Nat) (s v:SlV) (seg:A4) (gs:List PG) (J X Y:A4),i<=n/\z'=n-i/\z=(s,v,(i:Int),())/\L'=X++seg++Y/\(X++Y).Perm (pgs gs++(J++(J0++A)))/\BSl J0 s (E.drop (i*room))/\
   Own v 1 tB (gs.map PG.val) seg/\(∀g∈gs,g.Ok)/\gs.map PG.l=Y4 i room E) n
  ⟨0,s4,⟨none,0,0⟩,[],[],[],[],J0++A,by omega,by omega,rfl,rfl,Dq8 _,by rw[Dz2,D06];exact hE0,F6,by simp,rfl⟩ ?_
 rintro z' z L ⟨i,s,v,seg,gs,J,X,Y,hi,rfl,rfl,rfl,hp,hs,own,aA,gW⟩;have aV: ∀x∈J0,x∈X++seg++Y:=by
  intro x hx;have h5:x∈X++Y:=(hp.mem_iff (a:=x)).2 (by simp[hx]);have h6:x∈X\/x∈Y:=by simpa using h5
  rcases h6 with h6|h6<;>simp[h6]
 have dL:gs.length=i:=by have:=congrArg List.length gW;rw[Dr1,Y4,Dr1,D16]at this;exact this
 have cR:=own.len;rw[Dr1]at cR;refine C0 (fun(hO:(i:Int)<(n:Int))=>?_) (fun(aS: ¬(i:Int)<(n:Int))=>?_)
 ·refine A6 c.2.2.1 ((lc _ (aV _ dP)).one 2 rfl) (B5 (Aj8 _ c.2.2.1) (B7 c.2.2.1,()) rfl ?_);rw[hZ];have aT:=hs.len;have sT:=hs.cap;have gL:Ad3 (s.len:Int) (room:Int)=((min s.len room:Nat):Int):=by unfold Ad3;omega
  simp only[gL];have hsL:BSl (X++seg++Y) s (E.drop (i*room)):=Sl.mono hs aV;refine K7 (l':=0) (h':=min s.len room) (m':=s.cap) rfl rfl rfl (by omega) (by omega) (Dq6 _) ?_;have aR:=B75 hsL (i:=0) (j:=min s.len room) (by omega) (by omega);have mT:((E.drop (i*room)).drop 0).take (min s.len room-0)=(E.drop (i*room)).take room:=by
   rw[D06,Dx4,aT,Nat.min_comm];exact(List.take_eq_take_min).symm
  rw[mT]at aR;generalize Q0 s ((0:Nat):Int) ((min s.len room:Nat):Int) (s.cap:Int) 1=c1 at aR⊢;refine C4 fun n3 _=>?_;have gD:Z0 ((n3,Obj.cells #[.slice c1.a c1.len c1.cap] 27)::(X++seg++Y)) ⟨some n3.z,1,1⟩ [(c1,(E.drop (i*room)).take room)]:=by
   refine⟨⟨rfl,Dq6 _,.inr ⟨_,rfl,ldB Dq7 rfl⟩⟩,fun x hx=>?_⟩;have aX:x=(c1,(E.drop (i*room)).take room):=by simpa using hx
   subst aX;exact Sl.cons aR
  have eL:Al6 [((c1,(E.drop (i*room)).take room):PV)]=(E.drop (i*room)).take room:=by simp[Al6]
  refine K1 [] [] (A41 _ ⟨some n3.z,1,1⟩ _ gD (by rw[eL,Ds0];omega) (by simp)) (by simp) ?_;rintro _ _-⟨s9,sg9,rfl,rfl,own9⟩;rw[eL]at own9;rw[Ds1,Dr3];refine⟨(s9,()),rfl,C4 fun n4 _=>?_⟩;generalize (n3,Obj.cells #[.slice c1.a c1.len c1.cap] 27)=o3;refine E6 Bt1 Cy3 ((n4,Obj.cells #[.slice s9.a s9.len s9.cap] 27)::(sg9++(o3::X))) Y own (by simp) (n:=1) (ws:=[PG.val ⟨s9,sg9,(E.drop (i*room)).take room⟩]) (x:=.slice (some n4.z) 1 1) (Src.sl (v:=⟨some n4.z,1,1⟩) ⟨rfl,Dq6 _,.inr ⟨_,rfl,ldB Dq7 rfl⟩⟩) rfl (by omega) fun v8 seg8 xA own8=>?_;generalize (n4,Obj.cells #[.slice s9.a s9.len s9.cap] 27)=o4;refine K7 (l':=min s.len room) (h':=s.len) (m':=s.cap) rfl rfl rfl (by omega) (by omega) (Dq6 _) ?_;have oX:=B75 hs (i:=min s.len room) (j:=s.len) (by omega) (by omega);have zH:((E.drop (i*room)).drop (min s.len room)).take (s.len-min s.len room)=E.drop ((i+1)*room):=by
   rw[Dw9 (by rw[Ds6,<-aT];omega),Dw6];rcases Nat.le_total room s.len with h9|h9
   ·rw[Nat.min_eq_right h9,D03,Nat.one_mul]
   ·rw[Ds6]at aT;rw[Dx1 h9,D40 (by omega),D40 (by rw[D03];omega)]
  rw[zH]at oX;refine⟨n-(i+1),by omega,i+1,_,v8,seg8,gs++[⟨s9,sg9,(E.drop (i*room)).take room⟩],o4::o3::J,_,_,by omega,rfl,?_,rfl,?_,oX,?_,?_,?_⟩
  ·rw[C1 (by first|omega|(simp only;omega)) (by first|omega|(simp only;omega))];rfl
  ·rw[Q4,A31]
   classical
   rw[Dt9]at hp⊢;intro z;have:=hp z;simp only[Dw2,Dt7,Du0,Dv0,Dv7]at this⊢;omega
  ·rw[Ds2];exact own8
  ·intro z hz;rcases Dr5.1 hz with h5|h5
   ·exact aA z h5
   ·rw[Dr2.1 h5];exact own9
  ·rw[Ds2,gW,A62];rfl
 ·obtain rfl:i=n:=by omega
  refine .drop (A:=seg++(pgs gs++A)) (J:=J++J0) ⟨v,seg,gs,rfl,rfl,own,aA,gW⟩ ?_
  classical
  rw[Dt9]at hp⊢;intro z;have:=hp z;simp only[Dw2,Dt7,Du0,Dv0,Dv7]at this⊢;omega
def T9(b:List UInt8):List UInt8×List UInt8×Int:=
 if(F8 b 0).2.2≠0 then([],[],(F8 b 0).2.2)else
 if(F8 b (F8 b 0).2.1).2.2≠0 then([],[],(F8 b (F8 b 0).2.1).2.2)else
 if(V5 b (F8 b (F8 b 0).2.1).2.1 4).2≠0 then([],[],(V5 b (F8 b (F8 b 0).2.1).2.1 4).2)else
 if b.length>(F8 b (F8 b 0).2.1).2.1+4\/(F8 b 0).1.length<1\/(F8 b 0).1.length>255 then([],[],5)else
 if G3 (b.take (F8 b (F8 b 0).2.1).2.1)≠(V5 b (F8 b (F8 b 0).2.1).2.1 4).1 then([],[],12)else
 ((F8 b 0).1,(F8 b (F8 b 0).2.1).1,0)
def A84(b:List UInt8)(A:A4)(r:Value)(L':A4):Prop:= ∃g:PG,r= .t #[Df7 (T9 b).1,g.val,.i (T9 b).2.2]/\L'=g.seg++A/\g.Ok/\g.l=(T9 b).2.1
theorem A84.err{b:List UInt8}{A:A4}{e:Int}(h:T9 b=([],[],e)):A84 b A (.t #[.w ⟨#[]⟩,.slice none 0 0,.i e]) A:=⟨pg0,by rw[h];rfl,rfl,Bo9,by rw[h];rfl⟩
theorem V7{b:List UInt8}{a:Nat}(h:a<=b.length):a<=(F8 b a).2.1/\(F8 b a).2.1<=b.length/\(F8 b a).1.length<=65536/\((F8 b a).2.2=0->(F8 b a).2.1=a+4+(F8 b a).1.length):=by
 have hg:=Aj3 b a 4;unfold F8;split
 ·rename_i h1;exact⟨Dq6 _,h,by simp,fun h2=>absurd h2 h1⟩
 ·split
  ·exact⟨Dq6 _,h,by simp,fun h=>absurd h (by simp)⟩
  ·split
   ·exact⟨Dq6 _,h,by simp,fun h=>absurd h (by simp)⟩
   ·rename_i h1 h2 h3;simp only;rw[Ds0,Ds6];omega
theorem B96(l:List UInt8):(ByteArray.mk l.toArray).size=l.length:=by show l.toArray.size=_;simp
theorem Dl4(A:A4)(v:SlV)(l:List PV)(h:Z0 A v l)(hb:(Al6 l).length<=1000000)(hl:l.length<=1099511627776):
  CallF PP 183 #[.slice v.a v.len v.cap] A (A84 (Al6 l) A):=by
 refine(e183 v).c ?_;refine K1 [] [] (A41 A v l h (by omega) hl) (by simp) ?_;rintro _ _-⟨s,seg,rfl,rfl,own⟩;rw[Ds1,Dr3];generalize Al6 l=b at hb own⊢;refine⟨(s,()),rfl,K1 [] [] (C01 (seg++A) s b own.sl.left hb) (by simp) ?_⟩;rintro _ _-⟨m,R0,rfl,rfl,pT⟩;rw[Ds1,Dr3];have aT: ∀R:A4,BSl (R++(seg++A)) s b:=fun R=>own.sl.left.right;have kV:=own.sl.len;rw[E5,Dt8]at kV;have sT:=own.cap;refine⟨(some m.z,()),rfl,K1 [] (seg++A) (Cf2 m b 0 R0 pT) rfl ?_⟩;rintro _ R1-⟨rfl,hr1⟩;rw[Ds1];obtain⟨q1,q2,q3,q4⟩:=V7 (b:=b) (a:=0) (Dv6 _);refine⟨(⟨(F8 b 0).1.toArray⟩,(F8 b 0).2.2,()),rfl,?_⟩;refine P0 (fun(he:(F8 b 0).2.2≠0)=>.app (.app (.of (A84.err (by unfold T9;rw[Dq5 he]))))) (fun(he:(F8 b 0).2.2=0)=>?_);refine K1 [] (seg++A) (Cf2 m b (F8 b 0).2.1 R1 hr1) rfl ?_;rintro _ R2-⟨rfl,oG⟩;rw[Ds1];obtain⟨w1,w2,w3,w4⟩:=V7 (b:=b) (a:=(F8 b 0).2.1) q2;refine⟨(⟨(F8 b (F8 b 0).2.1).1.toArray⟩,(F8 b (F8 b 0).2.1).2.2,()),rfl,?_⟩;refine P0 (fun(mS:(F8 b (F8 b 0).2.1).2.2≠0)=>.app (.app (.of (A84.err (by unfold T9;rw[Dq4 (by omega),Dq5 mS]))))) (fun(mS:(F8 b (F8 b 0).2.1).2.2=0)=>?_);have hj:T9 b=if(V5 b (F8 b (F8 b 0).2.1).2.1 4).2≠0 then([],[],(V5 b (F8 b (F8 b 0).2.1).2.1 4).2)else
   if b.length>(F8 b (F8 b 0).2.1).2.1+4\/(F8 b 0).1.length<1\/(F8 b 0).1.length>255 then([],[],5)else
   if G3 (b.take (F8 b (F8 b 0).2.1).2.1)≠(V5 b (F8 b (F8 b 0).2.1).2.1 4).1 then([],[],12)else
   ((F8 b 0).1,(F8 b (F8 b 0).2.1).1,0):=by unfold T9;rw[Dq4 (by omega),Dq4 (by omega)]
 refine B5 (Reads.in (X:=[]) (Y:=seg++A) (Cn1 m b _ R2 oG)) ((b.length:Int)-(F8 b (F8 b 0).2.1).2.1,()) rfl ?_;generalize (F8 b 0).1=key at q3 hj⊢;generalize F8 b (F8 b 0).2.1=t2 at oG w2 hj⊢;obtain⟨val,e,z⟩:=t2;simp only at oG w2 hj⊢;refine K1 [] (seg++A) (num_cl m b e R2 oG 4) rfl ?_;rintro _ R3-⟨rfl,sV⟩;rw[Ds1];refine⟨((V5 b e 4).1,(V5 b e 4).2,()),rfl,?_⟩;refine P0 (fun(wK:(V5 b e 4).2≠0)=>.app (.app (.of (A84.err (by rw[hj,Dq5 wK]))))) (fun(wK:(V5 b e 4).2=0)=>?_);have gT:A98 b e 4=e+4:=by unfold A98;rw[Dq5 wK];rfl
 rw[gT]at sV;have aS:=(Aj3 b e 4).2.2.2 wK;refine B5 (Reads.in (X:=[]) (Y:=seg++A) (Cn1 m b _ R3 sV)) ((b.length:Int)-(e+4:Nat),()) rfl ?_;refine C0 (fun(h4:(b.length:Int)-(e+4:Nat)>0)=>.app (.app (.of (A84.err (by rw[hj,Dq4 (by omega),Dq5 (by omega)]))))) (fun(h4: ¬(b.length:Int)-(e+4:Nat)>0)=>?_);refine B5 (Bh1 _ _) (decide (1<=((ByteArray.mk key.toArray).size:Int)/\((ByteArray.mk key.toArray).size:Int)<=255),()) rfl ?_;rw[B96];by_cases h5:1<=(key.length:Int)/\(key.length:Int)<=255
 case neg=>
  rw[Ds7 h5];exact ifT rfl (.app (.app (.of (A84.err (by rw[hj,Dq4 (by omega),Dq5 (by omega)])))))
 rw[Dt2 h5];have hwe:IntKind.i64.wrap ((s.len:Int)-((b.length:Int)-(e:Int)))=((e:Nat):Int):=by rw[kV,C1 (by omega) (by omega)];omega
 simp only[hwe];refine ifF rfl (K7 (l':=0) (h':=e) (m':=s.cap) rfl rfl rfl (by omega) (by omega) (Dq6 _) ?_);have aR:=B75 (aT R3) (i:=0) (j:=e) (by omega) (by omega);rw[D06,Dx4]at aR;refine B5 (B79 _ _ (b.take e) aR (by rw[Ds0];omega) (V5 b e 4).1) (G3 (b.take e)==(V5 b e 4).1,()) rfl ?_;by_cases h6:G3 (b.take e)=(V5 b e 4).1
 ·have hjj:T9 b=(key,val,0):=by rw[hj,Dq4 (by omega),Dq4 (by omega),Dq4 (by simpa using h6)]
  refine ifF (by simp[h6]) (Da2 fun n ob w hw own2 _=>?_);unfold A84;rw[hjj];refine .drop (A:=[(n,ob)]++A) (J:=R3++seg) ⟨⟨w,[(n,ob)],val⟩,rfl,rfl,own2,rfl⟩ ?_
  classical
  rw[Dt9];intro x;simp only[Dw2,Dt7,Du0,Dv0,Dv7];omega
 ·refine ifT (by simp[h6]) (.app (.app (.of (A84.err (by rw[hj,Dq4 (by omega),Dq4 (by omega),Dq5 h6])))))
theorem Bo3{d:Dev}(ok:P6 d)(b p:Int):(H2 d b p).1.length<=512:=by
 have hS:=ok.c.s;unfold H2;split
 ·simp
 ·split
  ·simp
  ·rename_i k hk;split
   ·show(blk d.c.S).length<=512;unfold blk;rw[Dv3];omega
   ·show(k.pages.getD p.toNat []).length<=512;rw[Dt0];cases h:k.pages[p.toNat]? with
    |none=>simp
    |some l=>have:=(ok.pg k (Dx2 hk)).2 l (Dx2 h);simp only[D67];omega
def K8(d:Dev)(b pg:Int):Hd×List UInt8×Int:=
 if(H2 d b pg).2=0 then if(E0 (H2 d b pg).1).2.2=0 then E0 (H2 d b pg).1 else(hz,[],8)else(hz,[],8)
theorem A99{d:Dev}(ok:P6 d)(b pg:Int):(K8 d b pg).2.1.length<=512:=by
 unfold K8;split
 ·split
  ·exact Dt1 (Ay2 _) (Bo3 ok b pg)
  ·simp
 ·simp
theorem A30{d:Dev}{b pg:Int}(h:(K8 d b pg).2.2=0):(H2 d b pg).2=0/\(E0 (H2 d b pg).1).2.2=0/\K8 d b pg=E0 (H2 d b pg).1:=by
 unfold K8 at h⊢;split at h
 ·split at h
  ·rename_i h1 h2;rw[Dq5 h1,Dq5 h2];exact⟨h1,h2,rfl⟩
  ·cases h
 ·cases h
def M4(d:Dev)(b pg:Int):Nat->Option (List (List UInt8))
 |0=>some []
 |n+1=>match M4 d b pg n with
  |some l=>if(K8 d b (pg+n)).2.2=0 then some (l++[(K8 d b (pg+n)).2.1])else none
  |none=>none
theorem Av6{d:Dev}{b pg:Int}: ∀{n m:Nat},n<=m->M4 d b pg n=none->M4 d b pg m=none
  |n,m,h,hn=>by
    induction m with
    | zero => obtain rfl:n=0:=by omega
              exact hn
    |succ m ih=>
      rcases Dw8 m n with h1|h1
      · obtain rfl:n=m+1:=by omega
        exact hn
      · rw[M4,ih h1]
theorem An0{d:Dev}(ok:P6 d){b pg:Int}: ∀{n:Nat} {l:List (List UInt8)},M4 d b pg n=some l->l.length=n/\ ∀x∈l,x.length<=512
 |0,l,h=>by obtain rfl:=Dq9 h;exact⟨rfl,by simp⟩
 |n+1,l,h=>by
  rw[M4]at h;split at h
  ·rename_i l' bZ;split at h
   ·obtain rfl:=Dq9 h;obtain⟨h1,h2⟩:=An0 ok bZ;refine⟨by simp[h1],fun x hx=>?_⟩;rcases Dr5.1 hx with hx|hx
    ·exact h2 x hx
    ·rw[Dr2.1 hx];exact A99 ok _ _
   ·cases h
  ·cases h
theorem Av7{d:Dev}{b pg:Int}{n:Nat}{l:List (List UInt8)}(h:M4 d b pg n=some l)(h0:0<n):(K8 d b pg).2.2=0:=by
 cases h1:M4 d b pg 1 with
 |none=>rw[Av6 h0 h1]at h;cases h
 |some l1=>
  rw[M4,M4]at h1;simp only[Ec2,Dz6]at h1;split at h1
  ·assumption
  ·cases h1
def Aw0(p:It)(h:Hd):Prop:=h.1=2/\h.2.1=0/\h.2.2.2.1=p.2.2.1/\h.2.2.2.2.1=p.2.1
instance (p:It) (h:Hd):Decidable (Aw0 p h):=by unfold Aw0;infer_instance
def A9(d:Dev)(p:It):List UInt8×List UInt8×Int:=
 if(H2 d p.1 0).2≠0 then([],[],(H2 d p.1 0).2)else
 if(K8 d p.1 p.2.1).2.2=0/\Aw0 p (K8 d p.1 p.2.1).1 then
  match M4 d p.1 p.2.1 (K8 d p.1 p.2.1).1.2.2.1.toNat with
  |some l=>T9 l.flatten
  |none=>([],[],8)
 else([],[],8)
def Aj2(q:List UInt8×List UInt8×Int)(A:A4)(r:Value)(L':A4):Prop:= ∃g:PG,r= .t #[Df7 q.1,g.val,.i q.2.2]/\L'=g.seg++A/\g.Ok/\g.l=q.2.1
theorem Aj2.err{q:List UInt8×List UInt8×Int}{A:A4}{e:Int}(h:q=([],[],e)):Aj2 q A (.t #[.w ⟨#[]⟩,.slice none 0 0,.i e]) A:=⟨pg0,by rw[h];rfl,rfl,Bo9,by rw[h];rfl⟩
theorem Aj2.no{q:List UInt8×List UInt8×Int}{A J L2:A4}{e:Int}(h:q=([],[],e))(hp:L2.Perm (A++J)):HL.Ends (Aj2 q A) (.t #[.w ⟨#[]⟩,.slice none 0 0,.i e]) L2:=.drop (Aj2.err h) hp
theorem Aw2(gs:List PG):Al6 (pvs gs)=(gs.map PG.l).flatten:=by
 induction gs with
 |nil=>rfl
 |cons g r ih=>simp only[Al6,pvs,Ds3,Du1,D55]at ih⊢;rw[ih]
theorem B68: ∀(l:List (List UInt8)),(∀x∈l,x.length<=512)->l.flatten.length<=l.length*512
 |[],_=>by simp
 |x::r,h=>by
  have h1:=B68 r fun y hy=>h y (by simp[hy]);have h2:=h x (by simp);simp only[D55,Dr4,Dr8];omega
theorem Bi5(m:Nat)(d:Dev)(A:A4)(h:FH m d A)(ok:P6 d)(p:It)(aL:S0 .i64 p.2.1):CallF PP 118 #[.p m,.agg (ki3 p)] A (Aj2 (A9 d p) A):=by
 refine(c118 (some m.z) p).c ?_;have hpw:=Bl5 aL;have hP:=DG.pb ok;refine S8 (Bx3 m d A h ok p.1 0) ?_;rintro _ _-⟨g0,rfl,rfl,-,-⟩;refine⟨(g0.v,(H2 d p.1 0).2,()),rfl,B6 (fun(h0:(H2 d p.1 0).2=0)=>?_) (fun(h0: ¬(H2 d p.1 0).2=0)=>Aj2.no (by unfold A9;rw[Dq5 h0]) Du8)⟩;have bF: ¬((K8 d p.1 p.2.1).2.2=0/\Aw0 p (K8 d p.1 p.2.1).1)->A9 d p=([],[],8):=fun hh=>by unfold A9;rw[Dq4 (by simpa using h0),Dq4 hh]
 refine G7 (fun z' z L'=> ∃(gs:List PG) (s:SlV) (sg J:A4) (n:Nat),z=(s,(n:Int),())/\z'=20-gs.length/\L'.Perm (sg++(pgs gs++(J++A)))/\Own s 1 tB (gs.map PG.val) sg/\(∀g∈gs,g.Ok)/\gs.length<=n/\n<=16/\M4 d p.1 p.2.1 gs.length=some (gs.map PG.l)/\
  ((gs=[]/\n=1)\/(0<gs.length/\0<=p.2.1/\p.2.1<=16/\Aw0 p (K8 d p.1 p.2.1).1/\(K8 d p.1 p.2.1).1.2.2.1=n))) 20
  ⟨[],⟨none,0,0⟩,[],g0.seg,1,rfl,rfl,Dq8 _,F6,by simp,by simp,by omega,rfl,.inl ⟨rfl,rfl⟩⟩ ?_
 rintro z' z L1 ⟨gs,s,sg,J,n,rfl,rfl,nE,own,aA,uJ,yH,rG,aP⟩;dsimp only;have aT:=own.sl.len;rw[Dr1]at aT;refine B6 (fun(hO:(s.len:Int)<n)=>?_) (fun(aS: ¬(s.len:Int)<n)=>?_)
 ·have qV: -9223372036854775808<=p.2.1+(s.len:Int)/\p.2.1+(s.len:Int)<=9223372036854775807:=by
   rcases aP with⟨rfl,-⟩|⟨-,h1,h2,-⟩
   ·simp at aT;omega
   ·omega
  refine D6 qV (G5 (Bx3 m d A h ok p.1 (p.2.1+s.len)) (R:=sg++(pgs gs++J)) (pc fun z=>by have:=pcn nE z;simp only[B4]at*;omega) ?_);have xM:p.2.1+(s.len:Int)=p.2.1+(gs.length:Int):=by omega
  rw[xM];rintro _ _ ⟨g1,rfl,rfl,eE,zA⟩;have bG:(K8 d p.1 (p.2.1+(gs.length:Int))).2.2≠0->A9 d p=([],[],8):=by
   intro hh;rcases aP with⟨rfl,-⟩|⟨uI,-,-,jF,mP⟩
   ·exact bF fun h=>hh (by simpa using h.1)
   ·have h3:M4 d p.1 p.2.1 (gs.length+1)=none:=by rw[M4,rG];simp only;rw[Dq4 hh]
    have h4:=Av7 rG uI;unfold A9;rw[Dq4 (by simpa using h0),Dq5 ⟨h4,jF⟩,mP,Dr0,Av6 (show gs.length+1<=n by omega) h3]
  refine⟨_,Dq8 _,(g1.v,(H2 d p.1 (p.2.1+(gs.length:Int))).2,()),rfl,B6 (fun(he:(H2 d p.1 (p.2.1+(gs.length:Int))).2=0)=>?_) (fun(he: ¬(H2 d p.1 (p.2.1+(gs.length:Int))).2=0)=>Aj2.no (J:=g1.seg++(sg++(pgs gs++J))) (bG (by unfold K8;rw[Dq4 he];decide)) (pc fun z=>by simp only[B4]at*;omega))⟩;refine G5 (A28 (g1.seg++A) g1.v (H2 d p.1 (p.2.1+(gs.length:Int))).1 (by rw[<-zA];exact Sl.left eE.sl) (by have:=Bo3 ok p.1 (p.2.1+(gs.length:Int));omega)) (Dq8 _) ?_;rintro _ _ ⟨s2,sg2,rfl,rfl,own2⟩;generalize hq:E0 (H2 d p.1 (p.2.1+(gs.length:Int))).1=q at own2;refine⟨_,Dq8 _,(q.1,s2,q.2.2,()),rfl,B6 (fun(mS:q.2.2=0)=>?_) (fun(mS: ¬q.2.2=0)=>Aj2.no (J:=sg2++(g1.seg++(sg++(pgs gs++J)))) (bG (by unfold K8;rw[Dq5 he,Dq4 (by rw[hq];exact mS)];decide)) (pc fun z=>by simp only[B4]at*;omega))⟩;have xV:K8 d p.1 (p.2.1+(gs.length:Int))=q:=by unfold K8;rw[Dq5 he,hq,Dq5 mS]
  have hqk:=Ac9 (B43 (b:=(H2 d p.1 (p.2.1+(gs.length:Int))).1) (by rw[hq];exact mS));rw[hq]at hqk;have eH:q.2.1.length<=512:=by rw[<-xV];exact A99 ok _ _
  refine W2 (fun y L'=>L'=sg2++(g1.seg++A)++(sg++(pgs gs++J))/\ ∃n':Nat,y=((n':Int),())/\gs.length<n'/\n'<=16/\0<=p.2.1/\p.2.1<=16/\Aw0 p (K8 d p.1 p.2.1).1/\(K8 d p.1 p.2.1).1.2.2.1=n') ?_ ?_
  ·rintro _ _ ⟨rfl,n',rfl,nI,iI,bD,nG,jF,mP⟩;refine Am5 Bt1 Cy3 own (Y:=sg2++(g1.seg++A)++(pgs gs++J)) (ws:=[pvV (s2,q.2.1)]) (pc fun z=>by simp only[B4]at*;omega) rfl rfl (by omega) fun s3 sg3 cJ own3=>?_;refine⟨20-(gs.length+1),by omega,gs++[⟨s2,sg2,q.2.1⟩],s3,sg3,g1.seg++J,n',rfl,by simp,?_,?_,?_,by simp;omega,iI,?_,.inr ⟨by simp,bD,nG,jF,mP⟩⟩
   ·rw[Q4,A31];exact pc fun z=>by simp only[B4]at*;omega
   ·rw[Ds2];exact own3
   ·intro g hg;rcases Dr5.1 hg with hg|hg
    ·exact aA g hg
    ·rw[Dr2.1 hg];exact own2
   ·rw[Dr4,D42,M4,rG];simp only;rw[xV,Dq5 mS,Ds2];rfl
  ·intro j hj;refine B6 (fun(jE:(s.len:Int)=0)=>?_) (fun(jE: ¬(s.len:Int)=0)=>?_)
   ·have fW:gs.length=0:=by omega
    have pV:K8 d p.1 p.2.1=q:=by rw[<-xV,fW];simp
    have aE: ¬Aw0 p q.1->HL.Ends (Aj2 (A9 d p) A) (.t #[.w ⟨#[]⟩,.slice none 0 0,.i 8]) (sg2++(g1.seg++A)++(sg++(pgs gs++J))):=fun hh=>
     Aj2.no (J:=sg2++(g1.seg++(sg++(pgs gs++J)))) (bF fun hx=>hh (by rw[<-pV];exact hx.2)) (pc fun z=>by simp only[B4]at*;omega)
    refine B6 (fun(e1:q.1.1=2)=>?_) (fun e1=>aE fun hx=>e1 hx.1);refine B6 (fun(e2:q.1.2.1=0)=>?_) (fun e2=>aE fun hx=>e2 hx.2.1);refine B6 (fun(e3:q.1.2.2.2.1=p.2.2.1)=>?_) (fun e3=>aE fun hx=>e3 hx.2.2.1);refine B6 (fun(e4:q.1.2.2.2.2.1=p.2.1)=>?_) (fun e4=>aE fun hx=>e4 hx.2.2.2);have hf:=Ad0 (by rw[<-Ao8 ok];exact he);rw[fW]at hf;exact hj _ _ ⟨rfl,q.1.2.2.1.toNat,by rw[D17 (by omega)],by omega,by omega,by omega,by omega,by rw[pV];exact⟨e1,e2,e3,e4⟩,by rw[pV];omega⟩
   ·rcases aP with⟨rfl,-⟩|⟨-,bD,nG,jF,mP⟩
    ·simp at aT;omega
    ·exact hj _ _ ⟨rfl,n,rfl,by omega,yH,bD,nG,jF,mP⟩
 ·rcases aP with⟨rfl,rfl⟩|⟨uI,bD,nG,jF,mP⟩
  ·simp at aT;omega
  have yZ:gs.length=n:=by omega
  have hb:=An0 ok rG;have eL:(Al6 (pvs gs)).length<=1000000:=by
   rw[Aw2];have:=B68 _ hb.2;rw[hb.1]at this;omega
  refine S8 (Dl4 L1 s (pvs gs) (Bf0 own aA (Ca9 nE) fun x hx=>nE.symm.subset (by simp[hx])) eL (by simp[pvs];omega)) ?_;rintro _ _-⟨g,rfl,rfl,hg,dL⟩;have fN:A9 d p=T9 (Al6 (pvs gs)):=by
   unfold A9;rw[Dq4 (by simpa using h0),Dq5 ⟨Av7 rG uI,jF⟩,mP,Dr0,<-yZ,rG,Aw2]
  refine⟨(⟨(T9 (Al6 (pvs gs))).1.toArray⟩,g.v,(T9 (Al6 (pvs gs))).2.2,()),rfl,.drop (A:=g.seg++A) (J:=sg++(pgs gs++J)) ⟨g,by rw[fN];rfl,rfl,hg,by rw[fN];exact dL⟩ (pc fun z=>by have:=pcn nE z;simp only[B4]at*;omega)⟩
end Go.Proofs.YtbaoieipijmakaaGreatDoor
