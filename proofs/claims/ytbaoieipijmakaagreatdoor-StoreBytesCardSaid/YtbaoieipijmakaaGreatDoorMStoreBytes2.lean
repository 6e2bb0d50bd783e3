/-
  It is proved what the functions that the law StoreBytes reaches compute, part 2. There are no further conditions than those that each theorem names.
-/
import Derived.Test.YtbaoieipijmakaaGreatDoorMStoreBytes1
import Derived.SizedLaws
set_option linter.unusedVariables false
set_option linter.unusedSimpArgs false
namespace Go.Proofs.YtbaoieipijmakaaGreatDoor
open Go.HL
def Z5(ps:List (List UInt8))(at':Int)(h:Hd):Option (List UInt8):=
 if 0<=at'/\at'<16 then match ps[at'.toNat]? with
  |some b=>if(E5 b).2.2=0/\(E5 b).1=h then some (E5 b).2.1 else none
  |none=>none
 else none
def Ba2(ps:List (List UInt8)):Nat->Nat
 |0=>0
 |n+1=>if O6 (ps.getD (n+1) [])then Ba2 ps n else n+1
def M1(ps:List (List UInt8)):Nat:=Ba2 ps (min ps.length 16-1)
theorem Ba1(ps:List (List UInt8)): ∀n,Ba2 ps n<=n
 |0=>Nat.le_refl _
 |n+1=>by
  unfold Ba2
  split
  ·exact Nat.le_succ_of_le (Ba1 ps n)
  ·exact Nat.le_refl _
def G6(p:List UInt8)(i:Nat):It:=(((p.getD (i*3) 0).toNat:Int),((p.getD (i*3+1) 0).toNat:Int),((p.getD (i*3+2) 0).toNat:Int),())
def Af4(p:List UInt8):Nat->Nat->Int->Option (List It×Int)
 |0,_,nx=>some ([],nx)
 |n+1,i,nx=>if((G6 p i).1=2\/(G6 p i).1=3)/\(G6 p i).2.2.1≠0/\(G6 p i).2.1=nx then(Af4 p n (i+1) (nx+(G6 p i).2.2.1)).map fun y=>(G6 p i::y.1,y.2)else none
def Ab6(p:List UInt8)(last:Nat):Option (List It):=
 if p.length%3≠0 then none else match Af4 p (p.length/3) 0 1 with
 |some y=>if y.2=last then some y.1 else none
 |none=>none
def N3(ps:List (List UInt8))(ep:Int)(at':Nat):Option It:=
 match ps[at']? with
 |some b=>if(E5 b).2.2=0/\((E5 b).1.1=2\/(E5 b).1.1=3)then
   if(List.range (E5 b).1.2.2.1.toNat).all (fun i=>(Z5 ps ((at':Int)+i) ((E5 b).1.1,i,(E5 b).1.2.2.1,ep,(at':Int)+i,())).isSome)=true then some ((E5 b).1.1,at',(E5 b).1.2.2.1,())else none
  else none
 |none=>none
def Ae0(f:Nat->Option It)(last:Nat):Nat->Nat->List It
 |0,_=>[]
 |k+1,p=>if p<=last then match f p with
  |some x=>x::Ae0 f last k (p+x.2.2.1.toNat)
  |none=>Ae0 f last k (p+1)
  else[]
def A15(ps:List (List UInt8))(ep:Int):Option (List It):=(Z5 ps (M1 ps) (4,0,1,ep,M1 ps,())).bind fun p=>Ab6 p (M1 ps)
def epR(ps:List (List UInt8)):Int:=(E5 (ps.getD 0 [])).1.2.2.2.1
def P6(ps:List (List UInt8)):(Int×Bool×List It)×Bool:=
 if ps=[]then((0,false,[]),false)else
 match Z5 ps 0 (1,0,1,epR ps,0,())with
 |some []=>match(if M1 ps>0 then A15 ps (epR ps)else none)with
  |some l=>((epR ps,true,l),true)
  |none=>((epR ps,false,Ae0 (N3 ps (epR ps)) (M1 ps) 17 1),true)
 |_=>((0,false,[]),false)
theorem Bv7{b:List UInt8}(h:(E5 b).2.2=0):Ae9 (E5 b).1=0:=by
 unfold E5 at h⊢
 split at h
 ·exact absurd h (by simp)
 ·rename_i h1
  split at h
  ·exact absurd h (by simp)
  ·rename_i h2
   split at h
   ·exact absurd h (by simp)
   ·rename_i h3
    split at h
    ·exact absurd h (by simp)
    ·rename_i h4
     rw[if_neg h1,if_neg h2,if_neg h3,if_neg h4]
     simp only
     by_cases he:Ae9 (hOf b)=0
     ·exact he
     ·exact absurd ((Aa1 b).2 (.inr (.inr (.inr (.inl he))))) h4
theorem At6(b:List UInt8):(E5 b).2.1.length<=b.length:=by
 unfold E5
 split
 ·exact Nat.zero_le _
 ·split
  ·exact Nat.zero_le _
  ·split
   ·exact Nat.zero_le _
   ·split
    ·exact Nat.zero_le _
    ·show(Ac0 b).length<=b.length
     unfold Ac0
     rw[List.length_take,List.length_drop];omega
abbrev tIm:TypeId:=373
abbrev eIm:TypeId:=377
theorem elemIm:U8 PP tIm eIm 7 72 [.i 0,.i 0,.i 0,.i 0,.i 0,.slice none 0 0,.b false]:=M6 (by kernel_rfl) (by kernel_rfl) rfl (by decide) (by decide)
theorem srcIm:As9 PP tIm:=.inl ⟨eIm,by kernel_rfl⟩
structure IM where
 h:Hd
 g:PG
 fine:Bool
def IM.enc(x:IM):List Value:=[.i x.h.1,.i x.h.2.1,.i x.h.2.2.1,.i x.h.2.2.2.1,.i x.h.2.2.2.2.1,x.g.val,.b x.fine]
theorem IM.enc_len(x:IM):x.enc.length=7:=rfl
def IM.dat(x:IM):Hd×List UInt8×Bool:=(x.h,x.g.l,x.fine)
def imOf(b:List UInt8):Hd×List UInt8×Bool:=((E5 b).1,(E5 b).2.1,decide ((E5 b).2.2=0))
def W3(l:List IM):A4:=l.flatMap fun x=>x.g.seg
theorem Ba5(a b:List IM):W3 (a++b)=W3 a++W3 b:=List.flatMap_append
theorem B38(a:IM):W3 [a]=a.g.seg:=by simp[W3]
def sO(m:Nat)(sv:SlV)(ep last:Int):Nat×Obj:=(m,.cells #[.slice sv.a sv.len sv.cap,.i ep,.i last] 375)
structure SHs(ps:List (List UInt8))(sv:SlV)(seg:A4)(ims:List IM):Prop where
 own:Own sv 7 eIm (ims.flatMap IM.enc) seg
 ok: ∀x∈ims,x.g.Ok
 dat:ims.map IM.dat=(ps.take 16).map imOf
 len: ∀b∈ps,b.length<=1000000
def SH(m:Nat)(ps:List (List UInt8))(ep:Int)(last:Nat)(A:A4):Prop:= ∃sv seg ims,A=sO m sv ep last::(seg++W3 ims)/\SHs ps sv seg ims
section
variable {L:A4} {m:Nat} {sv:SlV} {ep last:Int} {ps:List (List UInt8)} {seg:A4} {ims:List IM}
theorem C08(h:sO m sv ep last∈L):D4 ⟨m,0,none⟩ [.slice sv.a sv.len sv.cap] L:=ldB (by unfold sO at h;exact h) rfl
theorem s_ep(h:sO m sv ep last∈L):D4 ⟨m,1,none⟩ [.i ep] L:=ldB (by unfold sO at h;exact h) rfl
theorem s_la(h:sO m sv ep last∈L):D4 ⟨m,2,none⟩ [.i last] L:=ldB (by unfold sO at h;exact h) rfl
theorem SHs.ilen(h:SHs ps sv seg ims):ims.length=min 16 ps.length:=by
 have:=congrArg List.length h.dat
 rwa [List.length_map,List.length_map,List.length_take]at this
theorem SHs.im(h:SHs ps sv seg ims){i:Nat}(hi:i<ims.length): ∃hp:i<ps.length,ims[i].h=(E5 ps[i]).1/\ims[i].g.l=(E5 ps[i]).2.1/\ims[i].fine=decide ((E5 ps[i]).2.2=0):=by
 have hl:=h.ilen
 have hp:i<ps.length:=by omega
 refine⟨hp,?_⟩
 have h1:(ims.map IM.dat)[i]?=((ps.take 16).map imOf)[i]?:=by rw[h.dat]
 rw[List.getElem?_map,List.getElem?_map,List.getElem?_eq_getElem hi,List.getElem?_take_of_lt (by omega),List.getElem?_eq_getElem hp]at h1
 have h2:=Option.some.inj h1
 unfold IM.dat imOf at h2
 simp only[Prod.mk.injEq]at h2
 exact h2
end
theorem undHd2:A22 PP 272=true:=by kernel_rfl
theorem neHd2{L:A4}(x y:Hd){k:ShV (.lf .bool)->HP}(hk:k (!decide (x=y)) L):
  smP PP (binOp .neq 272 (.agg #[.i x.1,.i x.2.1,.i x.2.2.1,.i x.2.2.2.1,.i x.2.2.2.2.1]) (.agg #[.i y.1,.i y.2.1,.i y.2.2.1,.i y.2.2.2.1,.i y.2.2.2.2.1])) (.lf .bool) k L:=by
 refine C22 (r:=(x.1==y.1&&(x.2.1==y.2.1&&(x.2.2.1==y.2.2.1&&(x.2.2.2.1==y.2.2.2.1&&(x.2.2.2.2.1==y.2.2.2.2.1&&true)))))) undHd2 (by kernel_rfl) ?_
 have e:decide (x=y)=(x.1==y.1&&(x.2.1==y.2.1&&(x.2.2.1==y.2.2.1&&(x.2.2.2.1==y.2.2.2.1&&(x.2.2.2.2.1==y.2.2.2.2.1&&true))))):=by
  obtain⟨a,b,c,d,f,⟨⟩⟩:=x
  obtain⟨a',b',c',d',f',⟨⟩⟩:=y
  rw[Bool.eq_iff_iff];simp
 rw[e]at hk;exact hk
theorem Cf4(L:A4)(n:Int):Reads PP 320 #[.i n] L (.b (decide (n=2\/n=3))):=by
 refine Reads.of (args:=[.i n]) B5 B6 Tryz.func320 (e320 n _) ?_
 unfold t320
 refine Aa4 (fun(h:n=2)=>.of ⟨by rw[decide_eq_true (.inl h)],rfl⟩) (fun(h:n≠2)=>.of ⟨?_,rfl⟩)
 congr 1
 by_cases h3:n=3
 ·rw[h3];rfl
 ·rw[decide_eq_false (by omega),beq_eq_false_iff_ne];exact h3
theorem Db5(A:A4)(v:SlV)(l:List PV)(h:Y1 A v l)(hl:l.length<=1000000)(hb: ∀x∈l,x.2.length<=1000000):
  CallF PP 283 #[.slice v.a v.len v.cap] A fun r L'=> ∃m B,r= .q (some ⟨m,0,none⟩)/\L'=B++A/\SH m (l.map Prod.snd) 0 (M1 (l.map Prod.snd)) B:=by
 refine CallF.of (args:=[.slice v.a v.len v.cap]) B5 B6 Tryz.func283 (e283 v _) ?_
 unfold t283
 have hvl:=h.len
 have hcap:=h.sl.cap
 refine C3 fun m _=>?_
 have him:Ab3 (v.len:Int) 16=((min l.length 16:Nat):Int):=by unfold Ab3;omega
 simp only[him]
 refine K4 (l':=0) (h':=min l.length 16) (m':=v.cap) rfl rfl rfl (by omega) (by omega) (Nat.le_refl _) ?_
 have hs:Sl A (P1 v ((0:Nat):Int) ((min l.length 16:Nat):Int) (v.cap:Int) 1) 1 ((l.take (min l.length 16)).map pvV):=by
  have h0:=Sl.slc (m:=v.cap) h.sl (by decide) (l:=0) (h':=min l.length 16) (by omega) (by omega) (by omega)
  rw[Nat.zero_mul,List.drop_zero,Nat.sub_zero,Nat.mul_one,<-List.map_take]at h0
  exact h0
 generalize P1 v ((0:Nat):Int) ((min l.length 16:Nat):Int) (v.cap:Int) 1=s at hs⊢
 have hsl:=hs.len
 rw[List.length_map,List.length_take]at hsl
 have hm0:((m,Obj.cells #[.slice none 0 0,.i 0,.i 0] 375):Nat×Obj)=sO m ⟨none,0,0⟩ 0 ((0:Nat):Int):=rfl
 rw[hm0]
 obtain⟨n,hn⟩: ∃n,n=min l.length 16:=⟨_,rfl⟩
 have hpl:(l.map Prod.snd).length=l.length:=List.length_map _
 refine G0 (fun z' z L'=> ∃(i last:Nat) (sv:SlV) (seg:A4) (ims:List IM) (J X Y:A4),i<=n/\z'=n-i/\z=((i:Int),())/\L'=X++sO m sv 0 last::(seg++Y)/\(X++Y).Perm (W3 ims++(J++A))/\Own sv 7 eIm (ims.flatMap IM.enc) seg/\(∀x∈ims,x.g.Ok)/\ims.map IM.dat=((l.map Prod.snd).take i).map imOf/\last=Ba2 (l.map Prod.snd) (i-1)) n
  ⟨0,0,⟨none,0,0⟩,[],[],[],[],A,by omega,by omega,rfl,rfl,List.Perm.refl _,F4,by simp,rfl,rfl⟩ ?_
 rintro z' z _ ⟨i,last,sv,seg,ims,J,X,Y,hi,rfl,rfl,rfl,hp,own,hok,hdat,hlast⟩
 have hsub: ∀x∈A,x∈X++sO m sv 0 last::(seg++Y):=by
  intro x hx
  have h5:x∈X++Y:=(hp.mem_iff (a:=x)).2 (by simp[hx])
  have h6:x∈X\/x∈Y:=by simpa using h5
  rcases h6 with h6|h6<;>simp[h6]
 have hil:ims.length=i:=by
  have:=congrArg List.length hdat
  rw[List.length_map,List.length_map,List.length_take]at this;omega
 have hvl2:=own.sl.els_len IM.enc_len (by decide)
 refine C0 (fun(hlt:(i:Int)<(s.len:Int))=>?_) (fun(hge: ¬(i:Int)<(s.len:Int))=>?_)
 ·have hi':i<l.length:=by omega
  obtain⟨a,ha,hld⟩:=hs.at' (i:=i) (by omega) (by decide)
  have hld1:D4 (a.add ((i:Int).toNat*1)) [pvV l[i]] A:=by
   rw[Int.toNat_natCast,Nat.mul_one]
   exact hld.one i (by rw[List.getElem?_map,List.getElem?_take_of_lt (by omega),List.getElem?_eq_getElem hi'];rfl)
  have hbv:=h.val _ (List.getElem_mem hi')
  have hbl:=hb _ (List.getElem_mem hi')
  refine A5 ha (E0 (show(0:Int)<=(i:Int) by omega) hlt (A6 l[i].1 (hld1.mono hsub) ?_))
  refine J5 [] [] (Ax5 (X++sO m sv 0 last::(seg++Y)) l[i].1 l[i].2 (Sl.mono hbv hsub) hbl) (by simp) ?_
  rintro _ _-⟨s2,sg2,rfl,rfl,own2⟩
  rw[List.nil_append,List.append_nil]
  refine⟨((E5 l[i].2).1,s2,(E5 l[i].2).2.2,()),rfl,C3 fun n2 _=>?_⟩
  refine E3 (n:=n2) (off:=0) (c:=#[.i 0,.i 0,.i 0,.i 0,.i 0]) (T:=272) (fz:=(0,0)) [] _ rfl rfl (by simp) (.inl (Nat.le_refl _)) #[.i (E5 l[i].2).1.1,.i (E5 l[i].2).1.2.1,.i (E5 l[i].2).1.2.2.1,.i (E5 l[i].2).1.2.2.2.1,.i (E5 l[i].2).1.2.2.2.2.1] rfl ?_
  rw[List.nil_append]
  refine A6 sv (C08 (m:=m) (ep:=0) (last:=last) (by simp)) (A6 ((E5 l[i].2).1:Hd) (ldB List.mem_cons_self rfl) (C3 fun n3 _=>?_))
  generalize ((n2,Obj.cells #[.i (E5 l[i].2).1.1,.i (E5 l[i].2).1.2.1,.i (E5 l[i].2).1.2.2.1,.i (E5 l[i].2).1.2.2.2.1,.i (E5 l[i].2).1.2.2.2.2.1] 272):Nat×Obj)=o2
  have hfine:((E5 l[i].2).2.2==0)=decide ((E5 l[i].2).2.2=0):=by
   by_cases he:(E5 l[i].2).2.2=0
   ·rw[he];rfl
   ·rw[decide_eq_false he,beq_eq_false_iff_ne];exact he
  simp only[hfine]
  refine E6 elemIm srcIm ((n3,Obj.cells #[.i (E5 l[i].2).1.1,.i (E5 l[i].2).1.2.1,.i (E5 l[i].2).1.2.2.1,.i (E5 l[i].2).1.2.2.2.1,.i (E5 l[i].2).1.2.2.2.2.1,.slice s2.a s2.len s2.cap,.b (decide ((E5 l[i].2).2.2=0))] eIm)::o2::(sg2++(X++[sO m sv 0 last]))) Y own (by simp)
   (n:=1) (ws:=IM.enc ⟨(E5 l[i].2).1,⟨s2,sg2,(E5 l[i].2).2.1⟩,decide ((E5 l[i].2).2.2=0)⟩) (x:=.slice (some ⟨n3,0,none⟩) 1 1) (Src.sl (v:=⟨some ⟨n3,0,none⟩,1,1⟩) ⟨rfl,Nat.le_refl _,.inr ⟨_,rfl,ldB List.mem_cons_self rfl⟩⟩) rfl (by omega) fun v8 seg8 hv8 own8=>?_
  generalize ((n3,Obj.cells #[.i (E5 l[i].2).1.1,.i (E5 l[i].2).1.2.1,.i (E5 l[i].2).1.2.2.1,.i (E5 l[i].2).1.2.2.2.1,.i (E5 l[i].2).1.2.2.2.2.1,.slice s2.a s2.len s2.cap,.b (decide ((E5 l[i].2).2.2=0))] eIm):Nat×Obj)=o3
  refine E3 (n:=m) (off:=0) (c:=#[.slice sv.a sv.len sv.cap,.i 0,.i last]) (T:=375) (fz:=(0,0)) (o3::o2::(sg2++X)) (seg8++Y) rfl (by simp[sO]) (by simp) (.inl (Nat.le_refl _)) #[.slice v8.a v8.len v8.cap,.i 0,.i last] rfl ?_
  have hm1:((m,Obj.cells #[.slice v8.a v8.len v8.cap,.i 0,.i last] 375):Nat×Obj)=sO m v8 0 last:=rfl
  rw[hm1]
  have hsub2: ∀x∈A,x∈(o3::o2::(sg2++X))++sO m v8 0 last::(seg8++Y):=by
   intro x hx
   have h5:x∈X++Y:=(hp.mem_iff (a:=x)).2 (by simp[hx])
   have h6:x∈X\/x∈Y:=by simpa using h5
   rcases h6 with h6|h6<;>simp[h6]
  refine B7 (Bg8 _ l[i].1 l[i].2 (Sl.mono hbv hsub2) hbl) (O6 l[i].2,()) rfl ?_
  have hgd:(l.map Prod.snd).getD i []=l[i].2:=by rw[List.getD_eq_getElem?_getD,List.getElem?_map,List.getElem?_eq_getElem hi'];rfl
  have hpm:((o3::o2::(sg2++X))++Y).Perm (W3 (ims++[⟨(E5 l[i].2).1,⟨s2,sg2,(E5 l[i].2).2.1⟩,decide ((E5 l[i].2).2.2=0)⟩])++((o3::o2::J)++A)):=by
   rw[Ba5,B38]
   classical
   rw[List.perm_iff_count]at hp⊢
   intro z
   have:=hp z
   simp only[List.append_eq,List.cons_append,List.count_append,List.count_cons,List.count_nil]at this⊢
   omega
  have hgo: ∀(last':Nat),last'=Ba2 (l.map Prod.snd) i->(fun(x':RsV [lI]) (L'':A4)=> ∃k',k'<n-i/\ ∃(i last:Nat) (sv:SlV) (seg:A4) (ims:List IM) (J X Y:A4),i<=n/\k'=n-i/\x'=((i:Int),())/\L''=X++sO m sv 0 last::(seg++Y)/\(X++Y).Perm (W3 ims++(J++A))/\Own sv 7 eIm (ims.flatMap IM.enc) seg/\(∀x∈ims,x.g.Ok)/\ims.map IM.dat=((l.map Prod.snd).take i).map imOf/\last=Ba2 (l.map Prod.snd) (i-1)) (IntKind.i64.wrap ((i:Int)+1),()) ((o3::o2::(sg2++X))++sO m v8 0 last'::(seg8++Y)):=by
   intro last' hl'
   refine⟨n-(i+1),by omega,i+1,last',v8,seg8,ims++[⟨(E5 l[i].2).1,⟨s2,sg2,(E5 l[i].2).2.1⟩,decide ((E5 l[i].2).2.2=0)⟩],o3::o2::J,o3::o2::(sg2++X),Y,by omega,rfl,?_,rfl,hpm,?_,?_,?_,hl'⟩
   ·rw[C2 (by first|omega|(simp only;omega)) (by first|omega|(simp only;omega))]
    rfl
   ·rw[List.flatMap_append,List.flatMap_singleton];exact own8
   ·intro z hz
    rcases List.mem_append.1 hz with h5|h5
    ·exact hok z h5
    ·rw[List.mem_singleton.1 h5];exact own2
   ·rw[List.map_append,hdat,List.take_succ_eq_append_getElem (by rw[hpl];exact hi'),List.map_append,List.getElem_map]
    rfl
  cases hbk:O6 l[i].2 with
  |true=>
   refine ifF rfl (hgo last ?_)
   rw[hlast]
   cases i with
   |zero=>rfl
   |succ j=>
    rw[Nat.add_sub_cancel]
    show _=if O6 ((l.map Prod.snd).getD (j+1) [])then Ba2 (l.map Prod.snd) j else j+1
    rw[hgd,hbk,if_pos rfl]
  |false=>
   refine ifT rfl ?_
   refine E3 (n:=m) (off:=2) (c:=#[.slice v8.a v8.len v8.cap,.i 0,.i last]) (T:=375) (fz:=(0,0)) (o3::o2::(sg2++X)) (seg8++Y) rfl rfl (by simp) (.inl (Nat.le_refl _)) #[.slice v8.a v8.len v8.cap,.i 0,.i i] rfl ?_
   refine hgo i ?_
   cases i with
   |zero=>rfl
   |succ j=>
    show _=if O6 ((l.map Prod.snd).getD (j+1) [])then Ba2 (l.map Prod.snd) j else j+1
    rw[hgd,hbk,if_neg (by decide)]
 ·obtain rfl:i=n:=by omega
  refine .drop (A:=(sO m sv 0 last::(seg++W3 ims))++A) (J:=J) ⟨m,_,rfl,rfl,sv,seg,ims,?_,own,hok,?_,?_⟩ ?_
  ·have:M1 (l.map Prod.snd)=last:=by rw[hlast];unfold M1;rw[hpl,hn]
   rw[this]
  ·rw[hdat]
   congr 1
   rcases Nat.le_total l.length 16 with h16|h16
   ·rw[List.take_of_length_le (by omega),List.take_of_length_le (by omega)]
   ·rw[show i=16 by omega]
  ·intro b hb'
   obtain⟨x,hx,rfl⟩:=List.mem_map.1 hb'
   exact hb x hx
  ·classical
   rw[List.perm_iff_count]at hp⊢
   intro z
   have:=hp z
   simp only[List.append_eq,List.cons_append,List.count_append,List.count_cons,List.count_nil]at this⊢
   omega
theorem Bo7(L B:A4)(m:Nat)(ps:List (List UInt8))(ep:Int)(last:Nat)(hB:SH m ps ep last B)(hs: ∀x∈B,x∈L)(at':Int)(h:Hd):
  CallF PP 284 #[.q (some ⟨m,0,none⟩),.i at',.agg #[.i h.1,.i h.2.1,.i h.2.2.1,.i h.2.2.2.1,.i h.2.2.2.2.1]] L fun r L'=>L'=L/\
   ((Z5 ps at' (h.1,h.2.1,h.2.2.1,ep,at',())=none/\r= .t #[.slice none 0 0,.b false])\/ ∃(v:SlV) (p:List UInt8),Z5 ps at' (h.1,h.2.1,h.2.2.1,ep,at',())=some p/\r= .t #[.slice v.a v.len v.cap,.b true]/\BSl L v p/\p.length<=1000000):=by
 obtain⟨sv,seg,ims,rfl,hh⟩:=hB
 refine CallF.of (args:=[.q (some ⟨m,0,none⟩),.i at',.agg #[.i h.1,.i h.2.1,.i h.2.2.1,.i h.2.2.2.1,.i h.2.2.2.2.1]]) B5 B6 Tryz.func284 (e284 (some ⟨m,0,none⟩) at' h _) ?_
 unfold t284
 have hmO:sO m sv ep last∈L:=hs _ List.mem_cons_self
 have hsl:Sl L sv 7 (ims.flatMap IM.enc):=Sl.mono hh.own.sl fun x hx=>hs x (by simp[hx])
 have hvl:=hsl.els_len IM.enc_len (by decide)
 have hil:=hh.ilen
 refine C3 fun n1 _=>A5 rfl (A6 ep ((s_ep hmO).mono fun x hx=>List.mem_cons_of_mem _ hx) ?_)
 refine E3 (n:=n1) (off:=3) (c:=#[.i h.1,.i h.2.1,.i h.2.2.1,.i h.2.2.2.1,.i h.2.2.2.2.1]) (T:=272) (fz:=(0,0)) [] L rfl rfl (by simp) (.inl (Nat.le_refl _)) #[.i h.1,.i h.2.1,.i h.2.2.1,.i ep,.i h.2.2.2.2.1] rfl ?_
 refine E3 (n:=n1) (off:=4) (T:=272) (fz:=(0,0)) [] L rfl rfl (by simp) (.inl (Nat.le_refl _)) #[.i h.1,.i h.2.1,.i h.2.2.1,.i ep,.i at'] rfl ?_
 rw[List.nil_append]
 generalize hH:((h.1,h.2.1,h.2.2.1,ep,at',()):Hd)=H
 have lH:D4 ⟨n1,0,none⟩ [.i H.1,.i H.2.1,.i H.2.2.1,.i H.2.2.2.1,.i H.2.2.2.2.1] ((n1,Obj.cells #[.i h.1,.i h.2.1,.i h.2.2.1,.i ep,.i at'] 272)::L):=ldB List.mem_cons_self (by rw[<-hH];rfl)
 generalize (n1,Obj.cells #[.i h.1,.i h.2.1,.i h.2.2.1,.i ep,.i at'] 272)=o1 at lH
 have hup: ∀x∈L,x∈o1::L:=fun x hx=>List.mem_cons_of_mem _ hx
 have hno:Z5 ps at' H=none->HL.Ends (fun r L'=>L'=L/\((Z5 ps at' H=none/\r= .t #[.slice none 0 0,.b false])\/ ∃(v:SlV) (p:List UInt8),Z5 ps at' H=some p/\r= .t #[.slice v.a v.len v.cap,.b true]/\BSl L v p/\p.length<=1000000)) (.t #[.slice none 0 0,.b false]) (o1::L):=fun hx=>.cons (.of ⟨rfl,.inl ⟨hx,rfl⟩⟩)
 refine C0 (fun(h1:at'<0)=>hno (by unfold Z5;rw[if_neg (by omega)])) (fun(h1: ¬at'<0)=>?_)
 obtain⟨i,rfl⟩: ∃i:Nat,at'=i:=⟨at'.toNat,by omega⟩
 refine A5 rfl (A6 sv ((C08 hmO).mono hup) (C0 (fun(h2:(i:Int)≥(sv.len:Int))=>hno ?_) (fun(h2: ¬(i:Int)≥(sv.len:Int))=>?_)))
 ·unfold Z5
  by_cases h16:i<16
  ·rw[if_pos (by omega),Int.toNat_natCast,List.getElem?_eq_none (by omega)]
  ·rw[if_neg (by omega)]
 have hi:i<ims.length:=by omega
 obtain⟨hip,i1,i2,i3⟩:=hh.im hi
 obtain⟨a,ha,hld⟩:=hsl.el IM.enc_len (by decide) hi
 have hld':D4 (a.add ((i:Int).toNat*7)) ims[i].enc (o1::L):=by rw[Int.toNat_natCast];exact hld.mono hup
 have g0:(0:Int)<=(i:Int):=by omega
 have g1:(i:Int)<(sv.len:Int):=by omega
 have hsr:Z5 ps (i:Int) H=if(E5 ps[i]).2.2=0/\(E5 ps[i]).1=H then some (E5 ps[i]).2.1 else none:=by
  unfold Z5
  rw[if_pos (by omega),Int.toNat_natCast,List.getElem?_eq_getElem hip]
 refine A5 rfl (A6 sv ((C08 hmO).mono hup) (A5 ha (E0 g0 g1 (A6 ims[i].fine (hld'.one 6 rfl) ?_))))
 rw[i3]
 by_cases hf:(E5 ps[i]).2.2=0
 case neg=>rw[decide_eq_false hf];exact ifT rfl (hno (by rw[hsr,if_neg (fun hx=>hf hx.1)]))
 rw[decide_eq_true hf]
 refine ifF rfl (A5 rfl (A6 sv ((C08 hmO).mono hup) (A5 ha (E0 g0 g1 (A6 ims[i].h (hld'.pre fun j u hu=>?_) (A6 H lH (neHd2 _ _ ?_)))))))
 ·match j,hu with
  |0,hu=>exact hu
  |1,hu=>exact hu
  |2,hu=>exact hu
  |3,hu=>exact hu
  |4,hu=>exact hu
  |j+5,hu=>exact absurd (show(none:Option Value)=some u from hu) (by simp)
 rw[i1]
 by_cases he:(E5 ps[i]).1=H
 case neg=>rw[decide_eq_false he];exact ifT rfl (hno (by rw[hsr,if_neg (fun hx=>he hx.2)]))
 rw[decide_eq_true he]
 refine ifF rfl (A5 rfl (A6 sv ((C08 hmO).mono hup) (A5 ha (E0 g0 g1 (A6 ims[i].g.v (hld'.one 5 rfl) (.cons (.of ⟨rfl,.inr ⟨ims[i].g.v,ims[i].g.l,by rw[hsr,if_pos ⟨hf,he⟩,i2],rfl,?_,?_⟩⟩)))))))
 ·exact Sl.mono (hh.ok _ (List.getElem_mem hi)).sl fun x hx=>hs x (List.mem_cons_of_mem _ (List.mem_append_right _ (List.mem_flatMap.2 ⟨_,List.getElem_mem hi,hx⟩)))
 ·rw[i2]
  have:=At6 ps[i]
  have:=hh.len _ (List.getElem_mem hip)
  omega
def Bt1(o:Option (List It))(A:A4)(r:Value)(L':A4):Prop:=
 (o=none/\L'=A/\ ∃v:SlV,r= .t #[.slice v.a v.len v.cap,.b false])\/ ∃(l:List It) (v:SlV) (seg:A4),o=some l/\r= .t #[.slice v.a v.len v.cap,.b true]/\L'=seg++A/\Own v 3 B48 (l.flatMap O9) seg
theorem Bt1.no{o:Option (List It)}{A:A4}(h:o=none):Bt1 o A (.t #[.slice none 0 0,.b false]) A:=.inl ⟨h,rfl,⟨none,0,0⟩,rfl⟩
theorem B21(p:List UInt8)(n i:Nat)(nx:Int):Af4 p (n+1) i nx=if((G6 p i).1=2\/(G6 p i).1=3)/\(G6 p i).2.2.1≠0/\(G6 p i).2.1=nx then(Af4 p n (i+1) (nx+(G6 p i).2.2.1)).map fun y=>(G6 p i::y.1,y.2)else none:=rfl
theorem B93(p:List UInt8)(i:Nat):0<=(G6 p i).2.2.1/\(G6 p i).2.2.1<=255:=by
 unfold G6
 have:=(p.getD (i*3+2) 0).toNat_lt
 simp only
 omega
theorem C74(L B:A4)(m:Nat)(ps:List (List UInt8))(ep:Int)(hB:SH m ps ep (M1 ps) B)(hs: ∀x∈B,x∈L):CallF PP 285 #[.q (some ⟨m,0,none⟩)] L (Bt1 (A15 ps ep) L):=by
 refine CallF.of (args:=[.q (some ⟨m,0,none⟩)]) B5 B6 Tryz.func285 (e285 (some ⟨m,0,none⟩) _) ?_
 unfold t285
 have hB0:=hB
 obtain⟨sv,seg,ims,hBe,hh⟩:=hB
 have hmO:sO m sv ep (M1 ps)∈L:=hs _ (by rw[hBe];exact List.mem_cons_self)
 refine A5 rfl (A6 (M1 ps:Int) (s_la hmO) ?_)
 refine J5 [] [] (Bo7 L B m ps ep (M1 ps) hB0 hs (M1 ps) (4,0,1,0,0,())) (by simp) ?_
 rintro _ L1-⟨hL1,⟨hn,rfl⟩|⟨v,p,hsm,rfl,hp,hpl⟩⟩
 ·rw[List.nil_append,List.append_nil,hL1]
  exact⟨(⟨none,0,0⟩,false,()),rfl,ifT rfl (.of (Bt1.no (by unfold A15;rw[hn];rfl)))⟩
 rw[List.nil_append,List.append_nil,hL1]
 clear hL1 L1
 refine⟨(v,true,()),rfl,ifF rfl (Ab9 (by decide) ?_)⟩
 have hS:A15 ps ep=Ab6 p (M1 ps):=by unfold A15;rw[hsm];rfl
 rw[hS]
 have hvl:=hp.len
 have htm:Int.tmod (v.len:Int) 3=((p.length%3:Nat):Int):=by rw[Int.tmod_eq_emod_of_nonneg (by omega),hvl];omega
 rw[htm]
 refine O2 (fun(h3:((p.length%3:Nat):Int)≠0)=>.of (Bt1.no (by unfold Ab6;rw[if_pos (by omega)]))) (fun(h3:((p.length%3:Nat):Int)=0)=>?_)
 obtain⟨n,hn⟩: ∃n,p.length=n*3:=⟨p.length/3,by omega⟩
 have hdiv:p.length/3=n:=by omega
 have hR1: ∀y,Af4 p n 0 1=some y->Ab6 p (M1 ps)=if y.2=M1 ps then some y.1 else none:=by
  intro y hy
  unfold Ab6
  rw[if_neg (by omega),hdiv,hy]
 have hR0:Af4 p n 0 1=none->Ab6 p (M1 ps)=none:=by
  intro hy
  unfold Ab6
  rw[if_neg (by omega),hdiv,hy]
 refine G0 (fun z' z L'=> ∃(i:Nat) (b s:SlV) (nx:Int) (ds:List It) (sg J:A4),i<=n/\z'=n-i/\z=(b,s,nx,())/\L'=J++(sg++L)/\Own s 3 B48 (ds.flatMap O9) sg/\ds.length=i/\BSl L b (p.drop (i*3))/\1<=nx/\nx<=1+255*i/\Af4 p n 0 1=(Af4 p (n-i) i nx).map fun y=>(ds++y.1,y.2)) n
  ⟨0,v,⟨none,0,0⟩,1,[],[],[],by omega,by omega,rfl,rfl,F4,rfl,by simpa using hp,by omega,by omega,by simp⟩ ?_
 rintro z' z _ ⟨i,b,s,nx,ds,sg,J,hi,rfl,rfl,rfl,own,hdl,hb,hnx0,hnx1,hG⟩
 have hbl:=hb.len
 rw[List.length_drop]at hbl
 have hbcap:=hb.cap
 have hs1:=own.sl.els_len E1 (by decide)
 refine C0 (fun(hgt:(b.len:Int)>0)=>?_) (fun(hle: ¬(b.len:Int)>0)=>?_)
 ·have hi':i<n:=by omega
  have hB:BSl (J++(sg++L)) b (p.drop (i*3)):=hb.right.right
  have hl3:3<=(p.drop (i*3)).length:=by rw[List.length_drop];omega
  obtain⟨a,ha⟩:=hB.some (i:=0) (by omega)
  have e0:(p.drop (i*3))[0]'(by omega)=p.getD (i*3) 0:=by rw[Az5 (by omega),List.getElem_drop];simp
  have e1:(p.drop (i*3))[1]'(by omega)=p.getD (i*3+1) 0:=by rw[Az5 (by omega),List.getElem_drop]
  have e2:(p.drop (i*3))[2]'(by omega)=p.getD (i*3+2) 0:=by rw[Az5 (by omega),List.getElem_drop]
  have l0:=hB.rd (i:=0) (by omega) ha ((0:Int).toNat*1) rfl
  have l1:=hB.rd (i:=1) (by omega) ha ((1:Int).toNat*1) rfl
  have l2:=hB.rd (i:=2) (by omega) ha ((2:Int).toNat*1) rfl
  rw[e0]at l0
  rw[e1]at l1
  rw[e2]at l2
  refine A5 ha (E0 (by decide) (show(0:Int)<(b.len:Int) by omega) (A5 ha (E0 (by decide) (show(1:Int)<(b.len:Int) by omega) (A5 ha (E0 (by decide) (show(2:Int)<(b.len:Int) by omega) (A6 ((p.getD (i*3) 0).toNat:Int) l0 (A6 ((p.getD (i*3+1) 0).toNat:Int) l1 (A6 ((p.getD (i*3+2) 0).toNat:Int) l2 (C3 fun n1 _=>?_)))))))))
  rw[B66,B66,B66]
  refine E3 (n:=n1) (off:=0) (c:=#[.i 0,.i 0,.i 0]) (T:=B48) (fz:=(0,0)) [] (J++(sg++L)) rfl rfl (by simp) (.inl (Nat.le_refl _)) #[.i (G6 p i).1,.i (G6 p i).2.1,.i (G6 p i).2.2.1] rfl ?_
  rw[List.nil_append]
  generalize ho:((n1,Obj.cells #[.i (G6 p i).1,.i (G6 p i).2.1,.i (G6 p i).2.2.1] B48):Nat×Obj)=o1
  have lc:D4 ⟨n1,0,none⟩ [.i (G6 p i).1,.i (G6 p i).2.1,.i (G6 p i).2.2.1] (o1::(J++(sg++L))):=ldB (by rw[<-ho];exact List.mem_cons_self) rfl
  clear ho
  have hsu:Af4 p (n-i) i nx=if((G6 p i).1=2\/(G6 p i).1=3)/\(G6 p i).2.2.1≠0/\(G6 p i).2.1=nx then(Af4 p (n-(i+1)) (i+1) (nx+(G6 p i).2.2.1)).map fun y=>(G6 p i::y.1,y.2)else none:=by
   rw[show n-i=(n-(i+1))+1 by omega,B21]
  have hno: ¬(((G6 p i).1=2\/(G6 p i).1=3)/\(G6 p i).2.2.1≠0/\(G6 p i).2.1=nx)->HL.Ends (Bt1 (Ab6 p (M1 ps)) L) (.t #[.slice none 0 0,.b false]) (o1::(J++(sg++L))):=by
   intro hx
   rw[hsu,if_neg hx]at hG
   exact .cons (.app (.app (.of (Bt1.no (hR0 (by rw[hG];rfl))))))
  refine A6 (G6 p i).1 (lc.pre fun i u hu=>by cases i with|zero=>exact hu|succ i=>exact absurd (show(none:Option Value)=some u from hu) (by simp)) (B7 (Cf4 _ (G6 p i).1) (decide ((G6 p i).1=2\/(G6 p i).1=3),()) rfl ?_)
  by_cases hk:(G6 p i).1=2\/(G6 p i).1=3
  case neg=>rw[decide_eq_false hk];exact ifT rfl (hno fun h=>hk h.1)
  rw[decide_eq_true hk]
  refine ifF rfl (A6 (G6 p i).2.2.1 (lc.one 2 rfl) (Aa4 (fun(hz:(G6 p i).2.2.1=0)=>hno fun h=>h.2.1 hz) (fun(hz:(G6 p i).2.2.1≠0)=>?_)))
  refine A6 (G6 p i).2.1 (lc.one 1 rfl) (O2 (fun(hx:(G6 p i).2.1≠nx)=>hno fun h=>hx h.2.2) (fun(hx:(G6 p i).2.1=nx)=>?_))
  have hr:=B93 p i
  refine A6 (G6 p i).2.2.1 (lc.one 2 rfl) (A6 (G6 p i) lc (C3 fun n2 _=>?_))
  refine E6 Bs2 B78 ((n2,Obj.cells #[.i (G6 p i).1,.i (G6 p i).2.1,.i (G6 p i).2.2.1] B48)::o1::J) L own (by simp) (n:=1) (ws:=O9 (G6 p i)) (x:=.slice (some ⟨n2,0,none⟩) 1 1) (Src.sl (v:=⟨some ⟨n2,0,none⟩,1,1⟩) ⟨rfl,Nat.le_refl _,.inr ⟨_,rfl,ldB List.mem_cons_self rfl⟩⟩) rfl (by omega) fun s2 sg2 hs2 own2=>?_
  refine K4 (l':=3) (h':=b.len) (m':=b.cap) rfl rfl rfl (by omega) (by omega) (Nat.le_refl _) ?_
  have hcut:BSl L (P1 b ((3:Nat):Int) (b.len:Int) (b.cap:Int) 1) (p.drop ((i+1)*3)):=by
   have h0:=Sl.slc (m:=b.cap) hb (by decide) (l:=3) (h':=b.len) (by omega) (by omega) (by omega)
   rw[Ah1,List.take_of_length_le (by rw[List.length_drop,List.length_drop];omega),List.drop_drop]at h0
   rw[show(i+1)*3=i*3+3 by omega]
   exact h0
  refine⟨n-(i+1),by omega,i+1,_,s2,nx+(G6 p i).2.2.1,ds++[G6 p i],sg2,_,by omega,rfl,?_,List.append_assoc ..,?_,by simp[hdl],hcut,by omega,by omega,?_⟩
  ·rw[C2 (by first|omega|(simp only;omega)) (by first|omega|(simp only;omega))]
  ·rw[List.flatMap_append,List.flatMap_singleton];exact own2
  ·rw[hG,hsu,if_pos ⟨hk,hz,hx⟩,Option.map_map]
   have: ∀y:List It×Int,(ds++(G6 p i::y.1),y.2)=(ds++[G6 p i]++y.1,y.2):=fun y=>by simp
   exact congrArg (fun f=>Option.map f _) (funext this)
 ·obtain rfl:i=n:=by omega
  rw[Nat.sub_self]at hG
  have hG':Af4 p i 0 1=some (ds,nx):=by rw[hG];simp[Af4]
  refine A5 rfl (A6 (M1 ps:Int) ((s_la hmO).mono fun x hx=>by simp[hx]) ?_)
  by_cases hl:nx=M1 ps
  ·have hb2:(nx==(M1 ps:Int))=true:=by simp[hl]
   simp only[hb2]
   refine .app (.of (.inr ⟨ds,s,sg,?_,rfl,rfl,own⟩))
   rw[hR1 _ hG',if_pos hl]
  ·have hb2:(nx==(M1 ps:Int))=false:=by rw[beq_eq_false_iff_ne];exact hl
   simp only[hb2]
   refine .app (.app (.of (.inl ⟨?_,rfl,s,rfl⟩)))
   rw[hR1 _ hG',if_neg hl]
theorem at_cl(L B:A4)(m:Nat)(ps:List (List UInt8))(ep:Int)(last:Nat)(hB:SH m ps ep last B)(hs: ∀x∈B,x∈L)(q:Nat)(hq:q<min ps.length 16):
  CallF PP 287 #[.q (some ⟨m,0,none⟩),.i q] L fun r L'=>L'=L/\((N3 ps ep q=none/\r= .t #[.agg #[.i 0,.i 0,.i 0],.b false])\/ ∃x:It,N3 ps ep q=some x/\r= .t #[itV x,.b true]):=by
 have hB0:=hB
 obtain⟨sv,seg,ims,hBe,hh⟩:=hB
 refine CallF.of (args:=[.q (some ⟨m,0,none⟩),.i q]) B5 B6 Tryz.func287 (e287 (some ⟨m,0,none⟩) q _) ?_
 unfold t287
 have hmO:sO m sv ep last∈L:=hs _ (by rw[hBe];exact List.mem_cons_self)
 have hsl:Sl L sv 7 (ims.flatMap IM.enc):=Sl.mono hh.own.sl fun x hx=>hs x (by rw[hBe];simp[hx])
 have hvl:=hsl.els_len IM.enc_len (by decide)
 have hil:=hh.ilen
 have hi:q<ims.length:=by omega
 obtain⟨hip,i1,i2,i3⟩:=hh.im hi
 obtain⟨a,ha,hld⟩:=hsl.el IM.enc_len (by decide) hi
 refine C3 fun n1 _=>A5 rfl (A6 sv ((C08 hmO).mono fun x hx=>List.mem_cons_of_mem _ hx) (A5 ha (E0 (show(0:Int)<=(q:Int) by omega) (show(q:Int)<(sv.len:Int) by omega) ?_)))
 refine A6 (ims[q].h.1,ims[q].h.2.1,ims[q].h.2.2.1,ims[q].h.2.2.2.1,ims[q].h.2.2.2.2.1,ims[q].g.v,ims[q].fine,()) (by rw[Int.toNat_natCast];exact hld.mono fun x hx=>List.mem_cons_of_mem _ hx) (C3 fun n2 _=>?_)
 have hsz:wr #[.i 0,.i 0,.i 0,.i 0,.i 0,.slice none 0 0,.b false] 0 [.i ims[q].h.1,.i ims[q].h.2.1,.i ims[q].h.2.2.1,.i ims[q].h.2.2.2.1,.i ims[q].h.2.2.2.2.1,.slice ims[q].g.v.a ims[q].g.v.len ims[q].g.v.cap,.b ims[q].fine]=#[.i ims[q].h.1,.i ims[q].h.2.1,.i ims[q].h.2.2.1,.i ims[q].h.2.2.2.1,.i ims[q].h.2.2.2.2.1,.slice ims[q].g.v.a ims[q].g.v.len ims[q].g.v.cap,.b ims[q].fine]:=Cz7 _ _ rfl
 refine E3 (n:=n2) (off:=0) (c:=#[.i 0,.i 0,.i 0,.i 0,.i 0,.slice none 0 0,.b false]) (T:=eIm) (fz:=(0,0)) [] _ rfl rfl (by simp) (.inl (Nat.le_refl _)) _ hsz ?_
 rw[List.nil_append]
 generalize ho2:((n2,Obj.cells #[.i ims[q].h.1,.i ims[q].h.2.1,.i ims[q].h.2.2.1,.i ims[q].h.2.2.2.1,.i ims[q].h.2.2.2.2.1,.slice ims[q].g.v.a ims[q].g.v.len ims[q].g.v.cap,.b ims[q].fine] eIm):Nat×Obj)=o2
 have lc: ∀Z:A4,o2∈Z->D4 ⟨n2,0,none⟩ [.i ims[q].h.1,.i ims[q].h.2.1,.i ims[q].h.2.2.1,.i ims[q].h.2.2.2.1,.i ims[q].h.2.2.2.2.1,.slice ims[q].g.v.a ims[q].g.v.len ims[q].g.v.cap,.b ims[q].fine] Z:=fun Z hm=>ldB (by rw[<-ho2]at hm;exact hm) rfl
 clear ho2 hsz
 have lk: ∀Z:A4,o2∈Z->D4 ⟨n2,0,none⟩ [.i ims[q].h.1] Z:=fun Z hm=>(lc Z hm).pre fun i u hu=>by cases i with|zero=>exact hu|succ i=>exact absurd (show(none:Option Value)=some u from hu) (by simp)
 have hfr:N3 ps ep q=if(E5 ps[q]).2.2=0/\((E5 ps[q]).1.1=2\/(E5 ps[q]).1.1=3)then
   if(List.range (E5 ps[q]).1.2.2.1.toNat).all (fun i=>(Z5 ps ((q:Int)+i) ((E5 ps[q]).1.1,i,(E5 ps[q]).1.2.2.1,ep,(q:Int)+i,())).isSome)=true then some ((E5 ps[q]).1.1,((q:Nat):Int),(E5 ps[q]).1.2.2.1,())else none
  else none:=by unfold N3;rw[List.getElem?_eq_getElem hip]
 generalize hz0:((n1,Obj.cells #[.i 0,.i 0,.i 0] 215):Nat×Obj)=o1
 have hzz: ∀(Z:A4),N3 ps ep q=none->st ⟨n1,0,none⟩ [.i 0,.i 0,.i 0] (ld ⟨n1,0,none⟩ (.agg [.int .i64,.int .i64,.int .i64]) fun v4=>HL.Ends (fun r L'=>L'=L/\((N3 ps ep q=none/\r= .t #[.agg #[.i 0,.i 0,.i 0],.b false])\/ ∃x:It,N3 ps ep q=some x/\r= .t #[itV x,.b true])) (.t #[.agg #[.i v4.1,.i v4.2.1,.i v4.2.2.1],.b false])) (o2::o1::L):=by
  intro Z hx
  refine E3 (n:=n1) (off:=0) (c:=#[.i 0,.i 0,.i 0]) (T:=215) (fz:=(0,0)) [o2] L rfl (by rw[<-hz0];rfl) (by simp) (.inl (Nat.le_refl _)) #[.i 0,.i 0,.i 0] rfl ?_
  exact A6 (0,0,0,()) (ldB (n:=n1) (off:=0) (c:=#[.i 0,.i 0,.i 0]) (T:=215) (fz:=(0,0)) (by simp) rfl) (.cons (.cons (.of ⟨rfl,.inl ⟨hx,rfl⟩⟩)))
 have hm2:o2∈o2::o1::L:=List.mem_cons_self
 refine A6 ims[q].fine ((lc _ hm2).one 6 rfl) ?_
 rw[i3]
 by_cases hf:(E5 ps[q]).2.2=0
 case neg=>rw[decide_eq_false hf];exact ifT rfl (hzz [] (by rw[hfr,if_neg (fun h=>hf h.1)]))
 rw[decide_eq_true hf]
 refine ifF rfl (A6 ims[q].h.1 (lk _ hm2) (B7 (Cf4 _ ims[q].h.1) (decide (ims[q].h.1=2\/ims[q].h.1=3),()) rfl ?_))
 by_cases hk:ims[q].h.1=2\/ims[q].h.1=3
 case neg=>rw[decide_eq_false hk];exact ifT rfl (hzz [] (by rw[hfr,if_neg (fun h=>hk (by rw[i1];exact h.2))]))
 rw[decide_eq_true hk]
 rw[i1]at lc lk hk
 simp only[i1]
 have hok:=Ab1 (Bv7 hf)
 generalize hH:(E5 ps[q]).1=H at*
 refine ifF rfl (A6 H.2.2.1 ((lc _ hm2).one 2 rfl) ?_)
 refine G0 (fun z' z L'=>L'=o2::o1::L/\ ∃i:Nat,(i:Int)<=H.2.2.1/\z'=H.2.2.1.toNat-i/\z=((i:Int),())/\ ∀j,j<i->(Z5 ps ((q:Int)+j) (H.1,j,H.2.2.1,ep,(q:Int)+j,())).isSome=true) H.2.2.1.toNat ⟨rfl,0,by omega,by omega,rfl,by omega⟩ ?_
 rintro z' z _ ⟨rfl,i,hi,rfl,rfl,hall⟩
 refine C0 (fun(hlt:(i:Int)<H.2.2.1)=>?_) (fun(hge: ¬(i:Int)<H.2.2.1)=>?_)
 ·refine A6 H.1 (lk _ hm2) (A6 H.2.2.1 ((lc _ hm2).one 2 rfl) ?_)
  have hwi:IntKind.i64.wrap ((q:Int)+(i:Int))=(q:Int)+i:=C2 (by omega) (by omega)
  simp only[hwi]
  refine J5 [] [] (Bo7 (o2::o1::L) B m ps ep last hB0 (fun x hx=>List.mem_cons_of_mem _ (List.mem_cons_of_mem _ (hs x hx))) ((q:Int)+i) (H.1,i,H.2.2.1,0,0,())) (by simp) ?_
  rintro _ L1-⟨hL1,⟨hn,rfl⟩|⟨v,p,hsm,rfl,-,-⟩⟩
  ·rw[List.nil_append,List.append_nil,hL1]
   refine⟨(⟨none,0,0⟩,false,()),rfl,ifT rfl (hzz [] ?_)⟩
   rw[hfr,if_pos ⟨hf,hk⟩,if_neg]
   intro hx
   rw[List.all_eq_true]at hx
   have:=hx i (List.mem_range.2 (by omega))
   rw[hn]at this
   cases this
  ·rw[List.nil_append,List.append_nil,hL1]
   refine⟨(v,true,()),rfl,ifF rfl ⟨H.2.2.1.toNat-(i+1),by omega,rfl,i+1,by omega,rfl,?_,fun j hj=>?_⟩⟩
   ·rw[C2 (by first|omega|(simp only;omega)) (by first|omega|(simp only;omega))]
    rfl
   ·rcases Nat.lt_or_ge j i with h5|h5
    ·exact hall j h5
    ·obtain rfl:j=i:=by omega
     rw[hsm];rfl
 ·refine A6 H.1 (lk _ hm2) (A6 H.2.2.1 ((lc _ hm2).one 2 rfl) ?_)
  refine E3 (n:=n1) (off:=0) (c:=#[.i 0,.i 0,.i 0]) (T:=215) (fz:=(0,0)) [o2] L rfl (by rw[<-hz0];rfl) (by simp) (.inl (Nat.le_refl _)) #[.i H.1,.i q,.i H.2.2.1] rfl ?_
  refine A6 (H.1,(q:Int),H.2.2.1,()) (ldB (n:=n1) (off:=0) (c:=#[.i H.1,.i q,.i H.2.2.1]) (T:=215) (fz:=(0,0)) (by simp) rfl) (.cons (.cons (.of ⟨rfl,.inr ⟨(H.1,(q:Int),H.2.2.1,()),?_,rfl⟩⟩)))
  rw[hfr,if_pos ⟨hf,hk⟩,if_pos]
  rw[List.all_eq_true]
  intro j hj
  exact hall j (by have:=List.mem_range.1 hj;omega)
end Go.Proofs.YtbaoieipijmakaaGreatDoor
namespace Go.HL
section
variable {P:Program} {w:World}
end
section
variable {P:Program} {L:A4}
theorem As0{t t2 ty e:TypeId}{i:TypeInfo}{z:Value}{ik:IntKind}(ht:P.underlying t=some (.slice e))(h2:P.underlying t2=some (.int ik))(hi:P.info? e=some i)(hz:i.zero=some z)(hs:0<i.size){n:Nat}(h0:0<n)(h63:(n:Int)<=9223372036854775807)(hb:n*i.bytes<=281474976710656)(w:World):
  (Builtin.append_ #[t,t2] ty #[.slice none 0 0,.int .i64 (n:Int)]).run P w=
   .ok (.slice (some ⟨w.heap.size,0,none⟩) n (grownCap w n 0 e)) (w.drew.alloc (.cells (#[]++Builtin.zeroCells z.cells n++Builtin.zeroCells z.cells (grownCap w n 0 e-n)) e)):=by
 have hw:IntKind.i64.wrap (n:Int)=n:=C2 (by omega) (by omega)
 have h1: ¬((n:Int)<0):=by omega
 have hbi: ¬(281474976710656<(n:Int)*(i.bytes:Int)):=by
  have:((n*i.bytes:Nat):Int)<=281474976710656:=by omega
  rw[Int.natCast_mul]at this
  omega
 have hn:n≠0:=by omega
 have hns:n*i.size≠0:=Nat.mul_ne_zero hn (by omega)
 have hns2: ¬(n=0\/i.size=0):=by omega
 have h48': ¬(281474976710656<Builtin.nextslicecap n 0*i.bytes):=by rw[nextslicecap_zero h0];omega
 have h63': ¬(9223372036854775807<(n:Int)):=by omega
 have hs0:i.size≠0:=by omega
 simp[Builtin.append_,run_underlying ht,run_underlying h2,sizeOf,typeInfo,zeroValue,hi,hz,asInt,asIntOf,hw,h1,hbi,hn,hs0,hns,hns2,h48',h63',Question.forced,run_firstCells_none,newRow,grownCap]
theorem Cw0{t t2 ty e:TypeId}{sz bytes:Nat}{z:List Value}{ik:IntKind}(hT:U8 P t e sz bytes z)(h2:P.underlying t2=some (.int ik)){n:Nat}(h0:0<n)(hb:n*bytes<=140737488355328){k:RsV [.lf .sl]->HP}
  (hk: ∀q cap ob,n<=cap->Own ⟨some ⟨q,0,none⟩,0,cap⟩ sz e [] [(q,ob)]->k (⟨some ⟨q,0,none⟩,n,cap⟩,()) ((q,ob)::L)):
  smW P (Builtin.append_ #[t,t2] ty #[.slice none 0 0,.int .i64 (n:Int)]) [.lf .sl] k L:=by
 obtain⟨i,hi,his,hib,zv,hz,hzl⟩:=hT.info
 subst his hib
 intro E F w hw
 have hle:n<=n*i.bytes:=Nat.le_mul_of_pos_right _ hT.bpos
 have hzs:zv.cells.size=i.size:=by rw[<-hT.zlen,<-hzl];simp
 have hr:=As0 (ty:=ty) hT.und h2 hi hz hT.pos h0 (by omega) (by omega) w
 have hge:=grownCap_ge w n 0 e
 refine⟨_,_,(w.heap.size,Obj.cells (#[]++Builtin.zeroCells zv.cells n++Builtin.zeroCells zv.cells (grownCap w n 0 e-n)) e)::L,hr,?_,(⟨some ⟨w.heap.size,0,none⟩,n,grownCap w n 0 e⟩,()),rfl,?_⟩
 ·exact(hw.drew _).push (.cells (#[]++Builtin.zeroCells zv.cells n++Builtin.zeroCells zv.cells (grownCap w n 0 e-n)) e)
 ·refine hk _ _ _ hge ⟨by simp,Nat.zero_le _,.inr ⟨w.heap.size,0,_,(0,0),rfl,rfl,?_,.inl (Nat.le_refl _),fun j u hu=>by simp at hu⟩⟩
  simp only[Array.size_append,Aa8,hzs]
  simp only[List.size_toArray,List.length_nil,Nat.zero_add,<-Nat.add_mul]
  rw[show n+(grownCap w n 0 e-n)=grownCap w n 0 e by omega]
  simp
end
def Fr(R:A4)(N' N:HP):Prop:= ∀L L2 J,N' L->L2.Perm (L++(R++J))->N L2
def elp(a:Option Addr)(len:Nat)(i:Int)(sz:Nat)(k:Addr->HP):HP:=A9 a fun ad=>ixn i len (k (ad.add (i.toNat*sz)))
def w64(e:Int)(k:Int->HP):HP:=k (IntKind.i64.wrap e)
def apv(P:Program)(t t2 ty e:TypeId)(v:SlV)(n:Nat)(ws:List Value)(k:SlV->HP):HP:=fun L=>
 ∀m,Au5 P (Builtin.append_ #[t,t2] ty #[.slice v.a v.len v.cap,.slice (some ⟨m,0,none⟩) n n]) (fun r L'=> ∃s L0,r= .slice s.a s.len s.cap/\L'.Perm ((m,Obj.cells ws.toArray e)::L0)/\k s L0) ((m,Obj.cells ws.toArray e)::L)
def ldX(sh:Sh)(cs:List Value)(off:Nat):Option (ShV sh):=
 match sh with
 | .lf l=>match cs.drop off with|v::_=>l.of v|[]=>none
 | .agg ls=>Ce3 ls ((cs.drop off).take ls.length)
def wrO:List Value->Nat->List Value->Option (List Value)
 |cs,0,[]=>some cs
 |c::cs,0,w::ws=>match wrO cs 0 ws with|some r=>some (w::r)|none=>none
 |c::cs,i+1,ws=>match wrO cs i ws with|some r=>some (c::r)|none=>none
 |[],_,_=>none
def Cn1:A4->Nat->Option (Nat×Obj)
 |p::r,0=>some p
 |p::r,i+1=>Cn1 r i
 |[],_=>none
def setO:A4->Nat->Nat×Obj->Option A4
 |p::r,0,x=>some (x::r)
 |p::r,i+1,x=>match setO r i x with|some r'=>some (p::r')|none=>none
 |[],_,_=>none
def delO:A4->Nat->Option A4
 |p::r,0=>some r
 |p::r,i+1=>match delO r i with|some r'=>some (p::r')|none=>none
 |[],_=>none
theorem Ac6: ∀{R:A4} {i:Nat} {p:Nat×Obj},Cn1 R i=some p-> ∃A B,R=A++p::B/\(∀x R',setO R i x=some R'->R'=A++x::B)/\(∀R',delO R i=some R'->R'=A++B)
 |p::r,0,q,h=>by
  simp only[Cn1,Option.some.injEq]at h;subst h
  exact⟨[],r,rfl,fun x R' h=>by simp only[setO,Option.some.injEq]at h;exact h.symm,fun R' h=>by simp only[delO,Option.some.injEq]at h;exact h.symm⟩
 |p::r,i+1,q,h=>by
  simp only[Cn1]at h
  obtain⟨A,B,rfl,h1,h2⟩:=Ac6 h
  refine⟨p::A,B,rfl,fun x R' h=>?_,fun R' h=>?_⟩
  ·simp only[setO]at h
   split at h
   ·rename_i r' hr;obtain rfl:=Option.some.inj h;rw[h1 _ _ hr];rfl
   ·cases h
  ·simp only[delO]at h
   split at h
   ·rename_i r' hr;obtain rfl:=Option.some.inj h;rw[h2 _ hr];rfl
   ·cases h
 |[],_,_,h=>by simp[Cn1]at h
theorem Cu1{sh:Sh}{cs:List Value}{off:Nat}{x:ShV sh}(h:ldX sh cs off=some x): ∀(i:Nat) (v:Value),(sh.vals x)[i]?=some v->cs[off+i]?=some v:=by
 intro i v hv
 cases sh with
 |lf l=>
  simp only[ldX]at h
  split at h
  ·rename_i u r hu
   have:=Lf.of_spec h
   cases i with
   |zero=>
    have h2:l.val x=v:=by simpa[Sh.vals]using hv
    have h3:(cs.drop off)[0]?=some u:=by rw[hu];rfl
    rw[List.getElem?_drop]at h3
    rw[h3,<-this,h2]
   |succ i=>simp[Sh.vals]at hv
  ·cases h
 |agg ls=>
  simp only[ldX]at h
  have h1:=Ap3 h
  have h3:((cs.drop off).take ls.length)[i]?=some v:=by rw[<-h1];exact hv
  rw[List.getElem?_take]at h3
  split at h3
  ·rwa [List.getElem?_drop]at h3
  ·cases h3
theorem A69: ∀(cs:List Value) (off:Nat) (ws cs':List Value),wrO cs off ws=some cs'->off+ws.length<=cs.length/\wr cs.toArray off ws=cs'.toArray
 |cs,0,[],cs',h=>by cases cs<;>simp only[wrO,Option.some.injEq]at h<;>subst h<;>exact⟨by simp,rfl⟩
 |c::cs,0,w::ws,cs',h=>by
  simp only[wrO]at h
  split at h
  ·rename_i r hr
   obtain rfl:=Option.some.inj h
   obtain⟨h1,h2⟩:=A69 cs 0 ws r hr
   have hl:(0:Nat)+(w::ws).length<=(c::cs).length:=by simp only[List.length_cons]at*;omega
   refine⟨hl,?_⟩
   apply Array.ext_getElem?
   intro j
   rw[Ae6 _ _ _ _ (by simpa using hl)]
   cases j with
   |zero=>simp
   |succ j=>
    have h3:=Ae6 ws cs.toArray 0 j (by simpa using h1)
    rw[h2]at h3
    simp only[List.getElem?_toArray,List.getElem?_cons_succ,List.length_cons,Nat.zero_add,Nat.sub_zero,Nat.zero_le,true_and]at h3⊢
    rw[h3]
    by_cases hj:j<ws.length
    ·rw[if_pos hj,if_pos (by omega)]
    ·rw[if_neg hj,if_neg (by omega)]
  ·cases h
 |c::cs,i+1,ws,cs',h=>by
  simp only[wrO]at h
  split at h
  ·rename_i r hr
   obtain rfl:=Option.some.inj h
   obtain⟨h1,h2⟩:=A69 cs i ws r hr
   have hl:i+1+ws.length<=(c::cs).length:=by simp only[List.length_cons];omega
   refine⟨hl,?_⟩
   apply Array.ext_getElem?
   intro j
   rw[Ae6 _ _ _ _ (by simpa using hl)]
   cases j with
   |zero=>simp
   |succ j=>
    have h3:=Ae6 ws cs.toArray i j (by simpa using h1)
    rw[h2]at h3
    simp only[List.getElem?_toArray,List.getElem?_cons_succ]at h3⊢
    rw[h3]
    by_cases hj:i<=j/\j<i+ws.length
    ·rw[if_pos hj,if_pos (by omega),show j+1-(i+1)=j-i by omega]
    ·rw[if_neg hj,if_neg (by omega)]
  ·cases h
 |[],0,w::ws,_,h=>by simp[wrO]at h
 |[],i+1,ws,_,h=>by simp[wrO]at h
theorem Ct2{A2 B2 L A B J:A4}{x y:Nat×Obj}(hp:(A2++x::B2).Perm (L++(A++x::B++J))):(A2++y::B2).Perm (L++(A++y::B++J)):=by
 classical
 rw[List.perm_iff_count]
 intro z
 have:=hp.count_eq z
 simp only[List.count_append,List.count_cons]at this⊢
 omega
theorem Bq6{L A B J:A4}{x:Nat×Obj}:x∈L++(A++x::B++J):=List.mem_append_right _ (List.mem_append_left _ (List.mem_append_right _ List.mem_cons_self))
theorem Sat.sub{L L2 G:A4}(h:Sat L2)(hp:L2.Perm (L++G)):Sat L:=by
 obtain⟨E,F,w,hw⟩:=h
 exact⟨E,G++F,w,by rw[<-List.append_assoc];exact hw.perm (hp.append_right F)⟩
theorem D4.perm{ad:Addr}{vs:List Value}{L L2 G:A4}(h:D4 ad vs L)(hp:L2.Perm (L++G)):D4 ad vs L2:=h.mono fun p hq=>hp.symm.subset (List.mem_append_left _ hq)
section
variable {P:Program} {R:A4}
theorem D3{a b:HP}{L:A4}(h:Fr [] a b)(ha:a L):b L:=h L L [] ha (by simp)
theorem A7{K:Value->HP}{v:Value}:Fr R (Ends K v) (Ends K v):=by
 rintro L L2 J ⟨A,B,hp,hK⟩ h2
 exact⟨A,B++(R++J),by rw[<-List.append_assoc];exact h2.trans (hp.append_right _),hK⟩
theorem fr_ff{N:HP}:Fr R ff N:=fun _ _ _ h=>h.elim
theorem R9{o:Obj}{k' k:Nat->HP}(h: ∀n,Fr R (k' n) (k n)):Fr R (nw o k') (nw o k):=fun L L2 J hN hp n hs=>
 h n _ _ J (hN n (hs.sub (G:=R++J) (hp.cons _))) (hp.cons _)
theorem D2{o:Obj}{k':HP}{k:Nat->HP}(h: ∀n,Fr ((n,o)::R) k' (k n)):Fr R k' (nw o k):=fun L L2 J hN hp n hs=>
 h n L _ J hN ((hp.cons _).trans List.perm_middle.symm)
theorem B9{ad:Addr}{sh:Sh}{k' k:ShV sh->HP}(h: ∀x,Fr R (k' x) (k x)):Fr R (ld ad sh k') (ld ad sh k):=fun L L2 J ⟨x,hx,hk⟩ hp=>⟨x,hx.perm hp,h x _ _ J hk hp⟩
theorem B0(i off:Nat){ad:Addr}{sh:Sh}{k':HP}{k:ShV sh->HP}{n:Nat}{cs:List Value}{T:TypeId}{fz:Nat×Nat}{x:ShV sh}(hi:Cn1 R i=some (n,Obj.cells cs.toArray T fz))(had:ad=⟨n,off,none⟩)(hx:ldX sh cs off=some x)(h:Fr R k' (k x)):Fr R k' (ld ad sh k):=by
 intro L L2 J hk hp
 obtain⟨A,B,rfl,_⟩:=Ac6 hi
 subst had
 refine⟨x,⟨_,T,fz,hp.symm.subset Bq6,rfl,fun j v hv=>?_⟩,h _ _ J hk hp⟩
 simpa using Cu1 hx j v hv
theorem Ac7{ad:Addr}{ws:List Value}{k' k:HP}(h:Fr R k' k):Fr R (st ad ws k') (st ad ws k):=by
 rintro L L2 J ⟨A,B,c,T,fz,rfl,hs,h1,h2,hk⟩ hp
 obtain⟨A2,B2,rfl⟩:=List.append_of_mem (hp.symm.subset (show(ad.block,Obj.cells c T fz)∈(A++(ad.block,Obj.cells c T fz)::B)++(R++J) by simp))
 refine⟨A2,B2,c,T,fz,rfl,hs,h1,h2,h _ _ J hk ?_⟩
 have h3:(A2++B2).Perm (A++(B++(R++J))):=by
  have h4:((ad.block,Obj.cells c T fz)::(A2++B2)).Perm ((ad.block,Obj.cells c T fz)::(A++(B++(R++J)))):=by
   refine List.perm_middle.symm.trans (hp.trans ?_)
   rw[List.append_assoc,List.cons_append]
   exact List.perm_middle
  exact(List.perm_cons _).1 h4
 refine List.perm_middle.trans (((h3.cons _)).trans ?_)
 rw[List.append_assoc,List.cons_append]
 exact List.perm_middle.symm
theorem F6(i off:Nat){ad:Addr}{ws cs cs':List Value}{k' k:HP}{n:Nat}{T:TypeId}{R':A4}(hi:Cn1 R i=some (n,Obj.cells cs.toArray T (0,0)))(had:ad=⟨n,off,none⟩)(hw:wrO cs off ws=some cs')(hs:setO R i (n,Obj.cells cs'.toArray T (0,0))=some R')(h:Fr R' k' k):Fr R k' (st ad ws k):=by
 intro L L2 J hk hp
 obtain⟨A,B,rfl,hset,_⟩:=Ac6 hi
 obtain rfl:=hset _ _ hs
 subst had
 obtain⟨h1,h2⟩:=A69 _ _ _ _ hw
 obtain⟨A2,B2,rfl⟩:=List.append_of_mem (hp.symm.subset (Bq6 (L:=L)))
 refine⟨A2,B2,_,T,(0,0),rfl,rfl,by simpa using h1,fun j hj=>by simp,?_⟩
 simp only[h2]
 exact h _ _ J hk (Ct2 hp)
theorem De0{R':A4}{a b:HP}(hp:R.Perm R')(h:Fr R' a b):Fr R a b:=fun L L2 J ha h2=>h L L2 J ha (h2.trans ((hp.append_right J).append_left L))
theorem H3(i:Nat){a b:HP}{p:Nat×Obj}{R':A4}(hi:Cn1 R i=some p)(hd:delO R i=some R')(h:Fr (p::R') a b):Fr R a b:=by
 obtain⟨A,B,rfl,_,hdel⟩:=Ac6 hi
 obtain rfl:=hdel _ hd
 exact De0 List.perm_middle h
theorem F8{R' G:A4}{a b:HP}(h:Fr R' a b)(hR:R=R'++G):Fr R a b:=by
 subst hR
 intro L L2 J ha hp
 exact h L L2 (G++J) ha (by rw[List.append_assoc]at hp;exact hp)
theorem S1{ad:Addr}{vs:List Value}{k' k:HP}(h:Fr R k' k):Fr R (keep (D4 ad vs) k') (keep (D4 ad vs) k):=fun L L2 J ⟨h1,h2⟩ hp=>⟨h1.perm hp,h _ _ J h2 hp⟩
theorem RdV.perm{s:Sem Value}{v:Value}{L L2 G:A4}(h:RdV P s v L)(hp:L2.Perm (L++G)):RdV P s v L2:=fun E F w hw=>h E (G++F) w (by rw[<-List.append_assoc];exact hw.perm (hp.append_right F))
theorem Au5.fr{s:Sem Value}{K:Value->HP}{L L2 G:A4}(h:Au5 P s K L)(hp:L2.Perm (L++G)):Au5 P s (fun v L'=> ∃L0,L'=L0++G/\K v L0) L2:=by
 intro E F w hw
 obtain⟨v,w',L',h1,h2,h3⟩:=h E (G++F) w (by rw[<-List.append_assoc];exact hw.perm (hp.append_right F))
 exact⟨v,w',L'++G,h1,by rw[List.append_assoc];exact h2,L',rfl,h3⟩
theorem Au5.mono{s:Sem Value}{K K':Value->HP}{L:A4}(h:Au5 P s K L)(hk: ∀v L',K v L'->K' v L'):Au5 P s K' L:=by
 intro E F w hw
 obtain⟨v,w',L',h1,h2,h3⟩:=h E F w hw
 exact⟨v,w',L',h1,h2,hk _ _ h3⟩
theorem M5(i off:Nat){ad:Addr}{vs cs:List Value}{k' k:HP}{n:Nat}{T:TypeId}{fz:Nat×Nat}(hi:Cn1 R i=some (n,Obj.cells cs.toArray T fz))(had:ad=⟨n,off,none⟩)(hx:(cs.drop off).take vs.length=vs)(h:Fr R k' k):Fr R k' (keep (D4 ad vs) k):=by
 intro L L2 J hk hp
 obtain⟨A,B,rfl,_⟩:=Ac6 hi
 subst had
 exact⟨ldB (hp.symm.subset Bq6) (by simpa using hx),h _ _ J hk hp⟩
theorem CallF.fr{f:FuncId}{args:Array Value}{K:Value->HP}{L L2 G:A4}(h:CallF P f args L K)(hp:L2.Perm (L++G)):CallF P f args L2 fun v L'=> ∃L0,L'=L0++G/\K v L0:=CallF.perm hp.symm (CallF.frame (R:=G) h)
theorem B3{f:FuncId}{args:Array Value}{rs:List Sh}{k' k:RsV rs->HP}(h: ∀r,Fr R (k' r) (k r)):Fr R (cl P f args rs k') (cl P f args rs k):=fun L L2 J hc hp=>
 CallF.mono (CallF.fr hc hp) (by rintro v L'-⟨L0,rfl,r,hr,hk⟩;exact⟨r,hr,h r _ _ J hk (List.Perm.refl _)⟩)
theorem A53{f:Fn}{args captured:Array Value}{rs:List Sh}{k' k:RsV rs->HP}(h: ∀r,Fr R (k' r) (k r)):Fr R (clv P f args captured rs k') (clv P f args captured rs k):=fun L L2 J ⟨g,h1,h2,hc⟩ hp=>
 ⟨g,h1,h2,CallF.mono (CallF.fr hc hp) (by rintro v L'-⟨L0,rfl,r,hr,hk⟩;exact⟨r,hr,h r _ _ J hk (List.Perm.refl _)⟩)⟩
theorem C1{t:Bool}{A' A B' B:HP}(h1:Fr R A' A)(h2:Fr R B' B):Fr R (ifB t A' B') (ifB t A B):=by cases t<;>assumption
theorem K3{t:Bool}{A' A B' B:HP}(h1:Fr R A' A)(h2:Fr R B' B):Fr R (ifB t B' A') (ifB (!t) A B):=by cases t<;>assumption
theorem E2{x y:Int}{A' A B' B:HP}(h1:Fr R A' A)(h2:Fr R B' B):Fr R (ifB (decide (x=y)) A' B') (ifB (x==y) A B):=by
 by_cases h:x=y
 ·rw[decide_eq_true h,beq_iff_eq.2 h];exact h1
 ·rw[decide_eq_false h,beq_eq_false_iff_ne.2 h];exact h2
theorem E4{x y:Int}{A' A B' B:HP}(h1:Fr R A' A)(h2:Fr R B' B):Fr R (ifB (decide (x=y)) B' A') (ifB (x !=y) A B):=by
 by_cases h:x=y
 ·rw[decide_eq_true h];simp only[bne,beq_iff_eq.2 h,Bool.not_true];exact h2
 ·rw[decide_eq_false h];simp only[bne,beq_eq_false_iff_ne.2 h,Bool.not_false];exact h1
theorem Ch4{x y:ByteArray}{A' A B' B:HP}(h1:Fr R A' A)(h2:Fr R B' B):Fr R (ifB (decide (x=y)) A' B') (ifB (x.toList==y.toList) A B):=by rw[C63];exact C1 h1 h2
theorem C4{p:Option Addr}{k' k:Addr->HP}(h: ∀a,p=some a->Fr R (k' a) (k a)):Fr R (A9 p k') (A9 p k):=by
 cases p with
 |none=>exact fr_ff
 |some a=>exact h a rfl
theorem B1{p:Option Addr}{a:Addr}{k':HP}{k:Addr->HP}(hp:p=some a)(h:Fr R k' (k a)):Fr R k' (A9 p k):=by subst hp;exact h
theorem fr_req{p:Prop}{k' k:HP}(h:Fr R k' k):Fr R (req p k') (req p k):=fun L L2 J ⟨h1,h2⟩ hp=>⟨h1,h _ _ J h2 hp⟩
theorem Dd9{p:Prop}{k' k:HP}(hq:p)(h:Fr R k' k):Fr R k' (req p k):=fun L L2 J h2 hp=>⟨hq,h _ _ J h2 hp⟩
theorem G8{a:Option Addr}{len:Nat}{i:Int}{sz:Nat}{k':Addr->HP}{k:Addr->HP}(h: ∀b,(a=some b/\0<=i/\i<len)->Fr R (k' (b.add (i.toNat*sz))) (k b)):Fr R (elp a len i sz k') (A9 a fun b=>ixn i len (k b)):=by
 cases a with
 |none=>exact fr_ff
 |some b=>
  rintro L L2 J ⟨h1,h2⟩ hp
  exact⟨h1,h _ ⟨rfl,h1⟩ _ _ J h2 hp⟩
theorem Ba8{a:Option Addr}{len:Nat}{i:Int}{b:Addr}{k':HP}{k:Addr->HP}(he:a=some b/\0<=i/\i<len)(h:Fr R k' (k b)):Fr R k' (A9 a fun b=>ixn i len (k b)):=by
 obtain⟨rfl,h1⟩:=he
 intro L L2 J h2 hp
 exact⟨h1,h _ _ J h2 hp⟩
theorem Az7{v:SlV}{l h' m:Int}{sz:Nat}{k' k:SlV->HP}(h: ∀s,Fr R (k' s) (k s)):Fr R (slc v l h' m sz k') (slc v l h' m sz k):=fr_req (h _)
theorem D1{e:Int}{k':Int->HP}{N:HP}(h:Fr R (k' (IntKind.i64.wrap e)) N):Fr R (w64 e k') N:=h
theorem Ch3{s:Sem Value}{sh:Sh}{k' k:ShV sh->HP}(h: ∀r,Fr R (k' r) (k r)):Fr R (smP P s sh k') (smP P s sh k):=fun L L2 J ⟨r,h1,h2⟩ hp=>⟨r,h1,h r _ _ J h2 hp⟩
theorem Bj2{s:Sem Value}{sh:List Sh}{k' k:RsV sh->HP}(h: ∀r,Fr R (k' r) (k r)):Fr R (smR P s sh k') (smR P s sh k):=fun L L2 J ⟨r,h1,h2⟩ hp=>⟨r,h1.perm hp,h r _ _ J h2 hp⟩
theorem Aj7{s:Sem Value}{sh:List Sh}{k' k:RsV sh->HP}(h: ∀r,Fr R (k' r) (k r)):Fr R (smW P s sh k') (smW P s sh k):=fun L L2 J hc hp=>
 (Au5.fr hc hp).mono (by rintro v L' ⟨L0,rfl,r,hr,hk⟩;exact⟨r,hr,h r _ _ J hk (List.Perm.refl _)⟩)
theorem Bx9{s:Sem Unit}{k' k:HP}(h:Fr R k' k):Fr R (smU P s k') (smU P s k):=by
 intro L L2 J hc hp E F w hw
 obtain⟨w',L',h1,h2,h3⟩:=hc E ((R++J)++F) w (by rw[<-List.append_assoc];exact hw.perm (hp.append_right F))
 exact⟨w',L'++(R++J),h1,by rw[List.append_assoc];exact h2,h _ _ J h3 (List.Perm.refl _)⟩
theorem Z0(i:Nat){t t2 ty e:TypeId}{v:SlV}{n m:Nat}{ws:List Value}{k':SlV->HP}{k:RsV [.lf .sl]->HP}(hi:Cn1 R i=some (m,Obj.cells ws.toArray e (0,0)))(h: ∀s:SlV,Fr R (k' s) (k (s,()))):
  Fr R (apv P t t2 ty e v n ws k') (smW P (Builtin.append_ #[t,t2] ty #[.slice v.a v.len v.cap,.slice (some ⟨m,0,none⟩) n n]) [.lf .sl] k):=by
 intro L L2 J hc hp
 obtain⟨A,B,rfl,_⟩:=Ac6 hi
 have hp2:L2.Perm (((m,Obj.cells ws.toArray e (0,0))::L)++(A++B++J)):=hp.trans (by
  classical
  rw[List.perm_iff_count]
  intro z
  simp only[List.count_append,List.count_cons]
  omega)
 refine(Au5.fr (hc m) hp2).mono ?_
 rintro r L' ⟨L0,rfl,s,L1,rfl,hp3,hk⟩
 refine⟨(s,()),rfl,h s L1 _ J hk ?_⟩
 classical
 rw[List.perm_iff_count]
 intro z
 have:=hp3.count_eq z
 simp only[List.count_append,List.count_cons]at this⊢
 omega
theorem Cw7{sh sh':List Sh}{x0:RsV sh}{x0':RsV sh'}{body:RsV sh->(RsV sh->HP)->HP}{body':RsV sh'->(RsV sh'->HP)->HP}{C:A4}(M:RsV sh'->A4)(pr:RsV sh'->RsV sh)(hx:pr x0'=x0)(hR:R=M x0'++C)
  (h: ∀(go':RsV sh'->HP) (go:RsV sh->HP),(∀x,Fr (M x++C) (go' x) (go (pr x)))-> ∀x,Fr (M x++C) (body' x go') (body (pr x) go)):Fr R (lp sh' x0' body') (lp sh x0 body):=by
 rintro L L2 J ⟨I,⟨k0,hI0⟩,hI⟩ hp
 subst hx hR
 refine⟨fun k x L2=> ∃x' L1 J1,pr x'=x/\L2.Perm (L1++((M x'++C)++J1))/\I k x' L1,⟨k0,x0',L,J,rfl,hp,hI0⟩,?_⟩
 rintro k _ L2 ⟨x',L1,J1,rfl,hp1,hI1⟩
 refine h (fun x L''=> ∃k',k'<k/\I k' x L'') _ ?_ x' L1 L2 J1 (hI k x' L1 hI1) hp1
 rintro x L3 L4 J3 ⟨k',hk',h3⟩ hp3
 exact⟨k',hk',x,L3,J3,rfl,hp3,h3⟩
theorem K2{sh:List Sh}{x0:RsV sh}{body body':RsV sh->(RsV sh->HP)->HP}
  (h: ∀(go' go:RsV sh->HP),(∀x,Fr R (go' x) (go x))-> ∀x,Fr R (body' x go') (body x go)):Fr R (lp sh x0 body') (lp sh x0 body):=
 Cw7 (C:=R) (fun _=>[]) id rfl rfl h
theorem W4{α:Type}{b b':α->HP}{r r':(α->HP)->HP}
 (hb: ∀y,Fr R (b' y) (b y)) (hr: ∀(j' j:α->HP),(∀y,Fr R (j' y) (j y))->Fr R (r' j') (r j)):Fr R (jn b' r') (jn b r):=hr b' b hb
end
section
variable {P:Program} {L A:A4}
theorem D9{e:Int}{k:Int->HP}(h: -9223372036854775808<=e/\e<=9223372036854775807)(hk:k e L):w64 e k L:=by
 unfold w64;rw[C2 h.1 h.2];exact hk
theorem elp_of{v:SlV}{sz:Nat}{vs:List Value}(h:Sl L v sz vs)(hsz:0<sz){i:Int}{n:Nat}(hi:i=n)(hn:n<v.len){k:Addr->HP}(hk: ∀a,D4 a ((vs.drop (n*sz)).take sz) L->k a L):elp v.a v.len i sz k L:=by
 subst hi
 obtain⟨a,ha,hl⟩:=h.at' hn hsz
 refine A5 ha (E0 (by omega) (by omega) (hk _ ?_))
 rw[Int.toNat_natCast]
 refine hl.sub (n*sz) fun j u hu=>?_
 rw[List.getElem?_take]at hu
 split at hu
 ·rwa [List.getElem?_drop]at hu
 ·cases hu
theorem V7{α:Type}{enc:α->List Value}{sz:Nat}(hsz: ∀x,(enc x).length=sz)(hpos:0<sz){v:SlV}{l:List α}(h:Sl L v sz (l.flatMap enc)){i:Int}{n:Nat}(hi:i=n)(hn:n<l.length){k:Addr->HP}(hk: ∀a,D4 a (enc l[n]) L->k a L):elp v.a v.len i sz k L:=by
 subst hi
 obtain⟨a,ha,hl⟩:=h.el hsz hpos hn
 refine A5 ha (E0 (by omega) (by have:=h.els_len hsz hpos;omega) (hk _ ?_))
 rw[Int.toNat_natCast];exact hl
theorem B47{v:SlV}{ik:IntKind}{l:List Int}(h:ISl L v ik l){i:Int}{n:Nat}(hi:i=n)(hn:n<l.length){k:Addr->HP}(hk: ∀a,D4 a [.int ik l[n]] L->k a L):elp v.a v.len i 1 k L:=by
 subst hi
 obtain⟨a,ha⟩:=h.some hn
 refine A5 ha (E0 (by omega) (by have:=h.len;omega) (hk _ (h.rd hn ha _ (by rw[Int.toNat_natCast]))))
theorem Cx4{v:SlV}{vs:List Value}(h:Sl L v 1 vs){i:Int}{n:Nat}(hi:i=n)(hn:n<vs.length){k:Addr->HP}(hk: ∀a,D4 a [vs[n]] L->k a L):elp v.a v.len i 1 k L:=by
 have hl:=h.len
 refine elp_of h (by decide) hi (by omega) fun a ha=>hk a ?_
 have e:(vs.drop (n*1)).take 1=[vs[n]]:=by rw[Nat.mul_one,List.drop_eq_getElem_cons hn];rfl
 rw[<-e];exact ha
theorem slc_sl{v:SlV}{sz:Nat}{vs:List Value}(h:Sl A v sz vs)(hsz:0<sz){i j m:Int}{i' j' m':Nat}(hi:i=i')(hj:j=j')(hm:m=m')(h1:i'<=j')(h2:j'<=v.len)(h3:j'<=m')(h4:m'<=v.cap){k:SlV->HP}
  (hk: ∀s:SlV,s.len=j'-i'->s.cap=m'-i'->Sl A s sz ((vs.drop (i'*sz)).take ((j'-i')*sz))->k s L):slc v i j m sz k L:=
 K4 hi hj hm h1 h3 h4 (hk _ (by simp[P1]) (by simp[P1]) (Sl.slc h hsz h1 h2 h3))
theorem slc_el{α:Type}{enc:α->List Value}{sz:Nat}(hsz: ∀x,(enc x).length=sz)(hpos:0<sz){v:SlV}{l:List α}(h:Sl A v sz (l.flatMap enc)){i j m:Int}{i' j' m':Nat}(hi:i=i')(hj:j=j')(hm:m=m')(h1:i'<=j')(h2:j'<=l.length)(h3:j'<=m')(h4:m'<=v.cap){k:SlV->HP}
  (hk: ∀s:SlV,s.len=j'-i'->s.cap=m'-i'->Sl A s sz (((l.drop i').take (j'-i')).flatMap enc)->k s L):slc v i j m sz k L:=
 slc_sl h hpos hi hj hm h1 (by rw[h.els_len hsz hpos];exact h2) h3 h4 fun s a b c=>hk s a b (by rw[Au2 hsz]at c;exact c)
theorem Cl6{t t2 ty e:TypeId}{sz bytes:Nat}{z:List Value}(hT:U8 P t e sz bytes z)(h2:As9 P t2){v:SlV}{vs ws:List Value}{n:Nat}{seg:A4}(X Y:A4)(own:Own v sz e vs seg)(hL:L=X++seg++Y)(hn:n*sz=ws.length)(hws:ws.all S5=true)
  (hb:(v.len+n)*bytes<=140737488355328) {k:SlV->HP} (hk: ∀v' seg',v'.len=v.len+n->Own v' sz e (vs++ws) seg'->k v' (X++seg'++Y)):apv P t t2 ty e v n ws k L:=by
 subst hL
 intro m
 refine Au5.mono (E6 hT h2 ((m,Obj.cells ws.toArray e)::X) Y own (by simp) (n:=n) (ws:=ws) (Src.sl (v:=⟨some ⟨m,0,none⟩,n,n⟩) ⟨hn,Nat.le_refl _,.inr ⟨_,rfl,ldB List.mem_cons_self (by simp)⟩⟩) hws hb (k:=fun r L'=> ∃L0,L'=(m,Obj.cells ws.toArray e)::L0/\k r.1 L0) fun v' seg' h1 h2=>⟨_,rfl,hk v' seg' h1 h2⟩) ?_
 rintro r L' ⟨x,rfl,L0,rfl,hk0⟩
 exact⟨x.1,L0,rfl,List.Perm.refl _,hk0⟩
open Classical in
noncomputable def cnt(L:A4)(z:Nat×Obj):Nat:=L.count z
open Classical in
noncomputable def cn1(p z:Nat×Obj):Nat:=if p==z then 1 else 0
open Classical in
theorem B4(X Y:A4)(z:Nat×Obj):cnt (X++Y) z=cnt X z+cnt Y z:=by unfold cnt;exact List.count_append
open Classical in
theorem C6(p:Nat×Obj)(Y:A4)(z:Nat×Obj):cnt (p::Y) z=cnt Y z+cn1 p z:=by unfold cnt cn1;exact List.count_cons
open Classical in
theorem D8(z:Nat×Obj):cnt [] z=0:=by unfold cnt;exact List.count_nil
theorem pc{X Y:A4}(h: ∀z,cnt X z=cnt Y z):X.Perm Y:=by
 classical
 rw[List.perm_iff_count]
 intro z
 have:=h z
 unfold cnt at this
 exact this
open Classical in
theorem pcn{X Y:A4}(h:X.Perm Y)(z:Nat×Obj):cnt X z=cnt Y z:=by
 unfold cnt
 exact h.count_eq z
theorem B25{Y:A4}(h:L.Perm (A++Y)): ∀p∈A,p∈L:=fun p hp=>h.symm.subset (by simp[hp])
theorem Af2{t t2 ty e:TypeId}{sz bytes:Nat}{z:List Value}(hT:U8 P t e sz bytes z)(h2:As9 P t2){v:SlV}{vs ws:List Value}{n:Nat}{seg Y:A4}(own:Own v sz e vs seg)(hL:L.Perm (seg++Y))(hn:n*sz=ws.length)(hws:ws.all S5=true)
  (hb:(v.len+n)*bytes<=140737488355328) {k:SlV->HP} (hk: ∀v' seg',v'.len=v.len+n->Own v' sz e (vs++ws) seg'->k v' (seg'++Y)):apv P t t2 ty e v n ws k L:=fun m=>
 Au5.permL (hL.cons _) (Cl6 hT h2 [] Y own rfl hn hws hb hk m)
theorem app_pm{t t2 ty e:TypeId}{sz bytes:Nat}{z:List Value}(hT:U8 P t e sz bytes z)(h2:As9 P t2){v:SlV}{vs ws:List Value}{x:Value}{n:Nat}{seg Y:A4}(own:Own v sz e vs seg)(hL:L.Perm (seg++Y))(src:Src L x sz n ws)(hws:ws.all S5=true)
  (hb:(v.len+n)*bytes<=140737488355328) {k:RsV [.lf .sl]->HP} (hk: ∀v' seg',v'.len=v.len+n->Own v' sz e (vs++ws) seg'->k (v',()) (seg'++Y)):smW P (Builtin.append_ #[t,t2] ty #[.slice v.a v.len v.cap,x]) [.lf .sl] k L:=by
 refine Au5.permL hL (E6 hT h2 [] Y own rfl (n:=n) (ws:=ws) ?_ hws hb hk)
 cases src with
 |sl h=>exact .sl (h.mono fun p hq=>hL.subset hq)
 |str s=>exact .str s
theorem B12{ad:Addr}{ws:List Value}{k:HP}{n off:Nat}{c:Array Value}{T:TypeId}{fz:Nat×Nat}{Y:A4}(hL:L.Perm ((n,Obj.cells c T fz)::Y))(had:ad=⟨n,off,none⟩)(hsz:off+ws.length<=c.size)
  (hfz:fz.2<=fz.1\/c.size<=fz.1) (c':Array Value) (hc:wr c off ws=c') (hk: ∀L',L'.Perm ((n,Obj.cells c' T fz)::Y)->k L'):st ad ws k L:=by
 obtain⟨A2,B2,rfl⟩:=List.append_of_mem (hL.symm.subset (List.mem_cons_self))
 exact E3 A2 B2 had rfl hsz hfz c' hc (hk _ (List.perm_middle.trans (((List.perm_cons _).1 (List.perm_middle.symm.trans hL)).cons _)))
theorem Ar6{f:FuncId}{args:Array Value}{rs:List Sh}{k:RsV rs->HP}{K:Value->HP}(h:CallF P f args A K)(hp:L.Perm A)(hk: ∀v L',K v L'-> ∃r,v=Af9 rs r/\k r L'):cl P f args rs k L:=
 S0 (CallF.perm hp.symm h) fun v L' _ hK=>hk v L' hK
theorem Bd4{n:Int}(h: -9223372036854775808<=n/\n<=9223372036854775807):Q6 .i64 n:=by
 show(Lit.int .i64 n).wf=true
 simp only[Lit.wf,Bool.and_eq_true,decide_eq_true_eq]
 exact h
theorem A92{X:A4}: ∀p∈A,p∈X++A:=fun _ h=>List.mem_append_right _ h
theorem mem_l{X:A4}: ∀p∈A,p∈A++X:=fun _ h=>List.mem_append_left _ h
theorem B8{p:Prop}[Decidable p]{A B:HP}(h1:p->A L)(h2: ¬p->B L):ifB (decide p) A B L:=C0 h1 h2
end
set_option maxRecDepth 100000
end Go.HL
namespace Go.Proofs.YtbaoieipijmakaaGreatDoor
open Go.HL
def s4(x0:ShV (.agg [.int .i64,.int .i64,.int .i64,.int .i64,.int .i64,.int .i64,.int .i64,.int .i64,.int .i64,.int .i64,.int .i64]))(x1:SlV)(K:Value->HP):HP:=
 cl PP 8 #[.agg #[.i x0.1,.i x0.2.1,.i x0.2.2.1,.i x0.2.2.2.1,.i x0.2.2.2.2.1,.i x0.2.2.2.2.2.1,.i x0.2.2.2.2.2.2.1,.i x0.2.2.2.2.2.2.2.1,.i x0.2.2.2.2.2.2.2.2.1,.i x0.2.2.2.2.2.2.2.2.2.1,.i x0.2.2.2.2.2.2.2.2.2.2.1]] [.lf .ptr,.lf .ptr] fun r1=>
 jn (fun y1:RsV []=>
 nw (.cells #[.i 0] 3) fun n2=>
 nw (.cells #[.i 0] 3) fun n3=>
 lp [.lf .ptr,lI,.lf .sl,.lf .sl,lI] (r1.1,0,⟨(some ⟨n2,0,none⟩),1,1⟩,⟨(some ⟨n3,0,none⟩),1,1⟩,0,()) fun z1 go1=>
 ifB (decide ((z1.2.2.2.2.1:Int)<x1.len)) (
 elp x1.a x1.len z1.2.2.2.2.1 5 fun a1=>
 ld a1 (.agg [.int .i64,.str,.sl,.int .i64,.int .i64]) fun v1=>
 jn (fun y2:RsV [lI]=>
 cl PP 11 #[.agg #[.i x0.1,.i x0.2.1,.i x0.2.2.1,.i x0.2.2.2.1,.i x0.2.2.2.2.1,.i x0.2.2.2.2.2.1,.i x0.2.2.2.2.2.2.1,.i x0.2.2.2.2.2.2.2.1,.i x0.2.2.2.2.2.2.2.2.1,.i x0.2.2.2.2.2.2.2.2.2.1,.i x0.2.2.2.2.2.2.2.2.2.2.1],.q z1.1,.q r1.2.1,.agg #[.i v1.1,.w v1.2.1,.sv v1.2.2.1,.i v1.2.2.2.1,.i v1.2.2.2.2.1],.i y2.1] [.lf .ptr] fun r7=>
 ifB (Option.isNone r7.1) (
 K (.b false)) (
 apv PP 49 49 49 3 z1.2.2.1 1 [.i y2.1] fun s1=>
 cl PP 22 #[.q r1.2.1] [lI] fun r8=>
 apv PP 49 49 49 3 z1.2.2.2.1 1 [.i r8.1] fun s2=>
 w64 (z1.2.2.2.2.1+1) fun i1=>
 go1 (r7.1,y2.1,s1,s2,i1,()))) fun j2=>
 ifB (decide ((v1.1:Int)=4)) (
 ifB (decide ((v1.2.2.2.1:Int)<z1.2.1)) (
 cl PP 10 #[] [.lf .bool] fun r5=>
 K (.b r5.1)) (
 ifB (decide ((v1.2.2.2.1:Int)>1099511627776)) (
 cl PP 10 #[] [.lf .bool] fun r6=>
 K (.b r6.1)) (
 j2 (v1.2.2.2.1,())))) (
 j2 (z1.2.1,()))) (
 lp [lI] (0,()) fun z2 go2=>
 ifB (decide ((z2.1:Int)<z1.2.2.1.len)) (
 lp [lI] (z2.1,()) fun z3 go3=>
 ifB (decide ((z3.1:Int)<z1.2.2.1.len)) (
 elp z1.2.2.2.1.a z1.2.2.2.1.len z3.1 1 fun a2=>
 elp z1.2.2.2.1.a z1.2.2.2.1.len z2.1 1 fun a3=>
 elp z1.2.2.1.a z1.2.2.1.len z3.1 1 fun a4=>
 elp z1.2.2.1.a z1.2.2.1.len z2.1 1 fun a5=>
 ld a2 (lI) fun v2=>
 ld a3 (lI) fun v3=>
 w64 (v2-v3) fun i2=>
 ld a4 (lI) fun v4=>
 ld a5 (lI) fun v5=>
 w64 (v4-v5) fun i3=>
 w64 (x0.2.2.2.2.2.2.2.2.1*i3) fun i4=>
 w64 (x0.2.2.2.2.2.2.2.2.2.1+i4) fun i5=>
 ifB (decide ((i2:Int)>i5)) (
 K (.b false)) (
 ld a2 (lI) fun v6=>
 ld a3 (lI) fun v7=>
 ifB (decide ((v6:Int)<v7)) (
 K (.b false)) (
 w64 (z3.1+1) fun i6=>
 go3 (i6,())))) (
 w64 (z2.1+1) fun i7=>
 go2 (i7,()))) (
 cl PP 10 #[] [.lf .bool] fun r9=>
 K (.b r9.1)))) fun j1=>
 ifB (Option.isNone r1.1) (
 cl PP 10 #[] [.lf .bool] fun r2=>
 K (.b r2.1)) (
 cl PP 9 #[.sv x1,.i 100,.i 700] [.lf .bool] fun r3=>
 ifB r3.1 (
 j1 (())) (
 cl PP 10 #[] [.lf .bool] fun r4=>
 K (.b r4.1)))
theorem c4(x0:ShV (.agg [.int .i64,.int .i64,.int .i64,.int .i64,.int .i64,.int .i64,.int .i64,.int .i64,.int .i64,.int .i64,.int .i64]))(x1:SlV){K:Value->HP}{L:A4}(h:s4 x0 x1 (HL.Ends K) L):CallF PP 4 #[.agg #[.i x0.1,.i x0.2.1,.i x0.2.2.1,.i x0.2.2.2.1,.i x0.2.2.2.2.1,.i x0.2.2.2.2.2.1,.i x0.2.2.2.2.2.2.1,.i x0.2.2.2.2.2.2.2.1,.i x0.2.2.2.2.2.2.2.2.1,.i x0.2.2.2.2.2.2.2.2.2.1,.i x0.2.2.2.2.2.2.2.2.2.2.1],.sv x1] L K:=by
 refine CallF.of (args:=[.agg #[.i x0.1,.i x0.2.1,.i x0.2.2.1,.i x0.2.2.2.1,.i x0.2.2.2.2.1,.i x0.2.2.2.2.2.1,.i x0.2.2.2.2.2.2.1,.i x0.2.2.2.2.2.2.2.1,.i x0.2.2.2.2.2.2.2.2.1,.i x0.2.2.2.2.2.2.2.2.2.1,.i x0.2.2.2.2.2.2.2.2.2.2.1],.sv x1]) B5 B6 Tryz.func4 (e4 x0 x1 _) (D3 ?_ h)
 unfold s4 t4
 refine D2 fun n1=>B0 0 0 rfl rfl rfl<|B3 fun r1=>?_
 refine W4 (fun y1=>?_) fun j1' j1 hj1=>?_
 ·refine R9 fun n2=>R9 fun n3=>K2 fun go1' go1 hgo1 z1=>?_
  refine C1 ?_ ?_
  ·refine G8 fun a1 ha1=>B9 fun v1=>D2 fun n4=>F6 0 0 rfl rfl rfl rfl ?_
   refine W4 (fun y2=>?_) fun j2' j2 hj2=>?_
   ·refine B0 1 0 rfl rfl rfl<|B0 0 0 rfl rfl rfl<|B3 fun r7=>?_
    refine C1 ?_ ?_
    ·exact A7
    ·exact D2 fun n5=>Z0 (v:=_) 0 rfl fun s1=>B3 fun r8=>D2 fun n6=>Z0 (v:=_) 0 rfl fun s2=>D1<|H3 3 rfl rfl<|F8 (hgo1 _) rfl
   ·refine B0 0 0 rfl rfl rfl ?_
    refine E2 ?_ ?_
    ·refine B0 0 3 rfl rfl rfl ?_
     refine C1 ?_ ?_
     ·exact B3 fun r5=>A7
     ·refine B0 0 3 rfl rfl rfl ?_
      refine C1 ?_ ?_
      ·exact B3 fun r6=>A7
      ·exact B0 0 3 rfl rfl rfl<|F8 (hj2 _) rfl
    ·exact F8 (hj2 _) rfl
  ·refine K2 fun go2' go2 hgo2 z2=>?_
   refine C1 ?_ ?_
   ·refine K2 fun go3' go3 hgo3 z3=>?_
    refine C1 ?_ ?_
    ·refine G8 fun a2 ha2=>G8 fun a3 ha3=>G8 fun a4 ha4=>G8 fun a5 ha5=>B9 fun v2=>B9 fun v3=>D1<|B0 0 9 rfl rfl rfl<|B0 0 8 rfl rfl rfl<|B9 fun v4=>B9 fun v5=>D1<|D1<|D1 ?_
     refine C1 ?_ ?_
     ·exact A7
     ·refine Ba8 ha2<|Ba8 ha3<|B9 fun v6=>B9 fun v7=>?_
      refine C1 ?_ ?_
      ·exact A7
      ·exact D1<|F8 (hgo3 _) rfl
    ·exact D1<|F8 (hgo2 _) rfl
   ·exact B3 fun r9=>A7
 ·refine C1 ?_ ?_
  ·exact B3 fun r2=>A7
  ·refine B3 fun r3=>?_
   refine K3 ?_ ?_
   ·exact B3 fun r4=>A7
   ·exact F8 (hj1 _) rfl
def s8(x0:ShV (.agg [.int .i64,.int .i64,.int .i64,.int .i64,.int .i64,.int .i64,.int .i64,.int .i64,.int .i64,.int .i64,.int .i64]))(K:Value->HP):HP:=
 cl PP 35 #[.agg #[.i x0.1,.i x0.2.1,.i x0.2.2.1,.i x0.2.2.2.1]] [.lf .ptr,lI] fun r1=>
 ifB (decide ((r1.2.1:Int)=0)) (
 cl PP 36 #[.agg #[.i x0.1,.i x0.2.1,.i x0.2.2.1,.i x0.2.2.2.1,.i x0.2.2.2.2.1,.i x0.2.2.2.2.2.1,.i x0.2.2.2.2.2.2.1,.i x0.2.2.2.2.2.2.2.1,.i x0.2.2.2.2.2.2.2.2.1,.i x0.2.2.2.2.2.2.2.2.2.1,.i x0.2.2.2.2.2.2.2.2.2.2.1],.q r1.1,.i 0] [.lf .ptr,lI] fun r2=>
 ifB (decide ((r2.2.1:Int)=0)) (
 K (.t #[.q r2.1,.q r1.1])) (
 K (.t #[.q none,.q none]))) (
 K (.t #[.q none,.q none]))
theorem c8(x0:ShV (.agg [.int .i64,.int .i64,.int .i64,.int .i64,.int .i64,.int .i64,.int .i64,.int .i64,.int .i64,.int .i64,.int .i64])){K:Value->HP}{L:A4}(h:s8 x0 (HL.Ends K) L):CallF PP 8 #[.agg #[.i x0.1,.i x0.2.1,.i x0.2.2.1,.i x0.2.2.2.1,.i x0.2.2.2.2.1,.i x0.2.2.2.2.2.1,.i x0.2.2.2.2.2.2.1,.i x0.2.2.2.2.2.2.2.1,.i x0.2.2.2.2.2.2.2.2.1,.i x0.2.2.2.2.2.2.2.2.2.1,.i x0.2.2.2.2.2.2.2.2.2.2.1]] L K:=by
 refine CallF.of (args:=[.agg #[.i x0.1,.i x0.2.1,.i x0.2.2.1,.i x0.2.2.2.1,.i x0.2.2.2.2.1,.i x0.2.2.2.2.2.1,.i x0.2.2.2.2.2.2.1,.i x0.2.2.2.2.2.2.2.1,.i x0.2.2.2.2.2.2.2.2.1,.i x0.2.2.2.2.2.2.2.2.2.1,.i x0.2.2.2.2.2.2.2.2.2.2.1]]) B5 B6 Tryz.func8 (e8 x0 _) (D3 ?_ h)
 unfold s8 t8
 refine D2 fun n1=>B0 0 0 rfl rfl rfl<|B3 fun r1=>?_
 refine E4 ?_ ?_
 ·exact A7
 ·refine B0 0 0 rfl rfl rfl<|B3 fun r2=>?_
  refine E4 ?_ ?_
  ·exact A7
  ·exact A7
def s9(x0:SlV)(x1:Int)(x2:Int)(K:Value->HP):HP:=
 jn (fun y1:RsV []=>
 K (.b (decide ((x0.len:Int)<=x1)))) fun j1=>
 lp [lI] (0,()) fun z1 go1=>
 jn (fun y2:RsV []=>
 elp x0.a x0.len z1.1 5 fun a1=>
 ld (a1.add 1) (.lf .str) fun v1=>
 ifB (decide ((v1.size:Int)>x2)) (
 K (.b false)) (
 ld (a1.add 2) (.lf .sl) fun v2=>
 ifB (decide ((v2.len:Int)>x2)) (
 K (.b false)) (
 w64 (z1.1+1) fun i1=>
 go1 (i1,())))) fun j2=>
 ifB (decide ((z1.1:Int)<x0.len)) (
 ifB (decide ((z1.1:Int)<=x1)) (
 j2 (())) (
 j1 (()))) (
 j1 (()))
theorem c9(x0:SlV)(x1:Int)(x2:Int){K:Value->HP}{L:A4}(h:s9 x0 x1 x2 (HL.Ends K) L):CallF PP 9 #[.sv x0,.i x1,.i x2] L K:=by
 refine CallF.of (args:=[.sv x0,.i x1,.i x2]) B5 B6 Tryz.func9 (e9 x0 x1 x2 _) (D3 ?_ h)
 unfold s9 t9
 refine W4 (fun y1=>?_) fun j1' j1 hj1=>?_
 ·exact A7
 ·refine K2 fun go1' go1 hgo1 z1=>?_
  refine W4 (fun y2=>?_) fun j2' j2 hj2=>?_
  ·refine G8 fun a1 ha1=>B9 fun v1=>?_
   refine C1 ?_ ?_
   ·exact A7
   ·refine Ba8 ha1<|B9 fun v2=>?_
    refine C1 ?_ ?_
    ·exact A7
    ·exact D1<|F8 (hgo1 _) rfl
  ·refine C1 ?_ ?_
   ·refine C1 ?_ ?_
    ·exact F8 (hj2 _) rfl
    ·exact F8 (hj1 _) rfl
   ·exact F8 (hj1 _) rfl
def s10(K:Value->HP):HP:=
 cl PP 37 #[] [.agg [.int .i64,.int .i64,.int .i64,.int .i64,.int .i64,.int .i64,.int .i64,.int .i64,.int .i64,.int .i64,.int .i64]] fun r1=>
 cl PP 35 #[.agg #[.i r1.1.1,.i r1.1.2.1,.i r1.1.2.2.1,.i r1.1.2.2.2.1]] [.lf .ptr,lI] fun r2=>
 cl PP 37 #[] [.agg [.int .i64,.int .i64,.int .i64,.int .i64,.int .i64,.int .i64,.int .i64,.int .i64,.int .i64,.int .i64,.int .i64]] fun r3=>
 cl PP 36 #[.agg #[.i r3.1.1,.i r3.1.2.1,.i r3.1.2.2.1,.i r3.1.2.2.2.1,.i r3.1.2.2.2.2.1,.i r3.1.2.2.2.2.2.1,.i r3.1.2.2.2.2.2.2.1,.i r3.1.2.2.2.2.2.2.2.1,.i r3.1.2.2.2.2.2.2.2.2.1,.i r3.1.2.2.2.2.2.2.2.2.2.1,.i r3.1.2.2.2.2.2.2.2.2.2.2.1],.q r2.1,.i 0] [.lf .ptr,lI] fun r4=>
 cl PP 37 #[] [.agg [.int .i64,.int .i64,.int .i64,.int .i64,.int .i64,.int .i64,.int .i64,.int .i64,.int .i64,.int .i64,.int .i64]] fun r5=>
 cl PP 36 #[.agg #[.i r5.1.1,.i r5.1.2.1,.i r5.1.2.2.1,.i r5.1.2.2.2.1,.i r5.1.2.2.2.2.1,.i r5.1.2.2.2.2.2.1,.i r5.1.2.2.2.2.2.2.1,.i r5.1.2.2.2.2.2.2.2.1,.i r5.1.2.2.2.2.2.2.2.2.1,.i r5.1.2.2.2.2.2.2.2.2.2.1,.i r5.1.2.2.2.2.2.2.2.2.2.2.1],.q none,.i 0] [.lf .ptr,lI] fun r6=>
 jn (fun y1:RsV []=>
 cl PP 24 #[.q r4.1,.i 9] [] fun r7=>
 nw (.cells #[.int .u8 49,.int .u8 50,.int .u8 51,.int .u8 52,.int .u8 53] 5) fun n1=>
 smW PP (convert 27 27 (.slice (some ⟨n1,0,none⟩) 5 5)) [.lf .sl] fun v1=>
 cl PP 17 #[.q r4.1,.w (ByteArray.mk #[97]),.sv v1.1] [lI] fun r8=>
 nw (.cells #[.int .u8 49,.int .u8 50,.int .u8 51,.int .u8 52,.int .u8 53] 5) fun n2=>
 smW PP (convert 27 27 (.slice (some ⟨n2,0,none⟩) 5 5)) [.lf .sl] fun v2=>
 cl PP 17 #[.q r4.1,.w (ByteArray.mk #[98]),.sv v2.1] [lI] fun r9=>
 nw (.cells #[.int .u8 49] 5) fun n3=>
 smW PP (convert 27 27 (.slice (some ⟨n3,0,none⟩) 1 1)) [.lf .sl] fun v3=>
 cl PP 17 #[.q r4.1,.w (ByteArray.mk #[99]),.sv v3.1] [lI] fun r10=>
 cl PP 13 #[.q r4.1,.w (ByteArray.mk #[97])] [.lf .bool] fun r11=>
 cl PP 19 #[.q r4.1,.w (ByteArray.mk #[98])] [lI] fun r12=>
 nw (.cells #[.int .u8 49] 5) fun n4=>
 smW PP (convert 27 27 (.slice (some ⟨n4,0,none⟩) 1 1)) [.lf .sl] fun v4=>
 cl PP 17 #[.q r4.1,.w (ByteArray.mk #[97]),.sv v4.1] [lI] fun r13=>
 cl PP 25 #[.q r4.1,.w (ByteArray.mk #[97])] [.lf .sl,lI] fun r14=>
 cl PP 26 #[.q r4.1,.w (ByteArray.mk #[97])] [.lf .bool,lI] fun r15=>
 cl PP 31 #[.q r4.1] [.lf .sl] fun r16=>
 cl PP 27 #[.q r4.1] [lI] fun r17=>
 cl PP 25 #[.q r4.1,.w (ByteArray.mk #[97])] [.lf .sl,lI] fun r18=>
 ifB (decide ((r8.1:Int)=0)) (
 ifB (decide ((r9.1:Int)=0)) (
 ifB (decide ((r10.1:Int)=0)) (
 ifB r11.1 (
 ifB (decide ((r12.1:Int)=1)) (
 ifB (decide ((r13.1:Int)=0)) (
 smR PP (Conv.bytesToString (.sv r14.1)) [.lf .str] fun v5=>
 ifB (decide (v5.1=(ByteArray.mk #[49]))) (
 ifB (decide ((r14.2.1:Int)=0)) (
 ifB r15.1 (
 ifB (decide ((r15.2.1:Int)=0)) (
 ifB (decide ((r16.1.len:Int)=1)) (
 ifB (decide ((r17.1:Int)=0)) (
 cl PP 31 #[.q r4.1] [.lf .sl] fun r19=>
 ifB (decide ((r19.1.len:Int)=0)) (
 ifB (decide ((r18.2.1:Int)=8)) (
 cl PP 27 #[.q none] [lI] fun r20=>
 ifB (decide ((r20.1:Int)=1)) (
 cl PP 30 #[.q r4.1] [lI] fun r21=>
 ifB (decide ((r21.1:Int)=2)) (
 cl PP 29 #[.q r4.1] [lI] fun r22=>
 ifB (decide ((r22.1:Int)=0)) (
 cl PP 14 #[.q r4.1] [lI] fun r23=>
 K (.b ((r23.1:Int)==3808))) (
 K (.b false))) (
 K (.b false))) (
 K (.b false))) (
 K (.b false))) (
 K (.b false))) (
 K (.b false))) (
 K (.b false))) (
 K (.b false))) (
 K (.b false))) (
 K (.b false))) (
 K (.b false))) (
 K (.b false))) (
 K (.b false))) (
 K (.b false))) (
 K (.b false))) (
 K (.b false))) (
 K (.b false))) fun j1=>
 ifB (decide ((r2.2.1:Int)=0)) (
 ifB (decide ((r4.2.1:Int)=0)) (
 ifB (decide ((r6.2.1:Int)=1)) (
 j1 (())) (
 K (.b false))) (
 K (.b false))) (
 K (.b false))
theorem c10{K:Value->HP}{L:A4}(h:s10 (HL.Ends K) L):CallF PP 10 #[] L K:=by
 refine CallF.of (args:=[]) B5 B6 Tryz.func10 (e10 _) (D3 ?_ h)
 unfold s10 t10
 refine B3 fun r1=>B3 fun r2=>B3 fun r3=>B3 fun r4=>B3 fun r5=>B3 fun r6=>?_
 refine W4 (fun y1=>?_) fun j1' j1 hj1=>?_
 ·refine B3 fun r7=>R9 fun n1=>Aj7 fun v1=>B3 fun r8=>R9 fun n2=>Aj7 fun v2=>B3 fun r9=>R9 fun n3=>Aj7 fun v3=>B3 fun r10=>B3 fun r11=>B3 fun r12=>R9 fun n4=>Aj7 fun v4=>B3 fun r13=>B3 fun r14=>B3 fun r15=>B3 fun r16=>B3 fun r17=>B3 fun r18=>?_
  refine E2 ?_ ?_
  ·refine E2 ?_ ?_
   ·refine E2 ?_ ?_
    ·refine C1 ?_ ?_
     ·refine E2 ?_ ?_
      ·refine E2 ?_ ?_
       ·refine Bj2 fun v5=>?_
        refine Ch4 ?_ ?_
        ·refine E2 ?_ ?_
         ·refine C1 ?_ ?_
          ·refine E2 ?_ ?_
           ·refine E2 ?_ ?_
            ·refine E2 ?_ ?_
             ·refine B3 fun r19=>?_
              refine E2 ?_ ?_
              ·refine E2 ?_ ?_
               ·refine B3 fun r20=>?_
                refine E2 ?_ ?_
                ·refine B3 fun r21=>?_
                 refine E2 ?_ ?_
                 ·refine B3 fun r22=>?_
                  refine E2 ?_ ?_
                  ·exact B3 fun r23=>A7
                  ·exact A7
                 ·exact A7
                ·exact A7
               ·exact A7
              ·exact A7
             ·exact A7
            ·exact A7
           ·exact A7
          ·exact A7
         ·exact A7
        ·exact A7
       ·exact A7
      ·exact A7
     ·exact A7
    ·exact A7
   ·exact A7
  ·exact A7
 ·refine E4 ?_ ?_
  ·exact A7
  ·refine E4 ?_ ?_
   ·exact A7
   ·refine E4 ?_ ?_
    ·exact A7
    ·exact F8 (hj1 _) rfl
def s11(x0:ShV (.agg [.int .i64,.int .i64,.int .i64,.int .i64,.int .i64,.int .i64,.int .i64,.int .i64,.int .i64,.int .i64,.int .i64]))(x1:Option Addr)(x2:Option Addr)(x3:ShV (.agg [.int .i64,.str,.sl,.int .i64,.int .i64]))(x4:Int)(K:Value->HP):HP:=
 ifB (decide ((x3.1:Int)=0)) (
 cl PP 17 #[.q x1,.w x3.2.1,.sv x3.2.2.1] [lI] fun r1=>
 K (.q x1)) (
 ifB (decide ((x3.1:Int)=1)) (
 cl PP 25 #[.q x1,.w x3.2.1] [.lf .sl,lI] fun r2=>
 K (.q x1)) (
 ifB (decide ((x3.1:Int)=2)) (
 cl PP 26 #[.q x1,.w x3.2.1] [.lf .bool,lI] fun r3=>
 K (.q x1)) (
 ifB (decide ((x3.1:Int)=3)) (
 cl PP 27 #[.q x1] [lI] fun r4=>
 K (.q x1)) (
 ifB (decide ((x3.1:Int)=4)) (
 cl PP 24 #[.q x1,.i x4] [] fun r5=>
 K (.q x1)) (
 ifB (decide ((x3.1:Int)=5)) (
 cl PP 12 #[.q x2,.i x3.2.2.2.1,.i x3.2.2.2.2.1] [] fun r6=>
 K (.q x1)) (
 ifB (decide ((x3.1:Int)=6)) (
 cl PP 38 #[.q x2] [] fun r7=>
 cl PP 36 #[.agg #[.i x0.1,.i x0.2.1,.i x0.2.2.1,.i x0.2.2.2.1,.i x0.2.2.2.2.1,.i x0.2.2.2.2.2.1,.i x0.2.2.2.2.2.2.1,.i x0.2.2.2.2.2.2.2.1,.i x0.2.2.2.2.2.2.2.2.1,.i x0.2.2.2.2.2.2.2.2.2.1,.i x0.2.2.2.2.2.2.2.2.2.2.1],.q x2,.i x4] [.lf .ptr,lI] fun r8=>
 ifB (decide ((r8.2.1:Int)=0)) (
 K (.q r8.1)) (
 K (.q none))) (
 cl PP 20 #[.q x1,.w x3.2.1] [.lf .sl,lI] fun r9=>
 K (.q x1))))))))
theorem c11(x0:ShV (.agg [.int .i64,.int .i64,.int .i64,.int .i64,.int .i64,.int .i64,.int .i64,.int .i64,.int .i64,.int .i64,.int .i64]))(x1:Option Addr)(x2:Option Addr)(x3:ShV (.agg [.int .i64,.str,.sl,.int .i64,.int .i64]))(x4:Int){K:Value->HP}{L:A4}(h:s11 x0 x1 x2 x3 x4 (HL.Ends K) L):CallF PP 11 #[.agg #[.i x0.1,.i x0.2.1,.i x0.2.2.1,.i x0.2.2.2.1,.i x0.2.2.2.2.1,.i x0.2.2.2.2.2.1,.i x0.2.2.2.2.2.2.1,.i x0.2.2.2.2.2.2.2.1,.i x0.2.2.2.2.2.2.2.2.1,.i x0.2.2.2.2.2.2.2.2.2.1,.i x0.2.2.2.2.2.2.2.2.2.2.1],.q x1,.q x2,.agg #[.i x3.1,.w x3.2.1,.sv x3.2.2.1,.i x3.2.2.2.1,.i x3.2.2.2.2.1],.i x4] L K:=by
 refine CallF.of (args:=[.agg #[.i x0.1,.i x0.2.1,.i x0.2.2.1,.i x0.2.2.2.1,.i x0.2.2.2.2.1,.i x0.2.2.2.2.2.1,.i x0.2.2.2.2.2.2.1,.i x0.2.2.2.2.2.2.2.1,.i x0.2.2.2.2.2.2.2.2.1,.i x0.2.2.2.2.2.2.2.2.2.1,.i x0.2.2.2.2.2.2.2.2.2.2.1],.q x1,.q x2,.agg #[.i x3.1,.w x3.2.1,.sv x3.2.2.1,.i x3.2.2.2.1,.i x3.2.2.2.2.1],.i x4]) B5 B6 Tryz.func11 (e11 x0 x1 x2 x3 x4 _) (D3 ?_ h)
 unfold s11 t11
 refine D2 fun n1=>D2 fun n2=>B0 0 0 rfl rfl rfl ?_
 refine E2 ?_ ?_
 ·exact B0 0 1 rfl rfl rfl<|B0 0 2 rfl rfl rfl<|B3 fun r1=>A7
 ·refine E2 ?_ ?_
  ·exact B0 0 1 rfl rfl rfl<|B3 fun r2=>A7
  ·refine E2 ?_ ?_
   ·exact B0 0 1 rfl rfl rfl<|B3 fun r3=>A7
   ·refine E2 ?_ ?_
    ·exact B3 fun r4=>A7
    ·refine E2 ?_ ?_
     ·exact B3 fun r5=>A7
     ·refine E2 ?_ ?_
      ·exact B0 0 3 rfl rfl rfl<|B0 0 4 rfl rfl rfl<|B3 fun r6=>A7
      ·refine E2 ?_ ?_
       ·refine B3 fun r7=>B0 1 0 rfl rfl rfl<|B3 fun r8=>?_
        refine E4 ?_ ?_
        ·exact A7
        ·exact A7
       ·exact B0 0 1 rfl rfl rfl<|B3 fun r9=>A7
def s13(x0:Option Addr)(x1:ByteArray)(K:Value->HP):HP:=
 cl PP 39 #[.q x0,.w x1] [lI] fun r1=>
 ifB (decide ((r1.1:Int)=0)) (
 A9 x0 fun a1=>
 ld (Addr.add (a1.add 19) 1) (.lf .ptr) fun v1=>
 cl PP 41 #[.q x0,.w x1] [.lf (.int .u64)] fun r2=>
 keep (D4 (Addr.add (a1.add 19) 1) [.q v1])<|
 cl PP 40 #[.q v1,.int .u64 r2.1] [.lf .bool] fun r3=>
 K (.b r3.1)) (
 K (.b false))
theorem c13(x0:Option Addr)(x1:ByteArray){K:Value->HP}{L:A4}(h:s13 x0 x1 (HL.Ends K) L):CallF PP 13 #[.q x0,.w x1] L K:=by
 refine CallF.of (args:=[.q x0,.w x1]) B5 B6 Tryz.func13 (e13 x0 x1 _) (D3 ?_ h)
 unfold s13 t13
 refine B3 fun r1=>?_
 refine E2 ?_ ?_
 ·exact C4 fun a1 ha1=>B9 fun v1=>B3 fun r2=>S1<|B3 fun r3=>A7
 ·exact A7
def s14(x0:Option Addr)(K:Value->HP):HP:=
 nw (.cells #[.q x0] 28) fun n1=>
 ld ⟨n1,0,none⟩ (.lf .ptr) fun v1=>
 cl PP 42 #[.q v1,.func (.func 43) #[] #[.q (some ⟨n1,0,none⟩)]] [lI] fun r1=>
 K (.i r1.1)
theorem c14(x0:Option Addr){K:Value->HP}{L:A4}(h:s14 x0 (HL.Ends K) L):CallF PP 14 #[.q x0] L K:=by
 refine CallF.of (args:=[.q x0]) B5 B6 Tryz.func14 (e14 x0 _) (D3 ?_ h)
 unfold s14 t14
 exact R9 fun n1=>B9 fun v1=>B3 fun r1=>A7
set_option maxRecDepth 100000
def s17(x0:Option Addr)(x1:ByteArray)(x2:SlV)(K:Value->HP):HP:=
 cl PP 39 #[.q x0,.w x1] [lI] fun r1=>
 ifB (decide ((r1.1:Int)=0)) (
 ifB (decide ((x2.len:Int)>65536)) (
 K (.i 4)) (
 cl PP 46 #[.q x0,.w x1] [.lf .bool] fun r2=>
 A9 x0 fun a1=>
 ld a1 (.agg [.int .i64,.int .i64,.int .i64,.int .i64]) fun v1=>
 cl PP 47 #[.i x1.size,.i x2.len,.agg #[.i v1.1,.i v1.2.1,.i v1.2.2.1,.i v1.2.2.2.1]] [lI] fun r3=>
 ifB (decide ((r3.1:Int)=0)) (
 K (.i 14)) (
 jn (fun y1:RsV []=>
 ld (a1.add 19) (.lf .ptr) fun v3=>
 cl PP 50 #[.q v3,.w x1,.slice x2.a x2.len x2.cap] [] fun r7=>
 cl PP 51 #[.q x0] [lI] fun r8=>
 K (.i r8.1)) fun j1=>
 ld (Addr.add (a1.add 19) 1) (.lf .ptr) fun v2=>
 cl PP 41 #[.q x0,.w x1] [.lf (.int .u64)] fun r4=>
 keep (D4 (Addr.add (a1.add 19) 1) [.q v2])<|
 cl PP 48 #[.q v2,.int .u64 r4.1] [.lf .bool] fun r5=>
 ifB r5.1 (
 cl PP 49 #[.q x0,.w x1,.slice x2.a x2.len x2.cap] [lI] fun r6=>
 ifB (decide ((r6.1:Int)=0)) (
 K (.i r6.1)) (
 ifB (decide ((r6.1:Int)=11)) (
 K (.i r6.1)) (
 j1 (())))) (
 j1 (()))))) (
 K (.i r1.1))
theorem c17(x0:Option Addr)(x1:ByteArray)(x2:SlV){K:Value->HP}{L:A4}(h:s17 x0 x1 x2 (HL.Ends K) L):CallF PP 17 #[.q x0,.w x1,.slice x2.a x2.len x2.cap] L K:=by
 refine CallF.of (args:=[.q x0,.w x1,.slice x2.a x2.len x2.cap]) B5 B6 Tryz.func17 (e17 x0 x1 x2 _) (D3 ?_ h)
 unfold s17 t17
 refine B3 fun r1=>?_
 refine E4 ?_ ?_
 ·exact A7
 ·refine C1 ?_ ?_
  ·exact A7
  ·refine B3 fun r2=>C4 fun a1 ha1=>B9 fun v1=>B3 fun r3=>?_
   refine E2 ?_ ?_
   ·exact A7
   ·refine W4 (fun y1=>?_) fun j1' j1 hj1=>?_
    ·exact B1 ha1<|B9 fun v3=>B3 fun r7=>B3 fun r8=>A7
    ·refine B1 ha1<|B9 fun v2=>B3 fun r4=>S1<|B3 fun r5=>?_
     refine C1 ?_ ?_
     ·refine B3 fun r6=>?_
      refine E2 ?_ ?_
      ·exact A7
      ·refine E2 ?_ ?_
       ·exact A7
       ·exact F8 (hj1 _) rfl
     ·exact F8 (hj1 _) rfl
def s19(x0:Option Addr)(x1:ByteArray)(K:Value->HP):HP:=
 cl PP 39 #[.q x0,.w x1] [lI] fun r1=>
 ifB (decide ((r1.1:Int)=0)) (
 A9 x0 fun a1=>
 ld (a1.add 19) (.lf .ptr) fun v1=>
 cl PP 52 #[.q v1,.w x1] [.lf .bool] fun r2=>
 ifB r2.1 (
 K (.i 1)) (
 cl PP 53 #[.q x0,.w x1] [.agg [.int .i64,.int .i64,.int .i64],.lf .sl,.lf .bool] fun r3=>
 ifB r3.2.2.1 (
 K (.i 2)) (
 K (.i 0)))) (
 K (.i 0))
theorem c19(x0:Option Addr)(x1:ByteArray){K:Value->HP}{L:A4}(h:s19 x0 x1 (HL.Ends K) L):CallF PP 19 #[.q x0,.w x1] L K:=by
 refine CallF.of (args:=[.q x0,.w x1]) B5 B6 Tryz.func19 (e19 x0 x1 _) (D3 ?_ h)
 unfold s19 t19
 refine B3 fun r1=>?_
 refine E4 ?_ ?_
 ·exact A7
 ·refine C4 fun a1 ha1=>B9 fun v1=>B3 fun r2=>?_
  refine C1 ?_ ?_
  ·exact A7
  ·refine B3 fun r3=>D2 fun n1=>F6 0 0 rfl rfl rfl rfl ?_
   refine C1 ?_ ?_
   ·exact A7
   ·exact A7
def s20(x0:Option Addr)(x1:ByteArray)(K:Value->HP):HP:=
 cl PP 39 #[.q x0,.w x1] [lI] fun r1=>
 ifB (decide ((r1.1:Int)=0)) (
 A9 x0 fun a1=>
 ld (a1.add 19) (.lf .ptr) fun v1=>
 cl PP 54 #[.q v1,.w x1] [.lf .sl,.lf .bool] fun r2=>
 ifB r2.2.1 (
 K (.t #[.sv r2.1,.i 0])) (
 cl PP 53 #[.q x0,.w x1] [.agg [.int .i64,.int .i64,.int .i64],.lf .sl,.lf .bool] fun r3=>
 ifB r3.2.2.1 (
 K (.t #[.sv r3.2.1,.i 0])) (
 K (.t #[.slice none 0 0,.i 8])))) (
 K (.t #[.slice none 0 0,.i r1.1]))
theorem c20(x0:Option Addr)(x1:ByteArray){K:Value->HP}{L:A4}(h:s20 x0 x1 (HL.Ends K) L):CallF PP 20 #[.q x0,.w x1] L K:=by
 refine CallF.of (args:=[.q x0,.w x1]) B5 B6 Tryz.func20 (e20 x0 x1 _) (D3 ?_ h)
 unfold s20 t20
 refine B3 fun r1=>?_
 refine E4 ?_ ?_
 ·exact A7
 ·refine C4 fun a1 ha1=>B9 fun v1=>B3 fun r2=>?_
  refine C1 ?_ ?_
  ·exact A7
  ·refine B3 fun r3=>D2 fun n1=>F6 0 0 rfl rfl rfl rfl ?_
   refine K3 ?_ ?_
   ·exact A7
   ·exact A7
def s24(x0:Option Addr)(x1:Int)(K:Value->HP):HP:=
 cl PP 57 #[.q x0] [.lf .bool] fun r1=>
 ifB r1.1 (
 A9 x0 fun a1=>
 ld (Addr.add (a1.add 11) 2) (.lf .ptr) fun v1=>
 cl PP 58 #[.q v1,.i x1] [] fun r2=>
 K (.t #[])) (
 K (.t #[]))
theorem c24(x0:Option Addr)(x1:Int){K:Value->HP}{L:A4}(h:s24 x0 x1 (HL.Ends K) L):CallF PP 24 #[.q x0,.i x1] L K:=by
 refine CallF.of (args:=[.q x0,.i x1]) B5 B6 Tryz.func24 (e24 x0 x1 _) (D3 ?_ h)
 unfold s24 t24
 refine B3 fun r1=>?_
 refine C1 ?_ ?_
 ·exact C4 fun a1 ha1=>B9 fun v1=>B3 fun r2=>A7
 ·exact A7
def s25(x0:Option Addr)(x1:ByteArray)(K:Value->HP):HP:=
 cl PP 39 #[.q x0,.w x1] [lI] fun r1=>
 ifB (decide ((r1.1:Int)=0)) (
 A9 x0 fun a1=>
 ld (a1.add 19) (.lf .ptr) fun v1=>
 cl PP 59 #[.q v1,.w x1] [.lf .sl,.lf .bool] fun r2=>
 ifB r2.2.1 (
 K (.t #[.sv r2.1,.i 0])) (
 cl PP 53 #[.q x0,.w x1] [.agg [.int .i64,.int .i64,.int .i64],.lf .sl,.lf .bool] fun r3=>
 ifB r3.2.2.1 (
 ld (Addr.add (a1.add 19) 2) (.lf .ptr) fun v2=>
 cl PP 41 #[.q x0,.w x1] [.lf (.int .u64)] fun r4=>
 keep (D4 (Addr.add (a1.add 19) 2) [.q v2])<|
 cl PP 60 #[.q v2,.int .u64 r4.1,.agg #[.i r3.1.1,.i r3.1.2.1,.i r3.1.2.2.1]] [.lf .bool] fun r5=>
 K (.t #[.sv r3.2.1,.i 0])) (
 K (.t #[.slice none 0 0,.i 8])))) (
 K (.t #[.slice none 0 0,.i r1.1]))
theorem c25(x0:Option Addr)(x1:ByteArray){K:Value->HP}{L:A4}(h:s25 x0 x1 (HL.Ends K) L):CallF PP 25 #[.q x0,.w x1] L K:=by
 refine CallF.of (args:=[.q x0,.w x1]) B5 B6 Tryz.func25 (e25 x0 x1 _) (D3 ?_ h)
 unfold s25 t25
 refine B3 fun r1=>?_
 refine E4 ?_ ?_
 ·exact A7
 ·refine C4 fun a1 ha1=>B9 fun v1=>B3 fun r2=>?_
  refine C1 ?_ ?_
  ·exact A7
  ·refine B3 fun r3=>D2 fun n1=>F6 0 0 rfl rfl rfl rfl ?_
   refine K3 ?_ ?_
   ·exact A7
   ·exact B1 ha1<|B9 fun v2=>B0 0 0 rfl rfl rfl<|B3 fun r4=>M5 0 0 rfl rfl rfl<|S1<|B3 fun r5=>A7
def s26(x0:Option Addr)(x1:ByteArray)(K:Value->HP):HP:=
 cl PP 39 #[.q x0,.w x1] [lI] fun r1=>
 ifB (decide ((r1.1:Int)=0)) (
 cl PP 46 #[.q x0,.w x1] [.lf .bool] fun r2=>
 K (.t #[.b r2.1,.i 0])) (
 K (.t #[.b false,.i r1.1]))
theorem c26(x0:Option Addr)(x1:ByteArray){K:Value->HP}{L:A4}(h:s26 x0 x1 (HL.Ends K) L):CallF PP 26 #[.q x0,.w x1] L K:=by
 refine CallF.of (args:=[.q x0,.w x1]) B5 B6 Tryz.func26 (e26 x0 x1 _) (D3 ?_ h)
 unfold s26 t26
 refine B3 fun r1=>?_
 refine E4 ?_ ?_
 ·exact A7
 ·exact B3 fun r2=>A7
def s27(x0:Option Addr)(K:Value->HP):HP:=
 ifB (Option.isNone x0) (
 K (.i 1)) (
 A9 x0 fun a1=>
 ld (Addr.add (a1.add 11) 7) (.lf .bool) fun v1=>
 ifB v1 (
 K (.i 11)) (
 lp [] (()) fun z1 go1=>
 ld (Addr.add (a1.add 11) 6) (.lf .sl) fun v2=>
 ifB (decide ((v2.len:Int)>0)) (
 cl PP 61 #[.q x0,.i 1] [lI] fun r1=>
 ifB (decide ((r1.1:Int)=0)) (
 ld (Addr.add (a1.add 11) 6) (.lf .sl) fun v3=>
 ld (a1.add 2) (lI) fun v4=>
 cl PP 62 #[.i v4] [lI] fun r2=>
 keep (D4 (Addr.add (a1.add 11) 6) [.sv v3])<|
 w64 (Int.tdiv r2.1 6) fun i1=>
 ifB (decide ((Ab3 v3.len i1:Int)=0)) (
 K (.i 0)) (
 ld (Addr.add (a1.add 11) 6) (.lf .sl) fun v5=>
 slc v5 0 (Ab3 v3.len i1) v5.cap 3 fun s1=>
 cl PP 63 #[.sv s1] [.lf .sl,lI] fun r3=>
 ifB (decide ((r3.2.1:Int)=0)) (
 nw (.cells #[.slice r3.1.a r3.1.len r3.1.cap] 27) fun n1=>
 cl PP 64 #[.q (some (a1.add 11)),.i 3,.slice (some ⟨n1,0,none⟩) 1 1] [.agg [.int .i64,.int .i64,.int .i64],lI] fun r4=>
 ifB (decide ((r4.2.1:Int)=0)) (
 ld (Addr.add (a1.add 11) 6) (.lf .sl) fun v6=>
 cl PP 65 #[.sv v6,.i 0,.i (Ab3 v3.len i1)] [.lf .sl] fun r5=>
 st (Addr.add (a1.add 11) 6) [.slice r5.1.a r5.1.len r5.1.cap]<|
 go1 (())) (
 K (.i r4.2.1))) (
 K (.i r3.2.1)))) (
 K (.i r1.1))) (
 K (.i 0))))
theorem c27(x0:Option Addr){K:Value->HP}{L:A4}(h:s27 x0 (HL.Ends K) L):CallF PP 27 #[.q x0] L K:=by
 refine CallF.of (args:=[.q x0]) B5 B6 Tryz.func27 (e27 x0 _) (D3 ?_ h)
 unfold s27 t27
 refine C1 ?_ ?_
 ·exact A7
 ·refine C4 fun a1 ha1=>B9 fun v1=>?_
  refine C1 ?_ ?_
  ·exact A7
  ·refine K2 fun go1' go1 hgo1 z1=>B1 ha1<|B9 fun v2=>?_
   refine C1 ?_ ?_
   ·refine B3 fun r1=>?_
    refine E4 ?_ ?_
    ·exact A7
    ·refine B1 ha1<|B1 ha1<|B9 fun v3=>B9 fun v4=>B3 fun r2=>S1<|Dd9 (by decide)<|D1 ?_
     refine E2 ?_ ?_
     ·exact A7
     ·refine B1 ha1<|B9 fun v5=>Az7 fun s1=>B3 fun r3=>?_
      refine E4 ?_ ?_
      ·exact A7
      ·refine B1 ha1<|R9 fun n1=>B3 fun r4=>D2 fun n2=>F6 0 0 rfl rfl rfl rfl ?_
       refine E4 ?_ ?_
       ·exact A7
       ·exact B1 ha1<|B9 fun v6=>B3 fun r5=>B1 ha1<|Ac7<|F8 (hgo1 _) rfl
   ·exact A7
def s29(x0:Option Addr)(K:Value->HP):HP:=
 nw (.cells #[.q x0] 28) fun n1=>
 ld ⟨n1,0,none⟩ (.lf .ptr) fun v1=>
 cl PP 42 #[.q v1,.func (.func 67) #[] #[.q (some ⟨n1,0,none⟩)]] [lI] fun r1=>
 K (.i r1.1)
theorem c29(x0:Option Addr){K:Value->HP}{L:A4}(h:s29 x0 (HL.Ends K) L):CallF PP 29 #[.q x0] L K:=by
 refine CallF.of (args:=[.q x0]) B5 B6 Tryz.func29 (e29 x0 _) (D3 ?_ h)
 unfold s29 t29
 exact R9 fun n1=>B9 fun v1=>B3 fun r1=>A7
def s30(x0:Option Addr)(K:Value->HP):HP:=
 nw (.cells #[.q x0] 28) fun n1=>
 ld ⟨n1,0,none⟩ (.lf .ptr) fun v1=>
 cl PP 42 #[.q v1,.func (.func 69) #[] #[.q (some ⟨n1,0,none⟩)]] [lI] fun r1=>
 K (.i r1.1)
theorem c30(x0:Option Addr){K:Value->HP}{L:A4}(h:s30 x0 (HL.Ends K) L):CallF PP 30 #[.q x0] L K:=by
 refine CallF.of (args:=[.q x0]) B5 B6 Tryz.func30 (e30 x0 _) (D3 ?_ h)
 unfold s30 t30
 exact R9 fun n1=>B9 fun v1=>B3 fun r1=>A7
def s31(x0:Option Addr)(K:Value->HP):HP:=
 cl PP 57 #[.q x0] [.lf .bool] fun r1=>
 ifB r1.1 (
 A9 x0 fun a1=>
 ld (Addr.add (a1.add 11) 6) (.lf .sl) fun v1=>
 cl PP 71 #[.sv v1] [.lf .sl] fun r2=>
 K (.sv r2.1)) (
 K (.slice none 0 0))
theorem c31(x0:Option Addr){K:Value->HP}{L:A4}(h:s31 x0 (HL.Ends K) L):CallF PP 31 #[.q x0] L K:=by
 refine CallF.of (args:=[.q x0]) B5 B6 Tryz.func31 (e31 x0 _) (D3 ?_ h)
 unfold s31 t31
 refine B3 fun r1=>?_
 refine K3 ?_ ?_
 ·exact A7
 ·exact C4 fun a1 ha1=>B9 fun v1=>B3 fun r2=>A7
def s36(x0:ShV (.agg [.int .i64,.int .i64,.int .i64,.int .i64,.int .i64,.int .i64,.int .i64,.int .i64,.int .i64,.int .i64,.int .i64]))(x1:Option Addr)(x2:Int)(K:Value->HP):HP:=
 ifB (Option.isNone x1) (
 K (.t #[.q none,.i 1])) (
 cl PP 92 #[.i x0.2.2.2.2.1,.i x0.2.2.2.2.2.1] [.lf .ptr,lI] fun r1=>
 jn (fun y1:RsV []=>
 cl PP 95 #[.q x1] [.agg [.sl,.sl,.int .i64],lI] fun r4=>
 ifB (decide ((r4.2.1:Int)=0)) (
 cl PP 96 #[.i x0.2.2.2.2.2.2.2.2.1,.i x0.2.2.2.2.2.2.2.2.2.1,.i x2,.i 0] [.lf .ptr] fun r5=>
 cl PP 97 #[.i x0.2.2.2.2.2.2.1] [.lf .ptr] fun r6=>
 cl PP 98 #[.i x0.2.2.2.2.2.2.2.1] [.lf .ptr] fun r7=>
 nw (.map #[] 0) fun n3=>
 nw (.cells #[.i x0.1,.i x0.2.1,.i x0.2.2.1,.i x0.2.2.2.1,.i x0.2.2.2.2.1,.i x0.2.2.2.2.2.1,.i x0.2.2.2.2.2.2.1,.i x0.2.2.2.2.2.2.2.1,.i x0.2.2.2.2.2.2.2.2.1,.i x0.2.2.2.2.2.2.2.2.2.1,.i x0.2.2.2.2.2.2.2.2.2.2.1,.q x1,.q none,.q r5.1,.map (some n3),.q none,.i r4.1.2.2.1,.slice none 0 0,.b false,.q r6.1,.q r7.1,.q r1.1] 89) fun n4=>
 lp [.lf .sl,lI] (⟨none,0,0⟩,0,()) fun z1 go1=>
 ifB (decide ((z1.2.1:Int)<r4.1.1.len)) (
 elp r4.1.1.a r4.1.1.len z1.2.1 3 fun a1=>
 ld a1 (.agg [.int .i64,.int .i64,.sl]) fun v2=>
 apv PP 49 49 49 3 z1.1 1 [.i v2.1] fun s1=>
 ld (Addr.add (Addr.add ⟨n4,0,none⟩ 11) 3) (.lf .map) fun v3=>
 nw (.cells #[.i v2.1,.i v2.2.1,.i 0,.slice v2.2.2.1.a v2.2.2.1.len v2.2.2.1.cap] 156) fun n7=>
 smU PP (Instr.mapUpdate 79 (.map v3) (.i v2.1) (.q (some ⟨n7,0,none⟩)))<|
 w64 (z1.2.1+1) fun i1=>
 go1 (s1,i1,())) (
 cl PP 100 #[.q x1] [.lf .sl] fun r8=>
 cl PP 99 #[.sv r8.1,.sv z1.1] [.lf .ptr,lI] fun r9=>
 st (Addr.add (Addr.add ⟨n4,0,none⟩ 11) 1) [.q r9.1]<|
 ifB (decide ((r9.2.1:Int)=0)) (
 lp [lI] (0,()) fun z2 go2=>
 ifB (decide ((z2.1:Int)<r4.1.2.1.len)) (
 elp r4.1.2.1.a r4.1.2.1.len z2.1 4 fun a2=>
 ld a2 (.agg [.str,.int .i64,.int .i64,.int .i64]) fun v4=>
 cl PP 101 #[.q (some ⟨n4,0,none⟩),.w v4.1,.agg #[.i v4.2.1,.i v4.2.2.1,.i v4.2.2.2.1]] [] fun r10=>
 w64 (z2.1+1) fun i2=>
 go2 (i2,())) (
 K (.t #[.q (some ⟨n4,0,none⟩),.i 0]))) (
 K (.t #[.q none,.i r9.2.1])))) (
 K (.t #[.q none,.i r4.2.1]))) fun j1=>
 cl PP 93 #[.q x1] [.agg [.int .i64,.int .i64,.int .i64,.int .i64]] fun r2=>
 smP PP (binOp .neq 23 (.agg #[.i r2.1.1,.i r2.1.2.1,.i r2.1.2.2.1,.i r2.1.2.2.2.1]) (.agg #[.i x0.1,.i x0.2.1,.i x0.2.2.1,.i x0.2.2.2.1])) (.lf .bool) fun v1=>
 ifB v1 (
 K (.t #[.q none,.i 30])) (
 ifB (decide ((r1.2.1:Int)=0)) (
 cl PP 94 #[.agg #[.i x0.1,.i x0.2.1,.i x0.2.2.1,.i x0.2.2.2.1,.i x0.2.2.2.2.1,.i x0.2.2.2.2.2.1,.i x0.2.2.2.2.2.2.1,.i x0.2.2.2.2.2.2.2.1,.i x0.2.2.2.2.2.2.2.2.1,.i x0.2.2.2.2.2.2.2.2.2.1,.i x0.2.2.2.2.2.2.2.2.2.2.1]] [.lf .bool] fun r3=>
 ifB r3.1 (
 j1 (())) (
 K (.t #[.q none,.i 30]))) (
 K (.t #[.q none,.i 30]))))
theorem c36(x0:ShV (.agg [.int .i64,.int .i64,.int .i64,.int .i64,.int .i64,.int .i64,.int .i64,.int .i64,.int .i64,.int .i64,.int .i64]))(x1:Option Addr)(x2:Int){K:Value->HP}{L:A4}(h:s36 x0 x1 x2 (HL.Ends K) L):CallF PP 36 #[.agg #[.i x0.1,.i x0.2.1,.i x0.2.2.1,.i x0.2.2.2.1,.i x0.2.2.2.2.1,.i x0.2.2.2.2.2.1,.i x0.2.2.2.2.2.2.1,.i x0.2.2.2.2.2.2.2.1,.i x0.2.2.2.2.2.2.2.2.1,.i x0.2.2.2.2.2.2.2.2.2.1,.i x0.2.2.2.2.2.2.2.2.2.2.1],.q x1,.i x2] L K:=by
 refine CallF.of (args:=[.agg #[.i x0.1,.i x0.2.1,.i x0.2.2.1,.i x0.2.2.2.1,.i x0.2.2.2.2.1,.i x0.2.2.2.2.2.1,.i x0.2.2.2.2.2.2.1,.i x0.2.2.2.2.2.2.2.1,.i x0.2.2.2.2.2.2.2.2.1,.i x0.2.2.2.2.2.2.2.2.2.1,.i x0.2.2.2.2.2.2.2.2.2.2.1],.q x1,.i x2]) B5 B6 Tryz.func36 (e36 x0 x1 x2 _) (D3 ?_ h)
 unfold s36 t36
 refine D2 fun n1=>?_
 refine C1 ?_ ?_
 ·exact A7
 ·refine B0 0 4 rfl rfl rfl<|B0 0 5 rfl rfl rfl<|B3 fun r1=>?_
  refine W4 (fun y1=>?_) fun j1' j1 hj1=>?_
  ·refine B3 fun r4=>D2 fun n2=>F6 0 0 rfl rfl rfl rfl ?_
   refine E4 ?_ ?_
   ·exact A7
   ·refine B0 1 0 rfl rfl rfl<|B0 1 8 rfl rfl rfl<|B0 1 9 rfl rfl rfl<|B0 0 2 rfl rfl rfl<|B0 1 6 rfl rfl rfl<|B0 1 7 rfl rfl rfl<|B3 fun r5=>M5 1 7 rfl rfl rfl<|M5 1 6 rfl rfl rfl<|M5 0 2 rfl rfl rfl<|M5 1 0 rfl rfl rfl<|B3 fun r6=>M5 1 7 rfl rfl rfl<|M5 0 2 rfl rfl rfl<|M5 1 0 rfl rfl rfl<|B3 fun r7=>M5 0 2 rfl rfl rfl<|M5 1 0 rfl rfl rfl<|R9 fun n3=>R9 fun n4=>B0 0 0 rfl rfl rfl<|K2 fun go1' go1 hgo1 z1=>?_
    refine C1 ?_ ?_
    ·exact G8 fun a1 ha1=>B9 fun v2=>D2 fun n5=>F6 0 0 rfl rfl rfl rfl<|B0 0 0 rfl rfl rfl<|D2 fun n6=>Z0 (v:=_) 0 rfl fun s1=>B9 fun v3=>B0 1 0 rfl rfl rfl<|B0 1 0 rfl rfl rfl<|B0 1 1 rfl rfl rfl<|B0 1 2 rfl rfl rfl<|R9 fun n7=>Bx9<|D1<|H3 3 rfl rfl<|H3 3 rfl rfl<|F8 (hgo1 _) rfl
    ·refine B3 fun r8=>B3 fun r9=>Ac7 ?_
     refine E4 ?_ ?_
     ·exact A7
     ·refine B0 0 1 rfl rfl rfl<|K2 fun go2' go2 hgo2 z2=>?_
      refine C1 ?_ ?_
      ·exact G8 fun a2 ha2=>B9 fun v4=>D2 fun n8=>F6 0 0 rfl rfl rfl rfl<|B0 0 0 rfl rfl rfl<|B0 0 1 rfl rfl rfl<|B3 fun r10=>D1<|H3 2 rfl rfl<|H3 2 rfl rfl<|F8 (hgo2 _) rfl
      ·exact A7
  ·refine B0 0 0 rfl rfl rfl<|B3 fun r2=>M5 0 0 rfl rfl rfl<|Ch3 fun v1=>?_
   refine C1 ?_ ?_
   ·exact A7
   ·refine E4 ?_ ?_
    ·exact A7
    ·refine B0 0 0 rfl rfl rfl<|B3 fun r3=>?_
     refine K3 ?_ ?_
     ·exact A7
     ·exact F8 (hj1 _) rfl
def s37(K:Value->HP):HP:=
 K (.agg #[.i 4,.i 8,.i 64,.i 1000,.i 4,.i 4,.i 12,.i 8,.i 1000,.i 4000,.i 0])
theorem c37{K:Value->HP}{L:A4}(h:s37 (HL.Ends K) L):CallF PP 37 #[] L K:=by
 refine CallF.of (args:=[]) B5 B6 Tryz.func37 (e37 _) (D3 ?_ h)
 unfold s37 t37
 exact D2 fun n1=>F6 0 0 rfl rfl rfl rfl<|B0 0 0 rfl rfl rfl<|A7
def s39(x0:Option Addr)(x1:ByteArray)(K:Value->HP):HP:=
 ifB (Option.isNone x0) (
 K (.i 1)) (
 A9 x0 fun a1=>
 ld (Addr.add (a1.add 11) 7) (.lf .bool) fun v1=>
 ifB v1 (
 K (.i 11)) (
 ifB (decide (x1=(ByteArray.mk #[]))) (
 K (.i 2)) (
 ifB (decide ((x1.size:Int)>255)) (
 K (.i 2)) (
 K (.i 0)))))
theorem c39(x0:Option Addr)(x1:ByteArray){K:Value->HP}{L:A4}(h:s39 x0 x1 (HL.Ends K) L):CallF PP 39 #[.q x0,.w x1] L K:=by
 refine CallF.of (args:=[.q x0,.w x1]) B5 B6 Tryz.func39 (e39 x0 x1 _) (D3 ?_ h)
 unfold s39 t39
 refine C1 ?_ ?_
 ·exact A7
 ·refine C4 fun a1 ha1=>B9 fun v1=>?_
  refine C1 ?_ ?_
  ·exact A7
  ·refine Ch4 ?_ ?_
   ·exact A7
   ·refine C1 ?_ ?_
    ·exact A7
    ·exact A7
set_option maxRecDepth 100000
def s41(x0:Option Addr)(x1:ByteArray)(K:Value->HP):HP:=
 A9 x0 fun a1=>
 ld (a1.add 10) (lI) fun v1=>
 cl PP 104 #[.i v1,.w x1] [.lf (.int .u64)] fun r1=>
 K (.int .u64 r1.1)
theorem c41(x0:Option Addr)(x1:ByteArray){K:Value->HP}{L:A4}(h:s41 x0 x1 (HL.Ends K) L):CallF PP 41 #[.q x0,.w x1] L K:=by
 refine CallF.of (args:=[.q x0,.w x1]) B5 B6 Tryz.func41 (e41 x0 x1 _) (D3 ?_ h)
 unfold s41 t41
 exact C4 fun a1 ha1=>B9 fun v1=>B3 fun r1=>A7
def s42(x0:Option Addr)(x1:FnV)(K:Value->HP):HP:=
 cl PP 57 #[.q x0] [.lf .bool] fun r1=>
 ifB r1.1 (
 clv PP x1.fn (x1.first++#[]) x1.captured [lI] fun r2=>
 K (.i r2.1)) (
 K (.i 0))
theorem c42(x0:Option Addr)(x1:FnV){K:Value->HP}{L:A4}(h:s42 x0 x1 (HL.Ends K) L):CallF PP 42 #[.q x0,.func x1.fn x1.first x1.captured] L K:=by
 refine CallF.of (args:=[.q x0,.func x1.fn x1.first x1.captured]) B5 B6 Tryz.func42 (e42 x0 x1 _) (D3 ?_ h)
 unfold s42 t42
 refine B3 fun r1=>?_
 refine K3 ?_ ?_
 ·exact A7
 ·exact A53 fun r2=>A7
def s43(x0:Option Addr)(K:Value->HP):HP:=
 A9 x0 fun a1=>
 ld a1 (.lf .ptr) fun v1=>
 A9 v1 fun a2=>
 ld (Addr.add (a2.add 11) 2) (.lf .ptr) fun v2=>
 cl PP 44 #[.q v2] [lI] fun r1=>
 K (.i r1.1)
theorem c43(x0:Option Addr){K:Value->HP}{L:A4}(h:s43 x0 (HL.Ends K) L):CallF PP 43 #[.q x0] L K:=by
 refine CallF.of (args:=[.q x0]) B5 B6 Tryz.func43 (e43 x0 _) (D3 ?_ h)
 unfold s43 t43
 exact C4 fun a1 ha1=>B9 fun v1=>C4 fun a2 ha2=>B9 fun v2=>B3 fun r1=>A7
def s46(x0:Option Addr)(x1:ByteArray)(K:Value->HP):HP:=
 A9 x0 fun a1=>
 ld (a1.add 19) (.lf .ptr) fun v1=>
 cl PP 105 #[.q v1,.w x1] [.lf .bool] fun r1=>
 cl PP 53 #[.q x0,.w x1] [.agg [.int .i64,.int .i64,.int .i64],.lf .sl,.lf .bool] fun r2=>
 ifB r2.2.2.1 (
 ld (Addr.add (a1.add 19) 2) (.lf .ptr) fun v2=>
 cl PP 41 #[.q x0,.w x1] [.lf (.int .u64)] fun r3=>
 keep (D4 (Addr.add (a1.add 19) 2) [.q v2])<|
 cl PP 106 #[.q v2,.int .u64 r3.1,.agg #[.i r2.1.1,.i r2.1.2.1,.i r2.1.2.2.1]] [.lf .bool] fun r4=>
 ld (Addr.add (a1.add 11) 6) (.lf .sl) fun v3=>
 apv PP 55 55 55 102 v3 1 [.i r2.1.1,.i r2.1.2.1,.i r2.1.2.2.1] fun s1=>
 st (Addr.add (a1.add 11) 6) [.slice s1.a s1.len s1.cap]<|
 ifB r1.1 (
 K (.b true)) (
 K (.b r2.2.2.1))) (
 ifB r1.1 (
 K (.b true)) (
 K (.b r2.2.2.1)))
theorem c46(x0:Option Addr)(x1:ByteArray){K:Value->HP}{L:A4}(h:s46 x0 x1 (HL.Ends K) L):CallF PP 46 #[.q x0,.w x1] L K:=by
 refine CallF.of (args:=[.q x0,.w x1]) B5 B6 Tryz.func46 (e46 x0 x1 _) (D3 ?_ h)
 unfold s46 t46
 refine C4 fun a1 ha1=>B9 fun v1=>B3 fun r1=>B3 fun r2=>D2 fun n1=>F6 0 0 rfl rfl rfl rfl ?_
 refine C1 ?_ ?_
 ·refine B1 ha1<|B9 fun v2=>B0 0 0 rfl rfl rfl<|B3 fun r3=>M5 0 0 rfl rfl rfl<|S1<|B3 fun r4=>B1 ha1<|B9 fun v3=>B0 0 0 rfl rfl rfl<|D2 fun n2=>Z0 (v:=_) 0 rfl fun s1=>B1 ha1<|Ac7 ?_
  refine C1 ?_ ?_
  ·exact A7
  ·exact A7
 ·refine C1 ?_ ?_
  ·exact A7
  ·exact A7
def s49(x0:Option Addr)(x1:ByteArray)(x2:SlV)(K:Value->HP):HP:=
 A9 x0 fun a1=>
 ld a1 (.agg [.int .i64,.int .i64,.int .i64,.int .i64]) fun v1=>
 cl PP 111 #[.w x1,.slice x2.a x2.len x2.cap,.agg #[.i v1.1,.i v1.2.1,.i v1.2.2.1,.i v1.2.2.2.1]] [.lf .sl,lI] fun r1=>
 ifB (decide ((r1.2.1:Int)=0)) (
 cl PP 61 #[.q x0,.i r1.1.len] [lI] fun r2=>
 ifB (decide ((r2.1:Int)=0)) (
 cl PP 64 #[.q (some (a1.add 11)),.i 2,.slice r1.1.a r1.1.len r1.1.cap] [.agg [.int .i64,.int .i64,.int .i64],lI] fun r3=>
 ifB (decide ((r3.2.1:Int)=0)) (
 cl PP 101 #[.q x0,.w x1,.agg #[.i r3.1.1,.i r3.1.2.1,.i r3.1.2.2.1]] [] fun r4=>
 K (.i r3.2.1)) (
 K (.i r3.2.1))) (
 K (.i r2.1))) (
 K (.i r1.2.1))
theorem c49(x0:Option Addr)(x1:ByteArray)(x2:SlV){K:Value->HP}{L:A4}(h:s49 x0 x1 x2 (HL.Ends K) L):CallF PP 49 #[.q x0,.w x1,.slice x2.a x2.len x2.cap] L K:=by
 refine CallF.of (args:=[.q x0,.w x1,.slice x2.a x2.len x2.cap]) B5 B6 Tryz.func49 (e49 x0 x1 x2 _) (D3 ?_ h)
 unfold s49 t49
 refine C4 fun a1 ha1=>B9 fun v1=>B3 fun r1=>?_
 refine E4 ?_ ?_
 ·exact A7
 ·refine B3 fun r2=>?_
  refine E4 ?_ ?_
  ·exact A7
  ·refine B1 ha1<|B3 fun r3=>D2 fun n1=>F6 0 0 rfl rfl rfl rfl ?_
   refine E2 ?_ ?_
   ·exact B0 0 0 rfl rfl rfl<|B3 fun r4=>A7
   ·exact A7
def s51(x0:Option Addr)(K:Value->HP):HP:=
 lp [] (()) fun z1 go1=>
 A9 x0 fun a1=>
 ld (a1.add 19) (.lf .ptr) fun v1=>
 cl PP 113 #[.q v1] [.lf .bool] fun r1=>
 ifB r1.1 (
 ld (a1.add 19) (.lf .ptr) fun v2=>
 cl PP 114 #[.q v2] [.agg [.str,.sl,.int .i64],.lf .bool] fun r2=>
 jn (fun y1:RsV [lI]=>
 ifB (decide ((y1.1:Int)=0)) (
 go1 (())) (
 ifB (decide ((y1.1:Int)=11)) (
 K (.i y1.1)) (
 ld (Addr.add (a1.add 19) 1) (.lf .ptr) fun v3=>
 cl PP 41 #[.q x0,.w r2.1.1] [.lf (.int .u64)] fun r4=>
 keep (D4 (Addr.add (a1.add 19) 1) [.q v3])<|
 cl PP 115 #[.q v3,.int .u64 r4.1] [] fun r5=>
 go1 (())))) fun j1=>
 ifB (decide ((r2.1.2.2.1:Int)>0)) (
 cl PP 49 #[.q x0,.w r2.1.1,.sv r2.1.2.1] [lI] fun r3=>
 j1 (r3.1,())) (
 j1 (8,()))) (
 K (.i 0))
theorem c51(x0:Option Addr){K:Value->HP}{L:A4}(h:s51 x0 (HL.Ends K) L):CallF PP 51 #[.q x0] L K:=by
 refine CallF.of (args:=[.q x0]) B5 B6 Tryz.func51 (e51 x0 _) (D3 ?_ h)
 unfold s51 t51
 refine K2 fun go1' go1 hgo1 z1=>C4 fun a1 ha1=>B9 fun v1=>B3 fun r1=>?_
 refine C1 ?_ ?_
 ·refine B1 ha1<|B9 fun v2=>B3 fun r2=>D2 fun n1=>F6 0 0 rfl rfl rfl rfl ?_
  refine W4 (fun y1=>?_) fun j1' j1 hj1=>?_
  ·refine E2 ?_ ?_
   ·exact F8 (hgo1 _) rfl
   ·refine E2 ?_ ?_
    ·exact A7
    ·exact B1 ha1<|B9 fun v3=>B0 0 0 rfl rfl rfl<|B3 fun r4=>S1<|B3 fun r5=>F8 (hgo1 _) rfl
  ·refine B0 0 2 rfl rfl rfl ?_
   refine C1 ?_ ?_
   ·exact B0 0 0 rfl rfl rfl<|B0 0 1 rfl rfl rfl<|B3 fun r3=>F8 (hj1 _) rfl
   ·exact F8 (hj1 _) rfl
 ·exact A7
def s53(x0:Option Addr)(x1:ByteArray)(K:Value->HP):HP:=
 A9 x0 fun a1=>
 ld (Addr.add (a1.add 19) 2) (.lf .ptr) fun v1=>
 cl PP 41 #[.q x0,.w x1] [.lf (.int .u64)] fun r1=>
 keep (D4 (Addr.add (a1.add 19) 2) [.q v1])<|
 cl PP 117 #[.q v1,.int .u64 r1.1] [.lf .sl] fun r2=>
 lp [lI] (0,()) fun z1 go1=>
 ifB (decide ((z1.1:Int)<r2.1.len)) (
 elp r2.1.a r2.1.len z1.1 3 fun a2=>
 ld a2 (.agg [.int .i64,.int .i64,.int .i64]) fun v2=>
 ld (a1.add 11) (.lf .ptr) fun v3=>
 cl PP 118 #[.q v3,.agg #[.i v2.1,.i v2.2.1,.i v2.2.2.1]] [.lf .str,.lf .sl,lI] fun r3=>
 ifB (decide ((r3.2.2.1:Int)=0)) (
 ifB (decide (r3.1=x1)) (
 K (.t #[.agg #[.i v2.1,.i v2.2.1,.i v2.2.2.1],.sv r3.2.1,.b true])) (
 w64 (z1.1+1) fun i1=>
 go1 (i1,()))) (
 w64 (z1.1+1) fun i2=>
 go1 (i2,()))) (
 K (.t #[.agg #[.i 0,.i 0,.i 0],.slice none 0 0,.b false]))
theorem c53(x0:Option Addr)(x1:ByteArray){K:Value->HP}{L:A4}(h:s53 x0 x1 (HL.Ends K) L):CallF PP 53 #[.q x0,.w x1] L K:=by
 refine CallF.of (args:=[.q x0,.w x1]) B5 B6 Tryz.func53 (e53 x0 x1 _) (D3 ?_ h)
 unfold s53 t53
 refine D2 fun n1=>C4 fun a1 ha1=>B9 fun v1=>B3 fun r1=>S1<|B3 fun r2=>K2 fun go1' go1 hgo1 z1=>?_
 refine C1 ?_ ?_
 ·refine G8 fun a2 ha2=>B9 fun v2=>D2 fun n2=>F6 0 0 rfl rfl rfl rfl<|B1 ha1<|B9 fun v3=>B0 0 0 rfl rfl rfl<|B3 fun r3=>?_
  refine E2 ?_ ?_
  ·refine Ch4 ?_ ?_
   ·exact B0 0 0 rfl rfl rfl<|F6 1 0 rfl rfl rfl rfl<|B0 1 0 rfl rfl rfl<|A7
   ·exact D1<|H3 1 rfl rfl<|F8 (hgo1 _) rfl
  ·exact D1<|H3 1 rfl rfl<|F8 (hgo1 _) rfl
 ·exact F6 0 0 rfl rfl rfl rfl<|B0 0 0 rfl rfl rfl<|A7
def s57(x0:Option Addr)(K:Value->HP):HP:=
 ifB (Option.isNone x0) (
 K (.b false)) (
 A9 x0 fun a1=>
 ld (Addr.add (a1.add 11) 7) (.lf .bool) fun v1=>
 K (.b (!v1)))
theorem c57(x0:Option Addr){K:Value->HP}{L:A4}(h:s57 x0 (HL.Ends K) L):CallF PP 57 #[.q x0] L K:=by
 refine CallF.of (args:=[.q x0]) B5 B6 Tryz.func57 (e57 x0 _) (D3 ?_ h)
 unfold s57 t57
 refine K3 ?_ ?_
 ·exact C4 fun a1 ha1=>B9 fun v1=>A7
 ·exact A7
def s61(x0:Option Addr)(x1:Int)(K:Value->HP):HP:=
 lp [] (()) fun z1 go1=>
 A9 x0 fun a1=>
 nw (.cells #[.i x1] 3) fun n1=>
 cl PP 126 #[.q (some (a1.add 11)),.slice (some ⟨n1,0,none⟩) 1 1] [.lf .bool] fun r1=>
 ifB r1.1 (
 nw (.cells #[.i x1] 3) fun n2=>
 cl PP 128 #[.q (some (a1.add 11)),.slice (some ⟨n2,0,none⟩) 1 1] [.lf .bool] fun r3=>
 ifB r3.1 (
 K (.i 0)) (
 K (.i 13))) (
 cl PP 127 #[.q x0,.i x1] [lI] fun r2=>
 ifB (decide ((r2.1:Int)=0)) (
 go1 (())) (
 K (.i r2.1)))
theorem c61(x0:Option Addr)(x1:Int){K:Value->HP}{L:A4}(h:s61 x0 x1 (HL.Ends K) L):CallF PP 61 #[.q x0,.i x1] L K:=by
 refine CallF.of (args:=[.q x0,.i x1]) B5 B6 Tryz.func61 (e61 x0 x1 _) (D3 ?_ h)
 unfold s61 t61
 refine K2 fun go1' go1 hgo1 z1=>C4 fun a1 ha1=>R9 fun n1=>B3 fun r1=>?_
 refine K3 ?_ ?_
 ·refine B3 fun r2=>?_
  refine E4 ?_ ?_
  ·exact A7
  ·exact F8 (hgo1 _) rfl
 ·refine B1 ha1<|R9 fun n2=>B3 fun r3=>?_
  refine K3 ?_ ?_
  ·exact A7
  ·exact A7
def s64(x0:Option Addr)(x1:Int)(x2:SlV)(K:Value->HP):HP:=
 A9 x0 fun a1=>
 ld (a1.add 4) (.lf .ptr) fun v1=>
 ld (a1.add 2) (.lf .ptr) fun v2=>
 nw (.cells #[.i x2.len] 3) fun n2=>
 cl PP 134 #[.q x0,.slice (some ⟨n2,0,none⟩) 1 1] [lI] fun r1=>
 keep (D4 (a1.add 2) [.q v2])<|
 cl PP 133 #[.q v2,.i r1.1] [.lf .bool] fun r2=>
 A9 v1 fun a2=>
 ld a2 (lI) fun v3=>
 ld (a2.add 2) (lI) fun v4=>
 ld (a2.add 1) (lI) fun v5=>
 ld a1 (.lf .ptr) fun v6=>
 ld a2 (lI) fun v7=>
 ld (a2.add 1) (lI) fun v8=>
 ld (a2.add 2) (lI) fun v9=>
 cl PP 135 #[.q v6,.i v7,.i v8,.i v9,.i x1,.sv x2] [lI] fun r3=>
 ifB (decide ((r3.1:Int)=0)) (
 ld (a2.add 3) (.lf .sl) fun v10=>
 ld (a2.add 2) (lI) fun v11=>
 apv PP 152 152 152 215 v10 1 [.i x1,.i v11,.i x2.len] fun s1=>
 st (a2.add 3) [.slice s1.a s1.len s1.cap]<|
 ld (a2.add 2) (lI) fun v12=>
 w64 (v12+x2.len) fun i1=>
 st (a2.add 2) [.i i1]<|
 K (.t #[.agg #[.i v3,.i v4,.i v5],.i 0])) (
 cl PP 136 #[.q x0,.i r3.1] [lI] fun r4=>
 K (.t #[.agg #[.i v3,.i v4,.i v5],.i r4.1]))
theorem c64(x0:Option Addr)(x1:Int)(x2:SlV){K:Value->HP}{L:A4}(h:s64 x0 x1 x2 (HL.Ends K) L):CallF PP 64 #[.q x0,.i x1,.sv x2] L K:=by
 refine CallF.of (args:=[.q x0,.i x1,.sv x2]) B5 B6 Tryz.func64 (e64 x0 x1 x2 _) (D3 ?_ h)
 unfold s64 t64
 refine D2 fun n1=>C4 fun a1 ha1=>B9 fun v1=>B1 ha1<|B9 fun v2=>R9 fun n2=>B3 fun r1=>S1<|B3 fun r2=>C4 fun a2 ha2=>B1 ha2<|B1 ha2<|B9 fun v3=>B9 fun v4=>B9 fun v5=>D2 fun n3=>F6 0 0 rfl rfl rfl rfl<|B1 ha1<|B1 ha2<|B1 ha2<|B1 ha2<|B9 fun v6=>B9 fun v7=>B9 fun v8=>B9 fun v9=>B3 fun r3=>?_
 refine E4 ?_ ?_
 ·exact B0 0 0 rfl rfl rfl<|B3 fun r4=>M5 0 0 rfl rfl rfl<|F6 1 0 rfl rfl rfl rfl<|B0 1 0 rfl rfl rfl<|A7
 ·exact B1 ha2<|B1 ha2<|B9 fun v10=>B9 fun v11=>D2 fun n4=>Z0 (v:=_) 0 rfl fun s1=>B1 ha2<|Ac7<|B1 ha2<|B9 fun v12=>D1<|B1 ha2<|Ac7<|B0 1 0 rfl rfl rfl<|F6 2 0 rfl rfl rfl rfl<|B0 2 0 rfl rfl rfl<|A7
def s65(x0:SlV)(x1:Int)(x2:Int)(K:Value->HP):HP:=
 slc x0 x1 x2 x0.len 3 fun s1=>
 ifB (decide ((x1:Int)=x2)) (
 K (.sv x0)) (
 slc x0 0 x1 x0.cap 3 fun s2=>
 slc x0 x2 x0.len x0.cap 3 fun s3=>
 smW PP (Builtin.append_ #[55,55] 55 #[.sv s2,.sv s3]) [.lf .sl] fun v1=>
 slc v1.1 v1.1.len x0.len v1.1.cap 3 fun s4=>
 smW PP (Builtin.clear_ #[55] 0 #[.sv s4]) [] fun v2=>
 K (.sv v1.1))
theorem c65(x0:SlV)(x1:Int)(x2:Int){K:Value->HP}{L:A4}(h:s65 x0 x1 x2 (HL.Ends K) L):CallF PP 65 #[.sv x0,.i x1,.i x2] L K:=by
 refine CallF.of (args:=[.sv x0,.i x1,.i x2]) B5 B6 Tryz.func65 (e65 x0 x1 x2 _) (D3 ?_ h)
 unfold s65 t65
 refine Az7 fun s1=>?_
 refine E2 ?_ ?_
 ·exact A7
 ·exact Az7 fun s2=>Az7 fun s3=>Aj7 fun v1=>Az7 fun s4=>Aj7 fun v2=>A7
def s67(x0:Option Addr)(K:Value->HP):HP:=
 A9 x0 fun a1=>
 ld a1 (.lf .ptr) fun v1=>
 A9 v1 fun a2=>
 ld (Addr.add (a2.add 19) 2) (.lf .ptr) fun v2=>
 cl PP 68 #[.q v2] [lI] fun r1=>
 K (.i r1.1)
theorem c67(x0:Option Addr){K:Value->HP}{L:A4}(h:s67 x0 (HL.Ends K) L):CallF PP 67 #[.q x0] L K:=by
 refine CallF.of (args:=[.q x0]) B5 B6 Tryz.func67 (e67 x0 _) (D3 ?_ h)
 unfold s67 t67
 exact C4 fun a1 ha1=>B9 fun v1=>C4 fun a2 ha2=>B9 fun v2=>B3 fun r1=>A7
def s69(x0:Option Addr)(K:Value->HP):HP:=
 A9 x0 fun a1=>
 ld a1 (.lf .ptr) fun v1=>
 A9 v1 fun a2=>
 ld (a2.add 19) (.lf .ptr) fun v2=>
 cl PP 70 #[.q v2] [lI] fun r1=>
 K (.i r1.1)
theorem c69(x0:Option Addr){K:Value->HP}{L:A4}(h:s69 x0 (HL.Ends K) L):CallF PP 69 #[.q x0] L K:=by
 refine CallF.of (args:=[.q x0]) B5 B6 Tryz.func69 (e69 x0 _) (D3 ?_ h)
 unfold s69 t69
 exact C4 fun a1 ha1=>B9 fun v1=>C4 fun a2 ha2=>B9 fun v2=>B3 fun r1=>A7
def s71(x0:SlV)(K:Value->HP):HP:=
 ifB (Option.isNone x0.a) (
 K (.slice none 0 0)) (
 nw (.cells #[] 102) fun n1=>
 smW PP (Builtin.append_ #[55,55] 55 #[.slice (some ⟨n1,0,none⟩) 0 0,.slice x0.a x0.len x0.cap]) [.lf .sl] fun v1=>
 K (.slice v1.1.a v1.1.len v1.1.cap))
theorem c71(x0:SlV){K:Value->HP}{L:A4}(h:s71 x0 (HL.Ends K) L):CallF PP 71 #[.slice x0.a x0.len x0.cap] L K:=by
 refine CallF.of (args:=[.slice x0.a x0.len x0.cap]) B5 B6 Tryz.func71 (e71 x0 _) (D3 ?_ h)
 unfold s71 t71
 refine C1 ?_ ?_
 ·exact A7
 ·exact R9 fun n1=>Aj7 fun v1=>A7
set_option maxRecDepth 100000
def s94(x0:ShV (.agg [.int .i64,.int .i64,.int .i64,.int .i64,.int .i64,.int .i64,.int .i64,.int .i64,.int .i64,.int .i64,.int .i64]))(K:Value->HP):HP:=
 cl PP 164 #[.i x0.2.2.2.2.2.2.1,.i 65536] [.lf .bool] fun r1=>
 ifB r1.1 (
 cl PP 164 #[.i x0.2.2.2.2.2.2.2.1,.i 64] [.lf .bool] fun r2=>
 cl PP 164 #[.i x0.2.2.2.2.2.2.2.2.1,.i 1048576] [.lf .bool] fun r3=>
 ifB r3.1 (
 cl PP 164 #[.i x0.2.2.2.2.2.2.2.2.2.1,.i 1073741824] [.lf .bool] fun r4=>
 ifB r2.1 (
 ifB r4.1 (
 w64 (x0.2.1-2) fun i1=>
 w64 (3*i1) fun i2=>
 cl PP 62 #[.i x0.2.2.1] [lI] fun r5=>
 K (.b (decide ((i2:Int)<=r5.1)))) (
 K (.b false))) (
 K (.b false))) (
 ifB r2.1 (
 K (.b false)) (
 K (.b false)))) (
 cl PP 164 #[.i x0.2.2.2.2.2.2.2.2.1,.i 1048576] [.lf .bool] fun r6=>
 ifB r6.1 (
 cl PP 164 #[.i x0.2.2.2.2.2.2.2.2.2.1,.i 1073741824] [.lf .bool] fun r7=>
 K (.b false)) (
 K (.b false)))
theorem c94(x0:ShV (.agg [.int .i64,.int .i64,.int .i64,.int .i64,.int .i64,.int .i64,.int .i64,.int .i64,.int .i64,.int .i64,.int .i64])){K:Value->HP}{L:A4}(h:s94 x0 (HL.Ends K) L):CallF PP 94 #[.agg #[.i x0.1,.i x0.2.1,.i x0.2.2.1,.i x0.2.2.2.1,.i x0.2.2.2.2.1,.i x0.2.2.2.2.2.1,.i x0.2.2.2.2.2.2.1,.i x0.2.2.2.2.2.2.2.1,.i x0.2.2.2.2.2.2.2.2.1,.i x0.2.2.2.2.2.2.2.2.2.1,.i x0.2.2.2.2.2.2.2.2.2.2.1]] L K:=by
 refine CallF.of (args:=[.agg #[.i x0.1,.i x0.2.1,.i x0.2.2.1,.i x0.2.2.2.1,.i x0.2.2.2.2.1,.i x0.2.2.2.2.2.1,.i x0.2.2.2.2.2.2.1,.i x0.2.2.2.2.2.2.2.1,.i x0.2.2.2.2.2.2.2.2.1,.i x0.2.2.2.2.2.2.2.2.2.1,.i x0.2.2.2.2.2.2.2.2.2.2.1]]) B5 B6 Tryz.func94 (e94 x0 _) (D3 ?_ h)
 unfold s94 t94
 refine D2 fun n1=>B0 0 6 rfl rfl rfl<|B3 fun r1=>?_
 refine C1 ?_ ?_
 ·refine B0 0 7 rfl rfl rfl<|B3 fun r2=>B0 0 8 rfl rfl rfl<|B3 fun r3=>?_
  refine C1 ?_ ?_
  ·refine B0 0 9 rfl rfl rfl<|B3 fun r4=>?_
   refine C1 ?_ ?_
   ·refine C1 ?_ ?_
    ·exact B0 0 1 rfl rfl rfl<|D1<|D1<|B0 0 2 rfl rfl rfl<|B3 fun r5=>M5 0 1 rfl rfl rfl<|A7
    ·exact A7
   ·exact A7
  ·refine C1 ?_ ?_
   ·exact A7
   ·exact A7
 ·refine B0 0 8 rfl rfl rfl<|B3 fun r6=>?_
  refine C1 ?_ ?_
  ·exact B0 0 9 rfl rfl rfl<|B3 fun r7=>A7
  ·exact A7
def s95(x0:Option Addr)(K:Value->HP):HP:=
 nw (.cells #[.q x0] 29) fun n1=>
 ld ⟨n1,0,none⟩ (.lf .ptr) fun v1=>
 ifB (Option.isNone v1) (
 K (.t #[.agg #[.slice none 0 0,.slice none 0 0,.i 0],.i 1])) (
 ld ⟨n1,0,none⟩ (.lf .ptr) fun v2=>
 cl PP 18 #[.q v2] [.lf .bool] fun r1=>
 ifB r1.1 (
 K (.t #[.agg #[.slice none 0 0,.slice none 0 0,.i 0],.i 11])) (
 ld ⟨n1,0,none⟩ (.lf .ptr) fun v3=>
 cl PP 165 #[.q v3] [.lf .sl,.lf .sl,lI] fun r2=>
 nw (.cells #[.slice none 0 0] 243) fun n3=>
 st ⟨n3,0,none⟩ [.slice r2.2.1.a r2.2.1.len r2.2.1.cap]<|
 ifB (decide ((r2.2.2.1:Int)=0)) (
 lp [lI,lI] (0,0,()) fun z1 go1=>   --,n4.2
 ifB (decide ((z1.1:Int)<r2.1.len)) (
 elp r2.1.a r2.1.len z1.1 3 fun a1=>
 ld a1 (.agg [.int .i64,.int .i64,.sl]) fun v4=>
 w64 (z1.1+1) fun i1=>
 go1 (i1,Z6 z1.2.1 v4.2.1,())) (
 nw (.cells #[.slice none 0 0] 144) fun n6=>
 nw (.map #[] 0) fun n7=>
 nw (.cells #[.map none] 246) fun n8=>
 st ⟨n8,0,none⟩ [.map (some n7)]<|
 cl PP 166 #[.sv r2.1,.i 2,.func (.func 167) #[] #[.q (some ⟨n1,0,none⟩),.q (some ⟨n6,0,none⟩),.q (some ⟨n8,0,none⟩)]] [] fun r3=>
 nw (.map #[] 0) fun n9=>
 nw (.cells #[.map none] 249) fun n10=>
 st ⟨n10,0,none⟩ [.map (some n9)]<|
 cl PP 166 #[.sv r2.1,.i 3,.func (.func 168) #[] #[.q (some ⟨n3,0,none⟩),.q (some ⟨n10,0,none⟩)]] [] fun r4=>
 ld ⟨n6,0,none⟩ (.lf .sl) fun v5=>
 lp [lI] (0,()) fun z2 go2=>
 ifB (decide ((z2.1:Int)<v5.len)) (
 elp v5.a v5.len z2.1 4 fun a2=>
 ld a2 (.agg [.str,.int .i64,.int .i64,.int .i64]) fun v6=>
 ld ⟨n10,0,none⟩ (.lf .map) fun v7=>
 ld ⟨n8,0,none⟩ (.lf .map) fun v8=>
 smR PP (Instr.lookup 246 (.map v8) (.w v6.1) false) [.agg [.int .i64,.int .i64,.int .i64]] fun v9=>
 smR PP (Instr.lookup 249 (.map v7) (.agg #[.i v9.1.1,.i v9.1.2.1,.i v9.1.2.2.1]) false) [.lf .bool] fun v10=>
 ifB v10.1 (
 ld ⟨n8,0,none⟩ (.lf .map) fun v11=>
 smW PP (Builtin.delete_ #[246,9] 0 #[.map v11,.w v6.1]) [] fun v12=>
 w64 (z2.1+1) fun i2=>
 go2 (i2,())) (
 w64 (z2.1+1) fun i3=>
 go2 (i3,()))) (
 ld ⟨n6,0,none⟩ (.lf .sl) fun v13=>
 lp [lI,.lf .sl,lI] (0,⟨none,0,0⟩,z1.2.1,()) fun z3 go3=>   --,n4.1,n4.2
 ifB (decide ((z3.1:Int)<v13.len)) (
 elp v13.a v13.len z3.1 4 fun a3=>
 ld a3 (.agg [.str,.int .i64,.int .i64,.int .i64]) fun v14=>
 ld ⟨n8,0,none⟩ (.lf .map) fun v15=>
 smR PP (Instr.lookup 246 (.map v15) (.w v14.1) true) [.agg [.int .i64,.int .i64,.int .i64],.lf .bool] fun v16=>
 ifB v16.2.1 (
 smP PP (binOp .eql 102 (.agg #[.i v16.1.1,.i v16.1.2.1,.i v16.1.2.2.1]) (.agg #[.i v14.2.1,.i v14.2.2.1,.i v14.2.2.2.1])) (.lf .bool) fun v17=>
 ifB v17 (
 apv PP 144 144 144 162 z3.2.1 1 [.w v14.1,.i v14.2.1,.i v14.2.2.1,.i v14.2.2.2.1] fun s1=>
 w64 (z3.1+1) fun i4=>
 go3 (i4,s1,z3.2.2.1,())) (
 w64 (z3.1+1) fun i5=>
 go3 (i5,z3.2.1,z3.2.2.1,()))) (
 w64 (z3.1+1) fun i6=>
 go3 (i6,z3.2.1,z3.2.2.1,()))) (
 K (.t #[.agg #[.sv r2.1,.sv z3.2.1,.i z3.2.2.1],.i 0]))))) (
 K (.t #[.agg #[.slice none 0 0,.slice none 0 0,.i 0],.i r2.2.2.1]))))
theorem c95(x0:Option Addr){K:Value->HP}{L:A4}(h:s95 x0 (HL.Ends K) L):CallF PP 95 #[.q x0] L K:=by
 refine CallF.of (args:=[.q x0]) B5 B6 Tryz.func95 (e95 x0 _) (D3 ?_ h)
 unfold s95 t95
 refine R9 fun n1=>D2 fun n2=>B9 fun v1=>?_
 refine C1 ?_ ?_
 ·exact F6 0 0 rfl rfl rfl rfl<|B0 0 0 rfl rfl rfl<|A7
 ·refine B9 fun v2=>B3 fun r1=>?_
  refine C1 ?_ ?_
  ·exact F6 0 0 rfl rfl rfl rfl<|B0 0 0 rfl rfl rfl<|A7
  ·refine B9 fun v3=>B3 fun r2=>R9 fun n3=>Ac7 ?_
   refine E4 ?_ ?_
   ·exact F6 0 0 rfl rfl rfl rfl<|B0 0 0 rfl rfl rfl<|A7
   ·refine D2 fun n4=>F6 0 0 rfl rfl rfl rfl<|Cw7 (fun z1=>[(n4,.cells #[.sv r2.1,.slice none 0 0,.i z1.2.1] 146 (0,0))]) (fun z1=>(z1.1,())) rfl rfl fun go1' go1 hgo1 z1=>?_
    refine C1 ?_ ?_
    ·exact G8 fun a1 ha1=>B9 fun v4=>D2 fun n5=>F6 0 0 rfl rfl rfl rfl<|B0 1 2 rfl rfl rfl<|B0 0 1 rfl rfl rfl<|F6 1 2 rfl rfl rfl rfl<|D1<|H3 2 rfl rfl<|H3 2 rfl rfl<|F8 (hgo1 _) rfl
    ·refine R9 fun n6=>R9 fun n7=>R9 fun n8=>Ac7<|B3 fun r3=>R9 fun n9=>R9 fun n10=>Ac7<|B3 fun r4=>B9 fun v5=>K2 fun go2' go2 hgo2 z2=>?_
     refine C1 ?_ ?_
     ·refine G8 fun a2 ha2=>B9 fun v6=>D2 fun n11=>F6 0 0 rfl rfl rfl rfl<|B9 fun v7=>B9 fun v8=>B0 0 0 rfl rfl rfl<|Bj2 fun v9=>Bj2 fun v10=>?_
      refine C1 ?_ ?_
      ·exact B9 fun v11=>B0 0 0 rfl rfl rfl<|Aj7 fun v12=>D1<|H3 2 rfl rfl<|H3 2 rfl rfl<|F8 (hgo2 _) rfl
      ·exact D1<|H3 2 rfl rfl<|H3 2 rfl rfl<|F8 (hgo2 _) rfl
     ·refine B9 fun v13=>Cw7 (fun z3=>[(n4,.cells #[.sv r2.1,.sv z3.2.1,.i z3.2.2.1] 146 (0,0))]) (fun z3=>(z3.1,())) rfl rfl fun go3' go3 hgo3 z3=>?_
      refine C1 ?_ ?_
      ·refine G8 fun a3 ha3=>B9 fun v14=>D2 fun n12=>F6 0 0 rfl rfl rfl rfl<|B9 fun v15=>B0 0 0 rfl rfl rfl<|Bj2 fun v16=>D2 fun n13=>F6 0 0 rfl rfl rfl rfl ?_
       refine C1 ?_ ?_
       ·refine B0 0 0 rfl rfl rfl<|B0 1 1 rfl rfl rfl<|Ch3 fun v17=>?_
        refine C1 ?_ ?_
        ·exact B0 2 1 rfl rfl rfl<|B0 1 0 rfl rfl rfl<|D2 fun n14=>Z0 (v:=_) 0 rfl fun s1=>F6 3 1 rfl rfl rfl rfl<|D1<|H3 4 rfl rfl<|H3 4 rfl rfl<|F8 (hgo3 _) rfl
        ·exact D1<|H3 3 rfl rfl<|H3 3 rfl rfl<|F8 (hgo3 _) rfl
       ·exact D1<|H3 3 rfl rfl<|H3 3 rfl rfl<|F8 (hgo3 _) rfl
      ·exact B0 0 0 rfl rfl rfl<|F6 1 0 rfl rfl rfl rfl<|B0 1 0 rfl rfl rfl<|A7
def s100(x0:Option Addr)(K:Value->HP):HP:=
 cl PP 93 #[.q x0] [.agg [.int .i64,.int .i64,.int .i64,.int .i64]] fun r1=>
 lp [.lf .sl,lI] (⟨none,0,0⟩,0,()) fun z1 go1=>
 ifB (decide ((z1.2.1:Int)<r1.1.1)) (
 cl PP 16 #[.q x0,.i z1.2.1] [lI] fun r2=>
 cl PP 15 #[.q x0,.i z1.2.1] [.lf .bool] fun r3=>
 cl PP 82 #[.q x0,.i z1.2.1] [lI] fun r4=>
 apv PP 159 159 159 194 z1.1 1 [.i r2.1,.b r3.1,.b ((r4.1:Int) !=0)] fun s1=>
 w64 (z1.2.1+1) fun i1=>
 go1 (s1,i1,())) (
 K (.sv z1.1))
theorem c100(x0:Option Addr){K:Value->HP}{L:A4}(h:s100 x0 (HL.Ends K) L):CallF PP 100 #[.q x0] L K:=by
 refine CallF.of (args:=[.q x0]) B5 B6 Tryz.func100 (e100 x0 _) (D3 ?_ h)
 unfold s100 t100
 refine B3 fun r1=>K2 fun go1' go1 hgo1 z1=>?_
 refine C1 ?_ ?_
 ·exact B3 fun r2=>B3 fun r3=>B3 fun r4=>D2 fun n1=>Z0 (v:=_) 0 rfl fun s1=>D1<|F8 (hgo1 _) rfl
 ·exact A7
def s101(x0:Option Addr)(x1:ByteArray)(x2:ShV (.agg [.int .i64,.int .i64,.int .i64]))(K:Value->HP):HP:=
 A9 x0 fun a1=>
 ld (Addr.add (a1.add 19) 2) (.lf .ptr) fun v1=>
 cl PP 41 #[.q x0,.w x1] [.lf (.int .u64)] fun r1=>
 keep (D4 (Addr.add (a1.add 19) 2) [.q v1])<|
 cl PP 173 #[.q v1,.int .u64 r1.1,.agg #[.i x2.1,.i x2.2.1,.i x2.2.2.1]] [.agg [.int .i64,.int .i64,.int .i64],.lf .bool] fun r2=>
 ifB r2.2.1 (
 ld (Addr.add (a1.add 11) 6) (.lf .sl) fun v2=>
 apv PP 55 55 55 102 v2 1 [.i r2.1.1,.i r2.1.2.1,.i r2.1.2.2.1] fun s1=>
 st (Addr.add (a1.add 11) 6) [.slice s1.a s1.len s1.cap]<|
 K (.t #[])) (
 K (.t #[]))
theorem c101(x0:Option Addr)(x1:ByteArray)(x2:ShV (.agg [.int .i64,.int .i64,.int .i64])){K:Value->HP}{L:A4}(h:s101 x0 x1 x2 (HL.Ends K) L):CallF PP 101 #[.q x0,.w x1,.agg #[.i x2.1,.i x2.2.1,.i x2.2.2.1]] L K:=by
 refine CallF.of (args:=[.q x0,.w x1,.agg #[.i x2.1,.i x2.2.1,.i x2.2.2.1]]) B5 B6 Tryz.func101 (e101 x0 x1 x2 _) (D3 ?_ h)
 unfold s101 t101
 refine D2 fun n1=>C4 fun a1 ha1=>B9 fun v1=>B0 0 0 rfl rfl rfl<|B3 fun r1=>M5 0 0 rfl rfl rfl<|S1<|B3 fun r2=>D2 fun n2=>F6 0 0 rfl rfl rfl rfl ?_
 refine C1 ?_ ?_
 ·exact B1 ha1<|B9 fun v2=>B0 0 0 rfl rfl rfl<|D2 fun n3=>Z0 (v:=_) 0 rfl fun s1=>B1 ha1<|Ac7<|A7
 ·exact A7
def s118(x0:Option Addr)(x1:ShV (.agg [.int .i64,.int .i64,.int .i64]))(K:Value->HP):HP:=
 cl PP 181 #[.q x0,.i x1.1,.i 0] [.lf .sl,lI] fun r1=>
 ifB (decide ((r1.2.1:Int)=0)) (
 lp [.lf .sl,lI] (⟨none,0,0⟩,1,()) fun z1 go1=>
 ifB (decide ((z1.1.len:Int)<z1.2.1)) (
 w64 (x1.2.1+z1.1.len) fun i1=>
 cl PP 181 #[.q x0,.i x1.1,.i i1] [.lf .sl,lI] fun r2=>
 ifB (decide ((r2.2.1:Int)=0)) (
 cl PP 182 #[.sv r2.1] [.agg [.int .i64,.int .i64,.int .i64,.int .i64,.int .i64],.lf .sl,lI] fun r3=>
 ifB (decide ((r3.2.2.1:Int)=0)) (
 jn (fun y1:RsV [lI]=>
 apv PP 96 96 96 27 z1.1 1 [.sv r3.2.1] fun s1=>
 go1 (s1,y1.1,())) fun j1=>
 ifB (decide ((z1.1.len:Int)=0)) (
 ifB (decide ((r3.1.1:Int)=2)) (
 ifB (decide ((r3.1.2.1:Int)=0)) (
 ifB (decide ((r3.1.2.2.2.1:Int)=x1.2.2.1)) (
 ifB (decide ((r3.1.2.2.2.2.1:Int)=x1.2.1)) (
 j1 (r3.1.2.2.1,())) (
 K (.t #[.w (ByteArray.mk #[]),.slice none 0 0,.i 8]))) (
 K (.t #[.w (ByteArray.mk #[]),.slice none 0 0,.i 8]))) (
 K (.t #[.w (ByteArray.mk #[]),.slice none 0 0,.i 8]))) (
 K (.t #[.w (ByteArray.mk #[]),.slice none 0 0,.i 8]))) (
 j1 (z1.2.1,()))) (
 K (.t #[.w (ByteArray.mk #[]),.slice none 0 0,.i 8]))) (
 K (.t #[.w (ByteArray.mk #[]),.slice none 0 0,.i 8]))) (
 cl PP 183 #[.sv z1.1] [.lf .str,.lf .sl,lI] fun r4=>
 K (.t #[.w r4.1,.sv r4.2.1,.i r4.2.2.1]))) (
 K (.t #[.w (ByteArray.mk #[]),.slice none 0 0,.i r1.2.1]))
theorem c118(x0:Option Addr)(x1:ShV (.agg [.int .i64,.int .i64,.int .i64])){K:Value->HP}{L:A4}(h:s118 x0 x1 (HL.Ends K) L):CallF PP 118 #[.q x0,.agg #[.i x1.1,.i x1.2.1,.i x1.2.2.1]] L K:=by
 refine CallF.of (args:=[.q x0,.agg #[.i x1.1,.i x1.2.1,.i x1.2.2.1]]) B5 B6 Tryz.func118 (e118 x0 x1 _) (D3 ?_ h)
 unfold s118 t118
 refine D2 fun n1=>B0 0 0 rfl rfl rfl<|B3 fun r1=>?_
 refine E4 ?_ ?_
 ·exact A7
 ·refine K2 fun go1' go1 hgo1 z1=>?_
  refine C1 ?_ ?_
  ·refine B0 0 0 rfl rfl rfl<|B0 0 1 rfl rfl rfl<|D1<|B3 fun r2=>?_
   refine E4 ?_ ?_
   ·exact A7
   ·refine B3 fun r3=>D2 fun n2=>F6 0 0 rfl rfl rfl rfl ?_
    refine E4 ?_ ?_
    ·exact A7
    ·refine W4 (fun y1=>?_) fun j1' j1 hj1=>?_
     ·exact D2 fun n3=>Z0 (v:=_) 0 rfl fun s1=>H3 2 rfl rfl<|F8 (hgo1 _) rfl
     ·refine E2 ?_ ?_
      ·refine B0 0 0 rfl rfl rfl ?_
       refine E4 ?_ ?_
       ·exact A7
       ·refine B0 0 1 rfl rfl rfl ?_
        refine E4 ?_ ?_
        ·exact A7
        ·refine B0 0 3 rfl rfl rfl<|B0 1 2 rfl rfl rfl ?_
         refine E4 ?_ ?_
         ·exact A7
         ·refine B0 0 4 rfl rfl rfl<|B0 1 1 rfl rfl rfl ?_
          refine E4 ?_ ?_
          ·exact A7
          ·exact B0 0 2 rfl rfl rfl<|F8 (hj1 _) rfl
      ·exact F8 (hj1 _) rfl
  ·exact B3 fun r4=>A7
set_option maxRecDepth 100000
def s126(x0:Option Addr)(x1:SlV)(K:Value->HP):HP:=
 A9 x0 fun a1=>
 ld (a1.add 4) (.lf .ptr) fun v1=>
 ifB (Option.isNone v1) (
 K (.b false)) (
 ld (a1.add 4) (.lf .ptr) fun v2=>
 A9 v2 fun a2=>
 ld (a2.add 2) (lI) fun v3=>
 lp [lI,lI] (v3,0,()) fun z1 go1=>
 ifB (decide ((z1.2.1:Int)<x1.len)) (
 elp x1.a x1.len z1.2.1 1 fun a3=>
 ld a3 (lI) fun v4=>
 w64 (z1.1+v4) fun i1=>
 w64 (z1.2.1+1) fun i2=>
 go1 (i1,i2,())) (
 ld a1 (.lf .ptr) fun v5=>
 cl PP 93 #[.q v5] [.agg [.int .i64,.int .i64,.int .i64,.int .i64]] fun r1=>
 K (.b (decide ((z1.1:Int)<r1.1.2.1)))))
theorem c126(x0:Option Addr)(x1:SlV){K:Value->HP}{L:A4}(h:s126 x0 x1 (HL.Ends K) L):CallF PP 126 #[.q x0,.sv x1] L K:=by
 refine CallF.of (args:=[.q x0,.sv x1]) B5 B6 Tryz.func126 (e126 x0 x1 _) (D3 ?_ h)
 unfold s126 t126
 refine C4 fun a1 ha1=>B9 fun v1=>?_
 refine C1 ?_ ?_
 ·exact A7
 ·refine B1 ha1<|B9 fun v2=>C4 fun a2 ha2=>B9 fun v3=>K2 fun go1' go1 hgo1 z1=>?_
  refine C1 ?_ ?_
  ·exact G8 fun a3 ha3=>B9 fun v4=>D1<|D1<|F8 (hgo1 _) rfl
  ·exact B1 ha1<|B9 fun v5=>B3 fun r1=>A7
def s127(x0:Option Addr)(x1:Int)(K:Value->HP):HP:=
 jn (fun y1:RsV [lI]=>
 A9 x0 fun a2=>
 nw (.cells #[.i x1,.i 1,.i y1.1] 3) fun n1=>
 cl PP 128 #[.q (some (a2.add 11)),.slice (some ⟨n1,0,none⟩) 3 3] [.lf .bool] fun r1=>
 ifB r1.1 (
 ld (Addr.add (a2.add 11) 5) (lI) fun v2=>
 ifB (decide ((v2:Int)≥1073741824)) (
 K (.i 7)) (
 ld (Addr.add (a2.add 11) 1) (.lf .ptr) fun v3=>
 cl PP 185 #[.q v3] [lI] fun r2=>
 ifB (decide ((r2.1:Int)=0)) (
 cl PP 186 #[.q (some (a2.add 11))] [.lf .ptr] fun r3=>
 ifB (Option.isNone r3.1) (
 K (.i 7)) (
 cl PP 187 #[.q x0,.q r3.1,.i x1] [lI] fun r4=>
 K (.i r4.1))) (
 cl PP 188 #[.q (some (a2.add 11))] [lI] fun r5=>
 ifB (decide ((r5.1:Int)=0)) (
 ld (Addr.add (a2.add 11) 1) (.lf .ptr) fun v4=>
 cl PP 189 #[.q v4] [lI,.lf .bool,.lf .bool] fun r6=>
 jn (fun y2:RsV []=>
 cl PP 191 #[.q (some (a2.add 11)),.i r6.1] [lI] fun r9=>
 ifB (decide ((r9.1:Int)=0)) (
 lp [] (()) fun z1 go1=>
 ld (Addr.add (a2.add 11) 1) (.lf .ptr) fun v6=>
 cl PP 185 #[.q v6] [lI] fun r10=>
 ifB (decide ((r10.1:Int)=0)) (
 cl PP 186 #[.q (some (a2.add 11))] [.lf .ptr] fun r11=>
 ifB (Option.isNone r11.1) (
 K (.i 0)) (
 cl PP 187 #[.q x0,.q r11.1,.i x1] [lI] fun r12=>
 ifB (decide ((r12.1:Int)=0)) (
 go1 (())) (
 K (.i r12.1)))) (
 K (.i 0))) (
 K (.i r9.1))) fun j2=>
 ifB r6.2.1 (
 cl PP 190 #[.q (some (a2.add 11)),.i r6.1] [lI] fun r7=>
 ifB (decide ((r7.1:Int)=0)) (
 ld (a2.add 11) (.lf .ptr) fun v5=>
 cl PP 15 #[.q v5,.i r6.1] [.lf .bool] fun r8=>
 ifB r8.1 (
 K (.i r7.1)) (
 j2 (()))) (
 K (.i r7.1))) (
 j2 (()))) (
 K (.i r5.1))))) (
 K (.i 13))) fun j1=>
 A9 x0 fun a1=>
 ld (Addr.add (a1.add 11) 4) (.lf .ptr) fun v1=>
 ifB (Option.isNone v1) (
 j1 (0,())) (
 j1 (1,()))
theorem c127(x0:Option Addr)(x1:Int){K:Value->HP}{L:A4}(h:s127 x0 x1 (HL.Ends K) L):CallF PP 127 #[.q x0,.i x1] L K:=by
 refine CallF.of (args:=[.q x0,.i x1]) B5 B6 Tryz.func127 (e127 x0 x1 _) (D3 ?_ h)
 unfold s127 t127
 refine W4 (fun y1=>?_) fun j1' j1 hj1=>?_
 ·refine C4 fun a2 ha2=>R9 fun n1=>B3 fun r1=>?_
  refine K3 ?_ ?_
  ·exact A7
  ·refine B1 ha2<|B9 fun v2=>?_
   refine C1 ?_ ?_
   ·exact A7
   ·refine B1 ha2<|B9 fun v3=>B3 fun r2=>?_
    refine E2 ?_ ?_
    ·refine B1 ha2<|B3 fun r3=>?_
     refine C1 ?_ ?_
     ·exact A7
     ·exact B3 fun r4=>A7
    ·refine B1 ha2<|B3 fun r5=>?_
     refine E4 ?_ ?_
     ·exact A7
     ·refine B1 ha2<|B9 fun v4=>B3 fun r6=>?_
      refine W4 (fun y2=>?_) fun j2' j2 hj2=>?_
      ·refine B1 ha2<|B3 fun r9=>?_
       refine E4 ?_ ?_
       ·exact A7
       ·refine K2 fun go1' go1 hgo1 z1=>B1 ha2<|B9 fun v6=>B3 fun r10=>?_
        refine E2 ?_ ?_
        ·refine B1 ha2<|B3 fun r11=>?_
         refine C1 ?_ ?_
         ·exact A7
         ·refine B3 fun r12=>?_
          refine E4 ?_ ?_
          ·exact A7
          ·exact F8 (hgo1 _) rfl
        ·exact A7
      ·refine C1 ?_ ?_
       ·refine B1 ha2<|B3 fun r7=>?_
        refine E4 ?_ ?_
        ·exact A7
        ·refine B1 ha2<|B9 fun v5=>B3 fun r8=>?_
         refine C1 ?_ ?_
         ·exact A7
         ·exact F8 (hj2 _) rfl
       ·exact F8 (hj2 _) rfl
 ·refine C4 fun a1 ha1=>B9 fun v1=>?_
  refine K3 ?_ ?_
  ·exact F8 (hj1 _) rfl
  ·exact F8 (hj1 _) rfl
def s128(x0:Option Addr)(x1:SlV)(K:Value->HP):HP:=
 A9 x0 fun a1=>
 ld (a1.add 2) (.lf .ptr) fun v1=>
 cl PP 44 #[.q v1] [lI] fun r1=>
 cl PP 134 #[.q x0,.sv x1] [lI] fun r2=>
 K (.b (decide ((r1.1:Int)≥r2.1)))
theorem c128(x0:Option Addr)(x1:SlV){K:Value->HP}{L:A4}(h:s128 x0 x1 (HL.Ends K) L):CallF PP 128 #[.q x0,.sv x1] L K:=by
 refine CallF.of (args:=[.q x0,.sv x1]) B5 B6 Tryz.func128 (e128 x0 x1 _) (D3 ?_ h)
 unfold s128 t128
 exact C4 fun a1 ha1=>B9 fun v1=>B3 fun r1=>B3 fun r2=>A7
def s134(x0:Option Addr)(x1:SlV)(K:Value->HP):HP:=
 lp [lI,lI] (0,0,()) fun z1 go1=>
 ifB (decide ((z1.2.1:Int)<x1.len)) (
 elp x1.a x1.len z1.2.1 1 fun a1=>
 ld a1 (lI) fun v1=>
 w64 (z1.1+v1) fun i1=>
 w64 (z1.2.1+1) fun i2=>
 go1 (i1,i2,())) (
 A9 x0 fun a2=>
 ld a2 (.lf .ptr) fun v2=>
 cl PP 93 #[.q v2] [.agg [.int .i64,.int .i64,.int .i64,.int .i64]] fun r1=>
 w64 (z1.1*r1.1.2.2.1) fun i3=>
 K (.i i3))
theorem c134(x0:Option Addr)(x1:SlV){K:Value->HP}{L:A4}(h:s134 x0 x1 (HL.Ends K) L):CallF PP 134 #[.q x0,.sv x1] L K:=by
 refine CallF.of (args:=[.q x0,.sv x1]) B5 B6 Tryz.func134 (e134 x0 x1 _) (D3 ?_ h)
 unfold s134 t134
 refine K2 fun go1' go1 hgo1 z1=>?_
 refine C1 ?_ ?_
 ·exact G8 fun a1 ha1=>B9 fun v1=>D1<|D1<|F8 (hgo1 _) rfl
 ·exact C4 fun a2 ha2=>B9 fun v2=>B3 fun r1=>D1<|A7
def s135(x0:Option Addr)(x1:Int)(x2:Int)(x3:Int)(x4:Int)(x5:SlV)(K:Value->HP):HP:=
 ifB (decide ((x5.len:Int)=0)) (
 K (.i 2)) (
 lp [lI,lI,lI,lI,lI,lI] (0,x4,0,x5.len,x2,x3,()) fun z1 go1=>   --,n1.0,n1.1,n1.2,n1.3,n1.4
 ifB (decide ((z1.1:Int)<x5.len)) (
 elp x5.a x5.len z1.1 1 fun a1=>
 ld a1 (.lf .sl) fun v1=>
 cl PP 193 #[.q x0,.i x1,.agg #[.i z1.2.1,.i z1.1,.i z1.2.2.2.1,.i z1.2.2.2.2.1,.i z1.2.2.2.2.2.1],.sv v1] [lI] fun r1=>
 ifB (decide ((r1.1:Int)=0)) (
 w64 (z1.2.2.2.2.2.1+1) fun i1=>
 w64 (z1.1+1) fun i2=>
 go1 (i2,z1.2.1,z1.1,z1.2.2.2.1,z1.2.2.2.2.1,i1,())) (
 K (.i r1.1))) (
 K (.i 0)))
theorem c135(x0:Option Addr)(x1:Int)(x2:Int)(x3:Int)(x4:Int)(x5:SlV){K:Value->HP}{L:A4}(h:s135 x0 x1 x2 x3 x4 x5 (HL.Ends K) L):CallF PP 135 #[.q x0,.i x1,.i x2,.i x3,.i x4,.sv x5] L K:=by
 refine CallF.of (args:=[.q x0,.i x1,.i x2,.i x3,.i x4,.sv x5]) B5 B6 Tryz.func135 (e135 x0 x1 x2 x3 x4 x5 _) (D3 ?_ h)
 unfold s135 t135
 refine E2 ?_ ?_
 ·exact A7
 ·refine D2 fun n1=>F6 0 0 rfl rfl rfl rfl<|Cw7 (fun z1=>[(n1,.cells #[.i z1.2.1,.i z1.2.2.1,.i z1.2.2.2.1,.i z1.2.2.2.2.1,.i z1.2.2.2.2.2.1] 272 (0,0))]) (fun z1=>(z1.1,())) rfl rfl fun go1' go1 hgo1 z1=>?_
  refine C1 ?_ ?_
  ·refine G8 fun a1 ha1=>B9 fun v1=>F6 0 1 rfl rfl rfl rfl<|B0 0 0 rfl rfl rfl<|B3 fun r1=>?_
   refine E4 ?_ ?_
   ·exact A7
   ·exact B0 0 4 rfl rfl rfl<|D1<|F6 0 4 rfl rfl rfl rfl<|D1<|F8 (hgo1 _) rfl
  ·exact A7
def s136(x0:Option Addr)(x1:Int)(K:Value->HP):HP:=
 A9 x0 fun a1=>
 ld (a1.add 7) (.lf .bool) fun v1=>
 ifB v1 (
 st (a1.add 7) [.b true]<|
 K (.i x1)) (
 st (a1.add 7) [.b ((x1:Int)==11)]<|
 K (.i x1))
theorem c136(x0:Option Addr)(x1:Int){K:Value->HP}{L:A4}(h:s136 x0 x1 (HL.Ends K) L):CallF PP 136 #[.q x0,.i x1] L K:=by
 refine CallF.of (args:=[.q x0,.i x1]) B5 B6 Tryz.func136 (e136 x0 x1 _) (D3 ?_ h)
 unfold s136 t136
 refine C4 fun a1 ha1=>B9 fun v1=>?_
 refine C1 ?_ ?_
 ·exact B1 ha1<|Ac7<|A7
 ·exact B1 ha1<|Ac7<|A7
set_option maxRecDepth 100000
def s164(x0:Int)(x1:Int)(K:Value->HP):HP:=
 ifB (decide ((x0:Int)≥0)) (
 K (.b (decide ((x0:Int)<=x1)))) (
 K (.b false))
theorem c164(x0:Int)(x1:Int){K:Value->HP}{L:A4}(h:s164 x0 x1 (HL.Ends K) L):CallF PP 164 #[.i x0,.i x1] L K:=by
 refine CallF.of (args:=[.i x0,.i x1]) B5 B6 Tryz.func164 (e164 x0 x1 _) (D3 ?_ h)
 unfold s164 t164
 refine C1 ?_ ?_
 ·exact A7
 ·exact A7
def s165(x0:Option Addr)(K:Value->HP):HP:=
 cl PP 93 #[.q x0] [.agg [.int .i64,.int .i64,.int .i64,.int .i64]] fun r1=>
 lp [.lf .sl,.lf .sl,lI] (⟨none,0,0⟩,⟨none,0,0⟩,0,()) fun z1 go1=>
 ifB (decide ((z1.2.2.1:Int)<r1.1.1)) (
 cl PP 223 #[.q x0,.i z1.2.2.1] [.lf .sl,lI] fun r2=>
 ifB (decide ((r2.2.1:Int)=0)) (
 apv PP 243 243 243 96 z1.2.1 1 [.sv r2.1] fun s1=>
 cl PP 224 #[.sv r2.1] [.agg [.int .i64,.bool,.sl],.lf .bool] fun r3=>
 ifB r3.2.1 (
 apv PP 143 143 143 154 z1.1 1 [.i z1.2.2.1,.i r3.1.1,.sv r3.1.2.2.1] fun s2=>
 w64 (z1.2.2.1+1) fun i1=>
 go1 (s2,s1,i1,())) (
 w64 (z1.2.2.1+1) fun i2=>
 go1 (z1.1,s1,i2,()))) (
 K (.t #[.slice none 0 0,.slice none 0 0,.i r2.2.1]))) (
 cl PP 225 #[.sv z1.1,.func (.func 226) #[] #[]] [] fun r4=>
 K (.t #[.sv z1.1,.sv z1.2.1,.i 0]))
theorem c165(x0:Option Addr){K:Value->HP}{L:A4}(h:s165 x0 (HL.Ends K) L):CallF PP 165 #[.q x0] L K:=by
 refine CallF.of (args:=[.q x0]) B5 B6 Tryz.func165 (e165 x0 _) (D3 ?_ h)
 unfold s165 t165
 refine B3 fun r1=>K2 fun go1' go1 hgo1 z1=>?_
 refine C1 ?_ ?_
 ·refine B3 fun r2=>?_
  refine E4 ?_ ?_
  ·exact A7
  ·refine D2 fun n1=>Z0 (v:=_) 0 rfl fun s1=>B3 fun r3=>D2 fun n2=>F6 0 0 rfl rfl rfl rfl ?_
   refine C1 ?_ ?_
   ·exact B0 0 0 rfl rfl rfl<|B0 0 2 rfl rfl rfl<|D2 fun n3=>Z0 (v:=_) 0 rfl fun s2=>D1<|F8 (hgo1 _) rfl
   ·exact D1<|F8 (hgo1 _) rfl
 ·exact B3 fun r4=>A7
def s166(x0:SlV)(x1:Int)(x2:FnV)(K:Value->HP):HP:=
 lp [lI] (0,()) fun z1 go1=>
 ifB (decide ((z1.1:Int)<x0.len)) (
 elp x0.a x0.len z1.1 3 fun a1=>
 ld a1 (.agg [.int .i64,.int .i64,.sl]) fun v1=>
 lp [lI] (0,()) fun z2 go2=>
 ifB (decide ((z2.1:Int)<v1.2.2.1.len)) (
 elp v1.2.2.1.a v1.2.2.1.len z2.1 3 fun a2=>
 ld a2 (.agg [.int .i64,.int .i64,.int .i64]) fun v2=>
 ifB (decide ((v2.1:Int)=x1)) (
 clv PP x2.fn (x2.first++#[.agg #[.i v1.1,.i v1.2.1,.slice v1.2.2.1.a v1.2.2.1.len v1.2.2.1.cap],.agg #[.i v2.1,.i v2.2.1,.i v2.2.2.1]]) x2.captured [] fun r1=>
 w64 (z2.1+1) fun i1=>
 go2 (i1,())) (
 w64 (z2.1+1) fun i2=>
 go2 (i2,()))) (
 w64 (z1.1+1) fun i3=>
 go1 (i3,()))) (
 K (.t #[]))
theorem c166(x0:SlV)(x1:Int)(x2:FnV){K:Value->HP}{L:A4}(h:s166 x0 x1 x2 (HL.Ends K) L):CallF PP 166 #[.slice x0.a x0.len x0.cap,.i x1,.func x2.fn x2.first x2.captured] L K:=by
 refine CallF.of (args:=[.slice x0.a x0.len x0.cap,.i x1,.func x2.fn x2.first x2.captured]) B5 B6 Tryz.func166 (e166 x0 x1 x2 _) (D3 ?_ h)
 unfold s166 t166
 refine K2 fun go1' go1 hgo1 z1=>?_
 refine C1 ?_ ?_
 ·refine G8 fun a1 ha1=>B9 fun v1=>D2 fun n1=>F6 0 0 rfl rfl rfl rfl<|B0 0 2 rfl rfl rfl<|K2 fun go2' go2 hgo2 z2=>?_
  refine C1 ?_ ?_
  ·refine G8 fun a2 ha2=>B9 fun v2=>D2 fun n2=>F6 0 0 rfl rfl rfl rfl<|B0 0 0 rfl rfl rfl ?_
   refine E2 ?_ ?_
   ·exact B0 1 0 rfl rfl rfl<|B0 0 0 rfl rfl rfl<|A53 fun r1=>D1<|H3 1 rfl rfl<|F8 (hgo2 _) rfl
   ·exact D1<|H3 1 rfl rfl<|F8 (hgo2 _) rfl
  ·exact D1<|F8 (hgo1 _) rfl
 ·exact A7
def s167(x0:ShV (.agg [.int .i64,.int .i64,.sl]))(x1:ShV (.agg [.int .i64,.int .i64,.int .i64]))(x2:Option Addr)(x3:Option Addr)(x4:Option Addr)(K:Value->HP):HP:=
 A9 x2 fun a1=>
 ld a1 (.lf .ptr) fun v1=>
 cl PP 118 #[.q v1,.agg #[.i x0.1,.i x1.2.1,.i x0.2.1]] [.lf .str,.lf .sl,lI] fun r1=>
 ifB (decide ((r1.2.2.1:Int)=0)) (
 A9 x3 fun a2=>
 ld a2 (.lf .sl) fun v2=>
 apv PP 144 144 144 162 v2 1 [.w r1.1,.i x0.1,.i x1.2.1,.i x0.2.1] fun s1=>
 st a2 [.slice s1.a s1.len s1.cap]<|
 A9 x4 fun a3=>
 ld a3 (.lf .map) fun v3=>
 smU PP (Instr.mapUpdate 246 (.map v3) (.w r1.1) (.agg #[.i x0.1,.i x1.2.1,.i x0.2.1]))<|
 K (.t #[])) (
 K (.t #[]))
theorem c167(x0:ShV (.agg [.int .i64,.int .i64,.sl]))(x1:ShV (.agg [.int .i64,.int .i64,.int .i64]))(x2:Option Addr)(x3:Option Addr)(x4:Option Addr){K:Value->HP}{L:A4}(h:s167 x0 x1 x2 x3 x4 (HL.Ends K) L):CallF PP 167 #[.agg #[.i x0.1,.i x0.2.1,.sv x0.2.2.1],.agg #[.i x1.1,.i x1.2.1,.i x1.2.2.1],.q x2,.q x3,.q x4] L K:=by
 refine CallF.of (args:=[.agg #[.i x0.1,.i x0.2.1,.sv x0.2.2.1],.agg #[.i x1.1,.i x1.2.1,.i x1.2.2.1],.q x2,.q x3,.q x4]) B5 B6 Tryz.func167 (e167 x0 x1 x2 x3 x4 _) (D3 ?_ h)
 unfold s167 t167
 refine D2 fun n1=>D2 fun n2=>B0 1 0 rfl rfl rfl<|B0 0 1 rfl rfl rfl<|B0 1 1 rfl rfl rfl<|D2 fun n3=>F6 0 0 rfl rfl rfl rfl<|C4 fun a1 ha1=>B9 fun v1=>B0 0 0 rfl rfl rfl<|B3 fun r1=>?_
 refine E2 ?_ ?_
 ·exact C4 fun a2 ha2=>B9 fun v2=>B0 0 0 rfl rfl rfl<|D2 fun n4=>Z0 (v:=_) 0 rfl fun s1=>B1 ha2<|Ac7<|C4 fun a3 ha3=>B9 fun v3=>B0 1 0 rfl rfl rfl<|Bx9<|A7
 ·exact A7
def s168(x0:ShV (.agg [.int .i64,.int .i64,.sl]))(x1:ShV (.agg [.int .i64,.int .i64,.int .i64]))(x2:Option Addr)(x3:Option Addr)(K:Value->HP):HP:=
 A9 x2 fun a1=>
 ld a1 (.lf .sl) fun v1=>
 elp v1.a v1.len x0.1 1 fun a2=>
 ld a2 (.lf .sl) fun v2=>
 cl PP 169 #[.sv v2,.agg #[.i x1.1,.i x1.2.1,.i x1.2.2.1]] [.lf .sl] fun r1=>
 lp [lI] (0,()) fun z1 go1=>
 ifB (decide ((z1.1:Int)<r1.1.len)) (
 elp r1.1.a r1.1.len z1.1 1 fun a3=>
 ld a3 (.lf .sl) fun v3=>
 cl PP 170 #[.sv v3] [.lf .sl,lI] fun r2=>
 lp [lI] (0,()) fun z2 go2=>
 ifB (decide ((z2.1:Int)<r2.1.len)) (
 elp r2.1.a r2.1.len z2.1 3 fun a4=>
 ld a4 (.agg [.int .i64,.int .i64,.int .i64]) fun v4=>
 A9 x3 fun a5=>
 ld a5 (.lf .map) fun v5=>
 smU PP (Instr.mapUpdate 249 (.map v5) (.agg #[.i v4.1,.i v4.2.1,.i v4.2.2.1]) (.b true))<|
 w64 (z2.1+1) fun i1=>
 go2 (i1,())) (
 w64 (z1.1+1) fun i2=>
 go1 (i2,()))) (
 K (.t #[]))
theorem c168(x0:ShV (.agg [.int .i64,.int .i64,.sl]))(x1:ShV (.agg [.int .i64,.int .i64,.int .i64]))(x2:Option Addr)(x3:Option Addr){K:Value->HP}{L:A4}(h:s168 x0 x1 x2 x3 (HL.Ends K) L):CallF PP 168 #[.agg #[.i x0.1,.i x0.2.1,.sv x0.2.2.1],.agg #[.i x1.1,.i x1.2.1,.i x1.2.2.1],.q x2,.q x3] L K:=by
 refine CallF.of (args:=[.agg #[.i x0.1,.i x0.2.1,.sv x0.2.2.1],.agg #[.i x1.1,.i x1.2.1,.i x1.2.2.1],.q x2,.q x3]) B5 B6 Tryz.func168 (e168 x0 x1 x2 x3 _) (D3 ?_ h)
 unfold s168 t168
 refine D2 fun n1=>D2 fun n2=>C4 fun a1 ha1=>B9 fun v1=>B0 1 0 rfl rfl rfl<|G8 fun a2 ha2=>B9 fun v2=>B0 0 0 rfl rfl rfl<|B3 fun r1=>K2 fun go1' go1 hgo1 z1=>?_
 refine C1 ?_ ?_
 ·refine G8 fun a3 ha3=>B9 fun v3=>B3 fun r2=>K2 fun go2' go2 hgo2 z2=>?_
  refine C1 ?_ ?_
  ·exact G8 fun a4 ha4=>B9 fun v4=>D2 fun n3=>F6 0 0 rfl rfl rfl rfl<|C4 fun a5 ha5=>B9 fun v5=>B0 0 0 rfl rfl rfl<|Bx9<|D1<|H3 2 rfl rfl<|H3 2 rfl rfl<|F8 (hgo2 _) rfl
  ·exact D1<|F8 (hgo1 _) rfl
 ·exact A7
def s169(x0:SlV)(x1:ShV (.agg [.int .i64,.int .i64,.int .i64]))(K:Value->HP):HP:=
 lp [.lf .sl,lI] (⟨none,0,0⟩,0,()) fun z1 go1=>
 ifB (decide ((z1.2.1:Int)<x1.2.2.1)) (
 ifB (decide ((x1.2.1:Int)<0)) (
 K (.slice none 0 0)) (
 w64 (x0.len-z1.2.1) fun i1=>
 ifB (decide ((x1.2.1:Int)≥i1)) (
 K (.slice none 0 0)) (
 w64 (x1.2.1+z1.2.1) fun i2=>
 elp x0.a x0.len i2 1 fun a1=>
 ld a1 (.lf .sl) fun v1=>
 cl PP 182 #[.sv v1] [.agg [.int .i64,.int .i64,.int .i64,.int .i64,.int .i64],.lf .sl,lI] fun r1=>
 ifB (decide ((r1.2.2.1:Int)=0)) (
 apv PP 96 96 96 27 z1.1 1 [.sv r1.2.1] fun s1=>
 w64 (z1.2.1+1) fun i3=>
 go1 (s1,i3,())) (
 K (.slice none 0 0))))) (
 K (.sv z1.1))
theorem c169(x0:SlV)(x1:ShV (.agg [.int .i64,.int .i64,.int .i64])){K:Value->HP}{L:A4}(h:s169 x0 x1 (HL.Ends K) L):CallF PP 169 #[.sv x0,.agg #[.i x1.1,.i x1.2.1,.i x1.2.2.1]] L K:=by
 refine CallF.of (args:=[.sv x0,.agg #[.i x1.1,.i x1.2.1,.i x1.2.2.1]]) B5 B6 Tryz.func169 (e169 x0 x1 _) (D3 ?_ h)
 unfold s169 t169
 refine D2 fun n1=>K2 fun go1' go1 hgo1 z1=>B0 0 2 rfl rfl rfl ?_
 refine C1 ?_ ?_
 ·refine B0 0 1 rfl rfl rfl ?_
  refine C1 ?_ ?_
  ·exact A7
  ·refine B0 0 1 rfl rfl rfl<|D1 ?_
   refine C1 ?_ ?_
   ·exact A7
   ·refine B0 0 1 rfl rfl rfl<|D1<|G8 fun a1 ha1=>B9 fun v1=>B3 fun r1=>D2 fun n2=>F6 0 0 rfl rfl rfl rfl ?_
    refine E4 ?_ ?_
    ·exact A7
    ·exact D2 fun n3=>Z0 (v:=_) 0 rfl fun s1=>D1<|H3 2 rfl rfl<|F8 (hgo1 _) rfl
 ·exact A7
def s186(x0:Option Addr)(K:Value->HP):HP:=
 A9 x0 fun a1=>
 ld (a1.add 1) (.lf .ptr) fun v1=>
 cl PP 245 #[.q v1] [lI,.lf .bool] fun r1=>
 jn (fun y1:RsV []=>
 ld (a1.add 3) (.lf .map) fun v5=>
 smR PP (Instr.lookup 79 (.map v5) (.i r1.1) false) [.lf .ptr] fun v6=>
 K (.q v6.1)) fun j1=>
 ifB r1.2.1 (
 ld (a1.add 4) (.lf .ptr) fun v2=>
 ifB (Option.isNone v2) (
 j1 (())) (
 ld (a1.add 4) (.lf .ptr) fun v3=>
 A9 v3 fun a2=>
 ld a2 (lI) fun v4=>
 ifB (decide ((v4:Int)=r1.1)) (
 K (.q none)) (
 j1 (())))) (
 K (.q none))
theorem c186(x0:Option Addr){K:Value->HP}{L:A4}(h:s186 x0 (HL.Ends K) L):CallF PP 186 #[.q x0] L K:=by
 refine CallF.of (args:=[.q x0]) B5 B6 Tryz.func186 (e186 x0 _) (D3 ?_ h)
 unfold s186 t186
 refine C4 fun a1 ha1=>B9 fun v1=>B3 fun r1=>?_
 refine W4 (fun y1=>?_) fun j1' j1 hj1=>?_
 ·exact B1 ha1<|B9 fun v5=>Bj2 fun v6=>A7
 ·refine K3 ?_ ?_
  ·exact A7
  ·refine B1 ha1<|B9 fun v2=>?_
   refine K3 ?_ ?_
   ·refine B1 ha1<|B9 fun v3=>C4 fun a2 ha2=>B9 fun v4=>?_
    refine E2 ?_ ?_
    ·exact A7
    ·exact F8 (hj1 _) rfl
   ·exact F8 (hj1 _) rfl
def s187(x0:Option Addr)(x1:Option Addr)(x2:Int)(K:Value->HP):HP:=
 nw (.cells #[.q x1] 80) fun n1=>
 ld ⟨n1,0,none⟩ (.lf .ptr) fun v1=>
 A9 v1 fun a1=>
 ld (a1.add 3) (.lf .sl) fun v2=>
 lp [lI] (0,()) fun z1 go1=>
 ifB (decide ((z1.1:Int)<v2.len)) (
 elp v2.a v2.len z1.1 3 fun a2=>
 ld a2 (.agg [.int .i64,.int .i64,.int .i64]) fun v3=>
 ifB (decide ((v3.1:Int)=2)) (
 ld ⟨n1,0,none⟩ (.lf .ptr) fun v4=>
 A9 v4 fun a3=>
 ld a3 (lI) fun v5=>
 ld ⟨n1,0,none⟩ (.lf .ptr) fun v6=>
 A9 v6 fun a4=>
 ld (a4.add 1) (lI) fun v7=>
 cl PP 246 #[.q x0,.agg #[.i v5,.i v3.2.1,.i v7],.agg #[.i v3.1,.i v3.2.1,.i v3.2.2.1],.i x2] [lI] fun r1=>
 ifB (decide ((r1.1:Int)=0)) (
 w64 (z1.1+1) fun i2=>
 go1 (i2,())) (
 K (.i r1.1))) (
 w64 (z1.1+1) fun i1=>
 go1 (i1,()))) (
 A9 x0 fun a5=>
 ld (Addr.add (a5.add 11) 6) (.lf .sl) fun v8=>
 cl PP 247 #[.sv v8,.func (.func 248) #[] #[.q (some ⟨n1,0,none⟩)]] [.lf .sl] fun r2=>
 st (Addr.add (a5.add 11) 6) [.slice r2.1.a r2.1.len r2.1.cap]<|
 ld ⟨n1,0,none⟩ (.lf .ptr) fun v9=>
 A9 v9 fun a6=>
 ld a6 (lI) fun v10=>
 cl PP 190 #[.q (some (a5.add 11)),.i v10] [lI] fun r3=>
 K (.i r3.1))
theorem c187(x0:Option Addr)(x1:Option Addr)(x2:Int){K:Value->HP}{L:A4}(h:s187 x0 x1 x2 (HL.Ends K) L):CallF PP 187 #[.q x0,.q x1,.i x2] L K:=by
 refine CallF.of (args:=[.q x0,.q x1,.i x2]) B5 B6 Tryz.func187 (e187 x0 x1 x2 _) (D3 ?_ h)
 unfold s187 t187
 refine R9 fun n1=>B9 fun v1=>C4 fun a1 ha1=>B9 fun v2=>K2 fun go1' go1 hgo1 z1=>?_
 refine C1 ?_ ?_
 ·refine G8 fun a2 ha2=>B9 fun v3=>D2 fun n2=>F6 0 0 rfl rfl rfl rfl<|B0 0 0 rfl rfl rfl ?_
  refine E4 ?_ ?_
  ·exact D1<|F8 (hgo1 _) rfl
  ·refine B9 fun v4=>C4 fun a3 ha3=>B9 fun v5=>B0 0 1 rfl rfl rfl<|B9 fun v6=>C4 fun a4 ha4=>B9 fun v7=>B0 0 0 rfl rfl rfl<|B3 fun r1=>?_
   refine E4 ?_ ?_
   ·exact A7
   ·exact D1<|F8 (hgo1 _) rfl
 ·exact C4 fun a5 ha5=>B9 fun v8=>B3 fun r2=>B1 ha5<|Ac7<|B1 ha5<|B9 fun v9=>C4 fun a6 ha6=>B9 fun v10=>B3 fun r3=>A7
set_option maxRecDepth 100000
def s188(x0:Option Addr)(K:Value->HP):HP:=
 A9 x0 fun a1=>
 ld (a1.add 4) (.lf .ptr) fun v1=>
 ifB (Option.isNone v1) (
 K (.i 0)) (
 st (a1.add 4) [.q none]<|
 ld (a1.add 2) (.lf .ptr) fun v2=>
 nw (.cells #[.i 1] 3) fun n1=>
 cl PP 134 #[.q x0,.slice (some ⟨n1,0,none⟩) 1 1] [lI] fun r1=>
 keep (D4 (a1.add 2) [.q v2])<|
 cl PP 133 #[.q v2,.i r1.1] [.lf .bool] fun r2=>
 A9 v1 fun a2=>
 ld a1 (.lf .ptr) fun v3=>
 ld a2 (lI) fun v4=>
 ld (a2.add 1) (lI) fun v5=>
 ld (a2.add 2) (lI) fun v6=>
 ld (a2.add 3) (.lf .sl) fun v7=>
 cl PP 249 #[.q v3,.i v4,.i v5,.i v6,.sv v7] [lI] fun r3=>
 cl PP 136 #[.q x0,.i r3.1] [lI] fun r4=>
 K (.i r4.1))
theorem c188(x0:Option Addr){K:Value->HP}{L:A4}(h:s188 x0 (HL.Ends K) L):CallF PP 188 #[.q x0] L K:=by
 refine CallF.of (args:=[.q x0]) B5 B6 Tryz.func188 (e188 x0 _) (D3 ?_ h)
 unfold s188 t188
 refine C4 fun a1 ha1=>B9 fun v1=>?_
 refine C1 ?_ ?_
 ·exact A7
 ·exact B1 ha1<|Ac7<|B1 ha1<|B9 fun v2=>R9 fun n1=>B3 fun r1=>S1<|B3 fun r2=>B1 ha1<|C4 fun a2 ha2=>B1 ha2<|B1 ha2<|B1 ha2<|B9 fun v3=>B9 fun v4=>B9 fun v5=>B9 fun v6=>B9 fun v7=>B3 fun r3=>B3 fun r4=>A7
def s190(x0:Option Addr)(x1:Int)(K:Value->HP):HP:=
 A9 x0 fun a1=>
 ld a1 (.lf .ptr) fun v1=>
 cl PP 252 #[.q v1,.i x1] [lI] fun r1=>
 ifB (decide ((r1.1:Int)=11)) (
 cl PP 136 #[.q x0,.i r1.1] [lI] fun r2=>
 K (.i r2.1)) (
 ld (a1.add 1) (.lf .ptr) fun v2=>
 cl PP 253 #[.q v2,.i x1,.b ((r1.1:Int)==10)] [.lf .bool] fun r3=>
 ld (a1.add 3) (.lf .map) fun v3=>
 smW PP (Builtin.delete_ #[79,3] 0 #[.map v3,.i x1]) [] fun v4=>
 K (.i 0))
theorem c190(x0:Option Addr)(x1:Int){K:Value->HP}{L:A4}(h:s190 x0 x1 (HL.Ends K) L):CallF PP 190 #[.q x0,.i x1] L K:=by
 refine CallF.of (args:=[.q x0,.i x1]) B5 B6 Tryz.func190 (e190 x0 x1 _) (D3 ?_ h)
 unfold s190 t190
 refine C4 fun a1 ha1=>B9 fun v1=>B3 fun r1=>?_
 refine E2 ?_ ?_
 ·exact B3 fun r2=>A7
 ·exact B1 ha1<|B9 fun v2=>B3 fun r3=>B1 ha1<|B9 fun v3=>Aj7 fun v4=>A7
def s191(x0:Option Addr)(x1:Int)(K:Value->HP):HP:=
 A9 x0 fun a1=>
 ld (a1.add 2) (.lf .ptr) fun v1=>
 nw (.cells #[.i 1] 3) fun n1=>
 cl PP 134 #[.q x0,.slice (some ⟨n1,0,none⟩) 1 1] [lI] fun r1=>
 keep (D4 (a1.add 2) [.q v1])<|
 cl PP 133 #[.q v1,.i r1.1] [.lf .bool] fun r2=>
 ld a1 (.lf .ptr) fun v2=>
 ld (a1.add 5) (lI) fun v3=>
 w64 (v3+1) fun i1=>
 cl PP 254 #[.q v2,.i x1,.i i1] [lI] fun r3=>
 ifB (decide ((r3.1:Int)=0)) (
 ld (a1.add 5) (lI) fun v4=>
 w64 (v4+1) fun i2=>
 st (a1.add 5) [.i i2]<|
 ld (a1.add 1) (.lf .ptr) fun v5=>
 cl PP 255 #[.q v5,.i x1] [.lf .bool] fun r5=>
 ld (a1.add 5) (lI) fun v6=>
 nw (.cells #[.i x1,.i v6,.i 1,.slice none 0 0] 156) fun n2=>
 st (a1.add 4) [.q (some ⟨n2,0,none⟩)]<|
 ld (a1.add 3) (.lf .map) fun v7=>
 ld (a1.add 4) (.lf .ptr) fun v8=>
 smU PP (Instr.mapUpdate 79 (.map v7) (.i x1) (.q v8))<|
 K (.i 0)) (
 cl PP 136 #[.q x0,.i r3.1] [lI] fun r4=>
 K (.i r4.1))
theorem c191(x0:Option Addr)(x1:Int){K:Value->HP}{L:A4}(h:s191 x0 x1 (HL.Ends K) L):CallF PP 191 #[.q x0,.i x1] L K:=by
 refine CallF.of (args:=[.q x0,.i x1]) B5 B6 Tryz.func191 (e191 x0 x1 _) (D3 ?_ h)
 unfold s191 t191
 refine C4 fun a1 ha1=>B9 fun v1=>R9 fun n1=>B3 fun r1=>S1<|B3 fun r2=>B1 ha1<|B1 ha1<|B9 fun v2=>B9 fun v3=>D1<|B3 fun r3=>?_
 refine E4 ?_ ?_
 ·exact B3 fun r4=>A7
 ·exact B1 ha1<|B9 fun v4=>D1<|B1 ha1<|Ac7<|B1 ha1<|B9 fun v5=>B3 fun r5=>B1 ha1<|B9 fun v6=>R9 fun n2=>B1 ha1<|Ac7<|B1 ha1<|B1 ha1<|B9 fun v7=>B9 fun v8=>Bx9<|A7
def s193(x0:Option Addr)(x1:Int)(x2:ShV (.agg [.int .i64,.int .i64,.int .i64,.int .i64,.int .i64]))(x3:SlV)(K:Value->HP):HP:=
 cl PP 93 #[.q x0] [.agg [.int .i64,.int .i64,.int .i64,.int .i64]] fun r1=>
 cl PP 256 #[.agg #[.i x2.1,.i x2.2.1,.i x2.2.2.1,.i x2.2.2.2.1,.i x2.2.2.2.2.1],.sv x3,.i r1.1.2.2.1] [.lf .sl,lI] fun r2=>
 ifB (decide ((r2.2.1:Int)=0)) (
 cl PP 257 #[.q x0,.i x1,.i x2.2.2.2.2.1,.sv r2.1] [lI] fun r3=>
 K (.i r3.1)) (
 K (.i r2.2.1))
theorem c193(x0:Option Addr)(x1:Int)(x2:ShV (.agg [.int .i64,.int .i64,.int .i64,.int .i64,.int .i64]))(x3:SlV){K:Value->HP}{L:A4}(h:s193 x0 x1 x2 x3 (HL.Ends K) L):CallF PP 193 #[.q x0,.i x1,.agg #[.i x2.1,.i x2.2.1,.i x2.2.2.1,.i x2.2.2.2.1,.i x2.2.2.2.2.1],.sv x3] L K:=by
 refine CallF.of (args:=[.q x0,.i x1,.agg #[.i x2.1,.i x2.2.1,.i x2.2.2.1,.i x2.2.2.2.1,.i x2.2.2.2.2.1],.sv x3]) B5 B6 Tryz.func193 (e193 x0 x1 x2 x3 _) (D3 ?_ h)
 unfold s193 t193
 refine D2 fun n1=>B0 0 0 rfl rfl rfl<|B3 fun r1=>M5 0 0 rfl rfl rfl<|B3 fun r2=>?_
 refine E4 ?_ ?_
 ·exact A7
 ·exact B0 0 4 rfl rfl rfl<|B3 fun r3=>A7
set_option maxRecDepth 100000
def s223(x0:Option Addr)(x1:Int)(K:Value->HP):HP:=
 ifB (Option.isNone x0) (
 K (.t #[.slice none 0 0,.i 1])) (
 cl PP 93 #[.q x0] [.agg [.int .i64,.int .i64,.int .i64,.int .i64]] fun r1=>
 lp [.lf .sl,lI] (⟨none,0,0⟩,0,()) fun z1 go1=>
 ifB (decide ((z1.2.1:Int)<r1.1.2.1)) (
 cl PP 181 #[.q x0,.i x1,.i z1.2.1] [.lf .sl,lI] fun r2=>
 ifB (decide ((r2.2.1:Int)=0)) (
 apv PP 96 96 96 27 z1.1 1 [.sv r2.1] fun s1=>
 w64 (z1.2.1+1) fun i1=>
 go1 (s1,i1,())) (
 K (.t #[.slice none 0 0,.i r2.2.1]))) (
 K (.t #[.sv z1.1,.i 0])))
theorem c223(x0:Option Addr)(x1:Int){K:Value->HP}{L:A4}(h:s223 x0 x1 (HL.Ends K) L):CallF PP 223 #[.q x0,.i x1] L K:=by
 refine CallF.of (args:=[.q x0,.i x1]) B5 B6 Tryz.func223 (e223 x0 x1 _) (D3 ?_ h)
 unfold s223 t223
 refine C1 ?_ ?_
 ·exact A7
 ·refine B3 fun r1=>K2 fun go1' go1 hgo1 z1=>?_
  refine C1 ?_ ?_
  ·refine B3 fun r2=>?_
   refine E4 ?_ ?_
   ·exact A7
   ·exact D2 fun n1=>Z0 (v:=_) 0 rfl fun s1=>D1<|F8 (hgo1 _) rfl
  ·exact A7
def s224(x0:SlV)(K:Value->HP):HP:=
 cl PP 283 #[.sv x0] [.lf .ptr] fun r1=>
 A9 r1.1 fun a1=>
 ld a1 (.lf .sl) fun v1=>
 ifB (decide ((v1.len:Int)=0)) (
 K (.t #[.agg #[.i 0,.b false,.slice none 0 0],.b false])) (
 ld a1 (.lf .sl) fun v2=>
 elp v2.a v2.len 0 7 fun a2=>
 ld (a2.add 3) (lI) fun v3=>
 st (a1.add 1) [.i v3]<|
 cl PP 284 #[.q r1.1,.i 0,.agg #[.i 1,.i 0,.i 1,.i 0,.i 0]] [.lf .sl,.lf .bool] fun r2=>
 ifB r2.2.1 (
 ifB (decide ((r2.1.len:Int)>0)) (
 K (.t #[.agg #[.i 0,.b false,.slice none 0 0],.b false])) (
 jn (fun y1:RsV []=>
 ld (a1.add 1) (lI) fun v6=>
 cl PP 286 #[.q r1.1,.func (.func 287) #[.q r1.1] #[]] [.lf .sl] fun r4=>
 keep (D4 (a1.add 1) [.i v6])<|
 K (.t #[.agg #[.i v6,.b false,.sv r4.1],.b true])) fun j1=>
 ld (a1.add 2) (lI) fun v4=>
 ifB (decide ((v4:Int)>0)) (
 cl PP 285 #[.q r1.1] [.lf .sl,.lf .bool] fun r3=>
 ifB r3.2.1 (
 ld (a1.add 1) (lI) fun v5=>
 K (.t #[.agg #[.i v5,.b true,.sv r3.1],.b true])) (
 j1 (()))) (
 j1 (())))) (
 K (.t #[.agg #[.i 0,.b false,.slice none 0 0],.b false])))
theorem c224(x0:SlV){K:Value->HP}{L:A4}(h:s224 x0 (HL.Ends K) L):CallF PP 224 #[.sv x0] L K:=by
 refine CallF.of (args:=[.sv x0]) B5 B6 Tryz.func224 (e224 x0 _) (D3 ?_ h)
 unfold s224 t224
 refine D2 fun n1=>B3 fun r1=>C4 fun a1 ha1=>B9 fun v1=>?_
 refine E2 ?_ ?_
 ·exact F6 0 0 rfl rfl rfl rfl<|B0 0 0 rfl rfl rfl<|A7
 ·refine B1 ha1<|B9 fun v2=>G8 fun a2 ha2=>B9 fun v3=>B1 ha1<|Ac7<|B3 fun r2=>?_
  refine K3 ?_ ?_
  ·exact F6 0 0 rfl rfl rfl rfl<|B0 0 0 rfl rfl rfl<|A7
  ·refine C1 ?_ ?_
   ·exact F6 0 0 rfl rfl rfl rfl<|B0 0 0 rfl rfl rfl<|A7
   ·refine W4 (fun y1=>?_) fun j1' j1 hj1=>?_
    ·exact B1 ha1<|B9 fun v6=>B3 fun r4=>S1<|F6 0 0 rfl rfl rfl rfl<|B0 0 0 rfl rfl rfl<|A7
    ·refine B1 ha1<|B9 fun v4=>?_
     refine C1 ?_ ?_
     ·refine B3 fun r3=>?_
      refine C1 ?_ ?_
      ·exact B1 ha1<|B9 fun v5=>F6 0 0 rfl rfl rfl rfl<|B0 0 0 rfl rfl rfl<|A7
      ·exact F8 (hj1 _) rfl
     ·exact F8 (hj1 _) rfl
def s225(x0:SlV)(x1:FnV)(K:Value->HP):HP:=
 cl PP 288 #[.slice x0.a x0.len x0.cap,.i x0.len,.func x1.fn x1.first x1.captured] [] fun r1=>
 K (.t #[])
theorem c225(x0:SlV)(x1:FnV){K:Value->HP}{L:A4}(h:s225 x0 x1 (HL.Ends K) L):CallF PP 225 #[.slice x0.a x0.len x0.cap,.func x1.fn x1.first x1.captured] L K:=by
 refine CallF.of (args:=[.slice x0.a x0.len x0.cap,.func x1.fn x1.first x1.captured]) B5 B6 Tryz.func225 (e225 x0 x1 _) (D3 ?_ h)
 unfold s225 t225
 exact B3 fun r1=>A7
def s226(x0:ShV (.agg [.int .i64,.int .i64,.sl]))(x1:ShV (.agg [.int .i64,.int .i64,.sl]))(K:Value->HP):HP:=
 w64 (x0.2.1-x1.2.1) fun i1=>
 K (.i i1)
theorem c226(x0:ShV (.agg [.int .i64,.int .i64,.sl]))(x1:ShV (.agg [.int .i64,.int .i64,.sl])){K:Value->HP}{L:A4}(h:s226 x0 x1 (HL.Ends K) L):CallF PP 226 #[.agg #[.i x0.1,.i x0.2.1,.sv x0.2.2.1],.agg #[.i x1.1,.i x1.2.1,.sv x1.2.2.1]] L K:=by
 refine CallF.of (args:=[.agg #[.i x0.1,.i x0.2.1,.sv x0.2.2.1],.agg #[.i x1.1,.i x1.2.1,.sv x1.2.2.1]]) B5 B6 Tryz.func226 (e226 x0 x1 _) (D3 ?_ h)
 unfold s226 t226
 exact D2 fun n1=>D2 fun n2=>B0 1 1 rfl rfl rfl<|B0 0 1 rfl rfl rfl<|D1<|A7
def s246(x0:Option Addr)(x1:ShV (.agg [.int .i64,.int .i64,.int .i64]))(x2:ShV (.agg [.int .i64,.int .i64,.int .i64]))(x3:Int)(K:Value->HP):HP:=
 A9 x0 fun a1=>
 ld (a1.add 11) (.lf .ptr) fun v1=>
 cl PP 118 #[.q v1,.agg #[.i x1.1,.i x1.2.1,.i x1.2.2.1]] [.lf .str,.lf .sl,lI] fun r1=>
 cl PP 41 #[.q x0,.w r1.1] [.lf (.int .u64)] fun r2=>
 jn (fun y1:RsV []=>
 jn (fun y2:RsV []=>
 ld a1 (.agg [.int .i64,.int .i64,.int .i64,.int .i64]) fun v7=>
 cl PP 111 #[.w r1.1,.sv r1.2.1,.agg #[.i v7.1,.i v7.2.1,.i v7.2.2.1,.i v7.2.2.2.1]] [.lf .sl,lI] fun r11=>
 ifB (decide ((r11.2.1:Int)=0)) (
 cl PP 64 #[.q (some (a1.add 11)),.i 2,.sv r11.1] [.agg [.int .i64,.int .i64,.int .i64],lI] fun r12=>
 ifB (decide ((r12.2.1:Int)=0)) (
 ld (Addr.add (a1.add 19) 2) (.lf .ptr) fun v8=>
 cl PP 294 #[.q v8,.int .u64 r2.1,.agg #[.i x1.1,.i x1.2.1,.i x1.2.2.1],.agg #[.i r12.1.1,.i r12.1.2.1,.i r12.1.2.2.1]] [.lf .bool] fun r13=>
 K (.i r12.2.1)) (
 K (.i r12.2.1))) (
 K (.i r11.2.1))) fun j2=>
 ld (Addr.add (a1.add 19) 2) (.lf .ptr) fun v3=>
 cl PP 293 #[.q v3,.int .u64 r2.1,.agg #[.i x1.1,.i x1.2.1,.i x1.2.2.1]] [lI] fun r5=>
 ifB (decide ((r5.1:Int)=0)) (
 ld (Addr.add (a1.add 19) 2) (.lf .ptr) fun v4=>
 cl PP 106 #[.q v4,.int .u64 r2.1,.agg #[.i x1.1,.i x1.2.1,.i x1.2.2.1]] [.lf .bool] fun r6=>
 K (.i 0)) (
 nw (.cells #[.i x2.2.2.1,.i x3] 3) fun n3=>
 cl PP 126 #[.q (some (a1.add 11)),.slice (some ⟨n3,0,none⟩) 2 2] [.lf .bool] fun r7=>
 ifB r7.1 (
 nw (.cells #[.i x2.2.2.1,.i x3] 3) fun n4=>
 cl PP 128 #[.q (some (a1.add 11)),.slice (some ⟨n4,0,none⟩) 2 2] [.lf .bool] fun r9=>
 ifB r9.1 (
 j2 (())) (
 ld (Addr.add (a1.add 19) 2) (.lf .ptr) fun v6=>
 cl PP 106 #[.q v6,.int .u64 r2.1,.agg #[.i x1.1,.i x1.2.1,.i x1.2.2.1]] [.lf .bool] fun r10=>
 K (.i 0))) (
 ld (Addr.add (a1.add 19) 2) (.lf .ptr) fun v5=>
 cl PP 106 #[.q v5,.int .u64 r2.1,.agg #[.i x1.1,.i x1.2.1,.i x1.2.2.1]] [.lf .bool] fun r8=>
 K (.i 0)))) fun j1=>
 ifB (decide ((r1.2.2.1:Int)=0)) (
 ld (Addr.add (a1.add 19) 2) (.lf .ptr) fun v2=>
 cl PP 117 #[.q v2,.int .u64 r2.1] [.lf .sl] fun r3=>
 cl PP 292 #[.sv r3.1,.agg #[.i x1.1,.i x1.2.1,.i x1.2.2.1]] [.lf .bool] fun r4=>
 ifB r4.1 (
 j1 (())) (
 K (.i 0))) (
 K (.i 0))
theorem c246(x0:Option Addr)(x1:ShV (.agg [.int .i64,.int .i64,.int .i64]))(x2:ShV (.agg [.int .i64,.int .i64,.int .i64]))(x3:Int){K:Value->HP}{L:A4}(h:s246 x0 x1 x2 x3 (HL.Ends K) L):CallF PP 246 #[.q x0,.agg #[.i x1.1,.i x1.2.1,.i x1.2.2.1],.agg #[.i x2.1,.i x2.2.1,.i x2.2.2.1],.i x3] L K:=by
 refine CallF.of (args:=[.q x0,.agg #[.i x1.1,.i x1.2.1,.i x1.2.2.1],.agg #[.i x2.1,.i x2.2.1,.i x2.2.2.1],.i x3]) B5 B6 Tryz.func246 (e246 x0 x1 x2 x3 _) (D3 ?_ h)
 unfold s246 t246
 refine D2 fun n1=>D2 fun n2=>C4 fun a1 ha1=>B9 fun v1=>B0 1 0 rfl rfl rfl<|B3 fun r1=>B3 fun r2=>?_
 refine W4 (fun y1=>?_) fun j1' j1 hj1=>?_
 ·refine W4 (fun y2=>?_) fun j2' j2 hj2=>?_
  ·refine B1 ha1<|B9 fun v7=>B3 fun r11=>?_
   refine E4 ?_ ?_
   ·exact A7
   ·refine B1 ha1<|B3 fun r12=>D2 fun n5=>F6 0 0 rfl rfl rfl rfl ?_
    refine E2 ?_ ?_
    ·exact B1 ha1<|B9 fun v8=>B0 2 0 rfl rfl rfl<|B0 0 0 rfl rfl rfl<|B3 fun r13=>A7
    ·exact A7
  ·refine B1 ha1<|B9 fun v3=>B0 1 0 rfl rfl rfl<|B3 fun r5=>?_
   refine E2 ?_ ?_
   ·exact B1 ha1<|B9 fun v4=>B0 1 0 rfl rfl rfl<|B3 fun r6=>A7
   ·refine B1 ha1<|B0 0 2 rfl rfl rfl<|R9 fun n3=>B3 fun r7=>?_
    refine K3 ?_ ?_
    ·exact B1 ha1<|B9 fun v5=>B0 1 0 rfl rfl rfl<|B3 fun r8=>A7
    ·refine B1 ha1<|B0 0 2 rfl rfl rfl<|R9 fun n4=>B3 fun r9=>?_
     refine K3 ?_ ?_
     ·exact B1 ha1<|B9 fun v6=>B0 1 0 rfl rfl rfl<|B3 fun r10=>A7
     ·exact F8 (hj2 _) rfl
 ·refine E4 ?_ ?_
  ·exact A7
  ·refine B1 ha1<|B9 fun v2=>B0 1 0 rfl rfl rfl<|B3 fun r3=>M5 1 0 rfl rfl rfl<|B3 fun r4=>?_
   refine K3 ?_ ?_
   ·exact A7
   ·exact F8 (hj1 _) rfl
def s247(x0:SlV)(x1:FnV)(K:Value->HP):HP:=
 cl PP 295 #[.slice x0.a x0.len x0.cap,.func x1.fn x1.first x1.captured] [lI] fun r1=>
 ifB (decide ((r1.1:Int)=(-1))) (
 K (.sv x0)) (
 w64 (r1.1+1) fun i1=>
 lp [lI,lI] (r1.1,i1,()) fun z1 go1=>
 ifB (decide ((z1.2.1:Int)<x0.len)) (
 elp x0.a x0.len z1.2.1 3 fun a1=>
 ld a1 (.agg [.int .i64,.int .i64,.int .i64]) fun v1=>
 clv PP x1.fn (x1.first++#[.agg #[.i v1.1,.i v1.2.1,.i v1.2.2.1]]) x1.captured [.lf .bool] fun r2=>
 ifB r2.1 (
 w64 (z1.2.1+1) fun i4=>
 go1 (z1.1,i4,())) (
 elp x0.a x0.len z1.1 3 fun a2=>
 st a2 [.i v1.1,.i v1.2.1,.i v1.2.2.1]<|
 w64 (z1.1+1) fun i2=>
 w64 (z1.2.1+1) fun i3=>
 go1 (i2,i3,()))) (
 slc x0 z1.1 x0.len x0.cap 3 fun s1=>
 smW PP (Builtin.clear_ #[55] 0 #[.sv s1]) [] fun v2=>
 slc x0 0 z1.1 x0.cap 3 fun s2=>
 K (.sv s2)))
theorem c247(x0:SlV)(x1:FnV){K:Value->HP}{L:A4}(h:s247 x0 x1 (HL.Ends K) L):CallF PP 247 #[.slice x0.a x0.len x0.cap,.func x1.fn x1.first x1.captured] L K:=by
 refine CallF.of (args:=[.slice x0.a x0.len x0.cap,.func x1.fn x1.first x1.captured]) B5 B6 Tryz.func247 (e247 x0 x1 _) (D3 ?_ h)
 unfold s247 t247
 refine B3 fun r1=>?_
 refine E2 ?_ ?_
 ·exact A7
 ·refine D1<|K2 fun go1' go1 hgo1 z1=>?_
  refine C1 ?_ ?_
  ·refine G8 fun a1 ha1=>B9 fun v1=>D2 fun n1=>F6 0 0 rfl rfl rfl rfl<|B0 0 0 rfl rfl rfl<|A53 fun r2=>?_
   refine K3 ?_ ?_
   ·exact B0 0 0 rfl rfl rfl<|G8 fun a2 ha2=>Ac7<|D1<|D1<|F8 (hgo1 _) rfl
   ·exact D1<|F8 (hgo1 _) rfl
  ·exact Az7 fun s1=>Aj7 fun v2=>Az7 fun s2=>A7
def s248(x0:ShV (.agg [.int .i64,.int .i64,.int .i64]))(x1:Option Addr)(K:Value->HP):HP:=
 A9 x1 fun a1=>
 ld a1 (.lf .ptr) fun v1=>
 A9 v1 fun a2=>
 ld a2 (lI) fun v2=>
 K (.b ((x0.1:Int)==v2))
theorem c248(x0:ShV (.agg [.int .i64,.int .i64,.int .i64]))(x1:Option Addr){K:Value->HP}{L:A4}(h:s248 x0 x1 (HL.Ends K) L):CallF PP 248 #[.agg #[.i x0.1,.i x0.2.1,.i x0.2.2.1],.q x1] L K:=by
 refine CallF.of (args:=[.agg #[.i x0.1,.i x0.2.1,.i x0.2.2.1],.q x1]) B5 B6 Tryz.func248 (e248 x0 x1 _) (D3 ?_ h)
 unfold s248 t248
 exact D2 fun n1=>B0 0 0 rfl rfl rfl<|C4 fun a1 ha1=>B9 fun v1=>C4 fun a2 ha2=>B9 fun v2=>A7
def s249(x0:Option Addr)(x1:Int)(x2:Int)(x3:Int)(x4:SlV)(K:Value->HP):HP:=
 lp [.lf .sl,lI] (⟨none,0,0⟩,0,()) fun z1 go1=>
 ifB (decide ((z1.2.1:Int)<x4.len)) (
 elp x4.a x4.len z1.2.1 3 fun a1=>
 ld a1 (.agg [.int .i64,.int .i64,.int .i64]) fun v1=>
 nw (.cells #[.i v1.1,.i v1.2.1,.i v1.2.2.1] 3) fun n2=>
 cl PP 131 #[.sv z1.1,.slice (some ⟨n2,0,none⟩) 3 3] [.lf .sl,.lf .bool] fun r1=>
 ifB r1.2.1 (
 w64 (z1.2.1+1) fun i1=>
 go1 (r1.1,i1,())) (
 K (.i 3))) (
 cl PP 193 #[.q x0,.i x1,.agg #[.i 4,.i 0,.i 1,.i x2,.i x3],.sv z1.1] [lI] fun r2=>
 K (.i r2.1))
theorem c249(x0:Option Addr)(x1:Int)(x2:Int)(x3:Int)(x4:SlV){K:Value->HP}{L:A4}(h:s249 x0 x1 x2 x3 x4 (HL.Ends K) L):CallF PP 249 #[.q x0,.i x1,.i x2,.i x3,.sv x4] L K:=by
 refine CallF.of (args:=[.q x0,.i x1,.i x2,.i x3,.sv x4]) B5 B6 Tryz.func249 (e249 x0 x1 x2 x3 x4 _) (D3 ?_ h)
 unfold s249 t249
 refine K2 fun go1' go1 hgo1 z1=>?_
 refine C1 ?_ ?_
 ·refine G8 fun a1 ha1=>B9 fun v1=>D2 fun n1=>F6 0 0 rfl rfl rfl rfl<|B0 0 0 rfl rfl rfl<|B0 0 1 rfl rfl rfl<|B0 0 2 rfl rfl rfl<|R9 fun n2=>B3 fun r1=>?_
  refine K3 ?_ ?_
  ·exact A7
  ·exact D1<|F8 (hgo1 _) rfl
 ·exact B3 fun r2=>A7
set_option maxRecDepth 100000
def s254(x0:Option Addr)(x1:Int)(x2:Int)(K:Value->HP):HP:=
 cl PP 193 #[.q x0,.i x1,.agg #[.i 1,.i 0,.i 1,.i x2,.i 0],.slice none 0 0] [lI] fun r1=>
 K (.i r1.1)
theorem c254(x0:Option Addr)(x1:Int)(x2:Int){K:Value->HP}{L:A4}(h:s254 x0 x1 x2 (HL.Ends K) L):CallF PP 254 #[.q x0,.i x1,.i x2] L K:=by
 refine CallF.of (args:=[.q x0,.i x1,.i x2]) B5 B6 Tryz.func254 (e254 x0 x1 x2 _) (D3 ?_ h)
 unfold s254 t254
 exact B3 fun r1=>A7
set_option maxRecDepth 100000
def s286(x0:Option Addr)(x1:FnV)(K:Value->HP):HP:=
 lp [.lf .sl,lI] (⟨none,0,0⟩,1,()) fun z1 go1=>
 A9 x0 fun a1=>
 ld (a1.add 2) (lI) fun v1=>
 ifB (decide ((z1.2.1:Int)<=v1)) (
 clv PP x1.fn (x1.first++#[.i z1.2.1]) x1.captured [.agg [.int .i64,.int .i64,.int .i64],.lf .bool] fun r1=>
 ifB r1.2.1 (
 apv PP 152 152 152 215 z1.1 1 [.i r1.1.1,.i r1.1.2.1,.i r1.1.2.2.1] fun s1=>
 w64 (r1.1.2.2.1-1) fun i2=>
 w64 (z1.2.1+i2) fun i3=>
 w64 (i3+1) fun i4=>
 go1 (s1,i4,())) (
 w64 (z1.2.1+1) fun i1=>
 go1 (z1.1,i1,()))) (
 K (.sv z1.1))
theorem c286(x0:Option Addr)(x1:FnV){K:Value->HP}{L:A4}(h:s286 x0 x1 (HL.Ends K) L):CallF PP 286 #[.q x0,.func x1.fn x1.first x1.captured] L K:=by
 refine CallF.of (args:=[.q x0,.func x1.fn x1.first x1.captured]) B5 B6 Tryz.func286 (e286 x0 x1 _) (D3 ?_ h)
 unfold s286 t286
 refine K2 fun go1' go1 hgo1 z1=>C4 fun a1 ha1=>B9 fun v1=>?_
 refine C1 ?_ ?_
 ·refine A53 fun r1=>D2 fun n1=>F6 0 0 rfl rfl rfl rfl ?_
  refine K3 ?_ ?_
  ·exact D1<|F8 (hgo1 _) rfl
  ·exact B0 0 0 rfl rfl rfl<|D2 fun n2=>Z0 (v:=_) 0 rfl fun s1=>B0 1 2 rfl rfl rfl<|D1<|D1<|D1<|F8 (hgo1 _) rfl
 ·exact A7
def s288(x0:SlV)(x1:Int)(x2:FnV)(K:Value->HP):HP:=
 lp [lI,lI] (0,20,()) fun z1 go1=>
 ifB (decide ((z1.2.1:Int)<=x1)) (
 cl PP 321 #[.slice x0.a x0.len x0.cap,.i z1.1,.i z1.2.1,.func x2.fn x2.first x2.captured] [] fun r1=>
 w64 (z1.2.1+20) fun i1=>
 go1 (z1.2.1,i1,())) (
 cl PP 321 #[.slice x0.a x0.len x0.cap,.i z1.1,.i x1,.func x2.fn x2.first x2.captured] [] fun r2=>
 lp [lI] (20,()) fun z2 go2=>
 ifB (decide ((z2.1:Int)<x1)) (
 w64 (2*z2.1) fun i2=>
 lp [lI,lI] (0,i2,()) fun z3 go3=>
 ifB (decide ((z3.2.1:Int)<=x1)) (
 w64 (z3.1+z2.1) fun i3=>
 cl PP 322 #[.slice x0.a x0.len x0.cap,.i z3.1,.i i3,.i z3.2.1,.func x2.fn x2.first x2.captured] [] fun r3=>
 w64 (2*z2.1) fun i4=>
 w64 (z3.2.1+i4) fun i5=>
 go3 (z3.2.1,i5,())) (
 w64 (z3.1+z2.1) fun i6=>
 ifB (decide ((i6:Int)<x1)) (
 cl PP 322 #[.slice x0.a x0.len x0.cap,.i z3.1,.i i6,.i x1,.func x2.fn x2.first x2.captured] [] fun r4=>
 w64 (z2.1*2) fun i7=>
 go2 (i7,())) (
 w64 (z2.1*2) fun i8=>
 go2 (i8,())))) (
 K (.t #[])))
theorem c288(x0:SlV)(x1:Int)(x2:FnV){K:Value->HP}{L:A4}(h:s288 x0 x1 x2 (HL.Ends K) L):CallF PP 288 #[.slice x0.a x0.len x0.cap,.i x1,.func x2.fn x2.first x2.captured] L K:=by
 refine CallF.of (args:=[.slice x0.a x0.len x0.cap,.i x1,.func x2.fn x2.first x2.captured]) B5 B6 Tryz.func288 (e288 x0 x1 x2 _) (D3 ?_ h)
 unfold s288 t288
 refine K2 fun go1' go1 hgo1 z1=>?_
 refine C1 ?_ ?_
 ·exact B3 fun r1=>D1<|F8 (hgo1 _) rfl
 ·refine B3 fun r2=>K2 fun go2' go2 hgo2 z2=>?_
  refine C1 ?_ ?_
  ·refine D1<|K2 fun go3' go3 hgo3 z3=>?_
   refine C1 ?_ ?_
   ·exact D1<|B3 fun r3=>D1<|D1<|F8 (hgo3 _) rfl
   ·refine D1 ?_
    refine C1 ?_ ?_
    ·exact B3 fun r4=>D1<|F8 (hgo2 _) rfl
    ·exact D1<|F8 (hgo2 _) rfl
  ·exact A7
def s292(x0:SlV)(x1:ShV (.agg [.int .i64,.int .i64,.int .i64]))(K:Value->HP):HP:=
 cl PP 323 #[.sv x0,.agg #[.i x1.1,.i x1.2.1,.i x1.2.2.1]] [lI] fun r1=>
 K (.b (decide ((r1.1:Int)≥0)))
theorem c292(x0:SlV)(x1:ShV (.agg [.int .i64,.int .i64,.int .i64])){K:Value->HP}{L:A4}(h:s292 x0 x1 (HL.Ends K) L):CallF PP 292 #[.sv x0,.agg #[.i x1.1,.i x1.2.1,.i x1.2.2.1]] L K:=by
 refine CallF.of (args:=[.sv x0,.agg #[.i x1.1,.i x1.2.1,.i x1.2.2.1]]) B5 B6 Tryz.func292 (e292 x0 x1 _) (D3 ?_ h)
 unfold s292 t292
 exact D2 fun n1=>B0 0 0 rfl rfl rfl<|B3 fun r1=>A7
def s295(x0:SlV)(x1:FnV)(K:Value->HP):HP:=
 lp [lI] (0,()) fun z1 go1=>
 ifB (decide ((z1.1:Int)<x0.len)) (
 elp x0.a x0.len z1.1 3 fun a1=>
 ld a1 (.agg [.int .i64,.int .i64,.int .i64]) fun v1=>
 clv PP x1.fn (x1.first++#[.agg #[.i v1.1,.i v1.2.1,.i v1.2.2.1]]) x1.captured [.lf .bool] fun r1=>
 ifB r1.1 (
 K (.i z1.1)) (
 w64 (z1.1+1) fun i1=>
 go1 (i1,()))) (
 K (.i (-1)))
theorem c295(x0:SlV)(x1:FnV){K:Value->HP}{L:A4}(h:s295 x0 x1 (HL.Ends K) L):CallF PP 295 #[.slice x0.a x0.len x0.cap,.func x1.fn x1.first x1.captured] L K:=by
 refine CallF.of (args:=[.slice x0.a x0.len x0.cap,.func x1.fn x1.first x1.captured]) B5 B6 Tryz.func295 (e295 x0 x1 _) (D3 ?_ h)
 unfold s295 t295
 refine K2 fun go1' go1 hgo1 z1=>?_
 refine C1 ?_ ?_
 ·refine G8 fun a1 ha1=>B9 fun v1=>A53 fun r1=>?_
  refine C1 ?_ ?_
  ·exact A7
  ·exact D1<|F8 (hgo1 _) rfl
 ·exact A7
set_option maxRecDepth 100000
def s321(x0:SlV)(x1:Int)(x2:Int)(x3:FnV)(K:Value->HP):HP:=
 w64 (x1+1) fun i1=>
 lp [lI] (i1,()) fun z1 go1=>
 ifB (decide ((z1.1:Int)<x2)) (
 lp [lI] (z1.1,()) fun z2 go2=>
 jn (fun y1:RsV []=>
 w64 (z2.1-1) fun i5=>
 w64 (z2.1-1) fun i6=>
 elp x0.a x0.len i6 3 fun a3=>
 elp x0.a x0.len z2.1 3 fun a4=>
 ld a3 (.agg [.int .i64,.int .i64,.sl]) fun v3=>
 ld a4 (.agg [.int .i64,.int .i64,.sl]) fun v4=>
 st a4 [.i v3.1,.i v3.2.1,.slice v3.2.2.1.a v3.2.2.1.len v3.2.2.1.cap]<|
 elp x0.a x0.len i5 3 fun a5=>
 st a5 [.i v4.1,.i v4.2.1,.slice v4.2.2.1.a v4.2.2.1.len v4.2.2.1.cap]<|
 w64 (z2.1-1) fun i7=>
 go2 (i7,())) fun j1=>
 ifB (decide ((z2.1:Int)>x1)) (
 elp x0.a x0.len z2.1 3 fun a1=>
 w64 (z2.1-1) fun i2=>
 elp x0.a x0.len i2 3 fun a2=>
 ld a1 (.agg [.int .i64,.int .i64,.sl]) fun v1=>
 ld a2 (.agg [.int .i64,.int .i64,.sl]) fun v2=>
 clv PP x3.fn (x3.first++#[.agg #[.i v1.1,.i v1.2.1,.slice v1.2.2.1.a v1.2.2.1.len v1.2.2.1.cap],.agg #[.i v2.1,.i v2.2.1,.slice v2.2.2.1.a v2.2.2.1.len v2.2.2.1.cap]]) x3.captured [lI] fun r1=>
 ifB (decide ((r1.1:Int)<0)) (
 j1 (())) (
 w64 (z1.1+1) fun i3=>
 go1 (i3,()))) (
 w64 (z1.1+1) fun i4=>
 go1 (i4,()))) (
 K (.t #[]))
theorem c321(x0:SlV)(x1:Int)(x2:Int)(x3:FnV){K:Value->HP}{L:A4}(h:s321 x0 x1 x2 x3 (HL.Ends K) L):CallF PP 321 #[.slice x0.a x0.len x0.cap,.i x1,.i x2,.func x3.fn x3.first x3.captured] L K:=by
 refine CallF.of (args:=[.slice x0.a x0.len x0.cap,.i x1,.i x2,.func x3.fn x3.first x3.captured]) B5 B6 Tryz.func321 (e321 x0 x1 x2 x3 _) (D3 ?_ h)
 unfold s321 t321
 refine D1<|K2 fun go1' go1 hgo1 z1=>?_
 refine C1 ?_ ?_
 ·refine K2 fun go2' go2 hgo2 z2=>?_
  refine W4 (fun y1=>?_) fun j1' j1 hj1=>?_
  ·exact D1<|D1<|G8 fun a3 ha3=>G8 fun a4 ha4=>B9 fun v3=>B9 fun v4=>Ba8 ha4<|Ac7<|G8 fun a5 ha5=>Ac7<|D1<|F8 (hgo2 _) rfl
  ·refine C1 ?_ ?_
   ·refine G8 fun a1 ha1=>D1<|G8 fun a2 ha2=>B9 fun v1=>B9 fun v2=>A53 fun r1=>?_
    refine C1 ?_ ?_
    ·exact F8 (hj1 _) rfl
    ·exact D1<|F8 (hgo1 _) rfl
   ·exact D1<|F8 (hgo1 _) rfl
 ·exact A7
def s323(x0:SlV)(x1:ShV (.agg [.int .i64,.int .i64,.int .i64]))(K:Value->HP):HP:=
 lp [lI] (0,()) fun z1 go1=>
 ifB (decide ((z1.1:Int)<x0.len)) (
 elp x0.a x0.len z1.1 3 fun a1=>
 ld a1 (.agg [.int .i64,.int .i64,.int .i64]) fun v1=>
 smP PP (binOp .eql 102 (.agg #[.i x1.1,.i x1.2.1,.i x1.2.2.1]) (.agg #[.i v1.1,.i v1.2.1,.i v1.2.2.1])) (.lf .bool) fun v2=>
 ifB v2 (
 K (.i z1.1)) (
 w64 (z1.1+1) fun i1=>
 go1 (i1,()))) (
 K (.i (-1)))
theorem c323(x0:SlV)(x1:ShV (.agg [.int .i64,.int .i64,.int .i64])){K:Value->HP}{L:A4}(h:s323 x0 x1 (HL.Ends K) L):CallF PP 323 #[.sv x0,.agg #[.i x1.1,.i x1.2.1,.i x1.2.2.1]] L K:=by
 refine CallF.of (args:=[.sv x0,.agg #[.i x1.1,.i x1.2.1,.i x1.2.2.1]]) B5 B6 Tryz.func323 (e323 x0 x1 _) (D3 ?_ h)
 unfold s323 t323
 refine D2 fun n1=>K2 fun go1' go1 hgo1 z1=>?_
 refine C1 ?_ ?_
 ·refine G8 fun a1 ha1=>B0 0 0 rfl rfl rfl<|B9 fun v1=>Ch3 fun v2=>?_
  refine C1 ?_ ?_
  ·exact A7
  ·exact D1<|F8 (hgo1 _) rfl
 ·exact A7
set_option maxRecDepth 100000
theorem Bj3{ps:List (List UInt8)}{ep:Int}{q:Nat}{x:It}(h:N3 ps ep q=some x):1<=x.2.2.1/\x.2.2.1<=16:=by
 unfold N3 at h
 split at h
 ·rename_i b hb
  split at h
  ·rename_i h1
   split at h
   ·obtain rfl:=Option.some.inj h
    have:=Ab1 (Bv7 h1.1)
    exact⟨this.2.2.1,this.2.2.2.1⟩
   ·cases h
  ·cases h
 ·cases h
theorem De9(L B:A4)(m:Nat)(ps:List (List UInt8))(ep:Int)(last:Nat)(hB:SH m ps ep last B)(hs: ∀x∈B,x∈L)(hlast:last<min ps.length 16):
  CallF PP 286 #[.q (some ⟨m,0,none⟩),.func (.func 287) #[.q (some ⟨m,0,none⟩)] #[]] L fun r L'=> ∃(v:SlV) (seg:A4),r= .slice v.a v.len v.cap/\L'=seg++L/\Own v 3 B48 ((Ae0 (N3 ps ep) last 17 1).flatMap O9) seg:=by
 refine c286 (some ⟨m,0,none⟩) ⟨.func 287,#[.q (some ⟨m,0,none⟩)],#[]⟩ ?_
 unfold s286
 have hB0:=hB
 obtain⟨sv,seg,ims,hBe,hh⟩:=hB
 have hmO:sO m sv ep last∈L:=hs _ (by rw[hBe];exact List.mem_cons_self)
 refine G0 (fun z' z L'=> ∃(p k:Nat) (s:SlV) (ds:List It) (sg:A4),1<=p/\p<=32/\z'=40-p/\last+1<=p+k/\z=(s,(p:Int),())/\L'=sg++L/\Own s 3 B48 (ds.flatMap O9) sg/\ds.length<p/\Ae0 (N3 ps ep) last 17 1=ds++Ae0 (N3 ps ep) last k p) 39
  ⟨1,17,⟨none,0,0⟩,[],[],by omega,by omega,rfl,by omega,rfl,rfl,F4,by simp,rfl⟩ ?_
 rintro z' z _ ⟨p,k,s,ds,sg,h1,h2,rfl,hk,rfl,rfl,own,hd,he⟩
 dsimp only
 have hsl:=own.sl.els_len E1 (by decide)
 refine A5 rfl (A6 (last:Int) ((s_la hmO).mono A92) (B8 (fun(hle:(p:Int)<=last)=>?_) (fun(hgt: ¬(p:Int)<=last)=>?_)))
 ·obtain⟨k,rfl⟩: ∃k',k=k'+1:=⟨k-1,by omega⟩
  have hst:Ae0 (N3 ps ep) last (k+1) p=match N3 ps ep p with|some x=>x::Ae0 (N3 ps ep) last k (p+x.2.2.1.toNat)|none=>Ae0 (N3 ps ep) last k (p+1):=by
   rw[Ae0,if_pos (by omega)]<;>rfl
  refine Z2 (by kernel_rfl) (S0 (at_cl (sg++L) B m ps ep last hB0 (fun x hx=>List.mem_append_right _ (hs x hx)) p (by omega)) ?_)
  rintro _ _-⟨rfl,⟨hn,rfl⟩|⟨x,hx,rfl⟩⟩
  ·rw[hst,hn]at he
   refine⟨((0,0,0,()),false,()),rfl,ifF rfl (D9 (by omega) ⟨40-(p+1),by omega,p+1,k,s,ds,sg,by omega,by omega,rfl,by omega,rfl,rfl,own,by omega,he⟩)⟩
  ·have hr:=Bj3 hx
   rw[hst,hx]at he
   refine⟨(x,true,()),rfl,ifT rfl ?_⟩
   dsimp only
   refine Cl6 Bs2 B78 [] L own rfl rfl rfl (by omega) fun s2 sg2 hs2 own2=>D9 (by omega) (D9 (by omega) (D9 (by omega) ?_))
   refine⟨40-(p+x.2.2.1.toNat),by omega,p+x.2.2.1.toNat,k,s2,ds++[x],sg2,by omega,by omega,rfl,by omega,?_,rfl,?_,by simp;omega,by rw[he];simp⟩
   ·show(s2,(p:Int)+(x.2.2.1-1)+1,())=_
    rw[show(p:Int)+(x.2.2.1-1)+1=((p+x.2.2.1.toNat:Nat):Int) by omega]
   ·rw[List.flatMap_append,List.flatMap_singleton];exact own2
 ·have hst:Ae0 (N3 ps ep) last k p=[]:=by
   cases k with
   |zero=>rfl
   |succ k=>rw[Ae0,if_neg (by omega)]
  rw[hst,List.append_nil]at he
  exact .of ⟨s,sg,rfl,rfl,by rw[he];exact own⟩
abbrev Rg:=(Int×Bool×List It)×Bool
def B57(q:Rg)(A:A4)(r:Value)(L':A4):Prop:= ∃(v:SlV) (seg:A4),r= .t #[.agg #[.i q.1.1,.b q.1.2.1,.slice v.a v.len v.cap],.b q.2]/\L'=seg++A/\Own v 3 B48 (q.1.2.2.flatMap O9) seg
theorem B57.no{q:Rg}{A J:A4}(h:q=((0,false,[]),false)):HL.Ends (B57 q A) (.t #[.agg #[.i 0,.b false,.slice none 0 0],.b false]) (J++A):=.app (.of ⟨⟨none,0,0⟩,[],by rw[h],rfl,by rw[h];exact F4⟩)
theorem Cu2{ps:List (List UInt8)}(h:ps≠[]):M1 ps<min ps.length 16:=by
 have h1:=Ba1 ps (min ps.length 16-1)
 have h2:0<ps.length:=List.length_pos_iff.2 h
 unfold M1
 omega
theorem Bv1{ps:List (List UInt8)}(h:Z5 ps 0 (1,0,1,epR ps,0,())≠some []):P6 ps=((0,false,[]),false):=by
 unfold P6
 split
 ·rfl
 ·split
  ·rename_i h2;exact absurd h2 h
  ·rfl
theorem B22{ps:List (List UInt8)}(h0:ps≠[])(h:Z5 ps 0 (1,0,1,epR ps,0,())=some []){l:List It}(hl:(if M1 ps>0 then A15 ps (epR ps)else none)=some l):P6 ps=((epR ps,true,l),true):=by
 unfold P6
 rw[if_neg h0,h]
 simp only[hl]
theorem A36{ps:List (List UInt8)}(h0:ps≠[])(h:Z5 ps 0 (1,0,1,epR ps,0,())=some [])(hl:(if M1 ps>0 then A15 ps (epR ps)else none)=none):P6 ps=((epR ps,false,Ae0 (N3 ps (epR ps)) (M1 ps) 17 1),true):=by
 unfold P6
 rw[if_neg h0,h]
 simp only[hl]
theorem C78(A:A4)(v:SlV)(l:List PV)(h:Y1 A v l)(hl:l.length<=1000000)(hb: ∀x∈l,x.2.length<=1000000):CallF PP 224 #[.slice v.a v.len v.cap] A (B57 (P6 (l.map Prod.snd)) A):=by
 refine c224 v ?_
 unfold s224
 refine S0 (Db5 A v l h hl hb) ?_
 rintro _ _-⟨m,B,rfl,rfl,hSH⟩
 refine⟨(some ⟨m,0,none⟩,()),rfl,A5 rfl ?_⟩
 obtain⟨sv,seg,ims,rfl,hh⟩:=hSH
 generalize hps:l.map Prod.snd=ps at hh⊢
 have hvl:=hh.own.sl.els_len IM.enc_len (by decide)
 have hil:=hh.ilen
 refine A6 sv (C08 (L:=sO m sv 0 (M1 ps)::(seg++W3 ims)++A) List.mem_cons_self) (B8 (fun(h0:(sv.len:Int)=0)=>?_) (fun(h0: ¬(sv.len:Int)=0)=>?_))
 ·have:ps=[]:=List.length_eq_zero_iff.1 (by omega)
  exact B57.no (by rw[this];rfl)
 have hne:ps≠[]:=fun e=>h0 (by rw[e,List.length_nil]at hil;omega)
 have hlt:=Cu2 hne
 refine A6 sv (C08 (L:=sO m sv 0 (M1 ps)::(seg++W3 ims)++A) List.mem_cons_self) ?_
 have hSl:Sl (sO m sv 0 (M1 ps)::(seg++W3 ims)++A) sv 7 (ims.flatMap IM.enc):=Sl.mono hh.own.sl fun x hx=>by simp[hx]
 have hi0:0<ims.length:=by omega
 refine V7 IM.enc_len (by decide) hSl (i:=0) (n:=0) rfl hi0 fun a ha=>?_
 obtain⟨hip,i1,-,-⟩:=hh.im hi0
 have hep:epR ps=ims[0].h.2.2.2.1:=by
  unfold epR
  rw[i1]
  congr 4
  simp[List.getD_eq_getElem?_getD,hip]
 refine A6 ims[0].h.2.2.2.1 (ha.one 3 rfl) ?_
 rw[<-hep]
 refine E3 (n:=m) (off:=1) (c:=#[.slice sv.a sv.len sv.cap,.i 0,.i (M1 ps)]) (T:=375) (fz:=(0,0)) [] ((seg++W3 ims)++A) rfl (by simp[sO]) (by simp) (.inl (Nat.le_refl _)) #[.slice sv.a sv.len sv.cap,.i (epR ps),.i (M1 ps)] rfl ?_
 obtain⟨B,hBd⟩: ∃B,B=sO m sv (epR ps) (M1 ps)::(seg++W3 ims):=⟨_,rfl⟩
 have hBB:([]++(m,Obj.cells #[.slice sv.a sv.len sv.cap,.i (epR ps),.i (M1 ps)] 375)::((seg++W3 ims)++A))=B++A:=by rw[hBd];rfl
 rw[hBB]
 have hSH:SH m ps (epR ps) (M1 ps) B:=⟨sv,seg,ims,hBd,hh⟩
 have hmO:sO m sv (epR ps) (M1 ps)∈B++A:=by rw[hBd];simp
 refine S0 (Bo7 (B++A) B m ps (epR ps) (M1 ps) hSH mem_l 0 (1,0,1,0,0,())) ?_
 rintro _ _-⟨rfl,⟨hn,rfl⟩|⟨w,p,hsm,rfl,hw,-⟩⟩
 ·exact⟨(⟨none,0,0⟩,false,()),rfl,ifF rfl (B57.no (Bv1 (by rw[hn];exact fun e=>by cases e)))⟩
 have hwl:=hw.len
 refine⟨(w,true,()),rfl,ifT rfl (B8 (fun(h1:(w.len:Int)>0)=>B57.no (Bv1 (by rw[hsm];intro e;cases e;simp at hwl;omega))) (fun(h1: ¬(w.len:Int)>0)=>?_))⟩
 obtain rfl:p=[]:=List.length_eq_zero_iff.1 (by omega)
 refine W7 (fun _ L'=> ∃J,L'=J++(B++A)/\(if M1 ps>0 then A15 ps (epR ps)else none)=none) ?_ ?_
 ·rintro _ _ ⟨J,rfl,hno⟩
  refine A6 (epR ps) ((s_ep hmO).mono A92) (S0 (De9 (J++(B++A)) B m ps (epR ps) (M1 ps) hSH (fun x hx=>by simp[hx]) hlt) ?_)
  rintro _ _-⟨v1,sg1,rfl,rfl,own1⟩
  refine⟨(v1,()),rfl,F5 (((s_ep hmO).mono A92).mono A92) (.drop (A:=sg1++A) (J:=J++B) ⟨v1,sg1,?_,rfl,?_⟩ ?_)⟩
  ·rw[A36 hne hsm hno]
  ·rw[A36 hne hsm hno];exact own1
  ·classical
   rw[List.perm_iff_count]
   intro z
   simp only[List.count_append]
   omega
 ·intro j hj
  refine A6 (M1 ps:Int) (s_la hmO) (B8 (fun(h2:(M1 ps:Int)>0)=>?_) (fun(h2: ¬(M1 ps:Int)>0)=>hj _ _ ⟨[],rfl,by rw[if_neg (by omega)]⟩))
  have h2':M1 ps>0:=by omega
  refine S0 (C74 (B++A) B m ps (epR ps) hSH mem_l) ?_
  rintro _ _-(⟨hn,rfl,w2,rfl⟩|⟨its,w2,sg2,hs2,rfl,rfl,own2⟩)
  ·exact⟨(w2,false,()),rfl,ifF rfl (hj _ _ ⟨[],rfl,by rw[if_pos h2'];exact hn⟩)⟩
  ·have hsc:=B22 hne hsm (l:=its) (by rw[if_pos h2'];exact hs2)
   refine⟨(w2,true,()),rfl,ifT rfl (A6 (epR ps) ((s_ep hmO).mono A92) (.drop (A:=sg2++A) (J:=B) ⟨w2,sg2,by rw[hsc],rfl,by rw[hsc];exact own2⟩ ?_))⟩
   classical
   rw[List.perm_iff_count]
   intro z
   simp only[List.count_append]
   omega
def S6(ps:List (List UInt8))(pg:Int):Nat->Option (List (List UInt8))
 |0=>some []
 |n+1=>match S6 ps pg n with
  |some l=>if pg<0\/(ps.length:Int)<=pg+n then none else if(E5 (ps.getD (pg.toNat+n) [])).2.2=0 then some (l++[(E5 (ps.getD (pg.toNat+n) [])).2.1])else none
  |none=>none
def Aj4(ps:List (List UInt8))(x:It):List (List UInt8):=(S6 ps x.2.1 x.2.2.1.toNat).getD []
theorem Bp8{ps:List (List UInt8)}{pg:Int}: ∀{n m:Nat},n<=m->S6 ps pg n=none->S6 ps pg m=none
  |n,m,h,hn=>by
    induction m with
    | zero => obtain rfl:n=0:=by omega
              exact hn
    |succ m ih=>
      rcases Nat.lt_or_ge m n with h1|h1
      · obtain rfl:n=m+1:=by omega
        exact hn
      · rw[S6,ih h1]
theorem Ao8{ps:List (List UInt8)}{pg:Int}: ∀{n:Nat} {l:List (List UInt8)},S6 ps pg n=some l->l.length=n/\(0<n->pg+n<=ps.length)
 |0,l,h=>by obtain rfl:=Option.some.inj h;exact⟨rfl,fun h=>absurd h (by omega)⟩
 |n+1,l,h=>by
  rw[S6]at h
  split at h
  ·rename_i l' hl'
   split at h
   ·cases h
   ·split at h
    ·obtain rfl:=Option.some.inj h
     exact⟨by simp[(Ao8 hl').1],fun _=>by omega⟩
    ·cases h
  ·cases h
def A67(l:List (List UInt8))(A:A4)(r:Value)(L':A4):Prop:= ∃(v:SlV) (gs:List PG) (seg:A4),r= .slice v.a v.len v.cap/\L'=seg++(pgs gs++A)/\Own v 1 tB (gs.map PG.val) seg/\(∀g∈gs,g.Ok)/\gs.map PG.l=l
theorem A67.nil{l:List (List UInt8)}{A:A4}(h:l=[]):A67 l A (.slice none 0 0) A:=⟨⟨none,0,0⟩,[],[],rfl,rfl,F4,by simp,by rw[h];rfl⟩
def Cm3(ps:List (List UInt8))(pg:Int)(A:A4)(i:Nat)(s:SlV)(L':A4):Prop:= ∃(gs:List PG) (sg J X Y:A4),L'=X++sg++Y/\(X++Y).Perm (pgs gs++(J++A))/\Own s 1 tB (gs.map PG.val) sg/\(∀g∈gs,g.Ok)/\S6 ps pg i=some (gs.map PG.l)
theorem Cm3.sub{ps:List (List UInt8)}{pg:Int}{A:A4}{i:Nat}{s:SlV}{L':A4}(h:Cm3 ps pg A i s L'): ∀x∈A,x∈L':=by
 obtain⟨gs,sg,J,X,Y,rfl,hp,-⟩:=h
 intro x hx
 have h5:x∈X++Y:=(hp.mem_iff (a:=x)).2 (by simp[hx])
 simp only[List.mem_append]at h5⊢
 rcases h5 with h5|h5<;>simp[h5]
theorem Cm3.fin{ps:List (List UInt8)}{x:It}{A:A4}{i:Nat}{s:SlV}{L':A4}(h:Cm3 ps x.2.1 A i s L')(hi:i=x.2.2.1.toNat):HL.Ends (A67 (Aj4 ps x) A) (.slice s.a s.len s.cap) L':=by
 obtain⟨gs,sg,J,X,Y,rfl,hp,own,hok,hg⟩:=h
 refine .drop (A:=sg++(pgs gs++A)) (J:=J) ⟨s,gs,sg,rfl,rfl,own,hok,?_⟩ ?_
 ·unfold Aj4;rw[<-hi,hg];rfl
 ·classical
  rw[List.perm_iff_count]at hp⊢
  intro z
  have:=hp z
  simp only[List.count_append]at this⊢
  omega
theorem Cm3.app{ps:List (List UInt8)}{x:It}{A:A4}{i:Nat}{s:SlV}{L':A4}(h:Cm3 ps x.2.1 A i s L')(hn:S6 ps x.2.1 (i+1)=none)(hi:i<x.2.2.1.toNat)(seg:A4):HL.Ends (A67 (Aj4 ps x) A) (.slice none 0 0) (seg++L'):=by
 obtain⟨gs,sg,J,X,Y,rfl,hp,-⟩:=h
 refine .drop (A:=A) (J:=seg++(sg++(pgs gs++J))) (A67.nil (by unfold Aj4;rw[Bp8 hi hn];rfl)) ?_
 classical
 rw[List.perm_iff_count]at hp⊢
 intro z
 have:=hp z
 simp only[List.count_append]at this⊢
 omega
theorem Cm3.snoc{ps:List (List UInt8)}{pg:Int}{A:A4}{i:Nat}{s:SlV}{L':A4}(h:Cm3 ps pg A i s L')(g:PG)(hg:g.Ok)(hgl:g.l.length<=1000000)(hi:i<=1000000)(hn:S6 ps pg (i+1)=(S6 ps pg i).map fun l=>l++[g.l]){k:SlV->HP}(hk: ∀s' L',Cm3 ps pg A (i+1) s' L'->k s' L'):
  apv PP tPs tPs tPs tB s 1 [g.val] k (g.seg++L'):=by
 obtain⟨gs,sg,J,X,Y,rfl,hp,own,hok,hl⟩:=h
 have hln:=(Ao8 hl).1
 rw[List.length_map]at hln
 have hsl:=own.len
 rw[List.length_map]at hsl
 refine Cl6 Bk4 Cp0 (g.seg++X) Y own (by simp) rfl rfl (by omega) fun s2 sg2 _ own2=>hk _ _ ⟨gs++[g],sg2,J,g.seg++X,Y,by simp,?_,?_,?_,?_⟩
 ·rw[P7,Ax6]
  classical
  rw[List.perm_iff_count]at hp⊢
  intro z
  have:=hp z
  simp only[List.count_append]at this⊢
  omega
 ·rw[List.map_append];exact own2
 ·intro g' hg'
  rcases List.mem_append.1 hg' with h1|h1
  ·exact hok g' h1
  ·rw[List.mem_singleton.1 h1];exact hg
 ·rw[hn,hl];simp
theorem Bp2(A:A4)(v:SlV)(l:List PV)(h:Y1 A v l)(hl:l.length<=1000000)(hb: ∀x∈l,x.2.length<=1000000)(x:It)(hx:Q6 .i64 x.2.1/\Q6 .i64 x.2.2.1):
  CallF PP 169 #[.slice v.a v.len v.cap,.agg #[.i x.1,.i x.2.1,.i x.2.2.1]] A (A67 (Aj4 (l.map Prod.snd) x) A):=by
 refine c169 v x ?_
 unfold s169
 have hvl:=h.len
 have hx1:=Bd5 hx.1
 have hx2:=Bd5 hx.2
 generalize hps:l.map Prod.snd=ps
 have hpl:ps.length=l.length:=by rw[<-hps];simp
 refine G0 (fun z' z L'=> ∃(i:Nat) (s:SlV),i<=x.2.2.1.toNat/\i<=l.length/\z'=x.2.2.1.toNat-i/\z=(s,(i:Int),())/\Cm3 ps x.2.1 A i s L') x.2.2.1.toNat ⟨0,⟨none,0,0⟩,by omega,by omega,by omega,rfl,[],[],[],[],A,rfl,List.Perm.refl _,F4,by simp,rfl⟩ ?_
 rintro z' z L1 ⟨i,s,hi,hil,rfl,rfl,hP⟩
 dsimp only
 refine B8 (fun(hlt:(i:Int)<x.2.2.1)=>?_) (fun(hge: ¬(i:Int)<x.2.2.1)=>hP.fin (by omega))
 obtain⟨gs,sg,J,X,Y,hLe,hp,own,hok,hg⟩:=hP
 have hP:Cm3 ps x.2.1 A i s L1:=⟨gs,sg,J,X,Y,hLe,hp,own,hok,hg⟩
 have hi':i<x.2.2.1.toNat:=by omega
 have hstep:=show S6 ps x.2.1 (i+1)=_ from rfl
 rw[S6,hg]at hstep
 simp only at hstep
 refine B8 (fun(h1:x.2.1<0)=>hP.app (by rw[S6,hg];simp only;rw[if_pos (.inl h1)]) hi' []) (fun(h1: ¬x.2.1<0)=>D9 (by omega) (B8 (fun(h2:x.2.1≥(v.len:Int)-i)=>hP.app (by rw[S6,hg];simp only;rw[if_pos (.inr (by omega))]) hi' []) (fun(h2: ¬x.2.1≥(v.len:Int)-i)=>D9 (by omega) ?_)))
 have hq:x.2.1.toNat+i<l.length:=by omega
 have hst:S6 ps x.2.1 (i+1)=if(E5 l[x.2.1.toNat+i].2).2.2=0 then some (gs.map PG.l++[(E5 l[x.2.1.toNat+i].2).2.1])else none:=by
  rw[S6,hg]
  simp only
  rw[if_neg (by omega)]
  have:ps.getD (x.2.1.toNat+i) []=l[x.2.1.toNat+i].2:=by rw[<-hps];simp[List.getD_eq_getElem?_getD,hq]
  rw[this]
 refine Cx4 (h.sl.mono hP.sub) (n:=x.2.1.toNat+i) (by omega) (by rw[List.length_map];exact hq) fun a ha=>?_
 rw[List.getElem_map]at ha
 refine A6 l[x.2.1.toNat+i].1 ha (S0 (Ax5 L1 _ l[x.2.1.toNat+i].2 (Sl.mono (h.val _ (List.getElem_mem hq)) hP.sub) (hb _ (List.getElem_mem hq))) ?_)
 rintro _ _-⟨s2,sg2,rfl,rfl,own2⟩
 refine⟨((E5 l[x.2.1.toNat+i].2).1,s2,(E5 l[x.2.1.toNat+i].2).2.2,()),rfl,B8 (fun(h3:(E5 l[x.2.1.toNat+i].2).2.2=0)=>?_) (fun(h3: ¬(E5 l[x.2.1.toNat+i].2).2.2=0)=>hP.app (by rw[hst,if_neg h3]) hi' sg2)⟩
 refine hP.snoc ⟨s2,sg2,(E5 l[x.2.1.toNat+i].2).2.1⟩ own2 (Nat.le_trans (At6 _) (hb _ (List.getElem_mem hq))) (by omega) (by rw[hst,hg,if_pos h3];rfl) fun s' L' hP'=>D9 (by omega) ⟨x.2.2.1.toNat-(i+1),by omega,i+1,s',by omega,by omega,rfl,rfl,hP'⟩
structure Cfg where
 B:Nat
 P:Nat
 S:Nat
 W:Nat
structure Cz6(c:Cfg):Prop where
 b:2<=c.B/\c.B<=16
 p:4<=c.P/\c.P<=16
 s:64<=c.S/\c.S<=512
 w:1<=c.W/\c.W<=1048576
structure Blk where
 pages:List (List UInt8)
 next:Nat
 wear:Nat
 bad:Bool
structure Tn where
 b:Nat
 p:Nat
 meant:List UInt8
 image:List UInt8
structure Dev where
 c:Cfg
 after:Nat
 keep:Int
 down:Bool
 bs:List Blk
 bytes:Int
 torn:List Tn
def blk(n:Nat):List UInt8:=List.replicate n 255
def Z4(d:Dev):Bool×Dev:=if d.after=0 then(false,d)else(decide (d.after=1),{d with after:=d.after-1,down:=decide (d.after=1)})
def Q5(k:Int)(n:Nat):Nat:=min k.toNat n
theorem Aq6(d:Dev):(Z4 d).2.c=d.c/\(Z4 d).2.bs=d.bs/\(Z4 d).2.keep=d.keep/\(Z4 d).2.bytes=d.bytes/\(Z4 d).2.torn=d.torn:=by unfold Z4;split<;>exact⟨rfl,rfl,rfl,rfl,rfl⟩
abbrev tBk:TypeId:=98
abbrev tFl:TypeId:=75
abbrev tPb:TypeId:=72
abbrev ePb:TypeId:=94
abbrev tTs:TypeId:=73
abbrev eT:TypeId:=401
theorem elemPb:U8 PP tPb ePb 1 8 [.q none]:=M6 (by kernel_rfl) (by kernel_rfl) rfl (by decide) (by decide)
theorem srcPb:As9 PP tPb:=.inl ⟨ePb,by kernel_rfl⟩
theorem elemTs:U8 PP tTs eT 4 64 [.i 0,.i 0,.slice none 0 0,.slice none 0 0]:=M6 (by kernel_rfl) (by kernel_rfl) rfl (by decide) (by decide)
theorem srcTs:As9 PP tTs:=.inl ⟨eT,by kernel_rfl⟩
structure PB where
 id:Nat
 v:SlV
 seg:A4
 ps:List PG
 next:Nat
 wear:Nat
 bad:Bool
def PB.blk(b:PB):Blk:=⟨b.ps.map PG.l,b.next,b.wear,b.bad⟩
def PB.obj(b:PB):Nat×Obj:=(b.id,.cells #[.slice b.v.a b.v.len b.v.cap,.i b.next,.i b.wear,.b b.bad] tBk)
def PB.objs(b:PB):A4:=b.obj::(b.seg++pgs b.ps)
structure PB.Ok(b:PB):Prop where
 own:Own b.v 1 tB (b.ps.map PG.val) b.seg
 ps: ∀g∈b.ps,g.Ok
def pbp(b:PB):Value:=.q (some ⟨b.id,0,none⟩)
def fO(m:Nat)(d:Dev)(bv tv:SlV):Nat×Obj:=
 (m,.cells #[.i d.after,.i d.keep,.b d.down,.i d.c.B,.i d.c.P,.i d.c.S,.i d.c.W,.slice bv.a bv.len bv.cap,.i d.bytes,.slice tv.a tv.len tv.cap] tFl)
section
variable {L:A4} {m:Nat} {d:Dev} {bv tv:SlV} {b:PB}
theorem b_ps(h:b.obj∈L):D4 ⟨b.id,0,none⟩ [.slice b.v.a b.v.len b.v.cap] L:=ldB (by unfold PB.obj at h;exact h) rfl
theorem Cl4(h:b.obj∈L):D4 ⟨b.id,1,none⟩ [.i b.next] L:=ldB (by unfold PB.obj at h;exact h) rfl
theorem b_wear(h:b.obj∈L):D4 ⟨b.id,2,none⟩ [.i b.wear] L:=ldB (by unfold PB.obj at h;exact h) rfl
theorem Cz0(h:b.obj∈L):D4 ⟨b.id,3,none⟩ [.b b.bad] L:=ldB (by unfold PB.obj at h;exact h) rfl
theorem Ci1(h:fO m d bv tv∈L):D4 ⟨m,0,none⟩ [.i d.after] L:=ldB (by unfold fO at h;exact h) rfl
theorem f_keep(h:fO m d bv tv∈L):D4 ⟨m,1,none⟩ [.i d.keep] L:=ldB (by unfold fO at h;exact h) rfl
theorem Ch9(h:fO m d bv tv∈L):D4 ⟨m,2,none⟩ [.b d.down] L:=ldB (by unfold fO at h;exact h) rfl
theorem f_cfg(h:fO m d bv tv∈L):D4 ⟨m,3,none⟩ [.i d.c.B,.i d.c.P,.i d.c.S,.i d.c.W] L:=ldB (by unfold fO at h;exact h) rfl
theorem f_P(h:fO m d bv tv∈L):D4 ⟨m,4,none⟩ [.i d.c.P] L:=ldB (by unfold fO at h;exact h) rfl
theorem f_S(h:fO m d bv tv∈L):D4 ⟨m,5,none⟩ [.i d.c.S] L:=ldB (by unfold fO at h;exact h) rfl
theorem f_W(h:fO m d bv tv∈L):D4 ⟨m,6,none⟩ [.i d.c.W] L:=ldB (by unfold fO at h;exact h) rfl
theorem f_bs(h:fO m d bv tv∈L):D4 ⟨m,7,none⟩ [.slice bv.a bv.len bv.cap] L:=ldB (by unfold fO at h;exact h) rfl
theorem Ci0(h:fO m d bv tv∈L):D4 ⟨m,8,none⟩ [.i d.bytes] L:=ldB (by unfold fO at h;exact h) rfl
theorem C31(h:fO m d bv tv∈L):D4 ⟨m,9,none⟩ [.slice tv.a tv.len tv.cap] L:=ldB (by unfold fO at h;exact h) rfl
end
theorem Ab5(L:A4)(n a b:Int):Reads PP 90 #[.i n,.i a,.i b] L (.b (decide (a<=n/\n<=b))):=by
 refine Reads.of (args:=[.i n,.i a,.i b]) B5 B6 Tryz.func90 (e90 n a b _) ?_
 unfold t90
 refine C0 (fun(h:n≥a)=>.of ⟨?_,rfl⟩) (fun(h: ¬n≥a)=>.of ⟨?_,rfl⟩)
 ·congr 1
  by_cases h2:n<=b
  ·rw[decide_eq_true h2,decide_eq_true (by omega)]
  ·rw[decide_eq_false h2,decide_eq_false (by omega)]
 ·congr 1
  rw[decide_eq_false (by omega)]
theorem Bc4(n:Nat)(hn:n<=1048576):CallF PP 163 #[.i n] [] fun r L'=> ∃(g:PG),r=g.val/\L'=g.seg/\g.Ok/\g.l=blk n:=by
 refine CallF.of (args:=[.i n]) B5 B6 Tryz.func163 (e163 n _) ?_
 unfold t163
 refine Ay3 An3 (l:=n) (c:=n) (Nat.le_refl _) (by omega) fun q ob own _ _=>?_
 rw[Bd3]at own
 refine G0 (fun z' z L'=> ∃(i:Nat) (seg:A4),i<=n/\z'=n-i/\z=((i:Int),())/\L'=seg/\Own ⟨some ⟨q,0,none⟩,n,n⟩ 1 eB (bvs (List.replicate i 255++List.replicate (n-i) 0)) seg) n ⟨0,[(q,ob)],by omega,by omega,rfl,rfl,by simpa using own⟩ ?_
 rintro z' z L ⟨i,seg,hi,rfl,rfl,rfl,own⟩
 refine C0 (fun(hlt:(i:Int)<(n:Nat))=>?_) (fun(hge: ¬(i:Int)<(n:Nat))=>?_)
 ·refine A5 rfl (E0 (show(0:Int)<=i by omega) hlt ?_)
  refine own.st (p:=i) [] [] (by rw[E7,List.length_append,List.length_replicate,List.length_replicate,List.length_singleton];omega) (by simp) rfl (by rw[Int.toNat_natCast,Nat.mul_one]) (by simp) fun seg' own'=>?_
  rw[Al7 (by rw[E7,List.length_append,List.length_replicate,List.length_replicate];omega)]at own'
  refine⟨n-(i+1),by omega,i+1,seg',by omega,rfl,?_,by simp,?_⟩
  ·rw[C2 (by first|omega|(simp only;omega)) (by first|omega|(simp only;omega))]
   rfl
  ·have:(bvs (List.replicate i 255++List.replicate (n-i) 0)).set i (.int .u8 255)=bvs (List.replicate (i+1) 255++List.replicate (n-(i+1)) 0):=by
    have h1:=Df4 (List.replicate i 255++List.replicate (n-i) 0) i 255
    rw[show((255:UInt8).toNat:Int)=255 by decide]at h1
    rw[h1]
    congr 1
    rw[List.set_append,if_neg (by simp),List.length_replicate,Nat.sub_self,show n-i=(n-(i+1))+1 by omega,List.replicate_succ,List.set_cons_zero,List.replicate_succ',List.append_assoc]
    rfl
   rw[this]at own'
   exact own'
 ·obtain rfl:i=n:=by omega
  refine .of ⟨⟨⟨some ⟨q,0,none⟩,i,i⟩,L,blk i⟩,rfl,rfl,?_,rfl⟩
  rw[Nat.sub_self,List.replicate_zero,List.append_nil]at own
  exact own
theorem Bn3(b:PB)(hb:b.Ok)(n S:Nat)(hn:n<=b.ps.length)(hn2:n<=1048576)(hS:S<=1048576):
  CallF PP 91 #[.q (some ⟨b.id,0,none⟩),.i n,.i S] b.objs fun r L'=>r= .t #[]/\ ∃(seg':A4) (ps':List PG),L'=({b with seg:=seg',ps:=ps'}:PB).objs/\({b with seg:=seg',ps:=ps'}:PB).Ok/\ps'.map PG.l=List.replicate n (blk S)++(b.ps.map PG.l).drop n:=by
 refine CallF.of (args:=[.q (some ⟨b.id,0,none⟩),.i n,.i S]) B5 B6 Tryz.func91 (e91 (some ⟨b.id,0,none⟩) n S _) ?_
 unfold t91
 refine G0 (fun z' z L'=> ∃(i:Nat) (seg':A4) (D:List PG) (J:A4),i<=n/\z'=n-i/\z=((i:Int),())/\L'=b.obj::(seg'++(pgs D++(J++pgs (b.ps.drop i))))/\Own b.v 1 tB ((D++b.ps.drop i).map PG.val) seg'/\D.length=i/\(∀g∈D,g.Ok)/\D.map PG.l=List.replicate i (blk S)) n
  ⟨0,b.seg,[],[],by omega,by omega,rfl,rfl,hb.own,rfl,by simp,rfl⟩ ?_
 rintro z' z L ⟨i,seg',D,J,hi,rfl,rfl,rfl,own,hD,hok,hl⟩
 have hsl:Sl (b.obj::(seg'++(pgs D++(J++pgs (b.ps.drop i))))) b.v 1 ((D++b.ps.drop i).map PG.val):=own.sl.left.cons
 have hvl:b.v.len=b.ps.length:=by
  have:=own.len
  rw[List.length_map,List.length_append,List.length_drop]at this
  omega
 refine C0 (fun(hlt:(i:Int)<(n:Int))=>?_) (fun(hge: ¬(i:Int)<(n:Int))=>?_)
 ·have hi':i<b.ps.length:=by omega
  have hdr:b.ps.drop i=b.ps[i]::b.ps.drop (i+1):=List.drop_eq_getElem_cons hi'
  refine A5 rfl (A6 b.v (b_ps List.mem_cons_self) ?_)
  refine J5 (b.obj::(seg'++pgs D)) (J++pgs (b.ps.drop i)) (Bc4 S hS) (by simp) ?_
  rintro _ _-⟨g,rfl,rfl,hg,hgl⟩
  refine⟨(g.v,()),rfl,F5 (b_ps (by simp)) ?_⟩
  obtain⟨a,ha,-⟩:=hsl.at' (i:=i) (by omega) (by decide)
  refine A5 ha (E0 (show(0:Int)<=i by omega) (show(i:Int)<b.v.len by omega) ?_)
  refine own.st (p:=i) [b.obj] (pgs D++(g.seg++(J++pgs (b.ps.drop i)))) (by rw[List.length_map,List.length_append,List.length_drop,List.length_singleton];omega) (by simp) ha (by rw[Int.toNat_natCast,Nat.mul_one]) (by simp) fun seg2 own2=>?_
  rw[Al7 (by rw[List.length_map,List.length_append,List.length_drop];omega)]at own2
  refine⟨n-(i+1),by omega,i+1,seg2,D++[g],J++b.ps[i].seg,by omega,rfl,?_,?_,?_,by simp[hD],?_,?_⟩
  ·rw[C2 (by first|omega|(simp only;omega)) (by first|omega|(simp only;omega))]
   rfl
  ·rw[hdr,Am0,P7,Ax6];simp
  ·have:(((D++b.ps.drop i).map PG.val).set i g.val)=(((D++[g])++b.ps.drop (i+1)).map PG.val):=by
    rw[hdr,List.map_append,List.set_append,if_neg (by simp[hD]),List.length_map,hD,Nat.sub_self,List.map_cons,List.set_cons_zero]
    simp
   rw[<-this]
   exact own2
  ·intro x hx
   rcases List.mem_append.1 hx with h|h
   ·exact hok x h
   ·rw[List.mem_singleton.1 h];exact hg
  ·rw[List.map_append,hl,List.replicate_succ',List.map_singleton,hgl]
 ·obtain rfl:i=n:=by omega
  refine .drop (A:=({b with seg:=seg',ps:=D++b.ps.drop i}:PB).objs) (J:=J) ⟨rfl,seg',D++b.ps.drop i,rfl,⟨own,fun x hx=>?_⟩,?_⟩ ?_
  ·rcases List.mem_append.1 hx with h|h
   ·exact hok x h
   ·exact hb.ps x (List.mem_of_mem_drop h)
  ·rw[List.map_append,hl,List.map_drop]
  ·show(b.obj::(seg'++(pgs D++(J++pgs (b.ps.drop i))))).Perm ((b.obj::(seg'++pgs (D++b.ps.drop i)))++J)
   rw[P7]
   classical
   rw[List.perm_iff_count]
   intro x
   simp only[List.append_eq,List.cons_append,List.count_append,List.count_cons,List.count_nil]
   omega
theorem C55(b:PB)(W:Int)(hw:b.wear<=1048576):
  CallF PP 298 #[.q (some ⟨b.id,0,none⟩),.i W] [b.obj] fun r L'=>r= .b (decide (((b.wear+1:Nat):Int)=W))/\L'=[({b with next:=0,wear:=b.wear+1,bad:=decide (((b.wear+1:Nat):Int)=W)}:PB).obj]:=by
 refine CallF.of (args:=[.q (some ⟨b.id,0,none⟩),.i W]) B5 B6 Tryz.func298 (e298 (some ⟨b.id,0,none⟩) W _) ?_
 unfold t298
 have hww:IntKind.i64.wrap ((b.wear:Int)+1)=((b.wear+1:Nat):Int):=by rw[C2 (by omega) (by omega)];omega
 refine A5 rfl (E3 (n:=b.id) (off:=1) (c:=#[.slice b.v.a b.v.len b.v.cap,.i b.next,.i b.wear,.b b.bad]) (T:=tBk) (fz:=(0,0)) [] [] rfl rfl (by simp) (.inl (Nat.le_refl _)) #[.slice b.v.a b.v.len b.v.cap,.i 0,.i b.wear,.b b.bad] rfl ?_)
 refine A5 rfl (A6 (b.wear:Int) (ldB List.mem_cons_self rfl) (A5 rfl ?_))
 simp only[hww]
 refine E3 (n:=b.id) (off:=2) (T:=tBk) (fz:=(0,0)) [] [] rfl rfl (by simp) (.inl (Nat.le_refl _)) #[.slice b.v.a b.v.len b.v.cap,.i 0,.i ((b.wear+1:Nat):Int),.b b.bad] rfl ?_
 refine A5 rfl (A6 ((b.wear+1:Nat):Int) (ldB List.mem_cons_self rfl) (A5 rfl ?_))
 refine E3 (n:=b.id) (off:=3) (T:=tBk) (fz:=(0,0)) [] [] rfl rfl (by simp) (.inl (Nat.le_refl _)) #[.slice b.v.a b.v.len b.v.cap,.i 0,.i ((b.wear+1:Nat):Int),.b (decide (((b.wear+1:Nat):Int)=W))] rfl ?_
 refine A5 rfl (A6 (decide (((b.wear+1:Nat):Int)=W)) (ldB List.mem_cons_self rfl) ?_)
 exact .of ⟨rfl,rfl⟩
theorem Bt6(m:Nat)(d:Dev)(bv tv:SlV)(ha:(d.after:Int)<=9223372036854775807):
  CallF PP 296 #[.q (some ⟨m,0,none⟩)] [fO m d bv tv] fun r L'=>r= .b (Z4 d).1/\L'=[fO m (Z4 d).2 bv tv]:=by
 refine CallF.of (args:=[.q (some ⟨m,0,none⟩)]) B5 B6 Tryz.func296 (e296 (some ⟨m,0,none⟩) _) ?_
 unfold t296
 refine A5 rfl (A6 (d.after:Int) (Ci1 List.mem_cons_self) ?_)
 refine Aa4 (fun(h:(d.after:Int)=0)=>?_) (fun(h:(d.after:Int)≠0)=>?_)
 ·have h0:d.after=0:=by omega
  unfold Z4
  rw[if_pos h0]
  exact .of ⟨rfl,rfl⟩
 ·have h0:d.after≠0:=by omega
  have hww:IntKind.i64.wrap ((d.after:Int)-1)=((d.after-1:Nat):Int):=by rw[C2 (by omega) (by omega)];omega
  have hdd:(((d.after-1:Nat):Int)==0)=decide (d.after=1):=by
   by_cases h1:d.after=1
   ·rw[h1];rfl
   ·rw[decide_eq_false h1,beq_eq_false_iff_ne];omega
  unfold Z4
  rw[if_neg h0]
  refine A5 rfl (A6 (d.after:Int) (Ci1 List.mem_cons_self) (A5 rfl ?_))
  simp only[hww]
  refine E3 (n:=m) (off:=0) (c:=#[.i d.after,.i d.keep,.b d.down,.i d.c.B,.i d.c.P,.i d.c.S,.i d.c.W,.slice bv.a bv.len bv.cap,.i d.bytes,.slice tv.a tv.len tv.cap]) (T:=tFl) (fz:=(0,0)) [] [] rfl rfl (by simp) (.inl (Nat.le_refl _))
   #[.i ((d.after-1:Nat):Int),.i d.keep,.b d.down,.i d.c.B,.i d.c.P,.i d.c.S,.i d.c.W,.slice bv.a bv.len bv.cap,.i d.bytes,.slice tv.a tv.len tv.cap] rfl ?_
  refine A5 rfl (A6 ((d.after-1:Nat):Int) (ldB List.mem_cons_self rfl) (A5 rfl ?_))
  simp only[hdd]
  refine E3 (n:=m) (off:=2) (T:=tFl) (fz:=(0,0)) [] [] rfl rfl (by simp) (.inl (Nat.le_refl _))
   #[.i ((d.after-1:Nat):Int),.i d.keep,.b (decide (d.after=1)),.i d.c.B,.i d.c.P,.i d.c.S,.i d.c.W,.slice bv.a bv.len bv.cap,.i d.bytes,.slice tv.a tv.len tv.cap] rfl ?_
  refine A5 rfl (A6 (decide (d.after=1)) (ldB List.mem_cons_self rfl) ?_)
  exact .of ⟨rfl,rfl⟩
theorem Cf9(k:Int)(n:Nat):Ab3 (Z6 k 0) n=(Q5 k n:Int):=by
 unfold Ab3 Z6 Q5
 omega
theorem Ce8(L:A4)(m:Nat)(d:Dev)(bv tv:SlV)(h:fO m d bv tv∈L)(n:Nat):Reads PP 297 #[.q (some ⟨m,0,none⟩),.i n] L (.i (Q5 d.keep n)):=by
 refine Reads.of (args:=[.q (some ⟨m,0,none⟩),.i n]) B5 B6 Tryz.func297 (e297 (some ⟨m,0,none⟩) n _) ?_
 unfold t297
 refine A5 rfl (A6 d.keep (f_keep h) ?_)
 rw[Cf9]
 exact .of ⟨rfl,rfl⟩
def Bm9(l:List PB)(b:Int):Option Addr:=if 0<=b then(l[b.toNat]?).map fun k=>⟨k.id,0,none⟩else none
theorem Ag1{l:List PB}{i:Nat}(h:i<l.length):Bm9 l (i:Int)=some ⟨l[i].id,0,none⟩:=by
 unfold Bm9
 rw[if_pos (by omega),Int.toNat_natCast,List.getElem?_eq_getElem h];rfl
theorem Ax2{l:List PB}{b:Int}(h: ¬(0<=b/\b<l.length)):Bm9 l b=none:=by
 unfold Bm9
 split
 ·rw[List.getElem?_eq_none (by omega)];rfl
 ·rfl
theorem Cz1(L:A4)(m:Nat)(d:Dev)(bv tv:SlV)(h:fO m d bv tv∈L)(l:List PB)(hl:Sl L bv 1 (l.map pbp))(hle:l.length<=1048576)(b:Int):
  Reads PP 45 #[.q (some ⟨m,0,none⟩),.i b] L (.q (Bm9 l b)):=by
 refine Reads.of (args:=[.q (some ⟨m,0,none⟩),.i b]) B5 B6 Tryz.func45 (e45 (some ⟨m,0,none⟩) b _) ?_
 unfold t45
 have hlen:bv.len=l.length:=by have:=hl.len;rw[List.length_map]at this;omega
 refine ifF rfl (A5 rfl (A6 bv (f_bs h) ?_))
 have hw:IntKind.i64.wrap ((bv.len:Int)-1)=(l.length:Int)-1:=by rw[C2 (by omega) (by omega)];omega
 simp only[hw]
 refine B7 (Ab5 _ b 0 ((l.length:Int)-1)) (decide (0<=b/\b<=(l.length:Int)-1),()) rfl ?_
 by_cases hb:0<=b/\b<=(l.length:Int)-1
 ·rw[decide_eq_true hb]
  refine ifF rfl ?_
  obtain⟨i,rfl⟩: ∃i:Nat,b=i:=⟨b.toNat,by omega⟩
  have hi:i<l.length:=by omega
  rw[Ag1 hi]
  obtain⟨a,ha,hld⟩:=hl.at' (i:=i) (by omega) (by decide)
  refine A5 rfl (A6 bv (f_bs h) (A5 ha (E0 (show(0:Int)<=i by omega) (show(i:Int)<bv.len by omega) (A6 (some ⟨l[i].id,0,none⟩:Option Addr) (hld.one ((i:Int).toNat*1) ?_) ?_))))
  ·rw[Int.toNat_natCast,Nat.mul_one,List.getElem?_map,List.getElem?_eq_getElem hi];rfl
  ·exact .of ⟨rfl,rfl⟩
 ·rw[decide_eq_false hb]
  refine ifT rfl (.of ⟨?_,rfl⟩)
  rw[Ax2 (by omega)]
def H8(d:Dev)(b p:Int):Int:=if d.down then 11 else if¬(0<=b/\b<d.bs.length)then 2 else if¬(0<=p/\p<d.c.P)then 2 else 0
theorem Br9(L:A4)(m:Nat)(d:Dev)(bv tv:SlV)(h:fO m d bv tv∈L)(l:List PB)(hl:Sl L bv 1 (l.map pbp))(hle:l.length<=1048576)(hd:l.map PB.blk=d.bs)(hP:d.c.P<=1048576)(b p:Int):
  Reads PP 235 #[.q (some ⟨m,0,none⟩),.i b,.i p] L (.t #[.q (if H8 d b p=0 then Bm9 l b else none),.i (H8 d b p)]):=by
 refine Reads.of (args:=[.q (some ⟨m,0,none⟩),.i b,.i p]) B5 B6 Tryz.func235 (e235 (some ⟨m,0,none⟩) b p _) ?_
 unfold t235
 have hbl:d.bs.length=l.length:=by rw[<-hd,List.length_map]
 refine ifF rfl (A5 rfl (A6 d.down (Ch9 h) ?_))
 refine G7 (fun(hdn:d.down=true)=>.of ⟨?_,rfl⟩) (fun(hdn:d.down=false)=>?_)
 ·have hE:H8 d b p=11:=by unfold H8;rw[if_pos hdn]
  rw[hE];rfl
 ·refine B7 (Cz1 L m d bv tv h l hl hle b) (Bm9 l b,()) rfl ?_
  by_cases hb:0<=b/\b<d.bs.length
  ·obtain⟨i,rfl⟩: ∃i:Nat,b=i:=⟨b.toNat,by omega⟩
   rw[Ag1 (by omega)]
   refine ifF rfl (A5 rfl (A6 (d.c.P:Int) (f_P h) ?_))
   have hw:IntKind.i64.wrap ((d.c.P:Int)-1)=(d.c.P:Int)-1:=C2 (by omega) (by omega)
   simp only[hw]
   refine B7 (Ab5 _ p 0 ((d.c.P:Int)-1)) (decide (0<=p/\p<=(d.c.P:Int)-1),()) rfl ?_
   by_cases hp:0<=p/\p<d.c.P
   ·have hE:H8 d i p=0:=by unfold H8;rw[hdn,if_neg (by decide),if_neg (by simpa using hb),if_neg (by simpa using hp)]
    rw[decide_eq_true (by omega),hE,if_pos rfl]
    exact ifF rfl (.of ⟨rfl,rfl⟩)
   ·have hE:H8 d i p=2:=by unfold H8;rw[hdn,if_neg (by decide),if_neg (by simpa using hb),if_pos hp]
    rw[decide_eq_false (by omega),hE]
    exact ifT rfl (.of ⟨rfl,rfl⟩)
  ·have hE:H8 d b p=2:=by unfold H8;rw[hdn,if_neg (by decide),if_pos hb]
   rw[hE,Ax2 (by omega)]
   exact ifT rfl (.of ⟨rfl,rfl⟩)
structure Q3(d:Dev):Prop where
 c:Cz6 d.c
 len:d.bs.length=d.c.B
 pg: ∀k∈d.bs,k.pages.length=d.c.P/\ ∀l∈k.pages,l.length=d.c.S
 nx: ∀k∈d.bs,k.next<=d.c.P/\k.wear<=d.c.W/\k.bad=decide (k.wear=d.c.W)
 after:(d.after:Int)<=9223372036854775807
 torn: ∀t∈d.torn,t.meant.length=d.c.S/\t.image.length=d.c.S
structure PT where
 b:Nat
 p:Nat
 m:PG
 i:PG
def PT.enc(t:PT):List Value:=[.i t.b,.i t.p,t.m.val,t.i.val]
theorem PT.enc_len(t:PT):t.enc.length=4:=rfl
def PT.tn(t:PT):Tn:=⟨t.b,t.p,t.m.l,t.i.l⟩
def N8(l:List PT):A4:=l.flatMap fun t=>t.m.seg++t.i.seg
theorem Be0(a b:List PT):N8 (a++b)=N8 a++N8 b:=List.flatMap_append
theorem B67(t:PT):N8 [t]=t.m.seg++t.i.seg:=by simp[N8]
def F3(l:List PB):A4:=l.flatMap PB.objs
theorem M7(a b:List PB):F3 (a++b)=F3 a++F3 b:=List.flatMap_append
theorem Q0(a:PB)(b:List PB):F3 (a::b)=a.objs++F3 b:=rfl
structure FHs(m:Nat)(d:Dev)(bv:SlV)(bseg:A4)(bs:List PB)(tv:SlV)(tseg:A4)(ts:List PT):Prop where
 ob:Own bv 1 ePb (bs.map pbp) bseg
 okb: ∀b∈bs,b.Ok
 hb:bs.map PB.blk=d.bs
 ot:Own tv 4 eT (ts.flatMap PT.enc) tseg
 okt: ∀t∈ts,t.m.Ok/\t.i.Ok
 ht:ts.map PT.tn=d.torn
def fL(m:Nat)(d:Dev)(bv:SlV)(bseg:A4)(bs:List PB)(tv:SlV)(tseg:A4)(ts:List PT):A4:=fO m d bv tv::(bseg++(F3 bs++(tseg++N8 ts)))
def FH(m:Nat)(d:Dev)(A:A4):Prop:= ∃bv bseg bs tv tseg ts,A=fL m d bv bseg bs tv tseg ts/\FHs m d bv bseg bs tv tseg ts
def G3(d:Dev)(b:Int):Option Blk:=if 0<=b then d.bs[b.toNat]? else none
def R5(d:Dev)(b:Int):Int:=((G3 d b).elim 0 fun k=>k.next:Nat)
def S3(d:Dev)(b:Int):Int:=((G3 d b).elim 0 fun k=>k.wear:Nat)
def Bc5(d:Dev)(b:Int):Bool:=(G3 d b).elim false fun k=>k.bad
theorem Bc6{d:Dev}{bs:List PB}(h:bs.map PB.blk=d.bs)(b:Int):(Bm9 bs b=none/\G3 d b=none)\/ ∃(i:Nat) (hi:i<bs.length),b=i/\Bm9 bs b=some ⟨bs[i].id,0,none⟩/\G3 d b=some bs[i].blk:=by
 by_cases hb:0<=b/\b<bs.length
 ·right
  obtain⟨i,rfl⟩: ∃i:Nat,b=i:=⟨b.toNat,by omega⟩
  have hi:i<bs.length:=by omega
  refine⟨i,hi,rfl,Ag1 hi,?_⟩
  unfold G3
  rw[if_pos (by omega),Int.toNat_natCast,<-h,List.getElem?_map,List.getElem?_eq_getElem hi];rfl
 ·left
  refine⟨Ax2 hb,?_⟩
  have hl:d.bs.length=bs.length:=by rw[<-h,List.length_map]
  unfold G3
  split
  ·rw[List.getElem?_eq_none (by omega)]
  ·rfl
theorem Da8{bs:List PB}{i:Nat}(hi:i<bs.length):bs[i].obj∈F3 bs:=List.mem_flatMap.2 ⟨bs[i],List.getElem_mem hi,List.mem_cons_self⟩
section
variable {m:Nat} {d:Dev} {bv:SlV} {bseg:A4} {bs:List PB} {tv:SlV} {tseg:A4} {ts:List PT}
theorem B44:fO m d bv tv∈fL m d bv bseg bs tv tseg ts:=List.mem_cons_self
theorem FHs.sl(h:FHs m d bv bseg bs tv tseg ts):Sl (fL m d bv bseg bs tv tseg ts) bv 1 (bs.map pbp):=h.ob.sl.left.cons
theorem FHs.few(h:FHs m d bv bseg bs tv tseg ts)(ok:Q3 d):bs.length<=16:=by
 have h1:=ok.len
 have h2:=ok.c.b
 rw[<-h.hb,List.length_map]at h1
 omega
theorem fL_b{i:Nat}(hi:i<bs.length):bs[i].obj∈fL m d bv bseg bs tv tseg ts:=List.mem_cons_of_mem _ (List.mem_append_right _ (List.mem_append_left _ (Da8 hi)))
end
theorem Db0(m:Nat)(d:Dev)(A:A4)(h:FH m d A)(ok:Q3 d)(b:Int):Reads PP 82 #[.q (some ⟨m,0,none⟩),.i b] A (.i (R5 d b)):=by
 obtain⟨bv,bseg,bs,tv,tseg,ts,rfl,h⟩:=h
 refine Reads.of (args:=[.q (some ⟨m,0,none⟩),.i b]) B5 B6 Tryz.func82 (e82 (some ⟨m,0,none⟩) b _) ?_
 unfold t82 R5
 have:=h.few ok
 refine B7 (Cz1 _ m d bv tv B44 bs h.sl (by omega) b) (Bm9 bs b,()) rfl ?_
 rcases Bc6 h.hb b with⟨h1,h2⟩|⟨i,hi,rfl,h1,h2⟩
 ·rw[h1,h2];exact ifF rfl (.of ⟨rfl,rfl⟩)
 ·rw[h1,h2];exact ifT rfl (A5 rfl (A6 (bs[i].next:Int) (Cl4 (fL_b hi)) (.of ⟨rfl,rfl⟩)))
theorem C56(m:Nat)(d:Dev)(A:A4)(h:FH m d A)(ok:Q3 d)(b:Int):Reads PP 16 #[.q (some ⟨m,0,none⟩),.i b] A (.i (S3 d b)):=by
 obtain⟨bv,bseg,bs,tv,tseg,ts,rfl,h⟩:=h
 refine Reads.of (args:=[.q (some ⟨m,0,none⟩),.i b]) B5 B6 Tryz.func16 (e16 (some ⟨m,0,none⟩) b _) ?_
 unfold t16 S3
 have:=h.few ok
 refine B7 (Cz1 _ m d bv tv B44 bs h.sl (by omega) b) (Bm9 bs b,()) rfl ?_
 rcases Bc6 h.hb b with⟨h1,h2⟩|⟨i,hi,rfl,h1,h2⟩
 ·rw[h1,h2];exact ifF rfl (.of ⟨rfl,rfl⟩)
 ·rw[h1,h2];exact ifT rfl (A5 rfl (A6 (bs[i].wear:Int) (b_wear (fL_b hi)) (.of ⟨rfl,rfl⟩)))
theorem C43(m:Nat)(d:Dev)(A:A4)(h:FH m d A)(ok:Q3 d)(b:Int):Reads PP 15 #[.q (some ⟨m,0,none⟩),.i b] A (.b (Bc5 d b)):=by
 obtain⟨bv,bseg,bs,tv,tseg,ts,rfl,h⟩:=h
 refine Reads.of (args:=[.q (some ⟨m,0,none⟩),.i b]) B5 B6 Tryz.func15 (e15 (some ⟨m,0,none⟩) b _) ?_
 unfold t15 Bc5
 have:=h.few ok
 refine B7 (Cz1 _ m d bv tv B44 bs h.sl (by omega) b) (Bm9 bs b,()) rfl ?_
 rcases Bc6 h.hb b with⟨h1,h2⟩|⟨i,hi,rfl,h1,h2⟩
 ·rw[h1,h2];exact ifF rfl (.of ⟨rfl,rfl⟩)
 ·rw[h1,h2];exact ifT rfl (A5 rfl (A6 bs[i].bad (Cz0 (fL_b hi)) (.of ⟨rfl,rfl⟩)))
theorem Cx9(m:Nat)(d:Dev)(A:A4)(h:FH m d A):Reads PP 22 #[.q (some ⟨m,0,none⟩)] A (.i d.bytes):=by
 obtain⟨bv,bseg,bs,tv,tseg,ts,rfl,h⟩:=h
 refine Reads.of (args:=[.q (some ⟨m,0,none⟩)]) B5 B6 Tryz.func22 (e22 (some ⟨m,0,none⟩) _) ?_
 unfold t22
 exact ifF rfl (A5 rfl (A6 d.bytes (Ci0 B44) (.of ⟨rfl,rfl⟩)))
theorem Cj4(m:Nat)(d:Dev)(A:A4)(h:FH m d A):Reads PP 18 #[.q (some ⟨m,0,none⟩)] A (.b d.down):=by
 obtain⟨bv,bseg,bs,tv,tseg,ts,rfl,h⟩:=h
 refine Reads.of (args:=[.q (some ⟨m,0,none⟩)]) B5 B6 Tryz.func18 (e18 (some ⟨m,0,none⟩) _) ?_
 unfold t18
 exact ifT rfl (A5 rfl (A6 d.down (Ch9 B44) (.of ⟨rfl,rfl⟩)))
def cfV(c:Cfg):Value:=.agg #[.i c.B,.i c.P,.i c.S,.i c.W]
theorem An5(m:Nat)(d:Dev)(A:A4)(h:FH m d A):CallF PP 93 #[.q (some ⟨m,0,none⟩)] A fun r L'=>r=cfV d.c/\L'=A:=by
 obtain⟨bv,bseg,bs,tv,tseg,ts,rfl,h⟩:=h
 refine CallF.of (args:=[.q (some ⟨m,0,none⟩)]) B5 B6 Tryz.func93 (e93 (some ⟨m,0,none⟩) _) ?_
 unfold t93
 refine C3 fun n _=>ifF rfl (A5 rfl ?_)
 refine A6 ((d.c.B:Int),(d.c.P:Int),(d.c.S:Int),(d.c.W:Int),()) (f_cfg (List.mem_cons_of_mem _ B44)) ?_
 refine E3 (n:=n) (off:=0) (c:=#[.i 0,.i 0,.i 0,.i 0]) (T:=23) (fz:=(0,0)) [] _ rfl rfl (by simp) (.inl (Nat.le_refl _)) #[.i d.c.B,.i d.c.P,.i d.c.S,.i d.c.W] rfl ?_
 refine A6 ((d.c.B:Int),(d.c.P:Int),(d.c.S:Int),(d.c.W:Int),()) (ldB List.mem_cons_self rfl) ?_
 exact .cons (.of ⟨rfl,rfl⟩)
def arm(d:Dev)(n k:Int):Dev:=if d.down then d else{d with after:=n.toNat,keep:=k}
theorem arm_cl(m:Nat)(d:Dev)(A:A4)(h:FH m d A)(n k:Int):CallF PP 12 #[.q (some ⟨m,0,none⟩),.i n,.i k] A fun r L'=>r= .t #[]/\FH m (arm d n k) L':=by
 obtain⟨bv,bseg,bs,tv,tseg,ts,rfl,h⟩:=h
 refine CallF.of (args:=[.q (some ⟨m,0,none⟩),.i n,.i k]) B5 B6 Tryz.func12 (e12 (some ⟨m,0,none⟩) n k _) ?_
 unfold t12 arm
 refine ifT rfl (A5 rfl (A6 d.down (Ch9 B44) ?_))
 rcases Bool.eq_false_or_eq_true d.down with hd|hd
 ·rw[if_pos hd]
  exact ifF (by simp only[hd];rfl) (.of ⟨rfl,bv,bseg,bs,tv,tseg,ts,rfl,h⟩)
 ·rw[if_neg (by rw[hd];decide)]
  have hn:Z6 n 0=(n.toNat:Int):=by unfold Z6;omega
  refine ifT (by simp only[hd];rfl) (A5 rfl ?_)
  rw[hn]
  refine E3 (n:=m) (off:=0) (c:=#[.i d.after,.i d.keep,.b d.down,.i d.c.B,.i d.c.P,.i d.c.S,.i d.c.W,.slice bv.a bv.len bv.cap,.i d.bytes,.slice tv.a tv.len tv.cap]) (T:=tFl) (fz:=(0,0)) [] _ rfl rfl (by simp) (.inl (Nat.le_refl _))
   #[.i (n.toNat:Int),.i d.keep,.b d.down,.i d.c.B,.i d.c.P,.i d.c.S,.i d.c.W,.slice bv.a bv.len bv.cap,.i d.bytes,.slice tv.a tv.len tv.cap] rfl (A5 rfl ?_)
  refine E3 (n:=m) (off:=1) (T:=tFl) (fz:=(0,0)) [] _ rfl rfl (by simp) (.inl (Nat.le_refl _))
   #[.i (n.toNat:Int),.i k,.b d.down,.i d.c.B,.i d.c.P,.i d.c.S,.i d.c.W,.slice bv.a bv.len bv.cap,.i d.bytes,.slice tv.a tv.len tv.cap] rfl ?_
  exact .of ⟨rfl,bv,bseg,bs,tv,tseg,ts,rfl,⟨h.ob,h.okb,h.hb,h.ot,h.okt,h.ht⟩⟩
def W0(d:Dev):Dev:={d with down:=false,after:=0}
theorem B23(m:Nat)(d:Dev)(A:A4)(h:FH m d A):CallF PP 38 #[.q (some ⟨m,0,none⟩)] A fun r L'=>r= .t #[]/\FH m (W0 d) L':=by
 obtain⟨bv,bseg,bs,tv,tseg,ts,rfl,h⟩:=h
 refine CallF.of (args:=[.q (some ⟨m,0,none⟩)]) B5 B6 Tryz.func38 (e38 (some ⟨m,0,none⟩) _) ?_
 unfold t38 W0
 refine ifT rfl (A5 rfl ?_)
 refine E3 (n:=m) (off:=2) (c:=#[.i d.after,.i d.keep,.b d.down,.i d.c.B,.i d.c.P,.i d.c.S,.i d.c.W,.slice bv.a bv.len bv.cap,.i d.bytes,.slice tv.a tv.len tv.cap]) (T:=tFl) (fz:=(0,0)) [] _ rfl rfl (by simp) (.inl (Nat.le_refl _))
  #[.i d.after,.i d.keep,.b false,.i d.c.B,.i d.c.P,.i d.c.S,.i d.c.W,.slice bv.a bv.len bv.cap,.i d.bytes,.slice tv.a tv.len tv.cap] rfl (A5 rfl ?_)
 refine E3 (n:=m) (off:=0) (T:=tFl) (fz:=(0,0)) [] _ rfl rfl (by simp) (.inl (Nat.le_refl _))
  #[.i 0,.i d.keep,.b false,.i d.c.B,.i d.c.P,.i d.c.S,.i d.c.W,.slice bv.a bv.len bv.cap,.i d.bytes,.slice tv.a tv.len tv.cap] rfl ?_
 exact .of ⟨rfl,bv,bseg,bs,tv,tseg,ts,rfl,⟨h.ob,h.okb,h.hb,h.ot,h.okt,h.ht⟩⟩
def M4(d:Dev)(b p:Int):List UInt8×Int:=
 if H8 d b p≠0 then([],H8 d b p)else match d.bs[b.toNat]? with
 |none=>([],2)
 |some k=>if k.bad then(blk d.c.S,0)else(k.pages.getD p.toNat [],0)
theorem Ag8{d:Dev}{b p:Int}(h:H8 d b p=0):d.down=false/\0<=b/\b<d.bs.length/\0<=p/\p<d.c.P:=by
 unfold H8 at h
 split at h
 ·cases h
 ·split at h
  ·cases h
  ·split at h
   ·cases h
   ·rename_i h1 h2 h3
    refine⟨by simpa using h1,?_,?_,?_,?_⟩<;>omega
theorem Bp0(m:Nat)(d:Dev)(A:A4)(h:FH m d A)(ok:Q3 d)(b p:Int):
  CallF PP 181 #[.q (some ⟨m,0,none⟩),.i b,.i p] A fun r L'=> ∃g:PG,r= .t #[g.val,.i (M4 d b p).2]/\L'=g.seg++A/\g.Ok/\g.l=(M4 d b p).1:=by
 obtain⟨bv,bseg,bs,tv,tseg,ts,rfl,h⟩:=h
 refine CallF.of (args:=[.q (some ⟨m,0,none⟩),.i b,.i p]) B5 B6 Tryz.func181 (e181 (some ⟨m,0,none⟩) b p _) ?_
 unfold t181
 have hfew:=h.few ok
 have hP:=ok.c.p
 have hS:=ok.c.s
 refine B7 (Br9 _ m d bv tv B44 bs h.sl (by omega) h.hb (by omega) b p) (if H8 d b p=0 then Bm9 bs b else none,H8 d b p,()) rfl ?_
 refine O2 (fun(he:H8 d b p≠0)=>?_) (fun(he:H8 d b p=0)=>?_)
 ·have hr:M4 d b p=([],H8 d b p):=by unfold M4;rw[if_pos he]
  rw[hr]
  exact .of ⟨pg0,rfl,rfl,Bg6,rfl⟩
 obtain⟨hdn,hb0,hb1,hp0,hp1⟩:=Ag8 he
 obtain⟨i,rfl⟩: ∃i:Nat,b=i:=⟨b.toNat,by omega⟩
 obtain⟨q,rfl⟩: ∃q:Nat,p=q:=⟨p.toNat,by omega⟩
 have hbl:d.bs.length=bs.length:=by rw[<-h.hb,List.length_map]
 have hi:i<bs.length:=by omega
 have hk:d.bs[i]?=some bs[i].blk:=by rw[<-h.hb,List.getElem?_map,List.getElem?_eq_getElem hi];rfl
 have hmk:bs[i].blk∈d.bs:=List.mem_of_getElem? hk
 rw[if_pos he,Ag1 hi]
 refine A5 rfl (A6 bs[i].bad (Cz0 (fL_b hi)) ?_)
 refine G7 (fun(hbad:bs[i].bad=true)=>?_) (fun(hbad:bs[i].bad=false)=>?_)
 ·have hr:M4 d i q=(blk d.c.S,0):=by
   unfold M4
   rw[if_neg (by simpa using he),Int.toNat_natCast,hk]
   show(if bs[i].bad=true then _ else _)=_
   rw[if_pos hbad]
  rw[hr]
  refine A5 rfl (A6 (d.c.S:Int) (f_S B44) ?_)
  refine J5 [] (fL m d bv bseg bs tv tseg ts) (Bc4 d.c.S (by omega)) rfl ?_
  rintro _ _-⟨g,rfl,rfl,hg,hgl⟩
  exact⟨(g.v,()),rfl,.of ⟨g,rfl,rfl,hg,hgl⟩⟩
 ·have hpl:=(ok.pg _ hmk).1
  have hpl':bs[i].ps.length=d.c.P:=by rw[<-hpl];simp[PB.blk]
  have hq:q<bs[i].ps.length:=by omega
  have hr:M4 d i q=(bs[i].ps[q].l,0):=by
   unfold M4
   rw[if_neg (by simpa using he),Int.toNat_natCast,Int.toNat_natCast,hk]
   show(if bs[i].bad=true then _ else((bs[i].ps.map PG.l).getD q [],(0:Int)))=_
   rw[if_neg (by rw[hbad];decide),List.getD_eq_getElem?_getD,List.getElem?_map,List.getElem?_eq_getElem hq];rfl
  rw[hr]
  have hbi:=h.okb _ (List.getElem_mem hi)
  have hsub: ∀x∈bs[i].objs,x∈fL m d bv bseg bs tv tseg ts:=fun x hx=>List.mem_cons_of_mem _ (List.mem_append_right _ (List.mem_append_left _ (List.mem_flatMap.2 ⟨bs[i],List.getElem_mem hi,hx⟩)))
  have hpsl:Sl (fL m d bv bseg bs tv tseg ts) bs[i].v 1 (bs[i].ps.map PG.val):=Sl.mono (hbi.own.sl.left.cons (p:=bs[i].obj)) hsub
  have hgo:=hbi.ps _ (List.getElem_mem hq)
  have hgsl:BSl (fL m d bv bseg bs tv tseg ts) bs[i].ps[q].v bs[i].ps[q].l:=Sl.mono hgo.sl fun x hx=>hsub x (List.mem_cons_of_mem _ (List.mem_append_right _ (List.mem_flatMap.2 ⟨_,List.getElem_mem hq,hx⟩)))
  have hgl:bs[i].ps[q].l.length=d.c.S:=(ok.pg _ hmk).2 _ (List.mem_map.2 ⟨_,List.getElem_mem hq,rfl⟩)
  have hvl:=hpsl.len
  rw[List.length_map]at hvl
  obtain⟨a,ha,hld⟩:=hpsl.at' (i:=q) (by omega) (by decide)
  refine C3 fun n _=>A5 rfl (A6 bs[i].v (b_ps (List.mem_cons_of_mem _ (fL_b hi))) (A5 ha (E0 (show(0:Int)<=q by omega) (show(q:Int)<bs[i].v.len by omega) ?_)))
  refine A6 bs[i].ps[q].v ((hld.one ((q:Int).toNat*1) (v:=bs[i].ps[q].val) (by rw[Int.toNat_natCast,Nat.mul_one,List.getElem?_map,List.getElem?_eq_getElem hq];rfl)).mono fun x hx=>List.mem_cons_of_mem _ hx) ?_
  refine E6 An3 Cp1 [] (fL m d bv bseg bs tv tseg ts) Ag4 rfl (.sl hgsl.cons) (K5 _) (by rw[hgsl.len];simp only;omega) fun v' seg' hv' own'=>?_
  rw[List.nil_append]at own'⊢
  exact .of ⟨⟨v',seg',bs[i].ps[q].l⟩,rfl,rfl,own',rfl⟩
def Blk.put(k:Blk)(p:Nat)(l:List UInt8):Blk:={k with pages:=k.pages.set p l,next:=p+1}
def J6(d:Dev):Dev:={d with bytes:=IntKind.i64.wrap (d.bytes+d.c.S)}
def M2(d:Dev)(data:List UInt8):List UInt8:=data.take (Q5 d.keep d.c.S)++blk (d.c.S-Q5 d.keep d.c.S)
def As2(d:Dev)(i p:Nat)(k:Blk)(data:List UInt8):Int×Dev:=
 if(Z4 (J6 d)).1 then(11,{(Z4 (J6 d)).2 with bs:=d.bs.set i (k.put p (M2 d data)),torn:=d.torn++[⟨i,p,data,M2 d data⟩]})
 else(0,{(Z4 (J6 d)).2 with bs:=d.bs.set i (k.put p data)})
def prog(d:Dev)(b p:Int)(data:List UInt8):Int×Dev:=
 if H8 d b p≠0 then(H8 d b p,d)else if data.length≠d.c.S then(2,d)else
 match d.bs[b.toNat]? with
 |none=>(2,d)
 |some k=>if k.bad then(10,d)else if(k.next:Int)≠p then(9,d)else As2 d b.toNat p.toNat k data
theorem Bv4(pre post:List PB)(x:PB):Bm9 (pre++x::post) (pre.length:Int)=some ⟨x.id,0,none⟩:=by
 rw[Ag1 (by simp)]
 simp
theorem B26(m:Nat)(d:Dev)(A R:A4)(h:FH m d A)(ok:Q3 d)(hf:d.torn.length<=1048576)(b p:Int)(u:SlV)(data:List UInt8)(hu:BSl R u data):
  CallF PP 257 #[.q (some ⟨m,0,none⟩),.i b,.i p,.slice u.a u.len u.cap] (A++R) fun r L'=> ∃A',L'=A'++R/\r= .i (prog d b p data).1/\FH m (prog d b p data).2 A':=by
 have hA:=h
 obtain⟨bv,bseg,bs,tv,tseg,ts,rfl,h⟩:=h
 refine CallF.of (args:=[.q (some ⟨m,0,none⟩),.i b,.i p,.slice u.a u.len u.cap]) B5 B6 Tryz.func257 (e257 (some ⟨m,0,none⟩) b p u _) ?_
 unfold t257
 have hfew:=h.few ok
 have hP:=ok.c.p
 have hS:=ok.c.s
 have hul:=hu.len
 refine B7 (Br9 _ m d bv tv (List.mem_append_left _ B44) bs h.sl.left (by omega) h.hb (by omega) b p) (if H8 d b p=0 then Bm9 bs b else none,H8 d b p,()) rfl ?_
 refine O2 (fun(he:H8 d b p≠0)=>?_) (fun(he:H8 d b p=0)=>?_)
 ·have hr:prog d b p data=(H8 d b p,d):=by unfold prog;rw[if_pos he]
  rw[hr]
  exact .of ⟨_,rfl,rfl,hA⟩
 refine A5 rfl (A6 (d.c.S:Int) (f_S (List.mem_append_left _ B44)) ?_)
 refine O2 (fun(hs:(u.len:Int)≠(d.c.S:Int))=>?_) (fun(hs:(u.len:Int)=(d.c.S:Int))=>?_)
 ·have hr:prog d b p data=(2,d):=by unfold prog;rw[if_neg (by simpa using he),if_pos (by omega)]
  rw[hr]
  exact .of ⟨_,rfl,rfl,hA⟩
 have hdl:data.length=d.c.S:=by omega
 obtain⟨hdn,hb0,hb1,hp0,hp1⟩:=Ag8 he
 obtain⟨i,rfl⟩: ∃i:Nat,b=i:=⟨b.toNat,by omega⟩
 obtain⟨q,rfl⟩: ∃q:Nat,p=q:=⟨p.toNat,by omega⟩
 have hbl:d.bs.length=bs.length:=by rw[<-h.hb,List.length_map]
 have hi:i<bs.length:=by omega
 obtain⟨pre,x,post,rfl,rfl⟩: ∃pre x post,bs=pre++x::post/\pre.length=i:=⟨bs.take i,bs[i],bs.drop (i+1),by rw[<-List.drop_eq_getElem_cons hi,List.take_append_drop],by rw[List.length_take];omega⟩
 have hk:d.bs[pre.length]?=some x.blk:=by rw[<-h.hb,List.getElem?_map];simp
 have hset: ∀y:PB,(pre++y::post).map PB.blk=d.bs.set pre.length y.blk:=fun y=>by rw[<-h.hb];simp
 have hmk:x.blk∈d.bs:=List.mem_of_getElem? hk
 have hpr:prog d (pre.length:Int) (q:Int) data=if x.bad then(10,d)else if(x.next:Int)≠(q:Int)then(9,d)else As2 d pre.length q x.blk data:=by
  unfold prog
  rw[if_neg (by simpa using he),if_neg (by omega),Int.toNat_natCast,Int.toNat_natCast,hk]
  rfl
 have hxm:x.obj∈fL m d bv bseg (pre++x::post) tv tseg ts++R:=List.mem_append_left _ (List.mem_cons_of_mem _ (List.mem_append_right _ (List.mem_append_left _ (by rw[M7,Q0];exact List.mem_append_right _ (List.mem_append_left _ List.mem_cons_self)))))
 rw[if_pos he,Bv4]
 refine A5 rfl (A6 x.bad (Cz0 hxm) ?_)
 refine G7 (fun(hbad:x.bad=true)=>?_) (fun(hbad:x.bad=false)=>?_)
 ·rw[hpr,if_pos hbad]
  exact .of ⟨_,rfl,rfl,hA⟩
 refine A5 rfl (A6 (x.next:Int) (Cl4 hxm) ?_)
 refine O2 (fun(hn:(x.next:Int)≠(q:Int))=>?_) (fun(hn:(x.next:Int)=(q:Int))=>?_)
 ·rw[hpr,if_neg (by rw[hbad];decide),if_pos hn]
  exact .of ⟨_,rfl,rfl,hA⟩
 rw[hpr,if_neg (by rw[hbad];decide),if_neg (by omega)]
 clear hpr hA
 refine A5 rfl (A6 (d.c.S:Int) (f_S (List.mem_append_left _ B44)) ?_)
 have hok:=h.okb x (by simp)
 have hpl:=(ok.pg _ hmk).1
 have hpl':x.ps.length=d.c.P:=by rw[<-hpl];simp[PB.blk]
 have hq:q<x.ps.length:=by omega
 obtain⟨D,g0,E,hps,hDl⟩: ∃D g0 E,x.ps=D++g0::E/\D.length=q:=⟨x.ps.take q,x.ps[q],x.ps.drop (q+1),by rw[<-List.drop_eq_getElem_cons hq,List.take_append_drop],by rw[List.length_take];omega⟩
 have hL:fL m d bv bseg (pre++x::post) tv tseg ts++R=fO m d bv tv::(bseg++(F3 pre++(x.obj::(x.seg++(pgs D++(g0.seg++(pgs E++(F3 post++(tseg++(N8 ts++R)))))))))):=by
  unfold fL
  rw[M7,Q0]
  unfold PB.objs
  rw[hps,P7,Am0]
  simp
 rw[hL]
 clear hL hxm
 refine J5 (fO m d bv tv::(bseg++(F3 pre++(x.obj::(x.seg++pgs D))))) (g0.seg++(pgs E++(F3 post++(tseg++(N8 ts++R))))) (Bc4 d.c.S (by omega)) (by simp) ?_
 rintro _ _-⟨g,rfl,rfl,hg,hgl⟩
 refine⟨(g.v,()),rfl,A5 rfl (A6 x.v (b_ps (by simp)) ?_)⟩
 have hxl:=hok.own.len
 rw[List.length_map]at hxl
 have hxsl:Sl x.seg x.v 1 (x.ps.map PG.val):=hok.own.sl
 obtain⟨xa,hxa,-⟩:=hxsl.at' (i:=q) (by omega) (by decide)
 refine A5 hxa (E0 (show(0:Int)<=q by omega) (show(q:Int)<x.v.len by omega) ?_)
 refine hok.own.st (p:=q) (ws:=[g.val]) (fO m d bv tv::(bseg++(F3 pre++[x.obj]))) (pgs D++(g.seg++(g0.seg++(pgs E++(F3 post++(tseg++(N8 ts++R))))))) (by rw[List.length_map,List.length_singleton];omega) (by simp) hxa (by rw[Int.toNat_natCast,Nat.mul_one]) (by simp) fun xs xown=>?_
 rw[Al7 (by rw[List.length_map];omega)]at xown
 have hvals: ∀v,(x.ps.map PG.val).set q v=(D.map PG.val)++v::(E.map PG.val):=by
  intro v
  rw[hps,List.map_append,List.set_append,if_neg (by simp[hDl]),List.length_map,hDl,Nat.sub_self,List.map_cons,List.set_cons_zero]
 rw[hvals]at xown
 have hnx:IntKind.i64.wrap ((x.next:Int)+1)=((q+1:Nat):Int):=by rw[C2 (by omega) (by omega)];omega
 refine A5 rfl (A6 (x.next:Int) (Cl4 (by simp)) (A5 rfl ?_))
 simp only[hnx]
 refine E3 (n:=x.id) (off:=1) (c:=#[.slice x.v.a x.v.len x.v.cap,.i x.next,.i x.wear,.b x.bad]) (T:=tBk) (fz:=(0,0)) (fO m d bv tv::(bseg++F3 pre)) (xs++(pgs D++(g.seg++(g0.seg++(pgs E++(F3 post++(tseg++(N8 ts++R)))))))) rfl (by simp[PB.obj]) (by simp) (.inl (Nat.le_refl _))
  #[.slice x.v.a x.v.len x.v.cap,.i ((q+1:Nat):Int),.i x.wear,.b x.bad] rfl ?_
 have hox:((x.id,Obj.cells #[.slice x.v.a x.v.len x.v.cap,.i ((q+1:Nat):Int),.i x.wear,.b x.bad] tBk):Nat×Obj)=({x with next:=q+1}:PB).obj:=rfl
 rw[hox]
 refine A5 rfl (A5 rfl (A6 d.bytes (Ci0 (m:=m) (bv:=bv) (tv:=tv) (by simp)) (A6 (d.c.S:Int) (f_S (m:=m) (bv:=bv) (tv:=tv) (by simp)) (A5 rfl ?_))))
 refine E3 (n:=m) (off:=8) (c:=#[.i d.after,.i d.keep,.b d.down,.i d.c.B,.i d.c.P,.i d.c.S,.i d.c.W,.slice bv.a bv.len bv.cap,.i d.bytes,.slice tv.a tv.len tv.cap]) (T:=tFl) (fz:=(0,0)) [] (bseg++(F3 pre++(({x with next:=q+1}:PB).obj::(xs++(pgs D++(g.seg++(g0.seg++(pgs E++(F3 post++(tseg++(N8 ts++R))))))))))) rfl (by simp[fO]) (by simp) (.inl (Nat.le_refl _))
  #[.i d.after,.i d.keep,.b d.down,.i d.c.B,.i d.c.P,.i d.c.S,.i d.c.W,.slice bv.a bv.len bv.cap,.i (IntKind.i64.wrap (d.bytes+d.c.S)),.slice tv.a tv.len tv.cap] rfl (A5 rfl ?_)
 rw[List.nil_append]
 refine J5 [] (bseg++(F3 pre++(({x with next:=q+1}:PB).obj::(xs++(pgs D++(g.seg++(g0.seg++(pgs E++(F3 post++(tseg++(N8 ts++R))))))))))) (Bt6 m (J6 d) bv tv ok.after) rfl ?_
 rintro _ _-⟨rfl,rfl⟩
 refine⟨((Z4 (J6 d)).1,()),rfl,?_⟩
 unfold As2
 obtain⟨hc2,hb2,hk2,hy2,ht2⟩:=Aq6 (J6 d)
 generalize hd2:Z4 (J6 d)=tt at hc2 hb2 hk2 hy2 ht2⊢
 obtain⟨t,d2⟩:=tt
 simp only at hc2 hb2 hk2 hy2 ht2⊢
 have hgv:g.v.len=d.c.S:=by have:=hg.sl.len;rw[E7,hgl,blk,List.length_replicate]at this;omega
 obtain⟨ga,hga⟩:=BSl.some (L:=g.seg) hg.sl (i:=0) (by rw[hgl,blk,List.length_replicate];omega)
 unfold PG.Ok at hg
 rw[hgl]at hg
 have hus: ∀X:A4,BSl (X++R) u data:=fun X=>hu.right
 have hfin: ∀(l:List UInt8) (segg:A4),Own g.v 1 eB (bvs l) segg->({x with seg:=xs,ps:=D++⟨g.v,segg,l⟩::E,next:=q+1}:PB).Ok:=by
  intro l segg ho
  refine⟨?_,fun y hy=>?_⟩
  ·show Own x.v 1 tB ((D++⟨g.v,segg,l⟩::E).map PG.val) xs
   rw[List.map_append,List.map_cons]
   exact xown
  ·have hy':y∈D\/y=⟨g.v,segg,l⟩\/y∈E:=by simpa using hy
   rcases hy' with h1|rfl|h1
   ·exact hok.ps y (by rw[hps];simp[h1])
   ·exact ho
   ·exact hok.ps y (by rw[hps];simp[h1])
 have hblk: ∀(l:List UInt8) (segg:A4),({x with seg:=xs,ps:=D++⟨g.v,segg,l⟩::E,next:=q+1}:PB).blk=x.blk.put q l:=by
  intro l segg
  unfold PB.blk Blk.put
  simp only
  rw[hps]
  congr 1
  rw[List.map_append,List.map_append,List.set_append,if_neg (by simp[hDl]),List.length_map,hDl,Nat.sub_self,List.map_cons,List.map_cons,List.set_cons_zero]
 have hokb: ∀y:PB,y.Ok-> ∀z∈pre++y::post,z.Ok:=by
  intro y hy z hz
  have hz':z∈pre\/z=y\/z∈post:=by simpa using hz
  rcases hz' with h1|rfl|h1
  ·exact h.okb z (by simp[h1])
  ·exact hy
  ·exact h.okb z (by simp[h1])
 have hobp: ∀y:PB,y.id=x.id->Own bv 1 ePb ((pre++y::post).map pbp) bseg:=by
  intro y hy
  have:(pre++y::post).map pbp=(pre++x::post).map pbp:=by simp[pbp,hy]
  rw[this];exact h.ob
 cases t with
 |false=>
  refine ifT rfl ?_
  rw[if_neg (by decide)]
  refine Au3 (T:=eB) (sz:=1) (l:=0) (v:=g.v) (a:=ga) undB (by kernel_rfl) (fO m d2 bv tv::(bseg++(F3 pre++(({x with next:=q+1}:PB).obj::(xs++pgs D))))) (g0.seg++(pgs E++(F3 post++(tseg++(N8 ts++R))))) hg (by simp) hga (d:=g.v) (by rw[hga];rfl) (by omega) (u:=u) (ws:=bvs data) ?_ (K5 _) fun segg owng=>?_
  ·have:=hus (fO m d2 bv tv::(bseg++(F3 pre++(({x with next:=q+1}:PB).obj::(xs++(pgs D++(g.seg++(g0.seg++(pgs E++(F3 post++(tseg++N8 ts)))))))))))
   simpa using this
  have hbb:A18 (bvs (blk d.c.S)) (0*1) ((bvs data).take (min u.len g.v.len*1))=bvs data:=by
   rw[Bz5,Bc1,List.take_of_length_le (l:=data) (by omega),Nat.zero_mul,List.take_zero,List.nil_append,List.drop_of_length_le (by rw[blk,List.length_replicate];omega),List.append_nil]
  rw[hbb]at owng
  refine .drop (A:=fL m {d2 with bs:=d.bs.set pre.length (x.blk.put q data)} bv bseg (pre++({x with seg:=xs,ps:=D++⟨g.v,segg,data⟩::E,next:=q+1}:PB)::post) tv tseg ts++R) (J:=g0.seg)
   ⟨_,rfl,rfl,bv,bseg,_,tv,tseg,ts,rfl,hobp _ rfl,hokb _ (hfin _ _ owng),?_,h.ot,h.okt,?_⟩ ?_
  ·rw[hset,hblk]
  ·simp only;rw[ht2];exact h.ht
  ·unfold fL
   rw[M7,Q0]
   unfold PB.objs
   simp only
   rw[P7,Am0]
   have ho1:({x with seg:=xs,ps:=D++⟨g.v,segg,data⟩::E,next:=q+1}:PB).obj=({x with next:=q+1}:PB).obj:=rfl
   have ho2:fO m {d2 with bs:=d.bs.set pre.length (x.blk.put q data)} bv tv=fO m d2 bv tv:=rfl
   rw[ho1,ho2]
   generalize ({x with next:=q+1}:PB).obj=ox
   generalize fO m d2 bv tv=of
   classical
   rw[List.perm_iff_count]
   intro z
   simp only[List.append_eq,List.cons_append,List.count_append,List.count_cons,List.count_nil]
   omega
 |true=>
  refine ifF rfl (A5 rfl (A5 rfl ?_))
  rw[if_pos rfl]
  have hcS:d2.c.S=d.c.S:=by rw[hc2];rfl
  have hkk:d2.keep=d.keep:=hk2
  have ht2':d2.torn=d.torn:=ht2
  refine A6 (d2.c.S:Int) (f_S (m:=m) (bv:=bv) (tv:=tv) (by simp)) ?_
  rw[hcS]
  refine B7 (Ce8 _ m d2 bv tv (by simp) d.c.S) ((Q5 d2.keep d.c.S:Int),()) rfl ?_
  rw[show Q5 d2.keep d.c.S=Q5 d.keep d.c.S by rw[hkk]]
  have hkp:Q5 d.keep d.c.S<=d.c.S:=by unfold Q5;omega
  have hcap:=hu.cap
  refine K4 (l':=0) (h':=Q5 d.keep d.c.S) (m':=u.cap) rfl rfl rfl (by omega) (by omega) (Nat.le_refl _) ?_
  have hss: ∀X:A4,Sl (X++R) (P1 u (0:Nat) (Q5 d.keep d.c.S:Nat) (u.cap:Nat) 1) 1 (bvs (data.take (Q5 d.keep d.c.S))):=by
   intro X
   have:=(hus X).slc (l:=0) (h':=Q5 d.keep d.c.S) (m:=u.cap) (by decide) (by omega) (by omega) (by omega)
   rw[Ah1,List.drop_zero,Nat.sub_zero]at this
   exact this
  generalize P1 u (0:Nat) (Q5 d.keep d.c.S:Nat) (u.cap:Nat) 1=us at hss⊢
  have husl:=(hss []).len
  rw[E7,List.length_take]at husl
  refine Au3 (T:=eB) (sz:=1) (l:=0) (v:=g.v) (a:=ga) undB (by kernel_rfl) (fO m d2 bv tv::(bseg++(F3 pre++(({x with next:=q+1}:PB).obj::(xs++pgs D))))) (g0.seg++(pgs E++(F3 post++(tseg++(N8 ts++R))))) hg (by simp) hga (d:=g.v) (by rw[hga];rfl) (by omega) (u:=us) (ws:=bvs (data.take (Q5 d.keep d.c.S))) ?_ (K5 _) fun segg owng=>?_
  ·have:=hss (fO m d2 bv tv::(bseg++(F3 pre++(({x with next:=q+1}:PB).obj::(xs++(pgs D++(g.seg++(g0.seg++(pgs E++(F3 post++(tseg++N8 ts)))))))))))
   simpa using this
  have hbb:A18 (bvs (blk d.c.S)) (0*1) ((bvs (data.take (Q5 d.keep d.c.S))).take (min us.len g.v.len*1))=bvs (M2 d data):=by
   rw[Bz5,Bc1,List.take_of_length_le (l:=data.take (Q5 d.keep d.c.S)) (by rw[List.length_take];omega),Nat.zero_mul,List.take_zero,List.nil_append,List.length_take]
   unfold M2 blk
   rw[List.drop_replicate,Nat.zero_add,Nat.min_eq_left (by omega)]
  rw[hbb]at owng
  have himl:(M2 d data).length=d.c.S:=by
   unfold M2 blk
   rw[List.length_append,List.length_take,List.length_replicate];omega
  refine A5 rfl (A6 tv (C31 (m:=m) (d:=d2) (bv:=bv) (by simp)) (C3 fun n1 _=>?_))
  have husL:BSl (fO m d2 bv tv::(bseg++(F3 pre++(({x with next:=q+1}:PB).obj::(xs++pgs D))))++segg++(g0.seg++(pgs E++(F3 post++(tseg++(N8 ts++R)))))) u data:=by
   have:=hus (fO m d2 bv tv::(bseg++(F3 pre++(({x with next:=q+1}:PB).obj::(xs++(pgs D++(segg++(g0.seg++(pgs E++(F3 post++(tseg++N8 ts)))))))))))
   simpa using this
  have hgsL:BSl (fO m d2 bv tv::(bseg++(F3 pre++(({x with next:=q+1}:PB).obj::(xs++pgs D))))++segg++(g0.seg++(pgs E++(F3 post++(tseg++(N8 ts++R)))))) g.v (M2 d data):=owng.sl.right.left
  have htoL:D4 ⟨m,9,none⟩ [.slice tv.a tv.len tv.cap] (fO m d2 bv tv::(bseg++(F3 pre++(({x with next:=q+1}:PB).obj::(xs++pgs D))))++segg++(g0.seg++(pgs E++(F3 post++(tseg++(N8 ts++R)))))):=C31 (m:=m) (d:=d2) (bv:=bv) (by simp)
  generalize hLL:fO m d2 bv tv::(bseg++(F3 pre++(({x with next:=q+1}:PB).obj::(xs++pgs D))))++segg++(g0.seg++(pgs E++(F3 post++(tseg++(N8 ts++R)))))=LL at husL hgsL htoL⊢
  refine E6 An3 Cp1 [] LL Ag4 rfl (.sl husL.cons) (K5 _) (by simp only;omega) fun v5 seg5 hv5 own5=>?_
  rw[List.nil_append]at own5⊢
  refine F5 (htoL.mono fun z hz=>List.mem_append_right _ hz) (C3 fun n2 _=>?_)
  refine E6 An3 Cp1 [] (seg5++LL) Ag4 rfl (.sl hgsL.right.cons) (K5 _) (by simp only;omega) fun v6 seg6 hv6 own6=>?_
  rw[List.nil_append]at own6⊢
  refine F5 (htoL.mono fun z hz=>List.mem_append_right _ (List.mem_append_right _ hz)) (C3 fun n3 _=>?_)
  subst hLL
  have htl:ts.length=d.torn.length:=by rw[<-h.ht,List.length_map]
  have htvl:=h.ot.sl.els_len PT.enc_len (by decide)
  refine E6 elemTs srcTs ((n3,Obj.cells #[.i pre.length,.i q,.slice v5.a v5.len v5.cap,.slice v6.a v6.len v6.cap] eT)::(seg6++(seg5++(fO m d2 bv tv::(bseg++(F3 pre++(({x with next:=q+1}:PB).obj::(xs++(pgs D++(segg++(g0.seg++(pgs E++F3 post)))))))))))) (N8 ts++R) h.ot (by simp)
   (n:=1) (ws:=PT.enc ⟨pre.length,q,⟨v5,seg5,data⟩,⟨v6,seg6,M2 d data⟩⟩) (x:=.slice (some ⟨n3,0,none⟩) 1 1) (Src.sl (v:=⟨some ⟨n3,0,none⟩,1,1⟩) ⟨rfl,Nat.le_refl _,.inr ⟨_,rfl,ldB List.mem_cons_self rfl⟩⟩) rfl (by omega) fun v8 seg8 hv8 own8=>?_
  refine A5 rfl ?_
  refine E3 (n:=m) (off:=9) (c:=#[.i d2.after,.i d2.keep,.b d2.down,.i d2.c.B,.i d2.c.P,.i d2.c.S,.i d2.c.W,.slice bv.a bv.len bv.cap,.i d2.bytes,.slice tv.a tv.len tv.cap]) (T:=tFl) (fz:=(0,0)) ((n3,Obj.cells #[.i pre.length,.i q,.slice v5.a v5.len v5.cap,.slice v6.a v6.len v6.cap] eT)::(seg6++seg5)) (bseg++(F3 pre++(({x with next:=q+1}:PB).obj::(xs++(pgs D++(segg++(g0.seg++(pgs E++(F3 post++(seg8++(N8 ts++R))))))))))) rfl (by simp[fO]) (by simp) (.inl (Nat.le_refl _))
   #[.i d2.after,.i d2.keep,.b d2.down,.i d2.c.B,.i d2.c.P,.i d2.c.S,.i d2.c.W,.slice bv.a bv.len bv.cap,.i d2.bytes,.slice v8.a v8.len v8.cap] rfl ?_
  refine .drop (A:=fL m {d2 with bs:=d.bs.set pre.length (x.blk.put q (M2 d data)),torn:=d.torn++[⟨pre.length,q,data,M2 d data⟩]} bv bseg (pre++({x with seg:=xs,ps:=D++⟨g.v,segg,M2 d data⟩::E,next:=q+1}:PB)::post) v8 seg8 (ts++[⟨pre.length,q,⟨v5,seg5,data⟩,⟨v6,seg6,M2 d data⟩⟩])++R) (J:=(n3,Obj.cells #[.i pre.length,.i q,.slice v5.a v5.len v5.cap,.slice v6.a v6.len v6.cap] eT)::g0.seg)
   ⟨_,rfl,rfl,bv,bseg,_,v8,seg8,_,rfl,hobp _ rfl,hokb _ (hfin _ _ owng),?_,?_,?_,?_⟩ ?_
  ·rw[hset,hblk]
  ·rw[List.flatMap_append,List.flatMap_singleton];exact own8
  ·intro z hz
   rcases List.mem_append.1 hz with h1|h1
   ·exact h.okt z h1
   ·rw[List.mem_singleton.1 h1];exact⟨own5,own6⟩
  ·rw[List.map_append,h.ht];rfl
  ·unfold fL
   rw[M7,Q0,Be0,B67]
   unfold PB.objs
   simp only
   rw[P7,Am0]
   have ho1:({x with seg:=xs,ps:=D++⟨g.v,segg,M2 d data⟩::E,next:=q+1}:PB).obj=({x with next:=q+1}:PB).obj:=rfl
   have ho2:fO m {d2 with bs:=d.bs.set pre.length (x.blk.put q (M2 d data)),torn:=d.torn++[⟨pre.length,q,data,M2 d data⟩]} bv v8=(m,Obj.cells #[.i d2.after,.i d2.keep,.b d2.down,.i d2.c.B,.i d2.c.P,.i d2.c.S,.i d2.c.W,.slice bv.a bv.len bv.cap,.i d2.bytes,.slice v8.a v8.len v8.cap] tFl):=rfl
   rw[ho1,ho2]
   generalize ({x with next:=q+1}:PB).obj=ox
   generalize (m,Obj.cells #[.i d2.after,.i d2.keep,.b d2.down,.i d2.c.B,.i d2.c.P,.i d2.c.S,.i d2.c.W,.slice bv.a bv.len bv.cap,.i d2.bytes,.slice v8.a v8.len v8.cap] tFl)=of
   generalize (n3,Obj.cells #[.i pre.length,.i q,.slice v5.a v5.len v5.cap,.slice v6.a v6.len v6.cap] eT)=o3
   classical
   rw[List.perm_iff_count]
   intro z
   simp only[List.append_eq,List.cons_append,List.count_append,List.count_cons,List.count_nil]
   omega
def Blk.torn(k:Blk)(c:Cfg)(n:Nat):Blk:={k with pages:=List.replicate n (blk c.S)++k.pages.drop n,next:=c.P}
def Blk.fresh(k:Blk)(c:Cfg):Blk:=⟨List.replicate c.P (blk c.S),0,k.wear+1,decide (k.wear+1=c.W)⟩
def Aj9(d:Dev)(i:Nat)(k:Blk):Int×Dev:=
 if(Z4 d).1 then(11,{(Z4 d).2 with bs:=d.bs.set i (k.torn d.c (Q5 d.keep d.c.P))})
 else(if k.wear+1=d.c.W then 10 else 0,{(Z4 d).2 with bs:=d.bs.set i (k.fresh d.c)})
def G2(d:Dev)(b:Int):Int×Dev:=
 if H8 d b 0≠0 then(H8 d b 0,d)else
 match d.bs[b.toNat]? with
 |none=>(2,d)
 |some k=>if k.bad then(10,d)else Aj9 d b.toNat k
theorem Cx1(m:Nat)(d:Dev)(A:A4)(h:FH m d A)(ok:Q3 d)(b:Int):
  CallF PP 252 #[.q (some ⟨m,0,none⟩),.i b] A fun r L'=>r= .i (G2 d b).1/\FH m (G2 d b).2 L':=by
 have hA:=h
 obtain⟨bv,bseg,bs,tv,tseg,ts,rfl,h⟩:=h
 refine CallF.of (args:=[.q (some ⟨m,0,none⟩),.i b]) B5 B6 Tryz.func252 (e252 (some ⟨m,0,none⟩) b _) ?_
 unfold t252
 have hfew:=h.few ok
 have hP:=ok.c.p
 have hS:=ok.c.s
 have hW:=ok.c.w
 refine B7 (Br9 _ m d bv tv B44 bs h.sl (by omega) h.hb (by omega) b 0) (if H8 d b 0=0 then Bm9 bs b else none,H8 d b 0,()) rfl ?_
 refine O2 (fun(he:H8 d b 0≠0)=>?_) (fun(he:H8 d b 0=0)=>?_)
 ·have hr:G2 d b=(H8 d b 0,d):=by unfold G2;rw[if_pos he]
  rw[hr]
  exact .of ⟨rfl,hA⟩
 obtain⟨hdn,hb0,hb1,hp0,hp1⟩:=Ag8 he
 obtain⟨i,rfl⟩: ∃i:Nat,b=i:=⟨b.toNat,by omega⟩
 have hbl:d.bs.length=bs.length:=by rw[<-h.hb,List.length_map]
 have hi:i<bs.length:=by omega
 obtain⟨pre,x,post,rfl,rfl⟩: ∃pre x post,bs=pre++x::post/\pre.length=i:=⟨bs.take i,bs[i],bs.drop (i+1),by rw[<-List.drop_eq_getElem_cons hi,List.take_append_drop],by rw[List.length_take];omega⟩
 have hk:d.bs[pre.length]?=some x.blk:=by rw[<-h.hb,List.getElem?_map];simp
 have hset: ∀y:PB,(pre++y::post).map PB.blk=d.bs.set pre.length y.blk:=fun y=>by rw[<-h.hb];simp
 have hmk:x.blk∈d.bs:=List.mem_of_getElem? hk
 have hpr:G2 d (pre.length:Int)=if x.bad then(10,d)else Aj9 d pre.length x.blk:=by
  unfold G2
  rw[if_neg (by simpa using he),Int.toNat_natCast,hk]
  rfl
 have hxm:x.obj∈fL m d bv bseg (pre++x::post) tv tseg ts:=(List.mem_cons_of_mem _ (List.mem_append_right _ (List.mem_append_left _ (by rw[M7,Q0];exact List.mem_append_right _ (List.mem_append_left _ List.mem_cons_self)))))
 rw[if_pos he,Bv4]
 refine A5 rfl (A6 x.bad (Cz0 hxm) ?_)
 refine G7 (fun(hbad:x.bad=true)=>?_) (fun(hbad:x.bad=false)=>?_)
 ·rw[hpr,if_pos hbad]
  exact .of ⟨rfl,hA⟩
 rw[hpr,if_neg (by rw[hbad];decide)]
 clear hpr hA hxm
 have hok:=h.okb x (by simp)
 have hpl:=(ok.pg _ hmk).1
 have hpl':x.ps.length=d.c.P:=by rw[<-hpl];simp[PB.blk]
 have hxw:x.wear<=d.c.W:=(ok.nx _ hmk).2.1
 have hL:fL m d bv bseg (pre++x::post) tv tseg ts=fO m d bv tv::(bseg++(F3 pre++(x.objs++(F3 post++(tseg++N8 ts))))):=by
  unfold fL
  rw[M7,Q0]
  simp
 rw[hL]
 clear hL
 have hokb: ∀y:PB,y.Ok-> ∀z∈pre++y::post,z.Ok:=by
  intro y hy z hz
  have hz':z∈pre\/z=y\/z∈post:=by simpa using hz
  rcases hz' with h1|rfl|h1
  ·exact h.okb z (by simp[h1])
  ·exact hy
  ·exact h.okb z (by simp[h1])
 have hobp: ∀y:PB,y.id=x.id->Own bv 1 ePb ((pre++y::post).map pbp) bseg:=by
  intro y hy
  have:(pre++y::post).map pbp=(pre++x::post).map pbp:=by simp[pbp,hy]
  rw[this];exact h.ob
 refine A5 rfl ?_
 refine J5 [] (bseg++(F3 pre++(x.objs++(F3 post++(tseg++N8 ts))))) (Bt6 m d bv tv ok.after) rfl ?_
 rintro _ _-⟨rfl,rfl⟩
 refine⟨((Z4 d).1,()),rfl,?_⟩
 unfold Aj9
 obtain⟨hc2,hb2,hk2,hy2,ht2⟩:=Aq6 d
 generalize hd2:Z4 d=tt at hc2 hb2 hk2 hy2 ht2⊢
 obtain⟨t,d2⟩:=tt
 simp only at hc2 hb2 hk2 hy2 ht2⊢
 rw[List.nil_append]
 have hLs:[fO m d2 bv tv]++(bseg++(F3 pre++(x.objs++(F3 post++(tseg++N8 ts)))))=(fO m d2 bv tv::(bseg++F3 pre))++x.objs++(F3 post++(tseg++N8 ts)):=by simp
 rw[hLs]
 cases t with
 |true=>
  refine ifT rfl (A5 rfl (A5 rfl (A5 rfl ?_)))
  refine A6 (d.c.P:Int) (by have:=f_P (m:=m) (d:=d2) (bv:=bv) (tv:=tv) (L:=(fO m d2 bv tv::(bseg++F3 pre))++x.objs++(F3 post++(tseg++N8 ts))) (by simp);rw[hc2]at this;exact this) ?_
  have hls:D4 ⟨m,5,none⟩ [.i d.c.S] ((fO m d2 bv tv::(bseg++F3 pre))++x.objs++(F3 post++(tseg++N8 ts))):=by have:=f_S (m:=m) (d:=d2) (bv:=bv) (tv:=tv) (L:=(fO m d2 bv tv::(bseg++F3 pre))++x.objs++(F3 post++(tseg++N8 ts))) (by simp);rw[hc2]at this;exact this
  refine A6 (d.c.S:Int) hls ?_
  refine B7 (Ce8 _ m d2 bv tv (by simp) d.c.P) ((Q5 d2.keep d.c.P:Int),()) rfl (F5 hls ?_)
  rw[show Q5 d2.keep d.c.P=Q5 d.keep d.c.P by rw[hk2]]
  have hkp:Q5 d.keep d.c.P<=d.c.P:=by unfold Q5;omega
  refine J5 (fO m d2 bv tv::(bseg++F3 pre)) (F3 post++(tseg++N8 ts)) (Bn3 x hok (Q5 d.keep d.c.P) d.c.S (by omega) (by omega) (by omega)) rfl ?_
  rintro _ _-⟨rfl,seg',ps',rfl,hok',hps'⟩
  refine⟨(),rfl,A5 rfl (A6 (d.c.P:Int) (by have:=f_P (m:=m) (d:=d2) (bv:=bv) (tv:=tv) (L:=(fO m d2 bv tv::(bseg++F3 pre))++({x with seg:=seg',ps:=ps'}:PB).objs++(F3 post++(tseg++N8 ts))) (by simp);rw[hc2]at this;exact this) (A5 rfl ?_))⟩
  refine E3 (n:=x.id) (off:=1) (c:=#[.slice x.v.a x.v.len x.v.cap,.i x.next,.i x.wear,.b x.bad]) (T:=tBk) (fz:=(0,0)) (fO m d2 bv tv::(bseg++F3 pre)) (seg'++(pgs ps'++(F3 post++(tseg++N8 ts)))) rfl (by simp[PB.obj,PB.objs]) (by simp) (.inl (Nat.le_refl _))
   #[.slice x.v.a x.v.len x.v.cap,.i d.c.P,.i x.wear,.b x.bad] rfl ?_
  refine .of ⟨rfl,bv,bseg,pre++({x with seg:=seg',ps:=ps',next:=d.c.P}:PB)::post,tv,tseg,ts,?_,hobp _ rfl,hokb _ ⟨hok'.own,hok'.ps⟩,?_,h.ot,h.okt,?_⟩
  ·unfold fL
   rw[M7,Q0]
   unfold PB.objs PB.obj
   simp[fO]
  ·rw[hset]
   congr 1
   unfold PB.blk Blk.torn
   simp only
   rw[hps']
  ·rw[if_pos rfl];show _=d2.torn;rw[ht2];exact h.ht
 |false=>
  refine ifF rfl (A5 rfl (A5 rfl ?_))
  refine A6 (d.c.P:Int) (by have:=f_P (m:=m) (d:=d2) (bv:=bv) (tv:=tv) (L:=(fO m d2 bv tv::(bseg++F3 pre))++x.objs++(F3 post++(tseg++N8 ts))) (by simp);rw[hc2]at this;exact this) ?_
  have hls:D4 ⟨m,5,none⟩ [.i d.c.S] ((fO m d2 bv tv::(bseg++F3 pre))++x.objs++(F3 post++(tseg++N8 ts))):=by have:=f_S (m:=m) (d:=d2) (bv:=bv) (tv:=tv) (L:=(fO m d2 bv tv::(bseg++F3 pre))++x.objs++(F3 post++(tseg++N8 ts))) (by simp);rw[hc2]at this;exact this
  refine A6 (d.c.S:Int) hls ?_
  refine J5 (fO m d2 bv tv::(bseg++F3 pre)) (F3 post++(tseg++N8 ts)) (Bn3 x hok d.c.P d.c.S (by omega) (by omega) (by omega)) rfl ?_
  rintro _ _-⟨rfl,seg',ps',rfl,hok',hps'⟩
  refine⟨(),rfl,A5 rfl (A6 (d.c.W:Int) (by have:=f_W (m:=m) (d:=d2) (bv:=bv) (tv:=tv) (L:=(fO m d2 bv tv::(bseg++F3 pre))++({x with seg:=seg',ps:=ps'}:PB).objs++(F3 post++(tseg++N8 ts))) (by simp);rw[hc2]at this;exact this) ?_)⟩
  refine J5 (fO m d2 bv tv::(bseg++F3 pre)) (seg'++(pgs ps'++(F3 post++(tseg++N8 ts)))) (C55 ({x with seg:=seg',ps:=ps'}:PB) d.c.W (by show x.wear<=1048576;omega)) (by simp[PB.objs]) ?_
  rintro _ _-⟨rfl,rfl⟩
  have hwd:decide ((((({x with seg:=seg',ps:=ps'}:PB).wear+1:Nat)):Int)=(d.c.W:Int))=decide (x.wear+1=d.c.W):=by
   show decide (((x.wear+1:Nat):Int)=(d.c.W:Int))=_
   by_cases hw1:x.wear+1=d.c.W
   ·rw[decide_eq_true hw1,decide_eq_true (by omega)]
   ·rw[decide_eq_false hw1,decide_eq_false (by omega)]
  rw[hwd]
  refine⟨(decide (x.wear+1=d.c.W),()),rfl,?_⟩
  rw[if_neg (by decide)]
  have hend:FH m {d2 with bs:=d.bs.set pre.length (x.blk.fresh d.c)} ((fO m d2 bv tv::(bseg++F3 pre))++[({x with seg:=seg',ps:=ps',next:=0,wear:=x.wear+1,bad:=decide (x.wear+1=d.c.W)}:PB).obj]++(seg'++(pgs ps'++(F3 post++(tseg++N8 ts))))):=by
   refine⟨bv,bseg,pre++({x with seg:=seg',ps:=ps',next:=0,wear:=x.wear+1,bad:=decide (x.wear+1=d.c.W)}:PB)::post,tv,tseg,ts,?_,hobp _ rfl,hokb _ ⟨hok'.own,hok'.ps⟩,?_,h.ot,h.okt,?_⟩
   ·unfold fL
    rw[M7,Q0]
    unfold PB.objs PB.obj
    simp[fO]
   ·rw[hset]
    congr 1
    unfold PB.blk Blk.fresh
    simp only
    rw[hps',List.drop_of_length_le (by rw[List.length_map];omega),List.append_nil]
   ·show _=d2.torn;rw[ht2];exact h.ht
  refine C0 (fun(hw1:x.wear+1=d.c.W)=>.of ⟨?_,hend⟩) (fun(hw1: ¬x.wear+1=d.c.W)=>.of ⟨?_,hend⟩)
  ·show Value.i 10= .i (if x.wear+1=d.c.W then 10 else 0)
   rw[if_pos hw1]
  ·show Value.i 0= .i (if x.wear+1=d.c.W then 10 else 0)
   rw[if_neg hw1]
def right(c:Int×Int×Int×Int×Unit):Prop:=2<=c.1/\c.1<=16/\4<=c.2.1/\c.2.1<=16/\64<=c.2.2.1/\c.2.2.1<=512/\1<=c.2.2.2.1/\c.2.2.2.1<=1048576
def cfg(c:Int×Int×Int×Int×Unit):Cfg:=⟨c.1.toNat,c.2.1.toNat,c.2.2.1.toNat,c.2.2.2.1.toNat⟩
def blk0(c:Cfg):Blk:=⟨List.replicate c.P (blk c.S),0,0,false⟩
def fresh(c:Cfg):Dev:=⟨c,0,0,false,List.replicate c.B (blk0 c),0,[]⟩
theorem Ck2{c:Int×Int×Int×Int×Unit}(h:right c):Cz6 (cfg c):=by
 unfold right at h
 refine⟨?_,?_,?_,?_⟩<;>simp only[cfg]<;>omega
theorem Bx6{c:Cfg}(h:Cz6 c):Q3 (fresh c):=by
 refine⟨h,by simp[fresh],?_,?_,by simp[fresh],by simp[fresh]⟩
 ·intro k hk
  rw[List.eq_of_mem_replicate hk]
  refine⟨by simp[blk0,fresh],fun l hl=>?_⟩
  rw[List.eq_of_mem_replicate hl];simp[blk,fresh]
 ·intro k hk
  rw[List.eq_of_mem_replicate hk]
  have:=h.w
  refine⟨Nat.zero_le _,Nat.zero_le _,?_⟩
  show false=decide (0=c.W)
  rw[decide_eq_false (by omega)]
theorem Cn3(n:Nat):Af3 [.slice none 0 0] n=(List.replicate n pg0).map PG.val:=by
 unfold Af3
 rw[List.map_replicate]
 induction n with
 |zero=>rfl
 |succ n ih=>rw[List.replicate_succ,List.replicate_succ,List.flatten_cons,ih];rfl
theorem C97(n:Nat):pgs (List.replicate n pg0)=[]:=by
 induction n with
 |zero=>rfl
 |succ n ih=>rw[List.replicate_succ,Am0,ih];rfl
theorem C21(c:Int×Int×Int×Int×Unit):
  CallF PP 35 #[.agg #[.i c.1,.i c.2.1,.i c.2.2.1,.i c.2.2.2.1]] [] fun r L'=>(¬right c/\r= .t #[.q none,.i 30]/\L'=[])\/(right c/\ ∃m,r= .t #[.q (some ⟨m,0,none⟩),.i 0]/\FH m (fresh (cfg c)) L'):=by
 refine CallF.of (args:=[.agg #[.i c.1,.i c.2.1,.i c.2.2.1,.i c.2.2.2.1]]) B5 B6 Tryz.func35 (e35 c _) ?_
 unfold t35
 refine C3 fun n1 _=>?_
 generalize ho:(n1,Obj.cells #[.i c.1,.i c.2.1,.i c.2.2.1,.i c.2.2.2.1] 23)=o1
 have lc: ∀L:A4,o1∈L->D4 ⟨n1,0,none⟩ [.i c.1,.i c.2.1,.i c.2.2.1,.i c.2.2.2.1] L:=fun L hm=>ldB (by rw[<-ho]at hm;exact hm) rfl
 clear ho
 have lB: ∀L:A4,o1∈L->D4 ⟨n1,0,none⟩ [.i c.1] L:=fun L hm=>(lc L hm).pre fun i u hu=>by cases i with|zero=>exact hu|succ i=>exact absurd (show(none:Option Value)=some u from hu) (by simp)
 refine A6 c.1 (lB _ List.mem_cons_self) ?_
 refine B7 (Ab5 _ c.1 2 16) (decide (2<=c.1/\c.1<=16),()) rfl ?_
 refine C0 (fun(h1:2<=c.1/\c.1<=16)=>?_) (fun(h1: ¬(2<=c.1/\c.1<=16))=>.cons (.of (.inl ⟨by unfold right;omega,rfl,rfl⟩)))
 refine A6 c.2.1 ((lc _ List.mem_cons_self).one 1 rfl) ?_
 refine B7 (Ab5 _ c.2.1 4 16) (decide (4<=c.2.1/\c.2.1<=16),()) rfl ?_
 by_cases h2:4<=c.2.1/\c.2.1<=16
 case neg=>rw[decide_eq_false h2];exact ifT rfl (.cons (.of (.inl ⟨by unfold right;omega,rfl,rfl⟩)))
 rw[decide_eq_true h2]
 refine ifF rfl (A6 c.2.2.1 ((lc _ List.mem_cons_self).one 2 rfl) ?_)
 refine B7 (Ab5 _ c.2.2.1 64 512) (decide (64<=c.2.2.1/\c.2.2.1<=512),()) rfl ?_
 by_cases h3:64<=c.2.2.1/\c.2.2.1<=512
 case neg=>rw[decide_eq_false h3];exact ifT rfl (.cons (.of (.inl ⟨by unfold right;omega,rfl,rfl⟩)))
 rw[decide_eq_true h3]
 refine ifF rfl (A6 c.2.2.2.1 ((lc _ List.mem_cons_self).one 3 rfl) ?_)
 refine B7 (Ab5 _ c.2.2.2.1 1 1048576) (decide (1<=c.2.2.2.1/\c.2.2.2.1<=1048576),()) rfl ?_
 by_cases h4:1<=c.2.2.2.1/\c.2.2.2.1<=1048576
 case neg=>rw[decide_eq_false h4];exact ifT rfl (.cons (.of (.inl ⟨by unfold right;omega,rfl,rfl⟩)))
 rw[decide_eq_true h4]
 refine ifF rfl ?_
 have hr:right c:=by unfold right;omega
 have hck:=Ck2 hr
 obtain⟨cB,cP,cS,cW,u⟩:=c
 obtain⟨B,rfl⟩: ∃B:Nat,cB=B:=⟨cB.toNat,by simp only at h1;omega⟩
 obtain⟨Pn,rfl⟩: ∃B:Nat,cP=B:=⟨cP.toNat,by simp only at h2;omega⟩
 obtain⟨S,rfl⟩: ∃B:Nat,cS=B:=⟨cS.toNat,by simp only at h3;omega⟩
 obtain⟨W,rfl⟩: ∃B:Nat,cW=B:=⟨cW.toNat,by simp only at h4;omega⟩
 simp only at h1 h2 h3 h4
 have hcf:cfg ((B:Int),(Pn:Int),(S:Int),(W:Int),u)=⟨B,Pn,S,W⟩:=by simp[cfg]
 rw[hcf]at hck⊢
 refine A6 ((B:Int),(Pn:Int),(S:Int),(W:Int),()) (lc _ List.mem_cons_self) (C3 fun m _=>?_)
 have hm0:((m,Obj.cells #[.i 0,.i 0,.b false,.i B,.i Pn,.i S,.i W,.slice none 0 0,.i 0,.slice none 0 0] tFl):Nat×Obj)=fO m {fresh ⟨B,Pn,S,W⟩with bs:=[]} ⟨none,0,0⟩ ⟨none,0,0⟩:=rfl
 refine A6 (B:Int) (lB _ (by simp)) ?_
 refine G0 (fun z' z L'=> ∃(i:Nat) (bv:SlV) (bseg:A4) (bs:List PB) (J X Y:A4),i<=B/\z'=B-i/\z=((i:Int),())/\L'=X++fO m (fresh ⟨B,Pn,S,W⟩) bv ⟨none,0,0⟩::(bseg++Y)/\(X++Y).Perm (F3 bs++(o1::J))/\Own bv 1 ePb (bs.map pbp) bseg/\(∀b∈bs,b.Ok)/\bs.map PB.blk=List.replicate i (blk0 ⟨B,Pn,S,W⟩)) B
  ⟨0,⟨none,0,0⟩,[],[],[],[],[o1],by omega,by omega,rfl,rfl,List.Perm.refl _,F4,by simp,rfl⟩ ?_
 rintro z' z L ⟨i,bv,bseg,bs,J,X,Y,hi,rfl,rfl,rfl,hp,own,hokb,hbs⟩
 have ho1:o1∈X++fO m (fresh ⟨B,Pn,S,W⟩) bv ⟨none,0,0⟩::(bseg++Y):=by
  have h5:o1∈X++Y:=(hp.mem_iff (a:=o1)).2 (by simp)
  have h6:o1∈X\/o1∈Y:=by simpa using h5
  rcases h6 with h6|h6<;>simp[h6]
 have hbl:bs.length=i:=by have:=congrArg List.length hbs;rwa [List.length_map,List.length_replicate]at this
 refine C0 (fun(hlt:(i:Int)<(B:Int))=>?_) (fun(hge: ¬(i:Int)<(B:Int))=>?_)
 ·refine A6 (Pn:Int) ((lc _ ho1).one 1 rfl) ?_
  refine Ay3 Bk4 (l:=Pn) (c:=Pn) (Nat.le_refl _) (by omega) fun q ob ownq _ _=>?_
  rw[Cn3]at ownq
  refine C3 fun n3 _=>?_
  refine A6 (Pn:Int) ((lc _ (List.mem_cons_of_mem _ (List.mem_cons_of_mem _ ho1))).one 1 rfl) (A6 (S:Int) ((lc _ (List.mem_cons_of_mem _ (List.mem_cons_of_mem _ ho1))).one 2 rfl) ?_)
  have hx0:({id:=n3,v:=⟨some ⟨q,0,none⟩,Pn,Pn⟩,seg:=[(q,ob)],ps:=List.replicate Pn pg0,next:=0,wear:=0,bad:=false}:PB).Ok:=⟨ownq,fun g hg=>by rw[List.eq_of_mem_replicate hg];exact Bg6⟩
  refine J5 [] (X++fO m (fresh ⟨B,Pn,S,W⟩) bv ⟨none,0,0⟩::(bseg++Y)) (Bn3 _ hx0 Pn S (by simp) (by omega) (by omega)) (by simp[PB.objs,PB.obj,C97]) ?_
  rintro _ _-⟨rfl,seg',ps',rfl,hok',hps'⟩
  refine⟨(),rfl,?_⟩
  rw[List.nil_append]
  generalize hx:({id:=n3,v:=⟨some ⟨q,0,none⟩,Pn,Pn⟩,seg:=seg',ps:=ps',next:=0,wear:=0,bad:=false}:PB)=x at hok'⊢
  have hxi:x.id=n3:=by rw[<-hx]
  have hxb:x.blk=blk0 ⟨B,Pn,S,W⟩:=by
   rw[<-hx]
   unfold PB.blk blk0
   simp only
   rw[hps',List.drop_of_length_le (by simp),List.append_nil]
  refine A6 bv (f_bs (m:=m) (d:=fresh ⟨B,Pn,S,W⟩) (tv:=⟨none,0,0⟩) (by simp)) (C3 fun n4 _=>?_)
  have hbvl:=own.len
  rw[List.length_map]at hbvl
  refine E6 elemPb srcPb ((n4,Obj.cells #[.q (some ⟨n3,0,none⟩)] 94)::(x.objs++(X++[fO m (fresh ⟨B,Pn,S,W⟩) bv ⟨none,0,0⟩]))) Y own (by simp)
   (n:=1) (ws:=[pbp x]) (x:=.slice (some ⟨n4,0,none⟩) 1 1) (Src.sl (v:=⟨some ⟨n4,0,none⟩,1,1⟩) ⟨rfl,Nat.le_refl _,.inr ⟨_,rfl,ldB (n:=n4) (off:=0) (T:=94) (fz:=(0,0)) (c:=#[.q (some ⟨n3,0,none⟩)]) List.mem_cons_self (by unfold pbp;rw[hxi];rfl)⟩⟩) rfl (by omega) fun v8 seg8 hv8 own8=>?_
  refine E3 (n:=m) (off:=7) (c:=#[.i 0,.i 0,.b false,.i B,.i Pn,.i S,.i W,.slice bv.a bv.len bv.cap,.i 0,.slice none 0 0]) (T:=tFl) (fz:=(0,0)) ((n4,Obj.cells #[.q (some ⟨n3,0,none⟩)] 94)::(x.objs++X)) (seg8++Y) rfl (by simp[fO,fresh]) (by simp) (.inl (Nat.le_refl _))
   #[.i 0,.i 0,.b false,.i B,.i Pn,.i S,.i W,.slice v8.a v8.len v8.cap,.i 0,.slice none 0 0] rfl ?_
  refine⟨B-(i+1),by omega,i+1,v8,seg8,bs++[x],(n4,Obj.cells #[.q (some ⟨n3,0,none⟩)] 94)::J,(n4,Obj.cells #[.q (some ⟨n3,0,none⟩)] 94)::(x.objs++X),Y,by omega,rfl,?_,rfl,?_,?_,?_,?_⟩
  ·rw[C2 (by first|omega|(simp only;omega)) (by first|omega|(simp only;omega))]
   rfl
  ·generalize (n4,Obj.cells #[.q (some ⟨n3,0,none⟩)] 94)=o4
   have hbo:F3 (bs++[x])=F3 bs++x.objs:=by rw[M7,Q0];simp[F3]
   rw[hbo]
   classical
   rw[List.perm_iff_count]at hp⊢
   intro z
   have:=hp z
   simp only[List.append_eq,List.cons_append,List.count_append,List.count_cons,List.count_nil]at this⊢
   omega
  ·rw[List.map_append];exact own8
  ·intro z hz
   rcases List.mem_append.1 hz with h5|h5
   ·exact hokb z h5
   ·rw[List.mem_singleton.1 h5];exact hok'
  ·rw[List.map_append,hbs,List.replicate_succ',List.map_singleton,hxb]
 ·obtain rfl:i=B:=by omega
  refine .drop (A:=fL m (fresh ⟨i,Pn,S,W⟩) bv bseg bs ⟨none,0,0⟩ [] []) (J:=o1::J) (.inr ⟨hr,m,rfl,bv,bseg,bs,⟨none,0,0⟩,[],[],rfl,own,hokb,hbs,F4,by simp,rfl⟩) ?_
  unfold fL
  have:N8 []=[]:=rfl
  rw[this]
  classical
  rw[List.perm_iff_count]at hp⊢
  intro z
  have:=hp z
  simp only[List.append_eq,List.cons_append,List.count_append,List.count_cons,List.count_nil]at this⊢
  omega
structure Dg9(c:Cfg)(k:Blk):Prop where
 pg:k.pages.length=c.P/\ ∀l∈k.pages,l.length=c.S
 nx:k.next<=c.P/\k.wear<=c.W/\k.bad=decide (k.wear=c.W)
theorem Q3.bk{d:Dev}(h:Q3 d){k:Blk}(hk:k∈d.bs):Dg9 d.c k:=⟨h.pg k hk,h.nx k hk⟩
theorem Q3.set{d e:Dev}(h:Q3 d)(hc:e.c=d.c)(i:Nat)(k:Blk)(hk:Dg9 d.c k)(hb:e.bs=d.bs.set i k)(ha:(e.after:Int)<=9223372036854775807)(ht: ∀t∈e.torn,t.meant.length=d.c.S/\t.image.length=d.c.S):Q3 e:=by
 have hm: ∀x∈e.bs,Dg9 d.c x:=by
  intro x hx
  rw[hb]at hx
  rcases List.mem_or_eq_of_mem_set hx with h1|rfl
  ·exact h.bk h1
  ·exact hk
 refine⟨hc▸h.c,?_,?_,?_,ha,?_⟩
 ·rw[hb,List.length_set,hc];exact h.len
 ·intro x hx;rw[hc];exact(hm x hx).pg
 ·intro x hx;rw[hc];exact(hm x hx).nx
 ·rw[hc];exact ht
theorem A31(d:Dev):(Z4 d).2.after<=d.after:=by
 unfold Z4
 split
 ·exact Nat.le_refl _
 ·exact Nat.sub_le _ _
theorem Z8(d:Dev):(Z4 (J6 d)).2.c=d.c/\(Z4 (J6 d)).2.bs=d.bs/\(Z4 (J6 d)).2.torn=d.torn/\(Z4 (J6 d)).2.after<=d.after:=by
 obtain⟨h1,h2,h3,h4,h5⟩:=Aq6 (J6 d)
 exact⟨h1,h2,h5,A31 (J6 d)⟩
theorem C14{c:Cfg}{k:Blk}(hk:Dg9 c k){p:Nat}(hp:p<c.P){l:List UInt8}(hl:l.length=c.S):Dg9 c (k.put p l):=by
 refine⟨⟨?_,fun x hx=>?_⟩,?_,hk.nx.2⟩
 ·show(k.pages.set p l).length=c.P
  rw[List.length_set];exact hk.pg.1
 ·rcases List.mem_or_eq_of_mem_set hx with h1|rfl
  ·exact hk.pg.2 x h1
  ·exact hl
 ·show p+1<=c.P
  exact hp
theorem Av0{d:Dev}{data:List UInt8}(h:data.length=d.c.S):(M2 d data).length=d.c.S:=by
 unfold M2 blk Q5
 rw[List.length_append,List.length_take,List.length_replicate];omega
theorem Cs3{d:Dev}(ok:Q3 d){i p:Nat}{k:Blk}(hk:Dg9 d.c k)(hp:p<d.c.P){data:List UInt8}(hl:data.length=d.c.S):Q3 (As2 d i p k data).2:=by
 obtain⟨h1,h2,h3,h4⟩:=Z8 d
 have ha:=ok.after
 unfold As2
 split
 ·refine ok.set h1 i (k.put p (M2 d data)) (C14 hk hp (Av0 hl)) rfl (by show((Z4 (J6 d)).2.after:Int)<=_;omega) ?_
  intro t ht
  rcases List.mem_append.1 ht with h|h
  ·exact ok.torn t h
  ·rw[List.mem_singleton.1 h];exact⟨hl,Av0 hl⟩
 ·refine ok.set h1 i (k.put p data) (C14 hk hp hl) rfl (by show((Z4 (J6 d)).2.after:Int)<=_;omega) ?_
  intro t ht
  exact ok.torn t (by rw[<-h3];exact ht)
theorem Cb1{d:Dev}(ok:Q3 d)(b p:Int)(data:List UInt8):Q3 (prog d b p data).2:=by
 unfold prog
 split
 ·exact ok
 ·rename_i he
  have he':H8 d b p=0:=by simpa using he
  obtain⟨_,_,_,hp0,hp1⟩:=Ag8 he'
  split
  ·exact ok
  ·rename_i hl
   split
   ·exact ok
   ·rename_i k hk
    split
    ·exact ok
    ·split
     ·exact ok
     ·exact Cs3 ok (ok.bk (List.mem_of_getElem? hk)) (by omega) (by omega)
theorem Ci6{d:Dev}(ok:Q3 d){i:Nat}{k:Blk}(hk:Dg9 d.c k)(hb:k.bad=false):Q3 (Aj9 d i k).2:=by
 obtain⟨h1,h2,h3,h4,h5⟩:=Aq6 d
 have h6:=A31 d
 have ha:=ok.after
 have hkp:Q5 d.keep d.c.P<=d.c.P:=by unfold Q5;omega
 unfold Aj9
 split
 ·refine ok.set h1 i (k.torn d.c (Q5 d.keep d.c.P)) ⟨⟨?_,fun l hl=>?_⟩,Nat.le_refl _,hk.nx.2⟩ rfl (by show((Z4 d).2.after:Int)<=_;omega) (by intro t ht;exact ok.torn t (by rw[<-h5];exact ht))
  ·show(List.replicate _ _++_).length=_
   rw[List.length_append,List.length_replicate,List.length_drop,hk.pg.1];omega
  ·rcases List.mem_append.1 hl with h|h
   ·rw[List.eq_of_mem_replicate h];simp[blk]
   ·exact hk.pg.2 l (List.mem_of_mem_drop h)
 ·have hw:k.wear+1<=d.c.W:=by
   have h7:=hk.nx.2
   rw[hb]at h7
   have:=of_decide_eq_false h7.2.symm
   omega
  refine ok.set h1 i (k.fresh d.c) ⟨⟨?_,fun l hl=>?_⟩,Nat.zero_le _,hw,rfl⟩ rfl (by show((Z4 d).2.after:Int)<=_;omega) (by intro t ht;exact ok.torn t (by rw[<-h5];exact ht))
  ·show(List.replicate _ _).length=_
   rw[List.length_replicate]
  ·rw[List.eq_of_mem_replicate hl];simp[blk]
theorem Cx0{d:Dev}(ok:Q3 d)(b:Int):Q3 (G2 d b).2:=by
 unfold G2
 split
 ·exact ok
 ·split
  ·exact ok
  ·rename_i k hk
   split
   ·exact ok
   ·rename_i hb
    exact Ci6 ok (ok.bk (List.mem_of_getElem? hk)) (by simpa using hb)
theorem arm_ok{d:Dev}(ok:Q3 d){n k:Int}(hn:n<=9223372036854775807):Q3 (arm d n k):=by
 unfold arm
 split
 ·exact ok
 ·exact⟨ok.c,ok.len,ok.pg,ok.nx,by show((n.toNat:Nat):Int)<=_;omega,ok.torn⟩
theorem A38{d:Dev}(ok:Q3 d):Q3 (W0 d):=⟨ok.c,ok.len,ok.pg,ok.nx,by show((0:Nat):Int)<=_;omega,ok.torn⟩
theorem B27(d:Dev)(i p:Nat)(k:Blk)(data:List UInt8):(As2 d i p k data).2.torn.length<=d.torn.length+1:=by
 obtain⟨h1,h2,h3,h4⟩:=Z8 d
 unfold As2
 split
 ·show(d.torn++[_]).length<=_
  rw[List.length_append];exact Nat.le_refl _
 ·show(Z4 (J6 d)).2.torn.length<=_
  rw[h3];omega
theorem Cb0(d:Dev)(b p:Int)(data:List UInt8):(prog d b p data).2.torn.length<=d.torn.length+1:=by
 unfold prog
 split
 ·exact Nat.le_succ _
 ·split
  ·exact Nat.le_succ _
  ·split
   ·exact Nat.le_succ _
   ·split
    ·exact Nat.le_succ _
    ·split
     ·exact Nat.le_succ _
     ·exact B27 _ _ _ _ _
theorem B46(d:Dev)(b:Int):(G2 d b).2.torn=d.torn:=by
 obtain⟨h1,h2,h3,h4,h5⟩:=Aq6 d
 unfold G2
 split
 ·rfl
 ·split
  ·rfl
  ·split
   ·rfl
   ·unfold Aj9
    split
    ·exact h5
    ·exact h5
structure RK where
 v:SlV
 seg:A4
 l:List (List UInt8)
section
variable {L:A4} {m:Nat} {d:Dev} {pv nv wv bv tv:SlV}
end
instance (c:Int×Int×Int×Int×Unit):Decidable (right c):=by unfold right;infer_instance
section
variable {m:Nat} {d:Dev} {pv:SlV} {pseg:A4} {rs:List RK} {nv:SlV} {nseg:A4} {wv:SlV} {wseg:A4} {bv:SlV} {bseg:A4} {tv:SlV} {tseg:A4} {ts:List PT}
end
structure DG(d:Dev)(n:Nat):Prop where
 ok:Q3 d
 few:d.torn.length+n<=1048576
def O7(d:Dev)(b:Int)(h:Hd)(p:List UInt8):Int×Dev:=if(Ai8 h p d.c.S).2≠0 then((Ai8 h p d.c.S).2,d)else prog d b h.2.2.2.2.1 (Ai8 h p d.c.S).1
def S8(d:Dev)(b ep:Int):Int×Dev:=O7 d b (1,0,1,ep,0,()) []
def A07(b ep at' kind n:Int):Dev->Nat->List (List UInt8)->Int×Dev
 |d,_,[]=>(0,d)
 |d,i,p::r=>if(O7 d b (kind,i,n,ep,at'+i,()) p).1=0 then A07 b ep at' kind n (O7 d b (kind,i,n,ep,at'+i,()) p).2 (i+1) r else O7 d b (kind,i,n,ep,at'+i,()) p
def Ai6(d:Dev)(b ep at' kind:Int)(l:List (List UInt8)):Int×Dev:=if l=[]then(2,d)else A07 b ep at' kind l.length d 0 l
def itB(x:It):List Int:=[x.1,x.2.1,x.2.2.1]
instance (l:List Int):Decidable (inB l):=by unfold inB;infer_instance
def O4(l:List It):List UInt8:=(l.flatMap itB).map A14
def T4(d:Dev)(b ep at':Int)(l:List It):Int×Dev:=if inB (l.flatMap itB)then O7 d b (4,0,1,ep,at',()) (O4 l)else(3,d)
def N0(d:Dev)(b:Int):List (List UInt8)×Int:=if H8 d b 0≠0 then([],H8 d b 0)else((List.range d.c.P).map fun(p:Nat)=>(M4 d b (p:Int)).1,0)
theorem imgR_0{h:Hd}{p:List UInt8}{size:Int}(e:(Ai8 h p size).2=0):Ae9 h=0:=by
 unfold Ai8 at e
 split at e
 ·simp at e
 ·split at e
  ·rename_i h2;exact absurd e h2
  ·rename_i h2;exact Classical.not_not.1 h2
theorem C96{d:Dev}{b:Int}{h:Hd}{p:List UInt8}(e:(O7 d b h p).1=0):Ae9 h=0:=by
 unfold O7 at e
 split at e
 ·rename_i h2;exact absurd e h2
 ·rename_i h2;exact imgR_0 (Classical.not_not.1 h2)
theorem C95{d:Dev}{n:Nat}(g:DG d (n+1))(b:Int)(h:Hd)(p:List UInt8):DG (O7 d b h p).2 n:=by
 unfold O7
 split
 ·exact⟨g.ok,by have:=g.few;show d.torn.length+n<=_;omega⟩
 ·refine⟨Cb1 g.ok _ _ _,?_⟩
  have h1:=Cb0 d b h.2.2.2.2.1 (Ai8 h p d.c.S).1
  have:=g.few
  omega
theorem DG.le{d:Dev}{n m:Nat}(g:DG d n)(h:m<=n):DG d m:=⟨g.ok,by have:=g.few;omega⟩
theorem p3{A B C:A4}:(A++(B++C)).Perm (B++(A++C)):=List.perm_append_comm_assoc A B C
def DevK(H:Nat->Dev->A4->Prop)(m:Nat)(q:Int×Dev)(R:A4)(r:Value)(L':A4):Prop:= ∃A',L'=A'++R/\r= .i q.1/\H m q.2 A'
theorem A84(m:Nat)(d:Dev)(A R:A4)(h:FH m d A)(g:DG d 1)(b:Int)(hd:Hd)(u:SlV)(p:List UInt8)(hu:BSl R u p):
  CallF PP 193 #[.q (some ⟨m,0,none⟩),.i b,.agg #[.i hd.1,.i hd.2.1,.i hd.2.2.1,.i hd.2.2.2.1,.i hd.2.2.2.2.1],.slice u.a u.len u.cap] (A++R) (DevK FH m (O7 d b hd p) R):=by
 refine c193 (some ⟨m,0,none⟩) b hd u ?_
 unfold s193
 have hc:=g.ok.c.s
 refine B7 (Reads.in (X:=[]) (Y:=R) (An5 m d A h)) ((d.c.B,d.c.P,d.c.S,d.c.W,()),()) rfl ?_
 refine S0 (Cb5 (A++R) hd u p hu.right (d.c.S:Int) (by omega)) ?_
 rintro _ _-⟨s,sg,rfl,rfl,own⟩
 refine⟨(s,(Ai8 hd p d.c.S).2,()),rfl,B8 (fun(h0:(Ai8 hd p d.c.S).2=0)=>?_) (fun(h0: ¬(Ai8 hd p d.c.S).2=0)=>?_)⟩
 ·refine S0 (CallF.perm p3 (B26 m d A (sg++R) h g.ok (by have:=g.few;omega) b hd.2.2.2.2.1 s (Ai8 hd p d.c.S).1 own.sl.left)) ?_
  rintro _ _-⟨A',rfl,rfl,h'⟩
  have e:O7 d b hd p=prog d b hd.2.2.2.2.1 (Ai8 hd p d.c.S).1:=by unfold O7;rw[if_neg (by simpa using h0)]
  refine⟨((prog d b hd.2.2.2.2.1 (Ai8 hd p d.c.S).1).1,()),rfl,.drop (A:=A'++R) (J:=sg) ⟨A',rfl,by rw[e],by rw[e];exact h'⟩ ?_⟩
  exact(p3.trans List.perm_append_comm)
 ·have e:O7 d b hd p=((Ai8 hd p d.c.S).2,d):=by unfold O7;rw[if_pos h0]
  exact .app (.of ⟨A,rfl,by rw[e],by rw[e];exact h⟩)
theorem Da3(m:Nat)(d:Dev)(A R:A4)(h:FH m d A)(g:DG d 1)(b ep:Int):CallF PP 254 #[.q (some ⟨m,0,none⟩),.i b,.i ep] (A++R) (DevK FH m (S8 d b ep) R):=by
 refine c254 (some ⟨m,0,none⟩) b ep ?_
 unfold s254
 refine S0 (A84 m d A R h g b (1,0,1,ep,0,()) ⟨none,0,0⟩ [] (Sl.nil 1)) ?_
 rintro _ _-⟨A',rfl,rfl,h'⟩
 exact⟨((S8 d b ep).1,()),rfl,.of ⟨A',rfl,rfl,h'⟩⟩
theorem Cl7(m:Nat)(d:Dev)(A R:A4)(h:FH m d A)(u:SlV)(l:List PV)(hu:Y1 R u l)(hl:l.length<=1000000)(g:DG d l.length)(b ep at' kind:Int)(hat:Q6 .i64 at'):
  CallF PP 135 #[.q (some ⟨m,0,none⟩),.i b,.i ep,.i at',.i kind,.slice u.a u.len u.cap] (A++R) (DevK FH m (Ai6 d b ep at' kind (l.map Prod.snd)) R):=by
 refine c135 (some ⟨m,0,none⟩) b ep at' kind u ?_
 unfold s135
 have hul:=hu.len
 have hat':=Bd5 hat
 refine B8 (fun(h0:(u.len:Int)=0)=>?_) (fun(h0: ¬(u.len:Int)=0)=>?_)
 ·have e:l.map Prod.snd=[]:=by rw[List.map_eq_nil_iff];exact List.length_eq_zero_iff.1 (by omega)
  exact .of ⟨A,rfl,by unfold Ai6;rw[if_pos e],by unfold Ai6;rw[if_pos e];exact h⟩
 have hne:l.map Prod.snd≠[]:=fun e=>h0 (by have:=congrArg List.length e;rw[List.length_map,List.length_nil]at this;omega)
 have hA:Ai6 d b ep at' kind (l.map Prod.snd)=A07 b ep at' kind l.length d 0 (l.map Prod.snd):=by unfold Ai6;rw[if_neg hne,List.length_map]
 rw[hA]
 refine G0 (fun z' z L'=> ∃(i:Nat) (x:Int) (d':Dev) (A':A4),i<=l.length/\z'=l.length-i/\z=((i:Int),kind,x,(l.length:Int),ep,at'+i,())/\L'=A'++R/\FH m d' A'/\DG d' (l.length-i)/\(0<i->at'<=15)/\A07 b ep at' kind l.length d 0 (l.map Prod.snd)=A07 b ep at' kind l.length d' i ((l.drop i).map Prod.snd)) l.length
  ⟨0,0,d,A,by omega,by omega,by rw[hul];simp,rfl,h,g,by omega,by simp⟩ ?_
 rintro z' z _ ⟨i,x,d',A',hi,rfl,rfl,rfl,h',g',h15,hst⟩
 dsimp only
 refine B8 (fun(hlt:(i:Int)<u.len)=>?_) (fun(hge: ¬(i:Int)<u.len)=>?_)
 ·have hi':i<l.length:=by omega
  refine Cx4 (hu.sl.mono A92) rfl (by rw[List.length_map];exact hi') fun a ha=>?_
  rw[List.getElem_map]at ha
  refine A6 l[i].1 ha (S0 (A84 m d' A' R h' (g'.le (by omega)) b (kind,(i:Int),(l.length:Int),ep,at'+i,()) l[i].1 l[i].2 (hu.val _ (List.getElem_mem hi'))) ?_)
  rintro _ _-⟨A2,rfl,rfl,h2⟩
  rw[List.drop_eq_getElem_cons hi',List.map_cons,A07]at hst
  refine⟨((O7 d' b (kind,(i:Int),(l.length:Int),ep,at'+i,()) l[i].2).1,()),rfl,B8 (fun(h0:(O7 d' b (kind,(i:Int),(l.length:Int),ep,at'+i,()) l[i].2).1=0)=>?_) (fun(h0: ¬(O7 d' b (kind,(i:Int),(l.length:Int),ep,at'+i,()) l[i].2).1=0)=>?_)⟩
  ·have hk:=Ab1 (C96 h0)
   simp only at hk
   rw[if_pos h0]at hst
   refine D9 (by omega) (D9 (by omega) ⟨l.length-(i+1),by omega,i+1,i,_,A2,by omega,rfl,?_,rfl,h2,C95 (n:=l.length-(i+1)) (g'.le (by omega)) _ _ _,fun _=>by omega,hst⟩)
   rw[show at'+(i:Int)+1=at'+((i+1:Nat):Int) by omega]
   rfl
  ·rw[if_neg h0]at hst
   exact .of ⟨A2,rfl,by rw[hst],by rw[hst];exact h2⟩
 ·obtain rfl:i=l.length:=by omega
  rw[List.drop_length,List.map_nil,A07]at hst
  exact .of ⟨A',rfl,by rw[hst],by rw[hst];exact h'⟩
theorem Dc6{a b:List Int}:inB (a++b)↔inB a/\inB b:=by
 unfold inB
 constructor
 ·exact fun h=>⟨fun n hn=>h n (List.mem_append_left _ hn),fun n hn=>h n (List.mem_append_right _ hn)⟩
 ·rintro⟨h1,h2⟩ n hn
  rcases List.mem_append.1 hn with h|h
  ·exact h1 n h
  ·exact h2 n h
theorem inB_no{l:List It}{x:It}(hx:x∈l)(h: ¬inB (itB x)): ¬inB (l.flatMap itB):=fun hh=>h fun n hn=>hh n (List.mem_flatMap.2 ⟨x,hx,hn⟩)
theorem Ao0(l:List It):(O4 l).length=3*l.length:=by
 unfold O4
 rw[List.length_map]
 induction l with
 |nil=>rfl
 |cons x r ih=>rw[List.flatMap_cons,List.length_append,ih];simp[itB];omega
theorem Bo6(l:List It)(x:It):O4 (l++[x])=O4 l++(itB x).map A14:=by simp[O4]
theorem B87(m:Nat)(d:Dev)(A R:A4)(h:FH m d A)(u:SlV)(l:List It)(hu:Sl R u 3 (l.flatMap O9))(hl:l.length<=300)(g:DG d 1)(b ep at':Int):
  CallF PP 249 #[.q (some ⟨m,0,none⟩),.i b,.i ep,.i at',.slice u.a u.len u.cap] (A++R) (DevK FH m (T4 d b ep at' l) R):=by
 refine c249 (some ⟨m,0,none⟩) b ep at' u ?_
 unfold s249
 have hul:=hu.els_len E1 (by decide)
 refine G0 (fun z' z L'=> ∃(i:Nat) (s:SlV) (sg J:A4),i<=l.length/\z'=l.length-i/\z=(s,(i:Int),())/\L'=sg++(J++(A++R))/\Own s 1 eB (bvs (O4 (l.take i))) sg/\inB ((l.take i).flatMap itB)) l.length ⟨0,⟨none,0,0⟩,[],[],by omega,by omega,rfl,rfl,F4,by intro n hn;simp at hn⟩ ?_
 rintro z' z _ ⟨i,s,sg,J,hi,rfl,rfl,rfl,own,hin⟩
 dsimp only
 refine B8 (fun(hlt:(i:Int)<u.len)=>?_) (fun(hge: ¬(i:Int)<u.len)=>?_)
 ·have hi':i<l.length:=by omega
  refine V7 E1 (by decide) (((hu.mono A92).mono A92).mono A92) rfl hi' fun a ha=>?_
  refine A6 (l[i]:It) ha (C3 fun n2 _=>?_)
  have hlen:=Ao0 (l.take i)
  rw[List.length_take]at hlen
  refine S0 (CallF.perm List.perm_middle (Bz4 ((n2,Obj.cells #[.i l[i].1,.i l[i].2.1,.i l[i].2.2.1] 3)::(J++(A++R))) s (O4 (l.take i)) sg own (by omega) ⟨some ⟨n2,0,none⟩,3,3⟩ (itB l[i]) ⟨rfl,Nat.le_refl _,.inr ⟨_,rfl,ldB List.mem_cons_self rfl⟩⟩ (by simp[itB]))) ?_
  rintro _ _-⟨sg2,rfl,⟨hb,v2,rfl,own2⟩|⟨hb,rfl⟩⟩
  ·refine⟨(v2,true,()),rfl,ifT rfl (D9 (by omega) ⟨l.length-(i+1),by omega,i+1,v2,sg2,(n2,Obj.cells #[.i l[i].1,.i l[i].2.1,.i l[i].2.2.1] 3)::J,by omega,rfl,rfl,by simp,?_,?_⟩)⟩
   ·rw[List.take_succ_eq_append_getElem hi',Bo6];exact own2
   ·rw[List.take_succ_eq_append_getElem hi',List.flatMap_append,Dc6,List.flatMap_singleton];exact⟨hin,hb⟩
  ·have e:T4 d b ep at' l=(3,d):=by unfold T4;rw[if_neg (inB_no (List.getElem_mem hi') hb)]
   exact⟨(⟨none,0,0⟩,false,()),rfl,ifF rfl (.app (.cons (.app (.of ⟨A,rfl,by rw[e],by rw[e];exact h⟩))))⟩
 ·obtain rfl:i=l.length:=by omega
  rw[List.take_length]at own hin
  refine S0 (CallF.perm (L:=A++(sg++(J++R))) ?_ (A84 m d A (sg++(J++R)) h g b (4,0,1,ep,at',()) s (O4 l) own.sl.left)) ?_
  ·classical
   rw[List.perm_iff_count]
   intro z
   simp only[List.count_append]
   omega
  rintro _ _-⟨A2,rfl,rfl,h2⟩
  have e:T4 d b ep at' l=O7 d b (4,0,1,ep,at',()) (O4 l):=by unfold T4;rw[if_pos hin]
  refine⟨(_,()),rfl,.drop (A:=A2++R) (J:=sg++J) ⟨A2,rfl,by rw[e],by rw[e];exact h2⟩ ?_⟩
  classical
  rw[List.perm_iff_count]
  intro z
  simp only[List.count_append]
  omega
def Dg5(q:List (List UInt8)×Int)(A:A4)(r:Value)(L':A4):Prop:= ∃(v:SlV) (gs:List PG) (seg:A4),r= .t #[.slice v.a v.len v.cap,.i q.2]/\L'=seg++(pgs gs++A)/\Own v 1 tB (gs.map PG.val) seg/\(∀g∈gs,g.Ok)/\gs.map PG.l=q.1
theorem Ch8{d:Dev}{b:Int}{p:Nat}(hp:p<d.c.P):H8 d b p=H8 d b 0:=by
 unfold H8
 have h1:(0<=(p:Int)/\(p:Int)<d.c.P):=by omega
 have h2:(0<=(0:Int)/\(0:Int)<d.c.P):=by omega
 simp only[h1,h2,and_self,not_true_eq_false,if_false]
theorem Aw5{d:Dev}(ok:Q3 d)(b p:Int):(M4 d b p).2=H8 d b p:=by
 unfold M4
 split
 ·rfl
 ·rename_i h
  have h0:H8 d b p=0:=Classical.not_not.1 h
  have:=Ag8 h0
  split
  ·rename_i hn
   have hlt:b.toNat<d.bs.length:=by omega
   rw[List.getElem?_eq_getElem hlt]at hn;cases hn
  ·split<;>exact h0.symm
theorem DG.pb{d:Dev}(ok:Q3 d):4<=d.c.P/\d.c.P<=16:=ok.c.p
def B58(d:Dev)(b:Int)(A:A4)(i:Nat)(s:SlV)(L':A4):Prop:= ∃(gs:List PG) (sg J:A4),L'.Perm (sg++(pgs gs++(J++A)))/\Own s 1 tB (gs.map PG.val) sg/\(∀g∈gs,g.Ok)/\gs.map PG.l=(List.range i).map fun(p:Nat)=>(M4 d b (p:Int)).1
theorem B58.nil(d:Dev)(b:Int)(A:A4):B58 d b A 0 ⟨none,0,0⟩ A:=⟨[],[],[],List.Perm.refl _,F4,by simp,rfl⟩
theorem B58.p{d:Dev}{b:Int}{A:A4}{i:Nat}{s:SlV}{L':A4}(h:B58 d b A i s L'): ∃G:A4,L'.Perm (A++G):=by
 obtain⟨gs,sg,J,hp,-⟩:=h
 exact⟨sg++(pgs gs++J),pc fun z=>by have:=pcn hp z;simp only[B4]at this⊢;omega⟩
theorem B58.fin{d:Dev}{b:Int}{A:A4}{s:SlV}{L':A4}(h:B58 d b A d.c.P s L')(h0:H8 d b 0=0):HL.Ends (Dg5 (N0 d b) A) (.t #[.slice s.a s.len s.cap,.i 0]) L':=by
 obtain⟨gs,sg,J,hp,own,hok,hg⟩:=h
 have e:N0 d b=((List.range d.c.P).map fun(p:Nat)=>(M4 d b (p:Int)).1,0):=by unfold N0;rw[if_neg (by simpa using h0)]
 exact .drop (A:=sg++(pgs gs++A)) (J:=J) ⟨s,gs,sg,by rw[e],rfl,own,hok,by rw[e];exact hg⟩ (pc fun z=>by have:=pcn hp z;simp only[B4]at this⊢;omega)
theorem B58.snoc{d:Dev}{b:Int}{A:A4}{i:Nat}{s:SlV}{L':A4}(h:B58 d b A i s L')(hi:i<=16)(g:PG)(hg:g.Ok)(hl:g.l=(M4 d b i).1){L2:A4}(hp2:L2.Perm (g.seg++L')){k:SlV->HP}(hk: ∀s' L',B58 d b A (i+1) s' L'->k s' L'):
  apv PP tPs tPs tPs tB s 1 [g.val] k L2:=by
 obtain⟨gs,sg,J,hp,own,hok,hgl⟩:=h
 have hln:=congrArg List.length hgl
 rw[List.length_map,List.length_map,List.length_range]at hln
 have hsl:=own.len
 rw[List.length_map]at hsl
 refine Af2 Bk4 Cp0 (Y:=g.seg++(pgs gs++(J++A))) own (pc fun z=>by have:=pcn hp z;have:=pcn hp2 z;simp only[B4]at*;omega) rfl rfl (by omega) fun s2 sg2 _ own2=>hk _ _ ⟨gs++[g],sg2,J,?_,?_,?_,?_⟩
 ·rw[P7,Ax6]
  exact pc fun z=>by simp only[B4];omega
 ·rw[List.map_append];exact own2
 ·intro g' hg'
  rcases List.mem_append.1 hg' with h1|h1
  ·exact hok g' h1
  ·rw[List.mem_singleton.1 h1];exact hg
 ·rw[List.range_succ,List.map_append,List.map_append,hgl,List.map_singleton,List.map_singleton,hl]
theorem B58.err{d:Dev}{b:Int}{A:A4}{i:Nat}{s:SlV}{L' J L2:A4}(h:B58 d b A i s L')(hi:i<d.c.P){z:Int}(hz:z=H8 d b i)(hne:z≠0)(hp:L2.Perm (J++L')):HL.Ends (Dg5 (N0 d b) A) (.t #[.slice none 0 0,.i z]) L2:=by
 obtain⟨G,hG⟩:=h.p
 have e:N0 d b=([],z):=by rw[Ch8 hi]at hz;unfold N0;rw[<-hz,if_pos hne]
 exact .drop (A:=A) (J:=J++G) ⟨⟨none,0,0⟩,[],[],by rw[e],rfl,F4,by simp,by rw[e];rfl⟩ (pc fun z=>by have:=pcn hG z;have:=pcn hp z;simp only[B4]at*;omega)
theorem Db6(m:Nat)(d:Dev)(A:A4)(h:FH m d A)(ok:Q3 d)(b:Int):CallF PP 223 #[.q (some ⟨m,0,none⟩),.i b] A (Dg5 (N0 d b) A):=by
 refine c223 (some ⟨m,0,none⟩) b ?_
 unfold s223
 have hP:=DG.pb ok
 refine ifF rfl (B7 (An5 m d A h) ((d.c.B,d.c.P,d.c.S,d.c.W,()),()) rfl ?_)
 refine G0 (fun z' z L'=> ∃(i:Nat) (s:SlV),i<=d.c.P/\z'=d.c.P-i/\z=(s,(i:Int),())/\B58 d b A i s L'/\(0<i->H8 d b 0=0)) d.c.P ⟨0,⟨none,0,0⟩,by omega,by omega,rfl,B58.nil d b A,by omega⟩ ?_
 rintro z' z L1 ⟨i,s,hi,rfl,rfl,hI,h0⟩
 dsimp only
 obtain⟨G,hG⟩:=hI.p
 refine B8 (fun(hlt:(i:Int)<d.c.P)=>?_) (fun(hge: ¬(i:Int)<d.c.P)=>?_)
 ·have hi':i<d.c.P:=by omega
  refine G5 (Bp0 m d A h ok b i) hG ?_
  rintro _ _ ⟨g,rfl,rfl,hg,hgl⟩
  have hre:=Aw5 ok b (i:Int)
  have hpp:((g.seg++A)++G).Perm (g.seg++L1):=pc fun z=>by have:=pcn hG z;simp only[B4]at*;omega
  refine⟨_,List.Perm.refl _,(g.v,(M4 d b (i:Int)).2,()),rfl,B8 (fun(he:(M4 d b (i:Int)).2=0)=>?_) (fun(he: ¬(M4 d b (i:Int)).2=0)=>hI.err hi' hre he hpp)⟩
  exact hI.snoc (by omega) g hg hgl hpp fun s' L' hI'=>D9 (by omega) ⟨d.c.P-(i+1),by omega,i+1,s',by omega,rfl,rfl,hI',fun _=>by rw[<-Ch8 hi',<-hre];exact he⟩
 ·obtain rfl:i=d.c.P:=by omega
  exact hI.fin (h0 (by omega))
end Go.Proofs.YtbaoieipijmakaaGreatDoor
