/-
  It is proved what the functions that the law StoreBytes reaches compute, part 3. There are no further conditions than those that each theorem names.
-/
import Derived.Test.YtbaoieipijmakaaGreatDoorMStoreBytes2
set_option linter.unusedVariables false
set_option linter.unusedSimpArgs false
namespace Go.Proofs.YtbaoieipijmakaaGreatDoor
open Go.HL
theorem Ce0{d:Dev}(ok:Q3 d)(b:Int):(N0 d b).1.length<=16/\ ∀x∈(N0 d b).1,x.length<=512:=by
 have hP:=ok.c.p
 have hS:=ok.c.s
 unfold N0
 split
 ·exact⟨by simp,by simp⟩
 ·refine⟨by simp;omega,fun x hx=>?_⟩
  simp only[List.mem_map]at hx
  obtain⟨p,hp,rfl⟩:=hx
  have hp2:p<d.c.P:=List.mem_range.1 hp
  unfold M4
  split
  ·simp
  ·split
   ·simp
   ·rename_i k hk
    have hm:k∈d.bs:=List.mem_of_getElem? hk
    have h1:=ok.pg k hm
    split
    ·simp[blk];omega
    ·rw[Int.toNat_natCast,List.getD_eq_getElem?_getD,List.getElem?_eq_getElem (by omega),Option.getD_some,h1.2 _ (List.getElem_mem _)];omega
theorem Da0{L:A4}{v:SlV}{gs:List PG}{seg Y:A4}(own:Own v 1 tB (gs.map PG.val) seg)(hg: ∀g∈gs,g.Ok)(hp:L.Perm (seg++(pgs gs++Y))):Y1 L v (pvs gs):=
 A85 own hg (fun x hx=>hp.symm.subset (by simp[hx])) (fun x hx=>hp.symm.subset (by simp[hx]))
theorem Ax0(gs:List PG):(pvs gs).map Prod.snd=gs.map PG.l:=by unfold pvs;rw[List.map_map];rfl
theorem Ct8{d:Dev}(ok:Q3 d){b:Int}{gs:List PG}(hl:gs.map PG.l=(N0 d b).1):(pvs gs).length<=16/\ ∀x∈pvs gs,x.2.length<=512:=by
 have h:=Ce0 ok b
 rw[<-hl,<-Ax0,List.length_map]at h
 exact⟨h.1,fun x hx=>h.2 _ (List.mem_map_of_mem hx)⟩
def As4(x:It):Prop:=1<=x.2.1/\x.2.1<=255/\1<=x.2.2.1/\x.2.2.1<=255
theorem Bf0{p:List UInt8}: ∀{n i:Nat} {nx:Int} {y:List It×Int},1<=nx->Af4 p n i nx=some y->(∀x∈y.1,nx<=x.2.1/\As4 x)/\y.1.Pairwise (fun a b=>a.2.1<b.2.1)
 |0,i,nx,y,_,h=>by obtain rfl:=Option.some.inj h;simp
 |n+1,i,nx,y,h1,h=>by
  rw[Af4]at h
  split at h
  ·rename_i hc
   rw[Option.map_eq_some_iff]at h
   obtain⟨y2,h2,rfl⟩:=h
   have hb: ∀k,(p.getD k 0).toNat<=255:=fun k=>by have:=(p.getD k 0).toNat_lt;omega
   have e1:(G6 p i).2.1=((p.getD (i*3+1) 0).toNat:Int):=rfl
   have e2:(G6 p i).2.2.1=((p.getD (i*3+2) 0).toNat:Int):=rfl
   have h3:=hb (i*3+1)
   have h4:=hb (i*3+2)
   have hpos:1<=(G6 p i).2.2.1:=by have:=hc.2.1;omega
   obtain⟨i1,i2⟩:=Bf0 (by omega) h2
   refine⟨fun x hx=>?_,?_⟩
   ·rcases List.mem_cons.1 hx with rfl|hx
    ·exact⟨by omega,by omega,by omega,hpos,by omega⟩
    ·have:=i1 x hx
     exact⟨by omega,this.2⟩
   ·rw[List.pairwise_cons]
    exact⟨fun x hx=>by have:=(i1 x hx).1;omega,i2⟩
  ·cases h
theorem Cw8{ps:List (List UInt8)}{ep:Int}{q:Nat}{x:It}(h:N3 ps ep q=some x):x.2.1=q:=by
 unfold N3 at h
 split at h
 ·split at h
  ·split at h
   ·obtain rfl:=Option.some.inj h;rfl
   ·cases h
  ·cases h
 ·cases h
theorem A03{ps:List (List UInt8)}{ep:Int}{last:Nat}(hl:last<=15): ∀{k p:Nat},1<=p->(∀x∈Ae0 (N3 ps ep) last k p,(p:Int)<=x.2.1/\As4 x)/\(Ae0 (N3 ps ep) last k p).Pairwise (fun a b=>a.2.1<b.2.1)
 |0,p,_=>by simp[Ae0]
 |k+1,p,h1=>by
  rw[Ae0]
  split
  ·rename_i hp
   cases hf:N3 ps ep p with
   |none=>
    obtain⟨i1,i2⟩:=A03 (ps:=ps) (ep:=ep) hl (k:=k) (p:=p+1) (by omega)
    exact⟨fun x hx=>by have:=i1 x hx;exact⟨by omega,this.2⟩,i2⟩
   |some x0=>
    have h2:=Cw8 hf
    have h3:=Bj3 hf
    obtain⟨i1,i2⟩:=A03 (ps:=ps) (ep:=ep) hl (k:=k) (p:=p+x0.2.2.1.toNat) (by omega)
    refine⟨fun x hx=>?_,?_⟩
    ·rcases List.mem_cons.1 hx with rfl|hx
     ·exact⟨by omega,by omega,by omega,by omega,by omega⟩
     ·have:=i1 x hx
      exact⟨by omega,this.2⟩
    ·rw[List.pairwise_cons]
     exact⟨fun x hx=>by have:=(i1 x hx).1;omega,i2⟩
  ·simp
theorem B88{p:List UInt8}{last:Nat}{l:List It}(h:Ab6 p last=some l):(∀x∈l,As4 x)/\l.Pairwise (fun a b=>a.2.1<b.2.1):=by
 unfold Ab6 at h
 split at h
 ·cases h
 ·split at h
  ·rename_i y hy
   split at h
   ·obtain rfl:=Option.some.inj h
    obtain⟨h1,h2⟩:=Bf0 (by omega) hy
    exact⟨fun x hx=>(h1 x hx).2,h2⟩
   ·cases h
  ·cases h
theorem B90(ps:List (List UInt8)):(∀x∈(P6 ps).1.2.2,As4 x)/\(P6 ps).1.2.2.Pairwise (fun a b=>a.2.1<b.2.1):=by
 unfold P6
 split
 ·simp
 ·split
  ·split
   ·rename_i l hl
    split at hl
    ·unfold A15 at hl
     rw[Option.bind_eq_some_iff]at hl
     obtain⟨p,-,hp⟩:=hl
     exact B88 hp
    ·cases hl
   ·have hla:M1 ps<=15:=by have:=Ba1 ps (min ps.length 16-1);unfold M1;omega
    obtain⟨h1,h2⟩:=A03 (ps:=ps) (ep:=epR ps) hla (k:=17) (p:=1) (by omega)
    exact⟨fun x hx=>(h1 x hx).2,h2⟩
  ·simp
theorem Cq2(ps:List (List UInt8)):0<=(P6 ps).1.1/\(P6 ps).1.1<=1073741824:=by
 have h: ∀l,Z5 ps 0 (1,0,1,epR ps,0,())=some l->0<=epR ps/\epR ps<=1073741824:=by
  intro l hl
  unfold Z5 at hl
  split at hl
  ·split at hl
   ·split at hl
    ·rename_i b hb hc
     have h1:=Ab1 (Bv7 hc.1)
     rw[hc.2]at h1
     simp only at h1
     omega
    ·cases hl
   ·cases hl
  ·cases hl
 unfold P6
 split
 ·simp
 ·split
  ·rename_i hs
   have:=h _ hs
   split
   ·exact this
   ·exact this
  ·simp
def Cm6(b:List UInt8)(s:ByteArray):List UInt8×Int:=if 65536<s.size then([],4)else(b++P2 s.size 4++s.data.toList,0)
def TxtK(b:List UInt8)(s:ByteArray)(A:A4)(v:Value)(L':A4):Prop:= ∃(u:SlV) (seg:A4),v= .t #[.slice u.a u.len u.cap,.i (Cm6 b s).2]/\L'=seg++A/\Own u 1 eB (bvs (Cm6 b s).1) seg
theorem B81(s:ByteArray):s.data.toList.length=s.size:=by rw[Array.length_toList];rfl
theorem wput4(b:List UInt8)(n:Nat)(h:n<=65536):Au8 b n 4=(b++P2 n 4,0):=by
 have:=Ak0 (b:=b) (n:=n) (w:=4) (by omega) (by omega) (by simp;omega)
 simpa using this
theorem C62(s:ByteArray):(s.data.toList.map fun b=>Value.int .u8 b.toNat)=bvs s.data.toList:=rfl
theorem B63(A:A4)(v:SlV)(b:List UInt8)(hb:BSl A v b)(hl:b.length<=1000000)(s:ByteArray)(hs:s.size<=maxLen):
  CallF PP 177 #[.slice v.a v.len v.cap,.w s] A (TxtK b s A):=by
 refine CallF.of (args:=[.slice v.a v.len v.cap,.w s]) B5 B6 Tryz.func177 (e177 v s _) ?_
 unfold t177
 refine C0 (fun(h1:(s.size:Int)>65536)=>.of ?_) (fun(h1: ¬(s.size:Int)>65536)=>?_)
 ·have e:Cm6 b s=([],4):=by unfold Cm6;rw[if_pos (by omega)]
  exact⟨⟨none,0,0⟩,[],by rw[e],rfl,by rw[e];exact F4⟩
 ·have e:Cm6 b s=(b++P2 s.size 4++s.data.toList,0):=by unfold Cm6;rw[if_neg (by omega)]
  refine J5 [] [] (A70 A v b hb hl s.size 4 (by omega)) (by simp) ?_
  rintro w A'-⟨u,seg,rfl,rfl,own⟩
  rw[wput4 b s.size (by omega)]at own⊢
  refine⟨(u,0,()),rfl,?_⟩
  have hul:=own.sl.len
  rw[E7,List.length_append,Aa6]at hul
  refine E6 An3 srcS [] A own (by simp) (.str s) (K5 _) (by first|omega|(simp only;omega)) fun u' seg' hu' own'=>?_
  rw[C62,<-Ai4]at own'
  exact .of ⟨u',seg',by rw[e],rfl,by rw[e];exact own'⟩
def RD(m:Nat)(b:List UInt8)(at':Nat)(A:A4):Prop:= ∃(s:SlV) (seg:A4),A=(m,Obj.cells #[.slice s.a s.len s.cap,.i at'] 389)::seg/\Own s 1 eB (bvs b) seg/\at'<=b.length/\b.length<=1000000
theorem Cr0(A:A4)(v:SlV)(b:List UInt8)(hb:BSl A v b)(hl:b.length<=1000000):
  CallF PP 240 #[.slice v.a v.len v.cap] A fun r L'=> ∃m R,r= .q (some ⟨m,0,none⟩)/\L'=R++A/\RD m b 0 R:=by
 refine CallF.of (args:=[.slice v.a v.len v.cap]) B5 B6 Tryz.func240 (e240 v _) ?_
 unfold t240
 have hlen:=hb.len
 refine C3 fun q _=>E6 An3 Cp1 [] A Ag4 (by simp) (.sl hb.cons) (K5 _) (by first|omega|(simp only;omega)) fun s seg hs own=>?_
 rw[List.nil_append]at own
 exact C3 fun m _=>.of ⟨m,_::seg,rfl,by simp,s,seg,rfl,own,by omega,hl⟩
def A40(b:List UInt8)(a:Nat)(w:Int):Nat:=if(V9 b a w).2=0 then a+w.toNat else a
theorem Ca0{b:List UInt8}{a:Nat}{w:Int}(h:a<=b.length):A40 b a w<=b.length:=by
 unfold A40
 split
 ·rename_i h1
  have:=(Ah5 b a w).2.2.2 h1
  omega
 ·exact h
theorem num_cl(m:Nat)(b:List UInt8)(a:Nat)(A:A4)(h:RD m b a A)(w:Int):
  CallF PP 243 #[.q (some ⟨m,0,none⟩),.i w] A fun r L'=>r= .t #[.i (V9 b a w).1,.i (V9 b a w).2]/\RD m b (A40 b a w) L':=by
 obtain⟨s,seg,rfl,own,ha,hl⟩:=h
 refine CallF.of (args:=[.q (some ⟨m,0,none⟩),.i w]) B5 B6 Tryz.func243 (e243 (some ⟨m,0,none⟩) w _) ?_
 unfold t243
 have hsl:BSl ((m,Obj.cells #[.slice s.a s.len s.cap,.i a] 389)::seg) s b:=own.sl.cons
 refine ifF rfl (A5 rfl (A5 rfl (A6 s (ldB List.mem_cons_self rfl) (A6 (a:Int) (ldB List.mem_cons_self rfl) ?_))))
 have hr:=Ah5 b a w
 have hn:=Ca0 (w:=w) ha
 unfold A40 at hn⊢
 refine B7 (A71 _ s b hsl (by omega) a w) ((V9 b a w).1,(V9 b a w).2,()) rfl ?_
 generalize V9 b a w=g at hr hn⊢
 refine Aa4 (fun(he:g.2=0)=>?_) (fun(he:g.2≠0)=>.of ⟨rfl,by rw[if_neg he];exact⟨s,seg,rfl,own,ha,hl⟩⟩)
 obtain⟨u,rfl⟩: ∃u:Nat,w=u:=⟨w.toNat,by have:=hr.2.2.2 he;omega⟩
 have h7:=hr.2.2.2 he
 have hw:IntKind.i64.wrap ((a:Int)+u)=((a+u:Nat):Int):=by rw[C2 (by omega) (by omega)];omega
 refine A5 rfl (A6 (a:Int) (ldB List.mem_cons_self rfl) (A5 rfl (E3 [] seg rfl rfl (by simp) (.inl (Nat.le_refl _)) #[.slice s.a s.len s.cap,.i ((a+u:Nat):Int)] (by rw[hw];rfl) (.of ⟨rfl,?_⟩))))
 rw[if_pos he,Int.toNat_natCast]at hn⊢
 exact⟨s,seg,rfl,own,hn,hl⟩
theorem Ce4(m:Nat)(b:List UInt8)(a:Nat)(A:A4)(h:RD m b a A):Reads PP 242 #[.q (some ⟨m,0,none⟩)] A (.i ((b.length:Int)-a)):=by
 obtain⟨s,seg,rfl,own,ha,hl⟩:=h
 refine Reads.of (args:=[.q (some ⟨m,0,none⟩)]) B5 B6 Tryz.func242 (e242 (some ⟨m,0,none⟩) _) ?_
 unfold t242
 have hlen:=own.sl.len
 rw[E7,Nat.mul_one]at hlen
 refine ifF rfl (A5 rfl (A5 rfl (A6 s (ldB List.mem_cons_self rfl) (A6 (a:Int) (ldB List.mem_cons_self rfl) (.of ⟨?_,rfl⟩)))))
 rw[hlen,C2 (by omega) (by omega)]
def G4(b:List UInt8)(a:Nat):List UInt8×Nat×Int:=
 if(V9 b a 4).2≠0 then([],a,(V9 b a 4).2)else if 65536<(V9 b a 4).1 then([],a,4)else if(b.length:Int)<a+4+(V9 b a 4).1 then([],a,6)
 else((b.drop (a+4)).take (V9 b a 4).1.toNat,a+4+(V9 b a 4).1.toNat,0)
def C64(l:List UInt8):Value:=.w ⟨l.toArray⟩
theorem Bz0{L:A4}{s:SlV}{b:List UInt8}(h:BSl L s b){i j:Nat}(h1:i<=j)(h2:j<=b.length):BSl L (P1 s i j s.cap 1) ((b.drop i).take (j-i)):=by
 have hl:=h.len
 have hc:=h.cap
 have:=Sl.slc (m:=s.cap) h (by omega) h1 (by omega) (by omega)
 rwa [Ah1]at this
theorem B69(m:Nat)(b:List UInt8)(a:Nat)(A:A4)(h:RD m b a A):
  CallF PP 241 #[.q (some ⟨m,0,none⟩)] A fun r L'=>r= .t #[C64 (G4 b a).1,.i (G4 b a).2.2]/\RD m b (G4 b a).2.1 L':=by
 obtain⟨s,seg,rfl,own,ha,hl⟩:=h
 refine CallF.of (args:=[.q (some ⟨m,0,none⟩)]) B5 B6 Tryz.func241 (e241 (some ⟨m,0,none⟩) _) ?_
 unfold t241
 have hsl: ∀{o:Obj},BSl ((m,o)::seg) s b:=own.sl.cons
 have hlen:=own.sl.len
 rw[E7,Nat.mul_one]at hlen
 have hcap:=own.cap
 refine ifF rfl (A5 rfl (A5 rfl (A6 s (ldB List.mem_cons_self rfl) (A6 (a:Int) (ldB List.mem_cons_self rfl) ?_))))
 have hr:=Ah5 b a 4
 unfold G4
 refine B7 (A71 _ s b hsl (by omega) a 4) ((V9 b a 4).1,(V9 b a 4).2,()) rfl ?_
 generalize V9 b a 4=g at hr⊢
 refine O2 (fun(he:g.2≠0)=>.of ?_) (fun(he:g.2=0)=>?_)
 ·rw[if_pos he];exact⟨rfl,s,seg,rfl,own,ha,hl⟩
 have h4:=hr.2.2.2 he
 have hw:IntKind.i64.wrap ((a:Int)+4)=((a+4:Nat):Int):=by rw[C2 (by omega) (by omega)];omega
 rw[if_neg (by omega)]
 refine A5 rfl (A6 (a:Int) (ldB List.mem_cons_self rfl) ?_)
 simp only[hw]
 refine C0 (fun(h5:g.1>65536)=>.of ?_) (fun(h5: ¬g.1>65536)=>?_)
 ·rw[if_pos h5];exact⟨rfl,s,seg,rfl,own,ha,hl⟩
 rw[if_neg h5]
 refine A5 rfl (A6 s (ldB List.mem_cons_self rfl) ?_)
 rw[C2 (n:=(s.len:Int)-((a+4:Nat):Int)) (by omega) (by omega)]
 refine C0 (fun(h6:g.1>(s.len:Int)-((a+4:Nat):Int))=>.of ?_) (fun(h6: ¬g.1>(s.len:Int)-((a+4:Nat):Int))=>?_)
 ·rw[if_pos (by omega)];exact⟨rfl,s,seg,rfl,own,ha,hl⟩
 rw[if_neg (by omega)]
 obtain⟨u,hu⟩: ∃u:Nat,g.1=u:=⟨g.1.toNat,by omega⟩
 have hw2:IntKind.i64.wrap (((a+4:Nat):Int)+g.1)=((a+4+u:Nat):Int):=by rw[hu,C2 (by omega) (by omega)];omega
 rw[hw2,hu,Int.toNat_natCast]
 refine A5 rfl (E3 [] seg rfl rfl (by simp) (.inl (Nat.le_refl _)) #[.slice s.a s.len s.cap,.i ((a+4+u:Nat):Int)] rfl ?_)
 refine A5 rfl (A5 rfl (A6 s (ldB List.mem_cons_self rfl) (A6 ((a+4+u:Nat):Int) (ldB List.mem_cons_self rfl) ?_)))
 refine K4 (l':=a+4) (h':=a+4+u) (m':=s.cap) rfl rfl rfl (by omega) (by omega) (Nat.le_refl _) ?_
 have hc:=Bz0 (hsl (o:=Obj.cells #[.slice s.a s.len s.cap,.i ((a+4+u:Nat):Int)] 389)) (i:=a+4) (j:=a+4+u) (by omega) (by omega)
 rw[show a+4+u-(a+4)=u by omega]at hc
 exact Cl5 hc (.of ⟨rfl,s,seg,rfl,own,(show a+4+u<=b.length by omega),hl⟩)
abbrev Tab(L:A4):Prop:=D4 ⟨0,0,none⟩ [.i 1,.i 2,.i 4,.i 8] L
theorem Tab.mono{A L:A4}(h:Tab A)(hs: ∀p∈A,p∈L):Tab L:=D4.mono h hs
theorem Tab.cons{L:A4}{p:Nat×Obj}(h:Tab L):Tab (p::L):=D4.mono h fun _ hp=>List.mem_cons_of_mem _ hp
def Bl3:List Int->Int->Int->Int
 |[],_,_=>0
 |k::r,n,p=>if k≥n/\k<=p-2 then k else Bl3 r n p
def cls(n p:Int):Int:=if n<1\/p<2 then 0 else Bl3 [1,2,4,8] n p
theorem Cx8(L:A4)(hT:Tab L)(n p:Int)(hp:p<=9223372036854775807):Reads PP 108 #[.i n,.i p] L (.i (cls n p)):=by
 refine Reads.of (args:=[.i n,.i p]) B5 B6 Tryz.func108 (e108 n p _) ?_
 unfold t108 cls
 refine C0 (fun(h1:n<1)=>.of ⟨by rw[if_pos (.inl h1)],rfl⟩) (fun(h1: ¬n<1)=>?_)
 refine C0 (fun(h2:p<2)=>.of ⟨by rw[if_pos (.inr h2)],rfl⟩) (fun(h2: ¬p<2)=>?_)
 rw[if_neg (by omega)]
 refine A6 (1,2,4,8,()) hT ?_
 refine G0 (fun z' z L'=>L'=L/\ ∃i:Nat,i<=4/\z'=4-i/\z=((i:Int),())/\Bl3 (([1,2,4,8]:List Int).drop i) n p=Bl3 [1,2,4,8] n p) 4 ⟨rfl,0,by omega,by omega,rfl,rfl⟩ ?_
 rintro z' z L1 ⟨hL1,i,hi,rfl,rfl,hc⟩
 rw[hL1]
 have hw:IntKind.i64.wrap (p-2)=p-2:=C2 (by omega) (by omega)
 refine C0 (fun(hlt:(i:Int)<4)=>?_) (fun(hge: ¬(i:Int)<4)=>?_)
 ·obtain⟨k,r,hdr,hrun,hdr2⟩: ∃(k:Int) (r:List Int),([1,2,4,8]:List Int).drop i=k::r/\(∀w,(Instr.index 266 (.agg #[.i 1,.i 2,.i 4,.i 8]) (.i (i:Int))).run PP w= .ok (.i k) w)/\([1,2,4,8]:List Int).drop (i+1)=r:=by
   have h4:i=0\/i=1\/i=2\/i=3:=by omega
   rcases h4 with rfl|rfl|rfl|rfl
   ·exact⟨1,[2,4,8],rfl,fun w=>by kernel_rfl,rfl⟩
   ·exact⟨2,[4,8],rfl,fun w=>by kernel_rfl,rfl⟩
   ·exact⟨4,[8],rfl,fun w=>by kernel_rfl,rfl⟩
   ·exact⟨8,[],rfl,fun w=>by kernel_rfl,rfl⟩
  rw[hdr,show Bl3 (k::r) n p=(if k≥n/\k<=p-2 then k else Bl3 r n p)from rfl]at hc
  have hnext: ¬(k≥n/\k<=p-2)-> ∃k',k'<4-i/\L=L/\ ∃j:Nat,j<=4/\k'=4-j/\((IntKind.i64.wrap ((i:Int)+1),()):Int×Unit)=((j:Int),())/\Bl3 (([1,2,4,8]:List Int).drop j) n p=Bl3 [1,2,4,8] n p:=by
   intro hn
   refine⟨4-(i+1),by omega,rfl,i+1,by omega,rfl,?_,?_⟩
   ·rw[C2 (by first|omega|(simp only;omega)) (by first|omega|(simp only;omega))]
    rfl
   ·rw[hdr2]
    rw[if_neg hn]at hc
    exact hc
  refine⟨k,hrun,?_⟩
  simp only[hw]
  refine C0 (fun(h3:k≥n)=>?_) (fun(h3: ¬k≥n)=>hnext fun h=>h3 h.1)
  refine C0 (fun(h4:k<=p-2)=>.of ⟨?_,rfl⟩) (fun(h4: ¬k<=p-2)=>hnext fun h=>h4 h.2)
  rw[if_pos ⟨h3,h4⟩]at hc
  rw[hc]
 ·obtain rfl:i=4:=by omega
  refine .of ⟨?_,rfl⟩
  rw[<-hc];rfl
theorem Df2(n p:Int):0<=cls n p/\cls n p<=8:=by
 unfold cls
 split
 ·exact⟨by decide,by decide⟩
 ·simp only[Bl3]
  repeat' split
  all_goals omega
theorem cls_ge{n p:Int}(h:cls n p≠0):n<=cls n p/\cls n p<=p-2/\1<=cls n p/\cls (cls n p) p=cls n p:=by
 unfold cls at h
 split at h
 ·exact absurd rfl h
 ·rename_i h0
  have hc:cls n p=Bl3 [1,2,4,8] n p:=by unfold cls;rw[if_neg h0]
  rw[hc]
  simp only[Bl3]at h⊢
  split at h
  ·rename_i h1
   rw[if_pos h1]
   exact⟨h1.1,h1.2,by decide,by unfold cls;rw[if_neg (by omega)];simp only[Bl3];rw[if_pos (by omega)]⟩
  ·rename_i h1
   rw[if_neg h1]
   split at h
   ·rename_i h2
    rw[if_pos h2]
    exact⟨h2.1,h2.2,by decide,by unfold cls;rw[if_neg (by omega)];simp only[Bl3];rw[if_neg (by omega),if_pos (by omega)]⟩
   ·rename_i h2
    rw[if_neg h2]
    split at h
    ·rename_i h3
     rw[if_pos h3]
     exact⟨h3.1,h3.2,by decide,by unfold cls;rw[if_neg (by omega)];simp only[Bl3];rw[if_neg (by omega),if_neg (by omega),if_pos (by omega)]⟩
    ·rename_i h3
     rw[if_neg h3]
     split at h
     ·rename_i h4
      rw[if_pos h4]
      exact⟨h4.1,h4.2,by decide,by unfold cls;rw[if_neg (by omega)];simp only[Bl3];rw[if_neg (by omega),if_neg (by omega),if_neg (by omega),if_pos (by omega)]⟩
     ·exact absurd rfl h
theorem Ba3(L:A4)(n:Int):Reads PP 107 #[.i n] L (.b (decide (1<=n/\n<=255))):=by
 refine Reads.of (args:=[.i n]) B5 B6 Tryz.func107 (e107 n _) ?_
 unfold t107
 refine C0 (fun(h:n≥1)=>.of ⟨?_,rfl⟩) (fun(h: ¬n≥1)=>.of ⟨by rw[decide_eq_false (by omega)],rfl⟩)
 congr 1
 rw[decide_eq_decide]
 omega
abbrev Cf:=Int×Int×Int×Int×Unit
def H4(key value:Int)(c:Cf):Int:=
 if key<1\/key>255\/value<0\/value>65536\/C7 c.2.2.1=0 then 0 else cls ((key+value+12+C7 c.2.2.1-1)/C7 c.2.2.1) c.2.1
theorem Ab8{n:Int}(h:C7 n≠0):48<=C7 n/\C7 n<=496:=by
 unfold C7 at h⊢
 split at h
 ·rename_i h1;rw[if_pos h1];omega
 ·exact absurd rfl h
theorem Bv9(L:A4)(hT:Tab L)(key value:Int)(c:Cf)(hc:c.2.1<=9223372036854775807):Reads PP 47 #[.i key,.i value,.agg #[.i c.1,.i c.2.1,.i c.2.2.1,.i c.2.2.2.1]] L (.i (H4 key value c)):=by
 refine Reads.of (args:=[.i key,.i value,.agg #[.i c.1,.i c.2.1,.i c.2.2.1,.i c.2.2.2.1]]) B5 B6 Tryz.func47 (e47 key value c _) ?_
 unfold t47
 refine C3 fun n1 _=>?_
 generalize ho:(n1,Obj.cells #[.i c.1,.i c.2.1,.i c.2.2.1,.i c.2.2.2.1] 23)=o1
 have lc:D4 ⟨n1,0,none⟩ [.i c.1,.i c.2.1,.i c.2.2.1,.i c.2.2.2.1] (o1::L):=ldB (by rw[<-ho];exact List.mem_cons_self) rfl
 clear ho
 refine A6 c.2.2.1 (lc.one 2 rfl) (B7 (Ah9 _ c.2.2.1) (C7 c.2.2.1,()) rfl (B7 (Ba3 _ key) (decide (1<=key/\key<=255),()) rfl ?_))
 have hno:(key<1\/key>255\/value<0\/value>65536\/C7 c.2.2.1=0)->HL.Ends (fun v' L'=>v'=Value.i (H4 key value c)/\L'=L) (.i 0) (o1::L):=fun h=>.cons (.of ⟨by unfold H4;rw[if_pos h],rfl⟩)
 by_cases hk:1<=key/\key<=255
 case neg=>rw[decide_eq_false hk];exact ifT rfl (hno (by omega))
 rw[decide_eq_true hk]
 refine ifF rfl (C0 (fun(h1:value<0)=>hno (by omega)) (fun(h1: ¬value<0)=>C0 (fun(h2:value>65536)=>hno (by omega)) (fun(h2: ¬value>65536)=>?_)))
 refine Aa4 (fun(h3:C7 c.2.2.1=0)=>hno (by omega)) (fun(h3:C7 c.2.2.1≠0)=>Ab9 h3 ?_)
 have hr:=Ab8 h3
 have hp:H4 key value c=cls ((key+value+12+C7 c.2.2.1-1)/C7 c.2.2.1) c.2.1:=by unfold H4;rw[if_neg (by omega)]
 have e1:IntKind.i64.wrap (key+value)=key+value:=C2 (by omega) (by omega)
 have e2:IntKind.i64.wrap (key+value+12)=key+value+12:=C2 (by omega) (by omega)
 have e3:IntKind.i64.wrap (key+value+12+C7 c.2.2.1)=key+value+12+C7 c.2.2.1:=C2 (by omega) (by omega)
 have e4:IntKind.i64.wrap (key+value+12+C7 c.2.2.1-1)=key+value+12+C7 c.2.2.1-1:=C2 (by omega) (by omega)
 have e5:Int.tdiv (key+value+12+C7 c.2.2.1-1) (C7 c.2.2.1)=(key+value+12+C7 c.2.2.1-1)/C7 c.2.2.1:=Int.tdiv_eq_ediv_of_nonneg (by omega)
 have e6:IntKind.i64.wrap ((key+value+12+C7 c.2.2.1-1)/C7 c.2.2.1)=(key+value+12+C7 c.2.2.1-1)/C7 c.2.2.1:=by
  have h1:=Int.ediv_le_self (C7 c.2.2.1) (show 0<=key+value+12+C7 c.2.2.1-1 by omega)
  have h2:=Int.ediv_nonneg (show 0<=key+value+12+C7 c.2.2.1-1 by omega) (show 0<=C7 c.2.2.1 by omega)
  exact C2 (by omega) (by omega)
 simp only[e1,e2,e3,e4,e5,e6]
 refine A6 c.2.1 (lc.one 1 rfl) (B7 (Cx8 _ hT.cons _ c.2.1 hc) (cls ((key+value+12+C7 c.2.2.1-1)/C7 c.2.2.1) c.2.1,()) rfl (.cons (.of ⟨by rw[hp],rfl⟩)))
theorem Dd5(n:Nat)(hn:n<=1099511627776):CallF PP 290 #[.slice none 0 0,.i n] [] fun r L'=> ∃(s:SlV) (seg:A4),r= .slice s.a s.len s.cap/\L'=seg/\Own s 1 eB [] seg:=by
 refine CallF.of (args:=[.slice none 0 0,.i n]) B5 B6 Tryz.func290 (e290 ⟨none,0,0⟩ n _) ?_
 unfold t290
 refine W7 (fun y L'=>L'=[]) ?_ (fun j hj=>ifN (show¬(n:Int)<0 by omega) (hj _ _ rfl))
 rintro _ _ rfl
 have e0:IntKind.i64.wrap (((0:Nat):Int)-((0:Nat):Int))=0:=by decide
 have e1:IntKind.i64.wrap ((n:Int)-0)=n:=C2 (by omega) (by omega)
 simp only[e0,e1]
 refine C0 (fun(h:(n:Int)>0)=>?_) (fun(h: ¬(n:Int)>0)=>.of ⟨⟨none,0,0⟩,[],rfl,rfl,F4⟩)
 refine K4 (l':=0) (h':=0) (m':=0) rfl rfl rfl (by decide) (by decide) (by decide) ?_
 have hs0:P1 ⟨none,0,0⟩ ((0:Nat):Int) ((0:Nat):Int) ((0:Nat):Int) 1=⟨none,0,0⟩:=by simp[P1]
 rw[hs0]
 refine Cw0 (n:=n) (ik:=.i64) An3 (by kernel_rfl) (by omega) (by omega) fun q cap ob hcap own=>?_
 refine K4 (l':=0) (h':=0) (m':=cap) rfl rfl rfl (by omega) (by omega) (Nat.le_refl _) ?_
 have hs:P1 ⟨some ⟨q,0,none⟩,n,cap⟩ ((0:Nat):Int) ((0:Nat):Int) (cap:Int) 1=⟨some ⟨q,0,none⟩,0,cap⟩:=by
  simp only[P1]
  rw[if_neg (by omega)]
  simp[Addr.add]
 rw[hs]
 exact .of ⟨⟨some ⟨q,0,none⟩,0,cap⟩,[(q,ob)],rfl,rfl,own⟩
theorem Ck1(A:A4)(v:SlV)(l:List PV)(h:Y1 A v l)(hb:(Aj0 l).length<=1099511627776)(hl:l.length<=1099511627776):
  CallF PP 233 #[.slice v.a v.len v.cap] A fun r L'=> ∃(s:SlV) (seg:A4),r= .slice s.a s.len s.cap/\L'=seg++A/\Own s 1 eB (bvs (Aj0 l)) seg:=by
 refine CallF.of (args:=[.slice v.a v.len v.cap]) B5 B6 Tryz.func233 (e233 v _) ?_
 unfold t233
 have hlen:=h.len
 refine G0 (fun z' z L'=>L'=A/\ ∃i:Nat,i<=l.length/\z'=l.length-i/\z=(((Aj0 (l.take i)).length:Int),(i:Int),())) l.length ⟨rfl,0,by omega,by omega,rfl⟩ ?_
 rintro z' z L1 ⟨hL1,i,hi,rfl,rfl⟩
 rw[hL1]
 refine C0 (fun(hlt:(i:Int)<(v.len:Int))=>?_) (fun(hge: ¬(i:Int)<(v.len:Int))=>?_)
 ·have hi':i<l.length:=by omega
  obtain⟨a,ha,hld⟩:=h.at' hi'
  have hbl:=(h.val _ (List.getElem_mem hi')).len
  have hs:=Bl6 l hi'
  have hle:=Ar7 l (i+1)
  have hsl:(Aj0 (l.take (i+1))).length=(Aj0 (l.take i)).length+l[i].1.len:=by rw[hs,List.length_append,hbl]
  refine A5 ha (E0 (show(0:Int)<=(i:Int) by omega) hlt (A6 l[i].1 hld ?_))
  have e1:IntKind.i64.wrap (((Aj0 (l.take i)).length:Int)+(l[i].1.len:Int))=((Aj0 (l.take (i+1))).length:Int):=by rw[C2 (by omega) (by omega),hsl];omega
  simp only[e1]
  refine ifN (show¬((Aj0 (l.take (i+1))).length:Int)<0 by omega) ⟨l.length-(i+1),by omega,rfl,i+1,by omega,rfl,?_⟩
  rw[C2 (by first|omega|(simp only;omega)) (by first|omega|(simp only;omega))]
  rfl
 ·obtain rfl:i=l.length:=by omega
  rw[List.take_length]
  refine J5 [] A (Dd5 (Aj0 l).length hb) rfl ?_
  rintro _ seg0-⟨s0,_,rfl,rfl,own0⟩
  refine⟨(s0,()),rfl,?_⟩
  rw[List.nil_append]
  refine G0 (fun z' z L'=> ∃(i:Nat) (s:SlV) (seg:A4),i<=l.length/\z'=l.length-i/\z=(s,(i:Int),())/\L'=seg++A/\Own s 1 eB (bvs (Aj0 (l.take i))) seg) l.length ⟨0,s0,seg0,by omega,by omega,rfl,rfl,own0⟩ ?_
  rintro z' z _ ⟨i,s,seg,hi,rfl,rfl,rfl,own⟩
  refine C0 (fun(hlt:(i:Int)<(v.len:Int))=>?_) (fun(hge: ¬(i:Int)<(v.len:Int))=>?_)
  ·have hi':i<l.length:=by omega
   obtain⟨a,ha,hld⟩:=h.at' hi'
   have hbl:=(h.val _ (List.getElem_mem hi')).len
   have hs:=Bl6 l hi'
   have hle:=Ar7 l (i+1)
   have hsl:(Aj0 (l.take (i+1))).length=(Aj0 (l.take i)).length+l[i].1.len:=by rw[hs,List.length_append,hbl]
   have hol:=own.sl.len
   rw[E7]at hol
   refine A5 ha (E0 (show(0:Int)<=(i:Int) by omega) hlt (A6 l[i].1 (hld.mono fun x hx=>List.mem_append_right _ hx) ?_))
   refine E6 An3 Cp1 [] A own rfl (.sl (Sl.right (h.val _ (List.getElem_mem hi')))) (K5 _) (by omega) fun s' seg' hs' own'=>?_
   rw[<-Ai4,<-hs]at own'
   refine⟨l.length-(i+1),by omega,i+1,s',seg',by omega,rfl,?_,rfl,own'⟩
   rw[C2 (by first|omega|(simp only;omega)) (by first|omega|(simp only;omega))]
   rfl
  ·obtain rfl:i=l.length:=by omega
   rw[List.take_length]at own
   exact .of ⟨s,seg,rfl,rfl,own⟩
theorem Ay5(A:A4)(v:SlV)(l:List PV)(h:Y1 A v l)(hb:(Aj0 l).length<=1099511627776)(hl:l.length<=1099511627776):
  CallF PP 178 #[.slice v.a v.len v.cap] A fun r L'=> ∃(s:SlV) (seg:A4),r= .slice s.a s.len s.cap/\L'=seg++A/\Own s 1 eB (bvs (Aj0 l)) seg:=by
 refine CallF.of (args:=[.slice v.a v.len v.cap]) B5 B6 Tryz.func178 (e178 v _) ?_
 unfold t178
 refine J5 [] [] (Ck1 A v l h hb hl) (by simp) ?_
 rintro _ _-⟨s,seg,rfl,rfl,own⟩
 refine⟨(s,()),rfl,?_⟩
 rw[List.nil_append,List.append_nil]
 exact .of ⟨s,seg,rfl,rfl,own⟩
def Bs1(key val:List UInt8):List UInt8:=P2 key.length 4++key++(P2 val.length 4++val)
def encA(key val:List UInt8):List UInt8:=Bs1 key val++P2 (H7 (Bs1 key val)).toNat 4
theorem By8(key val:List UInt8):(Bs1 key val).length=key.length+val.length+8:=by
 unfold Bs1
 simp only[List.length_append,Aa6];omega
theorem Cx3(key val:List UInt8):(encA key val).length=key.length+val.length+12:=by
 unfold encA
 rw[List.length_append,By8,Aa6]
def Af0(n r:Nat)(b:List UInt8):List (List UInt8):=(List.range n).map fun i=>(b.drop (i*r)).take r
theorem Bs4(n r:Nat)(b:List UInt8):Af0 (n+1) r b=Af0 n r b++[(b.drop (n*r)).take r]:=by simp[Af0,List.range_succ]
def Q8(key val:List UInt8)(c:Cf):List (List UInt8)×Int:=
 if key.length<1\/key.length>255 then([],2)else if val.length>65536 then([],4)else
 if H4 key.length val.length c=0 then([],14)else(Af0 (H4 key.length val.length c).toNat (C7 c.2.2.1).toNat (encA key val),0)
def Dg8(key val:List UInt8)(c:Cf)(A:A4)(r:Value)(L':A4):Prop:= ∃(ov:SlV) (oseg:A4) (gs:List PG),r= .t #[.slice ov.a ov.len ov.cap,.i (Q8 key val c).2]/\L'=oseg++(pgs gs++A)/\Own ov 1 tB (gs.map PG.val) oseg/\(∀g∈gs,g.Ok)/\gs.map PG.l=(Q8 key val c).1
theorem Dg8.err{key val:List UInt8}{c:Cf}{A:A4}{e:Int}(h:Q8 key val c=([],e)):Dg8 key val c A (.t #[.slice none 0 0,.i e]) A:=
 ⟨⟨none,0,0⟩,[],[],by rw[h],rfl,F4,by simp,by rw[h];rfl⟩
theorem Ao9{key value:Int}{c:Cf}(h:H4 key value c≠0):1<=key/\key<=255/\0<=value/\value<=65536/\C7 c.2.2.1≠0/\1<=H4 key value c/\H4 key value c<=8/\H4 key value c<=c.2.1-2/\key+value+12<=H4 key value c*C7 c.2.2.1/\cls (H4 key value c) c.2.1=H4 key value c:=by
 unfold H4 at h⊢
 split at h
 ·exact absurd rfl h
 ·rename_i h0
  rw[if_neg h0]
  obtain⟨h1,h2,h3,h4⟩:=cls_ge h
  have h5:=Df2 ((key+value+12+C7 c.2.2.1-1)/C7 c.2.2.1) c.2.1
  have hr:=Ab8 (show C7 c.2.2.1≠0 by omega)
  refine⟨by omega,by omega,by omega,by omega,by omega,h3,h5.2,h2,?_,h4⟩
  generalize C7 c.2.2.1=room at*
  generalize hq:(key+value+12+room-1)/room=q at*
  have hq2:key+value+12+room-1<(q+1)*room:=by rw[<-hq];exact Int.lt_ediv_add_one_mul_self _ (by omega)
  rw[Int.add_mul,Int.one_mul]at hq2
  have:=Int.mul_le_mul_of_nonneg_right h1 (show 0<=room by omega)
  omega
theorem B09(s:ByteArray):s.data.toList.length=s.size:=B81 s
theorem C40(A:A4)(hT:Tab A)(key:ByteArray)(hk:key.size<=maxLen)(u:SlV)(val:List UInt8)(hu:BSl A u val)(c:Cf)(hc:c.2.1<=9223372036854775807):
  CallF PP 111 #[.w key,.slice u.a u.len u.cap,.agg #[.i c.1,.i c.2.1,.i c.2.2.1,.i c.2.2.2.1]] A (Dg8 key.data.toList val c A):=by
 refine CallF.of (args:=[.w key,.slice u.a u.len u.cap,.agg #[.i c.1,.i c.2.1,.i c.2.2.1,.i c.2.2.2.1]]) B5 B6 Tryz.func111 (e111 key u c _) ?_
 unfold t111
 have hul:=hu.len
 have hks:=B09 key
 refine C3 fun n1 _=>?_
 generalize ho:(n1,Obj.cells #[.i c.1,.i c.2.1,.i c.2.2.1,.i c.2.2.2.1] 23)=o1
 have lc: ∀L:A4,o1∈L->D4 ⟨n1,0,none⟩ [.i c.1,.i c.2.1,.i c.2.2.1,.i c.2.2.2.1] L:=fun L hm=>ldB (by rw[<-ho]at hm;exact hm) rfl
 clear ho
 refine B7 (Ba3 _ key.size) (decide (1<=(key.size:Int)/\(key.size:Int)<=255),()) rfl ?_
 by_cases h1:1<=(key.size:Int)/\(key.size:Int)<=255
 case neg=>
  rw[decide_eq_false h1]
  exact ifT rfl (.cons (.of (Dg8.err (by unfold Q8;rw[if_pos (by omega)]))))
 rw[decide_eq_true h1]
 refine ifF rfl (C0 (fun(h2:(u.len:Int)>65536)=>.cons (.of (Dg8.err (by unfold Q8;rw[if_neg (by omega),if_pos (by omega)])))) (fun(h2: ¬(u.len:Int)>65536)=>?_))
 have hpe:H4 (key.size:Int) (u.len:Int) c=H4 (key.data.toList.length:Int) (val.length:Int) c:=by rw[hks,hul]
 refine A6 c (lc _ List.mem_cons_self) (B7 (Bv9 _ hT.cons key.size u.len c hc) (H4 key.size u.len c,()) rfl ?_)
 rw[hpe]
 refine Aa4 (fun(h3:H4 (key.data.toList.length:Int) (val.length:Int) c=0)=>.cons (.of (Dg8.err (by unfold Q8;rw[if_neg (by omega),if_neg (by omega),if_pos h3])))) (fun(h3:H4 (key.data.toList.length:Int) (val.length:Int) c≠0)=>?_)
 have hcr:Q8 key.data.toList val c=(Af0 (H4 key.data.toList.length val.length c).toNat (C7 c.2.2.1).toNat (encA key.data.toList val),0):=by unfold Q8;rw[if_neg (by omega),if_neg (by omega),if_neg h3]
 obtain⟨_,_,_,_,hr0,hn1,hn8,_,htot,_⟩:=Ao9 h3
 have hrr:=Ab8 hr0
 unfold Dg8
 rw[hcr]
 generalize hN:H4 (key.data.toList.length:Int) (val.length:Int) c=N at hn1 hn8 htot
 obtain⟨n,rfl⟩: ∃n:Nat,N=n:=⟨N.toNat,by omega⟩
 obtain⟨room,hroom⟩: ∃r:Nat,C7 c.2.2.1=r:=⟨(C7 c.2.2.1).toNat,by omega⟩
 rw[hroom]at hrr
 simp only[hroom,Int.toNat_natCast]
 refine J5 [] [] (B63 (o1::A) ⟨none,0,0⟩ [] (Sl.nil 1) (by decide) key hk) (by simp) ?_
 rintro _ _-⟨s1,sg1,rfl,rfl,own1⟩
 have hw1:Cm6 [] key=(P2 key.data.toList.length 4++key.data.toList,0):=by unfold Cm6;rw[if_neg (by omega),hks];rfl
 rw[hw1]at own1⊢
 rw[List.nil_append,List.append_nil]
 refine⟨(s1,0,()),rfl,Cl5 (v:=u) (l:=val) (Sl.right (R:=sg1) (Sl.cons hu)) ?_⟩
 have hvs:(ByteArray.mk val.toArray).size=val.length:=by show val.toArray.size=_;simp
 refine J5 [] [] (B63 (sg1++(o1::A)) ⟨none,0,0⟩ [] (Sl.nil 1) (by decide) ⟨val.toArray⟩ (by rw[hvs];show val.length<=9223372036854775807;omega)) (by simp) ?_
 rintro _ _-⟨s2,sg2,rfl,rfl,own2⟩
 have hw2:Cm6 [] ⟨val.toArray⟩=(P2 val.length 4++val,0):=by
  unfold Cm6
  rw[hvs,if_neg (by omega)];simp
 rw[hw2]at own2⊢
 rw[List.nil_append,List.append_nil]
 refine⟨(s2,0,()),rfl,C3 fun n2 _=>?_⟩
 have hparts:Y1 ((n2,Obj.cells #[.slice s1.a s1.len s1.cap,.slice s2.a s2.len s2.cap] 27)::(sg2++(sg1++(o1::A)))) ⟨some ⟨n2,0,none⟩,2,2⟩ [(s1,P2 key.data.toList.length 4++key.data.toList),(s2,P2 val.length 4++val)]:=by
  refine⟨⟨rfl,Nat.le_refl _,.inr ⟨_,rfl,ldB List.mem_cons_self rfl⟩⟩,fun x hx=>?_⟩
  have hx':x=(s1,P2 key.data.toList.length 4++key.data.toList)\/x=(s2,P2 val.length 4++val):=by simpa using hx
  rcases hx' with rfl|rfl
  ·exact own1.sl.left.right.cons
  ·exact own2.sl.left.cons
 have hcat:Aj0 [((s1,P2 key.data.toList.length 4++key.data.toList):PV),(s2,P2 val.length 4++val)]=Bs1 key.data.toList val:=by simp[Aj0,Bs1]
 have hel:=By8 key.data.toList val
 refine J5 [] [] (Ay5 _ ⟨some ⟨n2,0,none⟩,2,2⟩ _ hparts (by rw[hcat];omega) (by simp)) (by simp) ?_
 rintro _ _-⟨s3,sg3,rfl,rfl,own3⟩
 rw[hcat]at own3
 rw[List.nil_append,List.append_nil]
 refine⟨(s3,()),rfl,?_⟩
 generalize (n2,Obj.cells #[.slice s1.a s1.len s1.cap,.slice s2.a s2.len s2.cap] 27)=o2
 refine B7 (B74 _ s3 (Bs1 key.data.toList val) own3.sl.left (by omega)) (H7 (Bs1 key.data.toList val),()) rfl ?_
 have hcs:0<=H7 (Bs1 key.data.toList val)/\H7 (Bs1 key.data.toList val)<4294967296:=U0 0 _
 refine J5 [] [] (A70 (sg3++(o2::(sg2++(sg1++(o1::A))))) s3 (Bs1 key.data.toList val) own3.sl.left (by omega) (H7 (Bs1 key.data.toList val)) 4 (by omega)) (by simp) ?_
 rintro _ _-⟨s4,sg4,rfl,rfl,own4⟩
 have hw4:Au8 (Bs1 key.data.toList val) (H7 (Bs1 key.data.toList val)) 4=(encA key.data.toList val,0):=by
  rw[Ak0 (by decide) (by omega) (by show(H7 (Bs1 key.data.toList val)).toNat<4294967296;omega)]
  rfl
 rw[hw4]at own4⊢
 rw[List.nil_append,List.append_nil]
 refine⟨(s4,0,()),rfl,?_⟩
 have hal:=Cx3 key.data.toList val
 generalize encA key.data.toList val=E at own4 hal
 have hbase: ∃J0,sg4++(sg3++(o2::(sg2++(sg1++(o1::A)))))=J0++A/\o1∈J0/\BSl J0 s4 E:=⟨sg4++(sg3++(o2::(sg2++(sg1++[o1])))),by simp,by simp,own4.sl.left⟩
 obtain⟨J0,hJ0,ho1,hE0⟩:=hbase
 rw[hJ0]
 clear hJ0 own4 own3 own2 own1 hparts hcat hel hcs hw4 hw1 hw2
 refine G0 (fun z' z L'=> ∃(i:Nat) (s v:SlV) (seg:A4) (gs:List PG) (J X Y:A4),i<=n/\z'=n-i/\z=(s,v,(i:Int),())/\L'=X++seg++Y/\(X++Y).Perm (pgs gs++(J++(J0++A)))/\BSl J0 s (E.drop (i*room))/\
   Own v 1 tB (gs.map PG.val) seg/\(∀g∈gs,g.Ok)/\gs.map PG.l=Af0 i room E) n
  ⟨0,s4,⟨none,0,0⟩,[],[],[],[],J0++A,by omega,by omega,rfl,rfl,List.Perm.refl _,by rw[Nat.zero_mul,List.drop_zero];exact hE0,F4,by simp,rfl⟩ ?_
 rintro z' z L ⟨i,s,v,seg,gs,J,X,Y,hi,rfl,rfl,rfl,hp,hs,own,hok,hgs⟩
 have hsub: ∀x∈J0,x∈X++seg++Y:=by
  intro x hx
  have h5:x∈X++Y:=(hp.mem_iff (a:=x)).2 (by simp[hx])
  have h6:x∈X\/x∈Y:=by simpa using h5
  rcases h6 with h6|h6<;>simp[h6]
 have hgl:gs.length=i:=by have:=congrArg List.length hgs;rw[List.length_map,Af0,List.length_map,List.length_range]at this;exact this
 have hvl:=own.len
 rw[List.length_map]at hvl
 refine C0 (fun(hlt:(i:Int)<(n:Int))=>?_) (fun(hge: ¬(i:Int)<(n:Int))=>?_)
 ·refine A6 c.2.2.1 ((lc _ (hsub _ ho1)).one 2 rfl) (B7 (Ah9 _ c.2.2.1) (C7 c.2.2.1,()) rfl ?_)
  rw[hroom]
  have hsl:=hs.len
  have hscap:=hs.cap
  have him:Ab3 (s.len:Int) (room:Int)=((min s.len room:Nat):Int):=by unfold Ab3;omega
  simp only[him]
  have hsL:BSl (X++seg++Y) s (E.drop (i*room)):=Sl.mono hs hsub
  refine K4 (l':=0) (h':=min s.len room) (m':=s.cap) rfl rfl rfl (by omega) (by omega) (Nat.le_refl _) ?_
  have hcut:=Bz0 hsL (i:=0) (j:=min s.len room) (by omega) (by omega)
  have hct:((E.drop (i*room)).drop 0).take (min s.len room-0)=(E.drop (i*room)).take room:=by
   rw[List.drop_zero,Nat.sub_zero,hsl,Nat.min_comm]
   exact(List.take_eq_take_min).symm
  rw[hct]at hcut
  generalize P1 s ((0:Nat):Int) ((min s.len room:Nat):Int) (s.cap:Int) 1=c1 at hcut⊢
  refine C3 fun n3 _=>?_
  have hparts:Y1 ((n3,Obj.cells #[.slice c1.a c1.len c1.cap] 27)::(X++seg++Y)) ⟨some ⟨n3,0,none⟩,1,1⟩ [(c1,(E.drop (i*room)).take room)]:=by
   refine⟨⟨rfl,Nat.le_refl _,.inr ⟨_,rfl,ldB List.mem_cons_self rfl⟩⟩,fun x hx=>?_⟩
   have hx':x=(c1,(E.drop (i*room)).take room):=by simpa using hx
   subst hx'
   exact Sl.cons hcut
  have hcat:Aj0 [((c1,(E.drop (i*room)).take room):PV)]=(E.drop (i*room)).take room:=by simp[Aj0]
  refine J5 [] [] (Ay5 _ ⟨some ⟨n3,0,none⟩,1,1⟩ _ hparts (by rw[hcat,List.length_take];omega) (by simp)) (by simp) ?_
  rintro _ _-⟨s9,sg9,rfl,rfl,own9⟩
  rw[hcat]at own9
  rw[List.nil_append,List.append_nil]
  refine⟨(s9,()),rfl,C3 fun n4 _=>?_⟩
  generalize (n3,Obj.cells #[.slice c1.a c1.len c1.cap] 27)=o3
  refine E6 Bk4 Cp0 ((n4,Obj.cells #[.slice s9.a s9.len s9.cap] 27)::(sg9++(o3::X))) Y own (by simp) (n:=1) (ws:=[PG.val ⟨s9,sg9,(E.drop (i*room)).take room⟩]) (x:=.slice (some ⟨n4,0,none⟩) 1 1) (Src.sl (v:=⟨some ⟨n4,0,none⟩,1,1⟩) ⟨rfl,Nat.le_refl _,.inr ⟨_,rfl,ldB List.mem_cons_self rfl⟩⟩) rfl (by omega) fun v8 seg8 hv8 own8=>?_
  generalize (n4,Obj.cells #[.slice s9.a s9.len s9.cap] 27)=o4
  refine K4 (l':=min s.len room) (h':=s.len) (m':=s.cap) rfl rfl rfl (by omega) (by omega) (Nat.le_refl _) ?_
  have hcut2:=Bz0 hs (i:=min s.len room) (j:=s.len) (by omega) (by omega)
  have hct2:((E.drop (i*room)).drop (min s.len room)).take (s.len-min s.len room)=E.drop ((i+1)*room):=by
   rw[List.take_of_length_le (by rw[List.length_drop,<-hsl];omega),List.drop_drop]
   rcases Nat.le_total room s.len with h9|h9
   ·rw[Nat.min_eq_right h9,Nat.add_mul,Nat.one_mul]
   ·rw[List.length_drop]at hsl
    rw[Nat.min_eq_left h9,List.drop_of_length_le (by omega),List.drop_of_length_le (by rw[Nat.add_mul];omega)]
  rw[hct2]at hcut2
  refine⟨n-(i+1),by omega,i+1,_,v8,seg8,gs++[⟨s9,sg9,(E.drop (i*room)).take room⟩],o4::o3::J,_,_,by omega,rfl,?_,rfl,?_,hcut2,?_,?_,?_⟩
  ·rw[C2 (by first|omega|(simp only;omega)) (by first|omega|(simp only;omega))]
   rfl
  ·rw[P7,Ax6]
   classical
   rw[List.perm_iff_count]at hp⊢
   intro z
   have:=hp z
   simp only[List.append_eq,List.cons_append,List.count_append,List.count_cons,List.count_nil]at this⊢
   omega
  ·rw[List.map_append];exact own8
  ·intro z hz
   rcases List.mem_append.1 hz with h5|h5
   ·exact hok z h5
   ·rw[List.mem_singleton.1 h5];exact own9
  ·rw[List.map_append,hgs,Bs4];rfl
 ·obtain rfl:i=n:=by omega
  refine .drop (A:=seg++(pgs gs++A)) (J:=J++J0) ⟨v,seg,gs,rfl,rfl,own,hok,hgs⟩ ?_
  classical
  rw[List.perm_iff_count]at hp⊢
  intro z
  have:=hp z
  simp only[List.append_eq,List.cons_append,List.count_append,List.count_cons,List.count_nil]at this⊢
  omega
def Ac4(b:List UInt8):List UInt8×List UInt8×Int:=
 if(G4 b 0).2.2≠0 then([],[],(G4 b 0).2.2)else
 if(G4 b (G4 b 0).2.1).2.2≠0 then([],[],(G4 b (G4 b 0).2.1).2.2)else
 if(V9 b (G4 b (G4 b 0).2.1).2.1 4).2≠0 then([],[],(V9 b (G4 b (G4 b 0).2.1).2.1 4).2)else
 if b.length>(G4 b (G4 b 0).2.1).2.1+4\/(G4 b 0).1.length<1\/(G4 b 0).1.length>255 then([],[],5)else
 if H7 (b.take (G4 b (G4 b 0).2.1).2.1)≠(V9 b (G4 b (G4 b 0).2.1).2.1 4).1 then([],[],12)else
 ((G4 b 0).1,(G4 b (G4 b 0).2.1).1,0)
def A27(b:List UInt8)(A:A4)(r:Value)(L':A4):Prop:= ∃g:PG,r= .t #[C64 (Ac4 b).1,g.val,.i (Ac4 b).2.2]/\L'=g.seg++A/\g.Ok/\g.l=(Ac4 b).2.1
theorem A27.err{b:List UInt8}{A:A4}{e:Int}(h:Ac4 b=([],[],e)):A27 b A (.t #[.w ⟨#[]⟩,.slice none 0 0,.i e]) A:=⟨pg0,by rw[h];rfl,rfl,Bg6,by rw[h];rfl⟩
theorem Ab4{b:List UInt8}{a:Nat}(h:a<=b.length):a<=(G4 b a).2.1/\(G4 b a).2.1<=b.length/\(G4 b a).1.length<=65536/\((G4 b a).2.2=0->(G4 b a).2.1=a+4+(G4 b a).1.length):=by
 have hg:=Ah5 b a 4
 unfold G4
 split
 ·rename_i h1
  exact⟨Nat.le_refl _,h,by simp,fun h2=>absurd h2 h1⟩
 ·split
  ·exact⟨Nat.le_refl _,h,by simp,fun h=>absurd h (by simp)⟩
  ·split
   ·exact⟨Nat.le_refl _,h,by simp,fun h=>absurd h (by simp)⟩
   ·rename_i h1 h2 h3
    simp only
    rw[List.length_take,List.length_drop]
    omega
theorem B10(l:List UInt8):(ByteArray.mk l.toArray).size=l.length:=by show l.toArray.size=_;simp
theorem Db9(A:A4)(v:SlV)(l:List PV)(h:Y1 A v l)(hb:(Aj0 l).length<=1000000)(hl:l.length<=1099511627776):
  CallF PP 183 #[.slice v.a v.len v.cap] A (A27 (Aj0 l) A):=by
 refine CallF.of (args:=[.slice v.a v.len v.cap]) B5 B6 Tryz.func183 (e183 v _) ?_
 unfold t183
 refine J5 [] [] (Ay5 A v l h (by omega) hl) (by simp) ?_
 rintro _ _-⟨s,seg,rfl,rfl,own⟩
 rw[List.nil_append,List.append_nil]
 generalize Aj0 l=b at hb own⊢
 refine⟨(s,()),rfl,J5 [] [] (Cr0 (seg++A) s b own.sl.left hb) (by simp) ?_⟩
 rintro _ _-⟨m,R0,rfl,rfl,hr0⟩
 rw[List.nil_append,List.append_nil]
 have hsl: ∀R:A4,BSl (R++(seg++A)) s b:=fun R=>own.sl.left.right
 have hslen:=own.sl.len
 rw[E7,Nat.mul_one]at hslen
 have hscap:=own.cap
 refine⟨(some ⟨m,0,none⟩,()),rfl,J5 [] (seg++A) (B69 m b 0 R0 hr0) rfl ?_⟩
 rintro _ R1-⟨rfl,hr1⟩
 rw[List.nil_append]
 obtain⟨q1,q2,q3,q4⟩:=Ab4 (b:=b) (a:=0) (Nat.zero_le _)
 refine⟨(⟨(G4 b 0).1.toArray⟩,(G4 b 0).2.2,()),rfl,?_⟩
 refine O2 (fun(he:(G4 b 0).2.2≠0)=>.app (.app (.of (A27.err (by unfold Ac4;rw[if_pos he]))))) (fun(he:(G4 b 0).2.2=0)=>?_)
 refine J5 [] (seg++A) (B69 m b (G4 b 0).2.1 R1 hr1) rfl ?_
 rintro _ R2-⟨rfl,hr2⟩
 rw[List.nil_append]
 obtain⟨w1,w2,w3,w4⟩:=Ab4 (b:=b) (a:=(G4 b 0).2.1) q2
 refine⟨(⟨(G4 b (G4 b 0).2.1).1.toArray⟩,(G4 b (G4 b 0).2.1).2.2,()),rfl,?_⟩
 refine O2 (fun(he2:(G4 b (G4 b 0).2.1).2.2≠0)=>.app (.app (.of (A27.err (by unfold Ac4;rw[if_neg (by omega),if_pos he2]))))) (fun(he2:(G4 b (G4 b 0).2.1).2.2=0)=>?_)
 have hj:Ac4 b=if(V9 b (G4 b (G4 b 0).2.1).2.1 4).2≠0 then([],[],(V9 b (G4 b (G4 b 0).2.1).2.1 4).2)else
   if b.length>(G4 b (G4 b 0).2.1).2.1+4\/(G4 b 0).1.length<1\/(G4 b 0).1.length>255 then([],[],5)else
   if H7 (b.take (G4 b (G4 b 0).2.1).2.1)≠(V9 b (G4 b (G4 b 0).2.1).2.1 4).1 then([],[],12)else
   ((G4 b 0).1,(G4 b (G4 b 0).2.1).1,0):=by unfold Ac4;rw[if_neg (by omega),if_neg (by omega)]
 refine B7 (Reads.in (X:=[]) (Y:=seg++A) (Ce4 m b _ R2 hr2)) ((b.length:Int)-(G4 b (G4 b 0).2.1).2.1,()) rfl ?_
 generalize (G4 b 0).1=key at q3 hj⊢
 generalize G4 b (G4 b 0).2.1=t2 at hr2 w2 hj⊢
 obtain⟨val,e,z⟩:=t2
 simp only at hr2 w2 hj⊢
 refine J5 [] (seg++A) (num_cl m b e R2 hr2 4) rfl ?_
 rintro _ R3-⟨rfl,hr3⟩
 rw[List.nil_append]
 refine⟨((V9 b e 4).1,(V9 b e 4).2,()),rfl,?_⟩
 refine O2 (fun(he3:(V9 b e 4).2≠0)=>.app (.app (.of (A27.err (by rw[hj,if_pos he3]))))) (fun(he3:(V9 b e 4).2=0)=>?_)
 have hnx:A40 b e 4=e+4:=by unfold A40;rw[if_pos he3];rfl
 rw[hnx]at hr3
 have hge:=(Ah5 b e 4).2.2.2 he3
 refine B7 (Reads.in (X:=[]) (Y:=seg++A) (Ce4 m b _ R3 hr3)) ((b.length:Int)-(e+4:Nat),()) rfl ?_
 refine C0 (fun(h4:(b.length:Int)-(e+4:Nat)>0)=>.app (.app (.of (A27.err (by rw[hj,if_neg (by omega),if_pos (by omega)]))))) (fun(h4: ¬(b.length:Int)-(e+4:Nat)>0)=>?_)
 refine B7 (Ba3 _ _) (decide (1<=((ByteArray.mk key.toArray).size:Int)/\((ByteArray.mk key.toArray).size:Int)<=255),()) rfl ?_
 rw[B10]
 by_cases h5:1<=(key.length:Int)/\(key.length:Int)<=255
 case neg=>
  rw[decide_eq_false h5]
  exact ifT rfl (.app (.app (.of (A27.err (by rw[hj,if_neg (by omega),if_pos (by omega)])))))
 rw[decide_eq_true h5]
 have hwe:IntKind.i64.wrap ((s.len:Int)-((b.length:Int)-(e:Int)))=((e:Nat):Int):=by rw[hslen,C2 (by omega) (by omega)];omega
 simp only[hwe]
 refine ifF rfl (K4 (l':=0) (h':=e) (m':=s.cap) rfl rfl rfl (by omega) (by omega) (Nat.le_refl _) ?_)
 have hcut:=Bz0 (hsl R3) (i:=0) (j:=e) (by omega) (by omega)
 rw[List.drop_zero,Nat.sub_zero]at hcut
 refine B7 (Bz3 _ _ (b.take e) hcut (by rw[List.length_take];omega) (V9 b e 4).1) (H7 (b.take e)==(V9 b e 4).1,()) rfl ?_
 by_cases h6:H7 (b.take e)=(V9 b e 4).1
 ·have hjj:Ac4 b=(key,val,0):=by rw[hj,if_neg (by omega),if_neg (by omega),if_neg (by simpa using h6)]
  refine ifF (by simp[h6]) (C09 fun n ob w hw own2 _=>?_)
  unfold A27
  rw[hjj]
  refine .drop (A:=[(n,ob)]++A) (J:=R3++seg) ⟨⟨w,[(n,ob)],val⟩,rfl,rfl,own2,rfl⟩ ?_
  classical
  rw[List.perm_iff_count]
  intro x
  simp only[List.append_eq,List.cons_append,List.count_append,List.count_cons,List.count_nil]
  omega
 ·refine ifT (by simp[h6]) (.app (.app (.of (A27.err (by rw[hj,if_neg (by omega),if_neg (by omega),if_pos h6])))))
theorem Bg0{d:Dev}(ok:Q3 d)(b p:Int):(M4 d b p).1.length<=512:=by
 have hS:=ok.c.s
 unfold M4
 split
 ·simp
 ·split
  ·simp
  ·rename_i k hk
   split
   ·show(blk d.c.S).length<=512
    unfold blk
    rw[List.length_replicate];omega
   ·show(k.pages.getD p.toNat []).length<=512
    rw[List.getD_eq_getElem?_getD]
    cases h:k.pages[p.toNat]? with
    |none=>simp
    |some l=>have:=(ok.pg k (List.mem_of_getElem? hk)).2 l (List.mem_of_getElem? h);simp only[Option.getD_some];omega
def O5(d:Dev)(b pg:Int):Hd×List UInt8×Int:=
 if(M4 d b pg).2=0 then if(E5 (M4 d b pg).1).2.2=0 then E5 (M4 d b pg).1 else(hz,[],8)else(hz,[],8)
theorem A41{d:Dev}(ok:Q3 d)(b pg:Int):(O5 d b pg).2.1.length<=512:=by
 unfold O5
 split
 ·split
  ·exact Nat.le_trans (At6 _) (Bg0 ok b pg)
  ·simp
 ·simp
theorem Cb6{d:Dev}{b pg:Int}(h:(O5 d b pg).2.2=0):(M4 d b pg).2=0/\(E5 (M4 d b pg).1).2.2=0/\O5 d b pg=E5 (M4 d b pg).1:=by
 unfold O5 at h⊢
 split at h
 ·split at h
  ·rename_i h1 h2
   rw[if_pos h1,if_pos h2];exact⟨h1,h2,rfl⟩
  ·cases h
 ·cases h
def P4(d:Dev)(b pg:Int):Nat->Option (List (List UInt8))
 |0=>some []
 |n+1=>match P4 d b pg n with
  |some l=>if(O5 d b (pg+n)).2.2=0 then some (l++[(O5 d b (pg+n)).2.1])else none
  |none=>none
theorem Aq8{d:Dev}{b pg:Int}: ∀{n m:Nat},n<=m->P4 d b pg n=none->P4 d b pg m=none
  |n,m,h,hn=>by
    induction m with
    | zero => obtain rfl:n=0:=by omega
              exact hn
    |succ m ih=>
      rcases Nat.lt_or_ge m n with h1|h1
      · obtain rfl:n=m+1:=by omega
        exact hn
      · rw[P4,ih h1]
theorem Ak2{d:Dev}(ok:Q3 d){b pg:Int}: ∀{n:Nat} {l:List (List UInt8)},P4 d b pg n=some l->l.length=n/\ ∀x∈l,x.length<=512
 |0,l,h=>by obtain rfl:=Option.some.inj h;exact⟨rfl,by simp⟩
 |n+1,l,h=>by
  rw[P4]at h
  split at h
  ·rename_i l' hl'
   split at h
   ·obtain rfl:=Option.some.inj h
    obtain⟨h1,h2⟩:=Ak2 ok hl'
    refine⟨by simp[h1],fun x hx=>?_⟩
    rcases List.mem_append.1 hx with hx|hx
    ·exact h2 x hx
    ·rw[List.mem_singleton.1 hx];exact A41 ok _ _
   ·cases h
  ·cases h
theorem Aq9{d:Dev}{b pg:Int}{n:Nat}{l:List (List UInt8)}(h:P4 d b pg n=some l)(h0:0<n):(O5 d b pg).2.2=0:=by
 cases h1:P4 d b pg 1 with
 |none=>rw[Aq8 h0 h1]at h;cases h
 |some l1=>
  rw[P4,P4]at h1
  simp only[Int.natCast_zero,Int.add_zero]at h1
  split at h1
  ·assumption
  ·cases h1
def Az3(p:It)(h:Hd):Prop:=h.1=2/\h.2.1=0/\h.2.2.2.1=p.2.2.1/\h.2.2.2.2.1=p.2.1
instance (p:It) (h:Hd):Decidable (Az3 p h):=by unfold Az3;infer_instance
def C5(d:Dev)(p:It):List UInt8×List UInt8×Int:=
 if(M4 d p.1 0).2≠0 then([],[],(M4 d p.1 0).2)else
 if(O5 d p.1 p.2.1).2.2=0/\Az3 p (O5 d p.1 p.2.1).1 then
  match P4 d p.1 p.2.1 (O5 d p.1 p.2.1).1.2.2.1.toNat with
  |some l=>Ac4 l.flatten
  |none=>([],[],8)
 else([],[],8)
def Ah4(q:List UInt8×List UInt8×Int)(A:A4)(r:Value)(L':A4):Prop:= ∃g:PG,r= .t #[C64 q.1,g.val,.i q.2.2]/\L'=g.seg++A/\g.Ok/\g.l=q.2.1
theorem Ah4.err{q:List UInt8×List UInt8×Int}{A:A4}{e:Int}(h:q=([],[],e)):Ah4 q A (.t #[.w ⟨#[]⟩,.slice none 0 0,.i e]) A:=⟨pg0,by rw[h];rfl,rfl,Bg6,by rw[h];rfl⟩
theorem Ah4.no{q:List UInt8×List UInt8×Int}{A J L2:A4}{e:Int}(h:q=([],[],e))(hp:L2.Perm (A++J)):HL.Ends (Ah4 q A) (.t #[.w ⟨#[]⟩,.slice none 0 0,.i e]) L2:=.drop (Ah4.err h) hp
theorem Ar3(gs:List PG):Aj0 (pvs gs)=(gs.map PG.l).flatten:=by
 induction gs with
 |nil=>rfl
 |cons g r ih=>simp only[Aj0,pvs,List.map_cons,List.flatMap_cons,List.flatten_cons]at ih⊢;rw[ih]
theorem By1: ∀(l:List (List UInt8)),(∀x∈l,x.length<=512)->l.flatten.length<=l.length*512
 |[],_=>by simp
 |x::r,h=>by
  have h1:=By1 r fun y hy=>h y (by simp[hy])
  have h2:=h x (by simp)
  simp only[List.flatten_cons,List.length_append,List.length_cons]
  omega
theorem Bb5(m:Nat)(d:Dev)(A:A4)(h:FH m d A)(ok:Q3 d)(p:It)(hp1:Q6 .i64 p.2.1):CallF PP 118 #[.q (some ⟨m,0,none⟩),.agg #[.i p.1,.i p.2.1,.i p.2.2.1]] A (Ah4 (C5 d p) A):=by
 refine c118 (some ⟨m,0,none⟩) p ?_
 unfold s118
 have hpw:=Bd5 hp1
 have hP:=DG.pb ok
 refine S0 (Bp0 m d A h ok p.1 0) ?_
 rintro _ _-⟨g0,rfl,rfl,-,-⟩
 refine⟨(g0.v,(M4 d p.1 0).2,()),rfl,B8 (fun(h0:(M4 d p.1 0).2=0)=>?_) (fun(h0: ¬(M4 d p.1 0).2=0)=>Ah4.no (by unfold C5;rw[if_pos h0]) List.perm_append_comm)⟩
 have hno: ¬((O5 d p.1 p.2.1).2.2=0/\Az3 p (O5 d p.1 p.2.1).1)->C5 d p=([],[],8):=fun hh=>by unfold C5;rw[if_neg (by simpa using h0),if_neg hh]
 refine G0 (fun z' z L'=> ∃(gs:List PG) (s:SlV) (sg J:A4) (n:Nat),z=(s,(n:Int),())/\z'=20-gs.length/\L'.Perm (sg++(pgs gs++(J++A)))/\Own s 1 tB (gs.map PG.val) sg/\(∀g∈gs,g.Ok)/\gs.length<=n/\n<=16/\P4 d p.1 p.2.1 gs.length=some (gs.map PG.l)/\
  ((gs=[]/\n=1)\/(0<gs.length/\0<=p.2.1/\p.2.1<=16/\Az3 p (O5 d p.1 p.2.1).1/\(O5 d p.1 p.2.1).1.2.2.1=n))) 20
  ⟨[],⟨none,0,0⟩,[],g0.seg,1,rfl,rfl,List.Perm.refl _,F4,by simp,by simp,by omega,rfl,.inl ⟨rfl,rfl⟩⟩ ?_
 rintro z' z L1 ⟨gs,s,sg,J,n,rfl,rfl,hpm,own,hok,hgn,hn16,hpc,hst⟩
 dsimp only
 have hsl:=own.sl.len
 rw[List.length_map]at hsl
 refine B8 (fun(hlt:(s.len:Int)<n)=>?_) (fun(hge: ¬(s.len:Int)<n)=>?_)
 ·have hadd: -9223372036854775808<=p.2.1+(s.len:Int)/\p.2.1+(s.len:Int)<=9223372036854775807:=by
   rcases hst with⟨rfl,-⟩|⟨-,h1,h2,-⟩
   ·simp at hsl;omega
   ·omega
  refine D9 hadd (G5 (Bp0 m d A h ok p.1 (p.2.1+s.len)) (R:=sg++(pgs gs++J)) (pc fun z=>by have:=pcn hpm z;simp only[B4]at*;omega) ?_)
  have hse:p.2.1+(s.len:Int)=p.2.1+(gs.length:Int):=by omega
  rw[hse]
  rintro _ _ ⟨g1,rfl,rfl,hg1,hgl1⟩
  have hbad:(O5 d p.1 (p.2.1+(gs.length:Int))).2.2≠0->C5 d p=([],[],8):=by
   intro hh
   rcases hst with⟨rfl,-⟩|⟨hgp,-,-,hhd,hnn⟩
   ·exact hno fun h=>hh (by simpa using h.1)
   ·have h3:P4 d p.1 p.2.1 (gs.length+1)=none:=by rw[P4,hpc];simp only;rw[if_neg hh]
    have h4:=Aq9 hpc hgp
    unfold C5
    rw[if_neg (by simpa using h0),if_pos ⟨h4,hhd⟩,hnn,Int.toNat_natCast,Aq8 (show gs.length+1<=n by omega) h3]
  refine⟨_,List.Perm.refl _,(g1.v,(M4 d p.1 (p.2.1+(gs.length:Int))).2,()),rfl,B8 (fun(he:(M4 d p.1 (p.2.1+(gs.length:Int))).2=0)=>?_) (fun(he: ¬(M4 d p.1 (p.2.1+(gs.length:Int))).2=0)=>Ah4.no (J:=g1.seg++(sg++(pgs gs++J))) (hbad (by unfold O5;rw[if_neg he];decide)) (pc fun z=>by simp only[B4]at*;omega))⟩
  refine G5 (Ax5 (g1.seg++A) g1.v (M4 d p.1 (p.2.1+(gs.length:Int))).1 (by rw[<-hgl1];exact Sl.left hg1.sl) (by have:=Bg0 ok p.1 (p.2.1+(gs.length:Int));omega)) (List.Perm.refl _) ?_
  rintro _ _ ⟨s2,sg2,rfl,rfl,own2⟩
  generalize hq:E5 (M4 d p.1 (p.2.1+(gs.length:Int))).1=q at own2
  refine⟨_,List.Perm.refl _,(q.1,s2,q.2.2,()),rfl,B8 (fun(he2:q.2.2=0)=>?_) (fun(he2: ¬q.2.2=0)=>Ah4.no (J:=sg2++(g1.seg++(sg++(pgs gs++J)))) (hbad (by unfold O5;rw[if_pos he,if_neg (by rw[hq];exact he2)];decide)) (pc fun z=>by simp only[B4]at*;omega))⟩
  have hpq:O5 d p.1 (p.2.1+(gs.length:Int))=q:=by unfold O5;rw[if_pos he,hq,if_pos he2]
  have hqk:=Ab1 (Bv7 (b:=(M4 d p.1 (p.2.1+(gs.length:Int))).1) (by rw[hq];exact he2))
  rw[hq]at hqk
  have hql:q.2.1.length<=512:=by rw[<-hpq];exact A41 ok _ _
  refine W7 (fun y L'=>L'=sg2++(g1.seg++A)++(sg++(pgs gs++J))/\ ∃n':Nat,y=((n':Int),())/\gs.length<n'/\n'<=16/\0<=p.2.1/\p.2.1<=16/\Az3 p (O5 d p.1 p.2.1).1/\(O5 d p.1 p.2.1).1.2.2.1=n') ?_ ?_
  ·rintro _ _ ⟨rfl,n',rfl,hn1,hn2,hp0,hp16,hhd,hnn⟩
   refine Af2 Bk4 Cp0 own (Y:=sg2++(g1.seg++A)++(pgs gs++J)) (ws:=[pvV (s2,q.2.1)]) (pc fun z=>by simp only[B4]at*;omega) rfl rfl (by omega) fun s3 sg3 hs3 own3=>?_
   refine⟨20-(gs.length+1),by omega,gs++[⟨s2,sg2,q.2.1⟩],s3,sg3,g1.seg++J,n',rfl,by simp,?_,?_,?_,by simp;omega,hn2,?_,.inr ⟨by simp,hp0,hp16,hhd,hnn⟩⟩
   ·rw[P7,Ax6]
    exact pc fun z=>by simp only[B4]at*;omega
   ·rw[List.map_append];exact own3
   ·intro g hg
    rcases List.mem_append.1 hg with hg|hg
    ·exact hok g hg
    ·rw[List.mem_singleton.1 hg];exact own2
   ·rw[List.length_append,List.length_singleton,P4,hpc]
    simp only
    rw[hpq,if_pos he2,List.map_append];rfl
  ·intro j hj
   refine B8 (fun(hl0:(s.len:Int)=0)=>?_) (fun(hl0: ¬(s.len:Int)=0)=>?_)
   ·have hg0:gs.length=0:=by omega
    have hpq0:O5 d p.1 p.2.1=q:=by rw[<-hpq,hg0];simp
    have hne: ¬Az3 p q.1->HL.Ends (Ah4 (C5 d p) A) (.t #[.w ⟨#[]⟩,.slice none 0 0,.i 8]) (sg2++(g1.seg++A)++(sg++(pgs gs++J))):=fun hh=>
     Ah4.no (J:=sg2++(g1.seg++(sg++(pgs gs++J)))) (hno fun hx=>hh (by rw[<-hpq0];exact hx.2)) (pc fun z=>by simp only[B4]at*;omega)
    refine B8 (fun(e1:q.1.1=2)=>?_) (fun e1=>hne fun hx=>e1 hx.1)
    refine B8 (fun(e2:q.1.2.1=0)=>?_) (fun e2=>hne fun hx=>e2 hx.2.1)
    refine B8 (fun(e3:q.1.2.2.2.1=p.2.2.1)=>?_) (fun e3=>hne fun hx=>e3 hx.2.2.1)
    refine B8 (fun(e4:q.1.2.2.2.2.1=p.2.1)=>?_) (fun e4=>hne fun hx=>e4 hx.2.2.2)
    have hf:=Ag8 (by rw[<-Aw5 ok];exact he)
    rw[hg0]at hf
    exact hj _ _ ⟨rfl,q.1.2.2.1.toNat,by rw[Int.toNat_of_nonneg (by omega)],by omega,by omega,by omega,by omega,by rw[hpq0];exact⟨e1,e2,e3,e4⟩,by rw[hpq0];omega⟩
   ·rcases hst with⟨rfl,-⟩|⟨-,hp0,hp16,hhd,hnn⟩
    ·simp at hsl;omega
    ·exact hj _ _ ⟨rfl,n,rfl,by omega,hn16,hp0,hp16,hhd,hnn⟩
 ·rcases hst with⟨rfl,rfl⟩|⟨hgp,hp0,hp16,hhd,hnn⟩
  ·simp at hsl;omega
  have hgn':gs.length=n:=by omega
  have hb:=Ak2 ok hpc
  have hcat:(Aj0 (pvs gs)).length<=1000000:=by
   rw[Ar3]
   have:=By1 _ hb.2
   rw[hb.1]at this
   omega
  refine S0 (Db9 L1 s (pvs gs) (A85 own hok (B25 hpm) fun x hx=>hpm.symm.subset (by simp[hx])) hcat (by simp[pvs];omega)) ?_
  rintro _ _-⟨g,rfl,rfl,hg,hgl⟩
  have hfe:C5 d p=Ac4 (Aj0 (pvs gs)):=by
   unfold C5
   rw[if_neg (by simpa using h0),if_pos ⟨Aq9 hpc hgp,hhd⟩,hnn,Int.toNat_natCast,<-hgn',hpc,Ar3]
  refine⟨(⟨(Ac4 (Aj0 (pvs gs))).1.toArray⟩,g.v,(Ac4 (Aj0 (pvs gs))).2.2,()),rfl,.drop (A:=g.seg++A) (J:=sg++(pgs gs++J)) ⟨g,by rw[hfe];rfl,rfl,hg,by rw[hfe];exact hgl⟩ (pc fun z=>by have:=pcn hpm z;simp only[B4]at*;omega)⟩
set_option linter.unusedSectionVars false
end Go.Proofs.YtbaoieipijmakaaGreatDoor
namespace Go.HL
section
variable {P:Program} {L A Y:A4}
theorem own_st{v:SlV}{sz:Nat}{T:TypeId}{vs ws:List Value}{seg:A4}(own:Own v sz T vs seg){p:Nat}(hp:p+ws.length<=vs.length)(hws:0<ws.length){a ad:Addr}(ha:v.a=some a)(had:ad=Addr.add a p){k:HP}
  (hL:L.Perm (seg++Y)) (hk: ∀seg' L',L'.Perm (seg'++Y)->Own v sz T (A18 vs p ws) seg'->k L'):st ad ws k L:=by
 subst had
 rcases own.row with⟨ha',_,_⟩|⟨b,off,c,fz,ha',rfl,hsz,hfz,hc⟩
 ·rw[ha]at ha';cases ha'
 ·rw[ha]at ha'
  obtain rfl:=Option.some.inj ha'
  have hlen:=own.len
  have hcap:=own.cap
  have hle:=Nat.mul_le_mul_right sz hcap
  refine B12 (n:=b) (off:=off+p) (c:=c) (T:=T) (fz:=fz) (Y:=Y) hL (O3 (ad:=⟨b,off,none⟩) rfl p) (by omega) (by omega) _ rfl fun L' hL'=>?_
  refine hk [(b,Obj.cells (wr c (off+p) ws) T fz)] L' hL' ⟨by rw[A78 _ _ _ hp];exact hlen,hcap,.inr ⟨b,off,_,fz,ha,rfl,by rw[M9];exact hsz,by rw[M9];exact hfz,fun i u hu=>?_⟩⟩
  rw[Al8 _ _ _ hp]at hu
  rw[Ae6 _ _ _ _ (by omega)]
  split at hu
  ·rw[if_pos (by omega),show off+i-(off+p)=i-p by omega];exact hu
  ·rw[if_neg (by omega)];exact hc i u hu
theorem Cs2{α:Type}{enc:α->List Value}{sz:Nat}(hsz: ∀x,(enc x).length=sz)(hpos:0<sz){l:List α}{n:Nat}(hn:n<l.length)(x:α):A18 (l.flatMap enc) (n*sz) (enc x)=(l.set n x).flatMap enc:=by
 have hfl:=N7 hsz l
 have hfl2:=N7 hsz (l.set n x)
 rw[List.length_set]at hfl2
 have h0:n*sz+sz<=l.length*sz:=by rw[<-Nat.succ_mul];exact Nat.mul_le_mul_right sz hn
 apply List.ext_getElem?
 intro i
 rw[Al8 _ _ _ (by rw[hsz,hfl];exact h0),hsz]
 by_cases hi:i<l.length*sz
 ·have hq:i/sz<l.length:=by rw[Nat.div_lt_iff_lt_mul hpos];exact hi
  have hr:i%sz<sz:=Nat.mod_lt _ hpos
  have hi2:i=i/sz*sz+i%sz:=by rw[Nat.mul_comm];exact(Nat.div_add_mod i sz).symm
  generalize i/sz=q at hq hi2
  generalize i%sz=r at hr hi2
  subst hi2
  rw[Ba9 hsz (l.set n x) q (by simpa using hq) r hr,Ba9 hsz l q hq r hr,List.getElem_set]
  by_cases hqn:n=q
  ·subst hqn
   rw[if_pos (by omega),if_pos rfl]
   congr 1;omega
  ·rw[if_neg,if_neg hqn]
   intro hc
   rcases Nat.lt_or_ge n q with h|h
   ·have:=Nat.mul_le_mul_right sz (show n+1<=q by omega)
    rw[Nat.succ_mul]at this
    omega
   ·have:=Nat.mul_le_mul_right sz (show q+1<=n by omega)
    rw[Nat.succ_mul]at this
    omega
 ·rw[if_neg (by omega),List.getElem?_eq_none (by omega),List.getElem?_eq_none (by omega)]
theorem A02{α:Type}{enc:α->List Value}{sz:Nat}(hsz: ∀x,(enc x).length=sz)(hpos:0<sz){v:SlV}{T:TypeId}{l:List α}{seg:A4}(own:Own v sz T (l.flatMap enc) seg)(hs: ∀p∈seg,p∈L){i:Int}{n:Nat}(hi:i=n)(hn:n<l.length){k:Addr->HP}
  (hk: ∀b,v.a=some b->D4 (Addr.add b (n*sz)) (enc l[n]) L->k (Addr.add b (n*sz)) L):elp v.a v.len i sz k L:=by
 subst hi
 obtain⟨a,ha,hl⟩:=own.sl.el hsz hpos hn
 refine A5 ha (E0 (by omega) (by have:=own.sl.els_len hsz hpos;omega) ?_)
 rw[Int.toNat_natCast]
 exact hk a ha (hl.mono hs)
theorem B77{α:Type}{enc:α->List Value}{sz:Nat}(hsz: ∀x,(enc x).length=sz)(hpos:0<sz){v:SlV}{T:TypeId}{l:List α}{seg:A4}(own:Own v sz T (l.flatMap enc) seg){b:Addr}(hb:v.a=some b){n:Nat}(hn:n<l.length)(x:α)(hL:L.Perm (seg++Y)){k:HP}
  (hk: ∀seg' L',L'.Perm (seg'++Y)->Own v sz T ((l.set n x).flatMap enc) seg'->k L'):st (Addr.add b (n*sz)) (enc x) k L:=by
 have h0:n*sz+sz<=l.length*sz:=by rw[<-Nat.succ_mul];exact Nat.mul_le_mul_right sz hn
 refine own_st own (p:=n*sz) (by rw[hsz,N7 hsz];exact h0) (by rw[hsz];exact hpos) hb rfl hL fun seg' L' hL' o=>hk seg' L' hL' ?_
 rw[Cs2 hsz hpos hn]at o;exact o
variable {κ:Type} [DecidableEq κ]
theorem Al0{t kt et:TypeId}{kv:κ->Value}{z:Value}(hT:Cm4 P t kt et kv z){r:Nat}{es:Array MapEntry}{clock:Nat}{m:List (κ×Value)}(hL:L.Perm ((r,Obj.map es clock)::Y))(h:Mp kv es m)(k:κ)(v:Value){K:HP}
  (hk: ∀es' clock' L',Mp kv es' (A20 m k v)->L'.Perm ((r,Obj.map es' clock')::Y)->K L'):smU P (Instr.mapUpdate t (.map (some r)) (kv k) v) K L:=by
 obtain⟨A2,B2,rfl⟩:=List.append_of_mem (hL.symm.subset List.mem_cons_self)
 refine Bd7 hT A2 B2 rfl h k v fun es' clock' hm=>hk es' clock' _ hm ?_
 exact List.perm_middle.trans (((List.perm_cons _).1 (List.perm_middle.symm.trans hL)).cons _)
theorem Bk9{t t2 ty kt et:TypeId}{kv:κ->Value}{z:Value}(hT:Cm4 P t kt et kv z){r:Nat}{es:Array MapEntry}{clock:Nat}{m:List (κ×Value)}(hL:L.Perm ((r,Obj.map es clock)::Y))(h:Mp kv es m)(k:κ){K:RsV []->HP}
  (hk: ∀es' clock' L',Mp kv es' (Bd1 m k)->L'.Perm ((r,Obj.map es' clock')::Y)->K () L'):smW P (Builtin.delete_ #[t,t2] ty #[.map (some r),kv k]) [] K L:=by
 obtain⟨A2,B2,rfl⟩:=List.append_of_mem (hL.symm.subset List.mem_cons_self)
 refine Bl0 hT A2 B2 rfl h k fun es' clock' hm=>hk es' clock' _ hm ?_
 exact List.perm_middle.trans (((List.perm_cons _).1 (List.perm_middle.symm.trans hL)).cons _)
theorem Ct4(k:κ):Ay1 ([]:List (κ×Value)) k=none:=rfl
theorem R6(p:κ×Value)(m:List (κ×Value))(k:κ):Ay1 (p::m) k=if k=p.1 then some p.2 else Ay1 m k:=by
 unfold Ay1
 by_cases h:k=p.1
 ·rw[if_pos h,List.find?_cons_of_pos (by simpa using h)];rfl
 ·rw[if_neg h,List.find?_cons_of_neg (by simpa using h)]
theorem Ay0: ∀(m:List (κ×Value)) (k:κ) (v:Value) (k':κ),Ay1 (A20 m k v) k'=if k'=k then some v else Ay1 m k'
 |[],k,v,k'=>by rw[A20,R6]
 |p::r,k,v,k'=>by
  rw[A20]
  by_cases h:k=p.1
  ·rw[if_pos h,R6,R6]
   by_cases h2:k'=k
   ·subst h2;simp
   ·simp only[h2,if_false];rw[if_neg (fun e=>h2 (e.trans h.symm))]
  ·rw[if_neg h,R6,R6,Ay0 r k v k']
   by_cases h2:k'=p.1
   ·rw[if_pos h2,if_pos h2,if_neg (fun e=>h (e.symm.trans h2))]
   ·rw[if_neg h2,if_neg h2]
theorem Bh5: ∀(m:List (κ×Value)) (k:κ) (v:Value),(m.map Prod.fst).Nodup->((A20 m k v).map Prod.fst).Nodup/\ ∀x,x∈(A20 m k v).map Prod.fst↔x=k\/x∈m.map Prod.fst
 |[],k,v,_=>by simp[A20]
 |p::r,k,v,h=>by
  rw[A20]
  rw[List.map_cons,List.nodup_cons]at h
  by_cases hk:k=p.1
  ·rw[if_pos hk]
   subst hk
   refine⟨by simpa using h,fun x=>by simp⟩
  ·rw[if_neg hk]
   obtain⟨h1,h2⟩:=Bh5 r k v h.2
   refine⟨?_,fun x=>?_⟩
   ·rw[List.map_cons,List.nodup_cons]
    exact⟨fun hx=>((h2 _).1 hx).elim (fun e=>hk e.symm) h.1,h1⟩
   ·rw[List.map_cons,List.mem_cons,h2,List.map_cons,List.mem_cons]
    constructor
    ·rintro(a|a|a)<;>simp[a]
    ·rintro(a|a|a)<;>simp[a]
theorem Cd5{m:List (κ×Value)}{k:κ}(h:k∉m.map Prod.fst):Ay1 m k=none:=by
 induction m with
 |nil=>rfl
 |cons p r ih=>
  rw[List.map_cons,List.mem_cons,not_or]at h
  rw[R6,if_neg h.1,ih h.2]
theorem Bh6: ∀(m:List (κ×Value)) (k k':κ),(m.map Prod.fst).Nodup->Ay1 (Bd1 m k) k'=if k'=k then none else Ay1 m k'
 |[],k,k',_=>by simp[Bd1,Ct4]
 |p::r,k,k',h=>by
  rw[Bd1]
  rw[List.map_cons,List.nodup_cons]at h
  by_cases hk:k=p.1
  ·rw[if_pos hk,R6]
   by_cases h2:k'=k
   ·rw[if_pos h2,h2,hk];exact Cd5 h.1
   ·rw[if_neg h2,if_neg (fun e=>h2 (e.trans hk.symm))]
  ·rw[if_neg hk,R6,R6,Bh6 r k k' h.2]
   by_cases h2:k'=p.1
   ·rw[if_pos h2,if_pos h2,if_neg (fun e=>hk (e.symm.trans h2))]
   ·rw[if_neg h2,if_neg h2]
theorem Bh8: ∀(m:List (κ×Value)) (k:κ),(m.map Prod.fst).Nodup->((Bd1 m k).map Prod.fst).Nodup/\ ∀x,x∈(Bd1 m k).map Prod.fst->x∈m.map Prod.fst
 |[],k,_=>by simp[Bd1]
 |p::r,k,h=>by
  rw[Bd1]
  rw[List.map_cons,List.nodup_cons]at h
  by_cases hk:k=p.1
  ·rw[if_pos hk]
   exact⟨h.2,fun x hx=>by simp[hx]⟩
  ·rw[if_neg hk]
   obtain⟨h1,h2⟩:=Bh8 r k h.2
   refine⟨?_,fun x hx=>?_⟩
   ·rw[List.map_cons,List.nodup_cons]
    exact⟨fun hx=>h.1 (h2 _ hx),h1⟩
   ·rw[List.map_cons,List.mem_cons]at hx⊢
    exact hx.imp id (h2 x)
end
end Go.HL
namespace Go.Proofs.YtbaoieipijmakaaGreatDoor
open Go.HL
section
variable {α:Type} (key:α->Int)
def As5:List α->α->List α
 |[],x=>[x]
 |y::r,x=>if key x<key y then y::As5 r x else x::y::r
def Am6(l:List α):List α:=(l.foldl (As5 key) []).reverse
theorem Ay9: ∀(r:List α) (x:α),(As5 key r x).Perm (x::r)
 |[],x=>List.Perm.refl _
 |y::r,x=>by
  rw[As5]
  split
  ·exact((Ay9 r x).cons y).trans (List.Perm.swap x y r)
  ·exact List.Perm.refl _
theorem Z1: ∀(l acc:List α),(l.foldl (As5 key) acc).Perm (l++acc)
 |[],acc=>List.Perm.refl _
 |x::l,acc=>by
  rw[List.foldl_cons]
  refine(Z1 l _).trans ?_
  exact((Ay9 key acc x).append_left l).trans (List.perm_middle)
theorem N9(l:List α):(Am6 key l).Perm l:=by
 unfold Am6
 refine(List.reverse_perm _).trans ?_
 have:=Z1 key l []
 rwa [List.append_nil]at this
theorem Ay8: ∀(r:List α) (x:α),r.Pairwise (fun a b=>key b<=key a)->(As5 key r x).Pairwise (fun a b=>key b<=key a)
 |[],x,_=>by simp[As5]
 |y::r,x,h=>by
  rw[As5]
  rw[List.pairwise_cons]at h
  split
  ·rename_i hlt
   rw[List.pairwise_cons]
   refine⟨fun z hz=>?_,Ay8 r x h.2⟩
   rcases List.mem_cons.1 ((Ay9 key r x).subset hz)with rfl|hz
   ·omega
   ·exact h.1 z hz
  ·rename_i hge
   rw[List.pairwise_cons]
   refine⟨fun z hz=>?_,by rw[List.pairwise_cons];exact h⟩
   rcases List.mem_cons.1 hz with rfl|hz
   ·omega
   ·have:=h.1 z hz;omega
theorem Ac8: ∀(l acc:List α),acc.Pairwise (fun a b=>key b<=key a)->(l.foldl (As5 key) acc).Pairwise (fun a b=>key b<=key a)
 |[],acc,h=>h
 |x::l,acc,h=>Ac8 l _ (Ay8 key acc x h)
theorem Bi6(l:List α):(Am6 key l).Pairwise (fun a b=>key a<=key b):=by
 unfold Am6
 rw[List.pairwise_reverse]
 exact Ac8 key l [] List.Pairwise.nil
theorem Bw9{β:Type}(f:α->β)(kb:β->Int)(h: ∀x,kb (f x)=key x): ∀(r:List α) (x:α),(As5 key r x).map f=As5 kb (r.map f) (f x)
 |[],x=>rfl
 |y::r,x=>by
  rw[As5,List.map_cons,As5,h,h]
  split
  ·rw[List.map_cons,Bw9 f kb h r x]
  ·rfl
theorem Aj8{β:Type}(f:α->β)(kb:β->Int)(h: ∀x,kb (f x)=key x): ∀(l acc:List α),(l.foldl (As5 key) acc).map f=(l.map f).foldl (As5 kb) (acc.map f)
 |[],acc=>rfl
 |x::l,acc=>by rw[List.foldl_cons,List.map_cons,List.foldl_cons,Aj8 f kb h l,Bw9 key f kb h]
theorem Cf6{β:Type}(f:α->β)(kb:β->Int)(h: ∀x,kb (f x)=key x)(l:List α):(Am6 key l).map f=Am6 kb (l.map f):=by
 unfold Am6
 rw[List.map_reverse,Aj8 key f kb h,List.map_nil]
end
abbrev HD:=Int×Int×List It
structure HE where
 b:Int
 ep:Int
 v:SlV
 seg:A4
 l:List It
def HE.enc(h:HE):List Value:=[.i h.b,.i h.ep,.slice h.v.a h.v.len h.v.cap]
def HE.Ok(h:HE):Prop:=Own h.v 3 B48 (h.l.flatMap O9) h.seg
def HE.dat(h:HE):HD:=(h.b,h.ep,h.l)
theorem HE.enc_len(h:HE):h.enc.length=3:=rfl
def T7(l:List HE):A4:=l.flatMap HE.seg
theorem Cg5(a b:List HE):T7 (a++b)=T7 a++T7 b:=List.flatMap_append
theorem Cg4(a:HE):T7 [a]=a.seg:=by simp[T7]
theorem Az8{α:Type}(f:α->A4){a b:List α}(h:a.Perm b)(z:Nat×Obj):cnt (a.flatMap f) z=cnt (b.flatMap f) z:=by
 induction h with
 |nil=>rfl
 |cons x _ ih=>simp only[List.flatMap_cons,B4,ih]
 |swap x y l=>simp only[List.flatMap_cons,B4];omega
 |trans _ _ i1 i2=>rw[i1,i2]
abbrev eHl:TypeId:=154
abbrev tHl:TypeId:=143
theorem elemHl:U8 PP tHl eHl 3 40 [.i 0,.i 0,.slice none 0 0]:=M6 (by kernel_rfl) (by kernel_rfl) rfl (by decide) (by decide)
theorem srcHl:As9 PP tHl:=.inl ⟨eHl,by kernel_rfl⟩
abbrev tPPs:TypeId:=243
theorem De8:U8 PP tPPs tPs 1 24 [.slice none 0 0]:=M6 (by kernel_rfl) (by kernel_rfl) rfl (by decide) (by decide)
theorem srcPPs:As9 PP tPPs:=.inl ⟨tPs,by kernel_rfl⟩
theorem cmp_rd(L:A4)(x y:HE)(hx:0<=x.ep/\x.ep<=4294967296)(hy:0<=y.ep/\y.ep<=4294967296):
  Reads PP 226 #[.agg #[.i x.b,.i x.ep,.slice x.v.a x.v.len x.v.cap],.agg #[.i y.b,.i y.ep,.slice y.v.a y.v.len y.v.cap]] L (.i (x.ep-y.ep)):=by
 unfold Reads
 refine c226 (x.b,x.ep,x.v,()) (y.b,y.ep,y.v,()) ?_
 unfold s226
 exact D9 (by simp only;omega) (.of ⟨rfl,rfl⟩)
theorem Cu5(v:SlV)(hs:List HE)(seg R:A4)(own:Own v 3 eHl (hs.flatMap HE.enc) seg)(hep: ∀h∈hs,0<=h.ep/\h.ep<=4294967296)(hlen:hs.length<=1000):
  CallF PP 321 #[.slice v.a v.len v.cap,.i 0,.i hs.length,.func (.func 226) #[] #[]] (seg++R) fun r L'=> ∃seg',r= .t #[]/\L'=seg'++R/\Own v 3 eHl ((Am6 HE.ep hs).flatMap HE.enc) seg':=by
 refine c321 v 0 hs.length ⟨.func 226,#[],#[]⟩ ?_
 unfold s321
 refine D9 (by omega) ?_
 refine G0 (fun z' z L'=> ∃(i:Nat) (acc:List HE) (sg:A4),z=((i:Int),())/\z'=2000-i/\1<=i/\i<=max 1 hs.length/\acc=(hs.take i).foldl (As5 HE.ep) []/\L'.Perm (sg++R)/\Own v 3 eHl ((acc.reverse++hs.drop i).flatMap HE.enc) sg) 1999
  ⟨1,_,seg,rfl,rfl,by omega,by omega,rfl,List.Perm.refl _,?_⟩ ?_
 ·cases hs with
  |nil=>exact own
  |cons h t=>exact own
 rintro z' z L1 ⟨i,acc,sg,rfl,rfl,hi1,hi2,hacc,hp,own1⟩
 dsimp only
 have hap:acc.Perm (hs.take i):=by rw[hacc];have:=Z1 HE.ep (hs.take i) [];rwa [List.append_nil]at this
 have hal:acc.length=min i hs.length:=by rw[hap.length_eq,List.length_take]
 refine B8 (fun(hlt:(i:Int)<hs.length)=>?_) (fun(hge: ¬(i:Int)<hs.length)=>?_)
 ·have hi:i<hs.length:=by omega
  have hdr:hs.drop i=hs[i]::hs.drop (i+1):=List.drop_eq_getElem_cons hi
  generalize hx:hs[i]=x at hdr
  have hxe:0<=x.ep/\x.ep<=4294967296:=hep x (by rw[<-hx];exact List.getElem_mem hi)
  have hst: ∀acc',acc'=As5 HE.ep acc x->acc'=(hs.take (i+1)).foldl (As5 HE.ep) []:=fun acc' h=>by
   rw[h,List.take_succ_eq_append_getElem hi,List.foldl_append,<-hacc,hx];rfl
  rw[hdr]at own1
  have hdone: ∀(r p:List HE) (sg' L':A4),L'.Perm (sg'++R)->Own v 3 eHl ((r.reverse++x::(p++hs.drop (i+1))).flatMap HE.enc) sg'->As5 HE.ep acc x=p.reverse++x::r->
    ∃k',k'<2000-i/\ ∃(i':Nat) (acc:List HE) (sg:A4),((((i:Int)+1:Int),()):RsV [lI])=((i':Int),())/\k'=2000-i'/\1<=i'/\i'<=max 1 hs.length/\acc=(hs.take i').foldl (As5 HE.ep) []/\L'.Perm (sg++R)/\Own v 3 eHl ((acc.reverse++hs.drop i').flatMap HE.enc) sg:=by
   intro r p sg' L' hp' own' he
   refine⟨2000-(i+1),by omega,i+1,As5 HE.ep acc x,sg',rfl,rfl,by omega,by omega,hst _ rfl,hp',?_⟩
   rw[he,List.reverse_append,List.reverse_cons,List.reverse_reverse]
   simpa[List.append_assoc]using own'
  refine G0 (fun z' z L'=> ∃(r p:List HE) (sg:A4),z=((r.length:Int),())/\z'=r.length/\acc=p.reverse++r/\As5 HE.ep acc x=p.reverse++As5 HE.ep r x/\L'.Perm (sg++R)/\Own v 3 eHl ((r.reverse++x::(p++hs.drop (i+1))).flatMap HE.enc) sg) acc.length
   ⟨acc,[],sg,by rw[hal,Nat.min_eq_left (by omega)],rfl,rfl,rfl,hp,own1⟩ ?_
  rintro z' z L2 ⟨r,p,sg2,rfl,rfl,hrp,hins,hp2,own2⟩
  dsimp only
  have hrl:r.length<=1000:=by have:=congrArg List.length hrp;rw[List.length_append]at this;omega
  refine W7 (fun _ L'=>L'=L2/\ ∃y r',r=y::r'/\x.ep<y.ep) ?_ ?_
  ·rintro _ _ ⟨rfl,y,r',rfl,hlt2⟩
   have hln:((y::r').length:Int)-1=(r'.length:Int):=by simp
   have hfl:(y::r').reverse++x::(p++hs.drop (i+1))=r'.reverse++y::(x::(p++hs.drop (i+1))):=by simp
   rw[hfl]at own2
   have hn1:r'.length<(r'.reverse++y::(x::(p++hs.drop (i+1)))).length:=by simp
   have hn2:r'.length+1<(r'.reverse++y::(x::(p++hs.drop (i+1)))).length:=by simp
   have g1:(r'.reverse++y::(x::(p++hs.drop (i+1))))[r'.length]'hn1=y:=by rw[List.getElem_append_right (by simp)];simp
   have g2:(r'.reverse++y::(x::(p++hs.drop (i+1))))[r'.length+1]'hn2=x:=by rw[List.getElem_append_right (by simp)];simp
   refine D9 (by simp only[hln];omega) (D9 (by simp only[hln];omega) ?_)
   rw[hln]
   refine A02 HE.enc_len (by decide) own2 (B25 hp2) rfl hn1 fun b0 hb0 ha3=>?_
   refine A02 HE.enc_len (by decide) own2 (B25 hp2) (n:=r'.length+1) (by simp) hn2 fun b1 hb1 ha4=>?_
   rw[g1]at ha3
   rw[g2]at ha4
   refine A6 (y.b,y.ep,y.v,()) ha3 (A6 (x.b,x.ep,x.v,()) ha4 ?_)
   refine B77 HE.enc_len (by decide) own2 hb1 hn2 y hp2 fun sg3 L3 hp3 own3=>?_
   have e3:(r'.reverse++y::(x::(p++hs.drop (i+1)))).set (r'.length+1) y=r'.reverse++y::(y::(p++hs.drop (i+1))):=by
    rw[List.set_append_right _ _ (by simp)];simp
   rw[e3]at own3
   refine A02 HE.enc_len (by decide) own3 (B25 hp3) (n:=r'.length) rfl (by simp) fun b2 hb2 ha5=>?_
   refine B77 HE.enc_len (by decide) own3 hb2 (by simp) x hp3 fun sg4 L4 hp4 own4=>?_
   have e4:(r'.reverse++y::(y::(p++hs.drop (i+1)))).set r'.length x=r'.reverse++x::((y::p)++hs.drop (i+1)):=by
    rw[List.set_append_right _ _ (by simp)];simp
   rw[e4]at own4
   refine D9 (by omega) ⟨r'.length,by simp,r',y::p,sg4,rfl,rfl,?_,?_,hp4,own4⟩
   ·rw[hrp];simp
   ·rw[hins,As5,if_pos hlt2];simp
  ·intro j hj
   refine B8 (fun(h0:(r.length:Int)>0)=>?_) (fun(h0: ¬(r.length:Int)>0)=>?_)
   ·obtain⟨y,r',rfl⟩: ∃y r',r=y::r':=by
     cases r with
     |nil=>simp at h0
     |cons y r'=>exact⟨y,r',rfl⟩
    have hln:((y::r').length:Int)-1=(r'.length:Int):=by simp
    have hfl:(y::r').reverse++x::(p++hs.drop (i+1))=r'.reverse++y::(x::(p++hs.drop (i+1))):=by simp
    have own2':=own2
    rw[hfl]at own2'
    have hn1:r'.length<(r'.reverse++y::(x::(p++hs.drop (i+1)))).length:=by simp
    have hn2:r'.length+1<(r'.reverse++y::(x::(p++hs.drop (i+1)))).length:=by simp
    have g1:(r'.reverse++y::(x::(p++hs.drop (i+1))))[r'.length]'hn1=y:=by rw[List.getElem_append_right (by simp)];simp
    have g2:(r'.reverse++y::(x::(p++hs.drop (i+1))))[r'.length+1]'hn2=x:=by rw[List.getElem_append_right (by simp)];simp
    have hye:0<=y.ep/\y.ep<=4294967296:=hep y (List.mem_of_mem_take (hap.subset (by rw[hrp];simp)))
    refine A02 HE.enc_len (by decide) own2' (B25 hp2) (n:=r'.length+1) (by simp) hn2 fun b1 hb1 ha1=>?_
    refine D9 (by simp only[hln];omega) ?_
    rw[hln]
    refine A02 HE.enc_len (by decide) own2' (B25 hp2) rfl hn1 fun b2 hb2 ha2=>?_
    rw[g2]at ha1
    rw[g1]at ha2
    refine A6 (x.b,x.ep,x.v,()) ha1 (A6 (y.b,y.ep,y.v,()) ha2 ?_)
    refine Z2 (by kernel_rfl) (B7 (cmp_rd L2 x y hxe hye) (x.ep-y.ep,()) rfl (B8 (fun(hc:x.ep-y.ep<0)=>hj _ _ ⟨rfl,y,r',rfl,by omega⟩) (fun(hc: ¬x.ep-y.ep<0)=>D9 (by omega) ?_)))
    refine hdone (y::r') p sg2 L2 hp2 own2 ?_
    rw[hins,As5,if_neg (by omega)]
   ·obtain rfl:r=[]:=by
     cases r with
     |nil=>rfl
     |cons y r'=>simp at h0
    exact D9 (by omega) (hdone [] p sg2 L2 hp2 own2 hins)
 ·have e:acc.reverse++hs.drop i=Am6 HE.ep hs:=by
   rw[List.drop_eq_nil_of_le (by omega),List.append_nil,hacc,List.take_of_length_le (by omega)];rfl
  rw[e]at own1
  exact .drop (A:=sg++R) (J:=[]) ⟨sg,rfl,rfl,own1⟩ (by simpa using hp)
theorem Co8(v:SlV)(hs:List HE)(seg R:A4)(own:Own v 3 eHl (hs.flatMap HE.enc) seg)(hep: ∀h∈hs,0<=h.ep/\h.ep<=4294967296)(hlen:hs.length<=19):
  CallF PP 225 #[.slice v.a v.len v.cap,.func (.func 226) #[] #[]] (seg++R) fun r L'=> ∃seg',r= .t #[]/\L'=seg'++R/\Own v 3 eHl ((Am6 HE.ep hs).flatMap HE.enc) seg':=by
 refine c225 v ⟨.func 226,#[],#[]⟩ ?_
 unfold s225
 have hvl:=own.sl.els_len HE.enc_len (by decide)
 have key:CallF PP 288 #[.slice v.a v.len v.cap,.i v.len,.func (.func 226) #[] #[]] (seg++R) fun r L'=> ∃seg',r= .t #[]/\L'=seg'++R/\Own v 3 eHl ((Am6 HE.ep hs).flatMap HE.enc) seg':=by
  refine c288 v v.len ⟨.func 226,#[],#[]⟩ ?_
  unfold s288
  refine G0 (fun z' z L'=>z'=0/\z=(0,20,())/\L'=seg++R) 0 ⟨rfl,rfl,rfl⟩ ?_
  rintro z' z _ ⟨rfl,rfl,rfl⟩
  dsimp only
  refine ifN (show¬((20:Int)<=v.len) by omega) ?_
  have hcall:=Cu5 v hs seg R own hep (by omega)
  rw[<-hvl]at hcall
  refine S0 hcall ?_
  rintro _ _-⟨seg',rfl,rfl,own'⟩
  refine⟨(),rfl,G0 (fun z' z L'=>z'=0/\z=(20,())/\L'=seg'++R) 0 ⟨rfl,rfl,rfl⟩ ?_⟩
  rintro z' z _ ⟨rfl,rfl,rfl⟩
  dsimp only
  exact ifN (show¬((20:Int)<v.len) by omega) (.of ⟨seg',rfl,rfl,own'⟩)
 refine S0 key ?_
 rintro _ _-⟨seg',rfl,rfl,own'⟩
 exact⟨(),rfl,.of ⟨seg',rfl,rfl,own'⟩⟩
structure BP where
 v:SlV
 gs:List PG
 seg:A4
def BP.val(b:BP):Value:=.slice b.v.a b.v.len b.v.cap
def BP.all(b:BP):A4:=b.seg++pgs b.gs
def BP.ls(b:BP):List (List UInt8):=b.gs.map PG.l
structure BP.Ok(b:BP):Prop where
 own:Own b.v 1 tB (b.gs.map PG.val) b.seg
 ok: ∀g∈b.gs,g.Ok
 few:b.gs.length<=16
 small: ∀g∈b.gs,g.l.length<=512
def Ae3(l:List BP):A4:=l.flatMap BP.all
theorem Bm0(a b:List BP):Ae3 (a++b)=Ae3 a++Ae3 b:=List.flatMap_append
theorem Bl9(a:BP):Ae3 [a]=a.all:=by simp[Ae3]
theorem BP.Ok.parts{L Y:A4}{b:BP}(h:b.Ok)(hp:L.Perm (b.all++Y)):Y1 L b.v (pvs b.gs):=
 Da0 h.own h.ok (Y:=Y) (hp.trans (pc fun z=>by simp only[BP.all,B4];omega))
theorem BP.Ok.bnd{b:BP}(h:b.Ok):(pvs b.gs).length<=1000000/\ ∀x∈pvs b.gs,x.2.length<=1000000:=by
 refine⟨by have:=h.few;simp[pvs];omega,fun x hx=>?_⟩
 simp only[pvs,List.mem_map]at hx
 obtain⟨g,hg,rfl⟩:=hx
 have:=h.small g hg
 simp only;omega
def Bf9(d:Dev)(b:Nat):Option HD:=if(P6 (N0 d b).1).2 then some ((b:Int),(P6 (N0 d b).1).1.1,(P6 (N0 d b).1).1.2.2)else none
def A11(d:Dev)(n:Nat):List HD:=(List.range n).filterMap (Bf9 d)
def epK(h:HD):Int:=h.2.1
def J4(d:Dev):List HD:=Am6 epK (A11 d d.c.B)
theorem Aw2{d:Dev}{b:Nat}{x:HD}(h:Bf9 d b=some x):x.1=b/\(0<=x.2.1/\x.2.1<=1073741824)/\(∀y∈x.2.2,As4 y)/\x.2.2.Pairwise (fun a b=>a.2.1<b.2.1):=by
 unfold Bf9 at h
 split at h
 ·obtain rfl:=Option.some.inj h
  have h1:=B90 (N0 d b).1
  exact⟨rfl,Cq2 _,h1.1,h1.2⟩
 ·cases h
theorem Al6{d:Dev}{n:Nat}{x:HD}(h:x∈A11 d n): ∃b:Nat,b<n/\Bf9 d b=some x:=by
 unfold A11 at h
 rw[List.mem_filterMap]at h
 obtain⟨b,hb,hx⟩:=h
 exact⟨b,List.mem_range.1 hb,hx⟩
theorem Aw6(d:Dev)(n:Nat):A11 d (n+1)=A11 d n++(Bf9 d n).toList:=by
 unfold A11
 rw[List.range_succ,List.filterMap_append]
 congr 1
theorem At5(d:Dev)(n:Nat):(A11 d n).length<=n:=by
 have:=List.length_filterMap_le (Bf9 d) (List.range n)
 rw[List.length_range]at this;exact this
structure Q9(d:Dev)(lv:SlV)(hs:List HE)(hseg:A4)(pv:SlV)(bs:List BP)(pseg:A4):Prop where
 own:Own lv 3 eHl (hs.flatMap HE.enc) hseg
 ok: ∀h∈hs,h.Ok
 dat:hs.map HE.dat=J4 d
 pown:Own pv 1 tPs (bs.map BP.val) pseg
 pok: ∀b∈bs,b.Ok
 pdat:bs.map BP.ls=(List.range d.c.B).map fun(b:Nat)=>(N0 d b).1
def HoldK(d:Dev)(A:A4)(r:Value)(L':A4):Prop:= ∃(lv:SlV) (hs:List HE) (hseg:A4) (pv:SlV) (bs:List BP) (pseg:A4),r= .t #[.slice lv.a lv.len lv.cap,.slice pv.a pv.len pv.cap,.i 0]/\
 L'=hseg++(T7 hs++(pseg++(Ae3 bs++A)))/\Q9 d lv hs hseg pv bs pseg
theorem Ct9{d:Dev}(ok:Q3 d)(hdn:d.down=false){b:Nat}(hb:b<d.c.B):(N0 d b).2=0:=by
 have hP:=ok.c.p
 have hl:=ok.len
 have:H8 d b 0=0:=by
  unfold H8
  rw[if_neg (by simp[hdn]),if_neg (by omega),if_neg (by omega)]
 unfold N0
 rw[if_neg (by simp[this])]
theorem Dd1(m:Nat)(d:Dev)(A:A4)(h:FH m d A)(ok:Q3 d)(hdn:d.down=false):CallF PP 165 #[.q (some ⟨m,0,none⟩)] A (HoldK d A):=by
 refine c165 (some ⟨m,0,none⟩) ?_
 unfold s165
 have hB:=ok.c.b
 refine B7 (An5 m d A h) ((d.c.B,d.c.P,d.c.S,d.c.W,()),()) rfl ?_
 refine G0 (fun z' z L'=> ∃(i:Nat) (lv:SlV) (hs:List HE) (hseg:A4) (pv:SlV) (bs:List BP) (pseg J:A4),i<=d.c.B/\z'=d.c.B-i/\z=(lv,pv,(i:Int),())/\L'.Perm (hseg++(T7 hs++(pseg++(Ae3 bs++(J++A)))))/\
   Own lv 3 eHl (hs.flatMap HE.enc) hseg/\(∀h∈hs,h.Ok)/\hs.map HE.dat=A11 d i/\Own pv 1 tPs (bs.map BP.val) pseg/\(∀b∈bs,b.Ok)/\bs.map BP.ls=(List.range i).map fun(b:Nat)=>(N0 d b).1) d.c.B
  ⟨0,⟨none,0,0⟩,[],[],⟨none,0,0⟩,[],[],[],by omega,by omega,rfl,List.Perm.refl _,F4,by simp,rfl,F4,by simp,rfl⟩ ?_
 rintro z' z L1 ⟨i,lv,hs,hseg,pv,bs,pseg,J,hi,rfl,rfl,hp,own,hok,hdat,pown,pok,pdat⟩
 dsimp only
 have hbl:bs.length=i:=by have:=congrArg List.length pdat;rw[List.length_map,List.length_map,List.length_range]at this;exact this
 have hhl:hs.length<=i:=by have:=congrArg List.length hdat;rw[List.length_map]at this;have h2:=At5 d i;omega
 have hlv:=own.sl.els_len HE.enc_len (by decide)
 have hpv:=pown.sl.len
 rw[List.length_map]at hpv
 refine B8 (fun(hlt:(i:Int)<d.c.B)=>?_) (fun(hge: ¬(i:Int)<d.c.B)=>?_)
 ·have hi':i<d.c.B:=by omega
  refine G5 (Db6 m d A h ok i) (R:=hseg++(T7 hs++(pseg++(Ae3 bs++J)))) (pc fun z=>by have:=pcn hp z;simp only[B4]at*;omega) ?_
  rintro _ _ ⟨v,gs,seg,rfl,rfl,gown,gok,gl⟩
  have hbn:=Ct8 ok gl
  have hbo:BP.Ok ⟨v,gs,seg⟩:=⟨gown,gok,by simpa[pvs]using hbn.1,fun g hg=>hbn.2 (g.v,g.l) (List.mem_map_of_mem (f:=fun g:PG=>(g.v,g.l)) hg)⟩
  rw[Ct9 ok hdn hi']
  refine⟨_,List.Perm.refl _,(v,0,()),rfl,ifT rfl ?_⟩
  refine Af2 De8 srcPPs pown (Y:=seg++(pgs gs++A)++(hseg++(T7 hs++(Ae3 bs++J)))) (ws:=[BP.val (⟨v,gs,seg⟩:BP)]) (pc fun z=>by simp only[B4];omega) rfl rfl (by omega) fun pv2 pseg2 hpl2 pown2=>?_
  refine S0 (C78 _ v (pvs gs) (hbo.parts (b:=⟨v,gs,seg⟩) (Y:=pseg2++(A++(hseg++(T7 hs++(Ae3 bs++J))))) (pc fun z=>by simp only[BP.all,B4];omega)) hbo.bnd.1 hbo.bnd.2) ?_
  rintro _ _-⟨w,wseg,rfl,rfl,wown⟩
  have hls:(pvs gs).map Prod.snd=(N0 d i).1:=by rw[Ax0,gl]
  rw[hls]at wown⊢
  have hpd:(bs++[(⟨v,gs,seg⟩:BP)]).map BP.ls=(List.range (i+1)).map fun(b:Nat)=>(N0 d b).1:=by rw[List.map_append,pdat,List.range_succ,List.map_append,List.map_singleton,List.map_singleton];exact congrArg (fun t=>_++[t]) gl
  have hpok: ∀b∈bs++[(⟨v,gs,seg⟩:BP)],BP.Ok b:=fun b hb=>by
   rcases List.mem_append.1 hb with hb|hb
   ·exact pok b hb
   ·rw[List.mem_singleton.1 hb];exact hbo
  have hpo:Own pv2 1 tPs ((bs++[(⟨v,gs,seg⟩:BP)]).map BP.val) pseg2:=by rw[List.map_append];exact pown2
  refine⟨(((P6 (N0 d i).1).1.1,(P6 (N0 d i).1).1.2.1,w,()),(P6 (N0 d i).1).2,()),rfl,G7 (fun(hs2:(P6 (N0 d i).1).2=true)=>?_) (fun(hs2:(P6 (N0 d i).1).2=false)=>?_)⟩
  ·have hreg:Bf9 d i=some ((i:Int),(P6 (N0 d i).1).1.1,(P6 (N0 d i).1).1.2.2):=by unfold Bf9;rw[if_pos hs2]
   refine Af2 elemHl srcHl own (Y:=wseg++(pseg2++(seg++(pgs gs++A)++((T7 hs++(Ae3 bs++J)))))) (ws:=HE.enc ⟨i,(P6 (N0 d i).1).1.1,w,wseg,(P6 (N0 d i).1).1.2.2⟩) (pc fun z=>by simp only[B4];omega) rfl rfl (by omega) fun lv2 hseg2 hl2 own2=>?_
   refine D9 (by omega) ⟨d.c.B-(i+1),by omega,i+1,lv2,hs++[⟨i,(P6 (N0 d i).1).1.1,w,wseg,(P6 (N0 d i).1).1.2.2⟩],hseg2,pv2,bs++[(⟨v,gs,seg⟩:BP)],pseg2,J,by omega,rfl,rfl,?_,?_,?_,?_,hpo,hpok,hpd⟩
   ·rw[Cg5,Cg4,Bm0,Bl9]
    exact pc fun z=>by simp only[BP.all,B4];omega
   ·rw[List.flatMap_append,List.flatMap_singleton];exact own2
   ·intro x hx
    rcases List.mem_append.1 hx with hx|hx
    ·exact hok x hx
    ·rw[List.mem_singleton.1 hx];exact wown
   ·rw[Aw6,hreg,List.map_append,hdat];rfl
  ·have hreg:Bf9 d i=none:=by unfold Bf9;rw[if_neg (by simp[hs2])]
   refine D9 (by omega) ⟨d.c.B-(i+1),by omega,i+1,lv,hs,hseg,pv2,bs++[(⟨v,gs,seg⟩:BP)],pseg2,J++wseg,by omega,rfl,rfl,?_,own,hok,?_,hpo,hpok,hpd⟩
   ·rw[Bm0,Bl9]
    exact pc fun z=>by simp only[BP.all,B4];omega
   ·rw[Aw6,hreg,hdat];simp
 ·obtain rfl:i=d.c.B:=by omega
  have hep: ∀x∈hs,0<=x.ep/\x.ep<=4294967296:=by
   intro x hx
   have hm:x.dat∈A11 d d.c.B:=by rw[<-hdat];exact List.mem_map_of_mem hx
   obtain⟨b,-,hb⟩:=Al6 hm
   have h1:=(Aw2 hb).2.1
   have h2:x.dat.2.1=x.ep:=rfl
   omega
  refine S0 (CallF.perm hp.symm (Co8 lv hs hseg (T7 hs++(pseg++(Ae3 bs++(J++A)))) own hep (by omega))) ?_
  rintro _ _-⟨hseg2,rfl,rfl,own2⟩
  refine⟨(),rfl,.drop (A:=hseg2++(T7 (Am6 HE.ep hs)++(pseg++(Ae3 bs++A)))) (J:=J) ⟨lv,Am6 HE.ep hs,hseg2,pv,bs,pseg,rfl,rfl,own2,fun x hx=>hok x ((N9 HE.ep hs).subset hx),?_,pown,pok,pdat⟩ ?_⟩
  ·rw[Cf6 HE.ep HE.dat epK (fun _=>rfl),hdat];rfl
  ·exact pc fun z=>by have:=Az8 HE.seg (N9 HE.ep hs) z;simp only[T7,B4];omega
def Bc8(kind:Int)(h:HE)(l:List It):List (HE×It):=(l.filter fun x=>decide (x.1=kind)).map fun x=>(h,x)
def Bc9(kind:Int)(hs:List HE):List (HE×It):=hs.flatMap fun h=>Bc8 kind h h.l
theorem At2(kind:Int)(h:HE)(a b:List It):Bc8 kind h (a++b)=Bc8 kind h a++Bc8 kind h b:=by simp[Bc8]
theorem Bu5{kind:Int}{h:HE}{x:It}(e:x.1=kind):Bc8 kind h [x]=[(h,x)]:=by simp[Bc8,e]
theorem C71{kind:Int}{h:HE}{x:It}(e: ¬x.1=kind):Bc8 kind h [x]=[]:=by simp[Bc8,e]
theorem A73(kind:Int)(a b:List HE):Bc9 kind (a++b)=Bc9 kind a++Bc9 kind b:=List.flatMap_append
theorem Bu6(kind:Int)(h:HE):Bc9 kind [h]=Bc8 kind h h.l:=by simp[Bc9]
theorem Bu7{kind:Int}{hs:List HE}{q:HE×It}(h:q∈Bc9 kind hs):q.1∈hs/\q.2∈q.1.l/\q.2.1=kind:=by
 unfold Bc9 Bc8 at h
 simp only[List.mem_flatMap,List.mem_map,List.mem_filter,decide_eq_true_eq]at h
 obtain⟨a,ha,x,⟨hx,he⟩,rfl⟩:=h
 exact⟨ha,hx,he⟩
theorem Bu0{α:Type}(l:List α){i:Nat}(hi:i<l.length):l=l.take i++l[i]::l.drop (i+1):=by
 rw[<-List.drop_eq_getElem_cons hi,List.take_append_drop]
theorem Y3{α:Type}(l:List α){i:Nat}(hi:i<l.length):l.take (i+1)=l.take i++[l[i]]:=by rw[List.take_succ_eq_append_getElem hi]
theorem Cj0(v:SlV)(hs:List HE)(kind:Int)(fn:FnV)(I:List (HE×It)->A4->Prop)(hlen:hs.length<=1000000)(hb: ∀h∈hs,h.l.length<=1000000)
  (hI: ∀done L,I done L->Sl L v 3 (hs.flatMap HE.enc)/\ ∀h∈hs,Sl L h.v 3 (h.l.flatMap O9))
  (step: ∀(done rest:List (HE×It)) (h:HE) (x:It) (L:A4) (k:RsV []->HP),Bc9 kind hs=done++(h,x)::rest->I done L->(∀L',I (done++[(h,x)]) L'->k () L')->
   clv PP fn.fn (fn.first++#[.agg #[.i h.b,.i h.ep,.slice h.v.a h.v.len h.v.cap],.agg #[.i x.1,.i x.2.1,.i x.2.2.1]]) fn.captured [] k L)
  {L:A4} (h0:I [] L):CallF PP 166 #[.slice v.a v.len v.cap,.i kind,.func fn.fn fn.first fn.captured] L fun r L'=>r= .t #[]/\I (Bc9 kind hs) L':=by
 refine c166 v kind fn ?_
 unfold s166
 have hvl:=(hI _ _ h0).1.els_len HE.enc_len (by decide)
 refine G0 (fun z' z L'=> ∃i:Nat,i<=hs.length/\z'=hs.length-i/\z=((i:Int),())/\I (Bc9 kind (hs.take i)) L') hs.length ⟨0,by omega,by omega,rfl,h0⟩ ?_
 rintro z' z L1 ⟨i,hi,rfl,rfl,hI1⟩
 dsimp only
 refine B8 (fun(hlt:(i:Int)<v.len)=>?_) (fun(hge: ¬(i:Int)<v.len)=>?_)
 ·have hi':i<hs.length:=by omega
  refine V7 HE.enc_len (by decide) (hI _ _ hI1).1 rfl hi' fun a ha=>?_
  have hmem:hs[i]∈hs:=List.getElem_mem hi'
  have hsp:=Bu0 hs hi'
  have htk:=Y3 hs hi'
  generalize hs[i]=h at ha hmem hsp htk
  refine A6 (h.b,h.ep,h.v,()) ha ?_
  dsimp only
  have hhl:=((hI _ _ hI1).2 h hmem).els_len E1 (by decide)
  have hhb:=hb h hmem
  refine G0 (fun z' z L'=> ∃j:Nat,j<=h.l.length/\z'=h.l.length-j/\z=((j:Int),())/\I (Bc9 kind (hs.take i)++Bc8 kind h (h.l.take j)) L') h.l.length ⟨0,by omega,by omega,rfl,by simpa[Bc8]using hI1⟩ ?_
  rintro z' z L2 ⟨j,hj,rfl,rfl,hI2⟩
  dsimp only
  refine B8 (fun(hlt2:(j:Int)<h.v.len)=>?_) (fun(hge2: ¬(j:Int)<h.v.len)=>?_)
  ·have hj':j<h.l.length:=by omega
   refine V7 E1 (by decide) ((hI _ _ hI2).2 h hmem) rfl hj' fun a2 ha2=>?_
   have hsp2:=Bu0 h.l hj'
   have htk2:=Y3 h.l hj'
   generalize h.l[j]=x at ha2 hsp2 htk2
   refine A6 x ha2 (B8 (fun(hk:x.1=kind)=>?_) (fun(hk: ¬x.1=kind)=>?_))
   ·refine step (Bc9 kind (hs.take i)++Bc8 kind h (h.l.take j)) (Bc8 kind h (h.l.drop (j+1))++Bc9 kind (hs.drop (i+1))) h x L2 _ ?_ hI2 fun L' hI3=>?_
    ·conv=>lhs;rw[hsp]
     rw[A73,show h::hs.drop (i+1)=[h]++hs.drop (i+1)from rfl,A73,Bu6]
     conv=>lhs;rw[hsp2]
     rw[At2,show x::h.l.drop (j+1)=[x]++h.l.drop (j+1)from rfl,At2,Bu5 hk]
     simp[List.append_assoc]
    ·refine D9 (by omega) ⟨h.l.length-(j+1),by omega,j+1,by omega,rfl,rfl,?_⟩
     rw[htk2,At2,Bu5 hk,<-List.append_assoc];exact hI3
   ·refine D9 (by omega) ⟨h.l.length-(j+1),by omega,j+1,by omega,rfl,rfl,?_⟩
    rw[htk2,At2,C71 hk,List.append_nil];exact hI2
  ·obtain rfl:j=h.l.length:=by omega
   refine D9 (by omega) ⟨hs.length-(i+1),by omega,i+1,by omega,rfl,rfl,?_⟩
   rw[htk,A73,Bu6]
   rw[List.take_length]at hI2
   exact hI2
 ·obtain rfl:i=hs.length:=by omega
  rw[List.take_length]at hI1
  exact .of ⟨rfl,hI1⟩
abbrev LE:=ByteArray×It
def LE.enc(x:LE):List Value:=[.w x.1,.i x.2.1,.i x.2.2.1,.i x.2.2.2.1]
theorem LE.enc_len(x:LE):(LE.enc x).length=4:=rfl
def As3(l:List UInt8):ByteArray:=⟨l.toArray⟩
def Cs5(h:HD)(x:It):It:=(h.1,x.2.1,h.2.1,())
def Aa3(d:Dev)(q:HD×It):Option LE:=if(C5 d (Cs5 q.1 q.2)).2.2=0 then some (As3 (C5 d (Cs5 q.1 q.2)).1,Cs5 q.1 q.2)else none
def Ag5(d:Dev)(q:HD×It):List It:=(Aj4 (N0 d q.1.1).1 q.2).flatMap fun b=>(Ac3 b).1
def C39(q:HE×It):HD×It:=(q.1.dat,q.2)
abbrev eLv:TypeId:=162
theorem C37:U8 PP 144 eLv 4 40 [.w ⟨#[]⟩,.i 0,.i 0,.i 0]:=M6 (by kernel_rfl) (by kernel_rfl) rfl (by decide) (by decide)
theorem srcLv:As9 PP 144:=.inl ⟨eLv,by kernel_rfl⟩
def plV(p:It):Value:=.agg #[.i p.1,.i p.2.1,.i p.2.2.1]
theorem mapL:Cm4 PP 246 9 102 Value.w (plV (0,0,0,())):=A96 (by kernel_rfl) (C27 (by kernel_rfl)) (by kernel_rfl)
theorem Ci7(x y:It):Bs0 PP 100 A12 (O9 x) (O9 y)=some (decide (x=y)):=by
 have h:Bs0 PP 100 A12 [.i x.1,.i x.2.1,.i x.2.2.1] [.i y.1,.i y.2.1,.i y.2.2.1]=some (x.1==y.1&&(x.2.1==y.2.1&&(x.2.2.1==y.2.2.1&&true))):=by kernel_rfl
 unfold O9
 rw[h]
 clear h
 refine congrArg some ?_
 obtain⟨a,b,c,⟨⟩⟩:=x
 obtain⟨a',b',c',⟨⟩⟩:=y
 rw[Bool.eq_iff_iff];simp
theorem C79(a:It):Instr.sameBits 10000 (plV a) (plV a)=true:=by
 have h: ∀n,Instr.sameBits (n+1) (plV a) (plV a)=true:=by intro n;simp[plV,Instr.sameBits]
 have h2:=h 9999
 rw[show 9999+1=10000 from rfl]at h2
 exact h2
theorem mapK:Cm4 PP 249 102 4 plV (.b false):=A96 (by kernel_rfl) (Ce7 O9 (fun _=>rfl) C02 Ci7 C79) (by kernel_rfl)
def Br1(l:List LE):List (ByteArray×Value):=l.foldl (fun m x=>A20 m x.1 (plV x.2)) []
def B35(l:List It):List (It×Value):=l.foldl (fun m p=>A20 m p (.b true)) []
theorem A46(l:List LE)(x:LE):Br1 (l++[x])=A20 (Br1 l) x.1 (plV x.2):=by simp[Br1]
theorem A47(l:List It)(x:It):B35 (l++[x])=A20 (B35 l) x (.b true):=by simp[B35]
def I1(n6 n7:Nat)(F:A4)(all:List LE)(L:A4):Prop:= ∃(av:SlV) (aseg:A4) (es:Array MapEntry) (ck:Nat) (J:A4),L.Perm ((n6,Obj.cells #[.slice av.a av.len av.cap] 144)::((n7,Obj.map es ck)::(aseg++(J++F))))/\
 Own av 4 eLv (all.flatMap LE.enc) aseg/\Mp Value.w es (Br1 all)
theorem I1.sub{n6 n7:Nat}{F:A4}{all:List LE}{L:A4}(h:I1 n6 n7 F all L): ∀x∈F,x∈L:=by
 obtain⟨av,aseg,es,ck,J,hL,-⟩:=h
 exact fun x hx=>hL.symm.subset (by simp[hx])
theorem Cq9(m:Nat)(d:Dev)(A:A4)(h:FH m d A)(ok:Q3 d)(n1 n6 n7 n8:Nat)(T1:TypeId)(R F:A4)(hF:F.Perm (A++R))(h1:(n1,Obj.cells #[.q (some ⟨m,0,none⟩)] T1)∈F)(h8:(n8,Obj.cells #[.map (some n7)] 246)∈F)
  (all:List LE) (hal:all.length<=1000000) (he:HE) (x:It) (hx:As4 x) (L:A4) (hL:I1 n6 n7 F all L):
  CallF PP 167 #[.agg #[.i he.b,.i he.ep,.slice he.v.a he.v.len he.v.cap],.agg #[.i x.1,.i x.2.1,.i x.2.2.1],.q (some ⟨n1,0,none⟩),.q (some ⟨n6,0,none⟩),.q (some ⟨n8,0,none⟩)] L
   fun r L'=>r= .t #[]/\I1 n6 n7 F (all++(Aa3 d (he.dat,x)).toList) L':=by
 refine c167 (he.b,he.ep,he.v,()) x (some ⟨n1,0,none⟩) (some ⟨n6,0,none⟩) (some ⟨n8,0,none⟩) ?_
 unfold s167
 dsimp only
 have hx':=hx
 unfold As4 at hx'
 have hpl:Cs5 he.dat x=(he.b,x.2.1,he.ep,()):=rfl
 refine A5 rfl (A6 (some ⟨m,0,none⟩) (ldB (hL.sub _ h1) rfl) ?_)
 have hL0:=hL
 obtain⟨av,aseg,es,ck,J,hp,own,hm⟩:=hL
 have hfe:=Bb5 m d A h ok (Cs5 he.dat x) (Bd4 (by rw[hpl];simp only;omega))
 refine G5 (R:=(n6,Obj.cells #[.slice av.a av.len av.cap] 144)::((n7,Obj.map es ck)::(aseg++(J++R)))) hfe (pc fun z=>by have:=pcn hp z;have:=pcn hF z;simp only[B4,C6]at*;omega) ?_
 rintro _ _ ⟨g,rfl,rfl,hg,hgl⟩
 generalize hq:C5 d (Cs5 he.dat x)=q
 have hI1:I1 n6 n7 F all (g.seg++A++((n6,Obj.cells #[.slice av.a av.len av.cap] 144)::((n7,Obj.map es ck)::(aseg++(J++R))))):=
  ⟨av,aseg,es,ck,g.seg++J,pc fun z=>by have:=pcn hF z;simp only[B4,C6]at*;omega,own,hm⟩
 refine⟨_,List.Perm.refl _,(As3 q.1,g.v,q.2.2,()),rfl,B8 (fun(h0:q.2.2=0)=>?_) (fun(h0: ¬q.2.2=0)=>?_)⟩
 ·have hlo:Aa3 d (he.dat,x)=some (As3 q.1,Cs5 he.dat x):=by unfold Aa3;simp only;rw[hq,if_pos h0]
  rw[hlo]
  obtain⟨av,aseg,es,ck,J,hp,own,hm⟩:=hI1
  have hl:=own.sl.els_len LE.enc_len (by decide)
  refine A5 rfl (A6 av (ldB (hp.symm.subset List.mem_cons_self) rfl) ?_)
  refine Af2 C37 srcLv own (Y:=(n6,Obj.cells #[.slice av.a av.len av.cap] 144)::((n7,Obj.map es ck)::(J++F))) (ws:=LE.enc (As3 q.1,Cs5 he.dat x)) (pc fun z=>by have:=pcn hp z;simp only[B4,C6]at*;omega) rfl rfl (by omega) fun av2 aseg2 hl2 own2=>?_
  refine B12 (n:=n6) (off:=0) (c:=#[.slice av.a av.len av.cap]) (T:=144) (fz:=(0,0)) (Y:=(n7,Obj.map es ck)::(aseg2++(J++F))) (pc fun z=>by simp only[B4,C6];omega) rfl (by simp) (.inl (Nat.le_refl _)) #[.slice av2.a av2.len av2.cap] rfl fun L2 hp2=>?_
  refine A5 rfl (A6 (some n7) (ldB (c:=#[.map (some n7)]) (T:=246) (fz:=(0,0)) (hp2.symm.subset (by simp[h8])) rfl) ?_)
  refine Al0 mapL (es:=es) (clock:=ck) (Y:=(n6,Obj.cells #[.slice av2.a av2.len av2.cap] 144)::(aseg2++(J++F))) (pc fun z=>by have:=pcn hp2 z;simp only[B4,C6]at*;omega) hm (As3 q.1) (plV (Cs5 he.dat x)) fun es2 ck2 L3 hm2 hp3=>?_
  refine .of ⟨rfl,av2,aseg2,es2,ck2,J,pc fun z=>by have:=pcn hp3 z;simp only[B4,C6]at*;omega,?_,?_⟩
  ·rw[Option.toList_some,List.flatMap_append,List.flatMap_singleton];exact own2
  ·rw[Option.toList_some,A46];exact hm2
 ·have hlo:Aa3 d (he.dat,x)=none:=by unfold Aa3;simp only;rw[hq,if_neg h0]
  rw[hlo,Option.toList_none,List.append_nil]
  exact .of ⟨rfl,hI1⟩
def I2(n9:Nat)(F:A4)(ks:List It)(L:A4):Prop:= ∃(es:Array MapEntry) (ck:Nat) (J:A4),L.Perm ((n9,Obj.map es ck)::(J++F))/\Mp plV es (B35 ks)
theorem I2.sub{n9:Nat}{F:A4}{ks:List It}{L:A4}(h:I2 n9 F ks L): ∀x∈F,x∈L:=by
 obtain⟨es,ck,J,hL,-⟩:=h
 exact fun x hx=>hL.symm.subset (by simp[hx])
theorem I2.more{n9:Nat}{F X:A4}{ks:List It}{L L':A4}(h:I2 n9 F ks L)(hp:L'.Perm (X++L)):I2 n9 (X++F) ks L':=by
 obtain⟨es,ck,J,hL,hm⟩:=h
 exact⟨es,ck,J,pc fun z=>by have:=pcn hL z;have:=pcn hp z;simp only[B4,C6]at*;omega,hm⟩
theorem I2.less{n9:Nat}{F X:A4}{ks:List It}{L:A4}(h:I2 n9 (X++F) ks L):I2 n9 F ks L:=by
 obtain⟨es,ck,J,hL,hm⟩:=h
 exact⟨es,ck,J++X,pc fun z=>by have:=pcn hL z;simp only[B4,C6]at*;omega,hm⟩
theorem B34(p:List UInt8):(Ac3 p).1.length<=p.length:=by
 unfold Ac3
 split
 ·simp
 ·split
  ·simp only[Cb4];omega
  ·simp
theorem A42{ps:List (List UInt8)}(hb: ∀x∈ps,x.length<=512){pg:Int}: ∀{n:Nat} {l:List (List UInt8)},S6 ps pg n=some l-> ∀x∈l,x.length<=512
 |0,l,h=>by obtain rfl:=Option.some.inj h;simp
 |n+1,l,h=>by
  rw[S6]at h
  split at h
  ·rename_i l' hl'
   split at h
   ·cases h
   ·split at h
    ·obtain rfl:=Option.some.inj h
     intro x hx
     rcases List.mem_append.1 hx with hx|hx
     ·exact A42 hb hl' x hx
     ·rw[List.mem_singleton.1 hx]
      refine Nat.le_trans (At6 _) ?_
      rw[List.getD_eq_getElem?_getD]
      cases hg:ps[pg.toNat+n]? with
      |none=>simp
      |some b=>exact hb b (List.mem_of_getElem? hg)
    ·cases h
  ·cases h
theorem B29{ps:List (List UInt8)}(hb: ∀x∈ps,x.length<=512)(x:It):(Aj4 ps x).length<=x.2.2.1.toNat/\ ∀p∈Aj4 ps x,p.length<=512:=by
 unfold Aj4
 cases h:S6 ps x.2.1 x.2.2.1.toNat with
 |none=>simp
 |some l=>exact⟨by simp[(Ao8 h).1],A42 hb h⟩
theorem Cq8(d:Dev)(n3 n9 n10:Nat)(F pseg:A4)(pv:SlV)(bs:List BP)(pown:Own pv 1 tPs (bs.map BP.val) pseg)(pok: ∀b∈bs,b.Ok)(pdat:bs.map BP.ls=(List.range d.c.B).map fun(b:Nat)=>(N0 d b).1)
  (hpF: ∀x∈pseg,x∈F) (hbF: ∀x∈Ae3 bs,x∈F) (h3:(n3,Obj.cells #[.slice pv.a pv.len pv.cap] 243)∈F) (h10:(n10,Obj.cells #[.map (some n9)] 249)∈F)
  (ks:List It) (he:HE) (b:Nat) (hb:he.b=b) (hbB:b<d.c.B) (x:It) (hx:As4 x) (L:A4) (hL:I2 n9 F ks L):
  CallF PP 168 #[.agg #[.i he.b,.i he.ep,.slice he.v.a he.v.len he.v.cap],.agg #[.i x.1,.i x.2.1,.i x.2.2.1],.q (some ⟨n3,0,none⟩),.q (some ⟨n10,0,none⟩)] L
   fun r L'=>r= .t #[]/\I2 n9 F (ks++Ag5 d (he.dat,x)) L':=by
 refine c168 (he.b,he.ep,he.v,()) x (some ⟨n3,0,none⟩) (some ⟨n10,0,none⟩) ?_
 unfold s168
 dsimp only
 have hx':=hx
 unfold As4 at hx'
 have hbl:bs.length=d.c.B:=by have:=congrArg List.length pdat;rw[List.length_map,List.length_map,List.length_range]at this;exact this
 have hi:b<bs.length:=by omega
 refine A5 rfl (A6 pv (ldB (hL.sub _ h3) rfl) ?_)
 refine Cx4 (pown.sl.mono fun y hy=>hL.sub _ (hpF y hy)) hb (by rw[List.length_map];exact hi) fun a ha=>?_
 rw[List.getElem_map]at ha
 have hbm:bs[b]∈bs:=List.getElem_mem hi
 have hls:bs[b].ls=(N0 d b).1:=by
  have h1:(bs.map BP.ls)[b]?=some bs[b].ls:=by rw[List.getElem?_map,List.getElem?_eq_getElem hi];rfl
  rw[pdat,List.getElem?_map,List.getElem?_range hbB]at h1
  exact(Option.some.inj h1).symm
 generalize bs[b]=q at ha hbm hls
 have hq:=pok q hbm
 have hqF: ∀y∈q.all,y∈F:=fun y hy=>hbF y (List.mem_flatMap.2 ⟨q,hbm,hy⟩)
 have hqp:Y1 L q.v (pvs q.gs):=A85 hq.own hq.ok (fun y hy=>hL.sub _ (hqF y (List.mem_append_left _ hy))) (fun y hy=>hL.sub _ (hqF y (List.mem_append_right _ hy)))
 refine A6 q.v ha (S0 (Bp2 L q.v (pvs q.gs) hqp hq.bnd.1 hq.bnd.2 x ⟨Bd4 (by omega),Bd4 (by omega)⟩) ?_)
 rintro _ _-⟨v2,gs2,seg2,rfl,rfl,own2,ok2,l2⟩
 have hsn:(pvs q.gs).map Prod.snd=(N0 d b).1:=by rw[Ax0];exact hls
 rw[hsn]at l2
 have hko:Ag5 d (he.dat,x)=gs2.flatMap fun g=>(Ac3 g.l).1:=by
  unfold Ag5
  show(Aj4 (N0 d he.b).1 x).flatMap _=_
  rw[hb,<-l2,List.flatMap_map]
 have hpb:=B29 (ps:=(N0 d b).1) (by
  intro y hy
  rw[<-hls]at hy
  unfold BP.ls at hy
  simp only[List.mem_map]at hy
  obtain⟨g,hg,rfl⟩:=hy
  exact hq.small g hg) x
 rw[<-l2,List.length_map]at hpb
 have hvl:=own2.sl.len
 rw[List.length_map]at hvl
 refine⟨(v2,()),rfl,?_⟩
 dsimp only
 refine G0 (fun z' z L'=> ∃i:Nat,i<=gs2.length/\z'=gs2.length-i/\z=((i:Int),())/\I2 n9 ((seg2++pgs gs2)++F) (ks++(gs2.take i).flatMap fun g=>(Ac3 g.l).1) L') gs2.length
  ⟨0,by omega,by omega,rfl,by simpa using hL.more (X:=seg2++pgs gs2) (pc fun z=>by simp only[B4];omega)⟩ ?_
 rintro z' z L2 ⟨i,hi2,rfl,rfl,hI2⟩
 dsimp only
 refine B8 (fun(hlt:(i:Int)<v2.len)=>?_) (fun(hge: ¬(i:Int)<v2.len)=>?_)
 ·have hi':i<gs2.length:=by omega
  refine Cx4 (own2.sl.mono fun y hy=>hI2.sub _ (by simp[hy])) rfl (by rw[List.length_map];exact hi') fun a2 ha2=>?_
  rw[List.getElem_map]at ha2
  have hgm:gs2[i]∈gs2:=List.getElem_mem hi'
  have htk:=Y3 gs2 hi'
  generalize gs2[i]=g at ha2 hgm htk
  have hgl:g.l.length<=512:=hpb.2 _ (List.mem_map_of_mem hgm)
  have hkl:=B34 g.l
  refine A6 g.v ha2 (S0 (Cu3 L2 g.v g.l (Sl.mono (ok2 g hgm).sl fun y hy=>hI2.sub _ (by simp only[List.mem_append];exact .inl (.inr (List.mem_flatMap.2 ⟨g,hgm,hy⟩)))) (by omega)) ?_)
  rintro _ _-⟨kv,kseg,rfl,rfl,kown⟩
  generalize hkr:Ac3 g.l=kr at kown hkl
  have hkvl:=kown.sl.els_len E1 (by decide)
  refine⟨(kv,kr.2,()),rfl,?_⟩
  dsimp only
  refine G0 (fun z' z L'=> ∃j:Nat,j<=kr.1.length/\z'=kr.1.length-j/\z=((j:Int),())/\I2 n9 (kseg++((seg2++pgs gs2)++F)) ((ks++(gs2.take i).flatMap fun g=>(Ac3 g.l).1)++kr.1.take j) L') kr.1.length
   ⟨0,by omega,by omega,rfl,by simpa using hI2.more (X:=kseg) (List.Perm.refl _)⟩ ?_
  rintro z' z L3 ⟨j,hj,rfl,rfl,hI3⟩
  dsimp only
  refine B8 (fun(hlt2:(j:Int)<kv.len)=>?_) (fun(hge2: ¬(j:Int)<kv.len)=>?_)
  ·have hj':j<kr.1.length:=by omega
   refine V7 E1 (by decide) (kown.sl.mono fun y hy=>hI3.sub _ (by simp[hy])) rfl hj' fun a3 ha3=>?_
   have htk2:=Y3 kr.1 hj'
   generalize kr.1[j]=p at ha3 htk2
   refine A6 p ha3 (A5 rfl (A6 (some n9) (ldB (c:=#[.map (some n9)]) (T:=249) (fz:=(0,0)) (hI3.sub _ (by simp[h10])) rfl) ?_))
   obtain⟨es,ck,J,hp3,hm3⟩:=hI3
   refine Al0 mapK hp3 hm3 p (.b true) fun es2 ck2 L4 hm4 hp4=>?_
   refine D9 (by omega) ⟨kr.1.length-(j+1),by omega,j+1,by omega,rfl,rfl,es2,ck2,J,hp4,?_⟩
   rw[htk2,<-List.append_assoc,A47];exact hm4
  ·obtain rfl:j=kr.1.length:=by omega
   rw[List.take_length]at hI3
   refine D9 (by omega) ⟨gs2.length-(i+1),by omega,i+1,by omega,rfl,rfl,?_⟩
   rw[htk,List.flatMap_append,List.flatMap_singleton,hkr,<-List.append_assoc]
   exact hI3.less
 ·obtain rfl:i=gs2.length:=by omega
  rw[List.take_length,<-hko]at hI2
  exact .of ⟨rfl,hI2.less⟩
def R8(l:List LE)(k:ByteArray):Option It:=(l.reverse.find? fun x=>decide (x.1=k)).map Prod.snd
theorem Br0(l:List LE)(x:LE)(k:ByteArray):R8 (l++[x]) k=if k=x.1 then some x.2 else R8 l k:=by
 unfold R8
 rw[List.reverse_append,List.reverse_singleton,List.singleton_append]
 by_cases h:k=x.1
 ·rw[if_pos h,List.find?_cons_of_pos (by simp[h])];rfl
 ·rw[if_neg h,List.find?_cons_of_neg (by simpa using fun e=>h e.symm)]
theorem Bi1(l:List LE)(k:ByteArray):Ay1 (Br1 l) k=(R8 l k).map plV/\((Br1 l).map Prod.fst).Nodup:=by
 obtain⟨r,rfl⟩: ∃r,l=r.reverse:=⟨l.reverse,by simp⟩
 induction r with
 |nil=>exact⟨rfl,List.nodup_nil⟩
 |cons x r ih=>
  rw[List.reverse_cons,A46,Br0]
  refine⟨?_,(Bh5 _ _ _ ih.2).1⟩
  rw[Ay0,ih.1]
  split<;>rfl
theorem Ce6(l:List It)(p:It):Ay1 (B35 l) p=if p∈l then some (.b true)else none:=by
 obtain⟨r,rfl⟩: ∃r,l=r.reverse:=⟨l.reverse,by simp⟩
 induction r with
 |nil=>rfl
 |cons x r ih=>
  rw[List.reverse_cons,A47,Ay0,ih]
  by_cases h:p=x
  ·simp[h]
  ·simp[h]
theorem A45{l:List LE}{x:LE}(h:x∈l): ∃p,R8 l x.1=some p:=by
 unfold R8
 cases hf:l.reverse.find? fun y=>decide (y.1=x.1)with
 |some y=>exact⟨y.2,rfl⟩
 |none=>
  rw[List.find?_eq_none]at hf
  exact(hf x (by simpa using h) (by simp)).elim
def liveR(l:List LE)(ks:List It):List LE:=l.filter fun x=>decide (R8 l x.1=some x.2/\x.2∉ks)
def B18(kind:Int)(l:List HD):List (HD×It):=l.flatMap fun h=>(h.2.2.filter fun x=>decide (x.1=kind)).map fun x=>(h,x)
def Cz2(d:Dev)(l:List HD):List LE:=(B18 2 l).filterMap (Aa3 d)
def allK(d:Dev)(l:List HD):List It:=(B18 3 l).flatMap (Ag5 d)
def S9(d:Dev):List LE:=liveR (Cz2 d (J4 d)) (allK d (J4 d))
def A94(l:List HD):Int:=l.foldl (fun a h=>Z6 a h.2.1) 0
theorem Bo5(kind:Int)(hs:List HE):(Bc9 kind hs).map C39=B18 kind (hs.map HE.dat):=by
 unfold Bc9 B18 Bc8
 rw[List.map_flatMap,List.flatMap_map]
 congr 1
 funext h
 rw[List.map_map]
 rfl
theorem Cd8(l:List HD)(h:HD):A94 (l++[h])=Z6 (A94 l) h.2.1:=by simp[A94]
theorem eqPlc{L:A4}(x y:It){k:ShV (.lf .bool)->HP}(hk:k (decide (x=y)) L):
  smP PP (binOp .eql A12 (.agg #[.i x.1,.i x.2.1,.i x.2.2.1]) (.agg #[.i y.1,.i y.2.1,.i y.2.2.1])) (.lf .bool) k L:=
 C36 (r:=decide (x=y)) C02 (Ci7 x y) hk
theorem Bq1: ∀(l:List It) (a:Int),(∀x∈l,a<=x.2.1/\x.2.1<=255)->l.Pairwise (fun x y=>x.2.1<y.2.1)->a<=256->(l.length:Int)<=256-a
 |[],a,_,_,ha=>by simp;omega
 |x::r,a,h,hp,ha=>by
  rw[List.pairwise_cons]at hp
  have h1:=h x (by simp)
  have h2:=Bq1 r (x.2.1+1) (fun y hy=>⟨by have:=hp.1 y hy;omega,(h y (by simp[hy])).2⟩) hp.2 (by omega)
  simp only[List.length_cons]
  omega
structure Fnd(d:Dev)(lv:SlV)(hs:List HE)(hseg:A4)(vv:SlV)(vseg:A4):Prop where
 own:Own lv 3 eHl (hs.flatMap HE.enc) hseg
 ok: ∀h∈hs,h.Ok
 dat:hs.map HE.dat=J4 d
 vown:Own vv 4 eLv ((S9 d).flatMap LE.enc) vseg
def FndK(d:Dev)(A:A4)(r:Value)(L':A4):Prop:= ∃(lv:SlV) (hs:List HE) (hseg:A4) (vv:SlV) (vseg:A4),
 r= .t #[.agg #[.slice lv.a lv.len lv.cap,.slice vv.a vv.len vv.cap,.i (A94 (J4 d))],.i 0]/\L'=hseg++(T7 hs++(vseg++A))/\Fnd d lv hs hseg vv vseg
theorem B99(m:Nat)(d:Dev)(A:A4)(h:FH m d A)(hdn:d.down=true):CallF PP 95 #[.q (some ⟨m,0,none⟩)] A fun r L'=>r= .t #[.agg #[.slice none 0 0,.slice none 0 0,.i 0],.i 11]/\L'=A:=by
 refine c95 (some ⟨m,0,none⟩) ?_
 unfold s95
 refine C3 fun n1 _=>A6 (some ⟨m,0,none⟩) (ldB List.mem_cons_self rfl) (ifF rfl (A6 (some ⟨m,0,none⟩) (ldB List.mem_cons_self rfl) ?_))
 refine G5 (R:=[(n1,Obj.cells #[.q (some ⟨m,0,none⟩)] 29)]) (Cj4 m d A h) (pc fun z=>by simp only[B4,C6,D8];omega) ?_
 rintro _ A' ⟨rfl,hA'⟩
 rw[hA']
 refine⟨_,List.Perm.refl _,(d.down,()),rfl,ifT hdn ?_⟩
 exact .drop (A:=A) (J:=[(n1,Obj.cells #[.q (some ⟨m,0,none⟩)] 29)]) ⟨rfl,rfl⟩ (pc fun z=>by simp only[B4,C6,D8])
theorem Bx4{d:Dev}{x:HD}(h:x∈J4 d): ∃b:Nat,b<d.c.B/\Bf9 d b=some x:=Al6 ((N9 epK _).subset h)
theorem Cg6{d:Dev}{hs:List HE}(hdat:hs.map HE.dat=J4 d){h:HE}(hm:h∈hs):(∃b:Nat,h.b=b/\b<d.c.B)/\(0<=h.ep/\h.ep<=1073741824)/\(∀y∈h.l,As4 y)/\h.l.Pairwise (fun a b=>a.2.1<b.2.1)/\h.l.length<=255:=by
 have h1:h.dat∈J4 d:=by rw[<-hdat];exact List.mem_map_of_mem hm
 obtain⟨b,hb,h2⟩:=Bx4 h1
 obtain⟨e1,e2,e3,e4⟩:=Aw2 h2
 refine⟨⟨b,e1,hb⟩,e2,e3,e4,?_⟩
 have:=Bq1 h.l 1 (fun y hy=>⟨(e3 y hy).1,(e3 y hy).2.1⟩) e4 (by omega)
 omega
theorem Cp7(kind:Int)(hs:List HE)(h: ∀x∈hs,x.l.length<=255):(Bc9 kind hs).length<=hs.length*255:=by
 induction hs with
 |nil=>simp[Bc9]
 |cons a r ih=>
  have h1:=ih fun x hx=>h x (by simp[hx])
  have h2:=h a (by simp)
  have h3:(Bc8 kind a a.l).length<=a.l.length:=by unfold Bc8;rw[List.length_map];exact List.length_filter_le _ _
  unfold Bc9 at h1⊢
  rw[List.flatMap_cons,List.length_append,List.length_cons]
  omega
def B61(all:List LE)(ks:List It)(i:Nat)(k:ByteArray):Option Value:=
 if(∃x∈all.take i,x.1=k)/\(∃p,R8 all k=some p/\p∈ks)then none else(R8 all k).map plV
theorem gone_0(all:List LE)(ks:List It)(k:ByteArray):B61 all ks 0 k=(R8 all k).map plV:=by
 unfold B61
 rw[if_neg]
 rintro⟨⟨x,hx,-⟩,-⟩
 simp at hx
theorem Cw2{all:List LE}{ks:List It}{i:Nat}(hi:i<all.length): ∃p,R8 all all[i].1=some p/\(B61 all ks i all[i].1=none/\p∈ks\/B61 all ks i all[i].1=some (plV p)):=by
 obtain⟨p,hp⟩:=A45 (List.getElem_mem hi)
 refine⟨p,hp,?_⟩
 unfold B61
 split
 ·rename_i hc
  obtain⟨-,p',hp',hk⟩:=hc
  rw[hp]at hp'
  obtain rfl:=Option.some.inj hp'
  exact .inl ⟨rfl,hk⟩
 ·rw[hp];exact .inr rfl
theorem Ch0{all:List LE}{ks:List It}{i:Nat}(hi:i<all.length){p:It}(hp:R8 all all[i].1=some p)(k:ByteArray):
  B61 all ks (i+1) k=if k=all[i].1/\p∈ks then none else B61 all ks i k:=by
 have htk:=Y3 all hi
 generalize all[i]=x at hp htk
 unfold B61
 rw[htk]
 by_cases h1:k=x.1
 ·subst h1
  by_cases h2:p∈ks
  ·rw[if_pos ⟨⟨x,by simp,rfl⟩,p,hp,h2⟩,if_pos ⟨rfl,h2⟩]
  ·have hno: ¬ ∃p',R8 all x.1=some p'/\p'∈ks:=by
    rintro⟨p',h3,h4⟩
    rw[hp]at h3
    obtain rfl:=Option.some.inj h3
    exact h2 h4
   rw[if_neg (fun h=>hno h.2),if_neg (fun h=>h2 h.2),if_neg (fun h=>hno h.2)]
 ·rw[if_neg (show¬(k=x.1/\p∈ks)from fun h=>h1 h.1)]
  have:(∃y∈all.take i++[x],y.1=k)↔ ∃y∈all.take i,y.1=k:=by
   constructor
   ·rintro⟨y,hy,he⟩
    rcases List.mem_append.1 hy with hy|hy
    ·exact⟨y,hy,he⟩
    ·rw[List.mem_singleton.1 hy]at he;exact absurd he.symm h1
   ·rintro⟨y,hy,he⟩
    exact⟨y,by simp[hy],he⟩
  by_cases hc:(∃y∈all.take i,y.1=k)/\ ∃p,R8 all k=some p/\p∈ks
  ·rw[if_pos ⟨this.2 hc.1,hc.2⟩,if_pos hc]
  ·rw[if_neg (fun h=>hc ⟨this.1 h.1,h.2⟩),if_neg hc]
theorem Cw3{all:List LE}{ks:List It}{x:LE}(hx:x∈all){p:It}(hp:R8 all x.1=some p):B61 all ks all.length x.1=if p∈ks then none else some (plV p):=by
 unfold B61
 rw[List.take_length]
 by_cases h:p∈ks
 ·rw[if_pos ⟨⟨x,hx,rfl⟩,p,hp,h⟩,if_pos h]
 ·rw[if_neg,if_neg h,hp]
  ·rfl
  ·rintro⟨-,p',h3,h4⟩
   rw[hp]at h3
   obtain rfl:=Option.some.inj h3
   exact h h4
theorem filt1{α:Type}(p:α->Bool)(x:α):[x].filter p=if p x=true then[x]else[]:=by cases h:p x<;>simp[h]
theorem Cq7(m:Nat)(d:Dev)(A:A4)(h:FH m d A)(ok:Q3 d)(hdn:d.down=false):CallF PP 95 #[.q (some ⟨m,0,none⟩)] A (FndK d A):=by
 refine c95 (some ⟨m,0,none⟩) ?_
 unfold s95
 have hB:=ok.c.b
 refine C3 fun n1 _=>?_
 obtain⟨c1,hc1⟩: ∃c1:Nat×Obj,c1=(n1,Obj.cells #[.q (some ⟨m,0,none⟩)] 29):=⟨_,rfl⟩
 rw[<-hc1]
 have l1: ∀L:A4,c1∈L->D4 ⟨n1,0,none⟩ [.q (some ⟨m,0,none⟩)] L:=fun L hm=>ldB (by rw[hc1]at hm;exact hm) rfl
 refine A6 (some ⟨m,0,none⟩) (l1 _ List.mem_cons_self) (ifF rfl (A6 (some ⟨m,0,none⟩) (l1 _ List.mem_cons_self) ?_))
 refine G5 (R:=[c1]) (Cj4 m d A h) (pc fun z=>by simp only[B4,C6,D8];omega) ?_
 rintro _ A' ⟨rfl,hA'⟩
 rw[hA']
 refine⟨_,List.Perm.refl _,(d.down,()),rfl,ifF hdn (A6 (some ⟨m,0,none⟩) (l1 _ (by simp)) ?_)⟩
 refine G5 (Dd1 m d A h ok hdn) (List.Perm.refl _) ?_
 rintro _ _ ⟨lv,hs,hseg,pv,bs,pseg,rfl,rfl,H⟩
 refine⟨_,List.Perm.refl _,(lv,pv,0,()),rfl,C3 fun n3 _=>?_⟩
 obtain⟨own,hok,hdat,pown,pok,pdat⟩:=H
 refine B12 (n:=n3) (off:=0) (c:=#[.slice none 0 0]) (T:=243) (fz:=(0,0)) (Y:=c1::(hseg++(T7 hs++(pseg++(Ae3 bs++A))))) (pc fun z=>by simp only[B4,C6,D8];omega) rfl (by simp) (.inl (Nat.le_refl _)) #[.slice pv.a pv.len pv.cap] rfl fun L1 hp1=>?_
 refine ifT rfl ?_
 have hvl:=own.sl.els_len HE.enc_len (by decide)
 have hhl:hs.length<=16:=by
  have h1:=congrArg List.length hdat
  rw[List.length_map]at h1
  have h2:=(N9 epK (A11 d d.c.B)).length_eq
  have h3:=At5 d d.c.B
  unfold J4 at h1
  omega
 obtain⟨F0,hF0⟩: ∃F0:A4,F0=(n3,Obj.cells #[.slice pv.a pv.len pv.cap] 243)::(c1::(hseg++(T7 hs++(pseg++(Ae3 bs++A))))):=⟨_,rfl⟩
 have hp1':L1.Perm F0:=by rw[hF0];exact hp1
 have f3:(n3,Obj.cells #[.slice pv.a pv.len pv.cap] 243)∈F0:=by rw[hF0];simp
 have f1:c1∈F0:=by rw[hF0];simp
 have fh: ∀x∈hseg,x∈F0:=fun x hx=>by rw[hF0];simp[hx]
 have fhs: ∀x∈T7 hs,x∈F0:=fun x hx=>by rw[hF0];simp[hx]
 have fp: ∀x∈pseg,x∈F0:=fun x hx=>by rw[hF0];simp[hx]
 have fb: ∀x∈Ae3 bs,x∈F0:=fun x hx=>by rw[hF0];simp[hx]
 have slF: ∀L:A4,(∀x∈F0,x∈L)->Sl L lv 3 (hs.flatMap HE.enc)/\ ∀h∈hs,Sl L h.v 3 (h.l.flatMap O9):=fun L hL=>
  ⟨own.sl.mono fun x hx=>hL x (fh x hx),fun h hh=>Sl.mono (Own.sl (hok h hh)) fun x hx=>hL x (fhs x (List.mem_flatMap.2 ⟨h,hh,hx⟩))⟩
 refine G0 (fun z' z L'=> ∃i:Nat,i<=hs.length/\z'=hs.length-i/\z=((i:Int),A94 ((hs.take i).map HE.dat),())/\L'=L1) hs.length ⟨0,by omega,by omega,rfl,rfl⟩ ?_
 rintro z' z L' ⟨i,hi,rfl,rfl,hL'⟩
 rw[hL']
 dsimp only
 refine B8 (fun(hlt:(i:Int)<lv.len)=>?_) (fun(hge: ¬(i:Int)<lv.len)=>?_)
 ·have hi':i<hs.length:=by omega
  refine V7 HE.enc_len (by decide) (slF _ fun x hx=>hp1'.symm.subset hx).1 rfl hi' fun a ha=>?_
  have htk:=Y3 hs hi'
  generalize hs[i]=x at ha htk
  refine A6 (x.b,x.ep,x.v,()) ha (D9 (by omega) ⟨hs.length-(i+1),by omega,i+1,by omega,rfl,?_,rfl⟩)
  rw[htk,List.map_append,List.map_singleton,Cd8];rfl
 obtain rfl:i=hs.length:=by omega
 have hme:A94 ((hs.take hs.length).map HE.dat)=A94 (J4 d):=by rw[List.take_length,hdat]
 rw[hme]
 clear hge hi hme
 refine C3 fun n6 _=>C3 fun n7 _=>C3 fun n8 _=>?_
 refine B12 (n:=n8) (off:=0) (c:=#[.map none]) (T:=246) (fz:=(0,0)) (Y:=(n7,Obj.map #[] 0)::((n6,Obj.cells #[.slice none 0 0] 144)::L1)) (pc fun z=>by simp only[B4,C6,D8]) rfl (by simp) (.inl (Nat.le_refl _)) #[.map (some n7)] rfl fun L2 hp2=>?_
 obtain⟨F1,hF1⟩: ∃F1:A4,F1=(n8,Obj.cells #[.map (some n7)] 246)::F0:=⟨_,rfl⟩
 have i10:I1 n6 n7 F1 [] L2:=⟨⟨none,0,0⟩,[],#[],0,[],pc fun z=>by have:=pcn hp2 z;have:=pcn hp1' z;rw[hF1];simp only[B4,C6,D8]at*;omega,F4,rfl⟩
 have f8:(n8,Obj.cells #[.map (some n7)] 246)∈F1:=by rw[hF1];exact List.mem_cons_self
 have f01: ∀x∈F0,x∈F1:=fun x hx=>by rw[hF1];exact List.mem_cons_of_mem _ hx
 have hbig:=fun kind=>Cp7 kind hs fun x hx=>(Cg6 hdat hx).2.2.2.2
 have hFA:F1.Perm (A++((n8,Obj.cells #[.map (some n7)] 246)::((n3,Obj.cells #[.slice pv.a pv.len pv.cap] 243)::(c1::(hseg++(T7 hs++(pseg++Ae3 bs))))))):=pc fun z=>by rw[hF1,hF0];simp only[B4,C6,D8];omega
 refine S0 (Cj0 lv hs 2 ⟨.func 167,#[],#[.q (some ⟨n1,0,none⟩),.q (some ⟨n6,0,none⟩),.q (some ⟨n8,0,none⟩)]⟩ (fun done L=>I1 n6 n7 F1 ((done.map C39).filterMap (Aa3 d)) L) (by omega) (fun x hx=>by have:=(Cg6 hdat hx).2.2.2.2;omega)
  (fun done L hI=>slF L fun x hx=>hI.sub x (f01 x hx)) ?_ (L:=L2) i10) ?_
 ·intro done rest he x L k hsel hI hk
  have hq:=Bu7 (kind:=2) (hs:=hs) (q:=(he,x)) (by rw[hsel];simp)
  have hdl:done.length<=16*255:=by
   have h1:=congrArg List.length hsel
   rw[List.length_append,List.length_cons]at h1
   have h2:=hbig 2
   have h3:=Nat.mul_le_mul_right 255 hhl
   omega
  refine Z2 (by kernel_rfl) (S0 (Cq9 m d A h ok n1 n6 n7 n8 29 _ F1 hFA (by rw[<-hc1];exact f01 _ f1) f8 _ ?_ he x ((Cg6 hdat hq.1).2.2.1 x hq.2.1) L hI) ?_)
  ·have:=List.length_filterMap_le (Aa3 d) (done.map C39)
   rw[List.length_map]at this
   omega
  ·rintro _ L'-⟨rfl,hI'⟩
   refine⟨(),rfl,hk L' ?_⟩
   rw[List.map_append,List.filterMap_append]
   have e:([(he,x)].map C39).filterMap (Aa3 d)=(Aa3 d (he.dat,x)).toList:=by
    simp only[List.map_cons,List.map_nil,C39,List.filterMap_cons,List.filterMap_nil]
    cases Aa3 d (he.dat,x)<;>rfl
   rw[e];exact hI'
 rintro _ L3-⟨rfl,hI3⟩
 rw[Bo5,hdat]at hI3
 have hall:(B18 2 (J4 d)).filterMap (Aa3 d)=Cz2 d (J4 d):=rfl
 rw[hall]at hI3
 have hal:(Cz2 d (J4 d)).length<=16*255:=by
  have h1:=List.length_filterMap_le (Aa3 d) (B18 2 (J4 d))
  have h2:=congrArg List.length (Bo5 2 hs)
  rw[List.length_map,hdat]at h2
  have h3:=hbig 2
  have h4:=Nat.mul_le_mul_right 255 hhl
  unfold Cz2
  omega
 generalize hallE:Cz2 d (J4 d)=all at*
 obtain⟨av,aseg,es,ck,J,hp3,aown,hm3⟩:=hI3
 refine⟨(),rfl,C3 fun n9 _=>C3 fun n10 _=>?_⟩
 refine B12 (n:=n10) (off:=0) (c:=#[.map none]) (T:=249) (fz:=(0,0)) (Y:=(n9,Obj.map #[] 0)::L3) (List.Perm.refl _) rfl (by simp) (.inl (Nat.le_refl _)) #[.map (some n9)] rfl fun L4 hp4=>?_
 obtain⟨F2,hF2⟩: ∃F2:A4,F2=(n10,Obj.cells #[.map (some n9)] 249)::((n6,Obj.cells #[.slice av.a av.len av.cap] 144)::((n7,Obj.map es ck)::(aseg++(J++F1)))):=⟨_,rfl⟩
 have i20:I2 n9 F2 [] L4:=⟨#[],0,[],pc fun z=>by have:=pcn hp3 z;have:=pcn hp4 z;rw[hF2];simp only[B4,C6,D8]at*;omega,rfl⟩
 have f12: ∀x∈F1,x∈F2:=fun x hx=>by rw[hF2];simp[hx]
 have f02: ∀x∈F0,x∈F2:=fun x hx=>f12 x (f01 x hx)
 have f10:(n10,Obj.cells #[.map (some n9)] 249)∈F2:=by rw[hF2];exact List.mem_cons_self
 refine S0 (Cj0 lv hs 3 ⟨.func 168,#[],#[.q (some ⟨n3,0,none⟩),.q (some ⟨n10,0,none⟩)]⟩ (fun done L=>I2 n9 F2 ((done.map C39).flatMap (Ag5 d)) L) (by omega) (fun x hx=>by have:=(Cg6 hdat hx).2.2.2.2;omega)
  (fun done L hI=>slF L fun x hx=>hI.sub x (f02 x hx)) ?_ (L:=L4) i20) ?_
 ·intro done rest he x L k hsel hI hk
  have hq:=Bu7 (kind:=3) (hs:=hs) (q:=(he,x)) (by rw[hsel];simp)
  obtain⟨⟨b,hb,hbB⟩,-,hir,-⟩:=Cg6 hdat hq.1
  refine Z2 (by kernel_rfl) (S0 (Cq8 d n3 n9 n10 F2 pseg pv bs pown pok pdat (fun y hy=>f02 y (fp y hy)) (fun y hy=>f02 y (fb y hy)) (f02 _ f3) f10 _ he b hb hbB x (hir x hq.2.1) L hI) ?_)
  rintro _ L'-⟨rfl,hI'⟩
  refine⟨(),rfl,hk L' ?_⟩
  rw[List.map_append,List.flatMap_append]
  have e:([(he,x)].map C39).flatMap (Ag5 d)=Ag5 d (he.dat,x):=by simp[C39]
  rw[e];exact hI'
 rintro _ L5-⟨rfl,hI5⟩
 rw[Bo5,hdat]at hI5
 have hkk:(B18 3 (J4 d)).flatMap (Ag5 d)=allK d (J4 d):=rfl
 rw[hkk]at hI5
 generalize hksE:allK d (J4 d)=ks at*
 refine⟨(),rfl,?_⟩
 obtain⟨es9,ck9,J9,hp5,hm9⟩:=hI5
 obtain⟨G,hG⟩: ∃G:A4,G=(n9,Obj.map es9 ck9)::((n10,Obj.cells #[.map (some n9)] 249)::((n6,Obj.cells #[.slice av.a av.len av.cap] 144)::(aseg++(J++(J9++F1))))):=⟨_,rfl⟩
 have hp6:L5.Perm ((n7,Obj.map es ck)::G):=pc fun z=>by have:=pcn hp5 z;rw[hG];rw[hF2]at this;simp only[B4,C6,D8]at*;omega
 have g9:(n9,Obj.map es9 ck9)∈G:=by rw[hG];simp
 have g10:(n10,Obj.cells #[.map (some n9)] 249)∈G:=by rw[hG];simp
 have g6:(n6,Obj.cells #[.slice av.a av.len av.cap] 144)∈G:=by rw[hG];simp
 have g8:(n8,Obj.cells #[.map (some n7)] 246)∈G:=by rw[hG];simp[f8]
 have ga: ∀x∈aseg,x∈G:=fun x hx=>by rw[hG];simp[hx]
 have havl:=aown.sl.els_len LE.enc_len (by decide)
 have kil: ∀p:It,(Ay1 (B35 ks) p).getD (.b false)= .b (decide (p∈ks)):=fun p=>by
  rw[Ce6]
  by_cases hk:p∈ks
  ·simp[hk]
  ·simp[hk]
 refine A6 av (ldB (c:=#[.slice av.a av.len av.cap]) (T:=144) (fz:=(0,0)) (hp6.symm.subset (by simp[g6])) rfl) ?_
 refine G0 (fun z' z L'=> ∃(i:Nat) (es7:Array MapEntry) (ck7:Nat) (mm:List (ByteArray×Value)),i<=all.length/\z'=all.length-i/\z=((i:Int),())/\L'.Perm ((n7,Obj.map es7 ck7)::G)/\Mp Value.w es7 mm/\(mm.map Prod.fst).Nodup/\ ∀k,Ay1 mm k=B61 all ks i k) all.length
  ⟨0,es,ck,Br1 all,by omega,by omega,rfl,hp6,hm3,(Bi1 all ⟨#[]⟩).2,fun k=>by rw[gone_0];exact(Bi1 all k).1⟩ ?_
 rintro z' z L6 ⟨i,es7,ck7,mm,hi,rfl,rfl,hp7,hm7,hnd,hgo⟩
 dsimp only
 have hsub: ∀x∈G,x∈L6:=fun x hx=>hp7.symm.subset (List.mem_cons_of_mem _ hx)
 have h7:(n7,Obj.map es7 ck7)∈L6:=hp7.symm.subset List.mem_cons_self
 refine B8 (fun(hlt:(i:Int)<av.len)=>?_) (fun(hge: ¬(i:Int)<av.len)=>?_)
 ·have hi':i<all.length:=by omega
  refine V7 LE.enc_len (by decide) (aown.sl.mono fun x hx=>hsub x (ga x hx)) rfl hi' fun a2 ha2=>?_
  obtain⟨p,hlo,hcur⟩:=Cw2 (ks:=ks) hi'
  have hgs:=fun k=>Ch0 (ks:=ks) hi' hlo k
  generalize all[i]=x at ha2 hlo hcur hgs
  refine A6 x ha2 (A6 (some n9) (ldB (c:=#[.map (some n9)]) (T:=249) (fz:=(0,0)) (hsub _ g10) rfl) (A6 (some n7) (ldB (c:=#[.map (some n7)]) (T:=246) (fz:=(0,0)) (hsub _ g8) rfl) ?_))
  obtain⟨cur,hcv,hck⟩: ∃cur:It,(Ay1 mm x.1).getD (plV (0,0,0,()))=plV cur/\(p∈ks/\B61 all ks i x.1=none\/cur=p):=by
   rw[hgo]
   rcases hcur with⟨h1,h2⟩|h1
   ·exact⟨(0,0,0,()),by rw[h1];rfl,.inl ⟨h2,h1⟩⟩
   ·exact⟨p,by rw[h1];rfl,.inr rfl⟩
  have lk:=Am4 (P:=PP) mapL h7 hm7 x.1
  rw[hcv]at lk
  refine⟨(cur,()),lk,?_⟩
  have lk2:=Am4 (P:=PP) mapK (hsub _ g9) hm9 cur
  rw[kil]at lk2
  refine⟨(decide (cur∈ks),()),lk2,B8 (fun(hk:cur∈ks)=>?_) (fun(hk:cur∉ks)=>?_)⟩
  ·have hpk:p∈ks:=by
    rcases hck with h1|rfl
    ·exact h1.1
    ·exact hk
   refine A6 (some n7) (ldB (c:=#[.map (some n7)]) (T:=246) (fz:=(0,0)) (hsub _ g8) rfl) ?_
   refine Bk9 mapL hp7 hm7 x.1 fun es8 ck8 L7 hm8 hp8=>?_
   refine D9 (by omega) ⟨all.length-(i+1),by omega,i+1,es8,ck8,Bd1 mm x.1,by omega,rfl,rfl,hp8,hm8,(Bh8 _ _ hnd).1,fun k=>?_⟩
   rw[Bh6 _ _ _ hnd,hgs,hgo]
   by_cases he:k=x.1
   ·rw[if_pos he,if_pos ⟨he,hpk⟩]
   ·rw[if_neg he,if_neg fun h=>he h.1]
  ·refine D9 (by omega) ⟨all.length-(i+1),by omega,i+1,es7,ck7,mm,by omega,rfl,rfl,hp7,hm7,hnd,fun k=>?_⟩
   rw[hgs,hgo]
   by_cases he:k=x.1/\p∈ks
   ·rw[if_pos he]
    rcases hck with h1|rfl
    ·rw[he.1];exact h1.2
    ·exact absurd he.2 hk
   ·rw[if_neg he]
 ·obtain rfl:i=all.length:=by omega
  refine A6 av (ldB (c:=#[.slice av.a av.len av.cap]) (T:=144) (fz:=(0,0)) (hsub _ g6) rfl) ?_
  have hlk: ∀x∈all,∃p,R8 all x.1=some p/\Ay1 mm x.1=if p∈ks then none else some (plV p):=fun x hx=>by
   obtain⟨p,hp⟩:=A45 hx
   exact⟨p,hp,by rw[hgo,Cw3 hx hp]⟩
  refine G0 (fun z' z L'=> ∃(i:Nat) (ov:SlV) (oseg:A4),i<=all.length/\z'=all.length-i/\z=((i:Int),ov,A94 (J4 d),())/\L'.Perm (oseg++L6)/\Own ov 4 eLv (((all.take i).filter fun x=>decide (R8 all x.1=some x.2/\x.2∉ks)).flatMap LE.enc) oseg) all.length
   ⟨0,⟨none,0,0⟩,[],by omega,by omega,rfl,List.Perm.refl _,F4⟩ ?_
  rintro z' z L7 ⟨i,ov,oseg,hi2,rfl,rfl,hp8,oown⟩
  dsimp only
  have hsub2: ∀x∈L6,x∈L7:=fun x hx=>hp8.symm.subset (by simp[hx])
  have hol:=oown.sl.els_len LE.enc_len (by decide)
  have hol2:=List.length_filter_le (fun x:LE=>decide (R8 all x.1=some x.2/\x.2∉ks)) (all.take i)
  rw[List.length_take]at hol2
  refine B8 (fun(hlt:(i:Int)<av.len)=>?_) (fun(hge: ¬(i:Int)<av.len)=>?_)
  ·have hi':i<all.length:=by omega
   refine V7 LE.enc_len (by decide) (aown.sl.mono fun x hx=>hsub2 _ (hsub x (ga x hx))) rfl hi' fun a3 ha3=>?_
   obtain⟨p,hlo,hmg⟩:=hlk all[i] (List.getElem_mem hi')
   have htk:=Y3 all hi'
   generalize all[i]=x at ha3 hlo hmg htk
   refine A6 x ha3 (A6 (some n7) (ldB (c:=#[.map (some n7)]) (T:=246) (fz:=(0,0)) (hsub2 _ (hsub _ g8)) rfl) ?_)
   have lk:=B33 (P:=PP) mapL (hsub2 _ h7) hm7 x.1
   rw[hmg]at lk
   have hno: ¬(R8 all x.1=some x.2/\x.2∉ks)-> ∃k',k'<all.length-i/\ ∃(i':Nat) (ov':SlV) (oseg':A4),i'<=all.length/\k'=all.length-i'/\(((i:Int)+1,ov,A94 (J4 d),()):RsV [lI,.lf .sl,lI])=((i':Int),ov',A94 (J4 d),())/\L7.Perm (oseg'++L6)/\Own ov' 4 eLv (((all.take i').filter fun x=>decide (R8 all x.1=some x.2/\x.2∉ks)).flatMap LE.enc) oseg':=fun hh=>by
    refine⟨all.length-(i+1),by omega,i+1,ov,oseg,by omega,rfl,rfl,hp8,?_⟩
    rw[htk,List.filter_append,filt1,if_neg (by simpa using hh),List.append_nil];exact oown
   by_cases hpk:p∈ks
   ·rw[if_pos hpk]at lk
    refine⟨((0,0,0,()),false,()),lk,ifF rfl (D9 (by omega) (hno fun hh=>?_))⟩
    rw[hlo]at hh
    exact hh.2 (by rw[<-Option.some.inj hh.1];exact hpk)
   ·rw[if_neg hpk]at lk
    refine⟨(p,true,()),lk,ifT rfl (eqPlc p x.2 (B8 (fun(he:p=x.2)=>?_) (fun(he: ¬p=x.2)=>?_)))⟩
    ·have hyes:R8 all x.1=some x.2/\x.2∉ks:=⟨by rw[hlo,he],by rw[<-he];exact hpk⟩
     refine Af2 C37 srcLv oown hp8 (ws:=LE.enc x) rfl rfl (by omega) fun ov2 oseg2 hol3 oown2=>?_
     refine D9 (by omega) ⟨all.length-(i+1),by omega,i+1,ov2,oseg2,by omega,rfl,rfl,List.Perm.refl _,?_⟩
     rw[htk,List.filter_append,filt1,if_pos (by simpa using hyes),List.flatMap_append,List.flatMap_singleton];exact oown2
    ·refine D9 (by omega) (hno fun hh=>he ?_)
     rw[hlo]at hh
     exact Option.some.inj hh.1
  ·obtain rfl:i=all.length:=by omega
   rw[List.take_length]at oown
   refine .drop (A:=hseg++(T7 hs++(oseg++A))) (J:=(n7,Obj.map es7 ck7)::((n9,Obj.map es9 ck9)::((n10,Obj.cells #[.map (some n9)] 249)::((n6,Obj.cells #[.slice av.a av.len av.cap] 144)::(aseg++(J++(J9++((n8,Obj.cells #[.map (some n7)] 246)::((n3,Obj.cells #[.slice pv.a pv.len pv.cap] 243)::(c1::(pseg++Ae3 bs)))))))))))
    ⟨lv,hs,hseg,ov,oseg,rfl,rfl,own,hok,hdat,?_⟩ (pc fun z=>?_)
   ·unfold S9 liveR
    rw[hallE,hksE];exact oown
   ·have e1:=pcn hp8 z
    have e2:=pcn hp7 z
    rw[hG,hF1,hF0]at e2
    simp only[B4,C6,D8]at*
    omega
structure D0 where
 part:Int
 b:Int
 p:Int
 e:Int
 freq:Int
abbrev Aq5:=Int×Int×Int×Int
def D0.nm(s:D0):Aq5:=(s.part,s.b,s.p,s.e)
def Ak6(s:D0):List Value:=[.i s.part,.i s.b,.i s.p,.i s.e,.i s.freq]
theorem K1(s:D0):(Ak6 s).length=5:=rfl
theorem A50(l:List D0):(l.flatMap Ak6).all S5=true:=by
 induction l with
 |nil=>rfl
 |cons e r ih=>rw[List.flatMap_cons,List.all_append,ih];rfl
def isz:D0:=⟨0,0,0,0,0⟩
abbrev tyIs:TypeId:=216
abbrev eIs:TypeId:=204
abbrev tyIr:TypeId:=219
theorem Ci8:U8 PP tyIs eIs 5 40 [.i 0,.i 0,.i 0,.i 0,.i 0]:=M6 (by kernel_rfl) (by kernel_rfl) rfl (by decide) (by decide)
theorem srcIs:As9 PP tyIs:=.inl ⟨eIs,by kernel_rfl⟩
theorem undNm:A22 PP 202=true:=by kernel_rfl
theorem eqNm{L:A4}(a b c d a' b' c' d':Int){k:ShV (.lf .bool)->HP}(hk:k (decide ((a,b,c,d)=(a',b',c',d'))) L):
  smP PP (binOp .eql 202 (.agg #[.i a,.i b,.i c,.i d]) (.agg #[.i a',.i b',.i c',.i d'])) (.lf .bool) k L:=by
 refine C36 (r:=(a==a'&&((b==b'&&(c==c'&&(d==d'&&true)))&&true))) undNm (by kernel_rfl) ?_
 have e:decide ((a,b,c,d)=(a',b',c',d'))=(a==a'&&((b==b'&&(c==c'&&(d==d'&&true)))&&true)):=by
  rw[Bool.eq_iff_iff];simp
 rw[e]at hk;exact hk
def T0(h:Nat):Int:=((h/2^48:Nat):Int)
theorem Dc3(L:A4)(h k:Nat)(hh:h<2^64)(h1:1<=k)(h2:k<=1000):Reads PP 194 #[.int .u64 h,.i k] L (.i ((h%k:Nat):Int)):=by
 refine Reads.of (args:=[.int .u64 h,.i k]) B5 B6 Tryz.func194 (e194 h k _) ?_
 unfold t194
 have hm:=Nat.mod_lt h (show k>0 by omega)
 have hw:IntKind.u64.wrap (k:Int)=k:=C51 (by omega) (by omega)
 refine ifN (show¬(k:Int)<1 by omega) (Ab9 (by rw[hw];omega) (.of ⟨?_,rfl⟩))
 rw[hw,<-Int.ofNat_tmod,C2 (by omega) (by omega)]
theorem Bw8(L:A4)(h:Nat)(hh:h<2^64):Reads PP 180 #[.int .u64 h] L (.i (T0 h)):=by
 refine Reads.of (args:=[.int .u64 h]) B5 B6 Tryz.func180 (e180 h _) ?_
 unfold t180
 refine Ab9 (by decide) (.of ⟨?_,rfl⟩)
 have e:Int.fdiv (h:Int) (2^(min (48:Int).toNat IntKind.u64.bits))=((h/2^48:Nat):Int):=by
  rw[show(2:Int)^(min (48:Int).toNat IntKind.u64.bits)=((2^48:Nat):Int)from rfl,Int.fdiv_eq_ediv_of_nonneg _ (by omega)]
  rfl
 rw[e,C2 (by omega) (by omega)]
 rfl
abbrev Pl:=Int×Int×Int×Unit
def inm(h:Nat)(p:Pl):Aq5:=(T0 h,p.1,p.2.1,p.2.2.1)
theorem Bi9(L:A4)(h:Nat)(hh:h<2^64)(p:Pl):Reads PP 184 #[.int .u64 h,.agg #[.i p.1,.i p.2.1,.i p.2.2.1]] L (.agg #[.i (T0 h),.i p.1,.i p.2.1,.i p.2.2.1]):=by
 refine Reads.of (args:=[.int .u64 h,.agg #[.i p.1,.i p.2.1,.i p.2.2.1]]) B5 B6 Tryz.func184 (e184 h p _) ?_
 unfold t184
 refine C3 fun n1 _=>C3 fun n2 _=>A6 p (ldB (n:=n1) (c:=#[.i p.1,.i p.2.1,.i p.2.2.1]) (T:=102) (fz:=(0,0)) (by simp) rfl) ?_
 refine B7 (Bw8 _ h hh) (T0 h,()) rfl (F5 (ldB (n:=n1) (c:=#[.i p.1,.i p.2.1,.i p.2.2.1]) (T:=102) (fz:=(0,0)) (by simp) rfl) ?_)
 refine E3 [] _ rfl rfl (by simp) (.inl (Nat.le_refl _)) #[.i (T0 h),.i p.1,.i p.2.1,.i p.2.2.1] rfl ?_
 exact A6 (T0 h,p) (ldB List.mem_cons_self rfl) (.cons (.cons (.of ⟨rfl,rfl⟩)))
theorem Co2(L:A4)(s:D0)(ad:Addr)(nm:Aq5)(hl:D4 ad [.i nm.1,.i nm.2.1,.i nm.2.2.1,.i nm.2.2.2] L):
  Reads PP 232 #[.agg #[.i s.part,.i s.b,.i s.p,.i s.e,.i s.freq],.q (some ad)] L (.b (decide (s.nm=nm))):=by
 refine Reads.of (args:=[.agg #[.i s.part,.i s.b,.i s.p,.i s.e,.i s.freq],.q (some ad)]) B5 B6 Tryz.func232 (e232 (s.part,s.b,s.p,s.e,s.freq,()) (some ad) _) ?_
 unfold t232
 refine C3 fun n1 _=>A6 (s.part,s.b,s.p,s.e,()) (ldB List.mem_cons_self rfl) (A5 rfl (A6 (nm.1,nm.2.1,nm.2.2.1,nm.2.2.2,()) (hl.mono fun _ hx=>List.mem_cons_of_mem _ hx) (eqNm _ _ _ _ _ _ _ _ (.cons (.of ⟨rfl,rfl⟩)))))
theorem Cv3(L:A4)(v:SlV)(l:List D0)(h:Sl L v 5 (l.flatMap Ak6))(hb:l.length<=1000)(ad:Addr)(nm:Aq5)(hl:D4 ad [.i nm.1,.i nm.2.1,.i nm.2.2.1,.i nm.2.2.2] L):
  Reads PP 231 #[.slice v.a v.len v.cap,.func (.func 232) #[] #[.q (some ad)]] L
   (.i (match l.findIdx? (fun s=>decide (s.nm=nm))with|some i=>(i:Int)|none=> -1)):=by
 refine Reads.of (args:=[.slice v.a v.len v.cap,.func (.func 232) #[] #[.q (some ad)]]) B5 B6 Tryz.func231 (e231 v ⟨.func 232,#[],#[.q (some ad)]⟩ _) ?_
 unfold t231
 have hlen:=h.els_len K1 (by decide)
 refine G0 (fun k z L'=>L'=L/\ ∃i:Nat,i<=l.length/\k=l.length-i/\z=((i:Int),())/\ ∀s∈l.take i,s.nm≠nm) l.length ⟨rfl,0,by omega,by omega,rfl,by simp⟩ ?_
 rintro k z L' ⟨rfl,i,hi,rfl,rfl,hn⟩
 refine C0 (fun(hlt:(i:Int)<v.len)=>?_) (fun(hge: ¬(i:Int)<v.len)=>?_)
 ·have hi':i<l.length:=by omega
  obtain⟨a,ha,hld⟩:=h.el K1 (by decide) hi'
  refine A5 ha (E0 (show(0:Int)<=i by omega) hlt (A6 (l[i].part,l[i].b,l[i].p,l[i].e,l[i].freq,()) (by rw[Int.toNat_natCast];exact hld) ?_))
  refine Z2 (by kernel_rfl) (B7 (Co2 _ l[i] ad nm hl) (decide (l[i].nm=nm),()) rfl ?_)
  refine C0 (fun(he:l[i].nm=nm)=>.of ⟨?_,rfl⟩) (fun(he: ¬l[i].nm=nm)=>?_)
  ·have:l.findIdx? (fun s=>decide (s.nm=nm))=some i:=by
    rw[List.findIdx?_eq_some_iff_getElem]
    refine⟨hi',by simpa using he,fun j hj=>?_⟩
    have:=hn l[j] (by rw[List.mem_take_iff_getElem];exact⟨j,by omega,rfl⟩)
    simpa using this
   rw[this]
  ·refine⟨l.length-(i+1),by omega,rfl,i+1,by omega,rfl,?_,fun e hx=>?_⟩
   ·rw[C2 (by first|omega|(simp only;omega)) (by first|omega|(simp only;omega))]
    rfl
   ·rw[List.take_succ_eq_append_getElem hi']at hx
    rcases List.mem_append.1 hx with hx|hx
    ·exact hn e hx
    ·rw[List.mem_singleton.1 hx];exact he
 ·obtain rfl:i=l.length:=by omega
  rw[List.take_length]at hn
  have:l.findIdx? (fun s=>decide (s.nm=nm))=none:=by
   rw[List.findIdx?_eq_none_iff]
   intro s hs
   simpa using hn s hs
  rw[this]
  exact .of ⟨rfl,rfl⟩
theorem Cg2(v:SlV)(l:List D0)(seg:A4)(own:Own v 5 eIs (l.flatMap Ak6) seg)(hb:l.length<=1000)(k:Nat)(hk:k<l.length):
  CallF PP 229 #[.slice v.a v.len v.cap,.i k,.i ((k:Int)+1)] seg fun r L'=> ∃s,r= .slice s.a s.len s.cap/\Own s 5 eIs ((l.take k++l.drop (k+1)).flatMap Ak6) L':=by
 refine CallF.of (args:=[.slice v.a v.len v.cap,.i k,.i ((k:Int)+1)]) B5 B6 Tryz.func229 (e229 v k ((k:Int)+1) _) ?_
 unfold t229
 have hlen:=own.sl.els_len K1 (by decide)
 have hcap:=own.cap
 refine K4 (l':=k) (h':=k+1) (m':=v.len) rfl rfl rfl (by omega) (by omega) hcap ?_
 refine Aa4 (fun(he:(k:Int)=(k:Int)+1)=>absurd he (by omega)) (fun _=>?_)
 refine K4 (l':=0) (h':=k) (m':=v.cap) rfl rfl rfl (by omega) (by omega) (Nat.le_refl _) ?_
 refine K4 (l':=k+1) (h':=v.len) (m':=v.cap) rfl rfl rfl (by omega) hcap (Nat.le_refl _) ?_
 have own2:=own.slc (l:=0) (h:=k) (by omega) (by omega)
 have src2:=Sl.slc (m:=v.cap) own.sl (by omega) (l:=k+1) (h':=v.len) (by omega) (Nat.le_refl _) hcap
 rw[Au2 K1]at own2 src2
 refine Ai5 Ci8 srcIs [] [] own2 (by simp) (.sl src2) (A50 _) (by simp only[P1,Int.toNat_natCast];omega) fun s seg' hs _ hcap' own'=>?_
 rw[<-List.flatMap_append]at own'
 have e1:(l.drop 0).take (k-0)=l.take k:=by simp
 have e2:(l.drop (k+1)).take (v.len-(k+1))=l.drop (k+1):=by rw[hlen];exact List.take_of_length_le (by rw[List.length_drop];omega)
 rw[e1,e2]at own'
 simp only[P1,Int.toNat_natCast]at hs hcap'
 have hsc:=own'.cap
 refine K4 (l':=s.len) (h':=v.len) (m':=s.cap) rfl rfl rfl (by omega) (by omega) (Nat.le_refl _) ?_
 refine Ah0 Ci8 rfl [] [] own' (by simp) (h:=v.len) (by omega) (by omega) rfl fun seg2 own2=>?_
 exact .of ⟨s,rfl,by simpa using own2⟩
abbrev Bd2:=SlV×List D0×A4
def Bg1(r:Bd2):List Value:=[.slice r.1.a r.1.len r.1.cap]
theorem N5(r:Bd2):(Bg1 r).length=1:=rfl
def O1(rows:List Bd2):A4:=rows.flatMap fun r=>r.2.2
theorem Aa0(p s:List Bd2)(r:Bd2):O1 (p++r::s)=O1 p++(r.2.2++O1 s):=by simp[O1]
def iO(m:Nat)(ways:Int)(sv:SlV):Nat×Obj:=(m,Obj.cells #[.i ways,.slice sv.a sv.len sv.cap] 221)
def IA(m:Nat)(ways:Int)(sv:SlV)(oseg:A4)(rows:List Bd2):A4:=iO m ways sv::(oseg++O1 rows)
structure IOk(sv:SlV)(oseg:A4)(rows:List Bd2):Prop where
 own:Own sv 1 tyIs (rows.flatMap Bg1) oseg
 row: ∀r∈rows,Own r.1 5 eIs (r.2.1.flatMap Ak6) r.2.2
 few: ∀r∈rows,r.2.1.length<=100
 pos:1<=rows.length/\rows.length<=64
def Y6(rows:List Bd2):List (List D0):=rows.map fun r=>r.2.1
def IX(m:Nat)(ways:Int)(ss:List (List D0))(A:A4):Prop:= ∃sv oseg rows,A=IA m ways sv oseg rows/\IOk sv oseg rows/\ss=Y6 rows
section
variable {L:A4} {m:Nat} {ways:Int} {sv:SlV}
theorem i_ways(h:iO m ways sv∈L):D4 ⟨m,0,none⟩ [.i ways] L:=ldB (by unfold iO at h;exact h) rfl
theorem Bx2(h:iO m ways sv∈L):D4 ⟨m,1,none⟩ [.slice sv.a sv.len sv.cap] L:=ldB (by unfold iO at h;exact h) rfl
end
theorem Ai3(L:A4)(m:Nat)(ways:Int)(sv:SlV)(hm:iO m ways sv∈L)(a:Addr)(ha:sv.a=some a)(h1:1<=sv.len)(h2:sv.len<=1000)(h:Nat)(hh:h<2^64):
  Reads PP 137 #[.q (some ⟨m,0,none⟩),.int .u64 h] L (.q (some (a.add (h%sv.len)))):=by
 refine Reads.of (args:=[.q (some ⟨m,0,none⟩),.int .u64 h]) B5 B6 Tryz.func137 (e137 (some ⟨m,0,none⟩) h _) ?_
 unfold t137
 have hm2:=Nat.mod_lt h (show sv.len>0 by omega)
 refine A5 rfl (A5 rfl (A6 sv (Bx2 hm) (A6 sv (Bx2 hm) (B7 (Dc3 _ h sv.len hh h1 h2) (((h%sv.len:Nat):Int),()) rfl (F5 (Bx2 hm) (A5 ha (E0 (show(0:Int)<=((h%sv.len:Nat):Int) by omega) (show((h%sv.len:Nat):Int)<sv.len by omega) ?_)))))))
 rw[Int.toNat_natCast,Nat.mul_one]
 exact .of ⟨rfl,rfl⟩
def isi(ss:List (List D0))(h:Nat):Nat:=h%ss.length
def P5(ss:List (List D0))(h:Nat):List D0:=ss.getD (isi ss h) []
def iset(ss:List (List D0))(h:Nat)(row:List D0):List (List D0):=ss.set (isi ss h) row
def Q7(ss:List (List D0))(h:Nat)(p:Pl):Option D0:=(P5 ss h).find? fun s=>decide (s.nm=inm h p)
def H0(l:List D0)(nm:Aq5):List D0:=l.eraseP fun s=>decide (s.nm=nm)
theorem V5(l:List D0)(nm:Aq5):(l.findIdx? (fun s=>decide (s.nm=nm))=none/\l.find? (fun s=>decide (s.nm=nm))=none/\H0 l nm=l)\/
  ∃(j:Nat) (hj:j<l.length),l.findIdx? (fun s=>decide (s.nm=nm))=some j/\l.find? (fun s=>decide (s.nm=nm))=some l[j]/\l[j].nm=nm/\H0 l nm=l.take j++l.drop (j+1):=by
 cases h:l.findIdx? (fun s=>decide (s.nm=nm))with
 |none=>
  rw[List.findIdx?_eq_none_iff]at h
  refine .inl ⟨rfl,?_,List.eraseP_of_forall_not (fun a ha=>by have:=h a ha;simp only[this];decide)⟩
  rw[List.find?_eq_none]
  intro x hx
  rw[h x hx];decide
 |some j=>
  rw[List.findIdx?_eq_some_iff_getElem]at h
  obtain⟨hj,h1,h2⟩:=h
  have hl:l=l.take j++l[j]::l.drop (j+1):=by rw[<-List.drop_eq_getElem_cons hj,List.take_append_drop]
  have hb: ∀b∈l.take j,¬decide (b.nm=nm)=true:=by
   intro b hb
   obtain⟨i,hi,rfl⟩:=List.mem_take_iff_getElem.1 hb
   have:=h2 i (by omega)
   simpa using this
  refine .inr ⟨j,hj,rfl,?_,by simpa using h1,?_⟩
  ·rw[List.find?_eq_some_iff_append]
   exact⟨h1,l.take j,l.drop (j+1),hl,fun a ha=>by have:=hb a ha;simpa using this⟩
  ·unfold H0
   conv=>lhs;rw[hl]
   rw[List.eraseP_append_right _ hb,List.eraseP_cons_of_pos (p:=fun s:D0=>decide (s.nm=nm)) h1]
theorem IX.split{m:Nat}{ways:Int}{ss:List (List D0)}{A:A4}(h:IX m ways ss A)(hs:Nat): ∃sv oseg p r s a,A=IA m ways sv oseg (p++r::s)/\IOk sv oseg (p++r::s)/\sv.a=some a/\1<=sv.len/\sv.len<=64/\hs%sv.len=p.length/\P5 ss hs=r.2.1/\
  (∀row',iset ss hs row'=Y6 p++row'::Y6 s):=by
 obtain⟨sv,oseg,rows,rfl,ok,rfl⟩:=h
 have hlen:=ok.own.sl.els_len N5 (by decide)
 have hpos:=ok.pos
 have hi:hs%rows.length<rows.length:=Nat.mod_lt _ (by omega)
 have hl:rows=rows.take (hs%rows.length)++rows[hs%rows.length]::rows.drop (hs%rows.length+1):=by rw[<-List.drop_eq_getElem_cons hi,List.take_append_drop]
 have hsl:(Y6 rows).length=rows.length:=List.length_map ..
 obtain⟨a,ha⟩: ∃a,sv.a=some a:=by
  obtain⟨a,ha,_⟩:=ok.own.sl.el N5 (by decide) (i:=0) (by omega)
  exact⟨a,ha⟩
 refine⟨sv,oseg,rows.take (hs%rows.length),rows[hs%rows.length],rows.drop (hs%rows.length+1),a,by rw[<-hl],by rw[<-hl];exact ok,ha,by omega,by omega,by rw[hlen,List.length_take];omega,?_,fun row'=>?_⟩
 ·unfold P5 isi
  rw[hsl,List.getD_eq_getElem?_getD]
  unfold Y6
  rw[List.getElem?_map,List.getElem?_eq_getElem hi];rfl
 ·unfold iset isi
  rw[hsl]
  unfold Y6
  rw[List.set_eq_take_append_cons_drop,if_pos (by rw[List.length_map];exact hi),List.map_take,List.map_drop]
theorem IX.same{m:Nat}{ways:Int}{ss:List (List D0)}{A:A4}(h:IX m ways ss A)(hs:Nat):iset ss hs (P5 ss hs)=ss:=by
 obtain⟨sv,oseg,rows,rfl,ok,rfl⟩:=h
 have hsl:(Y6 rows).length=rows.length:=List.length_map ..
 have hi:hs%(Y6 rows).length<(Y6 rows).length:=Nat.mod_lt _ (by have:=ok.pos;omega)
 unfold iset P5 isi
 rw[List.getD_eq_getElem?_getD,List.getElem?_eq_getElem hi]
 exact List.set_getElem_self ..
section
variable {L:A4} {m:Nat} {ways:Int} {sv:SlV} {oseg:A4} {p s:List Bd2} {r:Bd2} {a:Addr}
theorem B39(ok:IOk sv oseg (p++r::s))(ha:sv.a=some a)(hL: ∀x∈oseg,x∈L):D4 (a.add p.length) [.slice r.1.a r.1.len r.1.cap] L:=by
 obtain⟨a',ha',hl⟩:=ok.own.sl.el N5 (by decide) (i:=p.length) (by simp)
 rw[ha]at ha'
 obtain rfl:=Option.some.inj ha'
 rw[show(p++r::s)[p.length]'(by simp)=r by simp,Nat.mul_one]at hl
 exact hl.mono hL
theorem Ap4(ok:IOk sv oseg (p++r::s))(hL: ∀x∈r.2.2,x∈L):Sl L r.1 5 (r.2.1.flatMap Ak6):=(ok.row r (by simp)).sl.mono hL
theorem rput(p s:List Bd2)(r r':Bd2):A18 ((p++r::s).flatMap Bg1) p.length (Bg1 r')=(p++r'::s).flatMap Bg1:=by
 have hp:(p.flatMap Bg1).length=p.length:=by rw[N7 N5,Nat.mul_one]
 rw[List.flatMap_append,List.flatMap_append,List.flatMap_cons,List.flatMap_cons]
 unfold A18
 rw[List.take_left' hp,N5,<-List.drop_drop,List.drop_left' hp]
 rw[List.append_assoc]
 rfl
theorem Cv5(ok:IOk sv oseg (p++r::s))(r':Bd2){seg':A4}(own':Own sv 1 tyIs (A18 ((p++r::s).flatMap Bg1) p.length (Bg1 r')) seg')(h:Own r'.1 5 eIs (r'.2.1.flatMap Ak6) r'.2.2)(hf:r'.2.1.length<=100):IOk sv seg' (p++r'::s):=by
 rw[rput]at own'
 refine⟨own',fun x hx=>?_,fun x hx=>?_,by have:=ok.pos;rw[List.length_append,List.length_cons]at this⊢;exact this⟩
 ·rcases List.mem_append.1 hx with h1|h1
  ·exact ok.row x (by simp[h1])
  ·rcases List.mem_cons.1 h1 with rfl|h2
   ·exact h
   ·exact ok.row x (by simp[h2])
 ·rcases List.mem_append.1 hx with h1|h1
  ·exact ok.few x (by simp[h1])
  ·rcases List.mem_cons.1 h1 with rfl|h2
   ·exact hf
   ·exact ok.few x (by simp[h2])
end
theorem Ai2(p s:List Bd2)(r:Bd2):Y6 (p++r::s)=Y6 p++r.2.1::Y6 s:=by simp[Y6]
theorem At9(m:Nat)(ways:Int)(ss:List (List D0))(A:A4)(hA:IX m ways ss A)(h:Nat)(hh:h<2^64)(pl:Pl):
  CallF PP 176 #[.q (some ⟨m,0,none⟩),.int .u64 h,.agg #[.i pl.1,.i pl.2.1,.i pl.2.2.1]] A
   fun v L'=>(∃x:D0,v= .t #[.agg #[.i x.part,.i x.b,.i x.p,.i x.e,.i x.freq],.b (Q7 ss h pl).isSome]/\x=(Q7 ss h pl).getD isz)/\IX m ways (iset ss h (H0 (P5 ss h) (inm h pl))) L':=by
 have hsame:=hA.same h
 obtain⟨sv,oseg,p,r,s,a,rfl,ok,ha,hl1,hl2,hp,hrow,hset⟩:=hA.split h
 refine CallF.of (args:=[.q (some ⟨m,0,none⟩),.int .u64 h,.agg #[.i pl.1,.i pl.2.1,.i pl.2.2.1]]) B5 B6 Tryz.func176 (e176 (some ⟨m,0,none⟩) h pl _) ?_
 unfold t176
 have hg:iO m ways sv∈IA m ways sv oseg (p++r::s):=List.mem_cons_self
 have hos: ∀{X:A4},(∀x∈oseg,x∈X++IA m ways sv oseg (p++r::s)):=fun x hx=>by unfold IA;simp[hx]
 have hrs: ∀{X:A4},(∀x∈r.2.2,x∈X++IA m ways sv oseg (p++r::s)):=fun x hx=>by unfold IA O1;simp[hx]
 have hb:=ok.few r (by simp)
 refine C3 fun n1 _=>C3 fun n2 _=>ifF rfl ?_
 generalize ho1:(n1,Obj.cells #[.i pl.1,.i pl.2.1,.i pl.2.2.1] 102)=o1
 generalize ho2:(n2,Obj.cells #[.i 0,.i 0,.i 0,.i 0,.i 0] 204)=o2
 have l1: ∀{Z:A4},D4 ⟨n1,0,none⟩ [.i pl.1,.i pl.2.1,.i pl.2.2.1] (o2::o1::Z):=by subst ho1;exact ldB (n:=n1) (c:=#[.i pl.1,.i pl.2.1,.i pl.2.2.1]) (T:=102) (fz:=(0,0)) (by simp) rfl
 refine A6 pl l1 (B7 (Ai3 _ m ways sv (by simp[hg]) a ha hl1 (by omega) h hh) (some (a.add (h%sv.len)),()) rfl (F5 l1 ?_))
 rw[hp]
 refine B7 (Bi9 _ h hh pl) ((T0 h,pl.1,pl.2.1,pl.2.2.1,()),()) rfl (C3 fun n3 _=>E3 [] _ rfl rfl (by simp) (.inl (Nat.le_refl _)) #[.i (T0 h),.i pl.1,.i pl.2.1,.i pl.2.2.1] rfl ?_)
 rw[List.nil_append]
 generalize ho3:(n3,Obj.cells #[.i (T0 h),.i pl.1,.i pl.2.1,.i pl.2.2.1] 202)=o3
 have l3: ∀{Z:A4},D4 ⟨n3,0,none⟩ [.i (inm h pl).1,.i (inm h pl).2.1,.i (inm h pl).2.2.1,.i (inm h pl).2.2.2] (o3::Z):=by subst ho3;exact ldB List.mem_cons_self rfl
 have lr:D4 (a.add p.length) [.slice r.1.a r.1.len r.1.cap] (o3::o2::o1::IA m ways sv oseg (p++r::s)):=B39 ok ha (hos (X:=[o3,o2,o1]))
 have lsl:Sl (o3::o2::o1::IA m ways sv oseg (p++r::s)) r.1 5 (r.2.1.flatMap Ak6):=Ap4 ok (hrs (X:=[o3,o2,o1]))
 refine A5 rfl (A6 r.1 lr (B7 (Cv3 _ r.1 r.2.1 lsl (by omega) ⟨n3,0,none⟩ (inm h pl) l3) (_,()) rfl ?_))
 rcases V5 r.2.1 (inm h pl)with⟨e1,e2,e3⟩|⟨j,hj,e1,e2,e4,e3⟩
 ·rw[e1]
  refine ifP (show(-1:Int)<0 by decide) ?_
  subst ho2
  refine E3 [o3] _ rfl rfl (by simp) (.inl (Nat.le_refl _)) #[.i 0,.i 0,.i 0,.i 0,.i 0] rfl ?_
  refine A6 (0,0,0,0,0,()) (ldB (n:=n2) (c:=#[.i 0,.i 0,.i 0,.i 0,.i 0]) (T:=204) (fz:=(0,0)) (by simp) rfl) (.cons (.cons (.cons (.of ⟨?_,?_⟩))))
  ·have:Q7 ss h pl=none:=by unfold Q7;rw[hrow,e2]
   rw[this]
   exact⟨isz,rfl,rfl⟩
  ·rw[hrow,e3,<-hrow,hsame]
   exact⟨sv,oseg,_,rfl,ok,by rw[Ai2,<-hset,<-hrow,hsame]⟩
 ·rw[e1]
  have hlen:=lsl.els_len K1 (by decide)
  have hj0:(0:Int)<=(j:Int):=by omega
  have hj1:(j:Int)<r.1.len:=by omega
  refine ifN (show¬(j:Int)<0 by omega) ?_
  obtain⟨b,hb',hld⟩:=lsl.el K1 (by decide) hj
  have hld2:D4 (b.add ((j:Int).toNat*5)) (Ak6 r.2.1[j]) (o3::o2::o1::IA m ways sv oseg (p++r::s)):=by rw[Int.toNat_natCast];exact hld
  refine A5 rfl (A6 r.1 lr (A5 hb' (E0 hj0 hj1 (A6 (r.2.1[j].part,r.2.1[j].b,r.2.1[j].p,r.2.1[j].e,r.2.1[j].freq,()) hld2 ?_))))
  clear hld hld2
  generalize hx:r.2.1[j]=x at*
  refine C3 fun n4 _=>E3 [] _ rfl rfl (by simp) (.inl (Nat.le_refl _)) #[.i x.part,.i x.b,.i x.p,.i x.e,.i x.freq] rfl ?_
  rw[List.nil_append]
  generalize ho4:(n4,Obj.cells #[.i x.part,.i x.b,.i x.p,.i x.e,.i x.freq] 204)=o4
  have l4: ∀{Z:A4},D4 ⟨n4,0,none⟩ [.i x.part,.i x.b,.i x.p,.i x.e,.i x.freq] (o4::Z):=by subst ho4;exact ldB List.mem_cons_self rfl
  have hw:IntKind.i64.wrap ((j:Int)+1)=(j:Int)+1:=C2 (by omega) (by omega)
  refine A5 rfl (A6 r.1 (lr.mono fun _ hx=>List.mem_cons_of_mem _ hx) ?_)
  simp only[hw]
  refine J5 (o4::o3::o2::o1::iO m ways sv::(oseg++O1 p)) (O1 s) (Cg2 r.1 r.2.1 r.2.2 (ok.row r (by simp)) (by omega) j hj) (by unfold IA;rw[Aa0];simp) ?_
  rintro _ seg2-⟨v2,rfl,own2⟩
  refine⟨(v2,()),rfl,A5 rfl ?_⟩
  rw[<-e3]at own2
  refine ok.own.st (o4::o3::o2::o1::[iO m ways sv]) (O1 p++seg2++O1 s) (p:=p.length) (ws:=Bg1 (v2,H0 r.2.1 (inm h pl),seg2)) (by rw[N7 N5,N5];simp) (by rw[N5];omega) ha rfl (by simp) fun oseg' own'=>?_
  have ok':=Cv5 ok (v2,H0 r.2.1 (inm h pl),seg2) own' own2 (Nat.le_trans (List.length_eraseP_le ..) hb)
  refine A6 (x.part,x.b,x.p,x.e,x.freq,()) l4 ?_
  subst ho2
  refine E3 [o4,o3] _ rfl rfl (by simp) (.inl (Nat.le_refl _)) #[.i x.part,.i x.b,.i x.p,.i x.e,.i x.freq] rfl ?_
  refine A6 (x.part,x.b,x.p,x.e,x.freq,()) (ldB (n:=n2) (c:=#[.i x.part,.i x.b,.i x.p,.i x.e,.i x.freq]) (T:=204) (fz:=(0,0)) (by simp) rfl) (.cons (.cons (.cons (.cons (.of ⟨?_,?_⟩)))))
  ·have:Q7 ss h pl=some x:=by unfold Q7;rw[hrow,e2]
   rw[this]
   exact⟨x,rfl,rfl⟩
  ·rw[hrow]
   refine⟨sv,oseg',_,?_,ok',by rw[hset,Ai2]⟩
   unfold IA
   rw[Aa0]
   simp
theorem Bi3(m:Nat)(ways:Int)(ss:List (List D0))(A:A4)(hA:IX m ways ss A)(h:Nat)(hh:h<2^64)(x:D0)(hf:(P5 ss h).length<100):
  CallF PP 230 #[.q (some ⟨m,0,none⟩),.int .u64 h,.agg #[.i x.part,.i x.b,.i x.p,.i x.e,.i x.freq]] A
   fun v L'=>v= .t #[]/\IX m ways (iset ss h (P5 ss h++[x])) L':=by
 obtain⟨sv,oseg,p,r,s,a,rfl,ok,ha,hl1,hl2,hp,hrow,hset⟩:=hA.split h
 refine CallF.of (args:=[.q (some ⟨m,0,none⟩),.int .u64 h,.agg #[.i x.part,.i x.b,.i x.p,.i x.e,.i x.freq]]) B5 B6 Tryz.func230 (e230 (some ⟨m,0,none⟩) h (x.part,x.b,x.p,x.e,x.freq,()) _) ?_
 unfold t230
 refine C3 fun n1 _=>?_
 rw[hrow]at hf⊢
 have hlen:=(ok.row r (by simp)).sl.els_len K1 (by decide)
 refine B7 (Ai3 _ m ways sv (by unfold IA;simp) a ha hl1 (by omega) h hh) (some (a.add (h%sv.len)),()) rfl ?_
 rw[hp]
 refine A5 rfl (A6 r.1 (B39 ok ha (fun x hx=>by unfold IA;simp[hx])) (A6 (x.part,x.b,x.p,x.e,x.freq,()) (ldB List.mem_cons_self rfl) (C3 fun n2 _=>?_)))
 generalize ho1:(n1,Obj.cells #[.i x.part,.i x.b,.i x.p,.i x.e,.i x.freq] 204)=o1
 have hsrc: ∀{Z:A4},Sl ((n2,Obj.cells #[.i x.part,.i x.b,.i x.p,.i x.e,.i x.freq] eIs)::Z) ⟨some ⟨n2,0,none⟩,1,1⟩ 5 ([x].flatMap Ak6):=fun{Z}=>⟨rfl,Nat.le_refl _,.inr ⟨_,rfl,ldB List.mem_cons_self rfl⟩⟩
 refine E6 Ci8 srcIs ((n2,Obj.cells #[.i x.part,.i x.b,.i x.p,.i x.e,.i x.freq] eIs)::o1::iO m ways sv::(oseg++O1 p)) (O1 s) (ok.row r (by simp)) (by unfold IA;rw[Aa0];simp) (.sl hsrc) (A50 _) (by simp only;omega) fun v2 seg2 hv2 own2=>?_
 rw[<-List.flatMap_append]at own2
 refine A5 rfl (ok.own.st ((n2,Obj.cells #[.i x.part,.i x.b,.i x.p,.i x.e,.i x.freq] eIs)::o1::[iO m ways sv]) (O1 p++seg2++O1 s) (p:=p.length) (ws:=Bg1 (v2,r.2.1++[x],seg2)) (by rw[N7 N5,N5];simp) (by rw[N5];omega) ha rfl (by simp) fun oseg' own'=>?_)
 have ok':=Cv5 ok (v2,r.2.1++[x],seg2) own' own2 (by rw[List.length_append];simp only[List.length_cons,List.length_nil];omega)
 refine .cons (.cons (.of ⟨rfl,sv,oseg',_,?_,ok',by rw[hset,Ai2]⟩))
 unfold IA
 rw[Aa0]
 simp
theorem elemIr:U8 PP tyIr tyIs 1 24 [.slice none 0 0]:=M6 (by kernel_rfl) (by kernel_rfl) rfl (by decide) (by decide)
theorem Cu7(L:A4)(sets ways:Int)(h:sets<1\/sets>64\/ways<1\/ways>8):Reads PP 92 #[.i sets,.i ways] L (.t #[.q none,.i 30]):=by
 refine Reads.of (args:=[.i sets,.i ways]) B5 B6 Tryz.func92 (e92 sets ways _) ?_
 unfold t92
 exact C0 (fun _=>.of ⟨rfl,rfl⟩) fun h1=>C0 (fun _=>.of ⟨rfl,rfl⟩) fun h2=>C0 (fun _=>.of ⟨rfl,rfl⟩) fun h3=>C0 (fun _=>.of ⟨rfl,rfl⟩) fun h4=>by omega
theorem C10: ∀k:Nat,(List.replicate k ((⟨none,0,0⟩,[],[]):Bd2)).flatMap Bg1=Af3 [.slice none 0 0] k
 |0=>rfl
 |k+1=>by rw[List.replicate_succ,List.flatMap_cons,C10 k];simp[Af3,Bg1,List.replicate_succ]
theorem Dc5(sets:Nat)(ways:Int)(h1:1<=sets)(h2:sets<=64)(h3:1<=ways)(h4:ways<=8):
  CallF PP 92 #[.i sets,.i ways] [] fun r L'=> ∃m,r= .t #[.q (some ⟨m,0,none⟩),.i 0]/\IX m ways (List.replicate sets []) L':=by
 refine CallF.of (args:=[.i sets,.i ways]) B5 B6 Tryz.func92 (e92 sets ways _) ?_
 unfold t92
 refine ifN (show¬(sets:Int)<1 by omega) (ifN (show¬(sets:Int)>64 by omega) (ifN (by omega) (ifN (by omega) ?_)))
 refine Ay3 elemIr (l:=sets) (c:=sets) (Nat.le_refl _) (by omega) fun n ob own _ _=>C3 fun m _=>.of ⟨m,rfl,⟨some ⟨n,0,none⟩,sets,sets⟩,[(n,ob)],List.replicate sets (⟨none,0,0⟩,[],[]),?_,⟨?_,?_,?_,by rw[List.length_replicate];omega⟩,?_⟩
 ·unfold IA iO
  have:O1 (List.replicate sets ((⟨none,0,0⟩,[],[]):Bd2))=[]:=by
   unfold O1
   rw[List.flatMap_eq_nil_iff]
   intro x hx
   rw[List.eq_of_mem_replicate hx]
  rw[this];rfl
 ·have:(List.replicate sets ((⟨none,0,0⟩,[],[]):Bd2)).flatMap Bg1=Af3 [.slice none 0 0] sets:=by
   exact C10 sets
  rw[this]
  exact own
 ·intro r hr
  rw[List.eq_of_mem_replicate hr]
  exact⟨rfl,Nat.le_refl _,.inl ⟨rfl,rfl,rfl⟩⟩
 ·intro r hr
  rw[List.eq_of_mem_replicate hr]
  exact Nat.zero_le _
 ·unfold Y6;rw[List.map_replicate]
def Cm9(h:Nat)(p:Pl)(freq:Int):D0:=⟨T0 h,p.1,p.2.1,p.2.2.1,freq⟩
def Ad7(l:List D0)(ways:Int):Bool:=((l.length:Int)==ways)
def B36(l:List D0)(ways:Int)(h:Nat)(p:Pl):List D0:=(if Ad7 (H0 l (inm h p)) ways then(H0 l (inm h p)).drop 1 else H0 l (inm h p))++[Cm9 h p 0]
def Cg1(l:List D0)(ways:Int)(h:Nat)(p:Pl):D0:=if Ad7 (H0 l (inm h p)) ways then(H0 l (inm h p)).headD isz else isz
def C28(ss:List (List D0))(ways:Int)(h:Nat)(p:Pl):List (List D0):=iset ss h (B36 (P5 ss h) ways h p)
theorem IX.few{m:Nat}{ways:Int}{ss:List (List D0)}{A:A4}(h:IX m ways ss A)(hs:Nat):(P5 ss hs).length<=100:=by
 obtain⟨sv,oseg,p,r,s,a,rfl,ok,ha,hl1,hl2,hp,hrow,hset⟩:=h.split hs
 rw[hrow];exact ok.few r (by simp)
theorem IX.lt{m:Nat}{ways:Int}{ss:List (List D0)}{A:A4}(h:IX m ways ss A)(hs:Nat):isi ss hs<ss.length:=by
 obtain⟨sv,oseg,rows,rfl,ok,rfl⟩:=h
 unfold isi
 have hsl:(Y6 rows).length=rows.length:=List.length_map ..
 have:=ok.pos
 exact Nat.mod_lt _ (by omega)
theorem An0{ss:List (List D0)}{h:Nat}(hl:isi ss h<ss.length)(row:List D0):P5 (iset ss h row) h=row:=by
 have hsl:(iset ss h row).length=ss.length:=List.length_set ..
 have e:isi (iset ss h row) h=isi ss h:=by unfold isi;rw[hsl]
 unfold P5
 rw[e]
 unfold iset
 rw[List.getD_eq_getElem?_getD,List.getElem?_set_self hl];rfl
theorem Am8(ss:List (List D0))(h:Nat)(r1 r2:List D0):iset (iset ss h r1) h r2=iset ss h r2:=by
 have hsl:(iset ss h r1).length=ss.length:=List.length_set ..
 have e:isi (iset ss h r1) h=isi ss h:=by unfold isi;rw[hsl]
 unfold iset at*
 rw[e,List.set_set]
theorem Dd4{l:List D0}(h:0<l.length):l.headD isz=l[0]:=by
 cases l with
 |nil=>simp at h
 |cons y t=>rfl
theorem Dc4(m:Nat)(ways:Int)(ss:List (List D0))(A:A4)(hA:IX m ways ss A)(hw:1<=ways)(h:Nat)(hh:h<2^64)(pl:Pl)(hf:(P5 ss h).length<100):
  CallF PP 173 #[.q (some ⟨m,0,none⟩),.int .u64 h,.agg #[.i pl.1,.i pl.2.1,.i pl.2.2.1]] A
   fun v L'=>(∃g:D0,v= .t #[.agg #[.i g.b,.i g.p,.i g.e],.b (Ad7 (H0 (P5 ss h) (inm h pl)) ways)]/\g=Cg1 (P5 ss h) ways h pl)/\IX m ways (C28 ss ways h pl) L':=by
 refine CallF.of (args:=[.q (some ⟨m,0,none⟩),.int .u64 h,.agg #[.i pl.1,.i pl.2.1,.i pl.2.2.1]]) B5 B6 Tryz.func173 (e173 (some ⟨m,0,none⟩) h pl _) ?_
 unfold t173
 have hlt:=hA.lt h
 refine C3 fun n1 _=>C3 fun n2 _=>ifF rfl ?_
 generalize ho1:(n1,Obj.cells #[.i pl.1,.i pl.2.1,.i pl.2.2.1] 102)=o1
 generalize ho2:(n2,Obj.cells #[.i 0,.i 0,.i 0] 102)=o2
 have l1: ∀{Z:A4},D4 ⟨n1,0,none⟩ [.i pl.1,.i pl.2.1,.i pl.2.2.1] (o2::o1::Z):=by subst ho1;exact ldB (n:=n1) (c:=#[.i pl.1,.i pl.2.1,.i pl.2.2.1]) (T:=102) (fz:=(0,0)) (by simp) rfl
 refine A6 pl l1 (J5 [o2,o1] [] (At9 m ways ss A hA h hh pl) (by simp) ?_)
 rintro _ A1-⟨⟨x,rfl,-⟩,hA1⟩
 refine⟨((x.part,x.b,x.p,x.e,x.freq,()),(Q7 ss h pl).isSome,()),rfl,?_⟩
 have hrow1:=An0 hlt (H0 (P5 ss h) (inm h pl))
 have hset1: ∀row',iset (iset ss h (H0 (P5 ss h) (inm h pl))) h row'=iset ss h row':=fun row'=>Am8 ..
 generalize hl1:H0 (P5 ss h) (inm h pl)=l1' at hA1 hrow1 hset1⊢
 have hput:C28 ss ways h pl=iset ss h ((if Ad7 l1' ways then l1'.drop 1 else l1')++[Cm9 h pl 0]):=by unfold C28 B36;rw[hl1]
 have hgone:Cg1 (P5 ss h) ways h pl=if Ad7 l1' ways then l1'.headD isz else isz:=by unfold Cg1;rw[hl1]
 have hl1f:l1'.length<100:=by rw[<-hl1];exact Nat.lt_of_le_of_lt (List.length_eraseP_le ..) hf
 rw[hput,hgone]
 clear hput hgone hl1
 obtain⟨sv,oseg,p,r,s,a,rfl,ok,ha,hs1,hs2,hp,hrow,hset⟩:=hA1.split h
 rw[hrow1]at hrow
 subst hrow
 have hg:iO m ways sv∈IA m ways sv oseg (p++r::s):=List.mem_cons_self
 have hos: ∀{X:A4},(∀x∈oseg,x∈X++IA m ways sv oseg (p++r::s)):=fun x hx=>by unfold IA;simp[hx]
 have hrs: ∀{X:A4},(∀x∈r.2.2,x∈X++IA m ways sv oseg (p++r::s)):=fun x hx=>by unfold IA O1;simp[hx]
 refine B7 (Ai3 _ m ways sv (by simp[hg]) a ha hs1 (by omega) h hh) (some (a.add (h%sv.len)),()) rfl (C3 fun n3 _=>?_)
 rw[hp]
 have lr: ∀{o:Nat×Obj},D4 (a.add p.length) [.slice r.1.a r.1.len r.1.cap] (o::([o2,o1]++IA m ways sv oseg (p++r::s))):=fun{o}=>B39 ok ha (hos (X:=[o,o2,o1]))
 have lsl: ∀{o:Nat×Obj},Sl (o::([o2,o1]++IA m ways sv oseg (p++r::s))) r.1 5 (r.2.1.flatMap Ak6):=fun{o}=>Ap4 ok (hrs (X:=[o,o2,o1]))
 have hlen:=(lsl (o:=o1)).els_len K1 (by decide)
 rw[List.append_nil]
 refine A5 rfl (A5 rfl (A6 r.1 lr (A6 ways (i_ways (sv:=sv) (by simp[hg])) ?_)))
 have hv: ∀r1:Int,((r.1.len:Int)==r1)=(((r.2.1.length:Nat):Int)==r1):=fun r1=>by rw[hlen]
 refine W7 (fun(_:RsV []) L'=> ∃(g:D0) (A':A4),L'=(n3,Obj.cells #[.i g.part,.i g.b,.i g.p,.i g.e,.i g.freq] 204)::o2::o1::A'/\g=(if Ad7 r.2.1 ways then r.2.1.headD isz else isz)/\IX m ways (iset ss h (if Ad7 r.2.1 ways then r.2.1.drop 1 else r.2.1)) A') ?_ ?_
 ·rintro⟨⟩ _ ⟨g,A',rfl,hgg,hA'⟩
  have hrow2:=An0 hlt (if Ad7 r.2.1 ways then r.2.1.drop 1 else r.2.1)
  have hlen2:(if Ad7 r.2.1 ways then r.2.1.drop 1 else r.2.1).length<100:=by
   split
   ·rw[List.length_drop];omega
   ·omega
  generalize (if Ad7 r.2.1 ways then r.2.1.drop 1 else r.2.1)=l2 at hA' hrow2 hlen2⊢
  have l1':D4 ⟨n1,0,none⟩ [.i pl.1,.i pl.2.1,.i pl.2.2.1] ((n3,Obj.cells #[.i g.part,.i g.b,.i g.p,.i g.e,.i g.freq] 204)::o2::o1::A'):=(l1 (Z:=A')).mono fun _ hx=>List.mem_cons_of_mem _ hx
  refine A6 pl l1' (B7 (Bi9 _ h hh pl) ((T0 h,pl.1,pl.2.1,pl.2.2.1,()),()) rfl ?_)
  refine J5 [(n3,Obj.cells #[.i g.part,.i g.b,.i g.p,.i g.e,.i g.freq] 204),o2,o1] [] (Bi3 m ways _ A' hA' h hh (Cm9 h pl 0) (by rw[hrow2];exact hlen2)) (by simp) ?_
  rintro _ A2-⟨rfl,hA2⟩
  rw[hrow2,Am8]at hA2
  refine⟨(),rfl,A6 (g.b,g.p,g.e,()) (ldB (n:=n3) (c:=#[.i g.part,.i g.b,.i g.p,.i g.e,.i g.freq]) (T:=204) (fz:=(0,0)) (by simp) rfl) ?_⟩
  subst ho2
  refine E3 (n:=n2) (off:=0) (c:=#[.i 0,.i 0,.i 0]) (T:=102) (fz:=(0,0)) [(n3,Obj.cells #[.i g.part,.i g.b,.i g.p,.i g.e,.i g.freq] 204)] (o1::A2) rfl (by simp) (by simp) (.inl (Nat.le_refl _)) #[.i g.b,.i g.p,.i g.e] rfl ?_
  refine A6 (g.b,g.p,g.e,()) (ldB (n:=n2) (c:=#[.i g.b,.i g.p,.i g.e]) (T:=102) (fz:=(0,0)) (by simp) rfl) (.cons (.cons (.cons (.of ⟨⟨g,?_,hgg⟩,hA2⟩))))
  rw[hv];rfl
 intro j hj
 refine G7 (fun hfull=>?_) (fun hfull=>?_)
 ·rw[hv]at hfull
  have hf2:Ad7 r.2.1 ways=true:=hfull
  have hways:((r.2.1.length:Nat):Int)=ways:=by simpa using hfull
  have h0:0<r.2.1.length:=by omega
  obtain⟨b,hb',hld⟩:=(lsl (o:=(n3,Obj.cells #[.i 0,.i 0,.i 0,.i 0,.i 0] 204))).el K1 (by decide) h0
  have hx:r.2.1.headD isz=r.2.1[0]:=Dd4 h0
  have hdel:=Cg2 r.1 r.2.1 r.2.2 (ok.row r (by simp)) (by omega) 0 h0
  refine A5 rfl (A6 r.1 lr (A5 hb' (E0 (by decide) (by omega) (A6 (r.2.1[0].part,r.2.1[0].b,r.2.1[0].p,r.2.1[0].e,r.2.1[0].freq,()) hld ?_))))
  clear hld
  generalize r.2.1[0]=x0 at hx⊢
  refine E3 [] _ rfl rfl (by simp) (.inl (Nat.le_refl _)) #[.i x0.part,.i x0.b,.i x0.p,.i x0.e,.i x0.freq] rfl ?_
  rw[List.nil_append]
  refine A5 rfl (A6 r.1 lr ?_)
  refine J5 ((n3,Obj.cells #[.i x0.part,.i x0.b,.i x0.p,.i x0.e,.i x0.freq] 204)::o2::o1::iO m ways sv::(oseg++O1 p)) (O1 s) hdel (by unfold IA;rw[Aa0];simp) ?_
  rintro _ seg2-⟨v2,rfl,own2⟩
  refine⟨(v2,()),rfl,A5 rfl ?_⟩
  have e3:r.2.1.take 0++r.2.1.drop (0+1)=r.2.1.drop 1:=by simp
  rw[e3]at own2
  refine ok.own.st ((n3,Obj.cells #[.i x0.part,.i x0.b,.i x0.p,.i x0.e,.i x0.freq] 204)::o2::o1::[iO m ways sv]) (O1 p++seg2++O1 s) (p:=p.length) (ws:=Bg1 (v2,r.2.1.drop 1,seg2)) (by rw[N7 N5,N5];simp) (by rw[N5];omega) ha rfl (by simp) fun oseg' own'=>?_
  have ok':=Cv5 ok (v2,r.2.1.drop 1,seg2) own' own2 (by rw[List.length_drop];omega)
  refine hj _ _ ⟨x0,IA m ways sv oseg' (p++(v2,r.2.1.drop 1,seg2)::s),?_,by rw[if_pos hf2,hx],?_⟩
  ·unfold IA;rw[Aa0];simp
  ·rw[if_pos hf2]
   exact⟨sv,oseg',_,rfl,ok',by rw[Ai2,<-hset1,hset]⟩
 ·rw[hv]at hfull
  have hf2: ¬Ad7 r.2.1 ways=true:=by unfold Ad7;rw[hfull];decide
  refine hj _ _ ⟨isz,IA m ways sv oseg (p++r::s),rfl,by rw[if_neg hf2],?_⟩
  rw[if_neg hf2]
  exact⟨sv,oseg,_,rfl,ok,by rw[Ai2,<-hset1,hset]⟩
theorem Bx1(m:Nat)(ways:Int)(ss:List (List D0))(A:A4)(hA:IX m ways ss A)(h:Nat)(hh:h<2^64)(pl:Pl):
  CallF PP 106 #[.q (some ⟨m,0,none⟩),.int .u64 h,.agg #[.i pl.1,.i pl.2.1,.i pl.2.2.1]] A
   fun v L'=>v= .b (Q7 ss h pl).isSome/\IX m ways (iset ss h (H0 (P5 ss h) (inm h pl))) L':=by
 refine CallF.of (args:=[.q (some ⟨m,0,none⟩),.int .u64 h,.agg #[.i pl.1,.i pl.2.1,.i pl.2.2.1]]) B5 B6 Tryz.func106 (e106 (some ⟨m,0,none⟩) h pl _) ?_
 unfold t106
 refine C3 fun n1 _=>A6 pl (ldB List.mem_cons_self rfl) (J5 [(n1,Obj.cells #[.i pl.1,.i pl.2.1,.i pl.2.2.1] 102)] [] (At9 m ways ss A hA h hh pl) (by simp) ?_)
 rintro _ A1-⟨⟨x,rfl,-⟩,hA1⟩
 refine⟨((x.part,x.b,x.p,x.e,x.freq,()),(Q7 ss h pl).isSome,()),rfl,C3 fun n2 _=>E3 [] _ rfl rfl (by simp) (.inl (Nat.le_refl _)) #[.i x.part,.i x.b,.i x.p,.i x.e,.i x.freq] rfl ?_⟩
 rw[List.append_nil]
 exact .cons (.cons (.of ⟨rfl,hA1⟩))
def Az0(ss:List (List D0))(h:Nat)(p q:Pl):List (List D0):=match Q7 ss h p with
 |none=>ss
 |some x=>iset ss h (H0 (H0 (P5 ss h) (inm h p)) (inm h q)++[Cm9 h q (Z6 (x.freq-1) 0)])
theorem Cv0(m:Nat)(ways:Int)(ss:List (List D0))(A:A4)(hA:IX m ways ss A)(h:Nat)(hh:h<2^64)(p q:Pl)(hfr: ∀s∈P5 ss h,0<=s.freq/\s.freq<=3):
  CallF PP 294 #[.q (some ⟨m,0,none⟩),.int .u64 h,.agg #[.i p.1,.i p.2.1,.i p.2.2.1],.agg #[.i q.1,.i q.2.1,.i q.2.2.1]] A
   fun v L'=>v= .b (Q7 ss h p).isSome/\IX m ways (Az0 ss h p q) L':=by
 refine CallF.of (args:=[.q (some ⟨m,0,none⟩),.int .u64 h,.agg #[.i p.1,.i p.2.1,.i p.2.2.1],.agg #[.i q.1,.i q.2.1,.i q.2.2.1]]) B5 B6 Tryz.func294 (e294 (some ⟨m,0,none⟩) h p q _) ?_
 unfold t294
 have hlt:=hA.lt h
 have hsame:=hA.same h
 refine C3 fun n1 _=>C3 fun n2 _=>A6 p (ldB (n:=n1) (c:=#[.i p.1,.i p.2.1,.i p.2.2.1]) (T:=102) (fz:=(0,0)) (by simp) rfl) ?_
 generalize ho1:(n1,Obj.cells #[.i p.1,.i p.2.1,.i p.2.2.1] 102)=o1
 generalize ho2:(n2,Obj.cells #[.i q.1,.i q.2.1,.i q.2.2.1] 102)=o2
 have l2: ∀{Z:A4} {o:Nat×Obj},D4 ⟨n2,0,none⟩ [.i q.1,.i q.2.1,.i q.2.2.1] (o::o2::Z):=by subst ho2;exact ldB (n:=n2) (c:=#[.i q.1,.i q.2.1,.i q.2.2.1]) (T:=102) (fz:=(0,0)) (by simp) rfl
 refine J5 [o2,o1] [] (At9 m ways ss A hA h hh p) (by simp) ?_
 rintro _ A1-⟨⟨x,rfl,hx⟩,hA1⟩
 refine⟨((x.part,x.b,x.p,x.e,x.freq,()),(Q7 ss h p).isSome,()),rfl,C3 fun n3 _=>E3 [] _ rfl rfl (by simp) (.inl (Nat.le_refl _)) #[.i x.part,.i x.b,.i x.p,.i x.e,.i x.freq] rfl ?_⟩
 rw[List.append_nil,List.nil_append]
 generalize ho3:(n3,Obj.cells #[.i x.part,.i x.b,.i x.p,.i x.e,.i x.freq] 204)=o3
 have l3: ∀{Z:A4},D4 (Addr.add ⟨n3,0,none⟩ 4) [.i x.freq] (o3::Z):=by subst ho3;exact ldB List.mem_cons_self rfl
 cases hfd:Q7 ss h p with
 |none=>
  refine ifF rfl (.cons (.cons (.cons (.of ⟨rfl,?_⟩))))
  have hrow:H0 (P5 ss h) (inm h p)=P5 ss h:=by
   rcases V5 (P5 ss h) (inm h p)with⟨_,_,e⟩|⟨j,hj,_,e,_⟩
   ·exact e
   ·unfold Q7 at hfd;rw[hfd]at e;cases e
  unfold Az0
  rw[hfd]
  rw[hrow,hsame]at hA1
  exact hA1
 |some y=>
  rw[hfd]at hx
  have hxy:x=y:=hx
  subst hxy
  have hmem:x∈P5 ss h:=by unfold Q7 at hfd;exact List.mem_of_find?_eq_some hfd
  have hfx:=hfr x hmem
  have hrow1:=An0 hlt (H0 (P5 ss h) (inm h p))
  refine ifT rfl (A6 q l2 (J5 [o3,o2,o1] [] (At9 m ways _ A1 hA1 h hh q) (by simp) ?_))
  rintro _ A2-⟨⟨y,rfl,-⟩,hA2⟩
  refine⟨((y.part,y.b,y.p,y.e,y.freq,()),(Q7 _ h q).isSome,()),rfl,?_⟩
  rw[hrow1,Am8]at hA2
  refine A6 q l2 (A6 x.freq l3 (B7 (Bi9 _ h hh q) ((T0 h,q.1,q.2.1,q.2.2.1,()),()) rfl (F5 l3 ?_)))
  rw[C2 (by omega) (by omega)]
  have hrow2:=An0 hlt (H0 (H0 (P5 ss h) (inm h p)) (inm h q))
  have hle:(H0 (H0 (P5 ss h) (inm h p)) (inm h q)).length<100:=by
   have h1:=hA.few h
   have h2:(H0 (P5 ss h) (inm h p)).length<(P5 ss h).length:=by
    rcases V5 (P5 ss h) (inm h p)with⟨_,e,_⟩|⟨j,hj,_,_,_,e⟩
    ·unfold Q7 at hfd;rw[hfd]at e;cases e
    ·rw[e,List.length_append,List.length_take,List.length_drop];omega
   have h3:(H0 (H0 (P5 ss h) (inm h p)) (inm h q)).length<=(H0 (P5 ss h) (inm h p)).length:=List.length_eraseP_le ..
   omega
  refine J5 [o3,o2,o1] [] (Bi3 m ways _ A2 hA2 h hh (Cm9 h q (Z6 (x.freq-1) 0)) (by rw[hrow2];exact hle)) (by simp) ?_
  rintro _ A3-⟨rfl,hA3⟩
  rw[hrow2,Am8]at hA3
  rw[List.append_nil]
  refine⟨(),rfl,.cons (.cons (.cons (.of ⟨rfl,?_⟩)))⟩
  unfold Az0
  rw[hfd]
  exact hA3
def ilen(ss:List (List D0)):Nat:=(ss.map List.length).sum
theorem Cg0(ss:List (List D0))(i:Nat)(hi:i<ss.length):ilen (ss.take (i+1))=ilen (ss.take i)+ss[i].length:=by
 unfold ilen
 rw[List.take_succ_eq_append_getElem hi,List.map_append,List.sum_append];simp
theorem Dc8(m:Nat)(ways:Int)(ss:List (List D0))(A:A4)(hA:IX m ways ss A):Reads PP 68 #[.q (some ⟨m,0,none⟩)] A (.i (ilen ss:Int)):=by
 obtain⟨sv,oseg,rows,rfl,ok,rfl⟩:=hA
 refine Reads.of (args:=[.q (some ⟨m,0,none⟩)]) B5 B6 Tryz.func68 (e68 (some ⟨m,0,none⟩) _) ?_
 unfold t68
 have hsl:Sl (IA m ways sv oseg rows) sv 1 (rows.flatMap Bg1):=ok.own.sl.left.cons
 have hlen:=hsl.els_len N5 (by decide)
 have hpos:=ok.pos
 refine ifT rfl (A5 rfl (A6 sv (Bx2 (ways:=ways) List.mem_cons_self) ?_))
 refine G0 (fun k z L'=>L'=IA m ways sv oseg rows/\ ∃i:Nat,i<=rows.length/\k=rows.length-i/\z=(((ilen (Y6 (rows.take i)):Nat):Int),(i:Int),())/\ilen (Y6 (rows.take i))<=100*i) rows.length ⟨rfl,0,by omega,by omega,rfl,by simp[ilen,Y6]⟩ ?_
 rintro k z L ⟨rfl,i,hi,rfl,rfl,hb⟩
 refine C0 (fun(hlt:(i:Int)<sv.len)=>?_) (fun(hge: ¬(i:Int)<sv.len)=>?_)
 ·have hi':i<rows.length:=by omega
  obtain⟨a,ha,hld⟩:=hsl.el N5 (by decide) hi'
  have hrl:=(ok.row rows[i] (List.getElem_mem hi')).sl.els_len K1 (by decide)
  have hrf:=ok.few rows[i] (List.getElem_mem hi')
  refine A5 ha (E0 (show(0:Int)<=i by omega) hlt (A6 rows[i].1 (by rw[Int.toNat_natCast];exact hld) ?_))
  have hs:ilen (Y6 (rows.take (i+1)))=ilen (Y6 (rows.take i))+rows[i].2.1.length:=by
   unfold Y6
   have:=Cg0 (rows.map fun r=>r.2.1) i (by rw[List.length_map];exact hi')
   rw[<-List.map_take,<-List.map_take,List.getElem_map]at this
   exact this
  refine⟨rows.length-(i+1),by omega,rfl,i+1,by omega,rfl,?_,by omega⟩
  show(IntKind.i64.wrap (((ilen (Y6 (rows.take i)):Nat):Int)+(rows[i].1.len:Int)),IntKind.i64.wrap ((i:Int)+1),())=_
  rw[C2 (n:=((ilen (Y6 (rows.take i)):Nat):Int)+(rows[i].1.len:Int)) (by omega) (by omega),C2 (n:=(i:Int)+1) (by omega) (by omega),hs,hrl]
  rfl
 ·obtain rfl:i=rows.length:=by omega
  rw[List.take_length]
  exact .of ⟨rfl,rfl⟩
def Bp5(p:Pl):List Value:=[.i p.1,.i p.2.1,.i p.2.2.1]
theorem Ag2(p:Pl):(Bp5 p).length=3:=rfl
theorem Bp4(l:List Pl):(l.flatMap Bp5).all S5=true:=by
 induction l with
 |nil=>rfl
 |cons e r ih=>rw[List.flatMap_cons,List.all_append,ih];rfl
theorem elemPl:U8 PP 55 102 3 24 [.i 0,.i 0,.i 0]:=M6 (by kernel_rfl) (by kernel_rfl) rfl (by decide) (by decide)
theorem srcPl:As9 PP 55:=.inl ⟨102,by kernel_rfl⟩
def D0.pl(s:D0):Pl:=(s.b,s.p,s.e,())
def Q2(l:List D0)(h:Nat):List Pl:=(l.filter fun s=>decide (s.part=T0 h)).map D0.pl
theorem Br5(l:List D0)(x:D0)(h:Nat):Q2 (l++[x]) h=Q2 l h++(if x.part=T0 h then[x.pl]else[]):=by
 unfold Q2
 rw[List.filter_append,List.map_append]
 by_cases hx:x.part=T0 h<;>simp[hx]
theorem Bx0(m:Nat)(ways:Int)(ss:List (List D0))(A:A4)(hA:IX m ways ss A)(h:Nat)(hh:h<2^64):
  CallF PP 117 #[.q (some ⟨m,0,none⟩),.int .u64 h] A
   fun v L'=> ∃(u:SlV) (seg:A4),v= .slice u.a u.len u.cap/\L'=seg++A/\Own u 3 102 ((Q2 (P5 ss h) h).flatMap Bp5) seg:=by
 obtain⟨sv,oseg,p,r,s,a,rfl,ok,ha,hl1,hl2,hp,hrow,hset⟩:=hA.split h
 refine CallF.of (args:=[.q (some ⟨m,0,none⟩),.int .u64 h]) B5 B6 Tryz.func117 (e117 (some ⟨m,0,none⟩) h _) ?_
 unfold t117
 refine ifF rfl (B7 (Ai3 _ m ways sv (by unfold IA;simp) a ha hl1 (by omega) h hh) (some (a.add (h%sv.len)),()) rfl ?_)
 rw[hp]
 have lsl:Sl (IA m ways sv oseg (p++r::s)) r.1 5 (r.2.1.flatMap Ak6):=Ap4 ok (fun x hx=>by unfold IA O1;simp[hx])
 have hlen:=lsl.els_len K1 (by decide)
 have hb:=ok.few r (by simp)
 refine A5 rfl (A6 r.1 (B39 ok ha (fun x hx=>by unfold IA;simp[hx])) ?_)
 rw[hrow]
 refine G0 (fun k z L'=> ∃(i:Nat) (u:SlV) (seg J:A4),i<=r.2.1.length/\k=r.2.1.length-i/\z=(u,(i:Int),())/\L'=J++seg++IA m ways sv oseg (p++r::s)/\Own u 3 102 ((Q2 (r.2.1.take i) h).flatMap Bp5) seg) r.2.1.length
  ⟨0,⟨none,0,0⟩,[],[],by omega,by omega,rfl,rfl,⟨rfl,Nat.le_refl _,.inl ⟨rfl,rfl,rfl⟩⟩⟩ ?_
 rintro k z L' ⟨i,u,seg,J,hi,rfl,rfl,rfl,own⟩
 refine C0 (fun(hlt:(i:Int)<r.1.len)=>?_) (fun(hge: ¬(i:Int)<r.1.len)=>?_)
 ·have hi':i<r.2.1.length:=by omega
  have lsl':Sl (J++seg++IA m ways sv oseg (p++r::s)) r.1 5 (r.2.1.flatMap Ak6):=lsl.right
  obtain⟨b,hb',hld⟩:=lsl'.el K1 (by decide) hi'
  have hsn:=Br5 (r.2.1.take i) r.2.1[i] h
  rw[<-List.take_succ_eq_append_getElem hi']at hsn
  refine A5 hb' (E0 (show(0:Int)<=i by omega) hlt (A6 (r.2.1[i].part,r.2.1[i].b,r.2.1[i].p,r.2.1[i].e,r.2.1[i].freq,()) (by rw[Int.toNat_natCast];exact hld) ?_))
  clear hld
  generalize r.2.1[i]=x at hsn⊢
  have hul:=own.sl.els_len Ag2 (by decide)
  have hfl:(Q2 (r.2.1.take i) h).length<=i:=by
   unfold Q2
   rw[List.length_map]
   have:=List.length_filter_le (fun s=>decide (s.part=T0 h)) (r.2.1.take i)
   rw[List.length_take]at this
   omega
  refine C3 fun n1 _=>E3 [] _ rfl rfl (by simp) (.inl (Nat.le_refl _)) #[.i x.part,.i x.b,.i x.p,.i x.e,.i x.freq] rfl ?_
  rw[List.nil_append]
  generalize ho1:(n1,Obj.cells #[.i x.part,.i x.b,.i x.p,.i x.e,.i x.freq] 204)=o1
  have l1: ∀{Z:A4},D4 ⟨n1,0,none⟩ [.i x.part] (o1::Z):=by subst ho1;exact ldB List.mem_cons_self rfl
  have l2: ∀{Z:A4},D4 (Addr.add ⟨n1,0,none⟩ 1) [.i x.b,.i x.p,.i x.e] (o1::Z):=by subst ho1;exact ldB List.mem_cons_self rfl
  have hw:IntKind.i64.wrap ((i:Int)+1)=((i+1:Nat):Int):=by rw[C2 (by omega) (by omega)];omega
  refine A6 x.part l1 (B7 (Bw8 _ h hh) (T0 h,()) rfl (F5 l1 ?_))
  refine Aa4 (fun hx=>?_) (fun hx=>?_)
  ·have hx':x.part=T0 h:=hx
   rw[if_pos hx']at hsn
   refine A6 x.pl l2 (C3 fun n2 _=>?_)
   have hsrc: ∀{Z:A4},Sl ((n2,Obj.cells #[.i x.b,.i x.p,.i x.e] 102)::Z) ⟨some ⟨n2,0,none⟩,1,1⟩ 3 ([x.pl].flatMap Bp5):=fun{Z}=>⟨rfl,Nat.le_refl _,.inr ⟨_,rfl,ldB List.mem_cons_self rfl⟩⟩
   refine E6 elemPl srcPl ((n2,Obj.cells #[.i x.b,.i x.p,.i x.e] 102)::o1::J) (IA m ways sv oseg (p++r::s)) own (by simp[D0.pl]) (.sl hsrc) (Bp4 _) (by simp only;omega) fun v2 seg2 hv2 own2=>?_
   rw[<-List.flatMap_append,<-hsn]at own2
   refine⟨r.2.1.length-(i+1),by omega,i+1,v2,seg2,(n2,Obj.cells #[.i x.b,.i x.p,.i x.e] 102)::o1::J,by omega,rfl,?_,rfl,own2⟩
   show(v2,IntKind.i64.wrap ((i:Int)+1),())=_
   rw[hw]
  ·have hx': ¬x.part=T0 h:=hx
   rw[if_neg hx',List.append_nil]at hsn
   rw[<-hsn]at own
   refine⟨r.2.1.length-(i+1),by omega,i+1,u,seg,o1::J,by omega,rfl,?_,rfl,own⟩
   show(u,IntKind.i64.wrap ((i:Int)+1),())=_
   rw[hw]
 ·obtain rfl:i=r.2.1.length:=by omega
  rw[List.take_length]at own
  rw[List.append_assoc]
  exact .app (.of ⟨u,seg,rfl,rfl,own⟩)
def Cn0(s:D0):D0:={s with freq:=Ab3 (s.freq+1) 3}
def As6(l:List D0)(nm:Aq5):List D0:=match l.findIdx? (fun s=>decide (s.nm=nm))with
 |some j=>l.modify j Cn0
 |none=>l
theorem Cw4(l:List D0)(j:Nat)(hj:j<l.length)(x:D0)(n:Int)(hx:l[j]=x):A18 (l.flatMap Ak6) (j*5+4) [.i n]=(l.take j++{x with freq:=n}::l.drop (j+1)).flatMap Ak6:=by
 have hl:l=l.take j++x::l.drop (j+1):=by rw[<-hx,<-List.drop_eq_getElem_cons hj,List.take_append_drop]
 have hp:((l.take j).flatMap Ak6).length=j*5:=by rw[N7 K1,List.length_take,Nat.min_eq_left (by omega)]
 conv=>lhs;rw[hl]
 rw[List.flatMap_append,List.flatMap_append,List.flatMap_cons,List.flatMap_cons]
 unfold A18
 have h1:((l.take j).flatMap Ak6++(Ak6 x++(l.drop (j+1)).flatMap Ak6)).take (j*5+4)=(l.take j).flatMap Ak6++[.i x.part,.i x.b,.i x.p,.i x.e]:=by
  rw[List.take_append,List.take_of_length_le (by omega),hp,show j*5+4-j*5=4 by omega]
  rfl
 have h2:((l.take j).flatMap Ak6++(Ak6 x++(l.drop (j+1)).flatMap Ak6)).drop (j*5+4+[Value.i n].length)=(l.drop (j+1)).flatMap Ak6:=by
  rw[show j*5+4+[Value.i n].length=j*5+5 from rfl,<-List.drop_drop,List.drop_left' hp]
  rfl
 rw[h1,h2]
 simp[Ak6]
theorem Dd2(v:SlV)(l:List D0)(seg:A4)(own:Own v 5 eIs (l.flatMap Ak6) seg)(j:Nat)(hj:j<l.length)(a:Addr)(ha:v.a=some a)(hfr:0<=l[j].freq/\l[j].freq<=3):
  CallF PP 125 #[.q (some (a.add (j*5)))] seg fun r L'=>r= .t #[]/\Own v 5 eIs ((l.take j++Cn0 l[j]::l.drop (j+1)).flatMap Ak6) L':=by
 refine CallF.of (args:=[.q (some (a.add (j*5)))]) B5 B6 Tryz.func125 (e125 (some (a.add (j*5))) _) ?_
 unfold t125
 obtain⟨a',ha',hld⟩:=own.sl.el K1 (by decide) hj
 rw[ha]at ha'
 obtain rfl:=Option.some.inj ha'
 have had:Addr.add (a.add (j*5)) 4=a.add (j*5+4):=by
  unfold Addr.add
  by_cases h1:j*5=0<;>simp[h1,Nat.add_assoc]
 refine A5 rfl (A6 l[j].freq (hld.one 4 rfl) (A5 rfl ?_))
 rw[C2 (by omega) (by omega)]
 refine own.st [] [] (p:=j*5+4) (by rw[N7 K1];simp only[List.length_cons,List.length_nil];omega) (by simp) ha had (by simp) fun seg' own'=>.of ⟨rfl,?_⟩
 rw[Cw4 l j hj l[j] _ rfl]at own'
 rw[List.nil_append,List.append_nil]
 exact own'
theorem Cw5(A:A4)(ad:Addr)(fr:Int)(hl:D4 (ad.add 4) [.i fr] A)(n:Nat)(x:Int):
  CallF PP 324 #[.q (some ad),.q (some ⟨n,0,none⟩)] ((n,Obj.cells #[.i x] 3)::A) fun r L'=>r= .t #[]/\L'=(n,Obj.cells #[.i fr] 3)::A:=by
 refine CallF.of (args:=[.q (some ad),.q (some ⟨n,0,none⟩)]) B5 B6 Tryz.func324 (e324 (some ad) (some ⟨n,0,none⟩) _) ?_
 unfold t324
 refine A5 rfl (A6 fr (hl.mono fun _ hx=>List.mem_cons_of_mem _ hx) (A5 rfl (E3 [] _ rfl rfl (by simp) (.inl (Nat.le_refl _)) #[.i fr] rfl (.of ⟨rfl,rfl⟩))))
theorem Az9{l:List D0}{nm:Aq5}{i:Nat}(hi:i<l.length)(he:l[i].nm=nm)(hn: ∀s∈l.take i,s.nm≠nm):l.findIdx? (fun s=>decide (s.nm=nm))=some i:=by
 rw[List.findIdx?_eq_some_iff_getElem]
 refine⟨hi,by simpa using he,fun j hj=>?_⟩
 have:=hn l[j] (by rw[List.mem_take_iff_getElem];exact⟨j,by omega,rfl⟩)
 simpa using this
theorem Cd2(l:List D0)(i:Nat)(hi:i<l.length):l.modify i Cn0=l.take i++Cn0 l[i]::l.drop (i+1):=by
 rw[List.modify_eq_take_cons_drop hi]
theorem Cf0(m:Nat)(ways:Int)(ss:List (List D0))(A:A4)(hA:IX m ways ss A)(h:Nat)(hh:h<2^64)(pl:Pl)(hfr: ∀s∈P5 ss h,0<=s.freq/\s.freq<=3):
  CallF PP 124 #[.q (some ⟨m,0,none⟩),.int .u64 h,.agg #[.i pl.1,.i pl.2.1,.i pl.2.2.1],.func (.func 125) #[] #[]] A
   fun v L'=>v= .b (Q7 ss h pl).isSome/\IX m ways (iset ss h (As6 (P5 ss h) (inm h pl))) L':=by
 have hsame:=hA.same h
 obtain⟨sv,oseg,p,r,s,a,rfl,ok,ha,hl1,hl2,hp,hrow,hset⟩:=hA.split h
 refine CallF.of (args:=[.q (some ⟨m,0,none⟩),.int .u64 h,.agg #[.i pl.1,.i pl.2.1,.i pl.2.2.1],.func (.func 125) #[] #[]]) B5 B6 Tryz.func124 (e124 (some ⟨m,0,none⟩) h pl ⟨.func 125,#[],#[]⟩ _) ?_
 unfold t124
 have hg:iO m ways sv∈IA m ways sv oseg (p++r::s):=List.mem_cons_self
 have hos: ∀{X:A4},(∀x∈oseg,x∈X++IA m ways sv oseg (p++r::s)):=fun x hx=>by unfold IA;simp[hx]
 have hrs: ∀{X:A4},(∀x∈r.2.2,x∈X++IA m ways sv oseg (p++r::s)):=fun x hx=>by unfold IA O1;simp[hx]
 have hb:=ok.few r (by simp)
 refine C3 fun n1 _=>ifF rfl ?_
 generalize ho1:(n1,Obj.cells #[.i pl.1,.i pl.2.1,.i pl.2.2.1] 102)=o1
 have l1: ∀{Z:A4},D4 ⟨n1,0,none⟩ [.i pl.1,.i pl.2.1,.i pl.2.2.1] (o1::Z):=by subst ho1;exact ldB List.mem_cons_self rfl
 have lr:D4 (a.add p.length) [.slice r.1.a r.1.len r.1.cap] (o1::IA m ways sv oseg (p++r::s)):=B39 ok ha (hos (X:=[o1]))
 refine A6 pl l1 (B7 (Ai3 _ m ways sv (by simp[hg]) a ha hl1 (by omega) h hh) (some (a.add (h%sv.len)),()) rfl (F5 l1 ?_))
 rw[hp]
 refine A5 rfl (A6 r.1 lr (B7 (Bi9 _ h hh pl) ((T0 h,pl.1,pl.2.1,pl.2.2.1,()),()) rfl (F5 lr (C3 fun n2 _=>E3 [] _ rfl rfl (by simp) (.inl (Nat.le_refl _)) #[.i (T0 h),.i pl.1,.i pl.2.1,.i pl.2.2.1] rfl ?_))))
 rw[List.nil_append]
 generalize ho2:(n2,Obj.cells #[.i (T0 h),.i pl.1,.i pl.2.1,.i pl.2.2.1] 202)=o2
 have l2: ∀{Z:A4},D4 ⟨n2,0,none⟩ [.i (T0 h),.i pl.1,.i pl.2.1,.i pl.2.2.1] (o2::Z):=by subst ho2;exact ldB List.mem_cons_self rfl
 have lsl:Sl (o2::o1::IA m ways sv oseg (p++r::s)) r.1 5 (r.2.1.flatMap Ak6):=Ap4 ok (hrs (X:=[o2,o1]))
 have hlen:=lsl.els_len K1 (by decide)
 rw[hrow]at hfr
 refine G0 (fun k z L'=>L'=o2::o1::IA m ways sv oseg (p++r::s)/\ ∃i:Nat,i<=r.2.1.length/\k=r.2.1.length-i/\z=((i:Int),())/\ ∀s∈r.2.1.take i,s.nm≠inm h pl) r.2.1.length ⟨rfl,0,by omega,by omega,rfl,by simp⟩ ?_
 rintro k z L' ⟨rfl,i,hi,rfl,rfl,hn⟩
 refine C0 (fun(hlt:(i:Int)<r.1.len)=>?_) (fun(hge: ¬(i:Int)<r.1.len)=>?_)
 ·have hi':i<r.2.1.length:=by omega
  have hi0:(0:Int)<=(i:Int):=by omega
  obtain⟨b,hb',hld⟩:=lsl.el K1 (by decide) hi'
  refine A5 hb' (E0 hi0 hlt (A6 (r.2.1[i].part,r.2.1[i].b,r.2.1[i].p,r.2.1[i].e,()) ?_ (A6 (T0 h,pl) l2 (eqNm _ _ _ _ _ _ _ _ ?_))))
  ·rw[Int.toNat_natCast]
   exact hld.pre fun j u hu=>by rcases j with _|_|_|_|j<;>first|exact hu|exact absurd (show(none:Option Value)=some u from hu) (by simp)
  refine C0 (fun(he:r.2.1[i].nm=inm h pl)=>?_) (fun(he: ¬r.2.1[i].nm=inm h pl)=>?_)
  ·have hfi:=Az9 hi' he hn
   refine A5 hb' (E0 hi0 hlt (Z2 (by kernel_rfl) ?_))
   refine J5 (o2::o1::iO m ways sv::(oseg++O1 p)) (O1 s) (Dd2 r.1 r.2.1 r.2.2 (ok.row r (by simp)) i hi' b hb' (hfr _ (List.getElem_mem hi'))) (by unfold IA;rw[Aa0];simp) ?_
   rintro _ seg2-⟨rfl,own2⟩
   refine⟨(),rfl,?_⟩
   refine .cons (.cons (.of ⟨?_,?_⟩))
   ·unfold Q7
    rcases V5 r.2.1 (inm h pl)with⟨e1,_⟩|⟨j,hj,e1,e2,_⟩
    ·rw[hfi]at e1;cases e1
    ·rw[hrow,e2];rfl
   ·rw[hrow]
    unfold As6
    rw[hfi]
    simp only
    rw[Cd2 _ _ hi']
    refine⟨sv,oseg,p++(r.1,r.2.1.take i++Cn0 r.2.1[i]::r.2.1.drop (i+1),seg2)::s,by unfold IA;rw[Aa0];simp,?_,by rw[hset,Ai2]⟩
    refine Cv5 ok (r.1,r.2.1.take i++Cn0 r.2.1[i]::r.2.1.drop (i+1),seg2) (seg':=oseg) ?_ own2 ?_
    ·rw[rput]
     have e:(p++(r.1,r.2.1.take i++Cn0 r.2.1[i]::r.2.1.drop (i+1),seg2)::s).flatMap Bg1=(p++r::s).flatMap Bg1:=by
      rw[List.flatMap_append,List.flatMap_append,List.flatMap_cons,List.flatMap_cons];rfl
     rw[e];exact ok.own
    ·simp only[List.length_append,List.length_cons,List.length_take,List.length_drop];omega
  ·refine⟨r.2.1.length-(i+1),by omega,rfl,i+1,by omega,rfl,?_,fun e hx=>?_⟩
   ·rw[C2 (by first|omega|(simp only;omega)) (by first|omega|(simp only;omega))]
    rfl
   ·rw[List.take_succ_eq_append_getElem hi']at hx
    rcases List.mem_append.1 hx with hx|hx
    ·exact hn e hx
    ·rw[List.mem_singleton.1 hx];exact he
 ·obtain rfl:i=r.2.1.length:=by omega
  rw[List.take_length]at hn
  have e0:r.2.1.findIdx? (fun s=>decide (s.nm=inm h pl))=none:=by
   rw[List.findIdx?_eq_none_iff]
   intro s hs
   simpa using hn s hs
  refine .cons (.cons (.of ⟨?_,?_⟩))
  ·unfold Q7
   rcases V5 r.2.1 (inm h pl)with⟨_,e2,_⟩|⟨j,hj,e1,e2,_⟩
   ·rw[hrow,e2];rfl
   ·rw[e0]at e1;cases e1
  ·unfold As6
   rw[hrow,e0]
   simp only
   rw[<-hrow,hsame]
   exact hA
def Az1(ss:List (List D0))(h:Nat)(p:Pl):Int:=match Q7 ss h p with|some x=>x.freq|none=>0
theorem Cf1(m:Nat)(ways:Int)(ss:List (List D0))(A:A4)(hA:IX m ways ss A)(h:Nat)(hh:h<2^64)(pl:Pl)(nf:Nat):
  CallF PP 124 #[.q (some ⟨m,0,none⟩),.int .u64 h,.agg #[.i pl.1,.i pl.2.1,.i pl.2.2.1],.func (.func 324) #[] #[.q (some ⟨nf,0,none⟩)]] ((nf,Obj.cells #[.i 0] 3)::A)
   fun v L'=>v= .b (Q7 ss h pl).isSome/\L'=(nf,Obj.cells #[.i (Az1 ss h pl)] 3)::A:=by
 obtain⟨sv,oseg,p,r,s,a,rfl,ok,ha,hl1,hl2,hp,hrow,hset⟩:=hA.split h
 refine CallF.of (args:=[.q (some ⟨m,0,none⟩),.int .u64 h,.agg #[.i pl.1,.i pl.2.1,.i pl.2.2.1],.func (.func 324) #[] #[.q (some ⟨nf,0,none⟩)]]) B5 B6 Tryz.func124 (e124 (some ⟨m,0,none⟩) h pl ⟨.func 324,#[],#[.q (some ⟨nf,0,none⟩)]⟩ _) ?_
 unfold t124
 have hg:iO m ways sv∈IA m ways sv oseg (p++r::s):=List.mem_cons_self
 have hos: ∀{X:A4},(∀x∈oseg,x∈X++IA m ways sv oseg (p++r::s)):=fun x hx=>by unfold IA;simp[hx]
 have hrs: ∀{X:A4},(∀x∈r.2.2,x∈X++IA m ways sv oseg (p++r::s)):=fun x hx=>by unfold IA O1;simp[hx]
 have hb:=ok.few r (by simp)
 refine C3 fun n1 _=>ifF rfl ?_
 generalize ho1:(n1,Obj.cells #[.i pl.1,.i pl.2.1,.i pl.2.2.1] 102)=o1
 generalize hof:(nf,Obj.cells #[.i 0] 3)=o0
 have l1: ∀{Z:A4},D4 ⟨n1,0,none⟩ [.i pl.1,.i pl.2.1,.i pl.2.2.1] (o1::Z):=by subst ho1;exact ldB List.mem_cons_self rfl
 have lr:D4 (a.add p.length) [.slice r.1.a r.1.len r.1.cap] (o1::o0::IA m ways sv oseg (p++r::s)):=B39 ok ha (hos (X:=[o1,o0]))
 refine A6 pl l1 (B7 (Ai3 _ m ways sv (by simp[hg]) a ha hl1 (by omega) h hh) (some (a.add (h%sv.len)),()) rfl (F5 l1 ?_))
 rw[hp]
 refine A5 rfl (A6 r.1 lr (B7 (Bi9 _ h hh pl) ((T0 h,pl.1,pl.2.1,pl.2.2.1,()),()) rfl (F5 lr (C3 fun n2 _=>E3 [] _ rfl rfl (by simp) (.inl (Nat.le_refl _)) #[.i (T0 h),.i pl.1,.i pl.2.1,.i pl.2.2.1] rfl ?_))))
 rw[List.nil_append]
 generalize ho2:(n2,Obj.cells #[.i (T0 h),.i pl.1,.i pl.2.1,.i pl.2.2.1] 202)=o2
 have l2: ∀{Z:A4},D4 ⟨n2,0,none⟩ [.i (T0 h),.i pl.1,.i pl.2.1,.i pl.2.2.1] (o2::Z):=by subst ho2;exact ldB List.mem_cons_self rfl
 have lsl0:Sl (IA m ways sv oseg (p++r::s)) r.1 5 (r.2.1.flatMap Ak6):=Ap4 ok (hrs (X:=[]))
 have lsl:Sl (o2::o1::o0::IA m ways sv oseg (p++r::s)) r.1 5 (r.2.1.flatMap Ak6):=Ap4 ok (hrs (X:=[o2,o1,o0]))
 have hlen:=lsl.els_len K1 (by decide)
 refine G0 (fun k z L'=>L'=o2::o1::o0::IA m ways sv oseg (p++r::s)/\ ∃i:Nat,i<=r.2.1.length/\k=r.2.1.length-i/\z=((i:Int),())/\ ∀s∈r.2.1.take i,s.nm≠inm h pl) r.2.1.length ⟨rfl,0,by omega,by omega,rfl,by simp⟩ ?_
 rintro k z L' ⟨rfl,i,hi,rfl,rfl,hn⟩
 refine C0 (fun(hlt:(i:Int)<r.1.len)=>?_) (fun(hge: ¬(i:Int)<r.1.len)=>?_)
 ·have hi':i<r.2.1.length:=by omega
  have hi0:(0:Int)<=(i:Int):=by omega
  obtain⟨b,hb',hld⟩:=lsl.el K1 (by decide) hi'
  refine A5 hb' (E0 hi0 hlt (A6 (r.2.1[i].part,r.2.1[i].b,r.2.1[i].p,r.2.1[i].e,()) ?_ (A6 (T0 h,pl) l2 (eqNm _ _ _ _ _ _ _ _ ?_))))
  ·rw[Int.toNat_natCast]
   exact hld.pre fun j u hu=>by rcases j with _|_|_|_|j<;>first|exact hu|exact absurd (show(none:Option Value)=some u from hu) (by simp)
  refine C0 (fun(he:r.2.1[i].nm=inm h pl)=>?_) (fun(he: ¬r.2.1[i].nm=inm h pl)=>?_)
  ·have hfi:=Az9 hi' he hn
   obtain⟨b2,hb2,hld2⟩:=lsl0.el K1 (by decide) hi'
   rw[hb']at hb2
   obtain rfl:=Option.some.inj hb2
   have hfd:Q7 ss h pl=some r.2.1[i]:=by
    unfold Q7
    rcases V5 r.2.1 (inm h pl)with⟨e1,_⟩|⟨j,hj,e1,e2,_⟩
    ·rw[hfi]at e1;cases e1
    ·rw[hfi]at e1
     obtain rfl:=Option.some.inj e1
     rw[hrow,e2]
   subst hof
   refine A5 hb' (E0 hi0 hlt (Z2 (by kernel_rfl) ?_))
   refine J5 [o2,o1] [] (Cw5 (IA m ways sv oseg (p++r::s)) (b.add ((i:Int).toNat*5)) r.2.1[i].freq (by rw[Int.toNat_natCast];exact hld2.one 4 rfl) nf 0) (by simp) ?_
   rintro _ _-⟨rfl,rfl⟩
   rw[List.append_nil]
   refine⟨(),rfl,.cons (.cons (.of ⟨by rw[hfd];rfl,?_⟩))⟩
   unfold Az1
   rw[hfd]
   rfl
  ·refine⟨r.2.1.length-(i+1),by omega,rfl,i+1,by omega,rfl,?_,fun e hx=>?_⟩
   ·rw[C2 (by first|omega|(simp only;omega)) (by first|omega|(simp only;omega))]
    rfl
   ·rw[List.take_succ_eq_append_getElem hi']at hx
    rcases List.mem_append.1 hx with hx|hx
    ·exact hn e hx
    ·rw[List.mem_singleton.1 hx];exact he
 ·obtain rfl:i=r.2.1.length:=by omega
  rw[List.take_length]at hn
  have hfd:Q7 ss h pl=none:=by
   unfold Q7
   rw[hrow,List.find?_eq_none]
   intro s hs
   simpa using hn s hs
  subst hof
  refine .cons (.cons (.of ⟨by rw[hfd];rfl,?_⟩))
  unfold Az1
  rw[hfd]
theorem Dc9(m:Nat)(ways:Int)(ss:List (List D0))(A:A4)(hA:IX m ways ss A)(h:Nat)(hh:h<2^64)(pl:Pl)(hfr: ∀s∈P5 ss h,0<=s.freq/\s.freq<=3):
  CallF PP 60 #[.q (some ⟨m,0,none⟩),.int .u64 h,.agg #[.i pl.1,.i pl.2.1,.i pl.2.2.1]] A
   fun v L'=>v= .b (Q7 ss h pl).isSome/\IX m ways (iset ss h (As6 (P5 ss h) (inm h pl))) L':=by
 refine CallF.of (args:=[.q (some ⟨m,0,none⟩),.int .u64 h,.agg #[.i pl.1,.i pl.2.1,.i pl.2.2.1]]) B5 B6 Tryz.func60 (e60 (some ⟨m,0,none⟩) h pl _) ?_
 unfold t60
 refine C3 fun n1 _=>A6 pl (ldB List.mem_cons_self rfl) (J5 [(n1,Obj.cells #[.i pl.1,.i pl.2.1,.i pl.2.2.1] 102)] [] (Cf0 m ways ss A hA h hh pl hfr) (by simp) ?_)
 rintro _ A1-⟨rfl,hA1⟩
 rw[List.append_nil]
 exact⟨((Q7 ss h pl).isSome,()),rfl,.cons (.of ⟨rfl,hA1⟩)⟩
theorem Cv2(m:Nat)(ways:Int)(ss:List (List D0))(A:A4)(hA:IX m ways ss A)(h:Nat)(hh:h<2^64)(pl:Pl):
  Reads PP 293 #[.q (some ⟨m,0,none⟩),.int .u64 h,.agg #[.i pl.1,.i pl.2.1,.i pl.2.2.1]] A (.i (Az1 ss h pl)):=by
 refine Reads.of (args:=[.q (some ⟨m,0,none⟩),.int .u64 h,.agg #[.i pl.1,.i pl.2.1,.i pl.2.2.1]]) B5 B6 Tryz.func293 (e293 (some ⟨m,0,none⟩) h pl _) ?_
 unfold t293
 refine C3 fun n1 _=>C3 fun n2 _=>E3 [] _ rfl rfl (by simp) (.inl (Nat.le_refl _)) #[.i 0] rfl (A6 pl (ldB (n:=n1) (c:=#[.i pl.1,.i pl.2.1,.i pl.2.2.1]) (T:=102) (fz:=(0,0)) (by simp) rfl) ?_)
 generalize (n1,Obj.cells #[.i pl.1,.i pl.2.1,.i pl.2.2.1] 102)=o1
 refine G5 (R:=[o1]) (Cf1 m ways ss A hA h hh pl n2) ?_ ?_
 ·exact(List.Perm.cons _ (List.perm_append_comm (l₁:=[o1]) (l₂:=A)))
 rintro _ _ ⟨rfl,rfl⟩
 refine⟨(n2,Obj.cells #[.i (Az1 ss h pl)] 3)::o1::A,List.Perm.cons _ (List.perm_append_comm (l₁:=A) (l₂:=[o1])),((Q7 ss h pl).isSome,()),rfl,?_⟩
 exact A6 (Az1 ss h pl) (ldB List.mem_cons_self rfl) (.cons (.cons (.of ⟨rfl,rfl⟩)))
structure BS where
 wear:Int
 bad:Bool
 dirty:Bool
def W9(s:BS):List Value:=[.i s.wear,.b s.bad,.b s.dirty]
theorem H2(s:BS):(W9 s).length=3:=rfl
theorem Bs7(l:List BS):(l.flatMap W9).all S5=true:=by
 induction l with
 |nil=>rfl
 |cons e r ih=>rw[List.flatMap_cons,List.all_append,ih];rfl
def bs0:BS:=⟨0,false,false⟩
abbrev tyIn:TypeId:=49
abbrev Bk6:TypeId:=3
abbrev tySt:TypeId:=159
abbrev eSt:TypeId:=194
theorem Ap9:U8 PP tyIn Bk6 1 8 [.i 0]:=M6 (by kernel_rfl) (by kernel_rfl) rfl (by decide) (by decide)
theorem Be5:As9 PP tyIn:=.inl ⟨Bk6,by kernel_rfl⟩
theorem Ci9:U8 PP tySt eSt 3 16 [.i 0,.b false,.b false]:=M6 (by kernel_rfl) (by kernel_rfl) rfl (by decide) (by decide)
theorem C07:As9 PP tySt:=.inl ⟨eSt,by kernel_rfl⟩
theorem own_z{sz:Nat}{e:TypeId}:Own ⟨none,0,0⟩ sz e [] []:=⟨by simp,Nat.le_refl _,.inl ⟨rfl,rfl,rfl⟩⟩
theorem own_n{sz n:Nat}{e:TypeId}:Own ⟨some ⟨n,0,none⟩,0,0⟩ sz e [] [(n,Obj.cells #[] e)]:=⟨by simp,Nat.le_refl _,.inr ⟨n,0,#[],(0,0),rfl,rfl,by simp,.inl (Nat.le_refl _),fun i u hu=>by simp at hu⟩⟩
theorem B37(L:A4)(v:SlV)(l:List Int)(h:ISl L v .i64 l)(hb:l.length<=1000000)(x:Int):
  Reads PP 289 #[.slice v.a v.len v.cap,.i x] L (.i (match l.findIdx? (fun y=>decide (y=x))with|some i=>(i:Int)|none=> -1)):=by
 refine Reads.of (args:=[.slice v.a v.len v.cap,.i x]) B5 B6 Tryz.func289 (e289 v x _) ?_
 unfold t289
 have hlen:=h.len
 refine G0 (fun k z L'=>L'=L/\ ∃i:Nat,i<=l.length/\k=l.length-i/\z=((i:Int),())/\ ∀y∈l.take i,y≠x) l.length ⟨rfl,0,by omega,by omega,rfl,by simp⟩ ?_
 rintro k z L' ⟨rfl,i,hi,rfl,rfl,hn⟩
 refine C0 (fun(hlt:(i:Int)<v.len)=>?_) (fun(hge: ¬(i:Int)<v.len)=>?_)
 ·have hi':i<l.length:=by omega
  obtain⟨a,ha⟩:=h.some hi'
  refine A5 ha (E0 (show(0:Int)<=i by omega) hlt (A6 l[i] (h.rd hi' ha _ (by simp)) ?_))
  refine Aa4 (fun he=>.of ⟨?_,rfl⟩) (fun he=>⟨l.length-(i+1),by omega,rfl,i+1,by omega,rfl,?_,fun y hy=>?_⟩)
  ·have:l.findIdx? (fun y=>decide (y=x))=some i:=by
    rw[List.findIdx?_eq_some_iff_getElem]
    refine⟨hi',by simpa using he.symm,fun j hj=>?_⟩
    have:=hn l[j] (by rw[List.mem_take_iff_getElem];exact⟨j,by omega,rfl⟩)
    simpa using this
   rw[this]
  ·rw[C2 (by first|omega|(simp only;omega)) (by first|omega|(simp only;omega))]
   rfl
  ·rw[List.take_succ_eq_append_getElem hi']at hy
   rcases List.mem_append.1 hy with hy|hy
   ·exact hn y hy
   ·rw[List.mem_singleton.1 hy];exact fun e=>he e.symm
 ·obtain rfl:i=l.length:=by omega
  rw[List.take_length]at hn
  have:l.findIdx? (fun y=>decide (y=x))=none:=by
   rw[List.findIdx?_eq_none_iff]
   intro y hy
   simpa using hn y hy
  rw[this]
  exact .of ⟨rfl,rfl⟩
theorem Cu8(L:A4)(v:SlV)(l:List Int)(h:ISl L v .i64 l)(hb:l.length<=1000000)(x:Int):
  Reads PP 228 #[.slice v.a v.len v.cap,.i x] L (.b (decide (x∈l))):=by
 refine Reads.of (args:=[.slice v.a v.len v.cap,.i x]) B5 B6 Tryz.func228 (e228 v x _) ?_
 unfold t228
 refine B7 (B37 _ v l h hb x) (_,()) rfl (.of ⟨?_,rfl⟩)
 cases hf:l.findIdx? (fun y=>decide (y=x))with
 |none=>
  rw[List.findIdx?_eq_none_iff]at hf
  have:x∉l:=fun hx=>by have:=hf x hx;simp at this
  simp[this]
 |some i=>
  rw[List.findIdx?_eq_some_iff_getElem]at hf
  obtain⟨hi,h1,_⟩:=hf
  have:x∈l:=by
   have e:l[i]=x:=by simpa using h1
   rw[<-e];exact List.getElem_mem hi
  simp[this]
theorem B13(A:A4)(v:SlV)(l:List BS)(h:Sl A v 3 (l.flatMap W9))(hb:l.length<=1000000):
  CallF PP 171 #[.slice v.a v.len v.cap] A fun r L'=> ∃(s:SlV) (seg:A4),r= .slice s.a s.len s.cap/\L'=seg++A/\Own s 3 eSt (l.flatMap W9) seg:=by
 refine CallF.of (args:=[.slice v.a v.len v.cap]) B5 B6 Tryz.func171 (e171 v _) ?_
 unfold t171
 have hlen:=h.els_len H2 (by decide)
 refine G7 (fun hn=>?_) (fun hn=>?_)
 ·have:l=[]:=by
   cases l with
   |nil=>rfl
   |cons x r=>
    obtain⟨a,ha,_⟩:=h.el H2 (by decide) (i:=0) (by simp)
    rw[ha]at hn;cases hn
  subst this
  exact .of ⟨⟨none,0,0⟩,[],rfl,rfl,own_z⟩
 ·refine C3 fun n1 _=>E6 Ci9 C07 [] A own_n rfl (.sl h.cons) (Bs7 _) (by first|omega|(simp only;omega)) fun s seg hs own=>?_
  rw[List.nil_append]at own
  exact .of ⟨s,seg,rfl,by simp,own⟩
theorem Bt5(L:A4)(y x:Int)(ad:Addr)(hl:D4 ad [.i x] L):Reads PP 326 #[.i y,.q (some ad)] L (.b (decide (y=x))):=by
 refine Reads.of (args:=[.i y,.q (some ad)]) B5 B6 Tryz.func326 (e326 y (some ad) _) ?_
 unfold t326
 refine A5 rfl (A6 x hl (.of ⟨?_,rfl⟩))
 congr 1
theorem Br4(L:A4)(v:SlV)(l:List Int)(h:ISl L v .i64 l)(hb:l.length<=1000000)(x:Int)(ad:Addr)(hl:D4 ad [.i x] L):
  Reads PP 335 #[.slice v.a v.len v.cap,.func (.func 326) #[] #[.q (some ad)]] L (.i (match l.findIdx? (fun y=>decide (y=x))with|some i=>(i:Int)|none=> -1)):=by
 refine Reads.of (args:=[.slice v.a v.len v.cap,.func (.func 326) #[] #[.q (some ad)]]) B5 B6 Tryz.func335 (e335 v ⟨.func 326,#[],#[.q (some ad)]⟩ _) ?_
 unfold t335
 have hlen:=h.len
 refine G0 (fun k z L'=>L'=L/\ ∃i:Nat,i<=l.length/\k=l.length-i/\z=((i:Int),())/\ ∀y∈l.take i,y≠x) l.length ⟨rfl,0,by omega,by omega,rfl,by simp⟩ ?_
 rintro k z L' ⟨rfl,i,hi,rfl,rfl,hn⟩
 refine C0 (fun(hlt:(i:Int)<v.len)=>?_) (fun(hge: ¬(i:Int)<v.len)=>?_)
 ·have hi':i<l.length:=by omega
  obtain⟨a,ha⟩:=h.some hi'
  refine A5 ha (E0 (show(0:Int)<=i by omega) hlt (A6 l[i] (h.rd hi' ha _ (by simp)) (Z2 (by kernel_rfl) (B7 (Bt5 _ l[i] x ad hl) (decide (l[i]=x),()) rfl ?_))))
  refine C0 (fun(he:l[i]=x)=>.of ⟨?_,rfl⟩) (fun(he: ¬l[i]=x)=>⟨l.length-(i+1),by omega,rfl,i+1,by omega,rfl,?_,fun y hy=>?_⟩)
  ·have:l.findIdx? (fun y=>decide (y=x))=some i:=by
    rw[List.findIdx?_eq_some_iff_getElem]
    refine⟨hi',by simpa using he,fun j hj=>?_⟩
    have:=hn l[j] (by rw[List.mem_take_iff_getElem];exact⟨j,by omega,rfl⟩)
    simpa using this
   rw[this]
  ·rw[C2 (by first|omega|(simp only;omega)) (by first|omega|(simp only;omega))]
   rfl
  ·rw[List.take_succ_eq_append_getElem hi']at hy
   rcases List.mem_append.1 hy with hy|hy
   ·exact hn y hy
   ·rw[List.mem_singleton.1 hy];exact he
 ·obtain rfl:i=l.length:=by omega
  rw[List.take_length]at hn
  have:l.findIdx? (fun y=>decide (y=x))=none:=by
   rw[List.findIdx?_eq_none_iff]
   intro y hy
   simpa using hn y hy
  rw[this]
  exact .of ⟨rfl,rfl⟩
def iwo(l:List Int)(x:Int):List Int:=l.filter fun y=>decide (y≠x)
theorem Bw7(l:List Int)(x y:Int):iwo (l++[y]) x=iwo l x++(if y=x then[]else[y]):=by
 unfold iwo
 rw[List.filter_append]
 by_cases h:y=x<;>simp[h]
theorem Cu9(v:SlV)(l:List Int)(seg:A4)(own:Own v 1 Bk6 (ivs .i64 l) seg)(hb:l.length<=1000000)(x:Int)(n1:Nat):
  CallF PP 325 #[.slice v.a v.len v.cap,.func (.func 326) #[] #[.q (some ⟨n1,0,none⟩)]] ((n1,Obj.cells #[.i x] 3)::seg)
   fun r L'=> ∃(s:SlV) (seg':A4),r= .slice s.a s.len s.cap/\L'=(n1,Obj.cells #[.i x] 3)::seg'/\Own s 1 Bk6 (ivs .i64 (iwo l x)) seg':=by
 refine CallF.of (args:=[.slice v.a v.len v.cap,.func (.func 326) #[] #[.q (some ⟨n1,0,none⟩)]]) B5 B6 Tryz.func325 (e325 v ⟨.func 326,#[],#[.q (some ⟨n1,0,none⟩)]⟩ _) ?_
 unfold t325
 generalize ho:(n1,Obj.cells #[.i x] 3)=o1
 have l1: ∀{Z:A4},D4 ⟨n1,0,none⟩ [.i x] (o1::Z):=by subst ho;exact ldB List.mem_cons_self rfl
 clear ho
 have h0:ISl (o1::seg) v .i64 l:=own.sl.cons
 have hlen:=h0.len
 have hcap:=own.cap
 refine B7 (Br4 _ v l h0 hb x ⟨n1,0,none⟩ l1) (_,()) rfl ?_
 cases hf:l.findIdx? (fun y=>decide (y=x))with
 |none=>
  rw[List.findIdx?_eq_none_iff]at hf
  have:iwo l x=l:=by
   unfold iwo
   rw[List.filter_eq_self]
   intro y hy
   have:=hf y hy
   simpa using this
  rw[this]
  exact ifT rfl (.of ⟨v,seg,rfl,rfl,own⟩)
 |some i0=>
  rw[List.findIdx?_eq_some_iff_getElem]at hf
  obtain⟨hi0,h1,h2⟩:=hf
  have h1':l[i0]=x:=by simpa using h1
  have hpre:iwo (l.take i0) x=l.take i0:=by
   unfold iwo
   rw[List.filter_eq_self]
   intro y hy
   obtain⟨j,hj,rfl⟩:=List.mem_take_iff_getElem.1 hy
   have:=h2 j (by omega)
   simpa using this
  have hsn:=Bw7 (l.take i0) x l[i0]
  rw[<-List.take_succ_eq_append_getElem hi0,if_pos h1',hpre,List.append_nil]at hsn
  refine ifF (by simp) ?_
  have hw:IntKind.i64.wrap ((i0:Int)+1)=((i0+1:Nat):Int):=by rw[C2 (by omega) (by omega)];omega
  simp only[hw]
  refine G0 (fun k z L'=> ∃(i j:Nat) (cur:List Int) (seg:A4),i<=j/\j<=l.length/\k=l.length-j/\z=((i:Int),(j:Int),())/\L'=o1::seg/\Own v 1 Bk6 (ivs .i64 cur) seg/\cur.length=l.length/\i=(iwo (l.take j) x).length/\cur.take i=iwo (l.take j) x/\cur.drop j=l.drop j) (l.length-(i0+1))
   ⟨i0,i0+1,l,seg,by omega,by omega,by omega,rfl,rfl,own,rfl,by rw[hsn,List.length_take];omega,by rw[hsn],rfl⟩ ?_
  clear hsn hpre own h0
  rintro k z L' ⟨i,j,cur,seg,hij,hj,rfl,rfl,rfl,own,hcl,hil,htk,hdr⟩
  have h0:ISl (o1::seg) v .i64 cur:=own.sl.cons
  refine C0 (fun(hlt:(j:Int)<v.len)=>?_) (fun(hge: ¬(j:Int)<v.len)=>?_)
  ·have hj':j<cur.length:=by omega
   have hjl:j<l.length:=by omega
   have hcj:cur[j]=l[j]:=by
    have a1:=List.drop_eq_getElem_cons hj'
    have a2:=List.drop_eq_getElem_cons hjl
    rw[hdr,a2]at a1
    injection a1 with b1 b2
    exact b1.symm
   have hdr':cur.drop (j+1)=l.drop (j+1):=by
    rw[<-List.drop_drop,hdr,List.drop_drop]
   obtain⟨a,ha⟩:=h0.some hj'
   have hsn:=Bw7 (l.take j) x l[j]
   rw[<-List.take_succ_eq_append_getElem hjl]at hsn
   have hwj:IntKind.i64.wrap ((j:Int)+1)=((j+1:Nat):Int):=by rw[C2 (by omega) (by omega)];omega
   have hwi:IntKind.i64.wrap ((i:Int)+1)=((i+1:Nat):Int):=by rw[C2 (by omega) (by omega)];omega
   refine A5 ha (E0 (show(0:Int)<=(j:Int) by omega) hlt (A6 cur[j] (h0.rd hj' ha _ (by simp)) (Z2 (by kernel_rfl) (B7 (Bt5 _ cur[j] x ⟨n1,0,none⟩ l1) (decide (cur[j]=x),()) rfl ?_))))
   rw[hcj]
   refine G7 (fun hne=>?_) (fun he=>?_)
   ·have hne':l[j]≠x:=by simpa using hne
    rw[if_neg hne']at hsn
    refine A5 ha (E0 (show(0:Int)<=(i:Int) by omega) (show(i:Int)<v.len by omega) ?_)
    refine own.st [o1] [] (p:=i) (by rw[K8];simp only[List.length_cons,List.length_nil];omega) (by simp) ha (by simp) (by simp) fun seg' own'=>?_
    rw[Al7 (by rw[K8];omega),Dc2]at own'
    refine⟨l.length-(j+1),by omega,i+1,j+1,cur.set i l[j],seg',by omega,by omega,rfl,?_,by simp,own',by rw[List.length_set];exact hcl,?_,?_,?_⟩
    ·show(IntKind.i64.wrap ((i:Int)+1),IntKind.i64.wrap ((j:Int)+1),())=_
     rw[hwi,hwj]
    ·rw[hsn,List.length_append,<-hil];rfl
    ·rw[hsn,<-htk,List.take_succ_eq_append_getElem (by rw[List.length_set];omega),List.take_set_of_le (by omega),List.getElem_set_self]
    ·rw[List.drop_set_of_lt (by omega)];exact hdr'
   ·have he':l[j]=x:=by simpa using he
    rw[if_pos he',List.append_nil]at hsn
    refine⟨l.length-(j+1),by omega,i,j+1,cur,seg,by omega,by omega,rfl,?_,rfl,own,hcl,by rw[hsn];exact hil,by rw[hsn];exact htk,hdr'⟩
    show((i:Int),IntKind.i64.wrap ((j:Int)+1),())=_
    rw[hwj]
  ·obtain rfl:j=l.length:=by omega
   rw[List.take_length]at hil htk
   have own':=own.slc (l:=0) (h:=i) (by omega) (by omega)
   rw[Cf2,List.drop_zero,Nat.sub_zero,htk]at own'
   refine K4 (l':=i) (h':=v.len) (m':=v.cap) rfl rfl rfl (by omega) hcap (Nat.le_refl _) ?_
   have hs:P1 v ((i:Nat):Int) ((v.len:Nat):Int) ((v.cap:Nat):Int) 1=P1 (P1 v ((0:Nat):Int) ((i:Nat):Int) ((v.cap:Nat):Int) 1) ((P1 v ((0:Nat):Int) ((i:Nat):Int) ((v.cap:Nat):Int) 1).len) ((v.len:Nat):Int) ((P1 v ((0:Nat):Int) ((i:Nat):Int) ((v.cap:Nat):Int) 1).cap) 1:=by
    have ea: ∀o:Option Addr,o.map (·.add 0)=o:=fun o=>by cases o<;>simp[Addr.add]
    simp only[P1,Int.toNat_natCast,Nat.sub_zero,Nat.zero_mul,Nat.mul_one,ea,ite_self]
   refine Ah0 Ap9 rfl [o1] [] own' (by simp) (h:=v.len) (by simp only[P1,Int.toNat_natCast];omega) (by simp only[P1,Int.toNat_natCast];omega) hs fun seg2 own2=>?_
   refine K4 (l':=0) (h':=i) (m':=v.cap) rfl rfl rfl (by omega) (by omega) (Nat.le_refl _) (.of ⟨_,seg2,rfl,by simp,own2⟩)
def bO(m:Nat)(sv uv:SlV):Nat×Obj:=(m,Obj.cells #[.slice sv.a sv.len sv.cap,.slice uv.a uv.len uv.cap] 259)
structure BOk(sv:SlV)(sseg:A4)(ss:List BS)(uv:SlV)(useg:A4)(us:List Int):Prop where
 own:Own sv 3 eSt (ss.flatMap W9) sseg
 uown:Own uv 1 Bk6 (ivs .i64 us) useg
 cnt:1<=ss.length/\ss.length<=16
 few:us.length<=100000
 wr: ∀s∈ss,0<=s.wear/\s.wear<=1000000000
def BX(m:Nat)(ss:List BS)(us:List Int)(A:A4):Prop:= ∃sv sseg uv useg,A=bO m sv uv::(sseg++useg)/\BOk sv sseg ss uv useg us
section
variable {L:A4} {m:Nat} {sv uv:SlV}
theorem b_s(h:bO m sv uv∈L):D4 ⟨m,0,none⟩ [.slice sv.a sv.len sv.cap] L:=ldB (by unfold bO at h;exact h) rfl
theorem b_u(h:bO m sv uv∈L):D4 ⟨m,1,none⟩ [.slice uv.a uv.len uv.cap] L:=ldB (by unfold bO at h;exact h) rfl
end
def H1(ss:List BS)(n:Int):Bool:=decide (0<=n)&&(match ss[n.toNat]? with|some s=> !s.bad|none=>false)
def N1(ss:List BS)(us:List Int)(n:Int):Bool:=H1 ss n&& !decide (n∈us)
theorem B00(L:A4)(m:Nat)(ss:List BS)(us:List Int)(A:A4)(hA:BX m ss us A)(hs: ∀x∈A,x∈L)(n:Int):Reads PP 120 #[.q (some ⟨m,0,none⟩),.i n] L (.b (H1 ss n)):=by
 obtain⟨sv,sseg,uv,useg,rfl,ok⟩:=hA
 refine Reads.of (args:=[.q (some ⟨m,0,none⟩),.i n]) B5 B6 Tryz.func120 (e120 (some ⟨m,0,none⟩) n _) ?_
 unfold t120
 have hm:bO m sv uv∈L:=hs _ List.mem_cons_self
 have hsl:Sl L sv 3 (ss.flatMap W9):=ok.own.sl.mono fun x hx=>hs x (by simp[hx])
 have hlen:=hsl.els_len H2 (by decide)
 refine ifT rfl (C0 (fun(h0:n≥0)=>A5 rfl (A6 sv (b_s hm) (C0 (fun(h1:n<sv.len)=>?_) (fun(h1: ¬n<sv.len)=>.of ⟨?_,rfl⟩)))) (fun(h0: ¬n≥0)=>.of ⟨?_,rfl⟩))
 ·have hi:n.toNat<ss.length:=by omega
  obtain⟨a,ha,hl⟩:=hsl.el H2 (by decide) hi
  refine A5 rfl (A6 sv (b_s hm) (A5 ha (E0 h0 h1 (A6 ss[n.toNat].bad (hl.one 1 rfl) (.of ⟨?_,rfl⟩)))))
  unfold H1
  rw[List.getElem?_eq_getElem hi,decide_eq_true (show 0<=n by omega)]
  rfl
 ·unfold H1
  rw[List.getElem?_eq_none (by omega)]
  simp
 ·unfold H1
  rw[decide_eq_false (by omega)];rfl
theorem Au4(L:A4)(m:Nat)(ss:List BS)(us:List Int)(A:A4)(hA:BX m ss us A)(hs: ∀x∈A,x∈L)(n:Int):Reads PP 172 #[.q (some ⟨m,0,none⟩),.i n] L (.b (N1 ss us n)):=by
 refine Reads.of (args:=[.q (some ⟨m,0,none⟩),.i n]) B5 B6 Tryz.func172 (e172 (some ⟨m,0,none⟩) n _) ?_
 unfold t172
 refine B7 (B00 _ m ss us A hA hs n) (H1 ss n,()) rfl ?_
 obtain⟨sv,sseg,uv,useg,rfl,ok⟩:=hA
 have hm:bO m sv uv∈L:=hs _ List.mem_cons_self
 have husl:ISl L uv .i64 us:=ok.uown.sl.mono fun x hx=>hs x (by simp[hx])
 refine G7 (fun hg=>?_) (fun hg=>.of ⟨?_,rfl⟩)
 ·have hg':H1 ss n=true:=hg
  have hfew:=ok.few
  refine A5 rfl (A6 uv (b_u hm) (B7 (Cu8 _ uv us husl (by omega) n) (decide (n∈us),()) rfl (.of ⟨?_,rfl⟩)))
  unfold N1
  rw[hg'];rfl
 ·have hg':H1 ss n=false:=hg
  unfold N1
  rw[hg'];rfl
def Ai9{σ:Type}(q:Int->Bool)(step:σ->Int->BS->σ)(s0:σ)(ss:List BS):σ:=ss.zipIdx.foldl (fun s p=>if q p.2 then step s p.2 p.1 else s) s0
theorem A55{σ:Type}(q:Int->Bool)(step:σ->Int->BS->σ)(s0:σ)(ss:List BS)(x:BS):Ai9 q step s0 (ss++[x])=if q ss.length then step (Ai9 q step s0 ss) ss.length x else Ai9 q step s0 ss:=by
 unfold Ai9
 rw[List.zipIdx_append,List.foldl_append]
 simp
theorem B01{σ:Type}(m:Nat)(ss:List BS)(us:List Int)(A:A4)(hA:BX m ss us A)(q:Int->Bool)(step:σ->Int->BS->σ)(ok:Nat->σ->Prop)(hskip: ∀n s,ok n s->ok (n+1) s)(obs:σ->A4)(i1 i2:FuncId)(ho1:Ae2 PP i1=true)(ho2:Ae2 PP i2=true)(caps:Array Value)
  (h1: ∀(L:A4) (n:Int),(∀x∈A,x∈L)->Reads PP i1 #[.q (some ⟨m,0,none⟩),.i n] L (.b (q n)))
  (h2: ∀(s:σ) (n:Nat) (x:BS),n<16->ok n s->0<=x.wear->x.wear<=1000000000->CallF PP i2 (#[.i n,.agg #[.i x.wear,.b x.bad,.b x.dirty]]++caps) (obs s) fun r L'=>r= .t #[]/\L'=obs (step s n x)/\ok (n+1) (step s n x)) (s0:σ) (hs0:ok 0 s0):
  CallF PP 119 #[.q (some ⟨m,0,none⟩),.func (.func i1) #[.q (some ⟨m,0,none⟩)] #[],.func (.func i2) #[] caps] (obs s0++A) fun r L'=>r= .t #[]/\L'=obs (Ai9 q step s0 ss)++A/\ok ss.length (Ai9 q step s0 ss):=by
 have hA':=hA
 obtain⟨sv,sseg,uv,useg,hAe,bok⟩:=hA
 refine CallF.of (args:=[.q (some ⟨m,0,none⟩),.func (.func i1) #[.q (some ⟨m,0,none⟩)] #[],.func (.func i2) #[] caps]) B5 B6 Tryz.func119 (e119 (some ⟨m,0,none⟩) ⟨.func i1,#[.q (some ⟨m,0,none⟩)],#[]⟩ ⟨.func i2,#[],caps⟩ _) ?_
 unfold t119
 have hm: ∀{X:A4},bO m sv uv∈X++A:=fun{X}=>by subst hAe;simp
 have hsl: ∀{X:A4},Sl (X++A) sv 3 (ss.flatMap W9):=fun{X}=>bok.own.sl.mono fun x hx=>by subst hAe;simp[hx]
 have hlen:=(hsl (X:=[])).els_len H2 (by decide)
 have hcnt:=bok.cnt
 refine ifF rfl (A5 rfl (A6 sv (b_s hm) ?_))
 refine G0 (fun k z L'=> ∃i:Nat,i<=ss.length/\k=ss.length-i/\z=((i:Int),())/\L'=obs (Ai9 q step s0 (ss.take i))++A/\ok i (Ai9 q step s0 (ss.take i))) ss.length ⟨0,by omega,by omega,rfl,by simp[Ai9],by simpa[Ai9]using hs0⟩ ?_
 rintro k z L ⟨i,hi,rfl,rfl,rfl,hok⟩
 refine C0 (fun(hlt:(i:Int)<sv.len)=>?_) (fun(hge: ¬(i:Int)<sv.len)=>?_)
 ·have hi':i<ss.length:=by omega
  have hsn:=A55 q step s0 (ss.take i) ss[i]
  rw[<-List.take_succ_eq_append_getElem hi',List.length_take,Nat.min_eq_left hi]at hsn
  have hwr:=bok.wr ss[i] (List.getElem_mem hi')
  obtain⟨a,ha,hl⟩:=(hsl (X:=obs (Ai9 q step s0 (ss.take i)))).el H2 (by decide) hi'
  have hw:IntKind.i64.wrap ((i:Int)+1)=((i+1:Nat):Int):=by rw[C2 (by omega) (by omega)];omega
  refine Z2 ho1 (B7 (h1 _ (i:Int) (fun x hx=>List.mem_append_right _ hx)) (q i,()) rfl ?_)
  refine G7 (fun hq=>?_) (fun hq=>?_)
  ·have hq':q (i:Int)=true:=hq
   rw[if_pos hq']at hsn
   refine A5 rfl (A6 sv (b_s hm) (A5 ha (E0 (show(0:Int)<=(i:Int) by omega) hlt (A6 (ss[i].wear,ss[i].bad,ss[i].dirty,()) (by rw[Int.toNat_natCast];exact hl) (Z2 ho2 ?_)))))
   refine J5 [] A (h2 _ i ss[i] (by omega) hok hwr.1 hwr.2) rfl ?_
   rintro _ _-⟨rfl,rfl,hok'⟩
   refine⟨(),rfl,ss.length-(i+1),by omega,i+1,by omega,rfl,?_,by rw[hsn];rfl,by rw[hsn];exact hok'⟩
   rw[hw]
  ·have hq': ¬q (i:Int)=true:=by rw[show q (i:Int)=false from hq];decide
   rw[if_neg hq']at hsn
   refine⟨ss.length-(i+1),by omega,i+1,by omega,rfl,?_,by rw[hsn],by rw[hsn];exact hskip _ _ hok⟩
   rw[hw]
 ·obtain rfl:i=ss.length:=by omega
  rw[List.take_length]at hok⊢
  exact .of ⟨rfl,rfl,hok⟩
def A63(ss:List BS)(us:List Int):Int:=Ai9 (N1 ss us) (fun(k:Int) _ _=>k+1) 0 ss
theorem Cw6(n1:Nat)(k:Int)(hk:0<=k/\k<=1000000)(n:Int)(x:BS):CallF PP 244 #[.i n,.agg #[.i x.wear,.b x.bad,.b x.dirty],.q (some ⟨n1,0,none⟩)] [(n1,Obj.cells #[.i k] 3)]
  fun r L'=>r= .t #[]/\L'=[(n1,Obj.cells #[.i (k+1)] 3)]:=by
 refine CallF.of (args:=[.i n,.agg #[.i x.wear,.b x.bad,.b x.dirty],.q (some ⟨n1,0,none⟩)]) B5 B6 Tryz.func244 (e244 n (x.wear,x.bad,x.dirty,()) (some ⟨n1,0,none⟩) _) ?_
 unfold t244
 refine C3 fun n2 _=>A5 rfl (A6 k (ldB (n:=n1) (c:=#[.i k]) (T:=3) (fz:=(0,0)) (by simp) rfl) (A5 rfl ?_))
 rw[C2 (by omega) (by omega)]
 exact E3 (n:=n1) (off:=0) (c:=#[.i k]) (T:=3) (fz:=(0,0)) [_] [] rfl rfl (by simp) (.inl (Nat.le_refl _)) #[.i (k+1)] rfl (.cons (.of ⟨rfl,rfl⟩))
theorem Bk5{σ:Type}(q:Int->Bool)(step:σ->Int->BS->σ)(s0:σ)(ss:List BS)(P:Nat->σ->Prop)(h0:P 0 s0)(h: ∀(i:Nat) (hi:i<ss.length) (s:σ),P i s->P (i+1) (if q i then step s i ss[i]else s)):P ss.length (Ai9 q step s0 ss):=by
 have key: ∀k,k<=ss.length->P k (Ai9 q step s0 (ss.take k)):=by
  intro k
  induction k with
  |zero=>intro _;simpa[Ai9]using h0
  |succ k ih=>
   intro hk
   have hsn:=A55 q step s0 (ss.take k) (ss[k]'(by omega))
   rw[<-List.take_succ_eq_append_getElem (by omega),List.length_take,Nat.min_eq_left (by omega)]at hsn
   rw[hsn]
   exact h k (by omega) _ (ih (by omega))
 have:=key ss.length (Nat.le_refl _)
 rwa [List.take_length]at this
theorem Bm3(m:Nat)(ss:List BS)(us:List Int)(A:A4)(hA:BX m ss us A):Reads PP 185 #[.q (some ⟨m,0,none⟩)] A (.i (A63 ss us)):=by
 refine Reads.of (args:=[.q (some ⟨m,0,none⟩)]) B5 B6 Tryz.func185 (e185 (some ⟨m,0,none⟩) _) ?_
 unfold t185
 refine C3 fun n1 _=>E3 [] _ rfl rfl (by simp) (.inl (Nat.le_refl _)) #[.i 0] rfl ?_
 refine J5 [] [] (B01 m ss us A hA (N1 ss us) (fun(k:Int) _ _=>k+1) (fun n k=>0<=k/\k<=n) (fun n s h=>by omega) (fun k=>[(n1,Obj.cells #[.i k] 3)]) 172 244 (by kernel_rfl) (by kernel_rfl) #[.q (some ⟨n1,0,none⟩)]
  (fun L n hs=>Au4 L m ss us A hA hs n) (fun s n x hn hs _ _=>CallF.mono (Cw6 n1 s (by omega) n x) (by rintro r L' _ ⟨rfl,rfl⟩;exact⟨rfl,rfl,by omega⟩)) 0 (by omega)) (by simp) ?_
 rintro _ _-⟨rfl,rfl,hok⟩
 rw[List.append_nil,List.nil_append]
 exact⟨(),rfl,A6 (A63 ss us) (ldB List.mem_cons_self rfl) (.cons (.of ⟨rfl,rfl⟩))⟩
def Z7(s:BS):Int:=if s.dirty then s.wear+1 else s.wear
theorem B03(L:A4)(s:BS)(h:0<=s.wear/\s.wear<=1000000000):Reads PP 251 #[.agg #[.i s.wear,.b s.bad,.b s.dirty]] L (.i (Z7 s)):=by
 refine Reads.of (args:=[.agg #[.i s.wear,.b s.bad,.b s.dirty]]) B5 B6 Tryz.func251 (e251 (s.wear,s.bad,s.dirty,()) _) ?_
 unfold t251
 refine C3 fun n1 _=>A6 s.dirty (ldB List.mem_cons_self rfl) (G7 (fun hd=>A6 s.wear (ldB List.mem_cons_self rfl) (.cons (.of ⟨?_,rfl⟩))) (fun hd=>A6 s.wear (ldB List.mem_cons_self rfl) (.cons (.of ⟨?_,rfl⟩))))
 ·unfold Z7;rw[if_pos hd,C2 (by omega) (by omega)]
 ·unfold Z7;rw[if_neg (by rw[hd];decide)]
abbrev BPk:=Bool×BS×Int
def N6(s:BPk)(n:Int)(x:BS):BPk:=if s.1=false\/Z7 x<Z7 s.2.1 then(true,x,n)else s
def E9(ss:List BS)(us:List Int):BPk:=Ai9 (N1 ss us) N6 (false,bs0,0) ss
def Ak3(n3 n1 n2:Nat)(s:BPk):A4:=[(n3,Obj.cells #[.b s.1] 4),(n1,Obj.cells #[.i s.2.1.wear,.b s.2.1.bad,.b s.2.1.dirty] eSt),(n2,Obj.cells #[.i s.2.2] 3)]
theorem Cs7(n3 n1 n2:Nat)(s:BPk)(hs:0<=s.2.1.wear/\s.2.1.wear<=1000000000)(n:Int)(x:BS)(hx:0<=x.wear/\x.wear<=1000000000):
  CallF PP 250 #[.i n,.agg #[.i x.wear,.b x.bad,.b x.dirty],.q (some ⟨n3,0,none⟩),.q (some ⟨n1,0,none⟩),.q (some ⟨n2,0,none⟩)] (Ak3 n3 n1 n2 s)
  fun r L'=>r= .t #[]/\L'=Ak3 n3 n1 n2 (N6 s n x):=by
 obtain⟨fd,best,at'⟩:=s
 refine CallF.of (args:=[.i n,.agg #[.i x.wear,.b x.bad,.b x.dirty],.q (some ⟨n3,0,none⟩),.q (some ⟨n1,0,none⟩),.q (some ⟨n2,0,none⟩)]) B5 B6 Tryz.func250 (e250 n (x.wear,x.bad,x.dirty,()) (some ⟨n3,0,none⟩) (some ⟨n1,0,none⟩) (some ⟨n2,0,none⟩) _) ?_
 unfold t250 Ak3
 simp only at hs⊢
 refine C3 fun n4 _=>?_
 generalize ho:(n4,Obj.cells #[.i x.wear,.b x.bad,.b x.dirty] eSt)=o4
 have l4: ∀{Z:A4},D4 ⟨n4,0,none⟩ (W9 x) (o4::Z):=by subst ho;exact ldB List.mem_cons_self rfl
 clear ho
 have take:N6 (fd,best,at') n x=(true,x,n)->
   (st ⟨n2,0,none⟩ [.i n]<|keep (D4 ⟨n4,0,none⟩ [.i x.wear,.b x.bad,.b x.dirty])<|A9 (some ⟨n1,0,none⟩) fun a3=>st a3 [.i x.wear,.b x.bad,.b x.dirty]<|A9 (some ⟨n3,0,none⟩) fun a4=>st a4 [.b true]<|
    HL.Ends (fun r L'=>r=Value.t #[]/\L'=[(n3,Obj.cells #[.b (N6 (fd,best,at') n x).1] 4),(n1,Obj.cells #[.i (N6 (fd,best,at') n x).2.1.wear,.b (N6 (fd,best,at') n x).2.1.bad,.b (N6 (fd,best,at') n x).2.1.dirty] eSt),(n2,Obj.cells #[.i (N6 (fd,best,at') n x).2.2] 3)]) (.t #[]))
    (o4::[(n3,Obj.cells #[.b fd] 4),(n1,Obj.cells #[.i best.wear,.b best.bad,.b best.dirty] eSt),(n2,Obj.cells #[.i at'] 3)]):=by
  intro e
  rw[e]
  refine E3 (n:=n2) (off:=0) (c:=#[.i at']) (T:=3) (fz:=(0,0)) [o4,(n3,Obj.cells #[.b fd] 4),(n1,Obj.cells #[.i best.wear,.b best.bad,.b best.dirty] eSt)] [] rfl rfl (by simp) (.inl (Nat.le_refl _)) #[.i n] rfl (F5 l4 (A5 rfl ?_))
  refine E3 (n:=n1) (off:=0) (c:=#[.i best.wear,.b best.bad,.b best.dirty]) (T:=eSt) (fz:=(0,0)) [o4,(n3,Obj.cells #[.b fd] 4)] [(n2,Obj.cells #[.i n] 3)] rfl rfl (by simp) (.inl (Nat.le_refl _)) #[.i x.wear,.b x.bad,.b x.dirty] rfl (A5 rfl ?_)
  exact E3 (n:=n3) (off:=0) (c:=#[.b fd]) (T:=4) (fz:=(0,0)) [o4] [(n1,Obj.cells #[.i x.wear,.b x.bad,.b x.dirty] eSt),(n2,Obj.cells #[.i n] 3)] rfl rfl (by simp) (.inl (Nat.le_refl _)) #[.b true] rfl (.cons (.of ⟨rfl,rfl⟩))
 refine A5 rfl (A6 fd (ldB (n:=n3) (off:=0) (c:=#[.b fd]) (T:=4) (fz:=(0,0)) (by simp) rfl) (G7 (fun hf=>?_) (fun hf=>?_)))
 ·have hf':fd=false:=by simpa using hf
  refine A6 (x.wear,x.bad,x.dirty,()) l4 (A5 rfl (take ?_))
  unfold N6
  rw[if_pos (.inl hf')]
 ·have hf':fd=true:=by simpa using hf
  have lb:D4 ⟨n1,0,none⟩ [.i best.wear,.b best.bad,.b best.dirty] (o4::[(n3,Obj.cells #[.b fd] 4),(n1,Obj.cells #[.i best.wear,.b best.bad,.b best.dirty] eSt),(n2,Obj.cells #[.i at'] 3)]):=ldB (n:=n1) (off:=0) (c:=#[.i best.wear,.b best.bad,.b best.dirty]) (T:=eSt) (fz:=(0,0)) (by simp) rfl
  refine A6 (x.wear,x.bad,x.dirty,()) l4 (A5 rfl (A6 (best.wear,best.bad,best.dirty,()) lb (B7 (B03 _ x hx) (Z7 x,()) rfl (F5 lb (B7 (B03 _ best hs) (Z7 best,()) rfl ?_)))))
  refine C0 (fun(hc:Z7 x<Z7 best)=>?_) (fun(hc: ¬Z7 x<Z7 best)=>.cons (.of ⟨rfl,?_⟩))
  ·refine A6 (x.wear,x.bad,x.dirty,()) l4 (A5 rfl (take ?_))
   unfold N6
   rw[if_pos (.inr hc)]
  ·have:N6 (fd,best,at') n x=(fd,best,at'):=by
    unfold N6
    rw[if_neg]
    rintro(c|c)
    ·rw[hf']at c;cases c
    ·exact hc c
   rw[this]
theorem Cy2(m:Nat)(ss:List BS)(us:List Int)(A:A4)(hA:BX m ss us A):Reads PP 189 #[.q (some ⟨m,0,none⟩)] A (.t #[.i (E9 ss us).2.2,.b (E9 ss us).2.1.dirty,.b (E9 ss us).1]):=by
 refine Reads.of (args:=[.q (some ⟨m,0,none⟩)]) B5 B6 Tryz.func189 (e189 (some ⟨m,0,none⟩) _) ?_
 unfold t189
 refine C3 fun n1 _=>C3 fun n2 _=>C3 fun n3 _=>?_
 refine E3 (n:=n2) (off:=0) (c:=#[.i 0]) (T:=3) (fz:=(0,0)) [(n3,Obj.cells #[.b false] 4)] ((n1,Obj.cells #[.i 0,.b false,.b false] eSt)::A) rfl rfl (by simp) (.inl (Nat.le_refl _)) #[.i 0] rfl ?_
 refine E3 (n:=n3) (off:=0) (c:=#[.b false]) (T:=4) (fz:=(0,0)) [] ((n2,Obj.cells #[.i 0] 3)::(n1,Obj.cells #[.i 0,.b false,.b false] eSt)::A) rfl rfl (by simp) (.inl (Nat.le_refl _)) #[.b false] rfl ?_
 refine G5 (R:=[]) (B01 m ss us A hA (N1 ss us) N6 (fun _ s=>0<=s.2.1.wear/\s.2.1.wear<=1000000000) (fun n s h=>h) (Ak3 n3 n1 n2) 172 250 (by kernel_rfl) (by kernel_rfl) #[.q (some ⟨n3,0,none⟩),.q (some ⟨n1,0,none⟩),.q (some ⟨n2,0,none⟩)]
  (fun L n hs=>Au4 L m ss us A hA hs n) (fun s n x hn hs a b=>CallF.mono (Cs7 n3 n1 n2 s hs n x ⟨a,b⟩) ?_) (false,bs0,0) (by decide)) ?_ ?_
 ·rintro r L' _ ⟨rfl,rfl⟩
  refine⟨rfl,rfl,?_⟩
  unfold N6
  split
  ·exact⟨a,b⟩
  ·exact hs
 ·rw[List.append_nil]
  unfold Ak3 bs0
  exact List.Perm.cons _ (List.Perm.swap _ _ _)
 rintro _ _ ⟨rfl,rfl,hok⟩
 refine⟨_,.refl _,(),rfl,?_⟩
 show HL.ld _ _ _ (Ak3 n3 n1 n2 (E9 ss us)++A++[])
 rw[List.append_nil]
 generalize E9 ss us=s
 unfold Ak3
 refine A6 s.2.2 (ldB (n:=n2) (off:=0) (c:=#[.i s.2.2]) (T:=3) (fz:=(0,0)) (by simp) rfl) (A6 s.2.1.dirty (ldB (n:=n1) (off:=2) (c:=#[.i s.2.1.wear,.b s.2.1.bad,.b s.2.1.dirty]) (T:=eSt) (fz:=(0,0)) (by simp) rfl) (A6 s.1 (ldB (n:=n3) (off:=0) (c:=#[.b s.1]) (T:=4) (fz:=(0,0)) (by simp) rfl) ?_))
 exact .cons (.cons (.cons (.of ⟨rfl,rfl⟩)))
theorem B52(m:Nat)(ss:List BS)(us:List Int)(A:A4)(hA:BX m ss us A):Reads PP 245 #[.q (some ⟨m,0,none⟩)] A (.t #[.i (us.headD 0),.b (decide (us≠[]))]):=by
 obtain⟨sv,sseg,uv,useg,rfl,ok⟩:=hA
 refine Reads.of (args:=[.q (some ⟨m,0,none⟩)]) B5 B6 Tryz.func245 (e245 (some ⟨m,0,none⟩) _) ?_
 unfold t245
 have hm:bO m sv uv∈bO m sv uv::(sseg++useg):=List.mem_cons_self
 have husl:ISl (bO m sv uv::(sseg++useg)) uv .i64 us:=ok.uown.sl.right.cons
 have hlen:=husl.len
 refine ifF rfl (A5 rfl (A6 uv (b_u hm) (Aa4 (fun h0=>.of ⟨?_,rfl⟩) (fun h0=>?_))))
 ·cases us with
  |nil=>rfl
  |cons x r=>rw[List.length_cons]at hlen;have h0':(uv.len:Int)=0:=h0;omega
 ·cases us with
  |nil=>exact absurd (show(uv.len:Int)=0 by simp at hlen;omega) h0
  |cons x r=>
   obtain⟨a,ha⟩:=husl.some (i:=0) (by simp)
   rw[List.length_cons]at hlen
   exact A5 rfl (A6 uv (b_u hm) (A5 ha (E0 (by decide) (by omega) (A6 x (husl.rd (i:=0) (by simp) ha _ rfl) (.of ⟨by simp,rfl⟩)))))
def Af1(ss:List BS)(us:List Int)(n:Int):Bool:=N1 ss us n&&(match ss[n.toNat]? with|some s=> !s.dirty|none=>false)
theorem M8{ss:List BS}{n:Int}(h:H1 ss n=true):0<=n/\ ∃hi:n.toNat<ss.length,ss[n.toNat].bad=false:=by
 unfold H1 at h
 rw[Bool.and_eq_true]at h
 obtain⟨h1,h2⟩:=h
 refine⟨of_decide_eq_true h1,?_⟩
 split at h2
 ·rename_i s hs
  obtain⟨hi,he⟩:=List.getElem?_eq_some_iff.1 hs
  exact⟨hi,by rw[he];simpa using h2⟩
 ·cases h2
theorem H9{ss:List BS}{us:List Int}{n:Int}(h:N1 ss us n=true):H1 ss n=true/\n∉us:=by
 unfold N1 at h
 rw[Bool.and_eq_true]at h
 exact⟨h.1,by simpa using h.2⟩
theorem B51(m:Nat)(ss:List BS)(us:List Int)(A:A4)(hA:BX m ss us A)(hf:us.length<100000)(n:Int):CallF PP 255 #[.q (some ⟨m,0,none⟩),.i n] A
  fun r L'=>r= .b (Af1 ss us n)/\BX m ss (if Af1 ss us n=true then us++[n]else us) L':=by
 have hA':=hA
 obtain⟨sv,sseg,uv,useg,rfl,ok⟩:=hA
 refine CallF.of (args:=[.q (some ⟨m,0,none⟩),.i n]) B5 B6 Tryz.func255 (e255 (some ⟨m,0,none⟩) n _) ?_
 unfold t255
 have hm:bO m sv uv∈bO m sv uv::(sseg++useg):=List.mem_cons_self
 refine B7 (Au4 _ m ss us _ hA' (fun x hx=>hx) n) (N1 ss us n,()) rfl ?_
 cases hfr:N1 ss us n with
 |false=>
  have:Af1 ss us n=false:=by unfold Af1;rw[hfr];rfl
  rw[this]
  exact ifT rfl (.of ⟨rfl,hA'⟩)
 |true=>
  obtain⟨h0,hi,hb⟩:=M8 (H9 hfr).1
  have hsl:Sl (bO m sv uv::(sseg++useg)) sv 3 (ss.flatMap W9):=ok.own.sl.left.cons
  have hlen:=hsl.els_len H2 (by decide)
  obtain⟨a,ha,hl⟩:=hsl.el H2 (by decide) hi
  have hop:Af1 ss us n= !ss[n.toNat].dirty:=by unfold Af1;rw[hfr,List.getElem?_eq_getElem hi];rfl
  refine ifF rfl (A5 rfl (A6 sv (b_s hm) (A5 ha (E0 h0 (show n<sv.len by omega) (A6 ss[n.toNat].dirty (hl.one 2 rfl) ?_)))))
  rw[hop]
  refine G7 (fun hd=>?_) (fun hd=>?_)
  ·have hd':ss[n.toNat].dirty=true:=hd
   rw[hd']
   exact .of ⟨rfl,hA'⟩
  ·have hd':ss[n.toNat].dirty=false:=hd
   rw[hd']
   refine A5 rfl (A6 uv (b_u hm) (C3 fun n1 _=>?_))
   have hul:=ok.uown.sl.len
   rw[K8]at hul
   have hsrc: ∀{Z:A4},Sl ((n1,Obj.cells #[.i n] Bk6)::Z) ⟨some ⟨n1,0,none⟩,1,1⟩ 1 (ivs .i64 [n]):=fun{Z}=>⟨rfl,Nat.le_refl _,.inr ⟨_,rfl,ldB List.mem_cons_self rfl⟩⟩
   refine E6 Ap9 Be5 ((n1,Obj.cells #[.i n] Bk6)::bO m sv uv::sseg) [] ok.uown (by simp) (.sl hsrc) (Ag6 _ _) (by first|omega|(simp only;omega)) fun v2 seg2 hv2 own2=>A5 rfl ?_
   rw[<-U6]at own2
   refine E3 (n:=m) (off:=1) (c:=#[.slice sv.a sv.len sv.cap,.slice uv.a uv.len uv.cap]) (T:=259) (fz:=(0,0)) [(n1,Obj.cells #[.i n] Bk6)] (sseg++seg2) rfl (by simp[bO]) (by simp) (.inl (Nat.le_refl _)) #[.slice sv.a sv.len sv.cap,.slice v2.a v2.len v2.cap] rfl ?_
   exact .cons (.of ⟨rfl,sv,sseg,v2,seg2,rfl,ok.own,own2,ok.cnt,(by show(us++[n]).length<=100000;rw[List.length_append];simp only[List.length_cons,List.length_nil];omega),ok.wr⟩)
def Ad5(ss:List BS)(n:Int)(g:BS->BS):List BS:=ss.modify n.toNat g
theorem Bc3{ss:List BS}{n:Int}(hi:n.toNat<ss.length)(g:BS->BS):Ad5 ss n g=ss.take n.toNat++g ss[n.toNat]::ss.drop (n.toNat+1):=by
 unfold Ad5
 rw[List.modify_eq_take_cons_drop hi]
theorem Dc1(us:List Int)(n:Int):(iwo us n).length<=us.length:=List.length_filter_le ..
theorem Cy1(m:Nat)(ss:List BS)(us:List Int)(A:A4)(hA:BX m ss us A)(n:Int)(i:FuncId)(hio:Ae2 PP i=true)(caps:Array Value)(obs:A4)(g:BS->BS)(hg: ∀s∈ss,0<=(g s).wear/\(g s).wear<=1000000000)
  (h: ∀(v:SlV) (seg:A4) (j:Nat) (a:Addr) (hj:j<ss.length),Own v 3 eSt (ss.flatMap W9) seg->v.a=some a->CallF PP i (#[.q (some (a.add (j*3)))]++caps) (obs++seg) fun r L'=>r= .t #[]/\ ∃seg',L'=obs++seg'/\Own v 3 eSt ((ss.take j++g ss[j]::ss.drop (j+1)).flatMap W9) seg'):
  CallF PP 299 #[.q (some ⟨m,0,none⟩),.i n,.func (.func i) #[] caps] (obs++A)
   fun r L'=>r= .b (H1 ss n)/\ ∃A',L'=obs++A'/\BX m (if H1 ss n=true then Ad5 ss n g else ss) (if H1 ss n=true then iwo us n else us) A':=by
 have hA':=hA
 obtain⟨sv,sseg,uv,useg,rfl,ok⟩:=hA
 refine CallF.of (args:=[.q (some ⟨m,0,none⟩),.i n,.func (.func i) #[] caps]) B5 B6 Tryz.func299 (e299 (some ⟨m,0,none⟩) n ⟨.func i,#[],caps⟩ _) ?_
 unfold t299
 refine C3 fun n1 _=>A6 n (ldB List.mem_cons_self rfl) ?_
 refine B7 (B00 _ m ss us _ hA' (fun x hx=>by simp at hx⊢;simp[hx]) n) (H1 ss n,()) rfl ?_
 cases hgd:H1 ss n with
 |false=>
  refine ifT rfl (.cons (.of ⟨rfl,_,rfl,?_⟩))
  simpa using hA'
 |true=>
  obtain⟨h0,hi,hb⟩:=M8 hgd
  have hlen:=ok.own.sl.els_len H2 (by decide)
  have hfew:=ok.few
  refine ifF rfl (A5 rfl (A6 uv (b_u (sv:=sv) (by simp)) ?_))
  refine G5 (R:=obs++(bO m sv uv::sseg)) (Cu9 uv us useg ok.uown (by omega) n n1) ?_ ?_
  ·classical
   rw[List.perm_iff_count]
   intro x
   simp only[List.append_eq,List.cons_append,List.count_append,List.count_cons,List.count_nil]
   omega
  rintro _ _ ⟨u2,useg2,rfl,rfl,uown2⟩
  generalize ho1:(n1,Obj.cells #[.i n] 3)=o1
  have l1: ∀{Z:A4},D4 ⟨n1,0,none⟩ [.i n] (o1::Z):=by subst ho1;exact ldB List.mem_cons_self rfl
  refine⟨(o1::obs)++bO m sv uv::(sseg++useg2),?_,(u2,()),rfl,A5 rfl ?_⟩
  ·classical
   rw[List.perm_iff_count]
   intro x
   simp only[List.append_eq,List.cons_append,List.count_append,List.count_cons,List.count_nil]
   omega
  refine E3 (n:=m) (off:=1) (c:=#[.slice sv.a sv.len sv.cap,.slice uv.a uv.len uv.cap]) (T:=259) (fz:=(0,0)) (o1::obs) (sseg++useg2) rfl (by simp[bO]) (by simp) (.inl (Nat.le_refl _)) #[.slice sv.a sv.len sv.cap,.slice u2.a u2.len u2.cap] rfl ?_
  obtain⟨a,ha,_⟩:=ok.own.sl.el H2 (by decide) hi
  refine A5 rfl (A6 sv (b_s (m:=m) (uv:=u2) (by unfold bO;simp)) (A6 n l1 (A5 ha (E0 h0 (show n<sv.len by omega) (Z2 hio ?_)))))
  refine G5 (R:=o1::bO m sv u2::useg2) (h sv sseg n.toNat a hi ok.own ha) ?_ ?_
  ·unfold bO
   classical
   rw[List.perm_iff_count]
   intro x
   simp only[List.append_eq,List.cons_append,List.count_append,List.count_cons,List.count_nil]
   omega
  rintro _ _ ⟨rfl,sseg2,rfl,own2⟩
  refine⟨o1::(obs++(bO m sv u2::(sseg2++useg2))),?_,(),rfl,?_⟩
  ·classical
   rw[List.perm_iff_count]
   intro x
   simp only[List.append_eq,List.cons_append,List.count_append,List.count_cons,List.count_nil]
   omega
  rw[<-Bc3 hi]at own2
  refine .cons (.of ⟨rfl,_,rfl,?_⟩)
  simp only[if_true]
  have hil:=Dc1 us n
  refine⟨sv,sseg2,u2,useg2,rfl,own2,uown2,by unfold Ad5;rw[List.length_modify];exact ok.cnt,by omega,fun s hs=>?_⟩
  rw[Bc3 hi]at hs
  rcases List.mem_append.1 hs with h1|h1
  ·exact ok.wr s (List.mem_of_mem_take h1)
  ·rcases List.mem_cons.1 h1 with rfl|h2
   ·exact hg _ (List.getElem_mem hi)
   ·exact ok.wr s (List.mem_of_mem_drop h2)
theorem Dg2(a:Addr)(i k:Nat):Addr.add (a.add i) k=a.add (i+k):=by
 unfold Addr.add
 by_cases h1:i=0<;>by_cases h2:k=0<;>simp[h1,h2,Nat.add_assoc]
theorem By7(p s:List BS)(x x':BS)(k:Nat)(hk:k<3)(w:Value)(hx:(W9 x).set k w=W9 x'):A18 ((p++x::s).flatMap W9) (p.length*3+k) [w]=(p++x'::s).flatMap W9:=by
 have hp:(p.flatMap W9).length=p.length*3:=N7 H2 p
 rw[Al7 (by rw[N7 H2,List.length_append,List.length_cons];omega)]
 rw[List.flatMap_append,List.flatMap_append,List.flatMap_cons,List.flatMap_cons,<-hx,List.set_append_right _ _ (by omega),hp,show p.length*3+k-p.length*3=k by omega,List.set_append_left _ _ (by rw[H2];exact hk)]
def T9(bad:Bool)(s:BS):BS:=⟨s.wear+1,bad,false⟩
def Aa5(s:BS):BS:={s with dirty:=false}
theorem B45(ss:List BS)(hw: ∀s∈ss,0<=s.wear/\s.wear<=1000000000)(bad:Bool)(n1:Nat)(v:SlV)(seg:A4)(j:Nat)(a:Addr)(hj:j<ss.length)(own:Own v 3 eSt (ss.flatMap W9) seg)(ha:v.a=some a):
  CallF PP 300 #[.q (some (a.add (j*3))),.q (some ⟨n1,0,none⟩)] ([(n1,Obj.cells #[.b bad] 4)]++seg)
   fun r L'=>r= .t #[]/\ ∃seg',L'=[(n1,Obj.cells #[.b bad] 4)]++seg'/\Own v 3 eSt ((ss.take j++T9 bad ss[j]::ss.drop (j+1)).flatMap W9) seg':=by
 refine CallF.of (args:=[.q (some (a.add (j*3))),.q (some ⟨n1,0,none⟩)]) B5 B6 Tryz.func300 (e300 (some (a.add (j*3))) (some ⟨n1,0,none⟩) _) ?_
 unfold t300
 have hx:=hw ss[j] (List.getElem_mem hj)
 have hs:ss=ss.take j++ss[j]::ss.drop (j+1):=by rw[<-List.drop_eq_getElem_cons hj,List.take_append_drop]
 have hpj:(ss.take j).length=j:=by rw[List.length_take];omega
 generalize ss.take j=p at hs hpj⊢
 generalize ss.drop (j+1)=t at hs⊢
 generalize ss[j]=x at hs hx⊢
 subst hs
 have hl: ∀(y:BS),((p++y::t).flatMap W9).length=(p.length+1+t.length)*3:=fun y=>by rw[N7 H2,List.length_append,List.length_cons];congr 1;omega
 have hld:=own.sl.el H2 (by decide) (i:=p.length) (by simp)
 obtain⟨a',ha',hld⟩:=hld
 rw[ha]at ha'
 obtain rfl:=Option.some.inj ha'
 rw[show(p++x::t)[p.length]'(by simp)=x by simp,hpj]at hld
 generalize ho:(n1,Obj.cells #[.b bad] 4)=o1
 have lb: ∀{Z:A4},D4 ⟨n1,0,none⟩ [.b bad] (o1::Z):=by subst ho;exact ldB List.mem_cons_self rfl
 clear ho
 refine A5 rfl (A6 x.wear ?_ (A5 rfl ?_))
 ·exact(hld.mono fun _ hx=>List.mem_append_right _ hx).pre fun i u hu=>by cases i with|zero=>exact hu|succ i=>exact absurd (show(none:Option Value)=some u from hu) (by simp)
 rw[C2 (by omega) (by omega)]
 refine own.st [o1] [] (p:=j*3+0) (by rw[hl];simp only[List.length_cons,List.length_nil];omega) (by simp) ha rfl (by simp) fun seg1 own1=>?_
 rw[<-hpj,By7 p t x ⟨x.wear+1,x.bad,x.dirty⟩ 0 (by decide) _ rfl]at own1
 refine A5 rfl (A6 bad lb (A5 rfl ?_))
 refine own1.st [o1] [] (p:=j*3+1) (by rw[hl];simp only[List.length_cons,List.length_nil];omega) (by simp) ha (Dg2 a (j*3) 1) rfl fun seg2 own2=>?_
 rw[<-hpj,By7 p t ⟨x.wear+1,x.bad,x.dirty⟩ ⟨x.wear+1,bad,x.dirty⟩ 1 (by decide) _ rfl]at own2
 refine A5 rfl (own2.st [o1] [] (p:=j*3+2) (by rw[hl];simp only[List.length_cons,List.length_nil];omega) (by simp) ha (Dg2 a (j*3) 2) rfl fun seg3 own3=>?_)
 rw[<-hpj,By7 p t ⟨x.wear+1,bad,x.dirty⟩ ⟨x.wear+1,bad,false⟩ 2 (by decide) _ rfl]at own3
 rw[List.append_nil]
 exact .of ⟨rfl,seg3,rfl,own3⟩
theorem B54(m:Nat)(ss:List BS)(us:List Int)(A:A4)(hA:BX m ss us A)(hw: ∀s∈ss,0<=s.wear/\s.wear<=900000000)(n:Int)(bad:Bool):CallF PP 253 #[.q (some ⟨m,0,none⟩),.i n,.b bad] A
  fun r L'=>r= .b (H1 ss n)/\BX m (if H1 ss n=true then Ad5 ss n (T9 bad)else ss) (if H1 ss n=true then iwo us n else us) L':=by
 refine CallF.of (args:=[.q (some ⟨m,0,none⟩),.i n,.b bad]) B5 B6 Tryz.func253 (e253 (some ⟨m,0,none⟩) n bad _) ?_
 unfold t253
 refine C3 fun n1 _=>?_
 refine J5 [] [] (Cy1 m ss us A hA n 300 (by kernel_rfl) #[.q (some ⟨n1,0,none⟩)] [(n1,Obj.cells #[.b bad] 4)] (T9 bad) (fun s hs=>by have:=hw s hs;unfold T9;simp only;omega)
  (fun v seg j a hj own ha=>B45 ss (fun s hs=>by have:=hw s hs;omega) bad n1 v seg j a hj own ha)) (by simp) ?_
 rintro _ _-⟨rfl,A',rfl,hA'⟩
 rw[List.append_nil]
 exact⟨(H1 ss n,()),rfl,.cons (.of ⟨rfl,hA'⟩)⟩
def Aq1:List BS->List Int->List Int->Option (List BS×List Int)
 |ss,us,[]=>some (ss,us)
 |ss,us,n::r=>if N1 ss us n=true then Aq1 (Ad5 ss n Aa5) (us++[n]) r else none
def Bl7(ss:List BS):Bool:=ss.all fun s=>decide (0<=s.wear/\s.wear<=1048576)
def Ah3(ss:List BS)(used:List Int):Option (List BS×List Int):=if 1<=ss.length/\ss.length<=16/\Bl7 ss=true then Aq1 ss [] used else none
theorem Bc2(ss:List BS)(n:Int)(g:BS->BS):(Ad5 ss n g).length=ss.length:=List.length_modify ..
theorem Bh3: ∀(k:Nat) (l:List Int),l.Nodup->(∀x∈l,0<=x/\x<k)->l.length<=k
 |0,l,_,h=>by
  cases l with
  |nil=>simp
  |cons x r=>have:=h x (by simp);omega
 |k+1,l,hn,h=>by
  have h1:=Bh3 k (l.erase (k:Int)) (hn.erase _) (fun x hx=>by
   rw[hn.mem_erase_iff]at hx
   have:=h x hx.2
   have:=hx.1
   omega)
  by_cases hk:(k:Int)∈l
  ·rw[List.length_erase_of_mem hk]at h1;omega
  ·rw[List.erase_of_not_mem hk]at h1;omega
def bus(ss:List BS)(us:List Int):Prop:=us.Nodup/\ ∀x∈us,0<=x/\x<ss.length
theorem Bs6{ss:List BS}{us:List Int}(h:bus ss us):us.length<=ss.length:=Bh3 _ _ h.1 h.2
theorem Bz7{ss:List BS}{us:List Int}(h:bus ss us){n:Int}(hf:N1 ss us n=true):bus ss (us++[n]):=by
 obtain⟨h1,h2⟩:=H9 hf
 obtain⟨h0,hi,_⟩:=M8 h1
 refine⟨?_,fun x hx=>?_⟩
 ·rw[List.nodup_append]
  exact⟨h.1,by simp,fun a ha b hb=>by rw[List.mem_singleton.1 hb];rintro rfl;exact h2 ha⟩
 ·rcases List.mem_append.1 hx with h3|h3
  ·exact h.2 x h3
  ·rw[List.mem_singleton.1 h3];omega
theorem Ck5{ss:List BS}(h:Bl7 ss=true): ∀s∈ss,0<=s.wear/\s.wear<=1048576:=by
 unfold Bl7 at h
 rw[List.all_eq_true]at h
 intro s hs
 simpa using h s hs
def A09(ss:List BS)(used:List Int)(A:A4)(v:Value)(L':A4):Prop:=match Ah3 ss used with
 |none=>v= .t #[.q none,.i 2]/\L'=A
 |some r=> ∃(m:Nat) (B:A4),v= .t #[.q (some ⟨m,0,none⟩),.i 0]/\L'=B++A/\BX m r.1 r.2 B/\bus r.1 r.2
theorem A09.bad{ss:List BS}{used:List Int}{A:A4}(h:Ah3 ss used=none):A09 ss used A (.t #[.q none,.i 2]) A:=by
 unfold A09
 rw[h]
 exact⟨rfl,rfl⟩
theorem Df7(A:A4)(v:SlV)(ss:List BS)(hv:Sl A v 3 (ss.flatMap W9))(u:SlV)(used:List Int)(hu:ISl A u .i64 used)(hul:used.length<=9223372036854775807):CallF PP 99 #[.slice v.a v.len v.cap,.slice u.a u.len u.cap] A (A09 ss used A):=by
 refine CallF.of (args:=[.slice v.a v.len v.cap,.slice u.a u.len u.cap]) B5 B6 Tryz.func99 (e99 v u _) ?_
 unfold t99
 have hvl:=hv.els_len H2 (by decide)
 have hulen:=hu.len
 refine C0 (fun(h1:(v.len:Int)<1)=>.of (A09.bad (by unfold Ah3;rw[if_neg (by omega)]))) (fun(h1: ¬(v.len:Int)<1)=>?_)
 refine C0 (fun(h2:(v.len:Int)>16)=>.of (A09.bad (by unfold Ah3;rw[if_neg (by omega)]))) (fun(h2: ¬(v.len:Int)>16)=>?_)
 refine J5 [] [] (B13 A v ss hv (by omega)) (by simp) ?_
 rintro _ _-⟨sv,sseg,rfl,rfl,sown⟩
 rw[List.append_nil,List.nil_append]
 refine⟨(sv,()),rfl,C3 fun m _=>?_⟩
 refine G0 (fun k z L'=> ∃(i:Nat) (J:A4),i<=ss.length/\k=ss.length-i/\z=((i:Int),())/\L'=J++(bO m sv ⟨none,0,0⟩::(sseg++A))/\ ∀s∈ss.take i,0<=s.wear/\s.wear<=1048576) ss.length ⟨0,[],by omega,by omega,rfl,rfl,by simp⟩ ?_
 rintro k z L' ⟨i,J,hi,rfl,rfl,rfl,hall⟩
 refine C0 (fun(hlt:(i:Int)<v.len)=>?_) (fun(hge: ¬(i:Int)<v.len)=>?_)
 ·have hi':i<ss.length:=by omega
  have hv':Sl (J++(bO m sv ⟨none,0,0⟩::(sseg++A))) v 3 (ss.flatMap W9):=hv.right.cons.right
  obtain⟨a,ha,hl⟩:=hv'.el H2 (by decide) hi'
  refine A5 ha (E0 (show(0:Int)<=(i:Int) by omega) hlt (A6 (ss[i].wear,ss[i].bad,ss[i].dirty,()) (by rw[Int.toNat_natCast];exact hl) ?_))
  have hbad: ¬(0<=ss[i].wear/\ss[i].wear<=1048576)->Ah3 ss used=none:=by
   intro hc
   unfold Ah3
   rw[if_neg]
   rintro⟨_,_,h3⟩
   exact hc (Ck5 h3 _ (List.getElem_mem hi'))
  have htk: ∀(h:0<=ss[i].wear/\ss[i].wear<=1048576),∀s∈ss.take (i+1),0<=s.wear/\s.wear<=1048576:=by
   intro h s hs
   rw[List.take_succ_eq_append_getElem hi']at hs
   rcases List.mem_append.1 hs with h3|h3
   ·exact hall s h3
   ·rw[List.mem_singleton.1 h3];exact h
  generalize ss[i]=x at hbad htk⊢
  refine C3 fun n2 _=>E3 [] _ rfl rfl (by simp) (.inl (Nat.le_refl _)) #[.i x.wear,.b x.bad,.b x.dirty] rfl ?_
  rw[List.nil_append]
  refine A6 x.wear (ldB List.mem_cons_self rfl) (C0 (fun(hc:x.wear<0)=>.cons (.app (.cons (.app (.of (A09.bad (hbad (by omega)))))))) (fun(hc: ¬x.wear<0)=>?_))
  refine A6 x.wear (ldB List.mem_cons_self rfl) (C0 (fun(hc2:x.wear>1048576)=>.cons (.app (.cons (.app (.of (A09.bad (hbad (by omega)))))))) (fun(hc2: ¬x.wear>1048576)=>?_))
  refine⟨ss.length-(i+1),by omega,i+1,(n2,Obj.cells #[.i x.wear,.b x.bad,.b x.dirty] eSt)::J,by omega,rfl,?_,rfl,htk (by omega)⟩
  rw[C2 (by first|omega|(simp only;omega)) (by first|omega|(simp only;omega))]
  rfl
 ·obtain rfl:i=ss.length:=by omega
  rw[List.take_length]at hall
  have hbw:Bl7 ss=true:=by unfold Bl7;rw[List.all_eq_true];intro s hs;simpa using hall s hs
  have hR:Ah3 ss used=Aq1 ss [] used:=by unfold Ah3;rw[if_pos ⟨by omega,by omega,hbw⟩]
  refine G0 (fun k z L'=> ∃(i:Nat) (J:A4) (cs:List BS) (us:List Int) (sseg useg:A4) (uv:SlV),i<=used.length/\k=used.length-i/\z=((i:Int),())/\L'=J++(bO m sv uv::(sseg++useg))++A/\BOk sv sseg cs uv useg us/\bus cs us/\cs.length=ss.length/\Aq1 ss [] used=Aq1 cs us (used.drop i)) used.length
   ⟨0,J,ss,[],sseg,[],⟨none,0,0⟩,by omega,by omega,rfl,by simp,⟨sown,own_z,by omega,by simp,fun s hs=>by have:=hall s hs;omega⟩,⟨by simp,by simp⟩,rfl,rfl⟩ ?_
  rintro k z L' ⟨i,J,cs,us,sseg,useg,uv,hi,rfl,rfl,rfl,ok,hb,hcl,hU⟩
  refine C0 (fun(hlt:(i:Int)<u.len)=>?_) (fun(hge: ¬(i:Int)<u.len)=>?_)
  ·have hi':i<used.length:=by omega
   have hu':ISl (J++(bO m sv uv::(sseg++useg))++A) u .i64 used:=hu.right
   obtain⟨a,ha⟩:=hu'.some hi'
   have hdr:=List.drop_eq_getElem_cons hi'
   rw[hdr]at hU
   refine A5 ha (E0 (show(0:Int)<=(i:Int) by omega) hlt (A6 used[i] (hu'.rd hi' ha _ (by simp)) ?_))
   generalize used[i]=n at hU⊢
   have hBX:BX m cs us (bO m sv uv::(sseg++useg)):=⟨sv,sseg,uv,useg,rfl,ok⟩
   refine B7 (Au4 _ m cs us _ hBX (fun x hx=>List.mem_append_left _ (List.mem_append_right _ hx)) n) (N1 cs us n,()) rfl ?_
   cases hfr:N1 cs us n with
   |false=>
    refine ifT rfl (.app (.of (A09.bad ?_)))
    rw[hR,hU]
    unfold Aq1
    rw[if_neg (by rw[hfr];decide)]
   |true=>
    have hU2:Aq1 ss [] used=Aq1 (Ad5 cs n Aa5) (us++[n]) (used.drop (i+1)):=by
     rw[hU]
     conv=>lhs;unfold Aq1
     rw[if_pos hfr]
    obtain⟨h0,hin,_⟩:=M8 (H9 hfr).1
    have hslen:=ok.own.sl.els_len H2 (by decide)
    have hulen2:=ok.uown.sl.len
    rw[K8,Nat.mul_one]at hulen2
    obtain⟨b,hb',_⟩:=ok.own.sl.el H2 (by decide) hin
    have hfew:=Bs6 hb
    refine ifF rfl (A6 sv (b_s (uv:=uv) (by simp)) (A5 hb' (E0 h0 (show n<sv.len by omega) ?_)))
    refine ok.own.st (J++[bO m sv uv]) (useg++A) (p:=n.toNat*3+2) (by rw[N7 H2];simp only[List.length_cons,List.length_nil];omega) (by simp) hb' (Dg2 b (n.toNat*3) 2) (by simp) fun sseg2 own2=>?_
    have hsplit:cs=cs.take n.toNat++cs[n.toNat]::cs.drop (n.toNat+1):=by rw[<-List.drop_eq_getElem_cons hin,List.take_append_drop]
    have hplen:(cs.take n.toNat).length=n.toNat:=by rw[List.length_take];omega
    have hput:=By7 (cs.take n.toNat) (cs.drop (n.toNat+1)) cs[n.toNat] (Aa5 cs[n.toNat]) 2 (by decide) (.b false) rfl
    rw[<-hsplit,hplen,<-Bc3 hin]at hput
    rw[hput]at own2
    refine A6 uv (b_u (sv:=sv) (by simp)) (C3 fun n3 _=>?_)
    have hsrc: ∀{Z:A4},Sl ((n3,Obj.cells #[.i n] Bk6)::Z) ⟨some ⟨n3,0,none⟩,1,1⟩ 1 (ivs .i64 [n]):=fun{Z}=>⟨rfl,Nat.le_refl _,.inr ⟨_,rfl,ldB List.mem_cons_self rfl⟩⟩
    have hcnt:=ok.cnt
    refine E6 Ap9 Be5 ((n3,Obj.cells #[.i n] Bk6)::(J++(bO m sv uv::sseg2))) A ok.uown (by simp) (.sl hsrc) (Ag6 _ _) (by first|omega|(simp only;omega)) fun v2 seg2 hv2 uown2=>?_
    rw[<-U6]at uown2
    refine E3 (n:=m) (off:=1) (c:=#[.slice sv.a sv.len sv.cap,.slice uv.a uv.len uv.cap]) (T:=259) (fz:=(0,0)) ((n3,Obj.cells #[.i n] Bk6)::J) (sseg2++(seg2++A)) rfl (by simp[bO]) (by simp) (.inl (Nat.le_refl _)) #[.slice sv.a sv.len sv.cap,.slice v2.a v2.len v2.cap] rfl ?_
    have hbus:=Bz7 hb hfr
    have hml:=Bc2 cs n Aa5
    refine⟨used.length-(i+1),by omega,i+1,(n3,Obj.cells #[.i n] Bk6)::J,Ad5 cs n Aa5,us++[n],sseg2,seg2,v2,by omega,rfl,?_,by simp[bO],⟨own2,uown2,by omega,by have:=Bs6 hbus;omega,fun s hs=>?_⟩,⟨hbus.1,fun x hx=>by rw[hml];exact hbus.2 x hx⟩,by omega,hU2⟩
    ·rw[C2 (by first|omega|(simp only;omega)) (by first|omega|(simp only;omega))]
     rfl
    ·rw[Bc3 hin]at hs
     rcases List.mem_append.1 hs with h3|h3
     ·exact ok.wr s (List.mem_of_mem_take h3)
     ·rcases List.mem_cons.1 h3 with rfl|h4
      ·exact ok.wr cs[n.toNat] (List.getElem_mem hin)
      ·exact ok.wr s (List.mem_of_mem_drop h4)
  ·obtain rfl:i=used.length:=by omega
   rw[List.drop_length]at hU
   have hRR:Ah3 ss used=some (cs,us):=by rw[hR,hU];rfl
   rw[List.append_assoc]
   refine .app (.of ?_)
   unfold A09
   rw[hRR]
   exact⟨m,_,rfl,rfl,⟨sv,sseg,uv,useg,rfl,ok⟩,hb⟩
def cut(n m:Int):Int:=if n<0 then 0 else if m<n then m else n
theorem Ab2(n m:Int)(h:0<=m):0<=cut n m/\cut n m<=m:=by unfold cut;split<;>(try split)<;>omega
theorem A56(n m:Int)(h:0<=n)(h2:n<=m):cut n m=n:=by unfold cut;split<;>(try split)<;>omega
theorem Cv8(n m:Int)(h:0<=m):Z6 (Ab3 n m) 0=cut n m:=by unfold cut Z6 Ab3;split<;>split<;>(try split)<;>(try split)<;>omega
structure Bk where
 rate:Int
 last:Int
 burst:Int
 tokens:Int
structure Bk.Ok(b:Bk):Prop where
 r0:0<=b.rate
 r1:b.rate<=1048576
 l0:0<=b.last
 l1:b.last<=253402300799
 b0:0<=b.burst
 b1:b.burst<=1073741824
 t0:0<=b.tokens
 t1:b.tokens<=b.burst
def Aj1(rate burst now tokens:Int):Bk:=⟨cut rate 1048576,cut now 253402300799,cut burst 1073741824,cut tokens (cut burst 1073741824)⟩
theorem Cy5(rate burst now tokens:Int):(Aj1 rate burst now tokens).Ok:=by
 have h1:=Ab2 rate 1048576 (by decide)
 have h2:=Ab2 now 253402300799 (by decide)
 have h3:=Ab2 burst 1073741824 (by decide)
 have h4:=Ab2 tokens (cut burst 1073741824) h3.1
 exact⟨h1.1,h1.2,h2.1,h2.2,h3.1,h3.2,h4.1,h4.2⟩
def U3(b:Bk)(t:Int):Int:=if t<=b.last then 0 else b.rate*(t-b.last)
def Ad3(b:Bk)(now:Int):Bk:=
 let t:=cut now 253402300799
 ⟨b.rate,if t<=b.last then b.last else t,b.burst,cut (b.tokens+U3 b t) b.burst⟩
theorem Cc7{a b:Int}(h1:0<=a)(h2:a<=1048576)(h3:0<=b)(h4:b<=253402300799):0<=a*b/\a*b<=265711571000000000:=by
 refine⟨Int.mul_nonneg h1 h3,?_⟩
 have h5:a*b<=1048576*253402300799:=Int.mul_le_mul h2 h4 h3 (by decide)
 omega
theorem A61{b:Bk}(h:b.Ok){t:Int}(h0:0<=t)(h1:t<=253402300799):0<=U3 b t/\U3 b t<=265711571000000000:=by
 unfold U3
 split
 ·omega
 ·have:=h.l0
  exact Cc7 h.r0 h.r1 (by omega) (by omega)
theorem Ck8{b:Bk}(h:b.Ok)(now:Int):(Ad3 b now).Ok:=by
 have h1:=Ab2 now 253402300799 (by decide)
 have h2:=Ab2 (b.tokens+U3 b (cut now 253402300799)) b.burst h.b0
 have h3:=h.l0
 have h4:=h.l1
 refine⟨h.r0,h.r1,?_,?_,h.b0,h.b1,h2.1,h2.2⟩<;>(simp only[Ad3];split<;>omega)
def Aq3(b:Bk)(n:Int):Bool:=decide (0<=n/\n<=b.tokens)
def Ad4(b:Bk)(n:Int):Bk:=if 0<=n/\n<=b.tokens then{b with tokens:=b.tokens-n}else b
theorem Ck9{b:Bk}(h:b.Ok)(n:Int):(Ad4 b n).Ok:=by
 unfold Ad4
 split
 ·have:=h.t1
  exact⟨h.r0,h.r1,h.l0,h.l1,h.b0,h.b1,by first|omega|(simp only;omega),by first|omega|(simp only;omega)⟩
 ·exact h
abbrev A66(b:Bk):Obj:=.cells #[.i b.rate,.i b.last,.i b.burst,.i b.tokens] 171
theorem Ap6(L:A4)(n m:Int)(b:Nat)(h:0<=m)(hm:(b,Obj.cells #[.i m] 3)∈L):Reads PP 123 #[.i n,.slice (some ⟨b,0,none⟩) 1 1] L (.i (cut n m)):=by
 refine Reads.of (args:=[.i n,.slice (some ⟨b,0,none⟩) 1 1]) B5 B6 Tryz.func123 (e123 n ⟨some ⟨b,0,none⟩,1,1⟩ _) ?_
 unfold t123
 refine G0 (fun k z L'=>L'=L/\((k=1/\z=(n,0,()))\/(k=0/\z=(Ab3 n m,1,())))) 1 ⟨rfl,.inl ⟨rfl,rfl⟩⟩ ?_
 rintro k z L ⟨rfl,⟨rfl,rfl⟩|⟨rfl,rfl⟩⟩
 ·refine ifP (show(0:Int)<1 by decide) (E0 (show(0:Int)<=0 by decide) (show(0:Int)<1 by decide) (A6 m (ldB hm rfl) ⟨0,by omega,rfl,.inr ⟨rfl,rfl⟩⟩))
 ·refine ifN (show¬(1:Int)<1 by decide) (.of ⟨?_,rfl⟩)
  simp only[Cv8 n m h]
theorem Cy4(rate burst now tokens:Int):CallF PP 96 #[.i rate,.i burst,.i now,.i tokens] [] fun v L'=> ∃n,v= .q (some ⟨n,0,none⟩)/\L'=[(n,A66 (Aj1 rate burst now tokens))]:=by
 refine CallF.of (args:=[.i rate,.i burst,.i now,.i tokens]) B5 B6 Tryz.func96 (e96 rate burst now tokens _) ?_
 unfold t96
 have h3:=Ab2 burst 1073741824 (by decide)
 refine C3 fun n1 _=>B7 (Ap6 _ rate 1048576 n1 (by decide) List.mem_cons_self) (cut rate 1048576,()) rfl ?_
 refine C3 fun n2 _=>B7 (Ap6 _ now 253402300799 n2 (by decide) List.mem_cons_self) (cut now 253402300799,()) rfl ?_
 refine C3 fun n3 _=>B7 (Ap6 _ burst 1073741824 n3 (by decide) List.mem_cons_self) (cut burst 1073741824,()) rfl ?_
 refine C3 fun n4 _=>A6 (cut burst 1073741824) (ldB List.mem_cons_self rfl) ?_
 refine C3 fun n5 _=>B7 (Ap6 _ tokens (cut burst 1073741824) n5 h3.1 List.mem_cons_self) (cut tokens (cut burst 1073741824),()) rfl ?_
 refine E3 [_] _ rfl rfl (by simp[M9]) (.inl (Nat.le_refl _)) _ rfl ?_
 exact .drop (A:=[_]) (J:=[_,_,_,_]) ⟨n4,rfl,rfl⟩ (List.Perm.swap _ _ _)
theorem Cp5(L:A4)(b:Bk)(hb:b.Ok)(t:Int)(h0:0<=t)(h1:t<=253402300799):Reads PP 122 #[.agg #[.i b.rate,.i b.last],.i t] L
  (.t #[.i (U3 b t),.agg #[.i b.rate,.i (if t<=b.last then b.last else t)]]):=by
 refine Reads.of (args:=[.agg #[.i b.rate,.i b.last],.i t]) B5 B6 Tryz.func122 (e122 (b.rate,b.last,()) t _) ?_
 unfold t122
 have hr:=A61 hb h0 h1
 have hl0:=hb.l0
 have hl1:=hb.l1
 refine C3 fun n1 _=>C3 fun n2 _=>A6 b.last (ldB (List.mem_cons_of_mem _ List.mem_cons_self) rfl) ?_
 refine C0 (fun(h:t<=b.last)=>?_) (fun(h: ¬t<=b.last)=>?_)
 ·refine A6 (b.rate,b.last,()) (ldB (List.mem_cons_of_mem _ List.mem_cons_self) rfl) (E3 [] _ rfl rfl (by simp[M9]) (.inl (Nat.le_refl _)) _ rfl (A6 (b.rate,b.last,()) (ldB List.mem_cons_self rfl) ?_))
  refine .drop (A:=L) (J:=[_,_]) ⟨?_,rfl⟩ (List.perm_append_comm (l₁:=[_,_]))
  unfold U3
  rw[if_pos h,if_pos h]
 ·refine A6 b.rate (ldB (List.mem_cons_of_mem _ List.mem_cons_self) rfl) (A6 b.last (ldB (List.mem_cons_of_mem _ List.mem_cons_self) rfl) (A6 b.rate (ldB (List.mem_cons_of_mem _ List.mem_cons_self) rfl) ?_))
  refine E3 [] _ rfl rfl (by simp[M9]) (.inl (Nat.le_refl _)) _ rfl (A6 (b.rate,t,()) (ldB List.mem_cons_self rfl) ?_)
  refine .drop (A:=L) (J:=[_,_]) ⟨?_,rfl⟩ (List.perm_append_comm (l₁:=[_,_]))
  unfold U3 at hr⊢
  rw[if_neg h]at hr
  rw[if_neg h,if_neg h,C2 (n:=t-b.last) (by omega) (by omega),C2 (by omega) (by omega)]
theorem C57(n:Nat)(b:Bk)(hb:b.Ok)(t:Int):CallF PP 58 #[.q (some ⟨n,0,none⟩),.i t] [(n,A66 b)] fun v L'=>v= .t #[]/\L'=[(n,A66 (Ad3 b t))]:=by
 refine CallF.of (args:=[.q (some ⟨n,0,none⟩),.i t]) B5 B6 Tryz.func58 (e58 (some ⟨n,0,none⟩) t _) ?_
 unfold t58
 have hc:=Ab2 t 253402300799 (by decide)
 have hr:=A61 hb hc.1 hc.2
 have ht0:=hb.t0
 have ht1:=hb.t1
 have hb1:=hb.b1
 refine ifF rfl (A5 rfl (A6 (b.rate,b.last,()) (ldB List.mem_cons_self rfl) ?_))
 refine C3 fun n1 _=>B7 (Ap6 _ t 253402300799 n1 (by decide) List.mem_cons_self) (cut t 253402300799,()) rfl (F5 (ldB (List.mem_cons_of_mem _ List.mem_cons_self) rfl) ?_)
 refine B7 (Cp5 _ b hb (cut t 253402300799) hc.1 hc.2) (U3 b (cut t 253402300799),(b.rate,(if cut t 253402300799<=b.last then b.last else cut t 253402300799),()),()) rfl ?_
 refine C3 fun n2 _=>E3 [] _ rfl rfl (by simp[M9]) (.inl (Nat.le_refl _)) _ rfl ?_
 refine A5 rfl (A5 rfl (A6 b.tokens (ldB (List.mem_cons_of_mem _ (List.mem_cons_of_mem _ List.mem_cons_self)) rfl) (A6 b.burst (ldB (List.mem_cons_of_mem _ (List.mem_cons_of_mem _ List.mem_cons_self)) rfl) ?_)))
 refine A6 (b.rate,(if cut t 253402300799<=b.last then b.last else cut t 253402300799),()) (ldB List.mem_cons_self rfl) ?_
 have hw:IntKind.i64.wrap (b.tokens+U3 b (cut t 253402300799))=b.tokens+U3 b (cut t 253402300799):=C2 (by omega) (by omega)
 refine C3 fun n3 _=>?_
 simp only[hw]
 refine B7 (Ap6 _ _ b.burst n3 hb.b0 List.mem_cons_self) (cut (b.tokens+U3 b (cut t 253402300799)) b.burst,()) rfl (F5 (ldB (List.mem_cons_of_mem _ List.mem_cons_self) rfl) ?_)
 refine A5 rfl (E3 [_,_,_] [] rfl rfl (by simp[M9]) (.inl (Nat.le_refl _)) _ rfl (F5 (ldB (List.mem_cons_of_mem _ List.mem_cons_self) rfl) (A5 rfl (E3 [_,_,_] [] rfl rfl (by simp[M9]) (.inl (Nat.le_refl _)) _ rfl ?_))))
 exact .drop (A:=[_]) (J:=[_,_,_]) ⟨rfl,rfl⟩ (List.perm_append_comm (l₁:=[_,_,_]))
theorem Be2(L:A4)(n:Nat)(b:Bk)(hm:(n,A66 b)∈L):Reads PP 44 #[.q (some ⟨n,0,none⟩)] L (.i b.tokens):=by
 refine Reads.of (args:=[.q (some ⟨n,0,none⟩)]) B5 B6 Tryz.func44 (e44 (some ⟨n,0,none⟩) _) ?_
 unfold t44
 exact ifF rfl (A5 rfl (A6 b.tokens (ldB hm rfl) (.of ⟨rfl,rfl⟩)))
theorem C59(n:Nat)(b:Bk)(hb:b.Ok)(t:Int):CallF PP 133 #[.q (some ⟨n,0,none⟩),.i t] [(n,A66 b)] fun v L'=>v= .b (Aq3 b t)/\L'=[(n,A66 (Ad4 b t))]:=by
 refine CallF.of (args:=[.q (some ⟨n,0,none⟩),.i t]) B5 B6 Tryz.func133 (e133 (some ⟨n,0,none⟩) t _) ?_
 unfold t133
 have ht1:=hb.t1
 have hb1:=hb.b1
 unfold Aq3 Ad4
 refine ifF rfl (C0 (fun(h:t<0)=>.of ⟨?_,?_⟩) (fun(h: ¬t<0)=>A5 rfl (A6 b.tokens (ldB List.mem_cons_self rfl) (C0 (fun(h2:t>b.tokens)=>.of ⟨?_,?_⟩) (fun(h2: ¬t>b.tokens)=>?_)))))
 ·rw[decide_eq_false (by omega)]
 ·rw[if_neg (by omega)]
 ·rw[decide_eq_false (by omega)]
 ·rw[if_neg (by omega)]
 ·refine A5 rfl (A6 b.tokens (ldB List.mem_cons_self rfl) (A5 rfl (E3 [] [] rfl rfl (by simp[M9]) (.inl (Nat.le_refl _)) _ rfl (.of ⟨?_,?_⟩))))
  ·rw[decide_eq_true (by omega)]
  ·rw[if_pos (by omega),C2 (by first|omega|(simp only;omega)) (by first|omega|(simp only;omega))]
   rfl
def B40(room:Int)(l:List Int)(x:Int):List Int:=if((l.erase x++[x]).length:Int)>room then(l.erase x++[x]).drop 1 else l.erase x++[x]
def Bm6(l:List Int)(x i:Int):Prop:=(i= -1/\x∉l)\/ ∃k:Nat,i=k/\k<l.length/\l[k]?=some x/\x∉l.take k
theorem Bm6.mem{l:List Int}{x i:Int}(h:Bm6 l x i):(0<=i↔x∈l):=by
 rcases h with⟨rfl,h⟩|⟨k,rfl,hk,hx,_⟩
 ·simp[h]
 ·exact⟨fun _=>List.mem_of_getElem? hx,fun _=>by omega⟩
theorem Bm6.erase{l:List Int}{x:Int}{k:Nat}(hk:k<l.length)(hx:l[k]?=some x)(hn:x∉l.take k):l.erase x=l.take k++l.drop (k+1):=by
 have h1:l=l.take k++x::l.drop (k+1):=by
  have:l[k]=x:=by rw[List.getElem?_eq_getElem hk]at hx;exact Option.some.inj hx
  rw[<-this,<-List.drop_eq_getElem_cons hk,List.take_append_drop]
 conv=>lhs;rw[h1]
 rw[List.erase_append_right _ hn,List.erase_cons_head]
theorem A87{l:List Int}{x:Int}{i:Nat}(hi:i<l.length)(h:x∉l.take i)(hx:l[i]≠x):x∉l.take (i+1):=by
 rw[List.take_succ_eq_append_getElem hi,List.mem_append]
 rintro(h1|h1)
 ·exact h h1
 ·exact hx (List.mem_singleton.1 h1).symm
abbrev tU:TypeId:=165
abbrev eU:TypeId:=91
theorem Cx5:U8 PP tU eU 1 8 [.int .u64 0]:=M6 (by kernel_rfl) (by kernel_rfl) rfl (by decide) (by decide)
theorem srcU:As9 PP tU:=.inl ⟨eU,by kernel_rfl⟩
theorem Bv6(L:A4)(v:SlV)(l:List Int)(h:ISl L v .u64 l)(hb:l.length<=1000000)(x:Int):
  CallF PP 102 #[.slice v.a v.len v.cap,.int .u64 x] L fun r L'=>L'=L/\ ∃i,r= .i i/\Bm6 l x i:=by
 refine CallF.of (args:=[.slice v.a v.len v.cap,.int .u64 x]) B5 B6 Tryz.func102 (e102 v x _) ?_
 unfold t102
 have hlen:=h.len
 refine G0 (fun k z L'=>L'=L/\ ∃i,i<=l.length/\k=l.length-i/\z=((i:Int),())/\x∉l.take i) l.length ⟨rfl,0,by omega,by omega,rfl,by simp⟩ ?_
 rintro k z L ⟨rfl,i,hi,rfl,rfl,hn⟩
 refine C0 (fun(hlt:(i:Int)<v.len)=>?_) (fun(hge: ¬(i:Int)<v.len)=>?_)
 ·have hi':i<l.length:=by omega
  obtain⟨a,ha⟩:=h.some hi'
  refine A5 ha (E0 (show(0:Int)<=i by omega) hlt (A6 l[i] (h.rd hi' ha _ (by simp)) ?_))
  refine Aa4 (fun(he:x=l[i])=>.of ⟨rfl,i,rfl,.inr ⟨i,rfl,hi',by rw[List.getElem?_eq_getElem hi',he],hn⟩⟩) (fun(he:x≠l[i])=>?_)
  refine⟨l.length-(i+1),by omega,rfl,i+1,by omega,rfl,?_,A87 hi' hn (fun e=>he e.symm)⟩
  rw[C2 (by first|omega|(simp only;omega)) (by first|omega|(simp only;omega))]
  rfl
 ·obtain rfl:i=l.length:=by omega
  rw[List.take_length]at hn
  exact .of ⟨rfl,-1,rfl,.inl ⟨rfl,hn⟩⟩
def GOb(room:Int)(l:List Int)(o:Obj):Prop:= ∃(c:Array Value) (f:Nat),o= .cells c 256/\c.size=67/\c[0]?=some (.i room)/\c[65]?=some (.i f)/\c[66]?=some (.i l.length)/\f<64/\l.length<=64/\
 ∀(i:Nat) (x:Int),l[i]?=some x->c[1+(f+i)%64]?=some (.int .u64 x)
theorem ldC{L:A4}{n off:Nat}{c:Array Value}{T:TypeId}{fz:Nat×Nat}{v:Value}(hm:(n,Obj.cells c T fz)∈L)(h:c[off]?=some v):D4 ⟨n,off,none⟩ [v] L:=
 .blk hm fun i u hu=>by
  cases i with
  |zero=>simp at hu;subst hu;exact h
  |succ i=>simp at hu
theorem K9(c:Array Value)(i j:Nat)(v:Value)(hi:i<c.size):(c.setIfInBounds i v)[j]?=if i=j then some v else c[j]?:=by
 rw[Array.getElem?_setIfInBounds];simp[hi]
theorem C46(n:Nat)(room:Int)(l:List Int)(o:Obj)(h:GOb room l o):CallF PP 103 #[.q (some ⟨n,0,none⟩)] [(n,o)] fun v L'=> ∃s seg,v= .slice s.a s.len s.cap/\L'=(n,o)::seg/\Own s 1 eU (ivs .u64 l) seg:=by
 refine CallF.of (args:=[.q (some ⟨n,0,none⟩)]) B5 B6 Tryz.func103 (e103 (some ⟨n,0,none⟩) _) ?_
 unfold t103
 obtain⟨c,f,rfl,hsz,h0,h65,h66,hf,hl,hr⟩:=h
 refine A5 rfl (A6 (l.length:Int) (ldC List.mem_cons_self h66) ?_)
 refine G0 (fun k z L'=> ∃i s seg J,i<=l.length/\k=l.length-i/\z=(s,(i:Int),())/\L'=J++seg++[(n,Obj.cells c 256)]/\Own s 1 eU (ivs .u64 (l.take i)) seg) l.length
  ⟨0,⟨none,0,0⟩,[],[],by omega,by omega,rfl,rfl,⟨rfl,Nat.le_refl _,.inl ⟨rfl,rfl,rfl⟩⟩⟩ ?_
 rintro k z L' ⟨i,s,seg,J,hi,rfl,rfl,rfl,own⟩
 have hm:(n,Obj.cells c 256)∈J++seg++[(n,Obj.cells c 256)]:=by simp
 refine C0 (fun(hlt:(i:Int)<l.length)=>?_) (fun(hge: ¬(i:Int)<l.length)=>?_)
 ·have hi':i<l.length:=by omega
  have hw:IntKind.i64.wrap ((f:Int)+i)=((f+i:Nat):Int):=by rw[C2 (by omega) (by omega)];omega
  have hmod:Int.tmod ((f+i:Nat):Int) 64=(((f+i)%64:Nat):Int):=by rw[Int.tmod_eq_emod_of_nonneg (by omega)];omega
  refine A5 rfl (A5 rfl (A6 (f:Int) (ldC hm h65) (Ab9 (by decide) ?_)))
  simp only[hw,hmod,Int.toNat_natCast,Nat.mul_one]
  refine E0 (by omega) (by omega) (A6 l[i] ?_ ?_)
  ·rw[O3 (ad:=⟨n,0,none⟩) rfl,O3 rfl]
   exact ldC hm (by rw[Nat.zero_add];exact hr i l[i] (List.getElem?_eq_getElem hi'))
  refine C3 fun m _=>E6 Cx5 srcU ((m,Obj.cells #[.int .u64 l[i]] eU)::J) [(n,Obj.cells c 256)] own rfl (.sl (ISl.const (l:=[l[i]]) 1 (Nat.le_refl _) List.mem_cons_self)) (Ag6 _ _)
   (by have:=own.sl.len;rw[K8,List.length_take]at this;simp only[List.length_cons,List.length_nil];omega) fun s' seg' hs' own'=>?_
  rw[<-U6,<-List.take_succ_eq_append_getElem hi']at own'
  refine⟨l.length-(i+1),by omega,i+1,s',seg',(m,Obj.cells #[.int .u64 l[i]] eU)::J,by omega,rfl,?_,rfl,own'⟩
  rw[C2 (by first|omega|(simp only;omega)) (by first|omega|(simp only;omega))]
  rfl
 ·obtain rfl:i=l.length:=by omega
  rw[List.take_length]at own
  refine .drop (A:=(n,Obj.cells c 256)::seg) (J:=J) ⟨s,seg,rfl,rfl,own⟩ ?_
  have h1:(J++seg++[(n,Obj.cells c 256)]).Perm ([(n,Obj.cells c 256)]++(J++seg)):=List.perm_append_comm
  have h2:([(n,Obj.cells c 256)]++(J++seg)).Perm ([(n,Obj.cells c 256)]++(seg++J)):=List.Perm.append_left _ List.perm_append_comm
  simpa using h1.trans h2
theorem Bk3(l:List Int)(x:Int):(l.erase x).length<=l.length:=List.length_erase_le ..
theorem del_cl(v:SlV)(l:List Int)(seg:A4)(own:Own v 1 eU (ivs .u64 l) seg)(hb:l.length<=1000000)(k:Nat)(hk:k<l.length):
  CallF PP 110 #[.slice v.a v.len v.cap,.i k,.i ((k:Int)+1)] seg fun r L'=> ∃s,r= .slice s.a s.len s.cap/\Own s 1 eU (ivs .u64 (l.take k++l.drop (k+1))) L':=by
 refine CallF.of (args:=[.slice v.a v.len v.cap,.i k,.i ((k:Int)+1)]) B5 B6 Tryz.func110 (e110 v k ((k:Int)+1) _) ?_
 unfold t110
 have hlen:=own.sl.len
 rw[K8,Nat.mul_one]at hlen
 have hcap:=own.cap
 refine K4 (l':=k) (h':=k+1) (m':=v.len) rfl rfl rfl (by omega) (by omega) hcap ?_
 refine Aa4 (fun(he:(k:Int)=(k:Int)+1)=>absurd he (by omega)) (fun _=>?_)
 refine K4 (l':=0) (h':=k) (m':=v.cap) rfl rfl rfl (by omega) (by omega) (Nat.le_refl _) ?_
 refine K4 (l':=k+1) (h':=v.len) (m':=v.cap) rfl rfl rfl (by omega) hcap (Nat.le_refl _) ?_
 have own2:=own.slc (l:=0) (h:=k) (by omega) (by omega)
 have src2:=Sl.slc (m:=v.cap) own.sl (by omega) (l:=k+1) (h':=v.len) (by omega) (Nat.le_refl _) hcap
 rw[Cf2]at own2 src2
 refine Ai5 Cx5 srcU [] [] own2 (by simp) (.sl src2) (Ag6 _ _) (by simp only[P1,Int.toNat_natCast];omega) fun s seg' hs _ hcap' own'=>?_
 rw[<-U6]at own'
 have e1:(l.drop 0).take (k-0)=l.take k:=by simp
 have e2:(l.drop (k+1)).take (v.len-(k+1))=l.drop (k+1):=by rw[hlen];exact List.take_of_length_le (by rw[List.length_drop];omega)
 rw[e1,e2]at own'
 simp only[P1,Int.toNat_natCast]at hs hcap'
 have hsc:=own'.cap
 refine K4 (l':=s.len) (h':=v.len) (m':=s.cap) rfl rfl rfl (by omega) (by omega) (Nat.le_refl _) ?_
 refine Ah0 Cx5 rfl [] [] own' (by simp) (h:=v.len) (by omega) (by omega) rfl fun seg2 own2=>?_
 exact .of ⟨s,rfl,by simpa using own2⟩
def Ch5(h:BitVec 64)(k:Nat):BitVec 64:=h^^^h>>>k
def Cd3(h:BitVec 64)(c:UInt8):BitVec 64:=Ch5 ((h^^^BitVec.ofNat 64 c.toNat)*1099511628211#64) 29
def Ai1(h:BitVec 64)(l:List UInt8):BitVec 64:=l.foldl Cd3 h
def Bq5(seed:Int)(l:List UInt8):BitVec 64:=Ch5 ((Ai1 (BitVec.ofInt 64 seed^^^11400714819323198485#64) l^^^BitVec.ofNat 64 l.length)*11400714819323198485#64) 32
theorem A90(c:BitVec 64)(l:List UInt8)(b:UInt8):Ai1 c (l++[b])=Cd3 (Ai1 c l) b:=by simp[Ai1]
theorem Cc8(L:A4)(v:SlV)(l:List UInt8)(h:BSl L v l)(hb:l.length<=1000000)(c:BitVec 64):Reads PP 174 #[.int .u64 c.toNat,.slice v.a v.len v.cap] L (.int .u64 (Ai1 c l).toNat):=by
 refine Reads.of (args:=[.int .u64 c.toNat,.slice v.a v.len v.cap]) B5 B6 Tryz.func174 (e174 c.toNat v _) ?_
 unfold t174
 have hlen:=h.len
 refine G0 (fun k z L'=>L'=L/\ ∃i,i<=l.length/\k=l.length-i/\z=(((Ai1 c (l.take i)).toNat:Int),(i:Int),())) l.length ⟨rfl,0,by omega,by omega,rfl⟩ ?_
 rintro k z L ⟨rfl,i,hi,rfl,rfl⟩
 refine C0 (fun(hlt:(i:Int)<v.len)=>?_) (fun(hge: ¬(i:Int)<v.len)=>?_)
 ·have hlt':i<l.length:=by omega
  obtain⟨ad,ha⟩:=h.some hlt'
  refine A5 ha (E0 (show(0:Int)<=i by omega) hlt (A6 (l[i].toNat:Int) (h.rd hlt' ha _ (by simp)) ?_))
  refine Ab9 (by decide) ⟨l.length-(i+1),by omega,rfl,i+1,by omega,rfl,?_⟩
  rw[C2 (by simp only;omega) (by simp only;omega),List.take_succ_eq_append_getElem hlt',A90]
  simp only[Bn6,BitVec.ofInt_mul,Ar9,xor64,shr64,Cs9]
  rfl
 ·refine .of ⟨?_,rfl⟩
  obtain rfl:i=l.length:=by omega
  rw[List.take_length]
theorem B32(s:ByteArray):s.data.toList.length=s.size:=by rw[Array.length_toList];rfl
theorem Ct3(L:A4)(seed:Int)(s:ByteArray)(hb:s.size<=1000000):Reads PP 104 #[.i seed,.w s] L (.int .u64 (Bq5 seed s.data.toList).toNat):=by
 refine Reads.of (args:=[.i seed,.w s]) B5 B6 Tryz.func104 (e104 seed s _) ?_
 unfold t104
 refine C09 fun n ob v hv own hs=>?_
 have hl:=B32 s
 simp only[xor64,Bn6,Ar9]
 refine B7 (Cc8 _ v s.data.toList (Own.sl own).head (by omega) _) (_,()) rfl (Ab9 (by decide) ?_)
 refine .drop (A:=L) (J:=[_]) ⟨?_,rfl⟩ (List.perm_append_comm (l₁:=[_]))
 simp only[BitVec.ofInt_mul,Ar9,shr64]
 unfold Bq5 Ch5
 rw[hl]
 rfl
abbrev tyB:TypeId:=27
abbrev tyb:TypeId:=5
structure QE where
 id:Nat
 key:ByteArray
 val:List UInt8
 freq:Int
 v:SlV
 seg:A4
def pt(o:Option Nat):Option Addr:=o.map fun n=>⟨n,0,none⟩
def M0(e:QE)(prev next:Option Nat):Obj:=.cells #[.w e.key,.slice e.v.a e.v.len e.v.cap,.i e.freq,.q (pt prev),.q (pt next)] 184
def C8:List QE->Option Nat->Option Nat
 |[],n=>n
 |e::_,_=>some e.id
def C9:Option Nat->List QE->Option Nat
 |p,[]=>p
 |_,e::r=>C9 (some e.id) r
def O8:Option Nat->List QE->Option Nat->A4
 |_,[],_=>[]
 |p,e::r,n=>(e.id,M0 e p (C8 r n))::O8 (some e.id) r n
theorem P9(p s:List QE)(n:Option Nat):C8 (p++s) n=C8 p (C8 s n):=by cases p<;>rfl
theorem P8: ∀(p s:List QE) (q:Option Nat),C9 q (p++s)=C9 (C9 q p) s
 |[],s,q=>rfl
 |e::r,s,q=>P8 r s (some e.id)
theorem V3: ∀(p s:List QE) (q n:Option Nat),O8 q (p++s) n=O8 q p (C8 s n)++O8 (C9 q p) s n
 |[],s,q,n=>rfl
 |e::r,s,q,n=>by
  show(e.id,M0 e q (C8 (r++s) n))::O8 (some e.id) (r++s) n=_
  rw[P9,V3 r s]
  rfl
def Al3(l:List QE):A4:=l.flatMap QE.seg
def S4(l:List QE):Nat:=(l.map fun e=>e.key.size+e.val.length).sum
def A76(l:List QE):List (ByteArray×Value):=l.map fun e=>(e.key,.q (pt (some e.id)))
structure QOk(l:List QE):Prop where
 own: ∀e∈l,Own e.v 1 tyb (bvs e.val) e.seg
 small: ∀e∈l,e.key.size<=100000/\e.val.length<=100000
 few:l.length<=100000
 nd:(l.map QE.key).Nodup
 fr: ∀e∈l,0<=e.freq/\e.freq<=3
def qO(room:Int)(l:List QE)(mk:Nat)(bytes:Int):Obj:=.cells #[.i room,.i bytes,.q (pt (C8 l none)),.q (pt (C9 none l)),.map (some mk)] 182
def QL(m:Nat)(room:Int)(l:List QE)(mk:Nat)(mes:Array MapEntry)(clock:Nat):A4:=
 (m,qO room l mk (S4 l))::(mk,Obj.map mes clock)::(O8 none l none++Al3 l)
def QH(m:Nat)(room:Int)(l:List QE)(A:A4):Prop:= ∃mk mes clock,A=QL m room l mk mes clock/\Mp Value.w mes (A76 l)/\QOk l
theorem Ak1(p s:List QE):S4 (p++s)=S4 p+S4 s:=by simp[S4]
theorem C84{l:List QE}(h: ∀e∈l,e.key.size<=100000/\e.val.length<=100000):S4 l<=l.length*200000:=by
 induction l with
 |nil=>simp[S4]
 |cons e r ih=>
  have h1:=h e List.mem_cons_self
  have h2:=ih fun x hx=>h x (List.mem_cons_of_mem _ hx)
  simp only[S4,List.map_cons,List.sum_cons,List.length_cons]at h2⊢
  omega
theorem QOk.sum{l:List QE}(h:QOk l):S4 l<=20000000000:=by
 have h1:=C84 h.small
 have h2:=h.few
 have:l.length*200000<=100000*200000:=Nat.mul_le_mul_right _ h2
 omega
theorem QOk.sub{p s:List QE}{e:QE}(h:QOk (p++e::s)):QOk (p++s):=by
 have hs: ∀x,x∈p++s->x∈p++e::s:=fun x hx=>by
  rcases List.mem_append.1 hx with h1|h1
  ·exact List.mem_append_left _ h1
  ·exact List.mem_append_right _ (List.mem_cons_of_mem _ h1)
 have hsub:(p++s).Sublist (p++e::s):=List.Sublist.append_left (List.sublist_cons_self e s) p
 refine⟨fun x hx=>h.own x (hs x hx),fun x hx=>h.small x (hs x hx),?_,h.nd.sublist (hsub.map QE.key),fun x hx=>h.fr x (hs x hx)⟩
 have:=h.few
 rw[List.length_append,List.length_cons]at this
 rw[List.length_append];omega
abbrev tyM:TypeId:=180
theorem mapQ:Cm4 PP tyM 9 177 Value.w (.q none):=A96 (by kernel_rfl) (C27 (by kernel_rfl)) (by kernel_rfl)
def V1(l:List QE)(k:ByteArray):Option QE:=l.find? fun e=>decide (k=e.key)
theorem Cd4(l:List QE)(k:ByteArray):(Ay1 (A76 l) k).getD (.q none)= .q (pt ((V1 l k).map QE.id)):=by
 induction l with
 |nil=>rfl
 |cons e r ih=>
  unfold Ay1 V1 A76 at*
  rw[List.map_cons]
  by_cases h:k=e.key
  ·rw[List.find?_cons_of_pos (by simpa using h),List.find?_cons_of_pos (by simpa using h)];rfl
  ·rw[List.find?_cons_of_neg (by simpa using h),List.find?_cons_of_neg (by simpa using h)];exact ih
theorem A77(m:Nat)(room:Int)(l:List QE)(A:A4)(h:QH m room l A)(k:ByteArray):
  Reads PP 116 #[.q (some ⟨m,0,none⟩),.w k] A (.q (pt ((V1 l k).map QE.id))):=by
 obtain⟨mk,mes,clock,rfl,hm,ok⟩:=h
 refine Reads.of (args:=[.q (some ⟨m,0,none⟩),.w k]) B5 B6 Tryz.func116 (e116 (some ⟨m,0,none⟩) k _) ?_
 unfold t116
 refine ifF rfl (A5 rfl (A6 (some mk) (ldB (c:=#[.i room,.i (S4 l),.q (pt (C8 l none)),.q (pt (C9 none l)),.map (some mk)]) (T:=182) (fz:=(0,0)) List.mem_cons_self rfl) ?_))
 refine⟨(pt ((V1 l k).map QE.id),()),?_,.of ⟨rfl,rfl⟩⟩
 have:=Am4 (P:=PP) (L:=QL m room l mk mes clock) mapQ (r:=mk) (es:=mes) (clock:=clock) (m:=A76 l) (by unfold QL;simp) hm k
 rw[Cd4]at this
 exact this
theorem B80(L:A4)(e:QE)(p n:Option Nat)(hm:(e.id,M0 e p n)∈L)(hv:e.v.len=e.val.length)(hs:e.key.size<=100000/\e.val.length<=100000):
  Reads PP 112 #[.q (some ⟨e.id,0,none⟩)] L (.i ((e.key.size+e.val.length:Nat):Int)):=by
 refine Reads.of (args:=[.q (some ⟨e.id,0,none⟩)]) B5 B6 Tryz.func112 (e112 (some ⟨e.id,0,none⟩) _) ?_
 unfold t112
 unfold M0 at hm
 refine A5 rfl (A5 rfl (A6 e.key (ldB hm rfl) (A6 e.v (ldB hm rfl) (.of ⟨?_,rfl⟩))))
 rw[hv,C2 (by first|omega|(simp only;omega)) (by first|omega|(simp only;omega))]
 congr 1
section
variable {L:A4} {e:QE} {p n:Option Nat}
theorem Ct1(h:(e.id,M0 e p n)∈L):D4 ⟨e.id,0,none⟩ [.w e.key] L:=ldB (by unfold M0 at h;exact h) rfl
theorem Bw2(h:(e.id,M0 e p n)∈L):D4 ⟨e.id,1,none⟩ [.slice e.v.a e.v.len e.v.cap] L:=ldB (by unfold M0 at h;exact h) rfl
theorem Cc5(h:(e.id,M0 e p n)∈L):D4 ⟨e.id,2,none⟩ [.i e.freq] L:=ldB (by unfold M0 at h;exact h) rfl
theorem Am2(h:(e.id,M0 e p n)∈L):D4 ⟨e.id,3,none⟩ [.q (pt p)] L:=ldB (by unfold M0 at h;exact h) rfl
theorem Am3(h:(e.id,M0 e p n)∈L):D4 ⟨e.id,4,none⟩ [.q (pt n)] L:=ldB (by unfold M0 at h;exact h) rfl
theorem B31(h:(e.id,M0 e p n)∈L):D4 ⟨e.id,0,none⟩ [.w e.key,.slice e.v.a e.v.len e.v.cap,.i e.freq] L:=ldB (by unfold M0 at h;exact h) rfl
end
def qG(room bytes:Int)(o y:Option Nat)(mk:Nat):Obj:=.cells #[.i room,.i bytes,.q (pt o),.q (pt y),.map (some mk)] 182
section
variable {L:A4} {m mk:Nat} {room bytes:Int} {o y:Option Nat}
theorem q_room(h:(m,qG room bytes o y mk)∈L):D4 ⟨m,0,none⟩ [.i room] L:=ldB (by unfold qG at h;exact h) rfl
theorem Aw9(h:(m,qG room bytes o y mk)∈L):D4 ⟨m,1,none⟩ [.i bytes] L:=ldB (by unfold qG at h;exact h) rfl
theorem q_old(h:(m,qG room bytes o y mk)∈L):D4 ⟨m,2,none⟩ [.q (pt o)] L:=ldB (by unfold qG at h;exact h) rfl
theorem Ca6(h:(m,qG room bytes o y mk)∈L):D4 ⟨m,3,none⟩ [.q (pt y)] L:=ldB (by unfold qG at h;exact h) rfl
theorem q_map(h:(m,qG room bytes o y mk)∈L):D4 ⟨m,4,none⟩ [.map (some mk)] L:=ldB (by unfold qG at h;exact h) rfl
end
theorem Cd7{p s:List QE}{e:QE}(h:((p++e::s).map QE.key).Nodup):Bd1 (A76 (p++e::s)) e.key=A76 (p++s):=by
 induction p with
 |nil=>
  show(if e.key=e.key then _ else _)=_
  rw[if_pos rfl];rfl
 |cons a r ih=>
  rw[List.cons_append,List.map_cons,List.nodup_cons]at h
  have hne:e.key≠a.key:=fun he=>h.1 (by rw[<-he];simp)
  show(if e.key=a.key then _ else _)=_
  rw[if_neg hne]
  have:=ih h.2
  show(a.key,Value.q (pt (some a.id)))::Bd1 (A76 (r++e::s)) e.key=_
  rw[this];rfl
theorem A33(p:List QE):p=[]\/ ∃p0 a,p=p0++[a]:=by
 rcases List.eq_nil_or_concat p with h|⟨p0,a,h⟩
 ·exact .inl h
 ·exact .inr ⟨p0,a,by simpa using h⟩
theorem Ac1(p0:List QE)(a:QE)(q n:Option Nat):O8 q (p0++[a]) n=O8 q p0 (some a.id)++[(a.id,M0 a (C9 q p0) n)]:=by
 rw[V3];rfl
theorem Y5(p0:List QE)(a:QE)(q:Option Nat):C9 q (p0++[a])=some a.id:=by rw[P8];rfl
theorem Bd8(m:Nat)(room:Int)(p s:List QE)(e:QE)(mk:Nat)(mes:Array MapEntry)(clock:Nat)(hm:Mp Value.w mes (A76 (p++e::s)))(ok:QOk (p++e::s)):
  CallF PP 175 #[.q (some ⟨m,0,none⟩),.q (some ⟨e.id,0,none⟩)] (QL m room (p++e::s) mk mes clock)
   fun v L'=>v= .t #[]/\ ∃mes' clock',L'=QL m room (p++s) mk mes' clock'++((e.id,M0 e (C9 none p) (C8 s none))::e.seg)/\Mp Value.w mes' (A76 (p++s)):=by
 refine CallF.of (args:=[.q (some ⟨m,0,none⟩),.q (some ⟨e.id,0,none⟩)]) B5 B6 Tryz.func175 (e175 (some ⟨m,0,none⟩) (some ⟨e.id,0,none⟩) _) ?_
 unfold t175
 have hsum:=ok.sum
 have hmem:e∈p++e::s:=by simp
 have hve:=(ok.own e hmem).sl.len
 rw[E7,Nat.mul_one]at hve
 have hsm:=ok.small e hmem
 have hqs:S4 (p++e::s)=S4 (p++s)+(e.key.size+e.val.length):=by
  rw[Ak1,Ak1]
  simp only[S4,List.map_cons,List.sum_cons];omega
 refine W7 (fun y L1=>L1=(m,qG room (S4 (p++e::s)) (C8 (p++s) none) (C9 none (p++e::s)) mk)::(mk,Obj.map mes clock)::((O8 none p (C8 s none)++(e.id,M0 e (C9 none p) (C8 s none))::O8 (some e.id) s none)++Al3 (p++e::s))) ?_ ?_
 ·rintro y L1 rfl
  refine W7 (fun y L2=>L2=(m,qG room (S4 (p++e::s)) (C8 (p++s) none) (C9 none (p++s)) mk)::(mk,Obj.map mes clock)::((O8 none p (C8 s none)++(e.id,M0 e (C9 none p) (C8 s none))::O8 (C9 none p) s none)++Al3 (p++e::s))) ?_ ?_
  ·rintro y L2 rfl
   refine A5 rfl (A6 ((S4 (p++e::s):Nat):Int) (Aw9 List.mem_cons_self) ?_)
   refine B7 (B80 _ e (C9 none p) (C8 s none) (by simp) hve hsm) (((e.key.size+e.val.length:Nat):Int),()) rfl (F5 (Aw9 List.mem_cons_self) ?_)
   have hw:IntKind.i64.wrap (((S4 (p++e::s):Nat):Int)-((e.key.size+e.val.length:Nat):Int))=((S4 (p++s):Nat):Int):=by rw[C2 (by omega) (by omega)];omega
   simp only[hw]
   refine A5 rfl (E3 [] _ rfl rfl (by simp) (.inl (Nat.le_refl _)) #[.i room,.i ((S4 (p++s):Nat):Int),.q (pt (C8 (p++s) none)),.q (pt (C9 none (p++s))),.map (some mk)] rfl ?_)
   refine A5 rfl (A5 rfl (A6 (some mk) (ldB (n:=m) (c:=#[.i room,.i ((S4 (p++s):Nat):Int),.q (pt (C8 (p++s) none)),.q (pt (C9 none (p++s))),.map (some mk)]) (T:=182) (fz:=(0,0)) List.mem_cons_self rfl) (A6 e.key (Ct1 (p:=C9 none p) (n:=C8 s none) (by simp)) ?_)))
   refine Bl0 mapQ [(m,_)] _ rfl hm e.key fun mes' clock' hm'=>?_
   rw[Cd7 ok.nd]at hm'
   refine .drop (A:=QL m room (p++s) mk mes' clock'++((e.id,M0 e (C9 none p) (C8 s none))::e.seg)) (J:=[]) ⟨rfl,mes',clock',rfl,hm'⟩ ?_
   rw[List.append_nil]
   unfold QL
   refine List.Perm.cons _ (List.Perm.cons _ ?_)
   rw[V3]
   unfold Al3
   classical
   rw[List.perm_iff_count]
   intro x
   simp only[List.append_eq,List.flatMap_append,List.flatMap_cons,List.count_append,List.count_cons]
   omega
  ·intro j2 hj2
   refine A5 rfl (A6 (pt (C8 s none)) (Am3 (p:=C9 none p) (by simp)) ?_)
   cases s with
   |nil=>
    refine ifF rfl (A5 rfl (A6 (pt (C9 none p)) (Am2 (n:=C8 [] none) (by simp)) (A5 rfl (E3 [] _ rfl rfl (by simp) (.inl (Nat.le_refl _)) #[.i room,.i (S4 (p++[e])),.q (pt (C8 (p++[]) none)),.q (pt (C9 none p)),.map (some mk)] rfl (hj2 _ _ ?_)))))
    rw[List.append_nil]
    rfl
   |cons b s0=>
    refine ifT rfl (A5 rfl (A5 rfl (A6 (pt (some b.id)) (Am3 (p:=C9 none p) (by simp[C8])) (A6 (pt (C9 none p)) (Am2 (n:=C8 (b::s0) none) (by simp)) (A5 rfl ?_)))))
    refine E3 (n:=b.id) (off:=3) (c:=#[.w b.key,.slice b.v.a b.v.len b.v.cap,.i b.freq,.q (pt (some e.id)),.q (pt (C8 s0 none))]) (T:=184) (fz:=(0,0))
     ((m,qG room (S4 (p++e::b::s0)) (C8 (p++b::s0) none) (C9 none (p++e::b::s0)) mk)::(mk,Obj.map mes clock)::(O8 none p (C8 (b::s0) none)++[(e.id,M0 e (C9 none p) (C8 (b::s0) none))]))
     (O8 (some b.id) s0 none++Al3 (p++e::b::s0)) rfl (by simp[O8,M0]) (by simp) (.inl (Nat.le_refl _)) #[.w b.key,.slice b.v.a b.v.len b.v.cap,.i b.freq,.q (pt (C9 none p)),.q (pt (C8 s0 none))] rfl (hj2 _ _ ?_)
    have hl:C9 none (p++e::b::s0)=C9 none (p++b::s0):=by rw[P8,P8];rfl
    rw[hl]
    simp[O8,M0]
 ·intro j1 hj1
  have hQL:QL m room (p++e::s) mk mes clock=(m,qG room (S4 (p++e::s)) (C8 (p++e::s) none) (C9 none (p++e::s)) mk)::(mk,Obj.map mes clock)::((O8 none p (some e.id)++(e.id,M0 e (C9 none p) (C8 s none))::O8 (some e.id) s none)++Al3 (p++e::s)):=by
   unfold QL
   rw[V3]
   rfl
  rw[hQL]
  refine A5 rfl (A6 (pt (C9 none p)) (Am2 (n:=C8 s none) (by simp)) ?_)
  rcases A33 p with rfl|⟨p0,a,rfl⟩
  ·refine ifF rfl (A5 rfl (A6 (pt (C8 s none)) (Am3 (p:=none) (by simp[C9])) (A5 rfl (E3 [] _ rfl rfl (by simp) (.inl (Nat.le_refl _)) #[.i room,.i (S4 ([]++e::s)),.q (pt (C8 s none)),.q (pt (C9 none ([]++e::s))),.map (some mk)] rfl (hj1 _ _ ?_)))))
   rfl
  ·rw[Y5]
   refine ifT rfl (A5 rfl (A5 rfl (A6 (pt (some a.id)) (Am2 (n:=C8 s none) (by simp)) (A6 (pt (C8 s none)) (Am3 (p:=some a.id) (by simp)) (A5 rfl ?_)))))
   refine E3 (n:=a.id) (off:=4) (c:=#[.w a.key,.slice a.v.a a.v.len a.v.cap,.i a.freq,.q (pt (C9 none p0)),.q (pt (some e.id))]) (T:=184) (fz:=(0,0))
    ((m,qG room (S4 (p0++[a]++e::s)) (C8 (p0++[a]++e::s) none) (C9 none (p0++[a]++e::s)) mk)::(mk,Obj.map mes clock)::O8 none p0 (some a.id))
    ((e.id,M0 e (some a.id) (C8 s none))::O8 (some e.id) s none++Al3 (p0++[a]++e::s)) rfl (by simp[Ac1,M0]) (by simp) (.inl (Nat.le_refl _)) #[.w a.key,.slice a.v.a a.v.len a.v.cap,.i a.freq,.q (pt (C9 none p0)),.q (pt (C8 s none))] rfl (hj1 _ _ ?_)
   have hh:C8 (p0++[a]++e::s) none=C8 (p0++[a]++s) none:=by
    rw[P9,P9]
    cases p0<;>rfl
   rw[hh,Ac1,Y5]
   simp[M0]
end Go.Proofs.YtbaoieipijmakaaGreatDoor
