/-
  It is proved what the functions that the law PlainFlush reaches compute, part 3. There are no further conditions than those that each theorem names.
-/
import Derived.Test.YtieboeindnpnaaaGreatDoorMPlainFlush2
set_option linter.defProp false
set_option linter.unusedVariables false
set_option linter.unusedSimpArgs false
namespace Go.Proofs.YtieboeindnpnaaaGreatDoor
open Go.HL
variable{mes:Array MapEntry}{A F L X:B1}{d:B8}{k:ByteArray}{b kind n pg ways x:Int}{ks:List It}{q:List UInt8×List UInt8×Int}{S i m mk n9 sz:Nat}{α σ:Type}
abbrev Tab(L:B1):Prop:=C0 ⟨0,0,none⟩ [.i 1,.i 2,.i 4,.i 8] L
def Tab.mono(h:Tab A)(hs: ∀p∈A,p∈L):Tab L:=C0.mono h hs
def Tab.cons{p:Nat×Obj}(h:Tab L):Tab (p::L):=C0.mono h fun _ hp=>NN _ hp
def Dg:List Int->Int->Int->Int
 |[],_,_=>0
 |k::r,n,p=>if k≥n/\k<=p-2 then k else Dg r n p
def H9(n p:Int):Int:=if n<1\/p<2 then 0 else Dg [1,2,4,8] n p
def Co8(L:B1)(hT:Tab L)(n p:Int)(hp:p<=9223372036854775807):Reads PP 91 #[.i n,.i p] L (.i (H9 n p)):=by
 refine(e91 n p).r ?_;unfold H9;refine D3 (fun(h1:n<1)=>.of ⟨by rw[NE (.inl h1)],rfl⟩) (fun(h1: ¬n<1)=>?_);refine D3 (fun(h2:p<2)=>.of ⟨by rw[NE (.inr h2)],rfl⟩) (fun(h2: ¬p<2)=>?_);rw[ND (by omega)];refine B5 (1,2,4,8,()) hT ?_;refine G1 (fun z' z L'=>L'=L/\ ∃i:Nat,i<=4/\z'=4-i/\z=((i:Int),())/\Dg (([1,2,4,8]:List Int).drop i) n p=Dg [1,2,4,8] n p) 4 ⟨rfl,0,by omega,by omega,rfl,rfl⟩ ?_;rintro z' z L1 ⟨gA,i,hi,rfl,rfl,hc⟩;rw[gA];have hw:IntKind.i64.wrap (p-2)=p-2:=D7 (by omega) (by omega);refine D3 (fun(hO:(i:Int)<4)=>?_) (fun(aM: ¬(i:Int)<4)=>?_)
 ·obtain⟨k,r,fY,dP,zV⟩: ∃(k:Int) (r:List Int),([1,2,4,8]:List Int).drop i=k::r/\(∀w,(Instr.index 257 (.agg #[.i 1,.i 2,.i 4,.i 8]) (.i (i:Int))).run PP w= .ok (.i k) w)/\([1,2,4,8]:List Int).drop (i+1)=r:=by
   have h4:i=0\/i=1\/i=2\/i=3:=by omega
   rcases h4 with rfl|rfl|rfl|rfl
   ·exact⟨1,[2,4,8],rfl,fun w=>by kernel_rfl,rfl⟩
   ·exact⟨2,[4,8],rfl,fun w=>by kernel_rfl,rfl⟩
   ·exact⟨4,[8],rfl,fun w=>by kernel_rfl,rfl⟩
   ·exact⟨8,[],rfl,fun w=>by kernel_rfl,rfl⟩
  rw[fY,show Dg (k::r) n p=(if k≥n/\k<=p-2 then k else Dg r n p)from rfl]at hc;have fU: ¬(k≥n/\k<=p-2)-> ∃k',k'<4-i/\L=L/\ ∃j:Nat,j<=4/\k'=4-j/\((IntKind.i64.wrap ((i:Int)+1),()):Int×Unit)=((j:Int),())/\Dg (([1,2,4,8]:List Int).drop j) n p=Dg [1,2,4,8] n p:=by
   intro hn;refine⟨4-(i+1),by omega,rfl,i+1,by omega,rfl,?_,?_⟩
   ·rw[D7 (by first|omega|(simp only;omega)) (by first|omega|(simp only;omega))];rfl
   ·rw[zV];rw[ND hn]at hc;exact hc
  refine⟨k,dP,?_⟩;simp only[hw];refine D3 (fun(h3:k≥n)=>?_) (fun(h3: ¬k≥n)=>fU fun h=>h3 h.1);refine D3 (fun(h4:k<=p-2)=>.of ⟨?_,rfl⟩) (fun(h4: ¬k<=p-2)=>fU fun h=>h4 h.2);rw[NE ⟨h3,h4⟩]at hc;rw[hc]
 ·obtain rfl:i=4:=by omega
  refine .of ⟨?_,rfl⟩;rw[<-hc];rfl
def Co3(n p:Int):0<=H9 n p/\H9 n p<=8:=by
 unfold H9;split
 ·exact⟨by decide,by decide⟩
 ·simp only[Dg]
  repeat' split
  all_goals omega
def Co7{p:Int}(h:H9 n p≠0):n<=H9 n p/\H9 n p<=p-2/\1<=H9 n p/\H9 (H9 n p) p=H9 n p:=by
 unfold H9 at h;split at h
 ·exact absurd rfl h
 ·rename_i h0;have hc:H9 n p=Dg [1,2,4,8] n p:=by unfold H9;rw[ND h0]
  rw[hc];simp only[Dg]at h⊢;split at h
  ·rename_i h1;rw[NE h1];exact⟨h1.1,h1.2,by decide,by unfold H9;rw[ND (by omega)];simp only[Dg];rw[NE (by omega)]⟩
  ·rename_i h1;rw[ND h1];split at h
   ·rename_i h2;rw[NE h2];exact⟨h2.1,h2.2,by decide,by unfold H9;rw[ND (by omega)];simp only[Dg];rw[ND (by omega),NE (by omega)]⟩
   ·rename_i h2;rw[ND h2];split at h
    ·rename_i h3;rw[NE h3];exact⟨h3.1,h3.2,by decide,by unfold H9;rw[ND (by omega)];simp only[Dg];rw[ND (by omega),ND (by omega),NE (by omega)]⟩
    ·rename_i h3;rw[ND h3];split at h
     ·rename_i h4;rw[NE h4];exact⟨h4.1,h4.2,by decide,by unfold H9;rw[ND (by omega)];simp only[Dg];rw[ND (by omega),ND (by omega),ND (by omega),NE (by omega)]⟩
     ·exact absurd rfl h
def EQ(L:B1)(n:Int):Reads PP 90 #[.i n] L (.b (decide (1<=n/\n<=255))):=by
 refine(e90 n).r ?_;refine D3 (fun(h:n≥1)=>.of ⟨?_,rfl⟩) (fun(h: ¬n≥1)=>.of ⟨by rw[OF (by omega)],rfl⟩);congr 1;rw[UR];omega
abbrev Cf:=Int×Int×Int×Int×Unit
variable{c:Cf}
def Q3(key value:Int)(c:Cf):Int:=
 if key<1\/key>255\/value<0\/value>65536\/E0 c.2.2.1=0 then 0 else H9 ((key+value+12+E0 c.2.2.1-1)/E0 c.2.2.1) c.2.1
def Nd(h:E0 n≠0):48<=E0 n/\E0 n<=496:=by
 unfold E0 at h⊢;split at h
 ·rename_i h1;rw[NE h1];omega
 ·exact absurd rfl h
def Ab6(L:B1)(hT:Tab L)(key value:Int)(c:Cf)(hc:c.2.1<=9223372036854775807):Reads PP 45 #[.i key,.i value,.agg (ki4 c)] L (.i (Q3 key value c)):=by
 refine(e45 key value c).r ?_;refine C9 fun n1 _=>?_;generalize ho:(n1,Obj.cells (ki4 c) 23)=o1;have lc:C0 n1.z [.i c.1,.i c.2.1,.i c.2.2.1,.i c.2.2.2.1] (o1::L):=C2 (by rw[<-ho];exact NG) rfl;clear ho;refine B5 c.2.2.1 (lc.one 2 rfl) (C4 (Pu _ c.2.2.1) (E0 c.2.2.1,()) rfl (C4 (EQ _ key) (decide (1<=key/\key<=255),()) rfl ?_));have aT:(key<1\/key>255\/value<0\/value>65536\/E0 c.2.2.1=0)->HL.Ends (fun v' L'=>v'=Value.i (Q3 key value c)/\L'=L) (.i 0) (o1::L):=fun h=>.cons (.of ⟨by unfold Q3;rw[NE h],rfl⟩);by_cases hk:1<=key/\key<=255
 case neg=>rw[OF hk];exact E9 rfl (aT (by omega))
 rw[OH hk];refine D8 rfl (D3 (fun(h1:value<0)=>aT (by omega)) (fun(h1: ¬value<0)=>D3 (fun(h2:value>65536)=>aT (by omega)) (fun(h2: ¬value>65536)=>?_)));refine Ex (fun(h3:E0 c.2.2.1=0)=>aT (by omega)) (fun(h3:E0 c.2.2.1≠0)=>Dv h3 ?_);have hr:=Nd h3;have hp:Q3 key value c=H9 ((key+value+12+E0 c.2.2.1-1)/E0 c.2.2.1) c.2.1:=by unfold Q3;rw[ND (by omega)]
 have e1:IntKind.i64.wrap (key+value)=key+value:=D7 (by omega) (by omega);have e2:IntKind.i64.wrap (key+value+12)=key+value+12:=D7 (by omega) (by omega);have e3:IntKind.i64.wrap (key+value+12+E0 c.2.2.1)=key+value+12+E0 c.2.2.1:=D7 (by omega) (by omega);have e4:IntKind.i64.wrap (key+value+12+E0 c.2.2.1-1)=key+value+12+E0 c.2.2.1-1:=D7 (by omega) (by omega);have e5:Int.tdiv (key+value+12+E0 c.2.2.1-1) (E0 c.2.2.1)=(key+value+12+E0 c.2.2.1-1)/E0 c.2.2.1:=TZ (by omega);have e6:IntKind.i64.wrap ((key+value+12+E0 c.2.2.1-1)/E0 c.2.2.1)=(key+value+12+E0 c.2.2.1-1)/E0 c.2.2.1:=by
  have h1:=Int.ediv_le_self (E0 c.2.2.1) (show 0<=key+value+12+E0 c.2.2.1-1 by omega);have h2:=Int.ediv_nonneg (show 0<=key+value+12+E0 c.2.2.1-1 by omega) (show 0<=E0 c.2.2.1 by omega);exact D7 (by omega) (by omega)
 simp only[e1,e2,e3,e4,e5,e6];refine B5 c.2.1 (lc.one 1 rfl) (C4 (Co8 _ hT.cons _ c.2.1 hc) (H9 ((key+value+12+E0 c.2.2.1-1)/E0 c.2.2.1) c.2.1,()) rfl (.cons (.of ⟨by rw[hp],rfl⟩)))
def Cg1(n:Nat)(hn:n<=1099511627776):CallF PP 230 #[.slice none 0 0,.i n] [] fun r L'=> ∃(s:B6) (seg:B1),r= .slice s.a s.len s.cap/\L'=seg/\C5 s 1 eB [] seg:=by
 refine(e230 ⟨none,0,0⟩ n).c ?_;refine V9 (fun y L'=>L'=[]) ?_ (fun j hj=>Bp (show¬(n:Int)<0 by omega) (hj _ _ rfl));rintro _ _ rfl;have e0:IntKind.i64.wrap (((0:Nat):Int)-((0:Nat):Int))=0:=by decide
 have e1:IntKind.i64.wrap ((n:Int)-0)=n:=D7 (by omega) (by omega);simp only[e0,e1];refine D3 (fun(h:(n:Int)>0)=>?_) (fun(h: ¬(n:Int)>0)=>.of ⟨⟨none,0,0⟩,[],rfl,rfl,O5⟩);refine Q2 (l':=0) (h':=0) (m':=0) rfl rfl rfl (by decide) (by decide) (by decide) ?_;have cG:G7 ⟨none,0,0⟩ ((0:Nat):Int) ((0:Nat):Int) ((0:Nat):Int) 1=⟨none,0,0⟩:=by simp[G7]
 rw[cG];refine Cg2 (n:=n) (ik:=.i64) Be (by kernel_rfl) (by omega) (by omega) fun q cap ob aY own=>?_;refine Q2 (l':=0) (h':=0) (m':=cap) rfl rfl rfl (by omega) (by omega) (NF _) ?_;have hs:G7 ⟨some q.z,n,cap⟩ ((0:Nat):Int) ((0:Nat):Int) (cap:Int) 1=⟨some q.z,0,cap⟩:=by
  simp only[G7];rw[ND (by omega)];simp[Addr.add]
 rw[hs];exact .of ⟨⟨some q.z,0,cap⟩,[(q,ob)],rfl,rfl,own⟩
def Co1(A:B1)(v:B6)(l:List PV)(h:Af A v l)(hb:(S0 l).length<=1099511627776)(hl:l.length<=1099511627776):
  CallF PP 189 #[.slice v.a v.len v.cap] A fun r L'=> ∃(s:B6) (seg:B1),r= .slice s.a s.len s.cap/\L'=seg++A/\C5 s 1 eB (F9 (S0 l)) seg:=by
 refine(e189 v).c ?_;have hC:=h.len;refine G1 (fun z' z L'=>L'=A/\ ∃i:Nat,i<=l.length/\z'=l.length-i/\z=(((S0 (l.take i)).length:Int),(i:Int),())) l.length ⟨rfl,0,by omega,by omega,rfl⟩ ?_;rintro z' z L1 ⟨gA,i,hi,rfl,rfl⟩;rw[gA];refine D3 (fun(hO:(i:Int)<(v.len:Int))=>?_) (fun(aM: ¬(i:Int)<(v.len:Int))=>?_)
 ·have hJ:i<l.length:=by omega
  obtain⟨a,ha,cH⟩:=h.at' hJ;have dI:=(h.val _ (NO hJ)).len;have hs:=As6 l hJ;have bV:=As5 l (i+1);have aU:(S0 (l.take (i+1))).length=(S0 (l.take i)).length+l[i].1.len:=by rw[hs,NR,dI]
  refine B7 ha (H7 (show(0:Int)<=(i:Int) by omega) hO (B5 l[i].1 cH ?_));have e1:IntKind.i64.wrap (((S0 (l.take i)).length:Int)+(l[i].1.len:Int))=((S0 (l.take (i+1))).length:Int):=by rw[D7 (by omega) (by omega),aU];omega
  simp only[e1];refine Bp (show¬((S0 (l.take (i+1))).length:Int)<0 by omega) ⟨l.length-(i+1),by omega,rfl,i+1,by omega,rfl,?_⟩;rw[D7 (by first|omega|(simp only;omega)) (by first|omega|(simp only;omega))];rfl
 ·obtain rfl:i=l.length:=by omega
  rw[OE];refine K3 [] A (Cg1 (S0 l).length hb) rfl ?_;rintro _ seg0-⟨s0,_,rfl,rfl,own0⟩;refine⟨(s0,()),rfl,?_⟩;rw[NT];refine G1 (fun z' z L'=> ∃(i:Nat) (s:B6) (seg:B1),i<=l.length/\z'=l.length-i/\z=(s,(i:Int),())/\L'=seg++A/\C5 s 1 eB (F9 (S0 (l.take i))) seg) l.length ⟨0,s0,seg0,by omega,by omega,rfl,rfl,own0⟩ ?_;rintro z' z _ ⟨i,s,seg,hi,rfl,rfl,rfl,own⟩;refine D3 (fun(hO:(i:Int)<(v.len:Int))=>?_) (fun(aM: ¬(i:Int)<(v.len:Int))=>?_)
  ·have hJ:i<l.length:=by omega
   obtain⟨a,ha,cH⟩:=h.at' hJ;have dI:=(h.val _ (NO hJ)).len;have hs:=As6 l hJ;have bV:=As5 l (i+1);have aU:(S0 (l.take (i+1))).length=(S0 (l.take i)).length+l[i].1.len:=by rw[hs,NR,dI]
   have lE:=own.sl.len;rw[Y1]at lE;refine B7 ha (H7 (show(0:Int)<=(i:Int) by omega) hO (B5 l[i].1 (cH.mono fun x hx=>OG _ hx) ?_));refine Q1 Be Dp [] A own rfl (.sl (Sl.right (h.val _ (NO hJ)))) (Ac _) (by omega) fun s' seg' bZ own'=>?_;rw[<-Mg,<-hs]at own';refine⟨l.length-(i+1),by omega,i+1,s',seg',by omega,rfl,?_,rfl,own'⟩;rw[D7 (by first|omega|(simp only;omega)) (by first|omega|(simp only;omega))];rfl
  ·obtain rfl:i=l.length:=by omega
   rw[OE]at own;exact .of ⟨s,seg,rfl,rfl,own⟩
def ES(A:B1)(v:B6)(l:List PV)(h:Af A v l)(hb:(S0 l).length<=1099511627776)(hl:l.length<=1099511627776):
  CallF PP 146 #[.slice v.a v.len v.cap] A fun r L'=> ∃(s:B6) (seg:B1),r= .slice s.a s.len s.cap/\L'=seg++A/\C5 s 1 eB (F9 (S0 l)) seg:=by
 refine(e146 v).c ?_;refine K3 [] [] (Co1 A v l h hb hl) (by simp) ?_;rintro _ _-⟨s,seg,rfl,rfl,own⟩;refine⟨(s,()),rfl,?_⟩;rw[NT,NP];exact .of ⟨s,seg,rfl,rfl,own⟩
def T0(key val:List UInt8):List UInt8:=E4 key.length 4++key++(E4 val.length 4++val)
def Cm(key val:List UInt8):List UInt8:=T0 key val++E4 (K0 (T0 key val)).toNat 4
def GE(key val:List UInt8):(T0 key val).length=key.length+val.length+8:=by
 unfold T0;simp only[NR,Df];omega
def GF(key val:List UInt8):(Cm key val).length=key.length+val.length+12:=by
 unfold Cm;rw[NR,GE,Df]
def Ek(n r:Nat)(b:List UInt8):List (List UInt8):=(List.range n).map fun i=>(b.drop (i*r)).take r
def As1(n r:Nat)(b:List UInt8):Ek (n+1) r b=Ek n r b++[(b.drop (n*r)).take r]:=by simp[Ek,TX]
def F8(key val:List UInt8)(c:Cf):List (List UInt8)×Int:=
 if key.length<1\/key.length>255 then([],2)else if val.length>65536 then([],4)else
 if Q3 key.length val.length c=0 then([],14)else(Ek (Q3 key.length val.length c).toNat (E0 c.2.2.1).toNat (Cm key val),0)
def Ov(key val:List UInt8)(c:Cf)(A:B1)(r:Value)(L':B1):Prop:= ∃(ov:B6) (oseg:B1) (gs:List PG),r= .t #[.slice ov.a ov.len ov.cap,.i (F8 key val c).2]/\L'=oseg++(E3 gs++A)/\C5 ov 1 tB (gs.map PG.val) oseg/\(∀g∈gs,g.Ok)/\gs.map PG.l=(F8 key val c).1
def Ov.err{key val:List UInt8}{e:Int}(h:F8 key val c=([],e)):Ov key val c A (.t #[.slice none 0 0,.i e]) A:=
 ⟨⟨none,0,0⟩,[],[],by rw[h],rfl,O5,by simp,by rw[h];rfl⟩
def Py{key value:Int}(h:Q3 key value c≠0):1<=key/\key<=255/\0<=value/\value<=65536/\E0 c.2.2.1≠0/\1<=Q3 key value c/\Q3 key value c<=8/\Q3 key value c<=c.2.1-2/\key+value+12<=Q3 key value c*E0 c.2.2.1/\H9 (Q3 key value c) c.2.1=Q3 key value c:=by
 unfold Q3 at h⊢;split at h
 ·exact absurd rfl h
 ·rename_i h0;rw[ND h0];obtain⟨h1,h2,h3,h4⟩:=Co7 h;have h5:=Co3 ((key+value+12+E0 c.2.2.1-1)/E0 c.2.2.1) c.2.1;have hr:=Nd (show E0 c.2.2.1≠0 by omega);refine⟨by omega,by omega,by omega,by omega,by omega,h3,h5.2,h2,?_,h4⟩;generalize E0 c.2.2.1=room at*;generalize hq:(key+value+12+room-1)/room=q at*;have gK:key+value+12+room-1<(q+1)*room:=by rw[<-hq];exact Int.lt_ediv_add_one_mul_self _ (by omega)
  rw[UB,Int.one_mul]at gK;have:=YP h1 (show 0<=room by omega);omega
def Ba4(s:ByteArray):s.data.toList.length=s.size:=Bf1 s
def Ar6(A:B1)(hT:Tab A)(key:ByteArray)(hk:key.size<=maxLen)(u:B6)(val:List UInt8)(hu:G0 A u val)(c:Cf)(hc:c.2.1<=9223372036854775807):
  CallF PP 97 #[.w key,.slice u.a u.len u.cap,.agg (ki4 c)] A (Ov key.data.toList val c A):=by
 refine(e97 key u c).c ?_;have fI:=hu.len;have nS:=Ba4 key;refine C9 fun n1 _=>?_;generalize ho:(n1,Obj.cells (ki4 c) 23)=o1;have lc: ∀L:B1,o1∈L->C0 n1.z [.i c.1,.i c.2.1,.i c.2.2.1,.i c.2.2.2.1] L:=fun L hm=>C2 (by rw[<-ho]at hm;exact hm) rfl;clear ho;refine C4 (EQ _ key.size) (decide (1<=(key.size:Int)/\(key.size:Int)<=255),()) rfl ?_;by_cases h1:1<=(key.size:Int)/\(key.size:Int)<=255
 case neg=>
  rw[OF h1];exact E9 rfl (.cons (.of (Ov.err (by unfold F8;rw[NE (by omega)]))))
 rw[OH h1];refine D8 rfl (D3 (fun(h2:(u.len:Int)>65536)=>.cons (.of (Ov.err (by unfold F8;rw[ND (by omega),NE (by omega)])))) (fun(h2: ¬(u.len:Int)>65536)=>?_));have lC:Q3 (key.size:Int) (u.len:Int) c=Q3 (key.data.toList.length:Int) (val.length:Int) c:=by rw[nS,fI]
 refine B5 c (lc _ NG) (C4 (Ab6 _ hT.cons key.size u.len c hc) (Q3 key.size u.len c,()) rfl ?_);rw[lC];refine Ex (fun(h3:Q3 (key.data.toList.length:Int) (val.length:Int) c=0)=>.cons (.of (Ov.err (by unfold F8;rw[ND (by omega),ND (by omega),NE h3])))) (fun(h3:Q3 (key.data.toList.length:Int) (val.length:Int) c≠0)=>?_);have hcr:F8 key.data.toList val c=(Ek (Q3 key.data.toList.length val.length c).toNat (E0 c.2.2.1).toNat (Cm key.data.toList val),0):=by unfold F8;rw[ND (by omega),ND (by omega),ND h3]
 obtain⟨_,_,_,_,gY,oJ,cv,_,tI,_⟩:=Py h3;have tT:=Nd gY;unfold Ov;rw[hcr];generalize hN:Q3 (key.data.toList.length:Int) (val.length:Int) c=N at oJ cv tI;obtain⟨n,rfl⟩: ∃n:Nat,N=n:=⟨N.toNat,by omega⟩;obtain⟨room,aK⟩: ∃r:Nat,E0 c.2.2.1=r:=⟨(E0 c.2.2.1).toNat,by omega⟩;rw[aK]at tT;simp only[aK,NK];refine K3 [] [] (HT (o1::A) ⟨none,0,0⟩ [] (Sl.nil 1) (by decide) key hk) (by simp) ?_;rintro _ _-⟨s1,sg1,rfl,rfl,own1⟩;have gS:Jd [] key=(E4 key.data.toList.length 4++key.data.toList,0):=by unfold Jd;rw[ND (by omega),nS];rfl
 rw[gS]at own1⊢;rw[NT,NP];refine⟨(s1,0,()),rfl,Mi (v:=u) (l:=val) (Sl.right (R:=sg1) (Sl.cons hu)) ?_⟩;have kW:(ByteArray.mk val.toArray).size=val.length:=by show val.toArray.size=_;simp
 refine K3 [] [] (HT (sg1++(o1::A)) ⟨none,0,0⟩ [] (Sl.nil 1) (by decide) ⟨val.toArray⟩ (by rw[kW];show val.length<=9223372036854775807;omega)) (by simp) ?_;rintro _ _-⟨s2,sg2,rfl,rfl,own2⟩;have lU:Jd [] ⟨val.toArray⟩=(E4 val.length 4++val,0):=by
  unfold Jd;rw[kW,ND (by omega)];simp
 rw[lU]at own2⊢;rw[NT,NP];refine⟨(s2,0,()),rfl,C9 fun n2 _=>?_⟩;have gF:Af ((n2,Obj.cells #[.slice s1.a s1.len s1.cap,.slice s2.a s2.len s2.cap] 37)::(sg2++(sg1++(o1::A)))) ⟨some n2.z,2,2⟩ [(s1,E4 key.data.toList.length 4++key.data.toList),(s2,E4 val.length 4++val)]:=by
  refine⟨⟨rfl,NF _,.inr ⟨_,rfl,C2 NG rfl⟩⟩,fun x hx=>?_⟩;have bC:x=(s1,E4 key.data.toList.length 4++key.data.toList)\/x=(s2,E4 val.length 4++val):=by simpa using hx
  rcases bC with rfl|rfl
  ·exact own1.sl.left.right.cons
  ·exact own2.sl.left.cons
 have eQ:S0 [((s1,E4 key.data.toList.length 4++key.data.toList):PV),(s2,E4 val.length 4++val)]=T0 key.data.toList val:=by simp[S0,T0]
 have xF:=GE key.data.toList val;refine K3 [] [] (ES _ ⟨some n2.z,2,2⟩ _ gF (by rw[eQ];omega) (by simp)) (by simp) ?_;rintro _ _-⟨s3,sg3,rfl,rfl,own3⟩;rw[eQ]at own3;rw[NT,NP];refine⟨(s3,()),rfl,?_⟩;generalize (n2,Obj.cells #[.slice s1.a s1.len s1.cap,.slice s2.a s2.len s2.cap] 37)=o2;refine C4 (AG _ s3 (T0 key.data.toList val) own3.sl.left (by omega)) (K0 (T0 key.data.toList val),()) rfl ?_;have dH:0<=K0 (T0 key.data.toList val)/\K0 (T0 key.data.toList val)<4294967296:=Oc 0 _;refine K3 [] [] (Vm (sg3++(o2::(sg2++(sg1++(o1::A))))) s3 (T0 key.data.toList val) own3.sl.left (by omega) (K0 (T0 key.data.toList val)) 4 (by omega)) (by simp) ?_;rintro _ _-⟨s4,sg4,rfl,rfl,own4⟩;have sZ:Y6 (T0 key.data.toList val) (K0 (T0 key.data.toList val)) 4=(Cm key.data.toList val,0):=by
  rw[Lg (by decide) (by omega) (by show(K0 (T0 key.data.toList val)).toNat<4294967296;omega)];rfl
 rw[sZ]at own4⊢;rw[NT,NP];refine⟨(s4,0,()),rfl,?_⟩;have cT:=GF key.data.toList val;generalize Cm key.data.toList val=E at own4 cT;have wA: ∃J0,sg4++(sg3++(o2::(sg2++(sg1++(o1::A)))))=J0++A/\o1∈J0/\G0 J0 s4 E:=⟨sg4++(sg3++(o2::(sg2++(sg1++[o1])))),by simp,by simp,own4.sl.left⟩;obtain⟨J0,eg,dU,hE0⟩:=wA;rw[eg];clear eg own4 own3 own2 own1 gF eQ xF dH sZ gS lU;refine G1 (fun z' z L'=> ∃(i:Nat) (s v:B6) (seg:B1) (gs:List PG) (J X Y:B1),i<=n/\z'=n-i/\z=(s,v,(i:Int),())/\L'=X++seg++Y/\(X++Y).Perm (E3 gs++(J++(J0++A)))/\G0 J0 s (E.drop (i*room))/\
   C5 v 1 tB (gs.map PG.val) seg/\(∀g∈gs,g.Ok)/\gs.map PG.l=Ek i room E) n
  ⟨0,s4,⟨none,0,0⟩,[],[],[],[],J0++A,by omega,by omega,rfl,rfl,NH _,by rw[RL,RY];exact hE0,O5,by simp,rfl⟩ ?_
 rintro z' z L ⟨i,s,v,seg,gs,J,X,Y,hi,rfl,rfl,rfl,hp,hs,own,aC,iG⟩;have aJ: ∀x∈J0,x∈X++seg++Y:=by
  intro x hx;have h5:x∈X++Y:=(hp.mem_iff (a:=x)).2 (by simp[hx]);have h6:x∈X\/x∈Y:=by simpa using h5
  rcases h6 with h6|h6<;>simp[h6]
 have dS:gs.length=i:=by have:=congrArg List.length iG;rw[NL,Ek,NL,SW]at this;exact this
 have bY:=own.len;rw[NL]at bY;refine D3 (fun(hO:(i:Int)<(n:Int))=>?_) (fun(aM: ¬(i:Int)<(n:Int))=>?_)
 ·refine B5 c.2.2.1 ((lc _ (aJ _ dU)).one 2 rfl) (C4 (Pu _ c.2.2.1) (E0 c.2.2.1,()) rfl ?_);rw[aK];have aU:=hs.len;have tR:=hs.cap;have gM:N8 (s.len:Int) (room:Int)=((min s.len room:Nat):Int):=by unfold N8;omega
  simp only[gM];have hsL:G0 (X++seg++Y) s (E.drop (i*room)):=Sl.mono hs aJ;refine Q2 (l':=0) (h':=min s.len room) (m':=s.cap) rfl rfl rfl (by omega) (by omega) (NF _) ?_;have cE:=Yu hsL (i:=0) (j:=min s.len room) (by omega) (by omega);have nW:((E.drop (i*room)).drop 0).take (min s.len room-0)=(E.drop (i*room)).take room:=by
   rw[RY,QK,aU,Nat.min_comm];exact(List.take_eq_take_min).symm
  rw[nW]at cE;generalize G7 s ((0:Nat):Int) ((min s.len room:Nat):Int) (s.cap:Int) 1=c1 at cE⊢;refine C9 fun n3 _=>?_;have gF:Af ((n3,Obj.cells #[.slice c1.a c1.len c1.cap] 37)::(X++seg++Y)) ⟨some n3.z,1,1⟩ [(c1,(E.drop (i*room)).take room)]:=by
   refine⟨⟨rfl,NF _,.inr ⟨_,rfl,C2 NG rfl⟩⟩,fun x hx=>?_⟩;have bC:x=(c1,(E.drop (i*room)).take room):=by simpa using hx
   subst bC;exact Sl.cons cE
  have eQ:S0 [((c1,(E.drop (i*room)).take room):PV)]=(E.drop (i*room)).take room:=by simp[S0]
  refine K3 [] [] (ES _ ⟨some n3.z,1,1⟩ _ gF (by rw[eQ,NW];omega) (by simp)) (by simp) ?_;rintro _ _-⟨s9,sg9,rfl,rfl,own9⟩;rw[eQ]at own9;rw[NT,NP];refine⟨(s9,()),rfl,C9 fun n4 _=>?_⟩;generalize (n3,Obj.cells #[.slice c1.a c1.len c1.cap] 37)=o3;refine Q1 Uv Vv ((n4,Obj.cells #[.slice s9.a s9.len s9.cap] 37)::(sg9++(o3::X))) Y own (by simp) (n:=1) (ws:=[PG.val ⟨s9,sg9,(E.drop (i*room)).take room⟩]) (x:=.slice (some n4.z) 1 1) (Src.sl (v:=⟨some n4.z,1,1⟩) ⟨rfl,NF _,.inr ⟨_,rfl,C2 NG rfl⟩⟩) rfl (by omega) fun v8 seg8 wU own8=>?_;generalize (n4,Obj.cells #[.slice s9.a s9.len s9.cap] 37)=o4;refine Q2 (l':=min s.len room) (h':=s.len) (m':=s.cap) rfl rfl rfl (by omega) (by omega) (NF _) ?_;have pU:=Yu hs (i:=min s.len room) (j:=s.len) (by omega) (by omega);have zW:((E.drop (i*room)).drop (min s.len room)).take (s.len-min s.len room)=E.drop ((i+1)*room):=by
   rw[PZ (by rw[OJ,<-aU];omega),QB];rcases Nat.le_total room s.len with h9|h9
   ·rw[Nat.min_eq_right h9,RV,Nat.one_mul]
   ·rw[OJ]at aU;rw[QF h9,TW (by omega),TW (by rw[RV];omega)]
  rw[zW]at pU;refine⟨n-(i+1),by omega,i+1,_,v8,seg8,gs++[⟨s9,sg9,(E.drop (i*room)).take room⟩],o4::o3::J,_,_,by omega,rfl,?_,rfl,?_,pU,?_,?_,?_⟩
  ·rw[D7 (by first|omega|(simp only;omega)) (by first|omega|(simp only;omega))];rfl
  ·rw[Kk,Tb]
   classical
   rw[ON]at hp⊢;intro z;have:=hp z;simp only[PM,OM,OP,OV,PJ]at this⊢;omega
  ·rw[NQ];exact own8
  ·intro z hz;rcases NJ.1 hz with h5|h5
   ·exact aC z h5
   ·rw[NM.1 h5];exact own9
  ·rw[NQ,iG,As1];rfl
 ·obtain rfl:i=n:=by omega
  refine .drop (A:=seg++(E3 gs++A)) (J:=J++J0) ⟨v,seg,gs,rfl,rfl,own,aC,iG⟩ ?_
  classical
  rw[ON]at hp⊢;intro z;have:=hp z;simp only[PM,OM,OP,OV,PJ]at this⊢;omega
def V2(b:List UInt8):List UInt8×List UInt8×Int:=
 if(H5 b 0).2.2≠0 then([],[],(H5 b 0).2.2)else
 if(H5 b (H5 b 0).2.1).2.2≠0 then([],[],(H5 b (H5 b 0).2.1).2.2)else
 if(J5 b (H5 b (H5 b 0).2.1).2.1 4).2≠0 then([],[],(J5 b (H5 b (H5 b 0).2.1).2.1 4).2)else
 if b.length>(H5 b (H5 b 0).2.1).2.1+4\/(H5 b 0).1.length<1\/(H5 b 0).1.length>255 then([],[],5)else
 if K0 (b.take (H5 b (H5 b 0).2.1).2.1)≠(J5 b (H5 b (H5 b 0).2.1).2.1 4).1 then([],[],12)else
 ((H5 b 0).1,(H5 b (H5 b 0).2.1).1,0)
def Jz(b:List UInt8)(A:B1)(r:Value)(L':B1):Prop:= ∃g:PG,r= .t #[AK (V2 b).1,g.val,.i (V2 b).2.2]/\L'=g.seg++A/\g.Ok/\g.l=(V2 b).2.1
def Jz.err{b:List UInt8}{e:Int}(h:V2 b=([],[],e)):Jz b A (.t #[.w ⟨#[]⟩,.slice none 0 0,.i e]) A:=⟨Lp,by rw[h];rfl,rfl,Td,by rw[h];rfl⟩
def Oy{b:List UInt8}{a:Nat}(h:a<=b.length):a<=(H5 b a).2.1/\(H5 b a).2.1<=b.length/\(H5 b a).1.length<=65536/\((H5 b a).2.2=0->(H5 b a).2.1=a+4+(H5 b a).1.length):=by
 have hg:=Pd b a 4;unfold H5;split
 ·rename_i h1;exact⟨NF _,h,by simp,fun h2=>absurd h2 h1⟩
 ·split
  ·exact⟨NF _,h,by simp,fun h=>absurd h (by simp)⟩
  ·split
   ·exact⟨NF _,h,by simp,fun h=>absurd h (by simp)⟩
   ·rename_i h1 h2 h3;simp only;rw[NW,OJ];omega
def Bc7(l:List UInt8):(ByteArray.mk l.toArray).size=l.length:=by show l.toArray.size=_;simp
def Ca6(A:B1)(v:B6)(l:List PV)(h:Af A v l)(hb:(S0 l).length<=1000000)(hl:l.length<=1099511627776):
  CallF PP 151 #[.slice v.a v.len v.cap] A (Jz (S0 l) A):=by
 refine(e151 v).c ?_;refine K3 [] [] (ES A v l h (by omega) hl) (by simp) ?_;rintro _ _-⟨s,seg,rfl,rfl,own⟩;rw[NT,NP];generalize S0 l=b at hb own⊢;refine⟨(s,()),rfl,K3 [] [] (Bl8 (seg++A) s b own.sl.left hb) (by simp) ?_⟩;rintro _ _-⟨m,R0,rfl,rfl,gY⟩;rw[NT,NP];have aU: ∀R:B1,G0 (R++(seg++A)) s b:=fun R=>own.sl.left.right;have mA:=own.sl.len;rw[Y1,OS]at mA;have tR:=own.cap;refine⟨(some m.z,()),rfl,K3 [] (seg++A) (JB m b 0 R0 gY) rfl ?_⟩;rintro _ R1-⟨rfl,hr1⟩;rw[NT];obtain⟨q1,q2,q3,q4⟩:=Oy (b:=b) (a:=0) (PQ _);refine⟨(⟨(H5 b 0).1.toArray⟩,(H5 b 0).2.2,()),rfl,?_⟩;refine Bb (fun(he:(H5 b 0).2.2≠0)=>.app (.app (.of (Jz.err (by unfold V2;rw[NE he]))))) (fun(he:(H5 b 0).2.2=0)=>?_);refine K3 [] (seg++A) (JB m b (H5 b 0).2.1 R1 hr1) rfl ?_;rintro _ R2-⟨rfl,sD⟩;rw[NT];obtain⟨w1,w2,w3,w4⟩:=Oy (b:=b) (a:=(H5 b 0).2.1) q2;refine⟨(⟨(H5 b (H5 b 0).2.1).1.toArray⟩,(H5 b (H5 b 0).2.1).2.2,()),rfl,?_⟩;refine Bb (fun(jU:(H5 b (H5 b 0).2.1).2.2≠0)=>.app (.app (.of (Jz.err (by unfold V2;rw[ND (by omega),NE jU]))))) (fun(jU:(H5 b (H5 b 0).2.1).2.2=0)=>?_);have hj:V2 b=if(J5 b (H5 b (H5 b 0).2.1).2.1 4).2≠0 then([],[],(J5 b (H5 b (H5 b 0).2.1).2.1 4).2)else
   if b.length>(H5 b (H5 b 0).2.1).2.1+4\/(H5 b 0).1.length<1\/(H5 b 0).1.length>255 then([],[],5)else
   if K0 (b.take (H5 b (H5 b 0).2.1).2.1)≠(J5 b (H5 b (H5 b 0).2.1).2.1 4).1 then([],[],12)else
   ((H5 b 0).1,(H5 b (H5 b 0).2.1).1,0):=by unfold V2;rw[ND (by omega),ND (by omega)]
 refine C4 (Reads.in (X:=[]) (Y:=seg++A) (Af8 m b _ R2 sD)) ((b.length:Int)-(H5 b (H5 b 0).2.1).2.1,()) rfl ?_;generalize (H5 b 0).1=key at q3 hj⊢;generalize H5 b (H5 b 0).2.1=t2 at sD w2 hj⊢;obtain⟨val,e,z⟩:=t2;simp only at sD w2 hj⊢;refine K3 [] (seg++A) (Bt9 m b e R2 sD 4) rfl ?_;rintro _ R3-⟨rfl,tV⟩;rw[NT];refine⟨((J5 b e 4).1,(J5 b e 4).2,()),rfl,?_⟩;refine Bb (fun(xG:(J5 b e 4).2≠0)=>.app (.app (.of (Jz.err (by rw[hj,NE xG]))))) (fun(xG:(J5 b e 4).2=0)=>?_);have gL:Ps b e 4=e+4:=by unfold Ps;rw[NE xG];rfl
 rw[gL]at tV;have aM:=(Pd b e 4).2.2.2 xG;refine C4 (Reads.in (X:=[]) (Y:=seg++A) (Af8 m b _ R3 tV)) ((b.length:Int)-(e+4:Nat),()) rfl ?_;refine D3 (fun(h4:(b.length:Int)-(e+4:Nat)>0)=>.app (.app (.of (Jz.err (by rw[hj,ND (by omega),NE (by omega)]))))) (fun(h4: ¬(b.length:Int)-(e+4:Nat)>0)=>?_);refine C4 (EQ _ _) (decide (1<=((ByteArray.mk key.toArray).size:Int)/\((ByteArray.mk key.toArray).size:Int)<=255),()) rfl ?_;rw[Bc7];by_cases h5:1<=(key.length:Int)/\(key.length:Int)<=255
 case neg=>
  rw[OF h5];exact E9 rfl (.app (.app (.of (Jz.err (by rw[hj,ND (by omega),NE (by omega)])))))
 rw[OH h5];have hwe:IntKind.i64.wrap ((s.len:Int)-((b.length:Int)-(e:Int)))=((e:Nat):Int):=by rw[mA,D7 (by omega) (by omega)];omega
 simp only[hwe];refine D8 rfl (Q2 (l':=0) (h':=e) (m':=s.cap) rfl rfl rfl (by omega) (by omega) (NF _) ?_);have cE:=Yu (aU R3) (i:=0) (j:=e) (by omega) (by omega);rw[RY,QK]at cE;refine C4 (As3 _ _ (b.take e) cE (by rw[NW];omega) (J5 b e 4).1) (K0 (b.take e)==(J5 b e 4).1,()) rfl ?_;by_cases h6:K0 (b.take e)=(J5 b e 4).1
 ·have zL:V2 b=(key,val,0):=by rw[hj,ND (by omega),ND (by omega),ND (by simpa using h6)]
  refine D8 (by simp[h6]) (LH fun n ob w hw own2 _=>?_);unfold Jz;rw[zL];refine .drop (A:=[(n,ob)]++A) (J:=R3++seg) ⟨⟨w,[(n,ob)],val⟩,rfl,rfl,own2,rfl⟩ ?_
  classical
  rw[ON];intro x;simp only[PM,OM,OP,OV,PJ];omega
 ·refine E9 (by simp[h6]) (.app (.app (.of (Jz.err (by rw[hj,ND (by omega),ND (by omega),NE h6])))))
def ML(ok:G3 d)(b p:Int):(I5 d b p).1.length<=512:=by
 have hS:=ok.c.s;unfold I5;split
 ·simp
 ·split
  ·simp
  ·rename_i k hk;split
   ·show(blk d.c.S).length<=512;unfold blk;rw[PE];omega
   ·show(k.pages.getD p.toNat []).length<=512;rw[NX];cases h:k.pages[p.toNat]? with
    |none=>simp
    |some l=>have:=(ok.pg k (QI hk)).2 l (QI h);simp only[UE];omega
def R6(d:B8)(b pg:Int):Hd×List UInt8×Int:=
 if(I5 d b pg).2=0 then if(C1 (I5 d b pg).1).2.2=0 then C1 (I5 d b pg).1 else(hz,[],8)else(hz,[],8)
def Aa8(ok:G3 d)(b pg:Int):(R6 d b pg).2.1.length<=512:=by
 unfold R6;split
 ·split
  ·exact OK (Wz _) (ML ok b pg)
  ·simp
 ·simp
def CL(h:(R6 d b pg).2.2=0):(I5 d b pg).2=0/\(C1 (I5 d b pg).1).2.2=0/\R6 d b pg=C1 (I5 d b pg).1:=by
 unfold R6 at h⊢;split at h
 ·split at h
  ·rename_i h1 h2;rw[NE h1,NE h2];exact⟨h1,h2,rfl⟩
  ·cases h
 ·cases h
def Al(d:B8)(b pg:Int):Nat->Option (List (List UInt8))
 |0=>some []
 |n+1=>match Al d b pg n with
  |some l=>if(R6 d b (pg+n)).2.2=0 then some (l++[(R6 d b (pg+n)).2.1])else none
  |none=>none
def Aa6: ∀{n m:Nat},n<=m->Al d b pg n=none->Al d b pg m=none
  |n,m,h,hn=>by
    induction m with
    | zero => obtain rfl:n=0:=by omega
              exact hn
    |succ m ih=>
      rcases PY m n with h1|h1
      · obtain rfl:n=m+1:=by omega
        exact hn
      · rw[Al,ih h1]
theorem CK{d:B8}(ok:G3 d){b pg:Int}: ∀{n:Nat} {l:List (List UInt8)},Al d b pg n=some l->l.length=n/\ ∀x∈l,x.length<=512
 |0,l,h=>by obtain rfl:=NI h;exact⟨rfl,by simp⟩
 |n+1,l,h=>by
  rw[Al]at h;split at h
  ·rename_i l' bQ;split at h
   ·obtain rfl:=NI h;obtain⟨h1,h2⟩:=CK ok bQ;refine⟨by simp[h1],fun x hx=>?_⟩;rcases NJ.1 hx with hx|hx
    ·exact h2 x hx
    ·rw[NM.1 hx];exact Aa8 ok _ _
   ·cases h
  ·cases h
def Aa7{n:Nat}{l:List (List UInt8)}(h:Al d b pg n=some l)(h0:0<n):(R6 d b pg).2.2=0:=by
 cases h1:Al d b pg 1 with
 |none=>rw[Aa6 h0 h1]at h;cases h
 |some l1=>
  rw[Al,Al]at h1;simp only[XP,XQ]at h1;split at h1
  ·assumption
  ·cases h1
def Lz(p:It)(h:Hd):Prop:=h.1=2/\h.2.1=0/\h.2.2.2.1=p.2.2.1/\h.2.2.2.2.1=p.2.1
instance (p:It) (h:Hd):Decidable (Lz p h):=by unfold Lz;infer_instance
def C7(d:B8)(p:It):List UInt8×List UInt8×Int:=
 if(I5 d p.1 0).2≠0 then([],[],(I5 d p.1 0).2)else
 if(R6 d p.1 p.2.1).2.2=0/\Lz p (R6 d p.1 p.2.1).1 then
  match Al d p.1 p.2.1 (R6 d p.1 p.2.1).1.2.2.1.toNat with
  |some l=>V2 l.flatten
  |none=>([],[],8)
 else([],[],8)
def Jb(q:List UInt8×List UInt8×Int)(A:B1)(r:Value)(L':B1):Prop:= ∃g:PG,r= .t #[AK q.1,g.val,.i q.2.2]/\L'=g.seg++A/\g.Ok/\g.l=q.2.1
def Jb.err{e:Int}(h:q=([],[],e)):Jb q A (.t #[.w ⟨#[]⟩,.slice none 0 0,.i e]) A:=⟨Lp,by rw[h];rfl,rfl,Td,by rw[h];rfl⟩
def Jb.no{J L2:B1}{e:Int}(h:q=([],[],e))(hp:L2.Perm (A++J)):HL.Ends (Jb q A) (.t #[.w ⟨#[]⟩,.slice none 0 0,.i e]) L2:=.drop (Jb.err h) hp
def Am2(gs:List PG):S0 (O8 gs)=(gs.map PG.l).flatten:=by
 induction gs with
 |nil=>rfl
 |cons g r ih=>simp only[S0,O8,NS,OL,UP]at ih⊢;rw[ih]
theorem Am6: ∀(l:List (List UInt8)),(∀x∈l,x.length<=512)->l.flatten.length<=l.length*512
 |[],_=>by simp
 |x::r,h=>by
  have h1:=Am6 r fun y hy=>h y (by simp[hy]);have h2:=h x (by simp);simp only[UP,NR,NU];omega
def FT(m:Nat)(d:B8)(A:B1)(h:FH m d A)(ok:G3 d)(p:It)(aH:Q4 .i64 p.2.1):CallF PP 104 #[.p m,.agg (ki3 p)] A (Jb (C7 d p) A):=by
 refine(c104 (some m.z) p).c ?_;have cd:=Rv aH;have hP:=DG.pb ok;refine O1 (BN m d A h ok p.1 0) ?_;rintro _ _-⟨g0,rfl,rfl,-,-⟩;refine⟨(g0.v,(I5 d p.1 0).2,()),rfl,D6 (fun(h0:(I5 d p.1 0).2=0)=>?_) (fun(h0: ¬(I5 d p.1 0).2=0)=>Jb.no (by unfold C7;rw[NE h0]) OT)⟩;have aT: ¬((R6 d p.1 p.2.1).2.2=0/\Lz p (R6 d p.1 p.2.1).1)->C7 d p=([],[],8):=fun hh=>by unfold C7;rw[ND (by simpa using h0),ND hh]
 refine G1 (fun z' z L'=> ∃(gs:List PG) (s:B6) (sg J:B1) (n:Nat),z=(s,(n:Int),())/\z'=20-gs.length/\L'.Perm (sg++(E3 gs++(J++A)))/\C5 s 1 tB (gs.map PG.val) sg/\(∀g∈gs,g.Ok)/\gs.length<=n/\n<=16/\Al d p.1 p.2.1 gs.length=some (gs.map PG.l)/\
  ((gs=[]/\n=1)\/(0<gs.length/\0<=p.2.1/\p.2.1<=16/\Lz p (R6 d p.1 p.2.1).1/\(R6 d p.1 p.2.1).1.2.2.1=n))) 20
  ⟨[],⟨none,0,0⟩,[],g0.seg,1,rfl,rfl,NH _,O5,by simp,by simp,by omega,rfl,.inl ⟨rfl,rfl⟩⟩ ?_
 rintro z' z L1 ⟨gs,s,sg,J,n,rfl,rfl,mH,own,aC,mV,zA,sF,aO⟩;dsimp only;have aU:=own.sl.len;rw[NL]at aU;refine D6 (fun(hO:(s.len:Int)<n)=>?_) (fun(aM: ¬(s.len:Int)<n)=>?_)
 ·have rV: -9223372036854775808<=p.2.1+(s.len:Int)/\p.2.1+(s.len:Int)<=9223372036854775807:=by
   rcases aO with⟨rfl,-⟩|⟨-,h1,h2,-⟩
   ·simp at aU;omega
   ·omega
  refine H3 rV (H0 (BN m d A h ok p.1 (p.2.1+s.len)) (R:=sg++(E3 gs++J)) (pc fun z=>by have:=E8 mH z;simp only[C3]at*;omega) ?_);have hse:p.2.1+(s.len:Int)=p.2.1+(gs.length:Int):=by omega
  rw[hse];rintro _ _ ⟨g1,rfl,rfl,eM,zS⟩;have bL:(R6 d p.1 (p.2.1+(gs.length:Int))).2.2≠0->C7 d p=([],[],8):=by
   intro hh;rcases aO with⟨rfl,-⟩|⟨zQ,-,-,jQ,qU⟩
   ·exact aT fun h=>hh (by simpa using h.1)
   ·have h3:Al d p.1 p.2.1 (gs.length+1)=none:=by rw[Al,sF];simp only;rw[ND hh]
    have h4:=Aa7 sF zQ;unfold C7;rw[ND (by simpa using h0),NE ⟨h4,jQ⟩,qU,NK,Aa6 (show gs.length+1<=n by omega) h3]
  refine⟨_,NH _,(g1.v,(I5 d p.1 (p.2.1+(gs.length:Int))).2,()),rfl,D6 (fun(he:(I5 d p.1 (p.2.1+(gs.length:Int))).2=0)=>?_) (fun(he: ¬(I5 d p.1 (p.2.1+(gs.length:Int))).2=0)=>Jb.no (J:=g1.seg++(sg++(E3 gs++J))) (bL (by unfold R6;rw[ND he];decide)) (pc fun z=>by simp only[C3]at*;omega))⟩;refine H0 (CG (g1.seg++A) g1.v (I5 d p.1 (p.2.1+(gs.length:Int))).1 (by rw[<-zS];exact Sl.left eM.sl) (by have:=ML ok p.1 (p.2.1+(gs.length:Int));omega)) (NH _) ?_;rintro _ _ ⟨s2,sg2,rfl,rfl,own2⟩;generalize hq:C1 (I5 d p.1 (p.2.1+(gs.length:Int))).1=q at own2;refine⟨_,NH _,(q.1,s2,q.2.2,()),rfl,D6 (fun(jU:q.2.2=0)=>?_) (fun(jU: ¬q.2.2=0)=>Jb.no (J:=sg2++(g1.seg++(sg++(E3 gs++J)))) (bL (by unfold R6;rw[NE he,ND (by rw[hq];exact jU)];decide)) (pc fun z=>by simp only[C3]at*;omega))⟩;have yP:R6 d p.1 (p.2.1+(gs.length:Int))=q:=by unfold R6;rw[NE he,hq,NE jU]
  have hqk:=Ik (Wx (b:=(I5 d p.1 (p.2.1+(gs.length:Int))).1) (by rw[hq];exact jU));rw[hq]at hqk;have fC:q.2.1.length<=512:=by rw[<-yP];exact Aa8 ok _ _
  refine V9 (fun y L'=>L'=sg2++(g1.seg++A)++(sg++(E3 gs++J))/\ ∃n':Nat,y=((n':Int),())/\gs.length<n'/\n'<=16/\0<=p.2.1/\p.2.1<=16/\Lz p (R6 d p.1 p.2.1).1/\(R6 d p.1 p.2.1).1.2.2.1=n') ?_ ?_
  ·rintro _ _ ⟨rfl,n',rfl,oJ,iQ,bJ,oH,jQ,qU⟩;refine Iv Uv Vv own (Y:=sg2++(g1.seg++A)++(E3 gs++J)) (ws:=[Nh (s2,q.2.1)]) (pc fun z=>by simp only[C3]at*;omega) rfl rfl (by omega) fun s3 sg3 cJ own3=>?_;refine⟨20-(gs.length+1),by omega,gs++[⟨s2,sg2,q.2.1⟩],s3,sg3,g1.seg++J,n',rfl,by simp,?_,?_,?_,by simp;omega,iQ,?_,.inr ⟨by simp,bJ,oH,jQ,qU⟩⟩
   ·rw[Kk,Tb];exact pc fun z=>by simp only[C3]at*;omega
   ·rw[NQ];exact own3
   ·intro g hg;rcases NJ.1 hg with hg|hg
    ·exact aC g hg
    ·rw[NM.1 hg];exact own2
   ·rw[NR,SS,Al,sF];simp only;rw[yP,NE jU,NQ];rfl
  ·intro j hj;refine D6 (fun(jH:(s.len:Int)=0)=>?_) (fun(jH: ¬(s.len:Int)=0)=>?_)
   ·have fW:gs.length=0:=by omega
    have qR:R6 d p.1 p.2.1=q:=by rw[<-yP,fW];simp
    have hZ: ¬Lz p q.1->HL.Ends (Jb (C7 d p) A) (.t #[.w ⟨#[]⟩,.slice none 0 0,.i 8]) (sg2++(g1.seg++A)++(sg++(E3 gs++J))):=fun hh=>
     Jb.no (J:=sg2++(g1.seg++(sg++(E3 gs++J)))) (aT fun hx=>hh (by rw[<-qR];exact hx.2)) (pc fun z=>by simp only[C3]at*;omega)
    refine D6 (fun(e1:q.1.1=2)=>?_) (fun e1=>hZ fun hx=>e1 hx.1);refine D6 (fun(e2:q.1.2.1=0)=>?_) (fun e2=>hZ fun hx=>e2 hx.2.1);refine D6 (fun(e3:q.1.2.2.2.1=p.2.2.1)=>?_) (fun e3=>hZ fun hx=>e3 hx.2.2.1);refine D6 (fun(e4:q.1.2.2.2.2.1=p.2.1)=>?_) (fun e4=>hZ fun hx=>e4 hx.2.2.2);have hf:=Js (by rw[<-Wk ok];exact he);rw[fW]at hf;exact hj _ _ ⟨rfl,q.1.2.2.1.toNat,by rw[TJ (by omega)],by omega,by omega,by omega,by omega,by rw[qR];exact⟨e1,e2,e3,e4⟩,by rw[qR];omega⟩
   ·rcases aO with⟨rfl,-⟩|⟨-,bJ,oH,jQ,qU⟩
    ·simp at aU;omega
    ·exact hj _ _ ⟨rfl,n,rfl,by omega,zA,bJ,oH,jQ,qU⟩
 ·rcases aO with⟨rfl,rfl⟩|⟨zQ,bJ,oH,jQ,qU⟩
  ·simp at aU;omega
  have zR:gs.length=n:=by omega
  have hb:=CK ok sF;have eQ:(S0 (O8 gs)).length<=1000000:=by
   rw[Am2];have:=Am6 _ hb.2;rw[hb.1]at this;omega
  refine O1 (Ca6 L1 s (O8 gs) (CU own aC (Jg mH) fun x hx=>mH.symm.subset (by simp[hx])) eQ (by simp[O8];omega)) ?_;rintro _ _-⟨g,rfl,rfl,hg,dS⟩;have jT:C7 d p=V2 (S0 (O8 gs)):=by
   unfold C7;rw[ND (by simpa using h0),NE ⟨Aa7 sF zQ,jQ⟩,qU,NK,<-zR,sF,Am2]
  refine⟨(⟨(V2 (S0 (O8 gs))).1.toArray⟩,g.v,(V2 (S0 (O8 gs))).2.2,()),rfl,.drop (A:=g.seg++A) (J:=sg++(E3 gs++J)) ⟨g,by rw[jT];rfl,rfl,hg,by rw[jT];exact dS⟩ (pc fun z=>by have:=E8 mH z;simp only[C3]at*;omega)⟩
section
variable {α:Type} (key:α->Int)
def X7:List α->α->List α
 |[],x=>[x]
 |y::r,x=>if key x<key y then y::X7 r x else x::y::r
def Fu(l:List α):List α:=(l.foldl (X7 key) []).reverse
theorem ET: ∀(r:List α) (x:α),(X7 key r x).Perm (x::r)
 |[],x=>NH _
 |y::r,x=>by
  rw[X7];split
  ·exact((ET r x).cons y).trans (TO x y r)
  ·exact NH _
theorem FK: ∀(l acc:List α),(l.foldl (X7 key) acc).Perm (l++acc)
 |[],acc=>NH _
 |x::l,acc=>by
  rw[RU];refine(FK l _).trans ?_;exact((ET key acc x).append_left l).trans (PC)
def Ih(l:List α):(Fu key l).Perm l:=by
 unfold Fu;refine(List.reverse_perm _).trans ?_;have:=FK key l []
 rwa [NP]at this
theorem Ai6: ∀(r:List α) (x:α),r.Pairwise (fun a b=>key b<=key a)->(X7 key r x).Pairwise (fun a b=>key b<=key a)
 |[],x,_=>by simp[X7]
 |y::r,x,h=>by
  rw[X7];rw[QW]at h;split
  ·rename_i hO;rw[QW];refine⟨fun z hz=>?_,Ai6 r x h.2⟩;rcases OC.1 ((ET key r x).subset hz)with rfl|hz
   ·omega
   ·exact h.1 z hz
  ·rename_i aM;rw[QW];refine⟨fun z hz=>?_,by rw[QW];exact h⟩;rcases OC.1 hz with rfl|hz
   ·omega
   ·have:=h.1 z hz;omega
theorem Al5: ∀(l acc:List α),acc.Pairwise (fun a b=>key b<=key a)->(l.foldl (X7 key) acc).Pairwise (fun a b=>key b<=key a)
 |[],acc,h=>h
 |x::l,acc,h=>Al5 l _ (Ai6 key acc x h)
def Cb2(l:List α):(Fu key l).Pairwise (fun a b=>key a<=key b):=by
 unfold Fu;rw[List.pairwise_reverse];exact Al5 key l [] List.Pairwise.nil
theorem Ai7{β:Type}(f:α->β)(kb:β->Int)(h: ∀x,kb (f x)=key x): ∀(r:List α) (x:α),(X7 key r x).map f=X7 kb (r.map f) (f x)
 |[],x=>rfl
 |y::r,x=>by
  rw[X7,NS,X7,h,h];split
  ·rw[NS,Ai7 f kb h r x]
  ·rfl
theorem Al6{β:Type}(f:α->β)(kb:β->Int)(h: ∀x,kb (f x)=key x): ∀(l acc:List α),(l.foldl (X7 key) acc).map f=(l.map f).foldl (X7 kb) (acc.map f)
 |[],acc=>rfl
 |x::l,acc=>by rw[RU,NS,RU,Al6 f kb h l,Ai7 key f kb h]
def Cb3{β:Type}(f:α->β)(kb:β->Int)(h: ∀x,kb (f x)=key x)(l:List α):(Fu key l).map f=Fu kb (l.map f):=by
 unfold Fu;rw[List.map_reverse,Al6 key f kb h,UV]
end
abbrev HD:=Int×Int×List It
structure HE where
 b:Int
 ep:Int
 v:B6
 seg:B1
 l:List It
variable{h:HE}{hs:List HE}
def HE.enc(h:HE):List Value:=[.i h.b,.i h.ep,.slice h.v.a h.v.len h.v.cap]
def HE.Ok(h:HE):Prop:=C5 h.v 3 Gx (h.l.flatMap P6) h.seg
def HE.dat(h:HE):HD:=(h.b,h.ep,h.l)
def HE.enc_len(h:HE):h.enc.length=3:=rfl
def U1(l:List HE):B1:=l.flatMap HE.seg
def Ce8(a b:List HE):U1 (a++b)=U1 a++U1 b:=OD
def Ce7(a:HE):U1 [a]=a.seg:=by simp[U1]
def Am8(f:α->B1){a b:List α}(h:a.Perm b)(z:Nat×Obj):cnt (a.flatMap f) z=cnt (b.flatMap f) z:=by
 induction h with
 |nil=>rfl
 |cons x _ ih=>simp only[OL,C3,ih]
 |swap x y l=>simp only[OL,C3];omega
 |trans _ _ i1 i2=>rw[i1,i2]
abbrev Fz:TypeId:=131
abbrev JM:TypeId:=119
def Cm4:V4 PP JM Fz 3 40 [.i 0,.i 0,.slice none 0 0]:=De (by kernel_rfl) (by kernel_rfl) rfl (by decide) (by decide)
def Be1:W6 PP JM:=.inl ⟨Fz,by kernel_rfl⟩
abbrev JJ:TypeId:=220
def Cm1:V4 PP JJ Fk 1 24 [.slice none 0 0]:=De (by kernel_rfl) (by kernel_rfl) rfl (by decide) (by decide)
def Bd9:W6 PP JJ:=.inl ⟨Fk,by kernel_rfl⟩
def Co2(L:B1)(x y:HE)(hx:0<=x.ep/\x.ep<=4294967296)(hy:0<=y.ep/\y.ep<=4294967296):
  Reads PP 166 #[.agg #[.i x.b,.i x.ep,.slice x.v.a x.v.len x.v.cap],.agg #[.i y.b,.i y.ep,.slice y.v.a y.v.len y.v.cap]] L (.i (x.ep-y.ep)):=by
 unfold Reads;refine(c166 (x.b,x.ep,x.v,()) (y.b,y.ep,y.v,())).c ?_;exact H3 (by simp only;omega) (.of ⟨rfl,rfl⟩)
def Cb4(v:B6)(hs:List HE)(seg R:B1)(own:C5 v 3 Fz (hs.flatMap HE.enc) seg)(bS: ∀h∈hs,0<=h.ep/\h.ep<=4294967296)(hC:hs.length<=1000):
  CallF PP 243 #[.slice v.a v.len v.cap,.i 0,.i hs.length,.func (.func 166) #[] #[]] (seg++R) fun r L'=> ∃seg',r= .t #[]/\L'=seg'++R/\C5 v 3 Fz ((Fu HE.ep hs).flatMap HE.enc) seg':=by
 refine(c243 v 0 hs.length ⟨.func 166,#[],#[]⟩).c ?_;refine H3 (by omega) ?_;refine G1 (fun z' z L'=> ∃(i:Nat) (acc:List HE) (sg:B1),z=((i:Int),())/\z'=2000-i/\1<=i/\i<=max 1 hs.length/\acc=(hs.take i).foldl (X7 HE.ep) []/\L'.Perm (sg++R)/\C5 v 3 Fz ((acc.reverse++hs.drop i).flatMap HE.enc) sg) 1999
  ⟨1,_,seg,rfl,rfl,by omega,by omega,rfl,NH _,?_⟩ ?_
 ·cases hs with
  |nil=>exact own
  |cons h t=>exact own
 rintro z' z L1 ⟨i,acc,sg,rfl,rfl,hi1,eZ,rW,hp,own1⟩;dsimp only;have aF:acc.Perm (hs.take i):=by rw[rW];have:=FK HE.ep (hs.take i) [];rwa [NP]at this
 have cT:acc.length=min i hs.length:=by rw[aF.length_eq,NW]
 refine D6 (fun(hO:(i:Int)<hs.length)=>?_) (fun(aM: ¬(i:Int)<hs.length)=>?_)
 ·have hi:i<hs.length:=by omega
  have fY:hs.drop i=hs[i]::hs.drop (i+1):=OZ hi;generalize hx:hs[i]=x at fY;have hxe:0<=x.ep/\x.ep<=4294967296:=bS x (by rw[<-hx];exact NO hi);have aO: ∀acc',acc'=X7 HE.ep acc x->acc'=(hs.take (i+1)).foldl (X7 HE.ep) []:=fun acc' h=>by
   rw[h,OB hi,XR,<-rW,hx];rfl
  rw[fY]at own1;have jV: ∀(r p:List HE) (sg' L':B1),L'.Perm (sg'++R)->C5 v 3 Fz ((r.reverse++x::(p++hs.drop (i+1))).flatMap HE.enc) sg'->X7 HE.ep acc x=p.reverse++x::r->
    ∃k',k'<2000-i/\ ∃(i':Nat) (acc:List HE) (sg:B1),((((i:Int)+1:Int),()):D2 [lI])=((i':Int),())/\k'=2000-i'/\1<=i'/\i'<=max 1 hs.length/\acc=(hs.take i').foldl (X7 HE.ep) []/\L'.Perm (sg++R)/\C5 v 3 Fz ((acc.reverse++hs.drop i').flatMap HE.enc) sg:=by
   intro r p sg' L' dC own' he;refine⟨2000-(i+1),by omega,i+1,X7 HE.ep acc x,sg',rfl,rfl,by omega,by omega,aO _ rfl,dC,?_⟩;rw[he,XS,XT,List.reverse_reverse];simpa[NZ]using own'
  refine G1 (fun z' z L'=> ∃(r p:List HE) (sg:B1),z=((r.length:Int),())/\z'=r.length/\acc=p.reverse++r/\X7 HE.ep acc x=p.reverse++X7 HE.ep r x/\L'.Perm (sg++R)/\C5 v 3 Fz ((r.reverse++x::(p++hs.drop (i+1))).flatMap HE.enc) sg) acc.length
   ⟨acc,[],sg,by rw[cT,QF (by omega)],rfl,rfl,rfl,hp,own1⟩ ?_
  rintro z' z L2 ⟨r,p,sg2,rfl,rfl,yI,rF,hY,own2⟩;dsimp only;have bx:r.length<=1000:=by have:=congrArg List.length yI;rw[NR]at this;omega
  refine V9 (fun _ L'=>L'=L2/\ ∃y r',r=y::r'/\x.ep<y.ep) ?_ ?_
  ·rintro _ _ ⟨rfl,y,r',rfl,jG⟩;have fE:((y::r').length:Int)-1=(r'.length:Int):=by simp
   have fA:(y::r').reverse++x::(p++hs.drop (i+1))=r'.reverse++y::(x::(p++hs.drop (i+1))):=by simp
   rw[fA]at own2;have oJ:r'.length<(r'.reverse++y::(x::(p++hs.drop (i+1)))).length:=by simp
   have iQ:r'.length+1<(r'.reverse++y::(x::(p++hs.drop (i+1)))).length:=by simp
   have g1:(r'.reverse++y::(x::(p++hs.drop (i+1))))[r'.length]'oJ=y:=by rw[VZ (by simp)];simp
   have g2:(r'.reverse++y::(x::(p++hs.drop (i+1))))[r'.length+1]'iQ=x:=by rw[VZ (by simp)];simp
   refine H3 (by simp only[fE];omega) (H3 (by simp only[fE];omega) ?_);rw[fE];refine Uu HE.enc_len (by decide) own2 (Jg hY) rfl oJ fun b0 iV kU=>?_;refine Uu HE.enc_len (by decide) own2 (Jg hY) (n:=r'.length+1) (by simp) iQ fun b1 dM aj=>?_;rw[g1]at kU;rw[g2]at aj;refine B5 (y.b,y.ep,y.v,()) kU (B5 (x.b,x.ep,x.v,()) aj ?_);refine Vt HE.enc_len (by decide) own2 dM iQ y hY fun sg3 L3 aW own3=>?_;have e3:(r'.reverse++y::(x::(p++hs.drop (i+1)))).set (r'.length+1) y=r'.reverse++y::(y::(p++hs.drop (i+1))):=by
    rw[XU _ _ (by simp)];simp
   rw[e3]at own3;refine Uu HE.enc_len (by decide) own3 (Jg aW) (n:=r'.length) rfl (by simp) fun b2 cZ ha5=>?_;refine Vt HE.enc_len (by decide) own3 cZ (by simp) x aW fun sg4 L4 bU own4=>?_;have e4:(r'.reverse++y::(y::(p++hs.drop (i+1)))).set r'.length x=r'.reverse++x::((y::p)++hs.drop (i+1)):=by
    rw[XU _ _ (by simp)];simp
   rw[e4]at own4;refine H3 (by omega) ⟨r'.length,by simp,r',y::p,sg4,rfl,rfl,?_,?_,bU,own4⟩
   ·rw[yI];simp
   ·rw[rF,X7,NE jG];simp
  ·intro j hj;refine D6 (fun(h0:(r.length:Int)>0)=>?_) (fun(h0: ¬(r.length:Int)>0)=>?_)
   ·obtain⟨y,r',rfl⟩: ∃y r',r=y::r':=by
     cases r with
     |nil=>simp at h0
     |cons y r'=>exact⟨y,r',rfl⟩
    have fE:((y::r').length:Int)-1=(r'.length:Int):=by simp
    have fA:(y::r').reverse++x::(p++hs.drop (i+1))=r'.reverse++y::(x::(p++hs.drop (i+1))):=by simp
    have own2':=own2;rw[fA]at own2';have oJ:r'.length<(r'.reverse++y::(x::(p++hs.drop (i+1)))).length:=by simp
    have iQ:r'.length+1<(r'.reverse++y::(x::(p++hs.drop (i+1)))).length:=by simp
    have g1:(r'.reverse++y::(x::(p++hs.drop (i+1))))[r'.length]'oJ=y:=by rw[VZ (by simp)];simp
    have g2:(r'.reverse++y::(x::(p++hs.drop (i+1))))[r'.length+1]'iQ=x:=by rw[VZ (by simp)];simp
    have hye:0<=y.ep/\y.ep<=4294967296:=bS y (RP (aF.subset (by rw[yI];simp)));refine Uu HE.enc_len (by decide) own2' (Jg hY) (n:=r'.length+1) (by simp) iQ fun b1 dM nL=>?_;refine H3 (by simp only[fE];omega) ?_;rw[fE];refine Uu HE.enc_len (by decide) own2' (Jg hY) rfl oJ fun b2 cZ dZ=>?_;rw[g2]at nL;rw[g1]at dZ;refine B5 (x.b,x.ep,x.v,()) nL (B5 (y.b,y.ep,y.v,()) dZ ?_);refine Fe (by kernel_rfl) (C4 (Co2 L2 x y hxe hye) (x.ep-y.ep,()) rfl (D6 (fun(hc:x.ep-y.ep<0)=>hj _ _ ⟨rfl,y,r',rfl,by omega⟩) (fun(hc: ¬x.ep-y.ep<0)=>H3 (by omega) ?_)));refine jV (y::r') p sg2 L2 hY own2 ?_;rw[rF,X7,ND (by omega)]
   ·obtain rfl:r=[]:=by
     cases r with
     |nil=>rfl
     |cons y r'=>simp at h0
    exact H3 (by omega) (jV [] p sg2 L2 hY own2 rF)
 ·have e:acc.reverse++hs.drop i=Fu HE.ep hs:=by
   rw[YQ (by omega),NP,rW,PZ (by omega)];rfl
  rw[e]at own1;exact .drop (A:=sg++R) (J:=[]) ⟨sg,rfl,rfl,own1⟩ (by simpa using hp)
def Bd2(v:B6)(hs:List HE)(seg R:B1)(own:C5 v 3 Fz (hs.flatMap HE.enc) seg)(bS: ∀h∈hs,0<=h.ep/\h.ep<=4294967296)(hC:hs.length<=19):
  CallF PP 165 #[.slice v.a v.len v.cap,.func (.func 166) #[] #[]] (seg++R) fun r L'=> ∃seg',r= .t #[]/\L'=seg'++R/\C5 v 3 Fz ((Fu HE.ep hs).flatMap HE.enc) seg':=by
 refine(c165 v ⟨.func 166,#[],#[]⟩).c ?_;have bY:=own.sl.els_len HE.enc_len (by decide);have key:CallF PP 220 #[.slice v.a v.len v.cap,.i v.len,.func (.func 166) #[] #[]] (seg++R) fun r L'=> ∃seg',r= .t #[]/\L'=seg'++R/\C5 v 3 Fz ((Fu HE.ep hs).flatMap HE.enc) seg':=by
  refine(c220 v v.len ⟨.func 166,#[],#[]⟩).c ?_;refine G1 (fun z' z L'=>z'=0/\z=(0,20,())/\L'=seg++R) 0 ⟨rfl,rfl,rfl⟩ ?_;rintro z' z _ ⟨rfl,rfl,rfl⟩;dsimp only;refine Bp (show¬((20:Int)<=v.len) by omega) ?_;have cR:=Cb4 v hs seg R own bS (by omega);rw[<-bY]at cR;refine O1 cR ?_;rintro _ _-⟨seg',rfl,rfl,own'⟩;refine⟨(),rfl,G1 (fun z' z L'=>z'=0/\z=(20,())/\L'=seg'++R) 0 ⟨rfl,rfl,rfl⟩ ?_⟩;rintro z' z _ ⟨rfl,rfl,rfl⟩;dsimp only;exact Bp (show¬((20:Int)<v.len) by omega) (.of ⟨seg',rfl,rfl,own'⟩)
 refine O1 key ?_;rintro _ _-⟨seg',rfl,rfl,own'⟩;exact⟨(),rfl,.of ⟨seg',rfl,rfl,own'⟩⟩
structure BP where
 v:B6
 gs:List PG
 seg:B1
def BP.val(b:BP):Value:=.slice b.v.a b.v.len b.v.cap
def BP.all(b:BP):B1:=b.seg++E3 b.gs
def BP.ls(b:BP):List (List UInt8):=b.gs.map PG.l
structure BP.Ok(b:BP):Prop where
 own:C5 b.v 1 tB (b.gs.map PG.val) b.seg
 ok: ∀g∈b.gs,g.Ok
 few:b.gs.length<=16
 small: ∀g∈b.gs,g.l.length<=512
def Cn(l:List BP):B1:=l.flatMap BP.all
def At5(a b:List BP):Cn (a++b)=Cn a++Cn b:=OD
def At4(a:BP):Cn [a]=a.all:=by simp[Cn]
def BP.Ok.parts{Y:B1}{b:BP}(h:b.Ok)(hp:L.Perm (b.all++Y)):Af L b.v (O8 b.gs):=
 Bs3 h.own h.ok (Y:=Y) (hp.trans (pc fun z=>by simp only[BP.all,C3];omega))
def BP.Ok.bnd{b:BP}(h:b.Ok):(O8 b.gs).length<=1000000/\ ∀x∈O8 b.gs,x.2.length<=1000000:=by
 refine⟨by have:=h.few;simp[O8];omega,fun x hx=>?_⟩;simp only[O8,NY]at hx;obtain⟨g,hg,rfl⟩:=hx;have:=h.small g hg;simp only;omega
def W3(d:B8)(b:Nat):Option HD:=if(P1 (K7 d b).1).2 then some ((b:Int),(P1 (K7 d b).1).1.1,(P1 (K7 d b).1).1.2.2)else none
def Ay(d:B8)(n:Nat):List HD:=(List.range n).filterMap (W3 d)
def Hp(h:HD):Int:=h.2.1
def G4(d:B8):List HD:=Fu Hp (Ay d d.c.B)
def Jf{b:Nat}{x:HD}(h:W3 d b=some x):x.1=b/\(0<=x.2.1/\x.2.1<=1073741824)/\(∀y∈x.2.2,Hj y)/\x.2.2.Pairwise (fun a b=>a.2.1<b.2.1):=by
 unfold W3 at h;split at h
 ·obtain rfl:=NI h;have h1:=Bi5 (K7 d b).1;exact⟨rfl,Bi6 _,h1.1,h1.2⟩
 ·cases h
def Sq{n:Nat}{x:HD}(h:x∈Ay d n): ∃b:Nat,b<n/\W3 d b=some x:=by
 unfold Ay at h;rw[UF]at h;obtain⟨b,hb,hx⟩:=h;exact⟨b,QT.1 hb,hx⟩
def BO(d:B8)(n:Nat):Ay d (n+1)=Ay d n++(W3 d n).toList:=by
 unfold Ay;rw[TX,WA];congr 1
def Wl(d:B8)(n:Nat):(Ay d n).length<=n:=by
 have:=WB (W3 d) (List.range n);rw[SW]at this;exact this
structure J4(d:B8)(lv:B6)(hs:List HE)(aN:B1)(pv:B6)(bs:List BP)(pseg:B1):Prop where
 own:C5 lv 3 Fz (hs.flatMap HE.enc) aN
 ok: ∀h∈hs,h.Ok
 dat:hs.map HE.dat=G4 d
 pown:C5 pv 1 Fk (bs.map BP.val) pseg
 pok: ∀b∈bs,b.Ok
 pdat:bs.map BP.ls=(List.range d.c.B).map fun(b:Nat)=>(K7 d b).1
def Ct6(d:B8)(A:B1)(r:Value)(L':B1):Prop:= ∃(lv:B6) (hs:List HE) (aN:B1) (pv:B6) (bs:List BP) (pseg:B1),r= .t #[.slice lv.a lv.len lv.cap,.slice pv.a pv.len pv.cap,.i 0]/\
 L'=aN++(U1 hs++(pseg++(Cn bs++A)))/\J4 d lv hs aN pv bs pseg
def Bx9(ok:G3 d)(aG:d.down=false){b:Nat}(hb:b<d.c.B):(K7 d b).2=0:=by
 have hP:=ok.c.p;have hl:=ok.len;have:H6 d b 0=0:=by
  unfold H6;rw[ND (by simp[aG]),ND (by omega),ND (by omega)]
 unfold K7;rw[ND (by simp[this])]
def Ce9(m:Nat)(d:B8)(A:B1)(h:FH m d A)(ok:G3 d)(aG:d.down=false):CallF PP 121 #[.p m] A (Ct6 d A):=by
 refine(c121 (some m.z)).c ?_;have hB:=ok.c.b;refine C4 (Za m d A h) ((d.c.B,d.c.P,d.c.S,d.c.W,()),()) rfl ?_;refine G1 (fun z' z L'=> ∃(i:Nat) (lv:B6) (hs:List HE) (aN:B1) (pv:B6) (bs:List BP) (pseg J:B1),i<=d.c.B/\z'=d.c.B-i/\z=(lv,pv,(i:Int),())/\L'.Perm (aN++(U1 hs++(pseg++(Cn bs++(J++A)))))/\
   C5 lv 3 Fz (hs.flatMap HE.enc) aN/\(∀h∈hs,h.Ok)/\hs.map HE.dat=Ay d i/\C5 pv 1 Fk (bs.map BP.val) pseg/\(∀b∈bs,b.Ok)/\bs.map BP.ls=(List.range i).map fun(b:Nat)=>(K7 d b).1) d.c.B
  ⟨0,⟨none,0,0⟩,[],[],⟨none,0,0⟩,[],[],[],by omega,by omega,rfl,NH _,O5,by simp,rfl,O5,by simp,rfl⟩ ?_
 rintro z' z L1 ⟨i,lv,hs,aN,pv,bs,pseg,J,hi,rfl,rfl,hp,own,aC,bR,pown,pok,pdat⟩;dsimp only;have dI:bs.length=i:=by have:=congrArg List.length pdat;rw[NL,NL,SW]at this;exact this
 have sL:hs.length<=i:=by have:=congrArg List.length bR;rw[NL]at this;have h2:=Wl d i;omega
 have oK:=own.sl.els_len HE.enc_len (by decide);have eC:=pown.sl.len;rw[NL]at eC;refine D6 (fun(hO:(i:Int)<d.c.B)=>?_) (fun(aM: ¬(i:Int)<d.c.B)=>?_)
 ·have hJ:i<d.c.B:=by omega
  refine H0 (Bx7 m d A h ok i) (R:=aN++(U1 hs++(pseg++(Cn bs++J)))) (pc fun z=>by have:=E8 hp z;simp only[C3]at*;omega) ?_;rintro _ _ ⟨v,gs,seg,rfl,rfl,gown,gok,gl⟩;have jX:=Bx8 ok gl;have pV:BP.Ok ⟨v,gs,seg⟩:=⟨gown,gok,by simpa[O8]using jX.1,fun g hg=>jX.2 (g.v,g.l) (OQ (f:=fun g:PG=>(g.v,g.l)) hg)⟩;rw[Bx9 ok aG hJ];refine⟨_,NH _,(v,0,()),rfl,E9 rfl ?_⟩;refine Iv Cm1 Bd9 pown (Y:=seg++(E3 gs++A)++(aN++(U1 hs++(Cn bs++J)))) (ws:=[BP.val (⟨v,gs,seg⟩:BP)]) (pc fun z=>by simp only[C3];omega) rfl rfl (by omega) fun pv2 pseg2 kF pown2=>?_;refine O1 (Bi4 _ v (O8 gs) (pV.parts (b:=⟨v,gs,seg⟩) (Y:=pseg2++(A++(aN++(U1 hs++(Cn bs++J))))) (pc fun z=>by simp only[BP.all,C3];omega)) pV.bnd.1 pV.bnd.2) ?_;rintro _ _-⟨w,wseg,rfl,rfl,wown⟩;have kN:(O8 gs).map Prod.snd=(K7 d i).1:=by rw[St,gl]
  rw[kN]at wown⊢;have mJ:(bs++[(⟨v,gs,seg⟩:BP)]).map BP.ls=(List.range (i+1)).map fun(b:Nat)=>(K7 d b).1:=by rw[NQ,pdat,TX,NQ,RC,RC];exact congrArg (fun t=>_++[t]) gl
  have uA: ∀b∈bs++[(⟨v,gs,seg⟩:BP)],BP.Ok b:=fun b hb=>by
   rcases NJ.1 hb with hb|hb
   ·exact pok b hb
   ·rw[NM.1 hb];exact pV
  have ce:C5 pv2 1 Fk ((bs++[(⟨v,gs,seg⟩:BP)]).map BP.val) pseg2:=by rw[NQ];exact pown2
  refine⟨(((P1 (K7 d i).1).1.1,(P1 (K7 d i).1).1.2.1,w,()),(P1 (K7 d i).1).2,()),rfl,M0 (fun(aP:(P1 (K7 d i).1).2=true)=>?_) (fun(aP:(P1 (K7 d i).1).2=false)=>?_)⟩
  ·have eV:W3 d i=some ((i:Int),(P1 (K7 d i).1).1.1,(P1 (K7 d i).1).1.2.2):=by unfold W3;rw[NE aP]
   refine Iv Cm4 Be1 own (Y:=wseg++(pseg2++(seg++(E3 gs++A)++((U1 hs++(Cn bs++J)))))) (ws:=HE.enc ⟨i,(P1 (K7 d i).1).1.1,w,wseg,(P1 (K7 d i).1).1.2.2⟩) (pc fun z=>by simp only[C3];omega) rfl rfl (by omega) fun lv2 jN iR own2=>?_;refine H3 (by omega) ⟨d.c.B-(i+1),by omega,i+1,lv2,hs++[⟨i,(P1 (K7 d i).1).1.1,w,wseg,(P1 (K7 d i).1).1.2.2⟩],jN,pv2,bs++[(⟨v,gs,seg⟩:BP)],pseg2,J,by omega,rfl,rfl,?_,?_,?_,?_,ce,uA,mJ⟩
   ·rw[Ce8,Ce7,At5,At4];exact pc fun z=>by simp only[BP.all,C3];omega
   ·rw[OD,PU];exact own2
   ·intro x hx;rcases NJ.1 hx with hx|hx
    ·exact aC x hx
    ·rw[NM.1 hx];exact wown
   ·rw[BO,eV,NQ,bR];rfl
  ·have eV:W3 d i=none:=by unfold W3;rw[ND (by simp[aP])]
   refine H3 (by omega) ⟨d.c.B-(i+1),by omega,i+1,lv,hs,aN,pv2,bs++[(⟨v,gs,seg⟩:BP)],pseg2,J++wseg,by omega,rfl,rfl,?_,own,aC,?_,ce,uA,mJ⟩
   ·rw[At5,At4];exact pc fun z=>by simp only[BP.all,C3];omega
   ·rw[BO,eV,bR];simp
 ·obtain rfl:i=d.c.B:=by omega
  have bS: ∀x∈hs,0<=x.ep/\x.ep<=4294967296:=by
   intro x hx;have hm:x.dat∈Ay d d.c.B:=by rw[<-bR];exact OQ hx
   obtain⟨b,-,hb⟩:=Sq hm;have h1:=(Jf hb).2.1;have h2:x.dat.2.1=x.ep:=rfl;omega
  refine O1 (CallF.perm hp.symm (Bd2 lv hs aN (U1 hs++(pseg++(Cn bs++(J++A)))) own bS (by omega))) ?_;rintro _ _-⟨jN,rfl,rfl,own2⟩;refine⟨(),rfl,.drop (A:=jN++(U1 (Fu HE.ep hs)++(pseg++(Cn bs++A)))) (J:=J) ⟨lv,Fu HE.ep hs,jN,pv,bs,pseg,rfl,rfl,own2,fun x hx=>aC x ((Ih HE.ep hs).subset hx),?_,pown,pok,pdat⟩ ?_⟩
  ·rw[Cb3 HE.ep HE.dat Hp (fun _=>rfl),bR];rfl
  ·exact pc fun z=>by have:=Am8 HE.seg (Ih HE.ep hs) z;simp only[U1,C3];omega
def Cs(kind:Int)(h:HE)(l:List It):List (HE×It):=(l.filter fun x=>decide (x.1=kind)).map fun x=>(h,x)
def Ct(kind:Int)(hs:List HE):List (HE×It):=hs.flatMap fun h=>Cs kind h h.l
def Vz(kind:Int)(h:HE)(a b:List It):Cs kind h (a++b)=Cs kind h a++Cs kind h b:=by simp[Cs]
def KU{x:It}(e:x.1=kind):Cs kind h [x]=[(h,x)]:=by simp[Cs,e]
def Bg3{x:It}(e: ¬x.1=kind):Cs kind h [x]=[]:=by simp[Cs,e]
def AV(kind:Int)(a b:List HE):Ct kind (a++b)=Ct kind a++Ct kind b:=OD
def KV(kind:Int)(h:HE):Ct kind [h]=Cs kind h h.l:=by simp[Ct]
def KW{q:HE×It}(h:q∈Ct kind hs):q.1∈hs/\q.2∈q.1.l/\q.2.1=kind:=by
 unfold Ct Cs at h;simp only[OY,NY,OI,QR]at h;obtain⟨a,ha,x,⟨hx,he⟩,rfl⟩:=h;exact⟨ha,hx,he⟩
def JZ(l:List α)(hi:i<l.length):l=l.take i++l[i]::l.drop (i+1):=by
 rw[<-OZ hi,PR]
def Mt(l:List α)(hi:i<l.length):l.take (i+1)=l.take i++[l[i]]:=by rw[OB hi]
def Ap9(v:B6)(hs:List HE)(kind:Int)(fn:Y5)(I:List (HE×It)->B1->Prop)(hC:hs.length<=1000000)(hb: ∀h∈hs,h.l.length<=1000000)
  (hI: ∀done L,I done L->Sl L v 3 (hs.flatMap HE.enc)/\ ∀h∈hs,Sl L h.v 3 (h.l.flatMap P6))
  (step: ∀(done rest:List (HE×It)) (h:HE) (x:It) (L:B1) (k:D2 []->HP),Ct kind hs=done++(h,x)::rest->I done L->(∀L',I (done++[(h,x)]) L'->k () L')->
   U5 PP fn.fn (fn.first++#[.agg #[.i h.b,.i h.ep,.slice h.v.a h.v.len h.v.cap],.agg (ki3 x)]) fn.captured [] k L)
   (h0:I [] L):CallF PP 122 #[.slice v.a v.len v.cap,.i kind,.func fn.fn fn.first fn.captured] L fun r L'=>r= .t #[]/\I (Ct kind hs) L':=by
 refine(c122 v kind fn).c ?_;have bY:=(hI _ _ h0).1.els_len HE.enc_len (by decide);refine G1 (fun z' z L'=> ∃i:Nat,i<=hs.length/\z'=hs.length-i/\z=((i:Int),())/\I (Ct kind (hs.take i)) L') hs.length ⟨0,by omega,by omega,rfl,h0⟩ ?_;rintro z' z L1 ⟨i,hi,rfl,rfl,nZ⟩;dsimp only;refine D6 (fun(hO:(i:Int)<v.len)=>?_) (fun(aM: ¬(i:Int)<v.len)=>?_)
 ·have hJ:i<hs.length:=by omega
  refine Bd HE.enc_len (by decide) (hI _ _ nZ).1 rfl hJ fun a ha=>?_;have aX:hs[i]∈hs:=NO hJ;have bu:=JZ hs hJ;have cF:=Mt hs hJ;generalize hs[i]=h at ha aX bu cF;refine B5 (h.b,h.ep,h.v,()) ha ?_;dsimp only;have sL:=((hI _ _ nZ).2 h aX).els_len W0 (by decide);have hhb:=hb h aX;refine G1 (fun z' z L'=> ∃j:Nat,j<=h.l.length/\z'=h.l.length-j/\z=((j:Int),())/\I (Ct kind (hs.take i)++Cs kind h (h.l.take j)) L') h.l.length ⟨0,by omega,by omega,rfl,by simpa[Cs]using nZ⟩ ?_;rintro z' z L2 ⟨j,hj,rfl,rfl,nO⟩;dsimp only;refine D6 (fun(jG:(j:Int)<h.v.len)=>?_) (fun(mW: ¬(j:Int)<h.v.len)=>?_)
  ·have jI:j<h.l.length:=by omega
   refine Bd W0 (by decide) ((hI _ _ nO).2 h aX) rfl jI fun a2 dZ=>?_;have tL:=JZ h.l jI;have kB:=Mt h.l jI;generalize h.l[j]=x at dZ tL kB;refine B5 x dZ (D6 (fun(hk:x.1=kind)=>?_) (fun(hk: ¬x.1=kind)=>?_))
   ·refine step (Ct kind (hs.take i)++Cs kind h (h.l.take j)) (Cs kind h (h.l.drop (j+1))++Ct kind (hs.drop (i+1))) h x L2 _ ?_ nO fun L' nN=>?_
    ·conv=>lhs;rw[bu]
     rw[AV,show h::hs.drop (i+1)=[h]++hs.drop (i+1)from rfl,AV,KV];conv=>lhs;rw[tL]
     rw[Vz,show x::h.l.drop (j+1)=[x]++h.l.drop (j+1)from rfl,Vz,KU hk];simp[NZ]
    ·refine H3 (by omega) ⟨h.l.length-(j+1),by omega,j+1,by omega,rfl,rfl,?_⟩;rw[kB,Vz,KU hk,<-NZ];exact nN
   ·refine H3 (by omega) ⟨h.l.length-(j+1),by omega,j+1,by omega,rfl,rfl,?_⟩;rw[kB,Vz,Bg3 hk,NP];exact nO
  ·obtain rfl:j=h.l.length:=by omega
   refine H3 (by omega) ⟨hs.length-(i+1),by omega,i+1,by omega,rfl,rfl,?_⟩;rw[cF,AV,KV];rw[OE]at nO;exact nO
 ·obtain rfl:i=hs.length:=by omega
  rw[OE]at nZ;exact .of ⟨rfl,nZ⟩
abbrev LE:=ByteArray×It
variable{all:List LE}
def LE.enc(x:LE):List Value:=[.w x.1,.i x.2.1,.i x.2.2.1,.i x.2.2.2.1]
def LE.enc_len(x:LE):(LE.enc x).length=4:=rfl
def M8(l:List UInt8):ByteArray:=⟨l.toArray⟩
def Ed(h:HD)(x:It):It:=(h.1,x.2.1,h.2.1,())
def Az(d:B8)(q:HD×It):Option LE:=if(C7 d (Ed q.1 q.2)).2.2=0 then some (M8 (C7 d (Ed q.1 q.2)).1,Ed q.1 q.2)else none
def Gu(d:B8)(q:HD×It):List It:=(Gp (K7 d q.1.1).1 q.2).flatMap fun b=>(V1 b).1
def Mb(q:HE×It):HD×It:=(q.1.dat,q.2)
abbrev Qz:TypeId:=139
def Ap6:V4 PP 120 Qz 4 40 [.w ⟨#[]⟩,.i 0,.i 0,.i 0]:=De (by kernel_rfl) (by kernel_rfl) rfl (by decide) (by decide)
def JW:W6 PP 120:=.inl ⟨Qz,by kernel_rfl⟩
def Cg(p:It):Value:=.agg (ki3 p)
def Xk:Fi PP 223 9 100 Value.w (Cg (0,0,0,())):=Qe (by kernel_rfl) (Xo (by kernel_rfl)) (by kernel_rfl)
def Ap1(x y:It):Fc PP 100 Bf (P6 x) (P6 y)=some (decide (x=y)):=by
 have h:Fc PP 100 Bf [.i x.1,.i x.2.1,.i x.2.2.1] [.i y.1,.i y.2.1,.i y.2.2.1]=some (x.1==y.1&&(x.2.1==y.2.1&&(x.2.2.1==y.2.2.1&&true))):=by kernel_rfl
 unfold P6;rw[h];clear h;refine congrArg some ?_;obtain⟨a,b,c,⟨⟩⟩:=x;obtain⟨a',b',c',⟨⟩⟩:=y;rw[UT];simp
def Bj0(a:It):Instr.sameBits 10000 (Cg a) (Cg a)=true:=by
 have h: ∀n,Instr.sameBits (n+1) (Cg a) (Cg a)=true:=by intro n;simp[Cg,Instr.sameBits]
 have h2:=h 9999;rw[show 9999+1=10000 from rfl]at h2;exact h2
def Ae6:Fi PP 226 100 4 Cg (.b false):=Qe (by kernel_rfl) (Ca1 P6 (fun _=>rfl) II Ap1 Bj0) (by kernel_rfl)
def Nr(l:List LE):List (ByteArray×Value):=l.foldl (fun m x=>S7 m x.1 (Cg x.2)) []
def Qg(l:List It):List (It×Value):=l.foldl (fun m p=>S7 m p (.b true)) []
def Ag1(l:List LE)(x:LE):Nr (l++[x])=S7 (Nr l) x.1 (Cg x.2):=by simp[Nr]
def Ag6(l:List It)(x:It):Qg (l++[x])=S7 (Qg l) x (.b true):=by simp[Qg]
def I1(n6 n7:Nat)(F:B1)(all:List LE)(L:B1):Prop:= ∃(av:B6) (aseg:B1) (es:Array MapEntry) (ck:Nat) (J:B1),L.Perm ((n6,Obj.cells #[.slice av.a av.len av.cap] 120)::((n7,Obj.map es ck)::(aseg++(J++F))))/\
 C5 av 4 Qz (all.flatMap LE.enc) aseg/\Mp Value.w es (Nr all)
def I1.sub{n6 n7:Nat}(h:I1 n6 n7 F all L): ∀x∈F,x∈L:=by
 obtain⟨av,aseg,es,ck,J,hL,-⟩:=h;exact fun x hx=>hL.symm.subset (by simp[hx])
def Bl7(m:Nat)(d:B8)(A:B1)(h:FH m d A)(ok:G3 d)(n1 n6 n7 n8:Nat)(T1:TypeId)(R F:B1)(hF:F.Perm (A++R))(h1:(n1,Obj.cells #[.q (some m.z)] T1)∈F)(h8:(n8,Obj.cells #[.map (some n7)] 223)∈F)
  (all:List LE) (cT:all.length<=1000000) (he:HE) (x:It) (hx:Hj x) (L:B1) (hL:I1 n6 n7 F all L):
  CallF PP 123 #[.agg #[.i he.b,.i he.ep,.slice he.v.a he.v.len he.v.cap],.agg (ki3 x),.p n1,.p n6,.p n8] L
   fun r L'=>r= .t #[]/\I1 n6 n7 F (all++(Az d (he.dat,x)).toList) L':=by
 refine(c123 (he.b,he.ep,he.v,()) x (some n1.z) (some n6.z) (some n8.z)).c ?_;dsimp only;have bC:=hx;unfold Hj at bC;have aQ:Ed he.dat x=(he.b,x.2.1,he.ep,()):=rfl;refine B7 rfl (B5 (some m.z) (C2 (hL.sub _ h1) rfl) ?_);have hL0:=hL;obtain⟨av,aseg,es,ck,J,hp,own,hm⟩:=hL;have jT:=FT m d A h ok (Ed he.dat x) (Kd (by rw[aQ];simp only;omega));refine H0 (R:=(n6,Obj.cells #[.slice av.a av.len av.cap] 120)::((n7,Obj.map es ck)::(aseg++(J++R)))) jT (pc fun z=>by have:=E8 hp z;have:=E8 hF z;simp only[C3,D0]at*;omega) ?_;rintro _ _ ⟨g,rfl,rfl,hg,dS⟩;generalize hq:C7 d (Ed he.dat x)=q;have nZ:I1 n6 n7 F all (g.seg++A++((n6,Obj.cells #[.slice av.a av.len av.cap] 120)::((n7,Obj.map es ck)::(aseg++(J++R))))):=
  ⟨av,aseg,es,ck,g.seg++J,pc fun z=>by have:=E8 hF z;simp only[C3,D0]at*;omega,own,hm⟩
 refine⟨_,NH _,(M8 q.1,g.v,q.2.2,()),rfl,D6 (fun(h0:q.2.2=0)=>?_) (fun(h0: ¬q.2.2=0)=>?_)⟩
 ·have fD:Az d (he.dat,x)=some (M8 q.1,Ed he.dat x):=by unfold Az;simp only;rw[hq,NE h0]
  rw[fD];obtain⟨av,aseg,es,ck,J,hp,own,hm⟩:=nZ;have hl:=own.sl.els_len LE.enc_len (by decide);refine B7 rfl (B5 av (C2 (hp.symm.subset NG) rfl) ?_);refine Iv Ap6 JW own (Y:=(n6,Obj.cells #[.slice av.a av.len av.cap] 120)::((n7,Obj.map es ck)::(J++F))) (ws:=LE.enc (M8 q.1,Ed he.dat x)) (pc fun z=>by have:=E8 hp z;simp only[C3,D0]at*;omega) rfl rfl (by omega) fun av2 aseg2 iR own2=>?_;refine Mx (n:=n6) (off:=0) (c:=#[.slice av.a av.len av.cap]) (T:=120) (fz:=(0,0)) (Y:=(n7,Obj.map es ck)::(aseg2++(J++F))) (pc fun z=>by simp only[C3,D0];omega) rfl (by simp) (.inl (NF _)) #[.slice av2.a av2.len av2.cap] rfl fun L2 hY=>?_;refine B7 rfl (B5 (some n7) (C2 (c:=#[.map (some n7)]) (T:=223) (fz:=(0,0)) (hY.symm.subset (by simp[h8])) rfl) ?_);refine Pf Xk (es:=es) (clock:=ck) (Y:=(n6,Obj.cells #[.slice av2.a av2.len av2.cap] 120)::(aseg2++(J++F))) (pc fun z=>by have:=E8 hY z;simp only[C3,D0]at*;omega) hm (M8 q.1) (Cg (Ed he.dat x)) fun es2 ck2 L3 dJ aW=>?_;refine .of ⟨rfl,av2,aseg2,es2,ck2,J,pc fun z=>by have:=E8 aW z;simp only[C3,D0]at*;omega,?_,?_⟩
  ·rw[RZ,OD,PU];exact own2
  ·rw[RZ,Ag1];exact dJ
 ·have fD:Az d (he.dat,x)=none:=by unfold Az;simp only;rw[hq,ND h0]
  rw[fD,Option.toList_none,NP];exact .of ⟨rfl,nZ⟩
def I2(n9:Nat)(F:B1)(ks:List It)(L:B1):Prop:= ∃(es:Array MapEntry) (ck:Nat) (J:B1),L.Perm ((n9,Obj.map es ck)::(J++F))/\Mp Cg es (Qg ks)
def I2.sub(h:I2 n9 F ks L): ∀x∈F,x∈L:=by
 obtain⟨es,ck,J,hL,-⟩:=h;exact fun x hx=>hL.symm.subset (by simp[hx])
def I2.more{L':B1}(h:I2 n9 F ks L)(hp:L'.Perm (X++L)):I2 n9 (X++F) ks L':=by
 obtain⟨es,ck,J,hL,hm⟩:=h;exact⟨es,ck,J,pc fun z=>by have:=E8 hL z;have:=E8 hp z;simp only[C3,D0]at*;omega,hm⟩
def I2.less(h:I2 n9 (X++F) ks L):I2 n9 F ks L:=by
 obtain⟨es,ck,J,hL,hm⟩:=h;exact⟨es,ck,J++X,pc fun z=>by have:=E8 hL z;simp only[C3,D0]at*;omega,hm⟩
def Bz6(p:List UInt8):(V1 p).1.length<=p.length:=by
 unfold V1;split
 ·simp
 ·split
  ·simp only[Aa0];omega
  ·simp
theorem Ab4{ps:List (List UInt8)}(hb: ∀x∈ps,x.length<=512){pg:Int}: ∀{n:Nat} {l:List (List UInt8)},T7 ps pg n=some l-> ∀x∈l,x.length<=512
 |0,l,h=>by obtain rfl:=NI h;simp
 |n+1,l,h=>by
  rw[T7]at h;split at h
  ·rename_i l' bQ;split at h
   ·cases h
   ·split at h
    ·obtain rfl:=NI h;intro x hx;rcases NJ.1 hx with hx|hx
     ·exact Ab4 hb bQ x hx
     ·rw[NM.1 hx];refine OK (Wz _) ?_;rw[NX];cases hg:ps[pg.toNat+n]? with
      |none=>simp
      |some b=>exact hb b (QI hg)
    ·cases h
  ·cases h
def Bs4{ps:List (List UInt8)}(hb: ∀x∈ps,x.length<=512)(x:It):(Gp ps x).length<=x.2.2.1.toNat/\ ∀p∈Gp ps x,p.length<=512:=by
 unfold Gp;cases h:T7 ps x.2.1 x.2.2.1.toNat with
 |none=>simp
 |some l=>exact⟨by simp[(CV h).1],Ab4 hb h⟩
def Bl6(d:B8)(n3 n9 n10:Nat)(F pseg:B1)(pv:B6)(bs:List BP)(pown:C5 pv 1 Fk (bs.map BP.val) pseg)(pok: ∀b∈bs,b.Ok)(pdat:bs.map BP.ls=(List.range d.c.B).map fun(b:Nat)=>(K7 d b).1)
  (hpF: ∀x∈pseg,x∈F) (hbF: ∀x∈Cn bs,x∈F) (h3:(n3,Obj.cells #[.slice pv.a pv.len pv.cap] 220)∈F) (h10:(n10,Obj.cells #[.map (some n9)] 226)∈F)
  (ks:List It) (he:HE) (b:Nat) (hb:he.b=b) (af:b<d.c.B) (x:It) (hx:Hj x) (L:B1) (hL:I2 n9 F ks L):
  CallF PP 124 #[.agg #[.i he.b,.i he.ep,.slice he.v.a he.v.len he.v.cap],.agg (ki3 x),.p n3,.p n10] L
   fun r L'=>r= .t #[]/\I2 n9 F (ks++Gu d (he.dat,x)) L':=by
 refine(c124 (he.b,he.ep,he.v,()) x (some n3.z) (some n10.z)).c ?_;dsimp only;have bC:=hx;unfold Hj at bC;have dI:bs.length=d.c.B:=by have:=congrArg List.length pdat;rw[NL,NL,SW]at this;exact this
 have hi:b<bs.length:=by omega
 refine B7 rfl (B5 pv (C2 (hL.sub _ h3) rfl) ?_);refine Yp (pown.sl.mono fun y hy=>hL.sub _ (hpF y hy)) hb (by rw[NL];exact hi) fun a ha=>?_;rw[QG]at ha;have vX:bs[b]∈bs:=NO hi;have kN:bs[b].ls=(K7 d b).1:=by
  have h1:(bs.map BP.ls)[b]?=some bs[b].ls:=by rw[OU,NV hi];rfl
  rw[pdat,OU,YR af]at h1;exact(NI h1).symm
 generalize bs[b]=q at ha vX kN;have hq:=pok q vX;have cb: ∀y∈q.all,y∈F:=fun y hy=>hbF y (OY.2 ⟨q,vX,hy⟩);have hqp:Af L q.v (O8 q.gs):=CU hq.own hq.ok (fun y hy=>hL.sub _ (cb y (OA _ hy))) (fun y hy=>hL.sub _ (cb y (OG _ hy)));refine B5 q.v ha (O1 (Bq2 L q.v (O8 q.gs) hqp hq.bnd.1 hq.bnd.2 x ⟨Kd (by omega),Kd (by omega)⟩) ?_);rintro _ _-⟨v2,gs2,seg2,rfl,rfl,own2,ok2,l2⟩;have bT:(O8 q.gs).map Prod.snd=(K7 d b).1:=by rw[St];exact kN
 rw[bT]at l2;have hko:Gu d (he.dat,x)=gs2.flatMap fun g=>(V1 g.l).1:=by
  unfold Gu;show(Gp (K7 d he.b).1 x).flatMap _=_;rw[hb,<-l2,XV]
 have nR:=Bs4 (ps:=(K7 d b).1) (by
  intro y hy;rw[<-kN]at hy;unfold BP.ls at hy;simp only[NY]at hy;obtain⟨g,hg,rfl⟩:=hy;exact hq.small g hg) x
 rw[<-l2,NL]at nR;have bY:=own2.sl.len;rw[NL]at bY;refine⟨(v2,()),rfl,?_⟩;dsimp only;refine G1 (fun z' z L'=> ∃i:Nat,i<=gs2.length/\z'=gs2.length-i/\z=((i:Int),())/\I2 n9 ((seg2++E3 gs2)++F) (ks++(gs2.take i).flatMap fun g=>(V1 g.l).1) L') gs2.length
  ⟨0,by omega,by omega,rfl,by simpa using hL.more (X:=seg2++E3 gs2) (pc fun z=>by simp only[C3];omega)⟩ ?_
 rintro z' z L2 ⟨i,eZ,rfl,rfl,nO⟩;dsimp only;refine D6 (fun(hO:(i:Int)<v2.len)=>?_) (fun(aM: ¬(i:Int)<v2.len)=>?_)
 ·have hJ:i<gs2.length:=by omega
  refine Yp (own2.sl.mono fun y hy=>nO.sub _ (by simp[hy])) rfl (by rw[NL];exact hJ) fun a2 dZ=>?_;rw[QG]at dZ;have rK:gs2[i]∈gs2:=NO hJ;have cF:=Mt gs2 hJ;generalize gs2[i]=g at dZ rK cF;have dS:g.l.length<=512:=nR.2 _ (OQ rK);have pJ:=Bz6 g.l;refine B5 g.v dZ (O1 (Bz5 L2 g.v g.l (Sl.mono (ok2 g rK).sl fun y hy=>nO.sub _ (by simp only[NJ];exact .inl (.inr (OY.2 ⟨g,rK,hy⟩)))) (by omega)) ?_);rintro _ _-⟨kv,kseg,rfl,rfl,kown⟩;generalize hkr:V1 g.l=kr at kown pJ;have hkvl:=kown.sl.els_len W0 (by decide);refine⟨(kv,kr.2,()),rfl,?_⟩;dsimp only;refine G1 (fun z' z L'=> ∃j:Nat,j<=kr.1.length/\z'=kr.1.length-j/\z=((j:Int),())/\I2 n9 (kseg++((seg2++E3 gs2)++F)) ((ks++(gs2.take i).flatMap fun g=>(V1 g.l).1)++kr.1.take j) L') kr.1.length
   ⟨0,by omega,by omega,rfl,by simpa using nO.more (X:=kseg) (NH _)⟩ ?_
  rintro z' z L3 ⟨j,hj,rfl,rfl,nN⟩;dsimp only;refine D6 (fun(jG:(j:Int)<kv.len)=>?_) (fun(mW: ¬(j:Int)<kv.len)=>?_)
  ·have jI:j<kr.1.length:=by omega
   refine Bd W0 (by decide) (kown.sl.mono fun y hy=>nN.sub _ (by simp[hy])) rfl jI fun a3 kU=>?_;have kB:=Mt kr.1 jI;generalize kr.1[j]=p at kU kB;refine B5 p kU (B7 rfl (B5 (some n9) (C2 (c:=#[.map (some n9)]) (T:=226) (fz:=(0,0)) (nN.sub _ (by simp[h10])) rfl) ?_));obtain⟨es,ck,J,aW,iD⟩:=nN;refine Pf Ae6 aW iD p (.b true) fun es2 ck2 L4 zD bU=>?_;refine H3 (by omega) ⟨kr.1.length-(j+1),by omega,j+1,by omega,rfl,rfl,es2,ck2,J,bU,?_⟩;rw[kB,<-NZ,Ag6];exact zD
  ·obtain rfl:j=kr.1.length:=by omega
   rw[OE]at nN;refine H3 (by omega) ⟨gs2.length-(i+1),by omega,i+1,by omega,rfl,rfl,?_⟩;rw[cF,OD,PU,hkr,<-NZ];exact nN.less
 ·obtain rfl:i=gs2.length:=by omega
  rw[OE,<-hko]at nO;exact .of ⟨rfl,nO.less⟩
def K8(l:List LE)(k:ByteArray):Option It:=(l.reverse.find? fun x=>decide (x.1=k)).map Prod.snd
def Xm(l:List LE)(x:LE)(k:ByteArray):K8 (l++[x]) k=if k=x.1 then some x.2 else K8 l k:=by
 unfold K8;rw[XS,List.reverse_singleton,List.singleton_append];by_cases h:k=x.1
 ·rw[NE h,TF (by simp[h])];rfl
 ·rw[ND h,TV (by simpa using fun e=>h e.symm)]
def Ag2(l:List LE)(k:ByteArray):W9 (Nr l) k=(K8 l k).map Cg/\((Nr l).map Prod.fst).Nodup:=by
 obtain⟨r,rfl⟩: ∃r,l=r.reverse:=⟨l.reverse,by simp⟩;induction r with
 |nil=>exact⟨rfl,SJ⟩
 |cons x r ih=>
  rw[XT,Ag1,Xm];refine⟨?_,(Ad0 _ _ _ ih.2).1⟩;rw[Tl,ih.1];split<;>rfl
def Bz9(l:List It)(p:It):W9 (Qg l) p=if p∈l then some (.b true)else none:=by
 obtain⟨r,rfl⟩: ∃r,l=r.reverse:=⟨l.reverse,by simp⟩;induction r with
 |nil=>rfl
 |cons x r ih=>
  rw[XT,Ag6,Tl,ih];by_cases h:p=x
  ·simp[h]
  ·simp[h]
def Af9{l:List LE}{x:LE}(h:x∈l): ∃p,K8 l x.1=some p:=by
 unfold K8;cases hf:l.reverse.find? fun y=>decide (y.1=x.1)with
 |some y=>exact⟨y.2,rfl⟩
 |none=>
  rw[RR]at hf;exact(hf x (by simpa using h) (by simp)).elim
def Tt(l:List LE)(ks:List It):List LE:=l.filter fun x=>decide (K8 l x.1=some x.2/\x.2∉ks)
def Dr(kind:Int)(l:List HD):List (HD×It):=l.flatMap fun h=>(h.2.2.filter fun x=>decide (x.1=kind)).map fun x=>(h,x)
def Gd(d:B8)(l:List HD):List LE:=(Dr 2 l).filterMap (Az d)
def Ri(d:B8)(l:List HD):List It:=(Dr 3 l).flatMap (Gu d)
def M2(d:B8):List LE:=Tt (Gd d (G4 d)) (Ri d (G4 d))
def Bn(l:List HD):Int:=l.foldl (fun a h=>L9 a h.2.1) 0
def AU(kind:Int)(hs:List HE):(Ct kind hs).map Mb=Dr kind (hs.map HE.dat):=by
 unfold Ct Dr Cs;rw[List.map_flatMap,XV];congr 1;funext h;rw[OO];rfl
def Bw9(l:List HD)(h:HD):Bn (l++[h])=L9 (Bn l) h.2.1:=by simp[Bn]
def Ap0(x y:It){k:F7 (.lf .bool)->HP}(hk:k (decide (x=y)) L):
  Y8 PP (binOp .eql Bf (.agg (ki3 x)) (.agg (ki3 y))) (.lf .bool) k L:=
 GC (r:=decide (x=y)) II (Ap1 x y) hk
theorem DD: ∀(l:List It) (a:Int),(∀x∈l,a<=x.2.1/\x.2.1<=255)->l.Pairwise (fun x y=>x.2.1<y.2.1)->a<=256->(l.length:Int)<=256-a
 |[],a,_,_,ha=>by simp;omega
 |x::r,a,h,hp,ha=>by
  rw[QW]at hp;have h1:=h x (by simp);have h2:=DD r (x.2.1+1) (fun y hy=>⟨by have:=hp.1 y hy;omega,(h y (by simp[hy])).2⟩) hp.2 (by omega);simp only[NU];omega
structure Fnd(d:B8)(lv:B6)(hs:List HE)(aN:B1)(vv:B6)(vseg:B1):Prop where
 own:C5 lv 3 Fz (hs.flatMap HE.enc) aN
 ok: ∀h∈hs,h.Ok
 dat:hs.map HE.dat=G4 d
 vown:C5 vv 4 Qz ((M2 d).flatMap LE.enc) vseg
def Ct7(d:B8)(A:B1)(r:Value)(L':B1):Prop:= ∃(lv:B6) (hs:List HE) (aN:B1) (vv:B6) (vseg:B1),
 r= .t #[.agg #[.slice lv.a lv.len lv.cap,.slice vv.a vv.len vv.cap,.i (Bn (G4 d))],.i 0]/\L'=aN++(U1 hs++(vseg++A))/\Fnd d lv hs aN vv vseg
def Bl3(m:Nat)(d:B8)(A:B1)(h:FH m d A)(aG:d.down=true):CallF PP 66 #[.p m] A fun r L'=>r= .t #[.agg #[.slice none 0 0,.slice none 0 0,.i 0],.i 11]/\L'=A:=by
 refine(c66 (some m.z)).c ?_;refine C9 fun n1 _=>B5 (some m.z) (C2 NG rfl) (D8 rfl (B5 (some m.z) (C2 NG rfl) ?_));refine H0 (R:=[(n1,Obj.cells #[.q (some m.z)] 28)]) (Aq4 m d A h) (pc fun z=>by simp only[C3,D0,E5];omega) ?_;rintro _ A' ⟨rfl,cU⟩;rw[cU];refine⟨_,NH _,(d.down,()),rfl,E9 aG ?_⟩;exact .drop (A:=A) (J:=[(n1,Obj.cells #[.q (some m.z)] 28)]) ⟨rfl,rfl⟩ (pc fun z=>by simp only[C3,D0,E5])
def Um{x:HD}(h:x∈G4 d): ∃b:Nat,b<d.c.B/\W3 d b=some x:=Sq ((Ih Hp _).subset h)
def Uk(bR:hs.map HE.dat=G4 d)(hm:h∈hs):(∃b:Nat,h.b=b/\b<d.c.B)/\(0<=h.ep/\h.ep<=1073741824)/\(∀y∈h.l,Hj y)/\h.l.Pairwise (fun a b=>a.2.1<b.2.1)/\h.l.length<=255:=by
 have h1:h.dat∈G4 d:=by rw[<-bR];exact OQ hm
 obtain⟨b,hb,h2⟩:=Um h1;obtain⟨e1,e2,e3,e4⟩:=Jf h2;refine⟨⟨b,e1,hb⟩,e2,e3,e4,?_⟩;have:=DD h.l 1 (fun y hy=>⟨(e3 y hy).1,(e3 y hy).2.1⟩) e4 (by omega);omega
def Bg4(kind:Int)(hs:List HE)(h: ∀x∈hs,x.l.length<=255):(Ct kind hs).length<=hs.length*255:=by
 induction hs with
 |nil=>simp[Ct]
 |cons a r ih=>
  have h1:=ih fun x hx=>h x (by simp[hx]);have h2:=h a (by simp);have h3:(Cs kind a a.l).length<=a.l.length:=by unfold Cs;rw[NL];exact RS _ _
  unfold Ct at h1⊢;rw[OL,NR,NU];omega
def gone(all:List LE)(ks:List It)(i:Nat)(k:ByteArray):Option Value:=
 if(∃x∈all.take i,x.1=k)/\(∃p,K8 all k=some p/\p∈ks)then none else(K8 all k).map Cg
def Cg6(all:List LE)(ks:List It)(k:ByteArray):gone all ks 0 k=(K8 all k).map Cg:=by
 unfold gone;rw[ND];rintro⟨⟨x,hx,-⟩,-⟩;simp at hx
def Cg4(hi:i<all.length): ∃p,K8 all all[i].1=some p/\(gone all ks i all[i].1=none/\p∈ks\/gone all ks i all[i].1=some (Cg p)):=by
 obtain⟨p,hp⟩:=Af9 (NO hi);refine⟨p,hp,?_⟩;unfold gone;split
 ·rename_i hc;obtain⟨-,p',dC,hk⟩:=hc;rw[hp]at dC;obtain rfl:=NI dC;exact .inl ⟨rfl,hk⟩
 ·rw[hp];exact .inr rfl
def Cg3(hi:i<all.length){p:It}(hp:K8 all all[i].1=some p)(k:ByteArray):
  gone all ks (i+1) k=if k=all[i].1/\p∈ks then none else gone all ks i k:=by
 have cF:=Mt all hi;generalize all[i]=x at hp cF;unfold gone;rw[cF];by_cases h1:k=x.1
 ·subst h1;by_cases h2:p∈ks
  ·rw[NE ⟨⟨x,by simp,rfl⟩,p,hp,h2⟩,NE ⟨rfl,h2⟩]
  ·have aT: ¬ ∃p',K8 all x.1=some p'/\p'∈ks:=by
    rintro⟨p',h3,h4⟩;rw[hp]at h3;obtain rfl:=NI h3;exact h2 h4
   rw[ND (fun h=>aT h.2),ND (fun h=>h2 h.2),ND (fun h=>aT h.2)]
 ·rw[ND (show¬(k=x.1/\p∈ks)from fun h=>h1 h.1)];have:(∃y∈all.take i++[x],y.1=k)↔ ∃y∈all.take i,y.1=k:=by
   constructor
   ·rintro⟨y,hy,he⟩;rcases NJ.1 hy with hy|hy
    ·exact⟨y,hy,he⟩
    ·rw[NM.1 hy]at he;exact absurd he.symm h1
   ·rintro⟨y,hy,he⟩;exact⟨y,by simp[hy],he⟩
  by_cases hc:(∃y∈all.take i,y.1=k)/\ ∃p,K8 all k=some p/\p∈ks
  ·rw[NE ⟨this.2 hc.1,hc.2⟩,NE hc]
  ·rw[ND (fun h=>hc ⟨this.1 h.1,h.2⟩),ND hc]
def Cg5{x:LE}(hx:x∈all){p:It}(hp:K8 all x.1=some p):gone all ks all.length x.1=if p∈ks then none else some (Cg p):=by
 unfold gone;rw[OE];by_cases h:p∈ks
 ·rw[NE ⟨⟨x,hx,rfl⟩,p,hp,h⟩,NE h]
 ·rw[ND,ND h,hp]
  ·rfl
  ·rintro⟨-,p',h3,h4⟩;rw[hp]at h3;obtain rfl:=NI h3;exact h h4
def An7(p:α->Bool)(x:α):[x].filter p=if p x=true then[x]else[]:=by cases h:p x<;>simp[h]
def Bl4(m:Nat)(d:B8)(A:B1)(h:FH m d A)(ok:G3 d)(aG:d.down=false):CallF PP 66 #[.p m] A (Ct7 d A):=by
 refine(c66 (some m.z)).c ?_;have hB:=ok.c.b;refine C9 fun n1 _=>?_;obtain⟨c1,fQ⟩: ∃c1:Nat×Obj,c1=(n1,Obj.cells #[.q (some m.z)] 28):=⟨_,rfl⟩;rw[<-fQ];have l1: ∀L:B1,c1∈L->C0 n1.z [.p m] L:=fun L hm=>C2 (by rw[fQ]at hm;exact hm) rfl;refine B5 (some m.z) (l1 _ NG) (D8 rfl (B5 (some m.z) (l1 _ NG) ?_));refine H0 (R:=[c1]) (Aq4 m d A h) (pc fun z=>by simp only[C3,D0,E5];omega) ?_;rintro _ A' ⟨rfl,cU⟩;rw[cU];refine⟨_,NH _,(d.down,()),rfl,D8 aG (B5 (some m.z) (l1 _ (by simp)) ?_)⟩;refine H0 (Ce9 m d A h ok aG) (NH _) ?_;rintro _ _ ⟨lv,hs,aN,pv,bs,pseg,rfl,rfl,H⟩;refine⟨_,NH _,(lv,pv,0,()),rfl,C9 fun n3 _=>?_⟩;obtain⟨own,aC,bR,pown,pok,pdat⟩:=H;refine Mx (n:=n3) (off:=0) (c:=#[.slice none 0 0]) (T:=220) (fz:=(0,0)) (Y:=c1::(aN++(U1 hs++(pseg++(Cn bs++A))))) (pc fun z=>by simp only[C3,D0,E5];omega) rfl (by simp) (.inl (NF _)) #[.slice pv.a pv.len pv.cap] rfl fun L1 aH=>?_;refine E9 rfl ?_;have bY:=own.sl.els_len HE.enc_len (by decide);have sL:hs.length<=16:=by
  have h1:=congrArg List.length bR;rw[NL]at h1;have h2:=(Ih Hp (Ay d d.c.B)).length_eq;have h3:=Wl d d.c.B;unfold G4 at h1;omega
 obtain⟨F0,oW⟩: ∃F0:B1,F0=(n3,Obj.cells #[.slice pv.a pv.len pv.cap] 220)::(c1::(aN++(U1 hs++(pseg++(Cn bs++A))))):=⟨_,rfl⟩;have mM:L1.Perm F0:=by rw[oW];exact aH
 have f3:(n3,Obj.cells #[.slice pv.a pv.len pv.cap] 220)∈F0:=by rw[oW];simp
 have f1:c1∈F0:=by rw[oW];simp
 have fh: ∀x∈aN,x∈F0:=fun x hx=>by rw[oW];simp[hx]
 have fhs: ∀x∈U1 hs,x∈F0:=fun x hx=>by rw[oW];simp[hx]
 have fp: ∀x∈pseg,x∈F0:=fun x hx=>by rw[oW];simp[hx]
 have fb: ∀x∈Cn bs,x∈F0:=fun x hx=>by rw[oW];simp[hx]
 have slF: ∀L:B1,(∀x∈F0,x∈L)->Sl L lv 3 (hs.flatMap HE.enc)/\ ∀h∈hs,Sl L h.v 3 (h.l.flatMap P6):=fun L hL=>
  ⟨own.sl.mono fun x hx=>hL x (fh x hx),fun h hh=>Sl.mono (C5.sl (aC h hh)) fun x hx=>hL x (fhs x (OY.2 ⟨h,hh,hx⟩))⟩
 refine G1 (fun z' z L'=> ∃i:Nat,i<=hs.length/\z'=hs.length-i/\z=((i:Int),Bn ((hs.take i).map HE.dat),())/\L'=L1) hs.length ⟨0,by omega,by omega,rfl,rfl⟩ ?_;rintro z' z L' ⟨i,hi,rfl,rfl,fB⟩;rw[fB];dsimp only;refine D6 (fun(hO:(i:Int)<lv.len)=>?_) (fun(aM: ¬(i:Int)<lv.len)=>?_)
 ·have hJ:i<hs.length:=by omega
  refine Bd HE.enc_len (by decide) (slF _ fun x hx=>mM.symm.subset hx).1 rfl hJ fun a ha=>?_;have cF:=Mt hs hJ;generalize hs[i]=x at ha cF;refine B5 (x.b,x.ep,x.v,()) ha (H3 (by omega) ⟨hs.length-(i+1),by omega,i+1,by omega,rfl,?_,rfl⟩);rw[cF,NQ,RC,Bw9];rfl
 obtain rfl:i=hs.length:=by omega
 have pF:Bn ((hs.take hs.length).map HE.dat)=Bn (G4 d):=by rw[OE,bR]
 rw[pF];clear aM hi pF;refine C9 fun n6 _=>C9 fun n7 _=>C9 fun n8 _=>?_;refine Mx (n:=n8) (off:=0) (c:=#[.map none]) (T:=223) (fz:=(0,0)) (Y:=(n7,Obj.map #[] 0)::((n6,Obj.cells #[.slice none 0 0] 120)::L1)) (pc fun z=>by simp only[C3,D0,E5]) rfl (by simp) (.inl (NF _)) #[.map (some n7)] rfl fun L2 hY=>?_;obtain⟨F1,wL⟩: ∃F1:B1,F1=(n8,Obj.cells #[.map (some n7)] 223)::F0:=⟨_,rfl⟩;have i10:I1 n6 n7 F1 [] L2:=⟨⟨none,0,0⟩,[],#[],0,[],pc fun z=>by have:=E8 hY z;have:=E8 mM z;rw[wL];simp only[C3,D0,E5]at*;omega,O5,rfl⟩;have f8:(n8,Obj.cells #[.map (some n7)] 223)∈F1:=by rw[wL];exact NG
 have f01: ∀x∈F0,x∈F1:=fun x hx=>by rw[wL];exact NN _ hx
 have oU:=fun kind=>Bg4 kind hs fun x hx=>(Uk bR hx).2.2.2.2;have hFA:F1.Perm (A++((n8,Obj.cells #[.map (some n7)] 223)::((n3,Obj.cells #[.slice pv.a pv.len pv.cap] 220)::(c1::(aN++(U1 hs++(pseg++Cn bs))))))):=pc fun z=>by rw[wL,oW];simp only[C3,D0,E5];omega
 refine O1 (Ap9 lv hs 2 ⟨.func 123,#[],#[.p n1,.p n6,.p n8]⟩ (fun done L=>I1 n6 n7 F1 ((done.map Mb).filterMap (Az d)) L) (by omega) (fun x hx=>by have:=(Uk bR hx).2.2.2.2;omega)
  (fun done L hI=>slF L fun x hx=>hI.sub x (f01 x hx)) ?_ (L:=L2) i10) ?_
 ·intro done rest he x L k oD hI hk;have hq:=KW (kind:=2) (hs:=hs) (q:=(he,x)) (by rw[oD];simp);have pR:done.length<=16*255:=by
   have h1:=congrArg List.length oD;rw[NR,NU]at h1;have h2:=oU 2;have h3:=PD 255 sL;omega
  refine Fe (by kernel_rfl) (O1 (Bl7 m d A h ok n1 n6 n7 n8 28 _ F1 hFA (by rw[<-fQ];exact f01 _ f1) f8 _ ?_ he x ((Uk bR hq.1).2.2.1 x hq.2.1) L hI) ?_)
  ·have:=WB (Az d) (done.map Mb);rw[NL]at this;omega
  ·rintro _ L'-⟨rfl,oV⟩;refine⟨(),rfl,hk L' ?_⟩;rw[NQ,WA];have e:([(he,x)].map Mb).filterMap (Az d)=(Az d (he.dat,x)).toList:=by
    simp only[NS,UV,Mb,WC,List.filterMap_nil];cases Az d (he.dat,x)<;>rfl
   rw[e];exact oV
 rintro _ L3-⟨rfl,nN⟩;rw[AU,bR]at nN;have aA:(Dr 2 (G4 d)).filterMap (Az d)=Gd d (G4 d):=rfl;rw[aA]at nN;have cT:(Gd d (G4 d)).length<=16*255:=by
  have h1:=WB (Az d) (Dr 2 (G4 d));have h2:=congrArg List.length (AU 2 hs);rw[NL,bR]at h2;have h3:=oU 2;have h4:=PD 255 sL;unfold Gd;omega
 generalize iM:Gd d (G4 d)=all at*;obtain⟨av,aseg,es,ck,J,aW,aown,iD⟩:=nN;refine⟨(),rfl,C9 fun n9 _=>C9 fun n10 _=>?_⟩;refine Mx (n:=n10) (off:=0) (c:=#[.map none]) (T:=226) (fz:=(0,0)) (Y:=(n9,Obj.map #[] 0)::L3) (NH _) rfl (by simp) (.inl (NF _)) #[.map (some n9)] rfl fun L4 bU=>?_;obtain⟨F2,xI⟩: ∃F2:B1,F2=(n10,Obj.cells #[.map (some n9)] 226)::((n6,Obj.cells #[.slice av.a av.len av.cap] 120)::((n7,Obj.map es ck)::(aseg++(J++F1)))):=⟨_,rfl⟩;have i20:I2 n9 F2 [] L4:=⟨#[],0,[],pc fun z=>by have:=E8 aW z;have:=E8 bU z;rw[xI];simp only[C3,D0,E5]at*;omega,rfl⟩;have f12: ∀x∈F1,x∈F2:=fun x hx=>by rw[xI];simp[hx]
 have f02: ∀x∈F0,x∈F2:=fun x hx=>f12 x (f01 x hx);have f10:(n10,Obj.cells #[.map (some n9)] 226)∈F2:=by rw[xI];exact NG
 refine O1 (Ap9 lv hs 3 ⟨.func 124,#[],#[.p n3,.p n10]⟩ (fun done L=>I2 n9 F2 ((done.map Mb).flatMap (Gu d)) L) (by omega) (fun x hx=>by have:=(Uk bR hx).2.2.2.2;omega)
  (fun done L hI=>slF L fun x hx=>hI.sub x (f02 x hx)) ?_ (L:=L4) i20) ?_
 ·intro done rest he x L k oD hI hk;have hq:=KW (kind:=3) (hs:=hs) (q:=(he,x)) (by rw[oD];simp);obtain⟨⟨b,hb,af⟩,-,rE,-⟩:=Uk bR hq.1;refine Fe (by kernel_rfl) (O1 (Bl6 d n3 n9 n10 F2 pseg pv bs pown pok pdat (fun y hy=>f02 y (fp y hy)) (fun y hy=>f02 y (fb y hy)) (f02 _ f3) f10 _ he b hb af x (rE x hq.2.1) L hI) ?_);rintro _ L'-⟨rfl,oV⟩;refine⟨(),rfl,hk L' ?_⟩;rw[NQ,OD];have e:([(he,x)].map Mb).flatMap (Gu d)=Gu d (he.dat,x):=by simp[Mb]
  rw[e];exact oV
 rintro _ L5-⟨rfl,am⟩;rw[AU,bR]at am;have pK:(Dr 3 (G4 d)).flatMap (Gu d)=Ri d (G4 d):=rfl;rw[pK]at am;generalize zI:Ri d (G4 d)=ks at*;refine⟨(),rfl,?_⟩;obtain⟨es9,ck9,J9,jD,hm9⟩:=am;obtain⟨G,hG⟩: ∃G:B1,G=(n9,Obj.map es9 ck9)::((n10,Obj.cells #[.map (some n9)] 226)::((n6,Obj.cells #[.slice av.a av.len av.cap] 120)::(aseg++(J++(J9++F1))))):=⟨_,rfl⟩;have jC:L5.Perm ((n7,Obj.map es ck)::G):=pc fun z=>by have:=E8 jD z;rw[hG];rw[xI]at this;simp only[C3,D0,E5]at*;omega
 have g9:(n9,Obj.map es9 ck9)∈G:=by rw[hG];simp
 have g10:(n10,Obj.cells #[.map (some n9)] 226)∈G:=by rw[hG];simp
 have g6:(n6,Obj.cells #[.slice av.a av.len av.cap] 120)∈G:=by rw[hG];simp
 have g8:(n8,Obj.cells #[.map (some n7)] 223)∈G:=by rw[hG];simp[f8]
 have ga: ∀x∈aseg,x∈G:=fun x hx=>by rw[hG];simp[hx]
 have havl:=aown.sl.els_len LE.enc_len (by decide);have kil: ∀p:It,(W9 (Qg ks) p).getD (.b false)= .b (decide (p∈ks)):=fun p=>by
  rw[Bz9];by_cases hk:p∈ks
  ·simp[hk]
  ·simp[hk]
 refine B5 av (C2 (c:=#[.slice av.a av.len av.cap]) (T:=120) (fz:=(0,0)) (jC.symm.subset (by simp[g6])) rfl) ?_;refine G1 (fun z' z L'=> ∃(i:Nat) (es7:Array MapEntry) (ck7:Nat) (mm:List (ByteArray×Value)),i<=all.length/\z'=all.length-i/\z=((i:Int),())/\L'.Perm ((n7,Obj.map es7 ck7)::G)/\Mp Value.w es7 mm/\(mm.map Prod.fst).Nodup/\ ∀k,W9 mm k=gone all ks i k) all.length
  ⟨0,es,ck,Nr all,by omega,by omega,rfl,jC,iD,(Ag2 all ⟨#[]⟩).2,fun k=>by rw[Cg6];exact(Ag2 all k).1⟩ ?_
 rintro z' z L6 ⟨i,es7,ck7,mm,hi,rfl,rfl,kG,xA,aZ,lK⟩;dsimp only;have aJ: ∀x∈G,x∈L6:=fun x hx=>kG.symm.subset (NN _ hx);have h7:(n7,Obj.map es7 ck7)∈L6:=kG.symm.subset NG;refine D6 (fun(hO:(i:Int)<av.len)=>?_) (fun(aM: ¬(i:Int)<av.len)=>?_)
 ·have hJ:i<all.length:=by omega
  refine Bd LE.enc_len (by decide) (aown.sl.mono fun x hx=>aJ x (ga x hx)) rfl hJ fun a2 dZ=>?_;obtain⟨p,fD,vS⟩:=Cg4 (ks:=ks) hJ;have iG:=fun k=>Cg3 (ks:=ks) hJ fD k;generalize all[i]=x at dZ fD vS iG;refine B5 x dZ (B5 (some n9) (C2 (c:=#[.map (some n9)]) (T:=226) (fz:=(0,0)) (aJ _ g10) rfl) (B5 (some n7) (C2 (c:=#[.map (some n7)]) (T:=223) (fz:=(0,0)) (aJ _ g8) rfl) ?_));obtain⟨cur,hcv,xH⟩: ∃cur:It,(W9 mm x.1).getD (Cg (0,0,0,()))=Cg cur/\(p∈ks/\gone all ks i x.1=none\/cur=p):=by
   rw[lK];rcases vS with⟨h1,h2⟩|h1
   ·exact⟨(0,0,0,()),by rw[h1];rfl,.inl ⟨h2,h1⟩⟩
   ·exact⟨p,by rw[h1];rfl,.inr rfl⟩
  have lk:=Nq (P:=PP) Xk h7 xA x.1;rw[hcv]at lk;refine⟨(cur,()),lk,?_⟩;have lk2:=Nq (P:=PP) Ae6 (aJ _ g9) hm9 cur;rw[kil]at lk2;refine⟨(decide (cur∈ks),()),lk2,D6 (fun(hk:cur∈ks)=>?_) (fun(hk:cur∉ks)=>?_)⟩
  ·have sE:p∈ks:=by
    rcases xH with h1|rfl
    ·exact h1.1
    ·exact hk
   refine B5 (some n7) (C2 (c:=#[.map (some n7)]) (T:=223) (fz:=(0,0)) (aJ _ g8) rfl) ?_;refine Aq8 Xk kG xA x.1 fun es8 ck8 L7 hm8 sG=>?_;refine H3 (by omega) ⟨all.length-(i+1),by omega,i+1,es8,ck8,Cy mm x.1,by omega,rfl,rfl,sG,hm8,(Ae2 _ _ aZ).1,fun k=>?_⟩;rw[Ad9 _ _ _ aZ,iG,lK];by_cases he:k=x.1
   ·rw[NE he,NE ⟨he,sE⟩]
   ·rw[ND he,ND fun h=>he h.1]
  ·refine H3 (by omega) ⟨all.length-(i+1),by omega,i+1,es7,ck7,mm,by omega,rfl,rfl,kG,xA,aZ,fun k=>?_⟩;rw[iG,lK];by_cases he:k=x.1/\p∈ks
   ·rw[NE he];rcases xH with h1|rfl
    ·rw[he.1];exact h1.2
    ·exact absurd he.2 hk
   ·rw[ND he]
 ·obtain rfl:i=all.length:=by omega
  refine B5 av (C2 (c:=#[.slice av.a av.len av.cap]) (T:=120) (fz:=(0,0)) (aJ _ g6) rfl) ?_;have pG: ∀x∈all,∃p,K8 all x.1=some p/\W9 mm x.1=if p∈ks then none else some (Cg p):=fun x hx=>by
   obtain⟨p,hp⟩:=Af9 hx;exact⟨p,hp,by rw[lK,Cg5 hx hp]⟩
  refine G1 (fun z' z L'=> ∃(i:Nat) (ov:B6) (oseg:B1),i<=all.length/\z'=all.length-i/\z=((i:Int),ov,Bn (G4 d),())/\L'.Perm (oseg++L6)/\C5 ov 4 Qz (((all.take i).filter fun x=>decide (K8 all x.1=some x.2/\x.2∉ks)).flatMap LE.enc) oseg) all.length
   ⟨0,⟨none,0,0⟩,[],by omega,by omega,rfl,NH _,O5⟩ ?_
  rintro z' z L7 ⟨i,ov,oseg,eZ,rfl,rfl,sG,oown⟩;dsimp only;have gV: ∀x∈L6,x∈L7:=fun x hx=>sG.symm.subset (by simp[hx]);have lE:=oown.sl.els_len LE.enc_len (by decide);have yT:=RS (fun x:LE=>decide (K8 all x.1=some x.2/\x.2∉ks)) (all.take i);rw[NW]at yT;refine D6 (fun(hO:(i:Int)<av.len)=>?_) (fun(aM: ¬(i:Int)<av.len)=>?_)
  ·have hJ:i<all.length:=by omega
   refine Bd LE.enc_len (by decide) (aown.sl.mono fun x hx=>gV _ (aJ x (ga x hx))) rfl hJ fun a3 kU=>?_;obtain⟨p,fD,dd⟩:=pG all[i] (NO hJ);have cF:=Mt all hJ;generalize all[i]=x at kU fD dd cF;refine B5 x kU (B5 (some n7) (C2 (c:=#[.map (some n7)]) (T:=223) (fz:=(0,0)) (gV _ (aJ _ g8)) rfl) ?_);have lk:=Bx3 (P:=PP) Xk (gV _ h7) xA x.1;rw[dd]at lk;have aT: ¬(K8 all x.1=some x.2/\x.2∉ks)-> ∃k',k'<all.length-i/\ ∃(i':Nat) (ov':B6) (oseg':B1),i'<=all.length/\k'=all.length-i'/\(((i:Int)+1,ov,Bn (G4 d),()):D2 [lI,.lf .sl,lI])=((i':Int),ov',Bn (G4 d),())/\L7.Perm (oseg'++L6)/\C5 ov' 4 Qz (((all.take i').filter fun x=>decide (K8 all x.1=some x.2/\x.2∉ks)).flatMap LE.enc) oseg':=fun hh=>by
    refine⟨all.length-(i+1),by omega,i+1,ov,oseg,by omega,rfl,rfl,sG,?_⟩;rw[cF,QZ,An7,ND (by simpa using hh),NP];exact oown
   by_cases sE:p∈ks
   ·rw[NE sE]at lk;refine⟨((0,0,0,()),false,()),lk,D8 rfl (H3 (by omega) (aT fun hh=>?_))⟩;rw[fD]at hh;exact hh.2 (by rw[<-NI hh.1];exact sE)
   ·rw[ND sE]at lk;refine⟨(p,true,()),lk,E9 rfl (Ap0 p x.2 (D6 (fun(he:p=x.2)=>?_) (fun(he: ¬p=x.2)=>?_)))⟩
    ·have xO:K8 all x.1=some x.2/\x.2∉ks:=⟨by rw[fD,he],by rw[<-he];exact sE⟩;refine Iv Ap6 JW oown sG (ws:=LE.enc x) rfl rfl (by omega) fun ov2 oseg2 hol3 oown2=>?_;refine H3 (by omega) ⟨all.length-(i+1),by omega,i+1,ov2,oseg2,by omega,rfl,rfl,NH _,?_⟩;rw[cF,QZ,An7,NE (by simpa using xO),OD,PU];exact oown2
    ·refine H3 (by omega) (aT fun hh=>he ?_);rw[fD]at hh;exact NI hh.1
  ·obtain rfl:i=all.length:=by omega
   rw[OE]at oown;refine .drop (A:=aN++(U1 hs++(oseg++A))) (J:=(n7,Obj.map es7 ck7)::((n9,Obj.map es9 ck9)::((n10,Obj.cells #[.map (some n9)] 226)::((n6,Obj.cells #[.slice av.a av.len av.cap] 120)::(aseg++(J++(J9++((n8,Obj.cells #[.map (some n7)] 223)::((n3,Obj.cells #[.slice pv.a pv.len pv.cap] 220)::(c1::(pseg++Cn bs)))))))))))
    ⟨lv,hs,aN,ov,oseg,rfl,rfl,own,aC,bR,?_⟩ (pc fun z=>?_)
   ·unfold M2 Tt;rw[iM,zI];exact oown
   ·have e1:=E8 sG z;have e2:=E8 kG z;rw[hG,wL,oW]at e2;simp only[C3,D0,E5]at*;omega
structure C8 where
 part:Int
 b:Int
 p:Int
 e:Int
 freq:Int
abbrev Dm:=Int×Int×Int×Int
def C8.nm(s:C8):Dm:=(s.part,s.b,s.p,s.e)
def S5(s:C8):List Value:=[.i s.part,.i s.b,.i s.p,.i s.e,.i s.freq]
def Bw(s:C8):(S5 s).length=5:=rfl
def Aj3(l:List C8):(l.flatMap S5).all Bt=true:=by
 induction l with
 |nil=>rfl
 |cons e r ih=>rw[OL,VU,ih];rfl
def Hk:C8:=⟨0,0,0,0,0⟩
abbrev Ry:TypeId:=247
abbrev Ip:TypeId:=197
abbrev Az8:TypeId:=216
def GI:V4 PP Ry Ip 5 40 [.i 0,.i 0,.i 0,.i 0,.i 0]:=De (by kernel_rfl) (by kernel_rfl) rfl (by decide) (by decide)
def JX:W6 PP Ry:=.inl ⟨Ip,by kernel_rfl⟩
def Az4:Jn PP 195=true:=by kernel_rfl
def GD(a b c d a' b' c' d':Int){k:F7 (.lf .bool)->HP}(hk:k (decide ((a,b,c,d)=(a',b',c',d'))) L):
  Y8 PP (binOp .eql 195 (.agg #[.i a,.i b,.i c,.i d]) (.agg #[.i a',.i b',.i c',.i d'])) (.lf .bool) k L:=by
 refine GC (r:=(a==a'&&((b==b'&&(c==c'&&(d==d'&&true)))&&true))) Az4 (by kernel_rfl) ?_;have e:decide ((a,b,c,d)=(a',b',c',d'))=(a==a'&&((b==b'&&(c==c'&&(d==d'&&true)))&&true)):=by
  rw[UT];simp
 rw[e]at hk;exact hk
def P8(h:Nat):Int:=((h/2^48:Nat):Int)
def Cb6(L:B1)(h k:Nat)(hh:h<2^64)(h1:1<=k)(h2:k<=1000):Reads PP 175 #[.int .u64 h,.i k] L (.i ((h%k:Nat):Int)):=by
 refine(e175 h k).r ?_;have hm:=QP h (show k>0 by omega);have hw:IntKind.u64.wrap (k:Int)=k:=Ax8 (by omega) (by omega);refine Bp (show¬(k:Int)<1 by omega) (Dv (by rw[hw];omega) (.of ⟨?_,rfl⟩));rw[hw,<-Int.ofNat_tmod,D7 (by omega) (by omega)]
def Ai3(L:B1)(h:Nat)(hh:h<2^64):Reads PP 148 #[.int .u64 h] L (.i (P8 h)):=by
 refine(e148 h).r ?_;refine Dv (by decide) (.of ⟨?_,rfl⟩);have e:Int.fdiv (h:Int) (2^(min (48:Int).toNat IntKind.u64.bits))=((h/2^48:Nat):Int):=by
  rw[show(2:Int)^(min (48:Int).toNat IntKind.u64.bits)=((2^48:Nat):Int)from rfl,UI _ (by omega)];rfl
 rw[e,D7 (by omega) (by omega)];rfl
abbrev Pl:=Int×Int×Int×Unit
def E1(h:Nat)(p:Pl):Dm:=(P8 h,p.1,p.2.1,p.2.2.1)
def Ud(L:B1)(h:Nat)(hh:h<2^64)(p:Pl):Reads PP 152 #[.int .u64 h,.agg (ki3 p)] L (.agg #[.i (P8 h),.i p.1,.i p.2.1,.i p.2.2.1]):=by
 refine(e152 h p).r ?_;refine C9 fun n1 _=>C9 fun n2 _=>B5 p (C2 (n:=n1) (c:=(ki3 p)) (T:=100) (fz:=(0,0)) (by simp) rfl) ?_;refine C4 (Ai3 _ h hh) (P8 h,()) rfl (P2 (C2 (n:=n1) (c:=(ki3 p)) (T:=100) (fz:=(0,0)) (by simp) rfl) ?_);refine F6 [] _ rfl rfl (by simp) (.inl (NF _)) #[.i (P8 h),.i p.1,.i p.2.1,.i p.2.2.1] rfl ?_;exact B5 (P8 h,p) (C2 NG rfl) (.cons (.cons (.of ⟨rfl,rfl⟩)))
def Bb3(L:B1)(s:C8)(ad:Addr)(nm:Dm)(hl:C0 ad [.i nm.1,.i nm.2.1,.i nm.2.2.1,.i nm.2.2.2] L):
  Reads PP 188 #[.agg #[.i s.part,.i s.b,.i s.p,.i s.e,.i s.freq],.q (some ad)] L (.b (decide (s.nm=nm))):=by
 refine(e188 (s.part,s.b,s.p,s.e,s.freq,()) (some ad)).r ?_;refine C9 fun n1 _=>B5 (s.part,s.b,s.p,s.e,()) (C2 NG rfl) (B7 rfl (B5 (nm.1,nm.2.1,nm.2.2.1,nm.2.2.2,()) (hl.mono fun _ hx=>NN _ hx) (GD _ _ _ _ _ _ _ _ (.cons (.of ⟨rfl,rfl⟩)))))
def Ce1(L:B1)(v:B6)(l:List C8)(h:Sl L v 5 (l.flatMap S5))(hb:l.length<=1000)(ad:Addr)(nm:Dm)(hl:C0 ad [.i nm.1,.i nm.2.1,.i nm.2.2.1,.i nm.2.2.2] L):
  Reads PP 187 #[.slice v.a v.len v.cap,.func (.func 188) #[] #[.q (some ad)]] L
   (.i (match l.findIdx? (fun s=>decide (s.nm=nm))with|some i=>(i:Int)|none=> -1)):=by
 refine(e187 v ⟨.func 188,#[],#[.q (some ad)]⟩).r ?_;have hC:=h.els_len Bw (by decide);refine G1 (fun k z L'=>L'=L/\ ∃i:Nat,i<=l.length/\k=l.length-i/\z=((i:Int),())/\ ∀s∈l.take i,s.nm≠nm) l.length ⟨rfl,0,by omega,by omega,rfl,by simp⟩ ?_;rintro k z L' ⟨rfl,i,hi,rfl,rfl,hn⟩;refine D3 (fun(hO:(i:Int)<v.len)=>?_) (fun(aM: ¬(i:Int)<v.len)=>?_)
 ·have hJ:i<l.length:=by omega
  obtain⟨a,ha,cH⟩:=h.el Bw (by decide) hJ;refine B7 ha (H7 (show(0:Int)<=i by omega) hO (B5 (l[i].part,l[i].b,l[i].p,l[i].e,l[i].freq,()) (by rw[NK];exact cH) ?_));refine Fe (by kernel_rfl) (C4 (Bb3 _ l[i] ad nm hl) (decide (l[i].nm=nm),()) rfl ?_);refine D3 (fun(he:l[i].nm=nm)=>.of ⟨?_,rfl⟩) (fun(he: ¬l[i].nm=nm)=>?_)
  ·have:l.findIdx? (fun s=>decide (s.nm=nm))=some i:=by
    rw[SA];refine⟨hJ,by simpa using he,fun j hj=>?_⟩;have:=hn l[j] (by rw[SY];exact⟨j,by omega,rfl⟩);simpa using this
   rw[this]
  ·refine⟨l.length-(i+1),by omega,rfl,i+1,by omega,rfl,?_,fun e hx=>?_⟩
   ·rw[D7 (by first|omega|(simp only;omega)) (by first|omega|(simp only;omega))];rfl
   ·rw[OB hJ]at hx;rcases NJ.1 hx with hx|hx
    ·exact hn e hx
    ·rw[NM.1 hx];exact he
 ·obtain rfl:i=l.length:=by omega
  rw[OE]at hn;have:l.findIdx? (fun s=>decide (s.nm=nm))=none:=by
   rw[SD];intro s hs;simpa using hn s hs
  rw[this];exact .of ⟨rfl,rfl⟩
def Aj2(v:B6)(l:List C8)(seg:B1)(own:C5 v 5 Ip (l.flatMap S5) seg)(hb:l.length<=1000)(k:Nat)(hk:k<l.length):
  CallF PP 170 #[.slice v.a v.len v.cap,.i k,.i ((k:Int)+1)] seg fun r L'=> ∃s,r= .slice s.a s.len s.cap/\C5 s 5 Ip ((l.take k++l.drop (k+1)).flatMap S5) L':=by
 refine(e170 v k ((k:Int)+1)).c ?_;have hC:=own.sl.els_len Bw (by decide);have aY:=own.cap;refine Q2 (l':=k) (h':=k+1) (m':=v.len) rfl rfl rfl (by omega) (by omega) aY ?_;refine Ex (fun(he:(k:Int)=(k:Int)+1)=>absurd he (by omega)) (fun _=>?_);refine Q2 (l':=0) (h':=k) (m':=v.cap) rfl rfl rfl (by omega) (by omega) (NF _) ?_;refine Q2 (l':=k+1) (h':=v.len) (m':=v.cap) rfl rfl rfl (by omega) aY (NF _) ?_;have own2:=own.slc (l:=0) (h:=k) (by omega) (by omega);have src2:=Sl.slc (m:=v.cap) own.sl (by omega) (l:=k+1) (h':=v.len) (by omega) (NF _) aY;rw[Yf Bw]at own2 src2;refine Zk GI JX [] [] own2 (by simp) (.sl src2) (Aj3 _) (by simp only[G7,NK];omega) fun s seg' hs _ iJ own'=>?_;rw[<-OD]at own';have e1:(l.drop 0).take (k-0)=l.take k:=by simp
 have e2:(l.drop (k+1)).take (v.len-(k+1))=l.drop (k+1):=by rw[hC];exact PZ (by rw[OJ];omega)
 rw[e1,e2]at own';simp only[G7,NK]at hs iJ;have dO:=own'.cap;refine Q2 (l':=s.len) (h':=v.len) (m':=s.cap) rfl rfl rfl (by omega) (by omega) (NF _) ?_;refine Vb GI rfl [] [] own' (by simp) (h:=v.len) (by omega) (by omega) rfl fun seg2 own2=>?_;exact .of ⟨s,rfl,by simpa using own2⟩
abbrev Dl:=B6×List C8×B1
def Dw(r:Dl):List Value:=[.slice r.1.a r.1.len r.1.cap]
def Eb(r:Dl):(Dw r).length=1:=rfl
def W5(rows:List Dl):B1:=rows.flatMap fun r=>r.2.2
def Ll(p s:List Dl)(r:Dl):W5 (p++r::s)=W5 p++(r.2.2++W5 s):=by simp[W5]
def iO(m:Nat)(ways:Int)(sv:B6):Nat×Obj:=(m,Obj.cells #[.i ways,.slice sv.a sv.len sv.cap] 218)
def IA(m:Nat)(ways:Int)(sv:B6)(oseg:B1)(rows:List Dl):B1:=iO m ways sv::(oseg++W5 rows)
structure Rp(sv:B6)(oseg:B1)(rows:List Dl):Prop where
 own:C5 sv 1 Ry (rows.flatMap Dw) oseg
 row: ∀r∈rows,C5 r.1 5 Ip (r.2.1.flatMap S5) r.2.2
 few: ∀r∈rows,r.2.1.length<=100
 pos:1<=rows.length/\rows.length<=64
def An(rows:List Dl):List (List C8):=rows.map fun r=>r.2.1
def IX(m:Nat)(ways:Int)(ss:List (List C8))(A:B1):Prop:= ∃sv oseg rows,A=IA m ways sv oseg rows/\Rp sv oseg rows/\ss=An rows
section
variable {L:B1} {m:Nat} {ways:Int} {sv:B6}
def Ce3(h:iO m ways sv∈L):C0 m.z [.i ways] L:=C2 (by unfold iO at h;exact h) rfl
def Xt(h:iO m ways sv∈L):C0 ⟨m,1,none⟩ [.slice sv.a sv.len sv.cap] L:=C2 (by unfold iO at h;exact h) rfl
end
def Qj(L:B1)(m:Nat)(ways:Int)(sv:B6)(hm:iO m ways sv∈L)(a:Addr)(ha:sv.a=some a)(h1:1<=sv.len)(h2:sv.len<=1000)(h:Nat)(hh:h<2^64):
  Reads PP 138 #[.p m,.int .u64 h] L (.q (some (a.add (h%sv.len)))):=by
 refine(e138 (some m.z) h).r ?_;have dJ:=QP h (show sv.len>0 by omega);refine B7 rfl (B7 rfl (B5 sv (Xt hm) (B5 sv (Xt hm) (C4 (Cb6 _ h sv.len hh h1 h2) (((h%sv.len:Nat):Int),()) rfl (P2 (Xt hm) (B7 ha (H7 (show(0:Int)<=((h%sv.len:Nat):Int) by omega) (show((h%sv.len:Nat):Int)<sv.len by omega) ?_)))))));rw[NK,OS];exact .of ⟨rfl,rfl⟩
def isi(ss:List (List C8))(h:Nat):Nat:=h%ss.length
def C6(ss:List (List C8))(h:Nat):List C8:=ss.getD (isi ss h) []
def iset(ss:List (List C8))(h:Nat)(row:List C8):List (List C8):=ss.set (isi ss h) row
def P3(ss:List (List C8))(h:Nat)(p:Pl):Option C8:=(C6 ss h).find? fun s=>decide (s.nm=E1 h p)
def I0(l:List C8)(nm:Dm):List C8:=l.eraseP fun s=>decide (s.nm=nm)
def Lx(l:List C8)(nm:Dm):(l.findIdx? (fun s=>decide (s.nm=nm))=none/\l.find? (fun s=>decide (s.nm=nm))=none/\I0 l nm=l)\/
  ∃(j:Nat) (hj:j<l.length),l.findIdx? (fun s=>decide (s.nm=nm))=some j/\l.find? (fun s=>decide (s.nm=nm))=some l[j]/\l[j].nm=nm/\I0 l nm=l.take j++l.drop (j+1):=by
 cases h:l.findIdx? (fun s=>decide (s.nm=nm))with
 |none=>
  rw[SD]at h;refine .inl ⟨rfl,?_,XW (fun a ha=>by have:=h a ha;simp only[this];decide)⟩;rw[RR];intro x hx;rw[h x hx];decide
 |some j=>
  rw[SA]at h;obtain⟨hj,h1,h2⟩:=h;have hl:l=l.take j++l[j]::l.drop (j+1):=by rw[<-OZ hj,PR]
  have hb: ∀b∈l.take j,¬decide (b.nm=nm)=true:=by
   intro b hb;obtain⟨i,hi,rfl⟩:=SY.1 hb;have:=h2 i (by omega);simpa using this
  refine .inr ⟨j,hj,rfl,?_,by simpa using h1,?_⟩
  ·rw[YS];exact⟨h1,l.take j,l.drop (j+1),hl,fun a ha=>by have:=hb a ha;simpa using this⟩
  ·unfold I0;conv=>lhs;rw[hl]
   rw[YT _ hb,YU (p:=fun s:C8=>decide (s.nm=nm)) h1]
def IX.split{ss:List (List C8)}(h:IX m ways ss A)(hs:Nat): ∃sv oseg p r s a,A=IA m ways sv oseg (p++r::s)/\Rp sv oseg (p++r::s)/\sv.a=some a/\1<=sv.len/\sv.len<=64/\hs%sv.len=p.length/\C6 ss hs=r.2.1/\
  (∀row',iset ss hs row'=An p++row'::An s):=by
 obtain⟨sv,oseg,rows,rfl,ok,rfl⟩:=h;have hC:=ok.own.sl.els_len Eb (by decide);have bF:=ok.pos;have hi:hs%rows.length<rows.length:=QP _ (by omega);have hl:rows=rows.take (hs%rows.length)++rows[hs%rows.length]::rows.drop (hs%rows.length+1):=by rw[<-OZ hi,PR]
 have aU:(An rows).length=rows.length:=NL ..;obtain⟨a,ha⟩: ∃a,sv.a=some a:=by
  obtain⟨a,ha,_⟩:=ok.own.sl.el Eb (by decide) (i:=0) (by omega);exact⟨a,ha⟩
 refine⟨sv,oseg,rows.take (hs%rows.length),rows[hs%rows.length],rows.drop (hs%rows.length+1),a,by rw[<-hl],by rw[<-hl];exact ok,ha,by omega,by omega,by rw[hC,NW];omega,?_,fun row'=>?_⟩
 ·unfold C6 isi;rw[aU,NX];unfold An;rw[OU,NV hi];rfl
 ·unfold iset isi;rw[aU];unfold An;rw[List.set_eq_take_append_cons_drop,NE (by rw[NL];exact hi),SN,UM]
def IX.same{ss:List (List C8)}(h:IX m ways ss A)(hs:Nat):iset ss hs (C6 ss hs)=ss:=by
 obtain⟨sv,oseg,rows,rfl,ok,rfl⟩:=h;have aU:(An rows).length=rows.length:=NL ..;have hi:hs%(An rows).length<(An rows).length:=QP _ (by have:=ok.pos;omega);unfold iset C6 isi;rw[NX,NV hi];exact List.set_getElem_self ..
section
variable {L:B1} {m:Nat} {ways:Int} {sv:B6} {oseg:B1} {p s:List Dl} {r:Dl} {a:Addr}
def Qo(ok:Rp sv oseg (p++r::s))(ha:sv.a=some a)(hL: ∀x∈oseg,x∈L):C0 (a.add p.length) [.slice r.1.a r.1.len r.1.cap] L:=by
 obtain⟨a',dA,hl⟩:=ok.own.sl.el Eb (by decide) (i:=p.length) (by simp);rw[ha]at dA;obtain rfl:=NI dA;rw[show(p++r::s)[p.length]'(by simp)=r by simp,OS]at hl;exact hl.mono hL
def Qn(ok:Rp sv oseg (p++r::s))(hL: ∀x∈r.2.2,x∈L):Sl L r.1 5 (r.2.1.flatMap S5):=(ok.row r (by simp)).sl.mono hL
def MC(p s:List Dl)(r r':Dl):Bm ((p++r::s).flatMap Dw) p.length (Dw r')=(p++r'::s).flatMap Dw:=by
 have hp:(p.flatMap Dw).length=p.length:=by rw[Ea Eb,OS]
 rw[OD,OD,OL,OL];unfold Bm;rw[SR hp,Eb,<-QB,TG hp];rw[NZ];rfl
def Xu(ok:Rp sv oseg (p++r::s))(r':Dl){seg':B1}(own':C5 sv 1 Ry (Bm ((p++r::s).flatMap Dw) p.length (Dw r')) seg')(h:C5 r'.1 5 Ip (r'.2.1.flatMap S5) r'.2.2)(hf:r'.2.1.length<=100):Rp sv seg' (p++r'::s):=by
 rw[MC]at own';refine⟨own',fun x hx=>?_,fun x hx=>?_,by have:=ok.pos;rw[NR,NU]at this⊢;exact this⟩
 ·rcases NJ.1 hx with h1|h1
  ·exact ok.row x (by simp[h1])
  ·rcases OC.1 h1 with rfl|h2
   ·exact h
   ·exact ok.row x (by simp[h2])
 ·rcases NJ.1 hx with h1|h1
  ·exact ok.few x (by simp[h1])
  ·rcases OC.1 h1 with rfl|h2
   ·exact hf
   ·exact ok.few x (by simp[h2])
end
def Qi(p s:List Dl)(r:Dl):An (p++r::s)=An p++r.2.1::An s:=by simp[An]
def Xp(m:Nat)(ways:Int)(ss:List (List C8))(A:B1)(hA:IX m ways ss A)(h:Nat)(hh:h<2^64)(pl:Pl):
  CallF PP 143 #[.p m,.int .u64 h,.agg (ki3 pl)] A
   fun v L'=>(∃x:C8,v= .t #[.agg #[.i x.part,.i x.b,.i x.p,.i x.e,.i x.freq],.b (P3 ss h pl).isSome]/\x=(P3 ss h pl).getD Hk)/\IX m ways (iset ss h (I0 (C6 ss h) (E1 h pl))) L':=by
 have eG:=hA.same h;obtain⟨sv,oseg,p,r,s,a,rfl,ok,ha,fF,iR,hp,aD,cM⟩:=hA.split h;refine(e143 (some m.z) h pl).c ?_;have hg:iO m ways sv∈IA m ways sv oseg (p++r::s):=NG;have mN: ∀{X:B1},(∀x∈oseg,x∈X++IA m ways sv oseg (p++r::s)):=fun x hx=>by unfold IA;simp[hx]
 have cK: ∀{X:B1},(∀x∈r.2.2,x∈X++IA m ways sv oseg (p++r::s)):=fun x hx=>by unfold IA W5;simp[hx]
 have hb:=ok.few r (by simp);refine C9 fun n1 _=>C9 fun n2 _=>D8 rfl ?_;generalize dU:(n1,Obj.cells (ki3 pl) 100)=o1;generalize eO:(n2,Obj.cells #[.i 0,.i 0,.i 0,.i 0,.i 0] 197)=o2;have l1: ∀{Z:B1},C0 n1.z [.i pl.1,.i pl.2.1,.i pl.2.2.1] (o2::o1::Z):=by subst dU;exact C2 (n:=n1) (c:=(ki3 pl)) (T:=100) (fz:=(0,0)) (by simp) rfl
 refine B5 pl l1 (C4 (Qj _ m ways sv (by simp[hg]) a ha fF (by omega) h hh) (some (a.add (h%sv.len)),()) rfl (P2 l1 ?_));rw[hp];refine C4 (Ud _ h hh pl) ((P8 h,pl.1,pl.2.1,pl.2.2.1,()),()) rfl (C9 fun n3 _=>F6 [] _ rfl rfl (by simp) (.inl (NF _)) #[.i (P8 h),.i pl.1,.i pl.2.1,.i pl.2.2.1] rfl ?_);rw[NT];generalize yU:(n3,Obj.cells #[.i (P8 h),.i pl.1,.i pl.2.1,.i pl.2.2.1] 195)=o3;have l3: ∀{Z:B1},C0 n3.z [.i (E1 h pl).1,.i (E1 h pl).2.1,.i (E1 h pl).2.2.1,.i (E1 h pl).2.2.2] (o3::Z):=by subst yU;exact C2 NG rfl
 have lr:C0 (a.add p.length) [.slice r.1.a r.1.len r.1.cap] (o3::o2::o1::IA m ways sv oseg (p++r::s)):=Qo ok ha (mN (X:=[o3,o2,o1]));have lsl:Sl (o3::o2::o1::IA m ways sv oseg (p++r::s)) r.1 5 (r.2.1.flatMap S5):=Qn ok (cK (X:=[o3,o2,o1]));refine B7 rfl (B5 r.1 lr (C4 (Ce1 _ r.1 r.2.1 lsl (by omega) n3.z (E1 h pl) l3) (_,()) rfl ?_));rcases Lx r.2.1 (E1 h pl)with⟨e1,e2,e3⟩|⟨j,hj,e1,e2,e4,e3⟩
 ·rw[e1];refine Ew (show(-1:Int)<0 by decide) ?_;subst eO;refine F6 [o3] _ rfl rfl (by simp) (.inl (NF _)) #[.i 0,.i 0,.i 0,.i 0,.i 0] rfl ?_;refine B5 (0,0,0,0,0,()) (C2 (n:=n2) (c:=#[.i 0,.i 0,.i 0,.i 0,.i 0]) (T:=197) (fz:=(0,0)) (by simp) rfl) (.cons (.cons (.cons (.of ⟨?_,?_⟩))))
  ·have:P3 ss h pl=none:=by unfold P3;rw[aD,e2]
   rw[this];exact⟨Hk,rfl,rfl⟩
  ·rw[aD,e3,<-aD,eG];exact⟨sv,oseg,_,rfl,ok,by rw[Qi,<-cM,<-aD,eG]⟩
 ·rw[e1];have hC:=lsl.els_len Bw (by decide);have hj0:(0:Int)<=(j:Int):=by omega
  have eP:(j:Int)<r.1.len:=by omega
  refine Bp (show¬(j:Int)<0 by omega) ?_;obtain⟨b,fZ,cH⟩:=lsl.el Bw (by decide) hj;have oL:C0 (b.add ((j:Int).toNat*5)) (S5 r.2.1[j]) (o3::o2::o1::IA m ways sv oseg (p++r::s)):=by rw[NK];exact cH
  refine B7 rfl (B5 r.1 lr (B7 fZ (H7 hj0 eP (B5 (r.2.1[j].part,r.2.1[j].b,r.2.1[j].p,r.2.1[j].e,r.2.1[j].freq,()) oL ?_))));clear cH oL;generalize hx:r.2.1[j]=x at*;refine C9 fun n4 _=>F6 [] _ rfl rfl (by simp) (.inl (NF _)) #[.i x.part,.i x.b,.i x.p,.i x.e,.i x.freq] rfl ?_;rw[NT];generalize ho4:(n4,Obj.cells #[.i x.part,.i x.b,.i x.p,.i x.e,.i x.freq] 197)=o4;have l4: ∀{Z:B1},C0 n4.z [.i x.part,.i x.b,.i x.p,.i x.e,.i x.freq] (o4::Z):=by subst ho4;exact C2 NG rfl
  have hw:IntKind.i64.wrap ((j:Int)+1)=(j:Int)+1:=D7 (by omega) (by omega);refine B7 rfl (B5 r.1 (lr.mono fun _ hx=>NN _ hx) ?_);simp only[hw];refine K3 (o4::o3::o2::o1::iO m ways sv::(oseg++W5 p)) (W5 s) (Aj2 r.1 r.2.1 r.2.2 (ok.row r (by simp)) (by omega) j hj) (by unfold IA;rw[Ll];simp) ?_;rintro _ seg2-⟨v2,rfl,own2⟩;refine⟨(v2,()),rfl,B7 rfl ?_⟩;rw[<-e3]at own2;refine ok.own.st (o4::o3::o2::o1::[iO m ways sv]) (W5 p++seg2++W5 s) (p:=p.length) (ws:=Dw (v2,I0 r.2.1 (E1 h pl),seg2)) (by rw[Ea Eb,Eb];simp) (by rw[Eb];omega) ha rfl (by simp) fun oseg' own'=>?_;have ok':=Xu ok (v2,I0 r.2.1 (E1 h pl),seg2) own' own2 (OK (UW ..) hb);refine B5 (x.part,x.b,x.p,x.e,x.freq,()) l4 ?_;subst eO;refine F6 [o4,o3] _ rfl rfl (by simp) (.inl (NF _)) #[.i x.part,.i x.b,.i x.p,.i x.e,.i x.freq] rfl ?_;refine B5 (x.part,x.b,x.p,x.e,x.freq,()) (C2 (n:=n2) (c:=#[.i x.part,.i x.b,.i x.p,.i x.e,.i x.freq]) (T:=197) (fz:=(0,0)) (by simp) rfl) (.cons (.cons (.cons (.cons (.of ⟨?_,?_⟩)))))
  ·have:P3 ss h pl=some x:=by unfold P3;rw[aD,e2]
   rw[this];exact⟨x,rfl,rfl⟩
  ·rw[aD];refine⟨sv,oseg',_,?_,ok',by rw[cM,Qi]⟩;unfold IA;rw[Ll];simp
def Ah3(m:Nat)(ways:Int)(ss:List (List C8))(A:B1)(hA:IX m ways ss A)(h:Nat)(hh:h<2^64)(x:C8)(hf:(C6 ss h).length<100):
  CallF PP 171 #[.p m,.int .u64 h,.agg #[.i x.part,.i x.b,.i x.p,.i x.e,.i x.freq]] A
   fun v L'=>v= .t #[]/\IX m ways (iset ss h (C6 ss h++[x])) L':=by
 obtain⟨sv,oseg,p,r,s,a,rfl,ok,ha,fF,iR,hp,aD,cM⟩:=hA.split h;refine(e171 (some m.z) h (x.part,x.b,x.p,x.e,x.freq,())).c ?_;refine C9 fun n1 _=>?_;rw[aD]at hf⊢;have hC:=(ok.row r (by simp)).sl.els_len Bw (by decide);refine C4 (Qj _ m ways sv (by unfold IA;simp) a ha fF (by omega) h hh) (some (a.add (h%sv.len)),()) rfl ?_;rw[hp];refine B7 rfl (B5 r.1 (Qo ok ha (fun x hx=>by unfold IA;simp[hx])) (B5 (x.part,x.b,x.p,x.e,x.freq,()) (C2 NG rfl) (C9 fun n2 _=>?_)));generalize dU:(n1,Obj.cells #[.i x.part,.i x.b,.i x.p,.i x.e,.i x.freq] 197)=o1;have iY: ∀{Z:B1},Sl ((n2,Obj.cells #[.i x.part,.i x.b,.i x.p,.i x.e,.i x.freq] Ip)::Z) ⟨some n2.z,1,1⟩ 5 ([x].flatMap S5):=fun{Z}=>⟨rfl,NF _,.inr ⟨_,rfl,C2 NG rfl⟩⟩;refine Q1 GI JX ((n2,Obj.cells #[.i x.part,.i x.b,.i x.p,.i x.e,.i x.freq] Ip)::o1::iO m ways sv::(oseg++W5 p)) (W5 s) (ok.row r (by simp)) (by unfold IA;rw[Ll];simp) (.sl iY) (Aj3 _) (by simp only;omega) fun v2 seg2 kX own2=>?_;rw[<-OD]at own2;refine B7 rfl (ok.own.st ((n2,Obj.cells #[.i x.part,.i x.b,.i x.p,.i x.e,.i x.freq] Ip)::o1::[iO m ways sv]) (W5 p++seg2++W5 s) (p:=p.length) (ws:=Dw (v2,r.2.1++[x],seg2)) (by rw[Ea Eb,Eb];simp) (by rw[Eb];omega) ha rfl (by simp) fun oseg' own'=>?_);have ok':=Xu ok (v2,r.2.1++[x],seg2) own' own2 (by rw[NR];simp only[NU,OX];omega);refine .cons (.cons (.of ⟨rfl,sv,oseg',_,?_,ok',by rw[cM,Qi]⟩));unfold IA;rw[Ll];simp
def Cm2:V4 PP Az8 Ry 1 24 [.slice none 0 0]:=De (by kernel_rfl) (by kernel_rfl) rfl (by decide) (by decide)
def Cc2(L:B1)(sets ways:Int)(h:sets<1\/sets>64\/ways<1\/ways>8):Reads PP 63 #[.i sets,.i ways] L (.t #[.q none,.i 30]):=by
 refine(e63 sets ways).r ?_;exact D3 (fun _=>.of ⟨rfl,rfl⟩) fun h1=>D3 (fun _=>.of ⟨rfl,rfl⟩) fun h2=>D3 (fun _=>.of ⟨rfl,rfl⟩) fun h3=>D3 (fun _=>.of ⟨rfl,rfl⟩) fun h4=>by omega
theorem LI: ∀k:Nat,(List.replicate k ((⟨none,0,0⟩,[],[]):Dl)).flatMap Dw=Cp [.slice none 0 0] k
 |0=>rfl
 |k+1=>by rw[RM,OL,LI k];simp[Cp,Dw,RM]
def Cc1(sets:Nat)(ways:Int)(h1:1<=sets)(h2:sets<=64)(h3:1<=ways)(h4:ways<=8):
  CallF PP 63 #[.i sets,.i ways] [] fun r L'=> ∃m,r= .t #[.p m,.i 0]/\IX m ways (List.replicate sets []) L':=by
 refine(e63 sets ways).c ?_;refine Bp (show¬(sets:Int)<1 by omega) (Bp (show¬(sets:Int)>64 by omega) (Bp (by omega) (Bp (by omega) ?_)));refine Tp Cm2 (l:=sets) (c:=sets) (NF _) (by omega) fun n ob own _ _=>C9 fun m _=>.of ⟨m,rfl,⟨some n.z,sets,sets⟩,[(n,ob)],List.replicate sets (⟨none,0,0⟩,[],[]),?_,⟨?_,?_,?_,by rw[PE];omega⟩,?_⟩
 ·unfold IA iO;have:W5 (List.replicate sets ((⟨none,0,0⟩,[],[]):Dl))=[]:=by
   unfold W5;rw[List.flatMap_eq_nil_iff];intro x hx;rw[PW hx]
  rw[this];rfl
 ·have:(List.replicate sets ((⟨none,0,0⟩,[],[]):Dl)).flatMap Dw=Cp [.slice none 0 0] sets:=by
   exact LI sets
  rw[this];exact own
 ·intro r hr;rw[PW hr];exact⟨rfl,NF _,.inl ⟨rfl,rfl,rfl⟩⟩
 ·intro r hr;rw[PW hr];exact PQ _
 ·unfold An;rw[List.map_replicate]
def W1(h:Nat)(p:Pl)(freq:Int):C8:=⟨P8 h,p.1,p.2.1,p.2.2.1,freq⟩
def U0(l:List C8)(ways:Int):Bool:=((l.length:Int)==ways)
def Ii(l:List C8)(ways:Int)(h:Nat)(p:Pl):List C8:=(if U0 (I0 l (E1 h p)) ways then(I0 l (E1 h p)).drop 1 else I0 l (E1 h p))++[W1 h p 0]
def Jp(l:List C8)(ways:Int)(h:Nat)(p:Pl):C8:=if U0 (I0 l (E1 h p)) ways then(I0 l (E1 h p)).headD Hk else Hk
def Da(ss:List (List C8))(ways:Int)(h:Nat)(p:Pl):List (List C8):=iset ss h (Ii (C6 ss h) ways h p)
def IX.few{ss:List (List C8)}(h:IX m ways ss A)(hs:Nat):(C6 ss hs).length<=100:=by
 obtain⟨sv,oseg,p,r,s,a,rfl,ok,ha,fF,iR,hp,aD,cM⟩:=h.split hs;rw[aD];exact ok.few r (by simp)
def IX.lt{ss:List (List C8)}(h:IX m ways ss A)(hs:Nat):isi ss hs<ss.length:=by
 obtain⟨sv,oseg,rows,rfl,ok,rfl⟩:=h;unfold isi;have aU:(An rows).length=rows.length:=NL ..;have:=ok.pos;exact QP _ (by omega)
def Xs{ss:List (List C8)}{h:Nat}(hl:isi ss h<ss.length)(row:List C8):C6 (iset ss h row) h=row:=by
 have aU:(iset ss h row).length=ss.length:=RQ ..;have e:isi (iset ss h row) h=isi ss h:=by unfold isi;rw[aU]
 unfold C6;rw[e];unfold iset;rw[NX,WE hl];rfl
def Xq(ss:List (List C8))(h:Nat)(r1 r2:List C8):iset (iset ss h r1) h r2=iset ss h r2:=by
 have aU:(iset ss h r1).length=ss.length:=RQ ..;have e:isi (iset ss h r1) h=isi ss h:=by unfold isi;rw[aU]
 unfold iset at*;rw[e,List.set_set]
def Cf7{l:List C8}(h:0<l.length):l.headD Hk=l[0]:=by
 cases l with
 |nil=>simp at h
 |cons y t=>rfl
def Cb8(m:Nat)(ways:Int)(ss:List (List C8))(A:B1)(hA:IX m ways ss A)(hw:1<=ways)(h:Nat)(hh:h<2^64)(pl:Pl)(hf:(C6 ss h).length<100):
  CallF PP 131 #[.p m,.int .u64 h,.agg (ki3 pl)] A
   fun v L'=>(∃g:C8,v= .t #[.agg #[.i g.b,.i g.p,.i g.e],.b (U0 (I0 (C6 ss h) (E1 h pl)) ways)]/\g=Jp (C6 ss h) ways h pl)/\IX m ways (Da ss ways h pl) L':=by
 refine(e131 (some m.z) h pl).c ?_;have hO:=hA.lt h;refine C9 fun n1 _=>C9 fun n2 _=>D8 rfl ?_;generalize dU:(n1,Obj.cells (ki3 pl) 100)=o1;generalize eO:(n2,Obj.cells #[.i 0,.i 0,.i 0] 100)=o2;have l1: ∀{Z:B1},C0 n1.z [.i pl.1,.i pl.2.1,.i pl.2.2.1] (o2::o1::Z):=by subst dU;exact C2 (n:=n1) (c:=(ki3 pl)) (T:=100) (fz:=(0,0)) (by simp) rfl
 refine B5 pl l1 (K3 [o2,o1] [] (Xp m ways ss A hA h hh pl) (by simp) ?_);rintro _ A1-⟨⟨x,rfl,-⟩,oA⟩;refine⟨((x.part,x.b,x.p,x.e,x.freq,()),(P3 ss h pl).isSome,()),rfl,?_⟩;have jO:=Xs hO (I0 (C6 ss h) (E1 h pl));have mC: ∀row',iset (iset ss h (I0 (C6 ss h) (E1 h pl))) h row'=iset ss h row':=fun row'=>Xq ..;generalize fF:I0 (C6 ss h) (E1 h pl)=l1' at oA jO mC⊢;have dQ:Da ss ways h pl=iset ss h ((if U0 l1' ways then l1'.drop 1 else l1')++[W1 h pl 0]):=by unfold Da Ii;rw[fF]
 have jS:Jp (C6 ss h) ways h pl=if U0 l1' ways then l1'.headD Hk else Hk:=by unfold Jp;rw[fF]
 have hl1f:l1'.length<100:=by rw[<-fF];exact Nat.lt_of_le_of_lt (UW ..) hf
 rw[dQ,jS];clear dQ jS fF;obtain⟨sv,oseg,p,r,s,a,rfl,ok,ha,bM,aP,hp,aD,cM⟩:=oA.split h;rw[jO]at aD;subst aD;have hg:iO m ways sv∈IA m ways sv oseg (p++r::s):=NG;have mN: ∀{X:B1},(∀x∈oseg,x∈X++IA m ways sv oseg (p++r::s)):=fun x hx=>by unfold IA;simp[hx]
 have cK: ∀{X:B1},(∀x∈r.2.2,x∈X++IA m ways sv oseg (p++r::s)):=fun x hx=>by unfold IA W5;simp[hx]
 refine C4 (Qj _ m ways sv (by simp[hg]) a ha bM (by omega) h hh) (some (a.add (h%sv.len)),()) rfl (C9 fun n3 _=>?_);rw[hp];have lr: ∀{o:Nat×Obj},C0 (a.add p.length) [.slice r.1.a r.1.len r.1.cap] (o::([o2,o1]++IA m ways sv oseg (p++r::s))):=fun{o}=>Qo ok ha (mN (X:=[o,o2,o1]));have lsl: ∀{o:Nat×Obj},Sl (o::([o2,o1]++IA m ways sv oseg (p++r::s))) r.1 5 (r.2.1.flatMap S5):=fun{o}=>Qn ok (cK (X:=[o,o2,o1]));have hC:=(lsl (o:=o1)).els_len Bw (by decide);rw[NP];refine B7 rfl (B7 rfl (B5 r.1 lr (B5 ways (Ce3 (sv:=sv) (by simp[hg])) ?_)));have hv: ∀r1:Int,((r.1.len:Int)==r1)=(((r.2.1.length:Nat):Int)==r1):=fun r1=>by rw[hC]
 refine V9 (fun(_:D2 []) L'=> ∃(g:C8) (A':B1),L'=(n3,Obj.cells #[.i g.part,.i g.b,.i g.p,.i g.e,.i g.freq] 197)::o2::o1::A'/\g=(if U0 r.2.1 ways then r.2.1.headD Hk else Hk)/\IX m ways (iset ss h (if U0 r.2.1 ways then r.2.1.drop 1 else r.2.1)) A') ?_ ?_
 ·rintro⟨⟩ _ ⟨g,A',rfl,hgg,cU⟩;have fS:=Xs hO (if U0 r.2.1 ways then r.2.1.drop 1 else r.2.1);have pI:(if U0 r.2.1 ways then r.2.1.drop 1 else r.2.1).length<100:=by
   split
   ·rw[OJ];omega
   ·omega
  generalize (if U0 r.2.1 ways then r.2.1.drop 1 else r.2.1)=l2 at cU fS pI⊢;have l1':C0 n1.z [.i pl.1,.i pl.2.1,.i pl.2.2.1] ((n3,Obj.cells #[.i g.part,.i g.b,.i g.p,.i g.e,.i g.freq] 197)::o2::o1::A'):=(l1 (Z:=A')).mono fun _ hx=>NN _ hx;refine B5 pl l1' (C4 (Ud _ h hh pl) ((P8 h,pl.1,pl.2.1,pl.2.2.1,()),()) rfl ?_);refine K3 [(n3,Obj.cells #[.i g.part,.i g.b,.i g.p,.i g.e,.i g.freq] 197),o2,o1] [] (Ah3 m ways _ A' cU h hh (W1 h pl 0) (by rw[fS];exact pI)) (by simp) ?_;rintro _ A2-⟨rfl,wO⟩;rw[fS,Xq]at wO;refine⟨(),rfl,B5 (g.b,g.p,g.e,()) (C2 (n:=n3) (c:=#[.i g.part,.i g.b,.i g.p,.i g.e,.i g.freq]) (T:=197) (fz:=(0,0)) (by simp) rfl) ?_⟩;subst eO;refine F6 (n:=n2) (off:=0) (c:=#[.i 0,.i 0,.i 0]) (T:=100) (fz:=(0,0)) [(n3,Obj.cells #[.i g.part,.i g.b,.i g.p,.i g.e,.i g.freq] 197)] (o1::A2) rfl (by simp) (by simp) (.inl (NF _)) #[.i g.b,.i g.p,.i g.e] rfl ?_;refine B5 (g.b,g.p,g.e,()) (C2 (n:=n2) (c:=#[.i g.b,.i g.p,.i g.e]) (T:=100) (fz:=(0,0)) (by simp) rfl) (.cons (.cons (.cons (.of ⟨⟨g,?_,hgg⟩,wO⟩))));rw[hv];rfl
 intro j hj;refine M0 (fun fX=>?_) (fun fX=>?_)
 ·rw[hv]at fX;have kQ:U0 r.2.1 ways=true:=fX;have bg:((r.2.1.length:Nat):Int)=ways:=by simpa using fX
  have h0:0<r.2.1.length:=by omega
  obtain⟨b,fZ,cH⟩:=(lsl (o:=(n3,Obj.cells #[.i 0,.i 0,.i 0,.i 0,.i 0] 197))).el Bw (by decide) h0;have hx:r.2.1.headD Hk=r.2.1[0]:=Cf7 h0;have rO:=Aj2 r.1 r.2.1 r.2.2 (ok.row r (by simp)) (by omega) 0 h0;refine B7 rfl (B5 r.1 lr (B7 fZ (H7 (by decide) (by omega) (B5 (r.2.1[0].part,r.2.1[0].b,r.2.1[0].p,r.2.1[0].e,r.2.1[0].freq,()) cH ?_))));clear cH;generalize r.2.1[0]=x0 at hx⊢;refine F6 [] _ rfl rfl (by simp) (.inl (NF _)) #[.i x0.part,.i x0.b,.i x0.p,.i x0.e,.i x0.freq] rfl ?_;rw[NT];refine B7 rfl (B5 r.1 lr ?_);refine K3 ((n3,Obj.cells #[.i x0.part,.i x0.b,.i x0.p,.i x0.e,.i x0.freq] 197)::o2::o1::iO m ways sv::(oseg++W5 p)) (W5 s) rO (by unfold IA;rw[Ll];simp) ?_;rintro _ seg2-⟨v2,rfl,own2⟩;refine⟨(v2,()),rfl,B7 rfl ?_⟩;have e3:r.2.1.take 0++r.2.1.drop (0+1)=r.2.1.drop 1:=by simp
  rw[e3]at own2;refine ok.own.st ((n3,Obj.cells #[.i x0.part,.i x0.b,.i x0.p,.i x0.e,.i x0.freq] 197)::o2::o1::[iO m ways sv]) (W5 p++seg2++W5 s) (p:=p.length) (ws:=Dw (v2,r.2.1.drop 1,seg2)) (by rw[Ea Eb,Eb];simp) (by rw[Eb];omega) ha rfl (by simp) fun oseg' own'=>?_;have ok':=Xu ok (v2,r.2.1.drop 1,seg2) own' own2 (by rw[OJ];omega);refine hj _ _ ⟨x0,IA m ways sv oseg' (p++(v2,r.2.1.drop 1,seg2)::s),?_,by rw[NE kQ,hx],?_⟩
  ·unfold IA;rw[Ll];simp
  ·rw[NE kQ];exact⟨sv,oseg',_,rfl,ok',by rw[Qi,<-mC,cM]⟩
 ·rw[hv]at fX;have kQ: ¬U0 r.2.1 ways=true:=by unfold U0;rw[fX];decide
  refine hj _ _ ⟨Hk,IA m ways sv oseg (p++r::s),rfl,by rw[ND kQ],?_⟩;rw[ND kQ];exact⟨sv,oseg,_,rfl,ok,by rw[Qi,<-mC,cM]⟩
def Aj1(m:Nat)(ways:Int)(ss:List (List C8))(A:B1)(hA:IX m ways ss A)(h:Nat)(hh:h<2^64)(pl:Pl):
  CallF PP 89 #[.p m,.int .u64 h,.agg (ki3 pl)] A
   fun v L'=>v= .b (P3 ss h pl).isSome/\IX m ways (iset ss h (I0 (C6 ss h) (E1 h pl))) L':=by
 refine(e89 (some m.z) h pl).c ?_;refine C9 fun n1 _=>B5 pl (C2 NG rfl) (K3 [(n1,Obj.cells (ki3 pl) 100)] [] (Xp m ways ss A hA h hh pl) (by simp) ?_);rintro _ A1-⟨⟨x,rfl,-⟩,oA⟩;refine⟨((x.part,x.b,x.p,x.e,x.freq,()),(P3 ss h pl).isSome,()),rfl,C9 fun n2 _=>F6 [] _ rfl rfl (by simp) (.inl (NF _)) #[.i x.part,.i x.b,.i x.p,.i x.e,.i x.freq] rfl ?_⟩;rw[NP];exact .cons (.cons (.of ⟨rfl,oA⟩))
def Cj(ss:List (List C8))(h:Nat)(p q:Pl):List (List C8):=match P3 ss h p with
 |none=>ss
 |some x=>iset ss h (I0 (I0 (C6 ss h) (E1 h p)) (E1 h q)++[W1 h q (L9 (x.freq-1) 0)])
def Cd1(m:Nat)(ways:Int)(ss:List (List C8))(A:B1)(hA:IX m ways ss A)(h:Nat)(hh:h<2^64)(p q:Pl)(cD: ∀s∈C6 ss h,0<=s.freq/\s.freq<=3):
  CallF PP 234 #[.p m,.int .u64 h,.agg (ki3 p),.agg (ki3 q)] A
   fun v L'=>v= .b (P3 ss h p).isSome/\IX m ways (Cj ss h p q) L':=by
 refine(e234 (some m.z) h p q).c ?_;have hO:=hA.lt h;have eG:=hA.same h;refine C9 fun n1 _=>C9 fun n2 _=>B5 p (C2 (n:=n1) (c:=(ki3 p)) (T:=100) (fz:=(0,0)) (by simp) rfl) ?_;generalize dU:(n1,Obj.cells (ki3 p) 100)=o1;generalize eO:(n2,Obj.cells (ki3 q) 100)=o2;have l2: ∀{Z:B1} {o:Nat×Obj},C0 n2.z [.i q.1,.i q.2.1,.i q.2.2.1] (o::o2::Z):=by subst eO;exact C2 (n:=n2) (c:=(ki3 q)) (T:=100) (fz:=(0,0)) (by simp) rfl
 refine K3 [o2,o1] [] (Xp m ways ss A hA h hh p) (by simp) ?_;rintro _ A1-⟨⟨x,rfl,hx⟩,oA⟩;refine⟨((x.part,x.b,x.p,x.e,x.freq,()),(P3 ss h p).isSome,()),rfl,C9 fun n3 _=>F6 [] _ rfl rfl (by simp) (.inl (NF _)) #[.i x.part,.i x.b,.i x.p,.i x.e,.i x.freq] rfl ?_⟩;rw[NP,NT];generalize yU:(n3,Obj.cells #[.i x.part,.i x.b,.i x.p,.i x.e,.i x.freq] 197)=o3;have l3: ∀{Z:B1},C0 (Addr.add n3.z 4) [.i x.freq] (o3::Z):=by subst yU;exact C2 NG rfl
 cases gI:P3 ss h p with
 |none=>
  refine D8 rfl (.cons (.cons (.cons (.of ⟨rfl,?_⟩))));have aD:I0 (C6 ss h) (E1 h p)=C6 ss h:=by
   rcases Lx (C6 ss h) (E1 h p)with⟨_,_,e⟩|⟨j,hj,_,e,_⟩
   ·exact e
   ·unfold P3 at gI;rw[gI]at e;cases e
  unfold Cj;rw[gI];rw[aD,eG]at oA;exact oA
 |some y=>
  rw[gI]at hx;have ax:x=y:=hx;subst ax;have aX:x∈C6 ss h:=by unfold P3 at gI;exact UX gI
  have hfx:=cD x aX;have jO:=Xs hO (I0 (C6 ss h) (E1 h p));refine E9 rfl (B5 q l2 (K3 [o3,o2,o1] [] (Xp m ways _ A1 oA h hh q) (by simp) ?_));rintro _ A2-⟨⟨y,rfl,-⟩,wO⟩;refine⟨((y.part,y.b,y.p,y.e,y.freq,()),(P3 _ h q).isSome,()),rfl,?_⟩;rw[jO,Xq]at wO;refine B5 q l2 (B5 x.freq l3 (C4 (Ud _ h hh q) ((P8 h,q.1,q.2.1,q.2.2.1,()),()) rfl (P2 l3 ?_)));rw[D7 (by omega) (by omega)];have fS:=Xs hO (I0 (I0 (C6 ss h) (E1 h p)) (E1 h q));have bV:(I0 (I0 (C6 ss h) (E1 h p)) (E1 h q)).length<100:=by
   have h1:=hA.few h;have h2:(I0 (C6 ss h) (E1 h p)).length<(C6 ss h).length:=by
    rcases Lx (C6 ss h) (E1 h p)with⟨_,e,_⟩|⟨j,hj,_,_,_,e⟩
    ·unfold P3 at gI;rw[gI]at e;cases e
    ·rw[e,NR,NW,OJ];omega
   have h3:(I0 (I0 (C6 ss h) (E1 h p)) (E1 h q)).length<=(I0 (C6 ss h) (E1 h p)).length:=UW ..;omega
  refine K3 [o3,o2,o1] [] (Ah3 m ways _ A2 wO h hh (W1 h q (L9 (x.freq-1) 0)) (by rw[fS];exact bV)) (by simp) ?_;rintro _ A3-⟨rfl,lO⟩;rw[fS,Xq]at lO;rw[NP];refine⟨(),rfl,.cons (.cons (.cons (.of ⟨rfl,?_⟩)))⟩;unfold Cj;rw[gI];exact lO
def ilen(ss:List (List C8)):Nat:=(ss.map List.length).sum
def Cd6(ss:List (List C8))(i:Nat)(hi:i<ss.length):ilen (ss.take (i+1))=ilen (ss.take i)+ss[i].length:=by
 unfold ilen;rw[OB hi,NQ,List.sum_append];simp
def Cd7(m:Nat)(ways:Int)(ss:List (List C8))(A:B1)(hA:IX m ways ss A):Reads PP 81 #[.p m] A (.i (ilen ss:Int)):=by
 obtain⟨sv,oseg,rows,rfl,ok,rfl⟩:=hA;refine(e81 (some m.z)).r ?_;have aU:Sl (IA m ways sv oseg rows) sv 1 (rows.flatMap Dw):=ok.own.sl.left.cons;have hC:=aU.els_len Eb (by decide);have bF:=ok.pos;refine E9 rfl (B7 rfl (B5 sv (Xt (ways:=ways) NG) ?_));refine G1 (fun k z L'=>L'=IA m ways sv oseg rows/\ ∃i:Nat,i<=rows.length/\k=rows.length-i/\z=(((ilen (An (rows.take i)):Nat):Int),(i:Int),())/\ilen (An (rows.take i))<=100*i) rows.length ⟨rfl,0,by omega,by omega,rfl,by simp[ilen,An]⟩ ?_;rintro k z L ⟨rfl,i,hi,rfl,rfl,hb⟩;refine D3 (fun(hO:(i:Int)<sv.len)=>?_) (fun(aM: ¬(i:Int)<sv.len)=>?_)
 ·have hJ:i<rows.length:=by omega
  obtain⟨a,ha,cH⟩:=aU.el Eb (by decide) hJ;have bx:=(ok.row rows[i] (NO hJ)).sl.els_len Bw (by decide);have hrf:=ok.few rows[i] (NO hJ);refine B7 ha (H7 (show(0:Int)<=i by omega) hO (B5 rows[i].1 (by rw[NK];exact cH) ?_));have hs:ilen (An (rows.take (i+1)))=ilen (An (rows.take i))+rows[i].2.1.length:=by
   unfold An;have:=Cd6 (rows.map fun r=>r.2.1) i (by rw[NL];exact hJ);rw[<-SN,<-SN,QG]at this;exact this
  refine⟨rows.length-(i+1),by omega,rfl,i+1,by omega,rfl,?_,by omega⟩;show(IntKind.i64.wrap (((ilen (An (rows.take i)):Nat):Int)+(rows[i].1.len:Int)),IntKind.i64.wrap ((i:Int)+1),())=_;rw[D7 (n:=((ilen (An (rows.take i)):Nat):Int)+(rows[i].1.len:Int)) (by omega) (by omega),D7 (n:=(i:Int)+1) (by omega) (by omega),hs,bx];rfl
 ·obtain rfl:i=rows.length:=by omega
  rw[OE];exact .of ⟨rfl,rfl⟩
def Nk(p:Pl):List Value:=[.i p.1,.i p.2.1,.i p.2.2.1]
def Sz(p:Pl):(Nk p).length=3:=rfl
def Br1(l:List Pl):(l.flatMap Nk).all Bt=true:=by
 induction l with
 |nil=>rfl
 |cons e r ih=>rw[OL,VU,ih];rfl
def Cl9:V4 PP 65 100 3 24 [.i 0,.i 0,.i 0]:=De (by kernel_rfl) (by kernel_rfl) rfl (by decide) (by decide)
def Bd7:W6 PP 65:=.inl ⟨100,by kernel_rfl⟩
def C8.pl(s:C8):Pl:=(s.b,s.p,s.e,())
def P0(l:List C8)(h:Nat):List Pl:=(l.filter fun s=>decide (s.part=P8 h)).map C8.pl
def EX(l:List C8)(x:C8)(h:Nat):P0 (l++[x]) h=P0 l h++(if x.part=P8 h then[x.pl]else[]):=by
 unfold P0;rw[QZ,NQ];by_cases hx:x.part=P8 h<;>simp[hx]
def Aj0(m:Nat)(ways:Int)(ss:List (List C8))(A:B1)(hA:IX m ways ss A)(h:Nat)(hh:h<2^64):
  CallF PP 103 #[.p m,.int .u64 h] A
   fun v L'=> ∃(u:B6) (seg:B1),v= .slice u.a u.len u.cap/\L'=seg++A/\C5 u 3 100 ((P0 (C6 ss h) h).flatMap Nk) seg:=by
 obtain⟨sv,oseg,p,r,s,a,rfl,ok,ha,fF,iR,hp,aD,cM⟩:=hA.split h;refine(e103 (some m.z) h).c ?_;refine D8 rfl (C4 (Qj _ m ways sv (by unfold IA;simp) a ha fF (by omega) h hh) (some (a.add (h%sv.len)),()) rfl ?_);rw[hp];have lsl:Sl (IA m ways sv oseg (p++r::s)) r.1 5 (r.2.1.flatMap S5):=Qn ok (fun x hx=>by unfold IA W5;simp[hx]);have hC:=lsl.els_len Bw (by decide);have hb:=ok.few r (by simp);refine B7 rfl (B5 r.1 (Qo ok ha (fun x hx=>by unfold IA;simp[hx])) ?_);rw[aD];refine G1 (fun k z L'=> ∃(i:Nat) (u:B6) (seg J:B1),i<=r.2.1.length/\k=r.2.1.length-i/\z=(u,(i:Int),())/\L'=J++seg++IA m ways sv oseg (p++r::s)/\C5 u 3 100 ((P0 (r.2.1.take i) h).flatMap Nk) seg) r.2.1.length
  ⟨0,⟨none,0,0⟩,[],[],by omega,by omega,rfl,rfl,⟨rfl,NF _,.inl ⟨rfl,rfl,rfl⟩⟩⟩ ?_
 rintro k z L' ⟨i,u,seg,J,hi,rfl,rfl,rfl,own⟩;refine D3 (fun(hO:(i:Int)<r.1.len)=>?_) (fun(aM: ¬(i:Int)<r.1.len)=>?_)
 ·have hJ:i<r.2.1.length:=by omega
  have lsl':Sl (J++seg++IA m ways sv oseg (p++r::s)) r.1 5 (r.2.1.flatMap S5):=lsl.right;obtain⟨b,fZ,cH⟩:=lsl'.el Bw (by decide) hJ;have bT:=EX (r.2.1.take i) r.2.1[i] h;rw[<-OB hJ]at bT;refine B7 fZ (H7 (show(0:Int)<=i by omega) hO (B5 (r.2.1[i].part,r.2.1[i].b,r.2.1[i].p,r.2.1[i].e,r.2.1[i].freq,()) (by rw[NK];exact cH) ?_));clear cH;generalize r.2.1[i]=x at bT⊢;have fI:=own.sl.els_len Sz (by decide);have fA:(P0 (r.2.1.take i) h).length<=i:=by
   unfold P0;rw[NL];have:=RS (fun s=>decide (s.part=P8 h)) (r.2.1.take i);rw[NW]at this;omega
  refine C9 fun n1 _=>F6 [] _ rfl rfl (by simp) (.inl (NF _)) #[.i x.part,.i x.b,.i x.p,.i x.e,.i x.freq] rfl ?_;rw[NT];generalize dU:(n1,Obj.cells #[.i x.part,.i x.b,.i x.p,.i x.e,.i x.freq] 197)=o1;have l1: ∀{Z:B1},C0 n1.z [.i x.part] (o1::Z):=by subst dU;exact C2 NG rfl
  have l2: ∀{Z:B1},C0 (Addr.add n1.z 1) [.i x.b,.i x.p,.i x.e] (o1::Z):=by subst dU;exact C2 NG rfl
  have hw:IntKind.i64.wrap ((i:Int)+1)=((i+1:Nat):Int):=by rw[D7 (by omega) (by omega)];omega
  refine B5 x.part l1 (C4 (Ai3 _ h hh) (P8 h,()) rfl (P2 l1 ?_));refine Ex (fun hx=>?_) (fun hx=>?_)
  ·have bC:x.part=P8 h:=hx;rw[NE bC]at bT;refine B5 x.pl l2 (C9 fun n2 _=>?_);have iY: ∀{Z:B1},Sl ((n2,Obj.cells #[.i x.b,.i x.p,.i x.e] 100)::Z) ⟨some n2.z,1,1⟩ 3 ([x.pl].flatMap Nk):=fun{Z}=>⟨rfl,NF _,.inr ⟨_,rfl,C2 NG rfl⟩⟩;refine Q1 Cl9 Bd7 ((n2,Obj.cells #[.i x.b,.i x.p,.i x.e] 100)::o1::J) (IA m ways sv oseg (p++r::s)) own (by simp[C8.pl]) (.sl iY) (Br1 _) (by simp only;omega) fun v2 seg2 kX own2=>?_;rw[<-OD,<-bT]at own2;refine⟨r.2.1.length-(i+1),by omega,i+1,v2,seg2,(n2,Obj.cells #[.i x.b,.i x.p,.i x.e] 100)::o1::J,by omega,rfl,?_,rfl,own2⟩;show(v2,IntKind.i64.wrap ((i:Int)+1),())=_;rw[hw]
  ·have bC: ¬x.part=P8 h:=hx;rw[ND bC,NP]at bT;rw[<-bT]at own;refine⟨r.2.1.length-(i+1),by omega,i+1,u,seg,o1::J,by omega,rfl,?_,rfl,own⟩;show(u,IntKind.i64.wrap ((i:Int)+1),())=_;rw[hw]
 ·obtain rfl:i=r.2.1.length:=by omega
  rw[OE]at own;rw[NZ];exact .app (.of ⟨u,seg,rfl,rfl,own⟩)
def Jo(s:C8):C8:={s with freq:=N8 (s.freq+1) 3}
def Bv(l:List C8)(nm:Dm):List C8:=match l.findIdx? (fun s=>decide (s.nm=nm))with
 |some j=>l.modify j Jo
 |none=>l
def Ch0(l:List C8)(j:Nat)(hj:j<l.length)(x:C8)(n:Int)(hx:l[j]=x):Bm (l.flatMap S5) (j*5+4) [.i n]=(l.take j++{x with freq:=n}::l.drop (j+1)).flatMap S5:=by
 have hl:l=l.take j++x::l.drop (j+1):=by rw[<-hx,<-OZ hj,PR]
 have hp:((l.take j).flatMap S5).length=j*5:=by rw[Ea Bw,NW,QF (by omega)]
 conv=>lhs;rw[hl]
 rw[OD,OD,OL,OL];unfold Bm;have h1:((l.take j).flatMap S5++(S5 x++(l.drop (j+1)).flatMap S5)).take (j*5+4)=(l.take j).flatMap S5++[.i x.part,.i x.b,.i x.p,.i x.e]:=by
  rw[List.take_append,PZ (by omega),hp,show j*5+4-j*5=4 by omega];rfl
 have h2:((l.take j).flatMap S5++(S5 x++(l.drop (j+1)).flatMap S5)).drop (j*5+4+[Value.i n].length)=(l.drop (j+1)).flatMap S5:=by
  rw[show j*5+4+[Value.i n].length=j*5+5 from rfl,<-QB,TG hp];rfl
 rw[h1,h2];simp[S5]
def Cf1(v:B6)(l:List C8)(seg:B1)(own:C5 v 5 Ip (l.flatMap S5) seg)(j:Nat)(hj:j<l.length)(a:Addr)(ha:v.a=some a)(cD:0<=l[j].freq/\l[j].freq<=3):
  CallF PP 106 #[.q (some (a.add (j*5)))] seg fun r L'=>r= .t #[]/\C5 v 5 Ip ((l.take j++Jo l[j]::l.drop (j+1)).flatMap S5) L':=by
 refine(e106 (some (a.add (j*5)))).c ?_;obtain⟨a',dA,cH⟩:=own.sl.el Bw (by decide) hj;rw[ha]at dA;obtain rfl:=NI dA;have dY:Addr.add (a.add (j*5)) 4=a.add (j*5+4):=by
  unfold Addr.add;by_cases h1:j*5=0<;>simp[h1,TR]
 refine B7 rfl (B5 l[j].freq (cH.one 4 rfl) (B7 rfl ?_));rw[D7 (by omega) (by omega)];refine own.st [] [] (p:=j*5+4) (by rw[Ea Bw];simp only[NU,OX];omega) (by simp) ha dY (by simp) fun seg' own'=>.of ⟨rfl,?_⟩;rw[Ch0 l j hj l[j] _ rfl]at own';rw[NT,NP];exact own'
def Ch1(A:B1)(ad:Addr)(fr:Int)(hl:C0 (ad.add 4) [.i fr] A)(n:Nat)(x:Int):
  CallF PP 247 #[.q (some ad),.p n] ((n,Obj.cells #[.i x] 3)::A) fun r L'=>r= .t #[]/\L'=(n,Obj.cells #[.i fr] 3)::A:=by
 refine(e247 (some ad) (some n.z)).c ?_;refine B7 rfl (B5 fr (hl.mono fun _ hx=>NN _ hx) (B7 rfl (F6 [] _ rfl rfl (by simp) (.inl (NF _)) #[.i fr] rfl (.of ⟨rfl,rfl⟩))))
def An2{l:List C8}{nm:Dm}(hi:i<l.length)(he:l[i].nm=nm)(hn: ∀s∈l.take i,s.nm≠nm):l.findIdx? (fun s=>decide (s.nm=nm))=some i:=by
 rw[SA];refine⟨hi,by simpa using he,fun j hj=>?_⟩;have:=hn l[j] (by rw[SY];exact⟨j,by omega,rfl⟩);simpa using this
def Bv9(l:List C8)(i:Nat)(hi:i<l.length):l.modify i Jo=l.take i++Jo l[i]::l.drop (i+1):=by
 rw[YV hi]
def Ca9(m:Nat)(ways:Int)(ss:List (List C8))(A:B1)(hA:IX m ways ss A)(h:Nat)(hh:h<2^64)(pl:Pl)(cD: ∀s∈C6 ss h,0<=s.freq/\s.freq<=3):
  CallF PP 105 #[.p m,.int .u64 h,.agg (ki3 pl),.func (.func 106) #[] #[]] A
   fun v L'=>v= .b (P3 ss h pl).isSome/\IX m ways (iset ss h (Bv (C6 ss h) (E1 h pl))) L':=by
 have eG:=hA.same h;obtain⟨sv,oseg,p,r,s,a,rfl,ok,ha,fF,iR,hp,aD,cM⟩:=hA.split h;refine(e105 (some m.z) h pl ⟨.func 106,#[],#[]⟩).c ?_;have hg:iO m ways sv∈IA m ways sv oseg (p++r::s):=NG;have mN: ∀{X:B1},(∀x∈oseg,x∈X++IA m ways sv oseg (p++r::s)):=fun x hx=>by unfold IA;simp[hx]
 have cK: ∀{X:B1},(∀x∈r.2.2,x∈X++IA m ways sv oseg (p++r::s)):=fun x hx=>by unfold IA W5;simp[hx]
 have hb:=ok.few r (by simp);refine C9 fun n1 _=>D8 rfl ?_;generalize dU:(n1,Obj.cells (ki3 pl) 100)=o1;have l1: ∀{Z:B1},C0 n1.z [.i pl.1,.i pl.2.1,.i pl.2.2.1] (o1::Z):=by subst dU;exact C2 NG rfl
 have lr:C0 (a.add p.length) [.slice r.1.a r.1.len r.1.cap] (o1::IA m ways sv oseg (p++r::s)):=Qo ok ha (mN (X:=[o1]));refine B5 pl l1 (C4 (Qj _ m ways sv (by simp[hg]) a ha fF (by omega) h hh) (some (a.add (h%sv.len)),()) rfl (P2 l1 ?_));rw[hp];refine B7 rfl (B5 r.1 lr (C4 (Ud _ h hh pl) ((P8 h,pl.1,pl.2.1,pl.2.2.1,()),()) rfl (P2 lr (C9 fun n2 _=>F6 [] _ rfl rfl (by simp) (.inl (NF _)) #[.i (P8 h),.i pl.1,.i pl.2.1,.i pl.2.2.1] rfl ?_))));rw[NT];generalize eO:(n2,Obj.cells #[.i (P8 h),.i pl.1,.i pl.2.1,.i pl.2.2.1] 195)=o2;have l2: ∀{Z:B1},C0 n2.z [.i (P8 h),.i pl.1,.i pl.2.1,.i pl.2.2.1] (o2::Z):=by subst eO;exact C2 NG rfl
 have lsl:Sl (o2::o1::IA m ways sv oseg (p++r::s)) r.1 5 (r.2.1.flatMap S5):=Qn ok (cK (X:=[o2,o1]));have hC:=lsl.els_len Bw (by decide);rw[aD]at cD;refine G1 (fun k z L'=>L'=o2::o1::IA m ways sv oseg (p++r::s)/\ ∃i:Nat,i<=r.2.1.length/\k=r.2.1.length-i/\z=((i:Int),())/\ ∀s∈r.2.1.take i,s.nm≠E1 h pl) r.2.1.length ⟨rfl,0,by omega,by omega,rfl,by simp⟩ ?_;rintro k z L' ⟨rfl,i,hi,rfl,rfl,hn⟩;refine D3 (fun(hO:(i:Int)<r.1.len)=>?_) (fun(aM: ¬(i:Int)<r.1.len)=>?_)
 ·have hJ:i<r.2.1.length:=by omega
  have lJ:(0:Int)<=(i:Int):=by omega
  obtain⟨b,fZ,cH⟩:=lsl.el Bw (by decide) hJ;refine B7 fZ (H7 lJ hO (B5 (r.2.1[i].part,r.2.1[i].b,r.2.1[i].p,r.2.1[i].e,()) ?_ (B5 (P8 h,pl) l2 (GD _ _ _ _ _ _ _ _ ?_))))
  ·rw[NK];exact cH.pre fun j u hu=>by rcases j with _|_|_|_|j<;>first|exact hu|exact absurd (show(none:Option Value)=some u from hu) (by simp)
  refine D3 (fun(he:r.2.1[i].nm=E1 h pl)=>?_) (fun(he: ¬r.2.1[i].nm=E1 h pl)=>?_)
  ·have oR:=An2 hJ he hn;refine B7 fZ (H7 lJ hO (Fe (by kernel_rfl) ?_));refine K3 (o2::o1::iO m ways sv::(oseg++W5 p)) (W5 s) (Cf1 r.1 r.2.1 r.2.2 (ok.row r (by simp)) i hJ b fZ (cD _ (NO hJ))) (by unfold IA;rw[Ll];simp) ?_;rintro _ seg2-⟨rfl,own2⟩;refine⟨(),rfl,?_⟩;refine .cons (.cons (.of ⟨?_,?_⟩))
   ·unfold P3;rcases Lx r.2.1 (E1 h pl)with⟨e1,_⟩|⟨j,hj,e1,e2,_⟩
    ·rw[oR]at e1;cases e1
    ·rw[aD,e2];rfl
   ·rw[aD];unfold Bv;rw[oR];simp only;rw[Bv9 _ _ hJ];refine⟨sv,oseg,p++(r.1,r.2.1.take i++Jo r.2.1[i]::r.2.1.drop (i+1),seg2)::s,by unfold IA;rw[Ll];simp,?_,by rw[cM,Qi]⟩;refine Xu ok (r.1,r.2.1.take i++Jo r.2.1[i]::r.2.1.drop (i+1),seg2) (seg':=oseg) ?_ own2 ?_
    ·rw[MC];have e:(p++(r.1,r.2.1.take i++Jo r.2.1[i]::r.2.1.drop (i+1),seg2)::s).flatMap Dw=(p++r::s).flatMap Dw:=by
      rw[OD,OD,OL,OL];rfl
     rw[e];exact ok.own
    ·simp only[NR,NU,NW,OJ];omega
  ·refine⟨r.2.1.length-(i+1),by omega,rfl,i+1,by omega,rfl,?_,fun e hx=>?_⟩
   ·rw[D7 (by first|omega|(simp only;omega)) (by first|omega|(simp only;omega))];rfl
   ·rw[OB hJ]at hx;rcases NJ.1 hx with hx|hx
    ·exact hn e hx
    ·rw[NM.1 hx];exact he
 ·obtain rfl:i=r.2.1.length:=by omega
  rw[OE]at hn;have e0:r.2.1.findIdx? (fun s=>decide (s.nm=E1 h pl))=none:=by
   rw[SD];intro s hs;simpa using hn s hs
  refine .cons (.cons (.of ⟨?_,?_⟩))
  ·unfold P3;rcases Lx r.2.1 (E1 h pl)with⟨_,e2,_⟩|⟨j,hj,e1,e2,_⟩
   ·rw[aD,e2];rfl
   ·rw[e0]at e1;cases e1
  ·unfold Bv;rw[aD,e0];simp only;rw[<-aD,eG];exact hA
def Ij(ss:List (List C8))(h:Nat)(p:Pl):Int:=match P3 ss h p with|some x=>x.freq|none=>0
def Cb0(m:Nat)(ways:Int)(ss:List (List C8))(A:B1)(hA:IX m ways ss A)(h:Nat)(hh:h<2^64)(pl:Pl)(nf:Nat):
  CallF PP 105 #[.p m,.int .u64 h,.agg (ki3 pl),.func (.func 247) #[] #[.p nf]] ((nf,Obj.cells #[.i 0] 3)::A)
   fun v L'=>v= .b (P3 ss h pl).isSome/\L'=(nf,Obj.cells #[.i (Ij ss h pl)] 3)::A:=by
 obtain⟨sv,oseg,p,r,s,a,rfl,ok,ha,fF,iR,hp,aD,cM⟩:=hA.split h;refine(e105 (some m.z) h pl ⟨.func 247,#[],#[.p nf]⟩).c ?_;have hg:iO m ways sv∈IA m ways sv oseg (p++r::s):=NG;have mN: ∀{X:B1},(∀x∈oseg,x∈X++IA m ways sv oseg (p++r::s)):=fun x hx=>by unfold IA;simp[hx]
 have cK: ∀{X:B1},(∀x∈r.2.2,x∈X++IA m ways sv oseg (p++r::s)):=fun x hx=>by unfold IA W5;simp[hx]
 have hb:=ok.few r (by simp);refine C9 fun n1 _=>D8 rfl ?_;generalize dU:(n1,Obj.cells (ki3 pl) 100)=o1;generalize cu:(nf,Obj.cells #[.i 0] 3)=o0;have l1: ∀{Z:B1},C0 n1.z [.i pl.1,.i pl.2.1,.i pl.2.2.1] (o1::Z):=by subst dU;exact C2 NG rfl
 have lr:C0 (a.add p.length) [.slice r.1.a r.1.len r.1.cap] (o1::o0::IA m ways sv oseg (p++r::s)):=Qo ok ha (mN (X:=[o1,o0]));refine B5 pl l1 (C4 (Qj _ m ways sv (by simp[hg]) a ha fF (by omega) h hh) (some (a.add (h%sv.len)),()) rfl (P2 l1 ?_));rw[hp];refine B7 rfl (B5 r.1 lr (C4 (Ud _ h hh pl) ((P8 h,pl.1,pl.2.1,pl.2.2.1,()),()) rfl (P2 lr (C9 fun n2 _=>F6 [] _ rfl rfl (by simp) (.inl (NF _)) #[.i (P8 h),.i pl.1,.i pl.2.1,.i pl.2.2.1] rfl ?_))));rw[NT];generalize eO:(n2,Obj.cells #[.i (P8 h),.i pl.1,.i pl.2.1,.i pl.2.2.1] 195)=o2;have l2: ∀{Z:B1},C0 n2.z [.i (P8 h),.i pl.1,.i pl.2.1,.i pl.2.2.1] (o2::Z):=by subst eO;exact C2 NG rfl
 have lsl0:Sl (IA m ways sv oseg (p++r::s)) r.1 5 (r.2.1.flatMap S5):=Qn ok (cK (X:=[]));have lsl:Sl (o2::o1::o0::IA m ways sv oseg (p++r::s)) r.1 5 (r.2.1.flatMap S5):=Qn ok (cK (X:=[o2,o1,o0]));have hC:=lsl.els_len Bw (by decide);refine G1 (fun k z L'=>L'=o2::o1::o0::IA m ways sv oseg (p++r::s)/\ ∃i:Nat,i<=r.2.1.length/\k=r.2.1.length-i/\z=((i:Int),())/\ ∀s∈r.2.1.take i,s.nm≠E1 h pl) r.2.1.length ⟨rfl,0,by omega,by omega,rfl,by simp⟩ ?_;rintro k z L' ⟨rfl,i,hi,rfl,rfl,hn⟩;refine D3 (fun(hO:(i:Int)<r.1.len)=>?_) (fun(aM: ¬(i:Int)<r.1.len)=>?_)
 ·have hJ:i<r.2.1.length:=by omega
  have lJ:(0:Int)<=(i:Int):=by omega
  obtain⟨b,fZ,cH⟩:=lsl.el Bw (by decide) hJ;refine B7 fZ (H7 lJ hO (B5 (r.2.1[i].part,r.2.1[i].b,r.2.1[i].p,r.2.1[i].e,()) ?_ (B5 (P8 h,pl) l2 (GD _ _ _ _ _ _ _ _ ?_))))
  ·rw[NK];exact cH.pre fun j u hu=>by rcases j with _|_|_|_|j<;>first|exact hu|exact absurd (show(none:Option Value)=some u from hu) (by simp)
  refine D3 (fun(he:r.2.1[i].nm=E1 h pl)=>?_) (fun(he: ¬r.2.1[i].nm=E1 h pl)=>?_)
  ·have oR:=An2 hJ he hn;obtain⟨b2,cZ,oL⟩:=lsl0.el Bw (by decide) hJ;rw[fZ]at cZ;obtain rfl:=NI cZ;have gI:P3 ss h pl=some r.2.1[i]:=by
    unfold P3;rcases Lx r.2.1 (E1 h pl)with⟨e1,_⟩|⟨j,hj,e1,e2,_⟩
    ·rw[oR]at e1;cases e1
    ·rw[oR]at e1;obtain rfl:=NI e1;rw[aD,e2]
   subst cu;refine B7 fZ (H7 lJ hO (Fe (by kernel_rfl) ?_));refine K3 [o2,o1] [] (Ch1 (IA m ways sv oseg (p++r::s)) (b.add ((i:Int).toNat*5)) r.2.1[i].freq (by rw[NK];exact oL.one 4 rfl) nf 0) (by simp) ?_;rintro _ _-⟨rfl,rfl⟩;rw[NP];refine⟨(),rfl,.cons (.cons (.of ⟨by rw[gI];rfl,?_⟩))⟩;unfold Ij;rw[gI];rfl
  ·refine⟨r.2.1.length-(i+1),by omega,rfl,i+1,by omega,rfl,?_,fun e hx=>?_⟩
   ·rw[D7 (by first|omega|(simp only;omega)) (by first|omega|(simp only;omega))];rfl
   ·rw[OB hJ]at hx;rcases NJ.1 hx with hx|hx
    ·exact hn e hx
    ·rw[NM.1 hx];exact he
 ·obtain rfl:i=r.2.1.length:=by omega
  rw[OE]at hn;have gI:P3 ss h pl=none:=by
   unfold P3;rw[aD,RR];intro s hs;simpa using hn s hs
  subst cu;refine .cons (.cons (.of ⟨by rw[gI];rfl,?_⟩));unfold Ij;rw[gI]
def Cd8(m:Nat)(ways:Int)(ss:List (List C8))(A:B1)(hA:IX m ways ss A)(h:Nat)(hh:h<2^64)(pl:Pl)(cD: ∀s∈C6 ss h,0<=s.freq/\s.freq<=3):
  CallF PP 55 #[.p m,.int .u64 h,.agg (ki3 pl)] A
   fun v L'=>v= .b (P3 ss h pl).isSome/\IX m ways (iset ss h (Bv (C6 ss h) (E1 h pl))) L':=by
 refine(e55 (some m.z) h pl).c ?_;refine C9 fun n1 _=>B5 pl (C2 NG rfl) (K3 [(n1,Obj.cells (ki3 pl) 100)] [] (Ca9 m ways ss A hA h hh pl cD) (by simp) ?_);rintro _ A1-⟨rfl,oA⟩;rw[NP];exact⟨((P3 ss h pl).isSome,()),rfl,.cons (.of ⟨rfl,oA⟩)⟩
def Ce0(m:Nat)(ways:Int)(ss:List (List C8))(A:B1)(hA:IX m ways ss A)(h:Nat)(hh:h<2^64)(pl:Pl):
  Reads PP 233 #[.p m,.int .u64 h,.agg (ki3 pl)] A (.i (Ij ss h pl)):=by
 refine(e233 (some m.z) h pl).r ?_;refine C9 fun n1 _=>C9 fun n2 _=>F6 [] _ rfl rfl (by simp) (.inl (NF _)) #[.i 0] rfl (B5 pl (C2 (n:=n1) (c:=(ki3 pl)) (T:=100) (fz:=(0,0)) (by simp) rfl) ?_);generalize (n1,Obj.cells (ki3 pl) 100)=o1;refine H0 (R:=[o1]) (Cb0 m ways ss A hA h hh pl n2) ?_ ?_
 ·exact(TS _ (OT (l₁:=[o1]) (l₂:=A)))
 rintro _ _ ⟨rfl,rfl⟩;refine⟨(n2,Obj.cells #[.i (Ij ss h pl)] 3)::o1::A,TS _ (OT (l₁:=A) (l₂:=[o1])),((P3 ss h pl).isSome,()),rfl,?_⟩;exact B5 (Ij ss h pl) (C2 NG rfl) (.cons (.cons (.of ⟨rfl,rfl⟩)))
structure BS where
 wear:Int
 bad:Bool
 dirty:Bool
variable{ss:List BS}
def Ae(s:BS):List Value:=[.i s.wear,.b s.bad,.b s.dirty]
def Bs(s:BS):(Ae s).length=3:=rfl
def Cp7(l:List BS):(l.flatMap Ae).all Bt=true:=by
 induction l with
 |nil=>rfl
 |cons e r ih=>rw[OL,VU,ih];rfl
def Oh:BS:=⟨0,false,false⟩
abbrev IP:TypeId:=128
abbrev Ga:TypeId:=3
abbrev IN:TypeId:=136
abbrev Br:TypeId:=236
def Yr:V4 PP IP Ga 1 8 [.i 0]:=De (by kernel_rfl) (by kernel_rfl) rfl (by decide) (by decide)
def AO:W6 PP IP:=.inl ⟨Ga,by kernel_rfl⟩
def Ap7:V4 PP IN Br 3 16 [.i 0,.b false,.b false]:=De (by kernel_rfl) (by kernel_rfl) rfl (by decide) (by decide)
def JY:W6 PP IN:=.inl ⟨Br,by kernel_rfl⟩
def Ab7{e:TypeId}:C5 ⟨none,0,0⟩ sz e [] []:=⟨by simp,NF _,.inl ⟨rfl,rfl,rfl⟩⟩
def Bs8{n:Nat}{e:TypeId}:C5 ⟨some n.z,0,0⟩ sz e [] [(n,Obj.cells #[] e)]:=⟨by simp,NF _,.inr ⟨n,0,#[],(0,0),rfl,rfl,by simp,.inl (NF _),fun i u hu=>by simp at hu⟩⟩
def Cc3(L:B1)(v:B6)(l:List Int)(h:R4 L v .i64 l)(hb:l.length<=1000000)(x:Int):
  Reads PP 221 #[.slice v.a v.len v.cap,.i x] L (.i (match l.findIdx? (fun y=>decide (y=x))with|some i=>(i:Int)|none=> -1)):=by
 refine(e221 v x).r ?_;have hC:=h.len;refine G1 (fun k z L'=>L'=L/\ ∃i:Nat,i<=l.length/\k=l.length-i/\z=((i:Int),())/\ ∀y∈l.take i,y≠x) l.length ⟨rfl,0,by omega,by omega,rfl,by simp⟩ ?_;rintro k z L' ⟨rfl,i,hi,rfl,rfl,hn⟩;refine D3 (fun(hO:(i:Int)<v.len)=>?_) (fun(aM: ¬(i:Int)<v.len)=>?_)
 ·have hJ:i<l.length:=by omega
  obtain⟨a,ha⟩:=h.some hJ;refine B7 ha (H7 (show(0:Int)<=i by omega) hO (B5 l[i] (h.rd hJ ha _ (by simp)) ?_));refine Ex (fun he=>.of ⟨?_,rfl⟩) (fun he=>⟨l.length-(i+1),by omega,rfl,i+1,by omega,rfl,?_,fun y hy=>?_⟩)
  ·have:l.findIdx? (fun y=>decide (y=x))=some i:=by
    rw[SA];refine⟨hJ,by simpa using he.symm,fun j hj=>?_⟩;have:=hn l[j] (by rw[SY];exact⟨j,by omega,rfl⟩);simpa using this
   rw[this]
  ·rw[D7 (by first|omega|(simp only;omega)) (by first|omega|(simp only;omega))];rfl
  ·rw[OB hJ]at hy;rcases NJ.1 hy with hy|hy
   ·exact hn y hy
   ·rw[NM.1 hy];exact fun e=>he e.symm
 ·obtain rfl:i=l.length:=by omega
  rw[OE]at hn;have:l.findIdx? (fun y=>decide (y=x))=none:=by
   rw[SD];intro y hy;simpa using hn y hy
  rw[this];exact .of ⟨rfl,rfl⟩
def Cc5(L:B1)(v:B6)(l:List Int)(h:R4 L v .i64 l)(hb:l.length<=1000000)(x:Int):
  Reads PP 169 #[.slice v.a v.len v.cap,.i x] L (.b (decide (x∈l))):=by
 refine(e169 v x).r ?_;refine C4 (Cc3 _ v l h hb x) (_,()) rfl (.of ⟨?_,rfl⟩);cases hf:l.findIdx? (fun y=>decide (y=x))with
 |none=>
  rw[SD]at hf;have:x∉l:=fun hx=>by have:=hf x hx;simp at this
  simp[this]
 |some i=>
  rw[SA]at hf;obtain⟨hi,h1,_⟩:=hf;have:x∈l:=by
   have e:l[i]=x:=by simpa using h1
   rw[<-e];exact NO hi
  simp[this]
def Bd0(A:B1)(v:B6)(l:List BS)(h:Sl A v 3 (l.flatMap Ae))(hb:l.length<=1000000):
  CallF PP 127 #[.slice v.a v.len v.cap] A fun r L'=> ∃(s:B6) (seg:B1),r= .slice s.a s.len s.cap/\L'=seg++A/\C5 s 3 Br (l.flatMap Ae) seg:=by
 refine(e127 v).c ?_;have hC:=h.els_len Bs (by decide);refine M0 (fun hn=>?_) (fun hn=>?_)
 ·have:l=[]:=by
   cases l with
   |nil=>rfl
   |cons x r=>
    obtain⟨a,ha,_⟩:=h.el Bs (by decide) (i:=0) (by simp);rw[ha]at hn;cases hn
  subst this;exact .of ⟨⟨none,0,0⟩,[],rfl,rfl,Ab7⟩
 ·refine C9 fun n1 _=>Q1 Ap7 JY [] A Bs8 rfl (.sl h.cons) (Cp7 _) (by first|omega|(simp only;omega)) fun s seg hs own=>?_;rw[NT]at own;exact .of ⟨s,seg,rfl,by simp,own⟩
def IS(L:B1)(y x:Int)(ad:Addr)(hl:C0 ad [.i x] L):Reads PP 249 #[.i y,.q (some ad)] L (.b (decide (y=x))):=by
 refine(e249 y (some ad)).r ?_;refine B7 rfl (B5 x hl (.of ⟨?_,rfl⟩));congr 1
def Cc4(L:B1)(v:B6)(l:List Int)(h:R4 L v .i64 l)(hb:l.length<=1000000)(x:Int)(ad:Addr)(hl:C0 ad [.i x] L):
  Reads PP 251 #[.slice v.a v.len v.cap,.func (.func 249) #[] #[.q (some ad)]] L (.i (match l.findIdx? (fun y=>decide (y=x))with|some i=>(i:Int)|none=> -1)):=by
 refine(e251 v ⟨.func 249,#[],#[.q (some ad)]⟩).r ?_;have hC:=h.len;refine G1 (fun k z L'=>L'=L/\ ∃i:Nat,i<=l.length/\k=l.length-i/\z=((i:Int),())/\ ∀y∈l.take i,y≠x) l.length ⟨rfl,0,by omega,by omega,rfl,by simp⟩ ?_;rintro k z L' ⟨rfl,i,hi,rfl,rfl,hn⟩;refine D3 (fun(hO:(i:Int)<v.len)=>?_) (fun(aM: ¬(i:Int)<v.len)=>?_)
 ·have hJ:i<l.length:=by omega
  obtain⟨a,ha⟩:=h.some hJ;refine B7 ha (H7 (show(0:Int)<=i by omega) hO (B5 l[i] (h.rd hJ ha _ (by simp)) (Fe (by kernel_rfl) (C4 (IS _ l[i] x ad hl) (decide (l[i]=x),()) rfl ?_))));refine D3 (fun(he:l[i]=x)=>.of ⟨?_,rfl⟩) (fun(he: ¬l[i]=x)=>⟨l.length-(i+1),by omega,rfl,i+1,by omega,rfl,?_,fun y hy=>?_⟩)
  ·have:l.findIdx? (fun y=>decide (y=x))=some i:=by
    rw[SA];refine⟨hJ,by simpa using he,fun j hj=>?_⟩;have:=hn l[j] (by rw[SY];exact⟨j,by omega,rfl⟩);simpa using this
   rw[this]
  ·rw[D7 (by first|omega|(simp only;omega)) (by first|omega|(simp only;omega))];rfl
  ·rw[OB hJ]at hy;rcases NJ.1 hy with hy|hy
   ·exact hn y hy
   ·rw[NM.1 hy];exact he
 ·obtain rfl:i=l.length:=by omega
  rw[OE]at hn;have:l.findIdx? (fun y=>decide (y=x))=none:=by
   rw[SD];intro y hy;simpa using hn y hy
  rw[this];exact .of ⟨rfl,rfl⟩
def T9(l:List Int)(x:Int):List Int:=l.filter fun y=>decide (y≠x)
def Ah4(l:List Int)(x y:Int):T9 (l++[y]) x=T9 l x++(if y=x then[]else[y]):=by
 unfold T9;rw[QZ];by_cases h:y=x<;>simp[h]
def Cc6(v:B6)(l:List Int)(seg:B1)(own:C5 v 1 Ga (O6 .i64 l) seg)(hb:l.length<=1000000)(x:Int)(n1:Nat):
  CallF PP 248 #[.slice v.a v.len v.cap,.func (.func 249) #[] #[.p n1]] ((n1,Obj.cells #[.i x] 3)::seg)
   fun r L'=> ∃(s:B6) (seg':B1),r= .slice s.a s.len s.cap/\L'=(n1,Obj.cells #[.i x] 3)::seg'/\C5 s 1 Ga (O6 .i64 (T9 l x)) seg':=by
 refine(e248 v ⟨.func 249,#[],#[.p n1]⟩).c ?_;generalize ho:(n1,Obj.cells #[.i x] 3)=o1;have l1: ∀{Z:B1},C0 n1.z [.i x] (o1::Z):=by subst ho;exact C2 NG rfl
 clear ho;have h0:R4 (o1::seg) v .i64 l:=own.sl.cons;have hC:=h0.len;have aY:=own.cap;refine C4 (Cc4 _ v l h0 hb x n1.z l1) (_,()) rfl ?_;cases hf:l.findIdx? (fun y=>decide (y=x))with
 |none=>
  rw[SD]at hf;have:T9 l x=l:=by
   unfold T9;rw[RA];intro y hy;have:=hf y hy;simpa using this
  rw[this];exact E9 rfl (.of ⟨v,seg,rfl,rfl,own⟩)
 |some i0=>
  rw[SA]at hf;obtain⟨lJ,h1,h2⟩:=hf;have qA:l[i0]=x:=by simpa using h1
  have mG:T9 (l.take i0) x=l.take i0:=by
   unfold T9;rw[RA];intro y hy;obtain⟨j,hj,rfl⟩:=SY.1 hy;have:=h2 j (by omega);simpa using this
  have bT:=Ah4 (l.take i0) x l[i0];rw[<-OB lJ,NE qA,mG,NP]at bT;refine D8 (by simp) ?_;have hw:IntKind.i64.wrap ((i0:Int)+1)=((i0+1:Nat):Int):=by rw[D7 (by omega) (by omega)];omega
  simp only[hw];refine G1 (fun k z L'=> ∃(i j:Nat) (cur:List Int) (seg:B1),i<=j/\j<=l.length/\k=l.length-j/\z=((i:Int),(j:Int),())/\L'=o1::seg/\C5 v 1 Ga (O6 .i64 cur) seg/\cur.length=l.length/\i=(T9 (l.take j) x).length/\cur.take i=T9 (l.take j) x/\cur.drop j=l.drop j) (l.length-(i0+1))
   ⟨i0,i0+1,l,seg,by omega,by omega,by omega,rfl,rfl,own,rfl,by rw[bT,NW];omega,by rw[bT],rfl⟩ ?_
  clear bT mG own h0;rintro k z L' ⟨i,j,cur,seg,nT,hj,rfl,rfl,rfl,own,cI,iF,cF,fY⟩;have h0:R4 (o1::seg) v .i64 cur:=own.sl.cons;refine D3 (fun(hO:(j:Int)<v.len)=>?_) (fun(aM: ¬(j:Int)<v.len)=>?_)
  ·have jI:j<cur.length:=by omega
   have pN:j<l.length:=by omega
   have zZ:cur[j]=l[j]:=by
    have a1:=OZ jI;have a2:=OZ pN;rw[fY,a2]at a1;injection a1 with b1 b2;exact b1.symm
   have nE:cur.drop (j+1)=l.drop (j+1):=by
    rw[<-QB,fY,QB]
   obtain⟨a,ha⟩:=h0.some jI;have bT:=Ah4 (l.take j) x l[j];rw[<-OB pN]at bT;have bf:IntKind.i64.wrap ((j:Int)+1)=((j+1:Nat):Int):=by rw[D7 (by omega) (by omega)];omega
   have gR:IntKind.i64.wrap ((i:Int)+1)=((i+1:Nat):Int):=by rw[D7 (by omega) (by omega)];omega
   refine B7 ha (H7 (show(0:Int)<=(j:Int) by omega) hO (B5 cur[j] (h0.rd jI ha _ (by simp)) (Fe (by kernel_rfl) (C4 (IS _ cur[j] x n1.z l1) (decide (cur[j]=x),()) rfl ?_))));rw[zZ];refine M0 (fun hZ=>?_) (fun he=>?_)
   ·have qW:l[j]≠x:=by simpa using hZ
    rw[ND qW]at bT;refine B7 ha (H7 (show(0:Int)<=(i:Int) by omega) (show(i:Int)<v.len by omega) ?_);refine own.st [o1] [] (p:=i) (by rw[Hi];simp only[NU,OX];omega) (by simp) ha (by simp) (by simp) fun seg' own'=>?_;rw[Su (by rw[Hi];omega),Cb1]at own';refine⟨l.length-(j+1),by omega,i+1,j+1,cur.set i l[j],seg',by omega,by omega,rfl,?_,by simp,own',by rw[RQ];exact cI,?_,?_,?_⟩
    ·show(IntKind.i64.wrap ((i:Int)+1),IntKind.i64.wrap ((j:Int)+1),())=_;rw[gR,bf]
    ·rw[bT,NR,<-iF];rfl
    ·rw[bT,<-cF,OB (by rw[RQ];omega),YW (by omega),YX]
    ·rw[YY (by omega)];exact nE
   ·have lM:l[j]=x:=by simpa using he
    rw[NE lM,NP]at bT;refine⟨l.length-(j+1),by omega,i,j+1,cur,seg,by omega,by omega,rfl,?_,rfl,own,cI,by rw[bT];exact iF,by rw[bT];exact cF,nE⟩;show((i:Int),IntKind.i64.wrap ((j:Int)+1),())=_;rw[bf]
  ·obtain rfl:j=l.length:=by omega
   rw[OE]at iF cF;have own':=own.slc (l:=0) (h:=i) (by omega) (by omega);rw[Ah5,RY,QK,cF]at own';refine Q2 (l':=i) (h':=v.len) (m':=v.cap) rfl rfl rfl (by omega) aY (NF _) ?_;have hs:G7 v ((i:Nat):Int) ((v.len:Nat):Int) ((v.cap:Nat):Int) 1=G7 (G7 v ((0:Nat):Int) ((i:Nat):Int) ((v.cap:Nat):Int) 1) ((G7 v ((0:Nat):Int) ((i:Nat):Int) ((v.cap:Nat):Int) 1).len) ((v.len:Nat):Int) ((G7 v ((0:Nat):Int) ((i:Nat):Int) ((v.cap:Nat):Int) 1).cap) 1:=by
    have ea: ∀o:Option Addr,o.map (·.add 0)=o:=fun o=>by cases o<;>simp[Addr.add]
    simp only[G7,NK,QK,RL,OS,ea,ite_self]
   refine Vb Yr rfl [o1] [] own' (by simp) (h:=v.len) (by simp only[G7,NK];omega) (by simp only[G7,NK];omega) hs fun seg2 own2=>?_;refine Q2 (l':=0) (h':=i) (m':=v.cap) rfl rfl rfl (by omega) (by omega) (NF _) (.of ⟨_,seg2,rfl,by simp,own2⟩)
def bO(m:Nat)(sv uv:B6):Nat×Obj:=(m,Obj.cells #[.slice sv.a sv.len sv.cap,.slice uv.a uv.len uv.cap] 238)
structure Ax3(sv:B6)(sseg:B1)(ss:List BS)(uv:B6)(useg:B1)(us:List Int):Prop where
 own:C5 sv 3 Br (ss.flatMap Ae) sseg
 uown:C5 uv 1 Ga (O6 .i64 us) useg
 cnt:1<=ss.length/\ss.length<=16
 few:us.length<=100000
 wr: ∀s∈ss,0<=s.wear/\s.wear<=1000000000
def BX(m:Nat)(ss:List BS)(us:List Int)(A:B1):Prop:= ∃sv sseg uv useg,A=bO m sv uv::(sseg++useg)/\Ax3 sv sseg ss uv useg us
section
variable {L:B1} {m:Nat} {sv uv:B6}
def Oj(h:bO m sv uv∈L):C0 m.z [.slice sv.a sv.len sv.cap] L:=C2 (by unfold bO at h;exact h) rfl
def Rf(h:bO m sv uv∈L):C0 ⟨m,1,none⟩ [.slice uv.a uv.len uv.cap] L:=C2 (by unfold bO at h;exact h) rfl
end
def I6(ss:List BS)(n:Int):Bool:=decide (0<=n)&&(match ss[n.toNat]? with|some s=> !s.bad|none=>false)
def O2(ss:List BS)(us:List Int)(n:Int):Bool:=I6 ss n&& !decide (n∈us)
def Au3(L:B1)(m:Nat)(ss:List BS)(us:List Int)(A:B1)(hA:BX m ss us A)(hs: ∀x∈A,x∈L)(n:Int):Reads PP 168 #[.p m,.i n] L (.b (I6 ss n)):=by
 obtain⟨sv,sseg,uv,useg,rfl,ok⟩:=hA;refine(e168 (some m.z) n).r ?_;have hm:bO m sv uv∈L:=hs _ NG;have aU:Sl L sv 3 (ss.flatMap Ae):=ok.own.sl.mono fun x hx=>hs x (by simp[hx]);have hC:=aU.els_len Bs (by decide);refine E9 rfl (D3 (fun(h0:n≥0)=>B7 rfl (B5 sv (Oj hm) (D3 (fun(h1:n<sv.len)=>?_) (fun(h1: ¬n<sv.len)=>.of ⟨?_,rfl⟩)))) (fun(h0: ¬n≥0)=>.of ⟨?_,rfl⟩))
 ·have hi:n.toNat<ss.length:=by omega
  obtain⟨a,ha,hl⟩:=aU.el Bs (by decide) hi;refine B7 rfl (B5 sv (Oj hm) (B7 ha (H7 h0 h1 (B5 ss[n.toNat].bad (hl.one 1 rfl) (.of ⟨?_,rfl⟩)))));unfold I6;rw[NV hi,OH (show 0<=n by omega)];rfl
 ·unfold I6;rw[SI (by omega)];simp
 ·unfold I6;rw[OF (by omega)];rfl
def Ze(L:B1)(m:Nat)(ss:List BS)(us:List Int)(A:B1)(hA:BX m ss us A)(hs: ∀x∈A,x∈L)(n:Int):Reads PP 128 #[.p m,.i n] L (.b (O2 ss us n)):=by
 refine(e128 (some m.z) n).r ?_;refine C4 (Au3 _ m ss us A hA hs n) (I6 ss n,()) rfl ?_;obtain⟨sv,sseg,uv,useg,rfl,ok⟩:=hA;have hm:bO m sv uv∈L:=hs _ NG;have iW:R4 L uv .i64 us:=ok.uown.sl.mono fun x hx=>hs x (by simp[hx]);refine M0 (fun hg=>?_) (fun hg=>.of ⟨?_,rfl⟩)
 ·have dW:I6 ss n=true:=hg;have bN:=ok.few;refine B7 rfl (B5 uv (Rf hm) (C4 (Cc5 _ uv us iW (by omega) n) (decide (n∈us),()) rfl (.of ⟨?_,rfl⟩)));unfold O2;rw[dW];rfl
 ·have dW:I6 ss n=false:=hg;unfold O2;rw[dW];rfl
def Ej{σ:Type}(q:Int->Bool)(step:σ->Int->BS->σ)(s0:σ)(ss:List BS):σ:=ss.zipIdx.foldl (fun s p=>if q p.2 then step s p.2 p.1 else s) s0
def Aq0(q:Int->Bool)(step:σ->Int->BS->σ)(s0:σ)(ss:List BS)(x:BS):Ej q step s0 (ss++[x])=if q ss.length then step (Ej q step s0 ss) ss.length x else Ej q step s0 ss:=by
 unfold Ej;rw[List.zipIdx_append,XR];simp
def Av0(m:Nat)(ss:List BS)(us:List Int)(A:B1)(hA:BX m ss us A)(q:Int->Bool)(step:σ->Int->BS->σ)(ok:Nat->σ->Prop)(tN: ∀n s,ok n s->ok (n+1) s)(obs:σ->B1)(i1 i2:FuncId)(dU:Oe PP i1=true)(eO:Oe PP i2=true)(caps:Array Value)
  (h1: ∀(L:B1) (n:Int),(∀x∈A,x∈L)->Reads PP i1 #[.p m,.i n] L (.b (q n)))
  (h2: ∀(s:σ) (n:Nat) (x:BS),n<16->ok n s->0<=x.wear->x.wear<=1000000000->CallF PP i2 (#[.i n,.agg #[.i x.wear,.b x.bad,.b x.dirty]]++caps) (obs s) fun r L'=>r= .t #[]/\L'=obs (step s n x)/\ok (n+1) (step s n x)) (s0:σ) (cG:ok 0 s0):
  CallF PP 200 #[.p m,.func (.func i1) #[.p m] #[],.func (.func i2) #[] caps] (obs s0++A) fun r L'=>r= .t #[]/\L'=obs (Ej q step s0 ss)++A/\ok ss.length (Ej q step s0 ss):=by
 have cU:=hA;obtain⟨sv,sseg,uv,useg,ej,bok⟩:=hA;refine(e200 (some m.z) ⟨.func i1,#[.p m],#[]⟩ ⟨.func i2,#[],caps⟩).c ?_;have hm: ∀{X:B1},bO m sv uv∈X++A:=fun{X}=>by subst ej;simp
 have aU: ∀{X:B1},Sl (X++A) sv 3 (ss.flatMap Ae):=fun{X}=>bok.own.sl.mono fun x hx=>by subst ej;simp[hx]
 have hC:=(aU (X:=[])).els_len Bs (by decide);have oS:=bok.cnt;refine D8 rfl (B7 rfl (B5 sv (Oj hm) ?_));refine G1 (fun k z L'=> ∃i:Nat,i<=ss.length/\k=ss.length-i/\z=((i:Int),())/\L'=obs (Ej q step s0 (ss.take i))++A/\ok i (Ej q step s0 (ss.take i))) ss.length ⟨0,by omega,by omega,rfl,by simp[Ej],by simpa[Ej]using cG⟩ ?_;rintro k z L ⟨i,hi,rfl,rfl,rfl,aC⟩;refine D3 (fun(hO:(i:Int)<sv.len)=>?_) (fun(aM: ¬(i:Int)<sv.len)=>?_)
 ·have hJ:i<ss.length:=by omega
  have bT:=Aq0 q step s0 (ss.take i) ss[i];rw[<-OB hJ,NW,QF hi]at bT;have ba:=bok.wr ss[i] (NO hJ);obtain⟨a,ha,hl⟩:=(aU (X:=obs (Ej q step s0 (ss.take i)))).el Bs (by decide) hJ;have hw:IntKind.i64.wrap ((i:Int)+1)=((i+1:Nat):Int):=by rw[D7 (by omega) (by omega)];omega
  refine Fe dU (C4 (h1 _ (i:Int) (fun x hx=>OG _ hx)) (q i,()) rfl ?_);refine M0 (fun hq=>?_) (fun hq=>?_)
  ·have oE:q (i:Int)=true:=hq;rw[NE oE]at bT;refine B7 rfl (B5 sv (Oj hm) (B7 ha (H7 (show(0:Int)<=(i:Int) by omega) hO (B5 (ss[i].wear,ss[i].bad,ss[i].dirty,()) (by rw[NK];exact hl) (Fe eO ?_)))));refine K3 [] A (h2 _ i ss[i] (by omega) aC ba.1 ba.2) rfl ?_;rintro _ _-⟨rfl,rfl,fM⟩;refine⟨(),rfl,ss.length-(i+1),by omega,i+1,by omega,rfl,?_,by rw[bT];rfl,by rw[bT];exact fM⟩;rw[hw]
  ·have oE: ¬q (i:Int)=true:=by rw[show q (i:Int)=false from hq];decide
   rw[ND oE]at bT;refine⟨ss.length-(i+1),by omega,i+1,by omega,rfl,?_,by rw[bT],by rw[bT];exact tN _ _ aC⟩;rw[hw]
 ·obtain rfl:i=ss.length:=by omega
  rw[OE]at aC⊢;exact .of ⟨rfl,rfl,aC⟩
def Rd(ss:List BS)(us:List Int):Int:=Ej (O2 ss us) (fun(k:Int) _ _=>k+1) 0 ss
def Ch3(n1:Nat)(k:Int)(hk:0<=k/\k<=1000000)(n:Int)(x:BS):CallF PP 201 #[.i n,.agg #[.i x.wear,.b x.bad,.b x.dirty],.p n1] [(n1,Obj.cells #[.i k] 3)]
  fun r L'=>r= .t #[]/\L'=[(n1,Obj.cells #[.i (k+1)] 3)]:=by
 refine(e201 n (x.wear,x.bad,x.dirty,()) (some n1.z)).c ?_;refine C9 fun n2 _=>B7 rfl (B5 k (C2 (n:=n1) (c:=#[.i k]) (T:=3) (fz:=(0,0)) (by simp) rfl) (B7 rfl ?_));rw[D7 (by omega) (by omega)];exact F6 (n:=n1) (off:=0) (c:=#[.i k]) (T:=3) (fz:=(0,0)) [_] [] rfl rfl (by simp) (.inl (NF _)) #[.i (k+1)] rfl (.cons (.of ⟨rfl,rfl⟩))
def Aq1(q:Int->Bool)(step:σ->Int->BS->σ)(s0:σ)(ss:List BS)(P:Nat->σ->Prop)(h0:P 0 s0)(h: ∀(i:Nat) (hi:i<ss.length) (s:σ),P i s->P (i+1) (if q i then step s i ss[i]else s)):P ss.length (Ej q step s0 ss):=by
 have key: ∀k,k<=ss.length->P k (Ej q step s0 (ss.take k)):=by
  intro k;induction k with
  |zero=>intro _;simpa[Ej]using h0
  |succ k ih=>
   intro hk;have bT:=Aq0 q step s0 (ss.take k) (ss[k]'(by omega));rw[<-OB (by omega),NW,QF (by omega)]at bT;rw[bT];exact h k (by omega) _ (ih (by omega))
 have:=key ss.length (NF _)
 rwa [OE]at this
def Au7(m:Nat)(ss:List BS)(us:List Int)(A:B1)(hA:BX m ss us A):Reads PP 153 #[.p m] A (.i (Rd ss us)):=by
 refine(e153 (some m.z)).r ?_;refine C9 fun n1 _=>F6 [] _ rfl rfl (by simp) (.inl (NF _)) #[.i 0] rfl ?_;refine K3 [] [] (Av0 m ss us A hA (O2 ss us) (fun(k:Int) _ _=>k+1) (fun n k=>0<=k/\k<=n) (fun n s h=>by omega) (fun k=>[(n1,Obj.cells #[.i k] 3)]) 128 201 (by kernel_rfl) (by kernel_rfl) #[.p n1]
  (fun L n hs=>Ze L m ss us A hA hs n) (fun s n x hn hs _ _=>CallF.mono (Ch3 n1 s (by omega) n x) (by rintro r L' _ ⟨rfl,rfl⟩;exact⟨rfl,rfl,by omega⟩)) 0 (by omega)) (by simp) ?_
 rintro _ _-⟨rfl,rfl,aC⟩;rw[NP,NT];exact⟨(),rfl,B5 (Rd ss us) (C2 NG rfl) (.cons (.of ⟨rfl,rfl⟩))⟩
def Bz(s:BS):Int:=if s.dirty then s.wear+1 else s.wear
def Av4(L:B1)(s:BS)(h:0<=s.wear/\s.wear<=1000000000):Reads PP 208 #[.agg #[.i s.wear,.b s.bad,.b s.dirty]] L (.i (Bz s)):=by
 refine(e208 (s.wear,s.bad,s.dirty,())).r ?_;refine C9 fun n1 _=>B5 s.dirty (C2 NG rfl) (M0 (fun hd=>B5 s.wear (C2 NG rfl) (.cons (.of ⟨?_,rfl⟩))) (fun hd=>B5 s.wear (C2 NG rfl) (.cons (.of ⟨?_,rfl⟩))))
 ·unfold Bz;rw[NE hd,D7 (by omega) (by omega)]
 ·unfold Bz;rw[ND (by rw[hd];decide)]
abbrev Rr:=Bool×BS×Int
def Ee(s:Rr)(n:Int)(x:BS):Rr:=if s.1=false\/Bz x<Bz s.2.1 then(true,x,n)else s
def G5(ss:List BS)(us:List Int):Rr:=Ej (O2 ss us) Ee (false,Oh,0) ss
def Nl(n3 n1 n2:Nat)(s:Rr):B1:=[(n3,Obj.cells #[.b s.1] 4),(n1,Obj.cells #[.i s.2.1.wear,.b s.2.1.bad,.b s.2.1.dirty] Br),(n2,Obj.cells #[.i s.2.2] 3)]
def Br7(n3 n1 n2:Nat)(s:Rr)(hs:0<=s.2.1.wear/\s.2.1.wear<=1000000000)(n:Int)(x:BS)(hx:0<=x.wear/\x.wear<=1000000000):
  CallF PP 207 #[.i n,.agg #[.i x.wear,.b x.bad,.b x.dirty],.p n3,.p n1,.p n2] (Nl n3 n1 n2 s)
  fun r L'=>r= .t #[]/\L'=Nl n3 n1 n2 (Ee s n x):=by
 obtain⟨fd,best,at'⟩:=s;refine(e207 n (x.wear,x.bad,x.dirty,()) (some n3.z) (some n1.z) (some n2.z)).c ?_;unfold Nl;simp only at hs⊢;refine C9 fun n4 _=>?_;generalize ho:(n4,Obj.cells #[.i x.wear,.b x.bad,.b x.dirty] Br)=o4;have l4: ∀{Z:B1},C0 n4.z (Ae x) (o4::Z):=by subst ho;exact C2 NG rfl
 clear ho;have take:Ee (fd,best,at') n x=(true,x,n)->
   (st n2.z [.i n]<|keep (C0 n4.z [.i x.wear,.b x.bad,.b x.dirty])<|B4 (some n1.z) fun a3=>st a3 [.i x.wear,.b x.bad,.b x.dirty]<|B4 (some n3.z) fun a4=>st a4 [.b true]<|
    HL.Ends (fun r L'=>r=Value.t #[]/\L'=[(n3,Obj.cells #[.b (Ee (fd,best,at') n x).1] 4),(n1,Obj.cells #[.i (Ee (fd,best,at') n x).2.1.wear,.b (Ee (fd,best,at') n x).2.1.bad,.b (Ee (fd,best,at') n x).2.1.dirty] Br),(n2,Obj.cells #[.i (Ee (fd,best,at') n x).2.2] 3)]) (.t #[]))
    (o4::[(n3,Obj.cells #[.b fd] 4),(n1,Obj.cells #[.i best.wear,.b best.bad,.b best.dirty] Br),(n2,Obj.cells #[.i at'] 3)]):=by
  intro e;rw[e];refine F6 (n:=n2) (off:=0) (c:=#[.i at']) (T:=3) (fz:=(0,0)) [o4,(n3,Obj.cells #[.b fd] 4),(n1,Obj.cells #[.i best.wear,.b best.bad,.b best.dirty] Br)] [] rfl rfl (by simp) (.inl (NF _)) #[.i n] rfl (P2 l4 (B7 rfl ?_));refine F6 (n:=n1) (off:=0) (c:=#[.i best.wear,.b best.bad,.b best.dirty]) (T:=Br) (fz:=(0,0)) [o4,(n3,Obj.cells #[.b fd] 4)] [(n2,Obj.cells #[.i n] 3)] rfl rfl (by simp) (.inl (NF _)) #[.i x.wear,.b x.bad,.b x.dirty] rfl (B7 rfl ?_);exact F6 (n:=n3) (off:=0) (c:=#[.b fd]) (T:=4) (fz:=(0,0)) [o4] [(n1,Obj.cells #[.i x.wear,.b x.bad,.b x.dirty] Br),(n2,Obj.cells #[.i n] 3)] rfl rfl (by simp) (.inl (NF _)) #[.b true] rfl (.cons (.of ⟨rfl,rfl⟩))
 refine B7 rfl (B5 fd (C2 (n:=n3) (off:=0) (c:=#[.b fd]) (T:=4) (fz:=(0,0)) (by simp) rfl) (M0 (fun hf=>?_) (fun hf=>?_)))
 ·have sR:fd=false:=by simpa using hf
  refine B5 (x.wear,x.bad,x.dirty,()) l4 (B7 rfl (take ?_));unfold Ee;rw[NE (.inl sR)]
 ·have sR:fd=true:=by simpa using hf
  have lb:C0 n1.z [.i best.wear,.b best.bad,.b best.dirty] (o4::[(n3,Obj.cells #[.b fd] 4),(n1,Obj.cells #[.i best.wear,.b best.bad,.b best.dirty] Br),(n2,Obj.cells #[.i at'] 3)]):=C2 (n:=n1) (off:=0) (c:=#[.i best.wear,.b best.bad,.b best.dirty]) (T:=Br) (fz:=(0,0)) (by simp) rfl;refine B5 (x.wear,x.bad,x.dirty,()) l4 (B7 rfl (B5 (best.wear,best.bad,best.dirty,()) lb (C4 (Av4 _ x hx) (Bz x,()) rfl (P2 lb (C4 (Av4 _ best hs) (Bz best,()) rfl ?_)))));refine D3 (fun(hc:Bz x<Bz best)=>?_) (fun(hc: ¬Bz x<Bz best)=>.cons (.of ⟨rfl,?_⟩))
  ·refine B5 (x.wear,x.bad,x.dirty,()) l4 (B7 rfl (take ?_));unfold Ee;rw[NE (.inr hc)]
  ·have:Ee (fd,best,at') n x=(fd,best,at'):=by
    unfold Ee;rw[ND];rintro(c|c)
    ·rw[sR]at c;cases c
    ·exact hc c
   rw[this]
def Cp9(m:Nat)(ss:List BS)(us:List Int)(A:B1)(hA:BX m ss us A):Reads PP 157 #[.p m] A (.t #[.i (G5 ss us).2.2,.b (G5 ss us).2.1.dirty,.b (G5 ss us).1]):=by
 refine(e157 (some m.z)).r ?_;refine C9 fun n1 _=>C9 fun n2 _=>C9 fun n3 _=>?_;refine F6 (n:=n2) (off:=0) (c:=#[.i 0]) (T:=3) (fz:=(0,0)) [(n3,Obj.cells #[.b false] 4)] ((n1,Obj.cells #[.i 0,.b false,.b false] Br)::A) rfl rfl (by simp) (.inl (NF _)) #[.i 0] rfl ?_;refine F6 (n:=n3) (off:=0) (c:=#[.b false]) (T:=4) (fz:=(0,0)) [] ((n2,Obj.cells #[.i 0] 3)::(n1,Obj.cells #[.i 0,.b false,.b false] Br)::A) rfl rfl (by simp) (.inl (NF _)) #[.b false] rfl ?_;refine H0 (R:=[]) (Av0 m ss us A hA (O2 ss us) Ee (fun _ s=>0<=s.2.1.wear/\s.2.1.wear<=1000000000) (fun n s h=>h) (Nl n3 n1 n2) 128 207 (by kernel_rfl) (by kernel_rfl) #[.p n3,.p n1,.p n2]
  (fun L n hs=>Ze L m ss us A hA hs n) (fun s n x hn hs a b=>CallF.mono (Br7 n3 n1 n2 s hs n x ⟨a,b⟩) ?_) (false,Oh,0) (by decide)) ?_ ?_
 ·rintro r L' _ ⟨rfl,rfl⟩;refine⟨rfl,rfl,?_⟩;unfold Ee;split
  ·exact⟨a,b⟩
  ·exact hs
 ·rw[NP];unfold Nl Oh;exact TS _ (TO _ _ _)
 rintro _ _ ⟨rfl,rfl,aC⟩;refine⟨_,.refl _,(),rfl,?_⟩;show HL.ld _ _ _ (Nl n3 n1 n2 (G5 ss us)++A++[]);rw[NP];generalize G5 ss us=s;unfold Nl;refine B5 s.2.2 (C2 (n:=n2) (off:=0) (c:=#[.i s.2.2]) (T:=3) (fz:=(0,0)) (by simp) rfl) (B5 s.2.1.dirty (C2 (n:=n1) (off:=2) (c:=#[.i s.2.1.wear,.b s.2.1.bad,.b s.2.1.dirty]) (T:=Br) (fz:=(0,0)) (by simp) rfl) (B5 s.1 (C2 (n:=n3) (off:=0) (c:=#[.b s.1]) (T:=4) (fz:=(0,0)) (by simp) rfl) ?_));exact .cons (.cons (.cons (.of ⟨rfl,rfl⟩)))
def Cq1(m:Nat)(ss:List BS)(us:List Int)(A:B1)(hA:BX m ss us A):Reads PP 202 #[.p m] A (.t #[.i (us.headD 0),.b (decide (us≠[]))]):=by
 obtain⟨sv,sseg,uv,useg,rfl,ok⟩:=hA;refine(e202 (some m.z)).r ?_;have hm:bO m sv uv∈bO m sv uv::(sseg++useg):=NG;have iW:R4 (bO m sv uv::(sseg++useg)) uv .i64 us:=ok.uown.sl.right.cons;have hC:=iW.len;refine D8 rfl (B7 rfl (B5 uv (Rf hm) (Ex (fun h0=>.of ⟨?_,rfl⟩) (fun h0=>?_))))
 ·cases us with
  |nil=>rfl
  |cons x r=>rw[NU]at hC;have h0':(uv.len:Int)=0:=h0;omega
 ·cases us with
  |nil=>exact absurd (show(uv.len:Int)=0 by simp at hC;omega) h0
  |cons x r=>
   obtain⟨a,ha⟩:=iW.some (i:=0) (by simp);rw[NU]at hC;exact B7 rfl (B5 uv (Rf hm) (B7 ha (H7 (by decide) (by omega) (B5 x (iW.rd (i:=0) (by simp) ha _ rfl) (.of ⟨by simp,rfl⟩)))))
def Hs(ss:List BS)(us:List Int)(n:Int):Bool:=O2 ss us n&&(match ss[n.toNat]? with|some s=> !s.dirty|none=>false)
def El(h:I6 ss n=true):0<=n/\ ∃hi:n.toNat<ss.length,ss[n.toNat].bad=false:=by
 unfold I6 at h;rw[PO]at h;obtain⟨h1,h2⟩:=h;refine⟨PF h1,?_⟩;split at h2
 ·rename_i s hs;obtain⟨hi,he⟩:=PL.1 hs;exact⟨hi,by rw[he];simpa using h2⟩
 ·cases h2
def Di{us:List Int}(h:O2 ss us n=true):I6 ss n=true/\n∉us:=by
 unfold O2 at h;rw[PO]at h;exact⟨h.1,by simpa using h.2⟩
def Cq0(m:Nat)(ss:List BS)(us:List Int)(A:B1)(hA:BX m ss us A)(hf:us.length<100000)(n:Int):CallF PP 212 #[.p m,.i n] A
  fun r L'=>r= .b (Hs ss us n)/\BX m ss (if Hs ss us n=true then us++[n]else us) L':=by
 have cU:=hA;obtain⟨sv,sseg,uv,useg,rfl,ok⟩:=hA;refine(e212 (some m.z) n).c ?_;have hm:bO m sv uv∈bO m sv uv::(sseg++useg):=NG;refine C4 (Ze _ m ss us _ cU (fun x hx=>hx) n) (O2 ss us n,()) rfl ?_;cases cD:O2 ss us n with
 |false=>
  have:Hs ss us n=false:=by unfold Hs;rw[cD];rfl
  rw[this];exact E9 rfl (.of ⟨rfl,cU⟩)
 |true=>
  obtain⟨h0,hi,hb⟩:=El (Di cD).1;have aU:Sl (bO m sv uv::(sseg++useg)) sv 3 (ss.flatMap Ae):=ok.own.sl.left.cons;have hC:=aU.els_len Bs (by decide);obtain⟨a,ha,hl⟩:=aU.el Bs (by decide) hi;have bG:Hs ss us n= !ss[n.toNat].dirty:=by unfold Hs;rw[cD,NV hi];rfl
  refine D8 rfl (B7 rfl (B5 sv (Oj hm) (B7 ha (H7 h0 (show n<sv.len by omega) (B5 ss[n.toNat].dirty (hl.one 2 rfl) ?_)))));rw[bG];refine M0 (fun hd=>?_) (fun hd=>?_)
  ·have nV:ss[n.toNat].dirty=true:=hd;rw[nV];exact .of ⟨rfl,cU⟩
  ·have nV:ss[n.toNat].dirty=false:=hd;rw[nV];refine B7 rfl (B5 uv (Rf hm) (C9 fun n1 _=>?_));have fI:=ok.uown.sl.len;rw[Hi]at fI;have iY: ∀{Z:B1},Sl ((n1,Obj.cells #[.i n] Ga)::Z) ⟨some n1.z,1,1⟩ 1 (O6 .i64 [n]):=fun{Z}=>⟨rfl,NF _,.inr ⟨_,rfl,C2 NG rfl⟩⟩;refine Q1 Yr AO ((n1,Obj.cells #[.i n] Ga)::bO m sv uv::sseg) [] ok.uown (by simp) (.sl iY) (Tw _ _) (by first|omega|(simp only;omega)) fun v2 seg2 kX own2=>B7 rfl ?_;rw[<-Tx]at own2;refine F6 (n:=m) (off:=1) (c:=#[.slice sv.a sv.len sv.cap,.slice uv.a uv.len uv.cap]) (T:=238) (fz:=(0,0)) [(n1,Obj.cells #[.i n] Ga)] (sseg++seg2) rfl (by simp[bO]) (by simp) (.inl (NF _)) #[.slice sv.a sv.len sv.cap,.slice v2.a v2.len v2.cap] rfl ?_;exact .cons (.of ⟨rfl,sv,sseg,v2,seg2,rfl,ok.own,own2,ok.cnt,(by show(us++[n]).length<=100000;rw[NR];simp only[NU,OX];omega),ok.wr⟩)
def O7(ss:List BS)(n:Int)(g:BS->BS):List BS:=ss.modify n.toNat g
def Zc(hi:n.toNat<ss.length)(g:BS->BS):O7 ss n g=ss.take n.toNat++g ss[n.toNat]::ss.drop (n.toNat+1):=by
 unfold O7;rw[YV hi]
def Ca8(us:List Int)(n:Int):(T9 us n).length<=us.length:=RS ..
def Cp6(m:Nat)(ss:List BS)(us:List Int)(A:B1)(hA:BX m ss us A)(n:Int)(i:FuncId)(hio:Oe PP i=true)(caps:Array Value)(obs:B1)(g:BS->BS)(hg: ∀s∈ss,0<=(g s).wear/\(g s).wear<=1000000000)
  (h: ∀(v:B6) (seg:B1) (j:Nat) (a:Addr) (hj:j<ss.length),C5 v 3 Br (ss.flatMap Ae) seg->v.a=some a->CallF PP i (#[.q (some (a.add (j*3)))]++caps) (obs++seg) fun r L'=>r= .t #[]/\ ∃seg',L'=obs++seg'/\C5 v 3 Br ((ss.take j++g ss[j]::ss.drop (j+1)).flatMap Ae) seg'):
  CallF PP 239 #[.p m,.i n,.func (.func i) #[] caps] (obs++A)
   fun r L'=>r= .b (I6 ss n)/\ ∃A',L'=obs++A'/\BX m (if I6 ss n=true then O7 ss n g else ss) (if I6 ss n=true then T9 us n else us) A':=by
 have cU:=hA;obtain⟨sv,sseg,uv,useg,rfl,ok⟩:=hA;refine(e239 (some m.z) n ⟨.func i,#[],caps⟩).c ?_;refine C9 fun n1 _=>B5 n (C2 NG rfl) ?_;refine C4 (Au3 _ m ss us _ cU (fun x hx=>by simp at hx⊢;simp[hx]) n) (I6 ss n,()) rfl ?_;cases lL:I6 ss n with
 |false=>
  refine E9 rfl (.cons (.of ⟨rfl,_,rfl,?_⟩));simpa using cU
 |true=>
  obtain⟨h0,hi,hb⟩:=El lL;have hC:=ok.own.sl.els_len Bs (by decide);have bN:=ok.few;refine D8 rfl (B7 rfl (B5 uv (Rf (sv:=sv) (by simp)) ?_));refine H0 (R:=obs++(bO m sv uv::sseg)) (Cc6 uv us useg ok.uown (by omega) n n1) ?_ ?_
  ·classical
   rw[ON];intro x;simp only[PM,OM,OP,OV,PJ];omega
  rintro _ _ ⟨u2,useg2,rfl,rfl,uown2⟩;generalize dU:(n1,Obj.cells #[.i n] 3)=o1;have l1: ∀{Z:B1},C0 n1.z [.i n] (o1::Z):=by subst dU;exact C2 NG rfl
  refine⟨(o1::obs)++bO m sv uv::(sseg++useg2),?_,(u2,()),rfl,B7 rfl ?_⟩
  ·classical
   rw[ON];intro x;simp only[PM,OM,OP,OV,PJ];omega
  refine F6 (n:=m) (off:=1) (c:=#[.slice sv.a sv.len sv.cap,.slice uv.a uv.len uv.cap]) (T:=238) (fz:=(0,0)) (o1::obs) (sseg++useg2) rfl (by simp[bO]) (by simp) (.inl (NF _)) #[.slice sv.a sv.len sv.cap,.slice u2.a u2.len u2.cap] rfl ?_;obtain⟨a,ha,_⟩:=ok.own.sl.el Bs (by decide) hi;refine B7 rfl (B5 sv (Oj (m:=m) (uv:=u2) (by unfold bO;simp)) (B5 n l1 (B7 ha (H7 h0 (show n<sv.len by omega) (Fe hio ?_)))));refine H0 (R:=o1::bO m sv u2::useg2) (h sv sseg n.toNat a hi ok.own ha) ?_ ?_
  ·unfold bO
   classical
   rw[ON];intro x;simp only[PM,OM,OP,OV,PJ];omega
  rintro _ _ ⟨rfl,sseg2,rfl,own2⟩;refine⟨o1::(obs++(bO m sv u2::(sseg2++useg2))),?_,(),rfl,?_⟩
  ·classical
   rw[ON];intro x;simp only[PM,OM,OP,OV,PJ];omega
  rw[<-Zc hi]at own2;refine .cons (.of ⟨rfl,_,rfl,?_⟩);simp only[if_true];have iF:=Ca8 us n;refine⟨sv,sseg2,u2,useg2,rfl,own2,uown2,by unfold O7;rw[UY];exact ok.cnt,by omega,fun s hs=>?_⟩;rw[Zc hi]at hs;rcases NJ.1 hs with h1|h1
  ·exact ok.wr s (RP h1)
  ·rcases OC.1 h1 with rfl|h2
   ·exact hg _ (NO hi)
   ·exact ok.wr s (SV h2)
def HG(a:Addr)(i k:Nat):Addr.add (a.add i) k=a.add (i+k):=by
 unfold Addr.add;by_cases h1:i=0<;>by_cases h2:k=0<;>simp[h1,h2,TR]
def Yo(p s:List BS)(x x':BS)(k:Nat)(hk:k<3)(w:Value)(hx:(Ae x).set k w=Ae x'):Bm ((p++x::s).flatMap Ae) (p.length*3+k) [w]=(p++x'::s).flatMap Ae:=by
 have hp:(p.flatMap Ae).length=p.length*3:=Ea Bs p;rw[Su (by rw[Ea Bs,NR,NU];omega)];rw[OD,OD,OL,OL,<-hx,XU _ _ (by omega),hp,show p.length*3+k-p.length*3=k by omega,List.set_append_left _ _ (by rw[Bs];exact hk)]
def Cl(bad:Bool)(s:BS):BS:=⟨s.wear+1,bad,false⟩
def Fw(s:BS):BS:={s with dirty:=false}
def Ck8(ss:List BS)(hw: ∀s∈ss,0<=s.wear/\s.wear<=1000000000)(bad:Bool)(n1:Nat)(v:B6)(seg:B1)(j:Nat)(a:Addr)(hj:j<ss.length)(own:C5 v 3 Br (ss.flatMap Ae) seg)(ha:v.a=some a):
  CallF PP 240 #[.q (some (a.add (j*3))),.p n1] ([(n1,Obj.cells #[.b bad] 4)]++seg)
   fun r L'=>r= .t #[]/\ ∃seg',L'=[(n1,Obj.cells #[.b bad] 4)]++seg'/\C5 v 3 Br ((ss.take j++Cl bad ss[j]::ss.drop (j+1)).flatMap Ae) seg':=by
 refine(e240 (some (a.add (j*3))) (some n1.z)).c ?_;have hx:=hw ss[j] (NO hj);have hs:ss=ss.take j++ss[j]::ss.drop (j+1):=by rw[<-OZ hj,PR]
 have uC:(ss.take j).length=j:=by rw[NW];omega
 generalize ss.take j=p at hs uC⊢;generalize ss.drop (j+1)=t at hs⊢;generalize ss[j]=x at hs hx⊢;subst hs;have hl: ∀(y:BS),((p++y::t).flatMap Ae).length=(p.length+1+t.length)*3:=fun y=>by rw[Ea Bs,NR,NU];congr 1;omega
 have cH:=own.sl.el Bs (by decide) (i:=p.length) (by simp);obtain⟨a',dA,cH⟩:=cH;rw[ha]at dA;obtain rfl:=NI dA;rw[show(p++x::t)[p.length]'(by simp)=x by simp,uC]at cH;generalize ho:(n1,Obj.cells #[.b bad] 4)=o1;have lb: ∀{Z:B1},C0 n1.z [.b bad] (o1::Z):=by subst ho;exact C2 NG rfl
 clear ho;refine B7 rfl (B5 x.wear ?_ (B7 rfl ?_))
 ·exact(cH.mono fun _ hx=>OG _ hx).pre fun i u hu=>by cases i with|zero=>exact hu|succ i=>exact absurd (show(none:Option Value)=some u from hu) (by simp)
 rw[D7 (by omega) (by omega)];refine own.st [o1] [] (p:=j*3+0) (by rw[hl];simp only[NU,OX];omega) (by simp) ha rfl (by simp) fun seg1 own1=>?_;rw[<-uC,Yo p t x ⟨x.wear+1,x.bad,x.dirty⟩ 0 (by decide) _ rfl]at own1;refine B7 rfl (B5 bad lb (B7 rfl ?_));refine own1.st [o1] [] (p:=j*3+1) (by rw[hl];simp only[NU,OX];omega) (by simp) ha (HG a (j*3) 1) rfl fun seg2 own2=>?_;rw[<-uC,Yo p t ⟨x.wear+1,x.bad,x.dirty⟩ ⟨x.wear+1,bad,x.dirty⟩ 1 (by decide) _ rfl]at own2;refine B7 rfl (own2.st [o1] [] (p:=j*3+2) (by rw[hl];simp only[NU,OX];omega) (by simp) ha (HG a (j*3) 2) rfl fun seg3 own3=>?_);rw[<-uC,Yo p t ⟨x.wear+1,bad,x.dirty⟩ ⟨x.wear+1,bad,false⟩ 2 (by decide) _ rfl]at own3;rw[NP];exact .of ⟨rfl,seg3,rfl,own3⟩
def Cr2(m:Nat)(ss:List BS)(us:List Int)(A:B1)(hA:BX m ss us A)(hw: ∀s∈ss,0<=s.wear/\s.wear<=900000000)(n:Int)(bad:Bool):CallF PP 210 #[.p m,.i n,.b bad] A
  fun r L'=>r= .b (I6 ss n)/\BX m (if I6 ss n=true then O7 ss n (Cl bad)else ss) (if I6 ss n=true then T9 us n else us) L':=by
 refine(e210 (some m.z) n bad).c ?_;refine C9 fun n1 _=>?_;refine K3 [] [] (Cp6 m ss us A hA n 240 (by kernel_rfl) #[.p n1] [(n1,Obj.cells #[.b bad] 4)] (Cl bad) (fun s hs=>by have:=hw s hs;unfold Cl;simp only;omega)
  (fun v seg j a hj own ha=>Ck8 ss (fun s hs=>by have:=hw s hs;omega) bad n1 v seg j a hj own ha)) (by simp) ?_
 rintro _ _-⟨rfl,A',rfl,cU⟩;rw[NP];exact⟨(I6 ss n,()),rfl,.cons (.of ⟨rfl,cU⟩)⟩
def Gy:List BS->List Int->List Int->Option (List BS×List Int)
 |ss,us,[]=>some (ss,us)
 |ss,us,n::r=>if O2 ss us n=true then Gy (O7 ss n Fw) (us++[n]) r else none
def Mf(ss:List BS):Bool:=ss.all fun s=>decide (0<=s.wear/\s.wear<=1048576)
def Bx(ss:List BS)(used:List Int):Option (List BS×List Int):=if 1<=ss.length/\ss.length<=16/\Mf ss=true then Gy ss [] used else none
def GS(ss:List BS)(n:Int)(g:BS->BS):(O7 ss n g).length=ss.length:=UY ..
theorem Ac3: ∀(k:Nat) (l:List Int),l.Nodup->(∀x∈l,0<=x/\x<k)->l.length<=k
 |0,l,_,h=>by
  cases l with
  |nil=>simp
  |cons x r=>have:=h x (by simp);omega
 |k+1,l,hn,h=>by
  have h1:=Ac3 k (l.erase (k:Int)) (hn.erase _) (fun x hx=>by
   rw[hn.mem_erase_iff]at hx;have:=h x hx.2;have:=hx.1;omega)
  by_cases hk:(k:Int)∈l
  ·rw[XX hk]at h1;omega
  ·rw[XY hk]at h1;omega
def Rb(ss:List BS)(us:List Int):Prop:=us.Nodup/\ ∀x∈us,0<=x/\x<ss.length
def GR{us:List Int}(h:Rb ss us):us.length<=ss.length:=Ac3 _ _ h.1 h.2
def At3{us:List Int}(h:Rb ss us)(hf:O2 ss us n=true):Rb ss (us++[n]):=by
 obtain⟨h1,h2⟩:=Di hf;obtain⟨h0,hi,_⟩:=El h1;refine⟨?_,fun x hx=>?_⟩
 ·rw[QA];exact⟨h.1,by simp,fun a ha b hb=>by rw[NM.1 hb];rintro rfl;exact h2 ha⟩
 ·rcases NJ.1 hx with h3|h3
  ·exact h.2 x h3
  ·rw[NM.1 h3];omega
def Cp1(h:Mf ss=true): ∀s∈ss,0<=s.wear/\s.wear<=1048576:=by
 unfold Mf at h;rw[QM]at h;intro s hs;simpa using h s hs
def Jc(ss:List BS)(used:List Int)(A:B1)(v:Value)(L':B1):Prop:=match Bx ss used with
 |none=>v= .t #[.q none,.i 2]/\L'=A
 |some r=> ∃(m:Nat) (B:B1),v= .t #[.p m,.i 0]/\L'=B++A/\BX m r.1 r.2 B/\Rb r.1 r.2
def Jc.bad{used:List Int}(h:Bx ss used=none):Jc ss used A (.t #[.q none,.i 2]) A:=by
 unfold Jc;rw[h];exact⟨rfl,rfl⟩
def Cq3(A:B1)(v:B6)(ss:List BS)(hv:Sl A v 3 (ss.flatMap Ae))(u:B6)(used:List Int)(hu:R4 A u .i64 used)(fI:used.length<=9223372036854775807):CallF PP 70 #[.slice v.a v.len v.cap,.slice u.a u.len u.cap] A (Jc ss used A):=by
 refine(e70 v u).c ?_;have bY:=hv.els_len Bs (by decide);have tG:=hu.len;refine D3 (fun(h1:(v.len:Int)<1)=>.of (Jc.bad (by unfold Bx;rw[ND (by omega)]))) (fun(h1: ¬(v.len:Int)<1)=>?_);refine D3 (fun(h2:(v.len:Int)>16)=>.of (Jc.bad (by unfold Bx;rw[ND (by omega)]))) (fun(h2: ¬(v.len:Int)>16)=>?_);refine K3 [] [] (Bd0 A v ss hv (by omega)) (by simp) ?_;rintro _ _-⟨sv,sseg,rfl,rfl,sown⟩;rw[NP,NT];refine⟨(sv,()),rfl,C9 fun m _=>?_⟩;refine G1 (fun k z L'=> ∃(i:Nat) (J:B1),i<=ss.length/\k=ss.length-i/\z=((i:Int),())/\L'=J++(bO m sv ⟨none,0,0⟩::(sseg++A))/\ ∀s∈ss.take i,0<=s.wear/\s.wear<=1048576) ss.length ⟨0,[],by omega,by omega,rfl,rfl,by simp⟩ ?_;rintro k z L' ⟨i,J,hi,rfl,rfl,rfl,aA⟩;refine D3 (fun(hO:(i:Int)<v.len)=>?_) (fun(aM: ¬(i:Int)<v.len)=>?_)
 ·have hJ:i<ss.length:=by omega
  have bm:Sl (J++(bO m sv ⟨none,0,0⟩::(sseg++A))) v 3 (ss.flatMap Ae):=hv.right.cons.right;obtain⟨a,ha,hl⟩:=bm.el Bs (by decide) hJ;refine B7 ha (H7 (show(0:Int)<=(i:Int) by omega) hO (B5 (ss[i].wear,ss[i].bad,ss[i].dirty,()) (by rw[NK];exact hl) ?_));have bL: ¬(0<=ss[i].wear/\ss[i].wear<=1048576)->Bx ss used=none:=by
   intro hc;unfold Bx;rw[ND];rintro⟨_,_,h3⟩;exact hc (Cp1 h3 _ (NO hJ))
  have cF: ∀(h:0<=ss[i].wear/\ss[i].wear<=1048576),∀s∈ss.take (i+1),0<=s.wear/\s.wear<=1048576:=by
   intro h s hs;rw[OB hJ]at hs;rcases NJ.1 hs with h3|h3
   ·exact aA s h3
   ·rw[NM.1 h3];exact h
  generalize ss[i]=x at bL cF⊢;refine C9 fun n2 _=>F6 [] _ rfl rfl (by simp) (.inl (NF _)) #[.i x.wear,.b x.bad,.b x.dirty] rfl ?_;rw[NT];refine B5 x.wear (C2 NG rfl) (D3 (fun(hc:x.wear<0)=>.cons (.app (.cons (.app (.of (Jc.bad (bL (by omega)))))))) (fun(hc: ¬x.wear<0)=>?_));refine B5 x.wear (C2 NG rfl) (D3 (fun(cY:x.wear>1048576)=>.cons (.app (.cons (.app (.of (Jc.bad (bL (by omega)))))))) (fun(cY: ¬x.wear>1048576)=>?_));refine⟨ss.length-(i+1),by omega,i+1,(n2,Obj.cells #[.i x.wear,.b x.bad,.b x.dirty] Br)::J,by omega,rfl,?_,rfl,cF (by omega)⟩;rw[D7 (by first|omega|(simp only;omega)) (by first|omega|(simp only;omega))];rfl
 ·obtain rfl:i=ss.length:=by omega
  rw[OE]at aA;have ab:Mf ss=true:=by unfold Mf;rw[QM];intro s hs;simpa using aA s hs
  have hR:Bx ss used=Gy ss [] used:=by unfold Bx;rw[NE ⟨by omega,by omega,ab⟩]
  refine G1 (fun k z L'=> ∃(i:Nat) (J:B1) (cs:List BS) (us:List Int) (sseg useg:B1) (uv:B6),i<=used.length/\k=used.length-i/\z=((i:Int),())/\L'=J++(bO m sv uv::(sseg++useg))++A/\Ax3 sv sseg cs uv useg us/\Rb cs us/\cs.length=ss.length/\Gy ss [] used=Gy cs us (used.drop i)) used.length
   ⟨0,J,ss,[],sseg,[],⟨none,0,0⟩,by omega,by omega,rfl,by simp,⟨sown,Ab7,by omega,by simp,fun s hs=>by have:=aA s hs;omega⟩,⟨by simp,by simp⟩,rfl,rfl⟩ ?_
  rintro k z L' ⟨i,J,cs,us,sseg,useg,uv,hi,rfl,rfl,rfl,ok,hb,cI,hU⟩;refine D3 (fun(hO:(i:Int)<u.len)=>?_) (fun(aM: ¬(i:Int)<u.len)=>?_)
  ·have hJ:i<used.length:=by omega
   have gU:R4 (J++(bO m sv uv::(sseg++useg))++A) u .i64 used:=hu.right;obtain⟨a,ha⟩:=gU.some hJ;have fY:=OZ hJ;rw[fY]at hU;refine B7 ha (H7 (show(0:Int)<=(i:Int) by omega) hO (B5 used[i] (gU.rd hJ ha _ (by simp)) ?_));generalize used[i]=n at hU⊢;have hBX:BX m cs us (bO m sv uv::(sseg++useg)):=⟨sv,sseg,uv,useg,rfl,ok⟩;refine C4 (Ze _ m cs us _ hBX (fun x hx=>OA _ (OG _ hx)) n) (O2 cs us n,()) rfl ?_;cases cD:O2 cs us n with
   |false=>
    refine E9 rfl (.app (.of (Jc.bad ?_)));rw[hR,hU];unfold Gy;rw[ND (by rw[cD];decide)]
   |true=>
    have hU2:Gy ss [] used=Gy (O7 cs n Fw) (us++[n]) (used.drop (i+1)):=by
     rw[hU];conv=>lhs;unfold Gy
     rw[NE cD]
    obtain⟨h0,cC,_⟩:=El (Di cD).1;have mA:=ok.own.sl.els_len Bs (by decide);have qF:=ok.uown.sl.len;rw[Hi,OS]at qF;obtain⟨b,fZ,_⟩:=ok.own.sl.el Bs (by decide) cC;have bN:=GR hb;refine D8 rfl (B5 sv (Oj (uv:=uv) (by simp)) (B7 fZ (H7 h0 (show n<sv.len by omega) ?_)));refine ok.own.st (J++[bO m sv uv]) (useg++A) (p:=n.toNat*3+2) (by rw[Ea Bs];simp only[NU,OX];omega) (by simp) fZ (HG b (n.toNat*3) 2) (by simp) fun sseg2 own2=>?_;have qL:cs=cs.take n.toNat++cs[n.toNat]::cs.drop (n.toNat+1):=by rw[<-OZ cC,PR]
    have uB:(cs.take n.toNat).length=n.toNat:=by rw[NW];omega
    have dQ:=Yo (cs.take n.toNat) (cs.drop (n.toNat+1)) cs[n.toNat] (Fw cs[n.toNat]) 2 (by decide) (.b false) rfl;rw[<-qL,uB,<-Zc cC]at dQ;rw[dQ]at own2;refine B5 uv (Rf (sv:=sv) (by simp)) (C9 fun n3 _=>?_);have iY: ∀{Z:B1},Sl ((n3,Obj.cells #[.i n] Ga)::Z) ⟨some n3.z,1,1⟩ 1 (O6 .i64 [n]):=fun{Z}=>⟨rfl,NF _,.inr ⟨_,rfl,C2 NG rfl⟩⟩;have oS:=ok.cnt;refine Q1 Yr AO ((n3,Obj.cells #[.i n] Ga)::(J++(bO m sv uv::sseg2))) A ok.uown (by simp) (.sl iY) (Tw _ _) (by first|omega|(simp only;omega)) fun v2 seg2 kX uown2=>?_;rw[<-Tx]at uown2;refine F6 (n:=m) (off:=1) (c:=#[.slice sv.a sv.len sv.cap,.slice uv.a uv.len uv.cap]) (T:=238) (fz:=(0,0)) ((n3,Obj.cells #[.i n] Ga)::J) (sseg2++(seg2++A)) rfl (by simp[bO]) (by simp) (.inl (NF _)) #[.slice sv.a sv.len sv.cap,.slice v2.a v2.len v2.cap] rfl ?_;have rQ:=At3 hb cD;have dc:=GS cs n Fw;refine⟨used.length-(i+1),by omega,i+1,(n3,Obj.cells #[.i n] Ga)::J,O7 cs n Fw,us++[n],sseg2,seg2,v2,by omega,rfl,?_,by simp[bO],⟨own2,uown2,by omega,by have:=GR rQ;omega,fun s hs=>?_⟩,⟨rQ.1,fun x hx=>by rw[dc];exact rQ.2 x hx⟩,by omega,hU2⟩
    ·rw[D7 (by first|omega|(simp only;omega)) (by first|omega|(simp only;omega))];rfl
    ·rw[Zc cC]at hs;rcases NJ.1 hs with h3|h3
     ·exact ok.wr s (RP h3)
     ·rcases OC.1 h3 with rfl|h4
      ·exact ok.wr cs[n.toNat] (NO cC)
      ·exact ok.wr s (SV h4)
  ·obtain rfl:i=used.length:=by omega
   rw[XO]at hU;have hRR:Bx ss used=some (cs,us):=by rw[hR,hU];rfl
   rw[NZ];refine .app (.of ?_);unfold Jc;rw[hRR];exact⟨m,_,rfl,rfl,⟨sv,sseg,uv,useg,rfl,ok⟩,hb⟩
def cut(n m:Int):Int:=if n<0 then 0 else if m<n then m else n
def Mc(n m:Int)(h:0<=m):0<=cut n m/\cut n m<=m:=by unfold cut;split<;>(try split)<;>omega
def Cu7(n m:Int)(h:0<=n)(h2:n<=m):cut n m=n:=by unfold cut;split<;>(try split)<;>omega
def Cf5(n m:Int)(h:0<=m):L9 (N8 n m) 0=cut n m:=by unfold cut L9 N8;split<;>split<;>(try split)<;>(try split)<;>omega
structure Bk where
 rate:Int
 last:Int
 burst:Int
 tokens:Int
structure Bk.Ok(b:Bk):Prop where
 r0:0<=b.rate
 r1:b.rate<=1048576
 l0:0<=b.last
 l1:b.last<=253402300799
 b0:0<=b.burst
 b1:b.burst<=1073741824
 t0:0<=b.tokens
 t1:b.tokens<=b.burst
def Ff(rate burst now tokens:Int):Bk:=⟨cut rate 1048576,cut now 253402300799,cut burst 1073741824,cut tokens (cut burst 1073741824)⟩
def Cq7(rate burst now tokens:Int):(Ff rate burst now tokens).Ok:=by
 have h1:=Mc rate 1048576 (by decide);have h2:=Mc now 253402300799 (by decide);have h3:=Mc burst 1073741824 (by decide);have h4:=Mc tokens (cut burst 1073741824) h3.1;exact⟨h1.1,h1.2,h2.1,h2.2,h3.1,h3.2,h4.1,h4.2⟩
def Hu(b:Bk)(t:Int):Int:=if t<=b.last then 0 else b.rate*(t-b.last)
def Mh(b:Bk)(now:Int):Bk:=
 let t:=cut now 253402300799
 ⟨b.rate,if t<=b.last then b.last else t,b.burst,cut (b.tokens+Hu b t) b.burst⟩
def Bv0{a:Int}(h1:0<=a)(h2:a<=1048576)(h3:0<=b)(h4:b<=253402300799):0<=a*b/\a*b<=265711571000000000:=by
 refine⟨WF h1 h3,?_⟩;have h5:a*b<=1048576*253402300799:=Int.mul_le_mul h2 h4 h3 (by decide);omega
def Au2{b:Bk}(h:b.Ok){t:Int}(h0:0<=t)(h1:t<=253402300799):0<=Hu b t/\Hu b t<=265711571000000000:=by
 unfold Hu;split
 ·omega
 ·have:=h.l0;exact Bv0 h.r0 h.r1 (by omega) (by omega)
def Cq5{b:Bk}(h:b.Ok)(now:Int):(Mh b now).Ok:=by
 have h1:=Mc now 253402300799 (by decide);have h2:=Mc (b.tokens+Hu b (cut now 253402300799)) b.burst h.b0;have h3:=h.l0;have h4:=h.l1;refine⟨h.r0,h.r1,?_,?_,h.b0,h.b1,h2.1,h2.2⟩<;>(simp only[Mh];split<;>omega)
def Rc(b:Bk)(n:Int):Bool:=decide (0<=n/\n<=b.tokens)
def Ht(b:Bk)(n:Int):Bk:=if 0<=n/\n<=b.tokens then{b with tokens:=b.tokens-n}else b
def Cq6{b:Bk}(h:b.Ok)(n:Int):(Ht b n).Ok:=by
 unfold Ht;split
 ·have:=h.t1;exact⟨h.r0,h.r1,h.l0,h.l1,h.b0,h.b1,by first|omega|(simp only;omega),by first|omega|(simp only;omega)⟩
 ·exact h
abbrev Ca(b:Bk):Obj:=.cells #[.i b.rate,.i b.last,.i b.burst,.i b.tokens] 214
def Qp(L:B1)(n m:Int)(b:Nat)(h:0<=m)(hm:(b,Obj.cells #[.i m] 3)∈L):Reads PP 119 #[.i n,.slice (some b.z) 1 1] L (.i (cut n m)):=by
 refine(e119 n ⟨some b.z,1,1⟩).r ?_;refine G1 (fun k z L'=>L'=L/\((k=1/\z=(n,0,()))\/(k=0/\z=(N8 n m,1,())))) 1 ⟨rfl,.inl ⟨rfl,rfl⟩⟩ ?_;rintro k z L ⟨rfl,⟨rfl,rfl⟩|⟨rfl,rfl⟩⟩
 ·refine Ew (show(0:Int)<1 by decide) (H7 (show(0:Int)<=0 by decide) (show(0:Int)<1 by decide) (B5 m (C2 hm rfl) ⟨0,by omega,rfl,.inr ⟨rfl,rfl⟩⟩))
 ·refine Bp (show¬(1:Int)<1 by decide) (.of ⟨?_,rfl⟩);simp only[Cf5 n m h]
def Cq4(rate burst now tokens:Int):CallF PP 67 #[.i rate,.i burst,.i now,.i tokens] [] fun v L'=> ∃n,v= .p n/\L'=[(n,Ca (Ff rate burst now tokens))]:=by
 refine(e67 rate burst now tokens).c ?_;have h3:=Mc burst 1073741824 (by decide);refine C9 fun n1 _=>C4 (Qp _ rate 1048576 n1 (by decide) NG) (cut rate 1048576,()) rfl ?_;refine C9 fun n2 _=>C4 (Qp _ now 253402300799 n2 (by decide) NG) (cut now 253402300799,()) rfl ?_;refine C9 fun n3 _=>C4 (Qp _ burst 1073741824 n3 (by decide) NG) (cut burst 1073741824,()) rfl ?_;refine C9 fun n4 _=>B5 (cut burst 1073741824) (C2 NG rfl) ?_;refine C9 fun n5 _=>C4 (Qp _ tokens (cut burst 1073741824) n5 h3.1 NG) (cut tokens (cut burst 1073741824),()) rfl ?_;refine F6 [_] _ rfl rfl (by simp[Bi]) (.inl (NF _)) _ rfl ?_;exact .drop (A:=[_]) (J:=[_,_,_,_]) ⟨n4,rfl,rfl⟩ (TO _ _ _)
def Bf3(L:B1)(b:Bk)(hb:b.Ok)(t:Int)(h0:0<=t)(h1:t<=253402300799):Reads PP 118 #[.agg #[.i b.rate,.i b.last],.i t] L
  (.t #[.i (Hu b t),.agg #[.i b.rate,.i (if t<=b.last then b.last else t)]]):=by
 refine(e118 (b.rate,b.last,()) t).r ?_;have hr:=Au2 hb h0 h1;have jH:=hb.l0;have fF:=hb.l1;refine C9 fun n1 _=>C9 fun n2 _=>B5 b.last (C2 (NN _ NG) rfl) ?_;refine D3 (fun(h:t<=b.last)=>?_) (fun(h: ¬t<=b.last)=>?_)
 ·refine B5 (b.rate,b.last,()) (C2 (NN _ NG) rfl) (F6 [] _ rfl rfl (by simp[Bi]) (.inl (NF _)) _ rfl (B5 (b.rate,b.last,()) (C2 NG rfl) ?_));refine .drop (A:=L) (J:=[_,_]) ⟨?_,rfl⟩ (OT (l₁:=[_,_]));unfold Hu;rw[NE h,NE h]
 ·refine B5 b.rate (C2 (NN _ NG) rfl) (B5 b.last (C2 (NN _ NG) rfl) (B5 b.rate (C2 (NN _ NG) rfl) ?_));refine F6 [] _ rfl rfl (by simp[Bi]) (.inl (NF _)) _ rfl (B5 (b.rate,t,()) (C2 NG rfl) ?_);refine .drop (A:=L) (J:=[_,_]) ⟨?_,rfl⟩ (OT (l₁:=[_,_]));unfold Hu at hr⊢;rw[ND h]at hr;rw[ND h,ND h,D7 (n:=t-b.last) (by omega) (by omega),D7 (by omega) (by omega)]
def Ba7(n:Nat)(b:Bk)(hb:b.Ok)(t:Int):CallF PP 62 #[.p n,.i t] [(n,Ca b)] fun v L'=>v= .t #[]/\L'=[(n,Ca (Mh b t))]:=by
 refine(e62 (some n.z) t).c ?_;have hc:=Mc t 253402300799 (by decide);have hr:=Au2 hb hc.1 hc.2;have ht0:=hb.t0;have bq:=hb.t1;have dM:=hb.b1;refine D8 rfl (B7 rfl (B5 (b.rate,b.last,()) (C2 NG rfl) ?_));refine C9 fun n1 _=>C4 (Qp _ t 253402300799 n1 (by decide) NG) (cut t 253402300799,()) rfl (P2 (C2 (NN _ NG) rfl) ?_);refine C4 (Bf3 _ b hb (cut t 253402300799) hc.1 hc.2) (Hu b (cut t 253402300799),(b.rate,(if cut t 253402300799<=b.last then b.last else cut t 253402300799),()),()) rfl ?_;refine C9 fun n2 _=>F6 [] _ rfl rfl (by simp[Bi]) (.inl (NF _)) _ rfl ?_;refine B7 rfl (B7 rfl (B5 b.tokens (C2 (NN _ (NN _ NG)) rfl) (B5 b.burst (C2 (NN _ (NN _ NG)) rfl) ?_)));refine B5 (b.rate,(if cut t 253402300799<=b.last then b.last else cut t 253402300799),()) (C2 NG rfl) ?_;have hw:IntKind.i64.wrap (b.tokens+Hu b (cut t 253402300799))=b.tokens+Hu b (cut t 253402300799):=D7 (by omega) (by omega);refine C9 fun n3 _=>?_;simp only[hw];refine C4 (Qp _ _ b.burst n3 hb.b0 NG) (cut (b.tokens+Hu b (cut t 253402300799)) b.burst,()) rfl (P2 (C2 (NN _ NG) rfl) ?_);refine B7 rfl (F6 [_,_,_] [] rfl rfl (by simp[Bi]) (.inl (NF _)) _ rfl (P2 (C2 (NN _ NG) rfl) (B7 rfl (F6 [_,_,_] [] rfl rfl (by simp[Bi]) (.inl (NF _)) _ rfl ?_))));exact .drop (A:=[_]) (J:=[_,_,_]) ⟨rfl,rfl⟩ (OT (l₁:=[_,_,_]))
def Ba3(L:B1)(n:Nat)(b:Bk)(hm:(n,Ca b)∈L):Reads PP 160 #[.p n] L (.i b.tokens):=by
 refine(e160 (some n.z)).r ?_;exact D8 rfl (B7 rfl (B5 b.tokens (C2 hm rfl) (.of ⟨rfl,rfl⟩)))
def Bb2(n:Nat)(b:Bk)(hb:b.Ok)(t:Int):CallF PP 114 #[.p n,.i t] [(n,Ca b)] fun v L'=>v= .b (Rc b t)/\L'=[(n,Ca (Ht b t))]:=by
 refine(e114 (some n.z) t).c ?_;have bq:=hb.t1;have dM:=hb.b1;unfold Rc Ht;refine D8 rfl (D3 (fun(h:t<0)=>.of ⟨?_,?_⟩) (fun(h: ¬t<0)=>B7 rfl (B5 b.tokens (C2 NG rfl) (D3 (fun(h2:t>b.tokens)=>.of ⟨?_,?_⟩) (fun(h2: ¬t>b.tokens)=>?_)))))
 ·rw[OF (by omega)]
 ·rw[ND (by omega)]
 ·rw[OF (by omega)]
 ·rw[ND (by omega)]
 ·refine B7 rfl (B5 b.tokens (C2 NG rfl) (B7 rfl (F6 [] [] rfl rfl (by simp[Bi]) (.inl (NF _)) _ rfl (.of ⟨?_,?_⟩))))
  ·rw[OH (by omega)]
  ·rw[NE (by omega),D7 (by first|omega|(simp only;omega)) (by first|omega|(simp only;omega))];rfl
def Dz(room:Int)(l:List Int)(x:Int):List Int:=if((l.erase x++[x]).length:Int)>room then(l.erase x++[x]).drop 1 else l.erase x++[x]
def Ve(l:List Int)(x i:Int):Prop:=(i= -1/\x∉l)\/ ∃k:Nat,i=k/\k<l.length/\l[k]?=some x/\x∉l.take k
def Ve.mem{l:List Int}{i:Int}(h:Ve l x i):(0<=i↔x∈l):=by
 rcases h with⟨rfl,h⟩|⟨k,rfl,hk,hx,_⟩
 ·simp[h]
 ·exact⟨fun _=>QI hx,fun _=>by omega⟩
def Ve.erase{l:List Int}{k:Nat}(hk:k<l.length)(hx:l[k]?=some x)(hn:x∉l.take k):l.erase x=l.take k++l.drop (k+1):=by
 have h1:l=l.take k++x::l.drop (k+1):=by
  have:l[k]=x:=by rw[NV hk]at hx;exact NI hx
  rw[<-this,<-OZ hk,PR]
 conv=>lhs;rw[h1]
 rw[List.erase_append_right _ hn,List.erase_cons_head]
def Bu0{l:List Int}(hi:i<l.length)(h:x∉l.take i)(hx:l[i]≠x):x∉l.take (i+1):=by
 rw[OB hi,NJ];rintro(h1|h1)
 ·exact h h1
 ·exact hx (NM.1 h1).symm
abbrev tU:TypeId:=169
abbrev eU:TypeId:=90
def Yq:V4 PP tU eU 1 8 [.int .u64 0]:=De (by kernel_rfl) (by kernel_rfl) rfl (by decide) (by decide)
def JU:W6 PP tU:=.inl ⟨eU,by kernel_rfl⟩
def Br0(L:B1)(v:B6)(l:List Int)(h:R4 L v .u64 l)(hb:l.length<=1000000)(x:Int):
  CallF PP 93 #[.slice v.a v.len v.cap,.int .u64 x] L fun r L'=>L'=L/\ ∃i,r= .i i/\Ve l x i:=by
 refine(e93 v x).c ?_;have hC:=h.len;refine G1 (fun k z L'=>L'=L/\ ∃i,i<=l.length/\k=l.length-i/\z=((i:Int),())/\x∉l.take i) l.length ⟨rfl,0,by omega,by omega,rfl,by simp⟩ ?_;rintro k z L ⟨rfl,i,hi,rfl,rfl,hn⟩;refine D3 (fun(hO:(i:Int)<v.len)=>?_) (fun(aM: ¬(i:Int)<v.len)=>?_)
 ·have hJ:i<l.length:=by omega
  obtain⟨a,ha⟩:=h.some hJ;refine B7 ha (H7 (show(0:Int)<=i by omega) hO (B5 l[i] (h.rd hJ ha _ (by simp)) ?_));refine Ex (fun(he:x=l[i])=>.of ⟨rfl,i,rfl,.inr ⟨i,rfl,hJ,by rw[NV hJ,he],hn⟩⟩) (fun(he:x≠l[i])=>?_);refine⟨l.length-(i+1),by omega,rfl,i+1,by omega,rfl,?_,Bu0 hJ hn (fun e=>he e.symm)⟩;rw[D7 (by first|omega|(simp only;omega)) (by first|omega|(simp only;omega))];rfl
 ·obtain rfl:i=l.length:=by omega
  rw[OE]at hn;exact .of ⟨rfl,-1,rfl,.inl ⟨rfl,hn⟩⟩
def Ja(room:Int)(l:List Int)(o:Obj):Prop:= ∃(c:Array Value) (f:Nat),o= .cells c 233/\c.size=67/\c[0]?=some (.i room)/\c[65]?=some (.i f)/\c[66]?=some (.i l.length)/\f<64/\l.length<=64/\
 ∀(i:Nat) (x:Int),l[i]?=some x->c[1+(f+i)%64]?=some (.int .u64 x)
def Gt{n off:Nat}{c:Array Value}{T:TypeId}{fz:Nat×Nat}{v:Value}(hm:(n,Obj.cells c T fz)∈L)(h:c[off]?=some v):C0 ⟨n,off,none⟩ [v] L:=
 .blk hm fun i u hu=>by
  cases i with
  |zero=>simp at hu;subst hu;exact h
  |succ i=>simp at hu
def Ah(c:Array Value)(i j:Nat)(v:Value)(hi:i<c.size):(c.setIfInBounds i v)[j]?=if i=j then some v else c[j]?:=by
 rw[Array.getElem?_setIfInBounds];simp[hi]
def Ct2(n:Nat)(room:Int)(l:List Int)(o:Obj)(h:Ja room l o):CallF PP 92 #[.p n] [(n,o)] fun v L'=> ∃s seg,v= .slice s.a s.len s.cap/\L'=(n,o)::seg/\C5 s 1 eU (O6 .u64 l) seg:=by
 refine(e92 (some n.z)).c ?_;obtain⟨c,f,rfl,aE,h0,h65,h66,hf,hl,hr⟩:=h;refine B7 rfl (B5 (l.length:Int) (Gt NG h66) ?_);refine G1 (fun k z L'=> ∃i s seg J,i<=l.length/\k=l.length-i/\z=(s,(i:Int),())/\L'=J++seg++[(n,Obj.cells c 233)]/\C5 s 1 eU (O6 .u64 (l.take i)) seg) l.length
  ⟨0,⟨none,0,0⟩,[],[],by omega,by omega,rfl,rfl,⟨rfl,NF _,.inl ⟨rfl,rfl,rfl⟩⟩⟩ ?_
 rintro k z L' ⟨i,s,seg,J,hi,rfl,rfl,rfl,own⟩;have hm:(n,Obj.cells c 233)∈J++seg++[(n,Obj.cells c 233)]:=by simp
 refine D3 (fun(hO:(i:Int)<l.length)=>?_) (fun(aM: ¬(i:Int)<l.length)=>?_)
 ·have hJ:i<l.length:=by omega
  have hw:IntKind.i64.wrap ((f:Int)+i)=((f+i:Nat):Int):=by rw[D7 (by omega) (by omega)];omega
  have aV:Int.tmod ((f+i:Nat):Int) 64=(((f+i)%64:Nat):Int):=by rw[TI (by omega)];omega
  refine B7 rfl (B7 rfl (B5 (f:Int) (Gt hm h65) (Dv (by decide) ?_)));simp only[hw,aV,NK,OS];refine H7 (by omega) (by omega) (B5 l[i] ?_ ?_)
  ·rw[Fh (ad:=n.z) rfl,Fh rfl];exact Gt hm (by rw[QO];exact hr i l[i] (NV hJ))
  refine C9 fun m _=>Q1 Yq JU ((m,Obj.cells #[.int .u64 l[i]] eU)::J) [(n,Obj.cells c 233)] own rfl (.sl (R4.const (l:=[l[i]]) 1 (NF _) NG)) (Tw _ _)
   (by have:=own.sl.len;rw[Hi,NW]at this;simp only[NU,OX];omega) fun s' seg' bZ own'=>?_
  rw[<-Tx,<-OB hJ]at own';refine⟨l.length-(i+1),by omega,i+1,s',seg',(m,Obj.cells #[.int .u64 l[i]] eU)::J,by omega,rfl,?_,rfl,own'⟩;rw[D7 (by first|omega|(simp only;omega)) (by first|omega|(simp only;omega))];rfl
 ·obtain rfl:i=l.length:=by omega
  rw[OE]at own;refine .drop (A:=(n,Obj.cells c 233)::seg) (J:=J) ⟨s,seg,rfl,rfl,own⟩ ?_;have h1:(J++seg++[(n,Obj.cells c 233)]).Perm ([(n,Obj.cells c 233)]++(J++seg)):=OT;have h2:([(n,Obj.cells c 233)]++(J++seg)).Perm ([(n,Obj.cells c 233)]++(seg++J)):=XI _ OT;simpa using h1.trans h2
def Ao5(l:List Int)(x:Int):(l.erase x).length<=l.length:=TK ..
def Cn2(v:B6)(l:List Int)(seg:B1)(own:C5 v 1 eU (O6 .u64 l) seg)(hb:l.length<=1000000)(k:Nat)(hk:k<l.length):
  CallF PP 95 #[.slice v.a v.len v.cap,.i k,.i ((k:Int)+1)] seg fun r L'=> ∃s,r= .slice s.a s.len s.cap/\C5 s 1 eU (O6 .u64 (l.take k++l.drop (k+1))) L':=by
 refine(e95 v k ((k:Int)+1)).c ?_;have hC:=own.sl.len;rw[Hi,OS]at hC;have aY:=own.cap;refine Q2 (l':=k) (h':=k+1) (m':=v.len) rfl rfl rfl (by omega) (by omega) aY ?_;refine Ex (fun(he:(k:Int)=(k:Int)+1)=>absurd he (by omega)) (fun _=>?_);refine Q2 (l':=0) (h':=k) (m':=v.cap) rfl rfl rfl (by omega) (by omega) (NF _) ?_;refine Q2 (l':=k+1) (h':=v.len) (m':=v.cap) rfl rfl rfl (by omega) aY (NF _) ?_;have own2:=own.slc (l:=0) (h:=k) (by omega) (by omega);have src2:=Sl.slc (m:=v.cap) own.sl (by omega) (l:=k+1) (h':=v.len) (by omega) (NF _) aY;rw[Ah5]at own2 src2;refine Zk Yq JU [] [] own2 (by simp) (.sl src2) (Tw _ _) (by simp only[G7,NK];omega) fun s seg' hs _ iJ own'=>?_;rw[<-Tx]at own';have e1:(l.drop 0).take (k-0)=l.take k:=by simp
 have e2:(l.drop (k+1)).take (v.len-(k+1))=l.drop (k+1):=by rw[hC];exact PZ (by rw[OJ];omega)
 rw[e1,e2]at own';simp only[G7,NK]at hs iJ;have dO:=own'.cap;refine Q2 (l':=s.len) (h':=v.len) (m':=s.cap) rfl rfl rfl (by omega) (by omega) (NF _) ?_;refine Vb Yq rfl [] [] own' (by simp) (h:=v.len) (by omega) (by omega) rfl fun seg2 own2=>?_;exact .of ⟨s,rfl,by simpa using own2⟩
def FL(h:BitVec 64)(k:Nat):BitVec 64:=h^^^h>>>k
def Ad7(h:BitVec 64)(c:UInt8):BitVec 64:=FL ((h^^^BitVec.ofNat 64 c.toNat)*1099511628211#64) 29
def Qb(h:BitVec 64)(l:List UInt8):BitVec 64:=l.foldl Ad7 h
def DZ(seed:Int)(l:List UInt8):BitVec 64:=FL ((Qb (BitVec.ofInt 64 seed^^^11400714819323198485#64) l^^^BitVec.ofNat 64 l.length)*11400714819323198485#64) 32
def Bw1(c:BitVec 64)(l:List UInt8)(b:UInt8):Qb c (l++[b])=Ad7 (Qb c l) b:=by simp[Qb]
def Bv2(L:B1)(v:B6)(l:List UInt8)(h:G0 L v l)(hb:l.length<=1000000)(c:BitVec 64):Reads PP 144 #[.int .u64 c.toNat,.slice v.a v.len v.cap] L (.int .u64 (Qb c l).toNat):=by
 refine(e144 c.toNat v).r ?_;have hC:=h.len;refine G1 (fun k z L'=>L'=L/\ ∃i,i<=l.length/\k=l.length-i/\z=(((Qb c (l.take i)).toNat:Int),(i:Int),())) l.length ⟨rfl,0,by omega,by omega,rfl⟩ ?_;rintro k z L ⟨rfl,i,hi,rfl,rfl⟩;refine D3 (fun(hO:(i:Int)<v.len)=>?_) (fun(aM: ¬(i:Int)<v.len)=>?_)
 ·have eX:i<l.length:=by omega
  obtain⟨ad,ha⟩:=h.some eX;refine B7 ha (H7 (show(0:Int)<=i by omega) hO (B5 (l[i].toNat:Int) (h.rd eX ha _ (by simp)) ?_));refine Dv (by decide) ⟨l.length-(i+1),by omega,rfl,i+1,by omega,rfl,?_⟩;rw[D7 (by simp only;omega) (by simp only;omega),OB eX,Bw1];simp only[Vq,BitVec.ofInt_mul,Hr,HR,KM,Ac2];rfl
 ·refine .of ⟨?_,rfl⟩;obtain rfl:i=l.length:=by omega
  rw[OE]
def Bv3(s:ByteArray):s.data.toList.length=s.size:=by rw[SM];rfl
def Bw3(L:B1)(seed:Int)(s:ByteArray)(hb:s.size<=1000000):Reads PP 96 #[.i seed,.w s] L (.int .u64 (DZ seed s.data.toList).toNat):=by
 refine(e96 seed s).r ?_;refine LH fun n ob v hv own hs=>?_;have hl:=Bv3 s;simp only[HR,Vq,Hr];refine C4 (Bv2 _ v s.data.toList (C5.sl own).head (by omega) _) (_,()) rfl (Dv (by decide) ?_);refine .drop (A:=L) (J:=[_]) ⟨?_,rfl⟩ (OT (l₁:=[_]));simp only[BitVec.ofInt_mul,Hr,KM];unfold DZ FL;rw[hl];rfl
abbrev IQ:TypeId:=37
abbrev Ke:TypeId:=5
structure QE where
 id:Nat
 key:ByteArray
 val:List UInt8
 freq:Int
 v:B6
 seg:B1
variable{l p s:List QE}{e:QE}
def pt(o:Option Nat):Option Addr:=o.map fun n=>n.z
def M7(e:QE)(prev next:Option Nat):Obj:=.cells #[.w e.key,.slice e.v.a e.v.len e.v.cap,.i e.freq,.q (pt prev),.q (pt next)] 184
def G9:List QE->Option Nat->Option Nat
 |[],n=>n
 |e::_,_=>some e.id
def H1:Option Nat->List QE->Option Nat
 |p,[]=>p
 |_,e::r=>H1 (some e.id) r
def P5:Option Nat->List QE->Option Nat->B1
 |_,[],_=>[]
 |p,e::r,n=>(e.id,M7 e p (G9 r n))::P5 (some e.id) r n
def Qq(p s:List QE)(n:Option Nat):G9 (p++s) n=G9 p (G9 s n):=by cases p<;>rfl
theorem Qf: ∀(p s:List QE) (q:Option Nat),H1 q (p++s)=H1 (H1 q p) s
 |[],s,q=>rfl
 |e::r,s,q=>Qf r s (some e.id)
theorem Ti: ∀(p s:List QE) (q n:Option Nat),P5 q (p++s) n=P5 q p (G9 s n)++P5 (H1 q p) s n
 |[],s,q,n=>rfl
 |e::r,s,q,n=>by
  show(e.id,M7 e q (G9 (r++s) n))::P5 (some e.id) (r++s) n=_;rw[Qq,Ti r s];rfl
def T5(l:List QE):B1:=l.flatMap QE.seg
def J6(l:List QE):Nat:=(l.map fun e=>e.key.size+e.val.length).sum
def Cw(l:List QE):List (ByteArray×Value):=l.map fun e=>(e.key,.q (pt (some e.id)))
structure Hc(l:List QE):Prop where
 own: ∀e∈l,C5 e.v 1 Ke (F9 e.val) e.seg
 small: ∀e∈l,e.key.size<=100000/\e.val.length<=100000
 few:l.length<=100000
 nd:(l.map QE.key).Nodup
 fr: ∀e∈l,0<=e.freq/\e.freq<=3
def qO(room:Int)(l:List QE)(mk:Nat)(bytes:Int):Obj:=.cells #[.i room,.i bytes,.q (pt (G9 l none)),.q (pt (H1 none l)),.map (some mk)] 182
def QL(m:Nat)(room:Int)(l:List QE)(mk:Nat)(mes:Array MapEntry)(clock:Nat):B1:=
 (m,qO room l mk (J6 l))::(mk,Obj.map mes clock)::(P5 none l none++T5 l)
def QH(m:Nat)(room:Int)(l:List QE)(A:B1):Prop:= ∃mk mes clock,A=QL m room l mk mes clock/\Mp Value.w mes (Cw l)/\Hc l
def BQ(p s:List QE):J6 (p++s)=J6 p+J6 s:=by simp[J6]
def Bm2(h: ∀e∈l,e.key.size<=100000/\e.val.length<=100000):J6 l<=l.length*200000:=by
 induction l with
 |nil=>simp[J6]
 |cons e r ih=>
  have h1:=h e NG;have h2:=ih fun x hx=>h x (NN _ hx);simp only[J6,NS,XZ,NU]at h2⊢;omega
def Hc.sum(h:Hc l):J6 l<=20000000000:=by
 have h1:=Bm2 h.small;have h2:=h.few;have:l.length*200000<=100000*200000:=PD _ h2;omega
def Hc.sub(h:Hc (p++e::s)):Hc (p++s):=by
 have hs: ∀x,x∈p++s->x∈p++e::s:=fun x hx=>by
  rcases NJ.1 hx with h1|h1
  ·exact OA _ h1
  ·exact OG _ (NN _ h1)
 have aJ:(p++s).Sublist (p++e::s):=List.Sublist.append_left (List.sublist_cons_self e s) p;refine⟨fun x hx=>h.own x (hs x hx),fun x hx=>h.small x (hs x hx),?_,h.nd.sublist (aJ.map QE.key),fun x hx=>h.fr x (hs x hx)⟩;have:=h.few;rw[NR,NU]at this;rw[NR];omega
abbrev tyM:TypeId:=180
def EG:Fi PP tyM 9 177 Value.w (.q none):=Qe (by kernel_rfl) (Xo (by kernel_rfl)) (by kernel_rfl)
def W4(l:List QE)(k:ByteArray):Option QE:=l.find? fun e=>decide (k=e.key)
def Bw4(l:List QE)(k:ByteArray):(W9 (Cw l) k).getD (.q none)= .q (pt ((W4 l k).map QE.id)):=by
 induction l with
 |nil=>rfl
 |cons e r ih=>
  unfold W9 W4 Cw at*;rw[NS];by_cases h:k=e.key
  ·rw[TF (by simpa using h),TF (by simpa using h)];rfl
  ·rw[TV (by simpa using h),TV (by simpa using h)];exact ih
def Wm(m:Nat)(room:Int)(l:List QE)(A:B1)(h:QH m room l A)(k:ByteArray):
  Reads PP 102 #[.p m,.w k] A (.q (pt ((W4 l k).map QE.id))):=by
 obtain⟨mk,mes,clock,rfl,hm,ok⟩:=h;refine(e102 (some m.z) k).r ?_;refine D8 rfl (B7 rfl (B5 (some mk) (C2 (c:=#[.i room,.i (J6 l),.q (pt (G9 l none)),.q (pt (H1 none l)),.map (some mk)]) (T:=182) (fz:=(0,0)) NG rfl) ?_));refine⟨(pt ((W4 l k).map QE.id),()),?_,.of ⟨rfl,rfl⟩⟩;have:=Nq (P:=PP) (L:=QL m room l mk mes clock) EG (r:=mk) (es:=mes) (clock:=clock) (m:=Cw l) (by unfold QL;simp) hm k;rw[Bw4]at this;exact this
def KJ(L:B1)(e:QE)(p n:Option Nat)(hm:(e.id,M7 e p n)∈L)(hv:e.v.len=e.val.length)(hs:e.key.size<=100000/\e.val.length<=100000):
  Reads PP 98 #[.p e.id] L (.i ((e.key.size+e.val.length:Nat):Int)):=by
 refine(e98 (some e.id.z)).r ?_;unfold M7 at hm;refine B7 rfl (B7 rfl (B5 e.key (C2 hm rfl) (B5 e.v (C2 hm rfl) (.of ⟨?_,rfl⟩))));rw[hv,D7 (by first|omega|(simp only;omega)) (by first|omega|(simp only;omega))];congr 1
section
variable {L:B1} {e:QE} {p n:Option Nat}
def Bu2(h:(e.id,M7 e p n)∈L):C0 e.id.z [.w e.key] L:=C2 (by unfold M7 at h;exact h) rfl
def Ac4(h:(e.id,M7 e p n)∈L):C0 ⟨e.id,1,none⟩ [.slice e.v.a e.v.len e.v.cap] L:=C2 (by unfold M7 at h;exact h) rfl
def Bu3(h:(e.id,M7 e p n)∈L):C0 ⟨e.id,2,none⟩ [.i e.freq] L:=C2 (by unfold M7 at h;exact h) rfl
def Xd(h:(e.id,M7 e p n)∈L):C0 ⟨e.id,3,none⟩ [.q (pt p)] L:=C2 (by unfold M7 at h;exact h) rfl
def Xe(h:(e.id,M7 e p n)∈L):C0 ⟨e.id,4,none⟩ [.q (pt n)] L:=C2 (by unfold M7 at h;exact h) rfl
def Bu1(h:(e.id,M7 e p n)∈L):C0 e.id.z [.w e.key,.slice e.v.a e.v.len e.v.cap,.i e.freq] L:=C2 (by unfold M7 at h;exact h) rfl
end
def qG(room bytes:Int)(o y:Option Nat)(mk:Nat):Obj:=.cells #[.i room,.i bytes,.q (pt o),.q (pt y),.map (some mk)] 182
section
variable {L:B1} {m mk:Nat} {room bytes:Int} {o y:Option Nat}
def Bo1(h:(m,qG room bytes o y mk)∈L):C0 m.z [.i room] L:=C2 (by unfold qG at h;exact h) rfl
def Ss(h:(m,qG room bytes o y mk)∈L):C0 ⟨m,1,none⟩ [.i bytes] L:=C2 (by unfold qG at h;exact h) rfl
def Bo2(h:(m,qG room bytes o y mk)∈L):C0 ⟨m,2,none⟩ [.q (pt o)] L:=C2 (by unfold qG at h;exact h) rfl
def Sr(h:(m,qG room bytes o y mk)∈L):C0 ⟨m,3,none⟩ [.q (pt y)] L:=C2 (by unfold qG at h;exact h) rfl
def Bo3(h:(m,qG room bytes o y mk)∈L):C0 ⟨m,4,none⟩ [.map (some mk)] L:=C2 (by unfold qG at h;exact h) rfl
end
def Bw7(h:((p++e::s).map QE.key).Nodup):Cy (Cw (p++e::s)) e.key=Cw (p++s):=by
 induction p with
 |nil=>
  show(if e.key=e.key then _ else _)=_;rw[NE rfl];rfl
 |cons a r ih=>
  rw[OM,NS,OW]at h;have hZ:e.key≠a.key:=fun he=>h.1 (by rw[<-he];simp);show(if e.key=a.key then _ else _)=_;rw[ND hZ];have:=ih h.2;show(a.key,Value.q (pt (some a.id)))::Cy (Cw (r++e::s)) e.key=_;rw[this];rfl
def KE(p:List QE):p=[]\/ ∃p0 a,p=p0++[a]:=by
 rcases List.eq_nil_or_concat p with h|⟨p0,a,h⟩
 ·exact .inl h
 ·exact .inr ⟨p0,a,by simpa using h⟩
def Th(p0:List QE)(a:QE)(q n:Option Nat):P5 q (p0++[a]) n=P5 q p0 (some a.id)++[(a.id,M7 a (H1 q p0) n)]:=by
 rw[Ti];rfl
def Tv(p0:List QE)(a:QE)(q:Option Nat):H1 q (p0++[a])=some a.id:=by rw[Qf];rfl
def IH(m:Nat)(room:Int)(p s:List QE)(e:QE)(mk:Nat)(mes:Array MapEntry)(clock:Nat)(hm:Mp Value.w mes (Cw (p++e::s)))(ok:Hc (p++e::s)):
  CallF PP 142 #[.p m,.p e.id] (QL m room (p++e::s) mk mes clock)
   fun v L'=>v= .t #[]/\ ∃mes' clock',L'=QL m room (p++s) mk mes' clock'++((e.id,M7 e (H1 none p) (G9 s none))::e.seg)/\Mp Value.w mes' (Cw (p++s)):=by
 refine(e142 (some m.z) (some e.id.z)).c ?_;have kC:=ok.sum;have aX:e∈p++e::s:=by simp
 have wT:=(ok.own e aX).sl.len;rw[Y1,OS]at wT;have iZ:=ok.small e aX;have gZ:J6 (p++e::s)=J6 (p++s)+(e.key.size+e.val.length):=by
  rw[BQ,BQ];simp only[J6,NS,XZ];omega
 refine V9 (fun y L1=>L1=(m,qG room (J6 (p++e::s)) (G9 (p++s) none) (H1 none (p++e::s)) mk)::(mk,Obj.map mes clock)::((P5 none p (G9 s none)++(e.id,M7 e (H1 none p) (G9 s none))::P5 (some e.id) s none)++T5 (p++e::s))) ?_ ?_
 ·rintro y L1 rfl;refine V9 (fun y L2=>L2=(m,qG room (J6 (p++e::s)) (G9 (p++s) none) (H1 none (p++s)) mk)::(mk,Obj.map mes clock)::((P5 none p (G9 s none)++(e.id,M7 e (H1 none p) (G9 s none))::P5 (H1 none p) s none)++T5 (p++e::s))) ?_ ?_
  ·rintro y L2 rfl;refine B7 rfl (B5 ((J6 (p++e::s):Nat):Int) (Ss NG) ?_);refine C4 (KJ _ e (H1 none p) (G9 s none) (by simp) wT iZ) (((e.key.size+e.val.length:Nat):Int),()) rfl (P2 (Ss NG) ?_);have hw:IntKind.i64.wrap (((J6 (p++e::s):Nat):Int)-((e.key.size+e.val.length:Nat):Int))=((J6 (p++s):Nat):Int):=by rw[D7 (by omega) (by omega)];omega
   simp only[hw];refine B7 rfl (F6 [] _ rfl rfl (by simp) (.inl (NF _)) #[.i room,.i ((J6 (p++s):Nat):Int),.q (pt (G9 (p++s) none)),.q (pt (H1 none (p++s))),.map (some mk)] rfl ?_);refine B7 rfl (B7 rfl (B5 (some mk) (C2 (n:=m) (c:=#[.i room,.i ((J6 (p++s):Nat):Int),.q (pt (G9 (p++s) none)),.q (pt (H1 none (p++s))),.map (some mk)]) (T:=182) (fz:=(0,0)) NG rfl) (B5 e.key (Bu2 (p:=H1 none p) (n:=G9 s none) (by simp)) ?_)));refine Aq9 EG [(m,_)] _ rfl hm e.key fun mes' clock' lF=>?_;rw[Bw7 ok.nd]at lF;refine .drop (A:=QL m room (p++s) mk mes' clock'++((e.id,M7 e (H1 none p) (G9 s none))::e.seg)) (J:=[]) ⟨rfl,mes',clock',rfl,lF⟩ ?_;rw[NP];unfold QL;refine TS _ (TS _ ?_);rw[Ti];unfold T5
   classical
   rw[ON];intro x;simp only[PM,OD,OL,OP,OV];omega
  ·intro j2 pO;refine B7 rfl (B5 (pt (G9 s none)) (Xe (p:=H1 none p) (by simp)) ?_);cases s with
   |nil=>
    refine D8 rfl (B7 rfl (B5 (pt (H1 none p)) (Xd (n:=G9 [] none) (by simp)) (B7 rfl (F6 [] _ rfl rfl (by simp) (.inl (NF _)) #[.i room,.i (J6 (p++[e])),.q (pt (G9 (p++[]) none)),.q (pt (H1 none p)),.map (some mk)] rfl (pO _ _ ?_)))));rw[NP];rfl
   |cons b s0=>
    refine E9 rfl (B7 rfl (B7 rfl (B5 (pt (some b.id)) (Xe (p:=H1 none p) (by simp[G9])) (B5 (pt (H1 none p)) (Xd (n:=G9 (b::s0) none) (by simp)) (B7 rfl ?_)))));refine F6 (n:=b.id) (off:=3) (c:=#[.w b.key,.slice b.v.a b.v.len b.v.cap,.i b.freq,.q (pt (some e.id)),.q (pt (G9 s0 none))]) (T:=184) (fz:=(0,0))
     ((m,qG room (J6 (p++e::b::s0)) (G9 (p++b::s0) none) (H1 none (p++e::b::s0)) mk)::(mk,Obj.map mes clock)::(P5 none p (G9 (b::s0) none)++[(e.id,M7 e (H1 none p) (G9 (b::s0) none))]))
     (P5 (some b.id) s0 none++T5 (p++e::b::s0)) rfl (by simp[P5,M7]) (by simp) (.inl (NF _)) #[.w b.key,.slice b.v.a b.v.len b.v.cap,.i b.freq,.q (pt (H1 none p)),.q (pt (G9 s0 none))] rfl (pO _ _ ?_)
    have hl:H1 none (p++e::b::s0)=H1 none (p++b::s0):=by rw[Qf,Qf];rfl
    rw[hl];simp[P5,M7]
 ·intro j1 eP;have hQL:QL m room (p++e::s) mk mes clock=(m,qG room (J6 (p++e::s)) (G9 (p++e::s) none) (H1 none (p++e::s)) mk)::(mk,Obj.map mes clock)::((P5 none p (some e.id)++(e.id,M7 e (H1 none p) (G9 s none))::P5 (some e.id) s none)++T5 (p++e::s)):=by
   unfold QL;rw[Ti];rfl
  rw[hQL];refine B7 rfl (B5 (pt (H1 none p)) (Xd (n:=G9 s none) (by simp)) ?_);rcases KE p with rfl|⟨p0,a,rfl⟩
  ·refine D8 rfl (B7 rfl (B5 (pt (G9 s none)) (Xe (p:=none) (by simp[H1])) (B7 rfl (F6 [] _ rfl rfl (by simp) (.inl (NF _)) #[.i room,.i (J6 ([]++e::s)),.q (pt (G9 s none)),.q (pt (H1 none ([]++e::s))),.map (some mk)] rfl (eP _ _ ?_)))));rfl
  ·rw[Tv];refine E9 rfl (B7 rfl (B7 rfl (B5 (pt (some a.id)) (Xd (n:=G9 s none) (by simp)) (B5 (pt (G9 s none)) (Xe (p:=some a.id) (by simp)) (B7 rfl ?_)))));refine F6 (n:=a.id) (off:=4) (c:=#[.w a.key,.slice a.v.a a.v.len a.v.cap,.i a.freq,.q (pt (H1 none p0)),.q (pt (some e.id))]) (T:=184) (fz:=(0,0))
    ((m,qG room (J6 (p0++[a]++e::s)) (G9 (p0++[a]++e::s) none) (H1 none (p0++[a]++e::s)) mk)::(mk,Obj.map mes clock)::P5 none p0 (some a.id))
    ((e.id,M7 e (some a.id) (G9 s none))::P5 (some e.id) s none++T5 (p0++[a]++e::s)) rfl (by simp[Th,M7]) (by simp) (.inl (NF _)) #[.w a.key,.slice a.v.a a.v.len a.v.cap,.i a.freq,.q (pt (H1 none p0)),.q (pt (G9 s none))] rfl (eP _ _ ?_)
   have hh:G9 (p0++[a]++e::s) none=G9 (p0++[a]++s) none:=by
    rw[Qq,Qq];cases p0<;>rfl
   rw[hh,Th,Tv];simp[M7]
def Ia(l:List QE)(k:ByteArray):List QE:=l.eraseP fun e=>decide (k=e.key)
def Wn(h:W4 l k=some e): ∃p s,l=p++e::s/\e.key=k/\Ia l k=p++s:=by
 unfold W4 at h;rw[YS]at h;obtain⟨hk,p,s,rfl,hp⟩:=h;refine⟨p,s,rfl,(PF hk).symm,?_⟩;unfold Ia;rw[YT _ (fun b hb=>by simpa using hp b hb),YU (p:=fun e:QE=>decide (k=e.key)) hk]
def Wo(h:W4 l k=none):Ia l k=l/\k∉l.map QE.key:=by
 unfold W4 at h;rw[RR]at h;refine⟨XW h,fun hm=>?_⟩;obtain⟨e,he,rfl⟩:=NY.1 hm;exact h e he (by simp)
def Bn0(ok:Hc l):k∉(Ia l k).map QE.key:=by
 cases hf:W4 l k with
 |none=>rw[(Wo hf).1];exact(Wo hf).2
 |some e=>
  obtain⟨p,s,rfl,rfl,hd⟩:=Wn hf;rw[hd];have h:=ok.nd;rw[NQ,NS]at h;have h2:(e.key::(p.map QE.key++s.map QE.key)).Nodup:=(PC.nodup_iff).1 h;rw[NQ];exact(OW.1 h2).1
def Bn1(l:List QE)(k:ByteArray):(Ia l k).length<=l.length:=UW ..
def Bm7(room:Int):CallF PP 68 #[.i room] [] fun r L'=> ∃m,r= .p m/\QH m (L9 room 0) [] L':=by
 refine(e68 room).c ?_;refine C9 fun mk _=>C9 fun m _=>.of ⟨m,rfl,mk,#[],0,rfl,rfl,?_⟩;exact⟨fun e h=>by simp at h,fun e h=>by simp at h,by simp,by simp,fun e h=>by simp at h⟩
def MN(m:Nat)(room:Int)(l:List QE)(A:B1)(h:QH m room l A)(k:ByteArray):
  CallF PP 88 #[.p m,.w k] A fun r L'=>r= .b (W4 l k).isSome/\QH m room (Ia l k) L':=by
 refine(e88 (some m.z) k).c ?_;refine C4 (Wm m room l A h k) (pt ((W4 l k).map QE.id),()) rfl ?_;cases hf:W4 l k with
 |none=>
  refine E9 rfl (.of ⟨rfl,?_⟩);rw[(Wo hf).1];exact h
 |some e=>
  obtain⟨mk,mes,clock,rfl,hm,ok⟩:=h;obtain⟨p,s,rfl,rfl,hd⟩:=Wn hf;refine D8 rfl (K3 [] [] (IH m room p s e mk mes clock hm ok) (by simp) ?_);rintro _ _-⟨rfl,mes',clock',rfl,lF⟩;rw[hd];exact⟨(),rfl,.drop (A:=QL m room (p++s) mk mes' clock') (J:=(e.id,M7 e (H1 none p) (G9 s none))::e.seg) ⟨rfl,mk,mes',clock',rfl,lF,ok.sub⟩ (by simp)⟩
def GG:V4 PP IQ Ke 1 1 [.int .u8 0]:=De (by kernel_rfl) (by kernel_rfl) rfl (by decide) (by decide)
def AM:W6 PP IQ:=.inl ⟨Ke,by kernel_rfl⟩
def DC{n:Nat}{e:TypeId}:C5 ⟨some n.z,0,0⟩ 1 e [] [(n,Obj.cells #[] e)]:=⟨rfl,NF _,.inr ⟨n,0,#[],(0,0),rfl,rfl,by simp,.inl (NF _),fun i u hu=>by simp at hu⟩⟩
theorem Ac8: ∀(l:List QE) (k:ByteArray) (v:Value),k∉l.map QE.key->S7 (Cw l) k v=Cw l++[(k,v)]
 |[],k,v,_=>rfl
 |e::r,k,v,h=>by
  rw[NS,OC,PS]at h;show(if k=e.key then _ else _)=_;rw[ND h.1];show(e.key,Value.q (pt (some e.id)))::S7 (Cw r) k v=_;rw[Ac8 r k v h.2];rfl
def Bm3(m:Nat)(room:Int)(l:List QE)(A A0:B1)(h:QH m room l A)(bN:l.length<100000)(k:ByteArray)(hk:k.size<=100000)(v:B6)(b:List UInt8)(hv:G0 A0 v b)(hb:b.length<=100000):
  CallF PP 49 #[.p m,.w k,.slice v.a v.len v.cap] (A++A0)
   fun r L'=>r= .t #[]/\ ∃A' e,L'=A'++A0/\QH m room (Ia l k++[e]) A'/\e.key=k/\e.val=b/\e.freq=0:=by
 refine(e49 (some m.z) k v).c ?_;have kJ:k∉(Ia l k).map QE.key:=by obtain⟨_,_,_,_,_,ok⟩:=h;exact Bn0 ok
 have nA:=Bn1 l k;refine D8 rfl (K3 [] A0 (MN m room l A h k) (by simp) ?_);rintro _ _-⟨rfl,mk,mes,clock,rfl,hm,ok⟩;refine⟨((W4 l k).isSome,()),rfl,?_⟩;generalize Ia l k=l1 at kJ nA hm ok⊢;have hC:=hv.len;have kC:=ok.sum;have hQ:QL m room l1 mk mes clock=(m,qG room (J6 l1) (G9 l1 none) (H1 none l1) mk)::(mk,Obj.map mes clock)::(P5 none l1 none++T5 l1):=rfl;rw[hQ];refine B7 rfl (B5 (pt (H1 none l1)) (Sr (by simp;exact .inl rfl)) (C9 fun n1 _=>?_));refine Q1 GG AM [] ([]++((m,qG room (J6 l1) (G9 l1 none) (H1 none l1) mk)::(mk,Obj.map mes clock)::(P5 none l1 none++T5 l1))++A0) DC (by simp) (.sl ((hv.right (R:=[]++((m,qG room (J6 l1) (G9 l1 none) (H1 none l1) mk)::(mk,Obj.map mes clock)::(P5 none l1 none++T5 l1)))).cons)) (Ac _)
  (by first|omega|(simp only;omega)) fun v2 seg kX own=>?_
 rw[NT]at own;refine P2 (Sr (room:=room) (bytes:=J6 l1) (o:=G9 l1 none) (mk:=mk) (by simp)) (C9 fun n2 _=>?_);obtain⟨e,rfl,rfl,rfl,rL,rfl,rfl⟩: ∃e:QE,e.id=n2/\e.key=k/\e.val=b/\e.freq=0/\e.v=v2/\e.seg=seg:=⟨⟨n2,k,b,0,v2,seg⟩,rfl,rfl,rfl,rfl,rfl,rfl⟩;have wT:e.v.len=e.val.length:=by have:=own.sl.len;rw[Y1]at this;omega
 have uQ:(e.id,Obj.cells #[.w e.key,.slice e.v.a e.v.len e.v.cap,.i 0,.q (pt (H1 none l1)),.q none] 184)=(e.id,M7 e (H1 none l1) none):=by unfold M7;rw[rL];rfl
 have aC:Hc (l1++[e]):=by
  refine⟨fun x hx=>?_,fun x hx=>?_,?_,?_,fun x hx=>?_⟩
  ·rcases NJ.1 hx with h1|h1
   ·exact ok.own x h1
   ·rw[NM.1 h1];exact own
  ·rcases NJ.1 hx with h1|h1
   ·exact ok.small x h1
   ·rw[NM.1 h1];exact⟨hk,hb⟩
  ·rw[NR];simp only[NU,OX];omega
  ·rw[NQ,QA];refine⟨ok.nd,by simp,fun x hx y hy=>?_⟩;simp only[NS,UV,NM]at hy;rintro rfl;rw[hy]at hx;exact kJ hx
  ·rcases NJ.1 hx with h1|h1
   ·exact ok.fr x h1
   ·rw[NM.1 h1,rL];omega
 have br:=aC.sum;have gZ:J6 (l1++[e])=J6 l1+(e.key.size+e.val.length):=by rw[BQ];simp[J6]
 refine V9 (fun y L'=>L'=(e.id,M7 e (H1 none l1) none)::(e.seg++((m,qG room (J6 l1) (G9 (l1++[e]) none) (H1 none l1) mk)::(mk,Obj.map mes clock)::(P5 none l1 (some e.id)++T5 l1)++A0))) ?_ ?_
 ·rintro y L' rfl;refine B7 rfl (F6 ((e.id,M7 e (H1 none l1) none)::e.seg) ((mk,Obj.map mes clock)::(P5 none l1 (some e.id)++T5 l1)++A0) rfl rfl (by simp) (.inl (NF _)) #[.i room,.i (J6 l1),.q (pt (G9 (l1++[e]) none)),.p e.id,.map (some mk)] rfl ?_);have jP: ∀{bb:Int},(m,qG room bb (G9 (l1++[e]) none) (some e.id) mk)∈((e.id,M7 e (H1 none l1) none)::e.seg)++(m,qG room bb (G9 (l1++[e]) none) (some e.id) mk)::((mk,Obj.map mes clock)::(P5 none l1 (some e.id)++T5 l1)++A0):=by simp
  refine B7 rfl (B5 ((J6 l1:Nat):Int) (Ss jP) ?_);have aE:=KJ (((e.id,M7 e (H1 none l1) none)::e.seg)++(m,qG room (J6 l1) (G9 (l1++[e]) none) (some e.id) mk)::((mk,Obj.map mes clock)::(P5 none l1 (some e.id)++T5 l1)++A0)) e (H1 none l1) none NG wT ⟨hk,hb⟩;refine C4 aE (((e.key.size+e.val.length:Nat):Int),()) rfl (P2 (Ss jP) ?_);have hw:IntKind.i64.wrap (((J6 l1:Nat):Int)+((e.key.size+e.val.length:Nat):Int))=((J6 (l1++[e]):Nat):Int):=by
   rw[D7 (by omega) (by omega)];omega
  simp only[hw];refine B7 rfl (F6 ((e.id,M7 e (H1 none l1) none)::e.seg) ((mk,Obj.map mes clock)::(P5 none l1 (some e.id)++T5 l1)++A0) rfl rfl (by simp) (.inl (NF _)) #[.i room,.i ((J6 (l1++[e]):Nat):Int),.q (pt (G9 (l1++[e]) none)),.p e.id,.map (some mk)] rfl ?_);refine B7 rfl (B5 (some mk) (Bo3 (room:=room) (bytes:=((J6 (l1++[e]):Nat):Int)) (o:=G9 (l1++[e]) none) (y:=some e.id) jP) ?_);refine IG EG (((e.id,M7 e (H1 none l1) none)::e.seg)++[(m,qG room ((J6 (l1++[e]):Nat):Int) (G9 (l1++[e]) none) (some e.id) mk)]) ((P5 none l1 (some e.id)++T5 l1)++A0) (es:=mes) (clock:=clock) (by simp[qG,pt]) hm e.key _ fun mes' clock' lF=>?_;rw[Ac8 l1 e.key _ kJ]at lF;have kK:Cw l1++[(e.key,Value.p e.id)]=Cw (l1++[e]):=by simp[Cw,pt]
  rw[kK]at lF;refine .drop (A:=QL m room (l1++[e]) mk mes' clock'++A0) (J:=[]) ⟨rfl,_,e,rfl,⟨mk,mes',clock',rfl,lF,aC⟩,rfl,rfl,rL⟩ ?_;have dV:H1 none (l1++[e])=some e.id:=by rw[Tv]
  have aN:T5 (l1++[e])=T5 l1++e.seg:=by unfold T5;simp
  unfold QL;rw[Th,aN];have hq:qO room (l1++[e]) mk (J6 (l1++[e]))=qG room ((J6 (l1++[e]):Nat):Int) (G9 (l1++[e]) none) (some e.id) mk:=by unfold qO;rw[dV];rfl
  rw[hq]
  classical
  rw[ON];intro x;simp only[PM,OM,NT,NP,OP,OV,PJ];omega
 ·intro j hj;rw[uQ];rcases KE l1 with rfl|⟨p0,a,rfl⟩
  ·refine B7 rfl (B5 (pt (H1 none [])) (Sr (room:=room) (bytes:=J6 []) (o:=G9 [] none) (mk:=mk) (by simp)) (D8 rfl (B7 rfl ?_)));refine F6 (n:=m) (off:=2) (c:=#[.i room,.i (J6 []),.q (pt (G9 [] none)),.q (pt (H1 none [])),.map (some mk)]) (T:=182) (fz:=(0,0)) ((e.id,M7 e (H1 none []) none)::e.seg) ((mk,Obj.map mes clock)::(P5 none [] none++T5 [])++A0) rfl (by simp[qG]) (by simp) (.inl (NF _)) #[.i room,.i (J6 []),.p e.id,.q (pt (H1 none [])),.map (some mk)] rfl (hj _ _ ?_);rfl
  ·refine B7 rfl (B5 (pt (H1 none (p0++[a]))) (Sr (room:=room) (bytes:=J6 (p0++[a])) (o:=G9 (p0++[a]) none) (mk:=mk) (by simp)) ?_);rw[Tv];refine E9 rfl (B7 rfl (B5 (pt (some a.id)) (Sr (room:=room) (bytes:=J6 (p0++[a])) (o:=G9 (p0++[a]) none) (mk:=mk) (by simp)) (B7 rfl ?_)));refine F6 (n:=a.id) (off:=4) (c:=#[.w a.key,.slice a.v.a a.v.len a.v.cap,.i a.freq,.q (pt (H1 none p0)),.q (pt none)]) (T:=184) (fz:=(0,0))
    ((e.id,M7 e (some a.id) none)::(e.seg++((m,qG room (J6 (p0++[a])) (G9 (p0++[a]) none) (some a.id) mk)::(mk,Obj.map mes clock)::P5 none p0 (some a.id))))
    (T5 (p0++[a])++A0) rfl (by simp[Th,M7]) (by simp) (.inl (NF _)) #[.w a.key,.slice a.v.a a.v.len a.v.cap,.i a.freq,.q (pt (H1 none p0)),.p e.id] rfl (hj _ _ ?_)
   have hh:G9 (p0++[a]++[e]) none=G9 (p0++[a]) none:=by rw[Qq];cases p0<;>rfl
   rw[hh,Th,Tv];simp[M7,pt]
def Y2(e:QE):QE:={e with freq:=N8 (e.freq+1) 3}
def Ng(l:List QE)(k:ByteArray):List QE:=l.map fun e=>if e.key=k then Y2 e else e
def Bo0(h:((p++e::s).map QE.key).Nodup):Ng (p++e::s) e.key=p++Y2 e::s:=by
 rw[NQ,NS]at h;have h2:(e.key::(p.map QE.key++s.map QE.key)).Nodup:=(PC.nodup_iff).1 h;have h3:=(OW.1 h2).1;rw[NJ,PS]at h3;have id_of: ∀l:List QE,e.key∉l.map QE.key->l.map (fun x=>if x.key=e.key then Y2 x else x)=l:=by
  intro l hl;induction l with
  |nil=>rfl
  |cons a r ih=>
   rw[NS,OC,PS]at hl;rw[NS,ND (fun he=>hl.1 he.symm),ih hl.2]
 unfold Ng;rw[NQ,NS,id_of p h3.1,id_of s h3.2,NE rfl]
def Cp5(ok:Hc (p++e::s)):Hc (p++Y2 e::s):=by
 have hk:(p++Y2 e::s).map QE.key=(p++e::s).map QE.key:=by simp[Y2]
 have hx: ∀x,x∈p++Y2 e::s->x=Y2 e\/x∈p++e::s:=by
  intro x hx;rw[NJ,OC]at hx;rcases hx with h|h|h
  ·exact .inr (by simp[h])
  ·exact .inl h
  ·exact .inr (by simp[h])
 have he:e∈p++e::s:=by simp
 refine⟨fun x h=>?_,fun x h=>?_,?_,by rw[hk];exact ok.nd,fun x h=>?_⟩
 ·rcases hx x h with rfl|h
  ·exact ok.own e he
  ·exact ok.own x h
 ·rcases hx x h with rfl|h
  ·exact ok.small e he
  ·exact ok.small x h
 ·have:=ok.few;rw[NR,NU]at this⊢;exact this
 ·rcases hx x h with rfl|h
  ·have:=ok.fr e he;show 0<=N8 (e.freq+1) 3/\N8 (e.freq+1) 3<=3;unfold N8;split<;>omega
  ·exact ok.fr x h
def HI(m:Nat)(room:Int)(p s:List QE)(e:QE)(mk:Nat)(mes:Array MapEntry)(clock:Nat):QL m room (p++e::s) mk mes clock=
  (m,qG room (J6 (p++e::s)) (G9 (p++e::s) none) (H1 none (p++e::s)) mk)::(mk,Obj.map mes clock)::((P5 none p (some e.id)++(e.id,M7 e (H1 none p) (G9 s none))::P5 (some e.id) s none)++T5 (p++e::s)):=by
 unfold QL;rw[Ti];rfl
def DR{room:Int}{clock:Nat}:(e.id,M7 e (H1 none p) (G9 s none))∈QL m room (p++e::s) mk mes clock:=by
 rw[HI];simp
def KX{room:Int}{clock:Nat}: ∀x∈T5 l,x∈QL m room l mk mes clock:=by
 intro x hx;unfold QL;simp[hx]
def Ab8(ok:Hc l)(he:e∈l)(hL: ∀x∈T5 l,x∈L):G0 L e.v e.val:=
 (ok.own e he).sl.mono fun x hx=>hL x (OY.2 ⟨e,he,hx⟩)
def Bm5(m:Nat)(room:Int)(l:List QE)(A:B1)(h:QH m room l A)(k:ByteArray):
  CallF PP 75 #[.p m,.w k] A fun r L'=> ∃(u:B6) (seg:B1),r= .t #[.slice u.a u.len u.cap,.b (W4 l k).isSome]/\L'=seg++A/\C5 u 1 Ke (F9 (((W4 l k).map QE.val).getD [])) seg:=by
 refine(e75 (some m.z) k).c ?_;refine C4 (Wm m room l A h k) (pt ((W4 l k).map QE.id),()) rfl ?_;cases hf:W4 l k with
 |none=>exact E9 rfl (.of ⟨⟨none,0,0⟩,[],rfl,rfl,⟨rfl,NF _,.inl ⟨rfl,rfl,rfl⟩⟩⟩)
 |some e=>
  obtain⟨mk,mes,clock,rfl,hm,ok⟩:=h;obtain⟨p,s,rfl,rfl,hd⟩:=Wn hf;have he:e∈p++e::s:=by simp
  have iZ:=ok.small e he;refine D8 rfl (C9 fun n1 _=>B7 rfl (B5 e.v (Ac4 (NN _ DR)) ?_));have aU:=Ab8 (L:=(n1,Obj.cells #[] Ke)::QL m room (p++e::s) mk mes clock) ok he (fun x hx=>NN _ (KX x hx));have bY:=aU.len;refine Q1 GG AM [] (QL m room (p++e::s) mk mes clock) DC rfl (.sl aU) (Ac _) (by first|omega|(simp only;omega)) fun u seg hu own=>?_;exact .of ⟨u,seg,rfl,rfl,by simpa using own⟩
def Bm9(m:Nat)(room:Int)(l:List QE)(A:B1)(h:QH m room l A)(k:ByteArray):
  CallF PP 53 #[.p m,.w k] A fun r L'=> ∃(u:B6) (seg A':B1),r= .t #[.slice u.a u.len u.cap,.b (W4 l k).isSome]/\L'=seg++A'/\C5 u 1 Ke (F9 (((W4 l k).map QE.val).getD [])) seg/\QH m room (Ng l k) A':=by
 refine(e53 (some m.z) k).c ?_;refine C4 (Wm m room l A h k) (pt ((W4 l k).map QE.id),()) rfl ?_;cases hf:W4 l k with
 |none=>
  have hb:Ng l k=l:=by
   have hn:=(Wo hf).2;unfold Ng;clear hf h;induction l with
   |nil=>rfl
   |cons a r ih=>
    rw[NS,OC,PS]at hn;rw[NS,ND (fun he=>hn.1 he.symm),ih hn.2]
  exact E9 rfl (.of ⟨⟨none,0,0⟩,[],A,rfl,rfl,⟨rfl,NF _,.inl ⟨rfl,rfl,rfl⟩⟩,by rw[hb];exact h⟩)
 |some e=>
  obtain⟨mk,mes,clock,rfl,hm,ok⟩:=h;obtain⟨p,s,rfl,rfl,hd⟩:=Wn hf;have he:e∈p++e::s:=by simp
  have iZ:=ok.small e he;have cD:=ok.fr e he;have hw:IntKind.i64.wrap (e.freq+1)=e.freq+1:=D7 (by omega) (by omega);refine D8 rfl (B7 rfl (B5 e.freq (Bu3 DR) (B7 rfl ?_)));rw[hw];have ok':=Cp5 ok;have lM:Y2 e∈p++Y2 e::s:=by simp
  refine F6 (n:=e.id) (off:=2) (c:=#[.w e.key,.slice e.v.a e.v.len e.v.cap,.i e.freq,.q (pt (H1 none p)),.q (pt (G9 s none))]) (T:=184) (fz:=(0,0))
   ((m,qG room (J6 (p++e::s)) (G9 (p++e::s) none) (H1 none (p++e::s)) mk)::(mk,Obj.map mes clock)::P5 none p (some e.id)) (P5 (some e.id) s none++T5 (p++e::s)) rfl (by rw[HI];simp[M7]) (by simp) (.inl (NF _))
   #[.w e.key,.slice e.v.a e.v.len e.v.cap,.i (N8 (e.freq+1) 3),.q (pt (H1 none p)),.q (pt (G9 s none))] rfl ?_
  have e1:J6 (p++e::s)=J6 (p++Y2 e::s):=by simp[J6,Y2]
  have e2:G9 (p++e::s) none=G9 (p++Y2 e::s) none:=by rw[Qq,Qq];rfl
  have e3:H1 none (p++e::s)=H1 none (p++Y2 e::s):=by rw[Qf,Qf];rfl
  have e4:T5 (p++e::s)=T5 (p++Y2 e::s):=by simp[T5,Y2]
  have e5:Cw (p++e::s)=Cw (p++Y2 e::s):=by simp[Cw,Y2]
  have hL:((m,qG room (J6 (p++e::s)) (G9 (p++e::s) none) (H1 none (p++e::s)) mk)::(mk,Obj.map mes clock)::P5 none p (some e.id))++(e.id,Obj.cells #[.w e.key,.slice e.v.a e.v.len e.v.cap,.i (N8 (e.freq+1) 3),.q (pt (H1 none p)),.q (pt (G9 s none))] 184)::(P5 (some e.id) s none++T5 (p++e::s))=
    QL m room (p++Y2 e::s) mk mes clock:=by
   rw[HI,<-e1,<-e2,<-e3,<-e4];simp[Y2,M7]
  rw[hL];refine C9 fun n1 _=>B7 rfl (B5 e.v (Ac4 (e:=Y2 e) (NN _ DR)) ?_);have aU:=Ab8 (L:=(n1,Obj.cells #[] Ke)::QL m room (p++Y2 e::s) mk mes clock) ok' lM (fun x hx=>NN _ (KX x hx));have bY:e.v.len=e.val.length:=aU.len;refine Q1 GG AM [] (QL m room (p++Y2 e::s) mk mes clock) DC rfl (.sl aU) (Ac _) (by first|omega|(simp only;omega)|(show(0+e.v.len)*1<=_;omega)) fun u seg hu own=>?_;rw[Bo0 ok.nd];refine .of ⟨u,seg,_,rfl,rfl,own,mk,mes,clock,rfl,by rw[<-e5];exact hm,ok'⟩
def Bm8(m:Nat)(room:Int)(l:List QE)(A:B1)(h:QH m room l A)(k:ByteArray):Reads PP 76 #[.p m,.w k] A (.b (W4 l k).isSome):=by
 refine(e76 (some m.z) k).r ?_;refine C4 (Wm m room l A h k) (pt ((W4 l k).map QE.id),()) rfl (.of ⟨?_,rfl⟩);cases W4 l k<;>rfl
def Bm6(m:Nat)(room:Int)(l:List QE)(A:B1)(h:QH m room l A):Reads PP 99 #[.p m] A (.b (decide ((J6 l:Int)>room))):=by
 obtain⟨mk,mes,clock,rfl,hm,ok⟩:=h;refine(e99 (some m.z)).r ?_;exact E9 rfl (B7 rfl (B7 rfl (B5 ((J6 l:Nat):Int) (Ss (room:=room) (o:=G9 l none) (y:=H1 none l) (mk:=mk) NG) (B5 room (Bo1 (bytes:=J6 l) (o:=G9 l none) (y:=H1 none l) (mk:=mk) NG) (.of ⟨rfl,rfl⟩)))))
def Bm4(m:Nat)(room:Int)(e:QE)(s:List QE)(A:B1)(h:QH m room (e::s) A):
  CallF PP 100 #[.p m] A fun r L'=>r= .t #[.agg #[.w e.key,.slice e.v.a e.v.len e.v.cap,.i e.freq],.b true]/\ ∃A',L'=A'++e.seg/\QH m room s A':=by
 obtain⟨mk,mes,clock,rfl,hm,ok⟩:=h;refine(e100 (some m.z)).c ?_;have eW: ∀{n1:Nat} {o:Obj},C0 ⟨m,2,none⟩ [.q (pt (some e.id))] ((n1,o)::QL m room (e::s) mk mes clock):=Bo2 (room:=room) (bytes:=J6 (e::s)) (o:=some e.id) (y:=H1 none (e::s)) (mk:=mk) (NN _ NG);refine C9 fun n1 _=>D8 rfl (B7 rfl (B5 (pt (some e.id)) eW (D8 rfl (B7 rfl (B5 (pt (some e.id)) eW ?_)))));refine K3 [(n1,Obj.cells #[.w ByteArray.empty,.slice none 0 0,.i 0] 179)] [] (IH m room [] s e mk mes clock hm ok) (by simp) ?_;rintro _ _-⟨rfl,mes',clock',rfl,lF⟩;refine⟨(),rfl,B7 rfl (B5 (e.key,e.v,e.freq,()) (Bu1 (p:=H1 none []) (n:=G9 s none) (by simp)) ?_)⟩;refine F6 (n:=n1) (off:=0) (c:=#[.w ByteArray.empty,.slice none 0 0,.i 0]) (T:=179) (fz:=(0,0)) [] ((QL m room ([]++s) mk mes' clock'++((e.id,M7 e (H1 none []) (G9 s none))::e.seg))++[]) rfl rfl (by simp) (.inl (NF _)) #[.w e.key,.slice e.v.a e.v.len e.v.cap,.i e.freq] rfl ?_;refine B5 (e.key,e.v,e.freq,()) (C2 (n:=n1) (c:=#[.w e.key,.slice e.v.a e.v.len e.v.cap,.i e.freq]) (T:=179) (fz:=(0,0)) NG rfl) ?_;refine .drop (A:=QL m room s mk mes' clock'++e.seg) (J:=[(n1,Obj.cells #[.w e.key,.slice e.v.a e.v.len e.v.cap,.i e.freq] 179),(e.id,M7 e (H1 none []) (G9 s none))]) ⟨rfl,_,rfl,mk,mes',clock',rfl,lF,ok.sub (p:=[])⟩ ?_
 classical
 rw[ON];intro x;simp only[NT,NP,OP,OV,PJ];omega
structure E2 where
 b:Int
 ep:Int
 nx:Int
 l:List It
abbrev QD:=ByteArray×List UInt8×Int
structure SC where
 c:Bh
 sets:Int
 ways:Int
 small:Int
 ghost:Int
 rate:Int
 burst:Int
 seed:Int
structure B0 where
 sc:SC
 d:B8
 ss:List BS
 rs:List E2
 op:Option E2
 bk:Bk
 epoch:Int
 pend:List It
 down:Bool
 q:List QD
 gh:List Int
 ix:List (List C8)
def H2(c:Bh):Cf:=((c.B:Int),(c.P:Int),(c.S:Int),(c.W:Int),())
def B0.us(s:B0):List Int:=s.rs.map E2.b++(s.op.map E2.b).toList
variable{us:List Int}
def B0.hash(s:B0)(key:ByteArray):Nat:=(DZ s.sc.seed key.data.toList).toNat
def B0.cost(s:B0)(n:Int):Int:=n*s.sc.c.S
def B0.pays(s:B0)(n:Int):Bool:=decide (s.bk.tokens≥s.cost n)
def B0.fits(s:B0)(n:Int):Bool:=match s.op with|none=>false|some o=>decide (o.nx+n<s.sc.c.P)
def B0.met(s:B0)(e:Int):B0:={s with down:=s.down||decide (e=11)}
def B0.pay(s:B0)(n:Int):B0:={s with bk:=Ht s.bk (s.cost n)}
def B0.dev(s:B0)(d:B8):B0:={s with d:=d}
def E2.grown(o:E2)(kind:Int)(n:Nat):E2:={o with nx:=o.nx+n,l:=o.l++[(kind,o.nx,(n:Int),())]}
def B0.write(s:B0)(kind:Int)(parts:List (List UInt8)):B0×It×Int:=
 match s.op with
 |none=>(s,(0,0,0,()),0)
 |some o=>
  let q:=S1 s.d o.b o.ep o.nx kind parts
  let s1:=(s.pay parts.length).dev q.2
  if q.1≠0 then(s1.met q.1,(o.b,o.nx,o.ep,()),q.1)else({s1 with op:=some (o.grown kind parts.length)},(o.b,o.nx,o.ep,()),0)
def B0.seals(s:B0):B0×Int:=
 match s.op with
 |none=>(s,0)
 |some o=>
  let q:=U7 s.d o.b o.ep o.nx o.l
  (({(s.pay 1).dev q.2 with op:=none,rs:=s.rs++[o]}).met q.1,q.1)
def B0.begins(s:B0)(b:Int):B0×Int:=
 let q:=U9 s.d b (s.epoch+1)
 let s1:=(s.pay 1).dev q.2
 if q.1≠0 then(s1.met q.1,q.1)else({s1 with epoch:=s.epoch+1,op:=some ⟨b,s.epoch+1,1,[]⟩},0)
def B0.erase(s:B0)(b:Int):B0×Int:=
 let q:=M3 s.d b
 if q.1=11 then((s.dev q.2).met 11,11)else
 ({s.dev q.2 with ss:=if I6 s.ss b=true then O7 s.ss b (Cl (decide (q.1=10)))else s.ss,rs:=s.rs.filter fun r=> !decide (r.b=b)},0)
def B0.list(s:B0)(key:ByteArray)(p:It):B0:=
 let h:=s.hash key
 {s with ix:=Da s.ix s.sc.ways h p,pend:=if U0 (I0 (C6 s.ix h) (E1 h p)) s.sc.ways=true then s.pend++[(Jp (C6 s.ix h) s.sc.ways h p).pl]else s.pend}
def B0.ixdrop(s:B0)(h:Nat)(p:It):B0:={s with ix:=iset s.ix h (I0 (C6 s.ix h) (E1 h p))}
def B0.move(s:B0)(p:It)(n beside:Int):B0×Int:=
 let f:=C7 s.d p
 let h:=s.hash (M8 f.1)
 if f.2.2≠0\/p∉P0 (C6 s.ix h) h then(s,0)else
 if Ij s.ix h p=0\/s.fits (n+beside)=false\/s.pays (n+beside)=false then(s.ixdrop h p,0)else
 let c:=F8 f.1 f.2.1 (H2 s.sc.c)
 if c.2≠0 then(s,c.2)else
 let w:=s.write 2 c.1
 if w.2.2=0 then({w.1 with ix:=Cj w.1.ix h p w.2.1},0)else(w.1,w.2.2)
def B0.moves(b ep beside:Int):List It->B0->B0×Int
 |[],s=>(s,0)
 |x::r,s=>if x.1≠2 then B0.moves b ep beside r s else
  let w:=s.move (b,x.2.1,ep,()) x.2.2.1 beside
  if w.2≠0 then w else B0.moves b ep beside r w.1
def B0.reclaim(s:B0)(h:E2)(beside:Int):B0×Int:=
 let w:=B0.moves h.b h.ep beside h.l s
 if w.2≠0 then w else B0.erase {w.1 with pend:=w.1.pend.filter fun p=> !decide (p.1=h.b)} h.b
def B0.free(s:B0):Int:=Rd s.ss s.us
def B0.frees(n:Int):Nat->B0->B0×Int
 |0,s=>(s,0)
 |k+1,s=>if s.free=0 then(match s.rs with
  |[]=>(s,0)
  |h::_=>let w:=s.reclaim h n
   if w.2≠0 then w else B0.frees n k w.1)else(s,0)
def B0.badAt(s:B0)(b:Int):Bool:=match s.d.bs[b.toNat]? with|some k=>k.bad|none=>false
def B0.sealN(s:B0):Int:=match s.op with|none=>0|some _=>1
def B0.more(s:B0)(n:Int):B0×Int:=
 if s.pays (n+1+s.sealN)=false then(s,13)else
 if s.epoch≥1073741824 then(s,7)else
 if s.free=0 then(match s.rs with
  |[]=>(s,7)
  |h::_=>s.reclaim h n)else
 let w:=s.seals
 if w.2≠0 then w else
 let p:=G5 w.1.ss w.1.us
 let z:=if p.2.1.dirty then w.1.erase p.2.2 else(w.1,0)
 if z.2≠0 then z else
 if p.2.1.dirty=true/\z.1.badAt p.2.2=true then(z.1,0)else
 let y:=z.1.begins p.2.2
 if y.2≠0 then y else B0.frees n (y.1.rs.length+1) y.1
def B0.room(n:Int):Nat->B0->B0×Int
 |0,s=>(s,13)
 |k+1,s=>if s.fits n=true then(if s.pays n=true then(s,0)else(s,13))else
  let w:=s.more n
  if w.2≠0 then w else B0.room n k w.1
def B0.mu(s:B0):Nat:=s.bk.tokens.toNat*1000+s.ss.length*20+s.us.length
def B0.roomy(s:B0)(n:Int):B0×Int:=B0.room n (s.mu+1) s
def B0.adm(s:B0)(key:ByteArray)(val:List UInt8):B0×Int:=
 let c:=F8 key.data.toList val (H2 s.sc.c)
 if c.2≠0 then(s,c.2)else
 let w:=s.roomy c.1.length
 if w.2≠0 then w else
 let z:=w.1.write 2 c.1
 if z.2.2=0 then(z.1.list key z.2.1,0)else(z.1,z.2.2)
def B0.place(s:B0)(key:ByteArray):Option It:=(P0 (C6 s.ix (s.hash key)) (s.hash key)).find? fun p=>decide ((C7 s.d p).2.2=0/\M8 (C7 s.d p).1=key)
def T2(l:List QD)(k:ByteArray):Option QD:=l.find? fun e=>decide (k=e.1)
def P7(l:List QD)(k:ByteArray):List QD:=l.eraseP fun e=>decide (k=e.1)
def Gc(l:List QD)(k:ByteArray):List QD:=l.map fun e=>if e.1=k then(e.1,e.2.1,N8 (e.2.2+1) 3)else e
def Gb(l:List QD):Nat:=(l.map fun e=>e.1.size+e.2.1.length).sum
def B0.forget(s:B0)(key:ByteArray):B0×Bool:=
 let s1:={s with q:=P7 s.q key}
 match s1.place key with
 |none=>(s1,(T2 s.q key).isSome)
 |some p=>({s1.ixdrop (s.hash key) p with pend:=s.pend++[p]},true)
def B0.trim:Nat->B0->B0×Int
 |0,s=>(s,0)
 |k+1,s=>if(Gb s.q:Int)>s.sc.small then(match s.q with
  |[]=>(s,0)
  |y::r=>
   let s1:={s with q:=r}
   let w:=if y.2.2>0 then s1.adm y.1 y.2.1 else(s1,8)
   if w.2=0 then B0.trim k w.1 else if w.2=11 then w else B0.trim k {w.1 with gh:=Dz s.sc.ghost w.1.gh (s.hash y.1)})else(s,0)
def B0.asked(s:B0)(key:ByteArray):Int:=if s.down=true then 11 else if key.size=0\/key.size>255 then 2 else 0
def B0.putYoung(s:B0)(key:ByteArray)(val:List UInt8):B0×Int:=B0.trim (s.q.length+2) {s with q:=P7 s.q key++[(key,val,0)]}
def B0.put(s:B0)(key:ByteArray)(val:List UInt8):B0×Int:=
 if s.asked key≠0 then(s,s.asked key)else
 if val.length>65536 then(s,4)else
 let s1:=(s.forget key).1
 if Q3 key.size val.length (H2 s.sc.c)=0 then(s1,14)else
 let h:=s.hash key
 if(h:Int)∈s1.gh then
  let s2:={s1 with gh:=s1.gh.erase (h:Int)}
  let w:=s2.adm key val
  if w.2=0\/w.2=11 then w else w.1.putYoung key val
 else s1.putYoung key val
def B0.get(s:B0)(key:ByteArray):B0×List UInt8×Int:=
 if s.asked key≠0 then(s,[],s.asked key)else
 match T2 s.q key with
 |some e=>({s with q:=Gc s.q key},e.2.1,0)
 |none=>match s.place key with
  |none=>(s,[],8)
  |some p=>({s with ix:=iset s.ix (s.hash key) (Bv (C6 s.ix (s.hash key)) (E1 (s.hash key) p))},(C7 s.d p).2.1,0)
def B0.peek(s:B0)(key:ByteArray):List UInt8×Int:=
 if s.asked key≠0 then([],s.asked key)else
 match T2 s.q key with
 |some e=>(e.2.1,0)
 |none=>match s.place key with
  |none=>([],8)
  |some p=>((C7 s.d p).2.1,0)
def B0.delete(s:B0)(key:ByteArray):B0×Bool×Int:=if s.asked key≠0 then(s,false,s.asked key)else((s.forget key).1,(s.forget key).2,0)
def B0.flushes:Nat->B0->B0×Int
 |0,s=>(s,0)
 |k+1,s=>match s.pend with
  |[]=>(s,0)
  |p::r=>
   let w:=s.roomy 1
   if w.2≠0 then w else
   let n:=min w.1.pend.length (E0 w.1.sc.c.S/6).toNat
   if n=0 then(w.1,0)else
   let l:=K9 (w.1.pend.take n)
   if l.2≠0 then(w.1,l.2)else
   let z:=w.1.write 3 [l.1]
   if z.2.2≠0 then(z.1,z.2.2)else B0.flushes k {z.1 with pend:=z.1.pend.drop n}
def B0.flush(s:B0):B0×Int:=if s.down=true then(s,11)else B0.flushes (s.pend.length+1) s
def B0.tick(s:B0)(now:Int):B0:=if s.down=true then s else{s with bk:=Mh s.bk now}
def B0.has(s:B0)(key:ByteArray):Int:=if s.asked key≠0 then 0 else if(T2 s.q key).isSome then 1 else if(s.place key).isSome then 2 else 0
def CD(d:B8)(i p:Nat)(k:G6)(data:List UInt8):(Gn d i p k data).2.c=d.c:=by
 have:=(Vs d).1;unfold Gn;split<;>exact this
def MY(d:B8)(b p:Int)(data:List UInt8):(prog d b p data).2.c=d.c:=by
 unfold prog;split
 ·rfl
 ·split
  ·rfl
  ·split
   ·rfl
   ·split
    ·rfl
    ·split
     ·rfl
     ·exact CD ..
def Pv(d:B8)(b:Int)(h:Hd)(p:List UInt8):(O4 d b h p).2.c=d.c:=by
 unfold O4;split
 ·rfl
 ·exact MY ..
theorem Aw2(b ep at' kind n:Int): ∀(l:List (List UInt8)) (d:B8) (i:Nat),(N2 b ep at' kind n d i l).2.c=d.c
 |[],d,i=>rfl
 |p::r,d,i=>by
  unfold N2;split
  ·rw[Aw2 b ep at' kind n r];exact Pv ..
  ·exact Pv ..
def Cs7(d:B8)(b ep at' kind:Int)(l:List (List UInt8)):(S1 d b ep at' kind l).2.c=d.c:=by
 unfold S1;split
 ·rfl
 ·exact Aw2 ..
def Bt2(d:B8)(b ep:Int):(U9 d b ep).2.c=d.c:=Pv ..
def Bh0(d:B8)(b ep at':Int)(l:List It):(U7 d b ep at' l).2.c=d.c:=by
 unfold U7;split
 ·exact Pv ..
 ·rfl
def GA(d:B8)(b:Int):(M3 d b).2.c=d.c:=by
 have h0:=(Ph d).1;unfold M3;split
 ·rfl
 ·split
  ·rfl
  ·split
   ·rfl
   ·unfold Ku;split<;>exact h0
structure Gh(d d':B8)(e:Int):Prop where
 c:d'.c=d.c
 ok:G3 d'
 dn:d'.down=decide (e=11)
 tn:d'.torn.length+(if d'.down=true then 0 else 1)<=d.torn.length+1
 ln:d'.bs.length=d.bs.length
 wr: ∀(i:Nat) k',d'.bs[i]?=some k'-> ∃k,d.bs[i]?=some k/\k'.wear=k.wear/\k'.bad=k.bad
def Gh.same(ok:G3 d)(aG:d.down=false){e:Int}(he:e≠11):Gh d d e:=⟨rfl,ok,by rw[aG];exact(OF he).symm,by rw[aG];simp,rfl,fun i k h=>⟨k,h,rfl,rfl⟩⟩
def Gh.then{d1 d2:B8}{e:Int}(h1:Gh d d1 0)(h2:Gh d1 d2 e):Gh d d2 e:=by
 have dB:d1.down=false:=by rw[h1.dn];rfl
 refine⟨h2.c.trans h1.c,h2.ok,h2.dn,?_,h2.ln.trans h1.ln,fun i k' cA=>?_⟩
 ·have:=h1.tn;have:=h2.tn;rw[dB]at*;simp at*;omega
 ·obtain⟨k1,e1,w1,b1⟩:=h2.wr i k' cA;obtain⟨k,e0,w0,b0⟩:=h1.wr i k1 e1;exact⟨k,e0,w1.trans w0,b1.trans b0⟩
def JD(h:d.down=false):(N1 d).2.down=(N1 d).1:=by
 unfold N1;split
 ·exact h
 ·rfl
def Bp5(ok:G3 d)(aG:d.down=false)(b p:Int)(data:List UInt8):Gh d (prog d b p data).2 (prog d b p data).1/\((prog d b p data).1=0->0<=p/\p<d.c.P):=by
 have aC:=MX ok b p data;have hc:=MY d b p data;unfold prog at aC hc⊢;have jT:H6 d b p≠11:=by
  unfold H6;rw[ND (by rw[aG];decide)];split
  ·decide
  ·split<;>decide
 by_cases hf:H6 d b p=0
 ·rw[ND (by simpa using hf)]at aC hc⊢;have hp:0<=p/\p<d.c.P:=by
   unfold H6 at hf;rw[ND (by rw[aG];decide)]at hf;split at hf
   ·cases hf
   ·split at hf
    ·cases hf
    ·rename_i h;exact PA.1 h
  split
  ·exact⟨.same (e:=2) ok aG (by decide),fun h=>absurd (show(2:Int)=0 from h) (by decide)⟩
  ·rename_i hC;rw[ND hC]at aC hc;split
   ·exact⟨.same (e:=2) ok aG (by decide),fun h=>absurd (show(2:Int)=0 from h) (by decide)⟩
   ·rename_i k hk;rw[hk]at aC hc;dsimp only at aC hc;split
    ·exact⟨.same (e:=10) ok aG (by decide),fun h=>absurd (show(10:Int)=0 from h) (by decide)⟩
    ·rename_i hb;rw[ND hb]at aC hc;split
     ·exact⟨.same (e:=9) ok aG (by decide),fun h=>absurd (show(9:Int)=0 from h) (by decide)⟩
     ·rename_i hn;rw[ND hn]at aC hc;have lN:(Y0 d).down=false:=aG;have qJ:=JD lN;obtain⟨t1,t2,t3,t4⟩:=Vs d;have wr: ∀(img:List UInt8) (i:Nat) (k':G6),(d.bs.set b.toNat (k.put p.toNat img))[i]?=some k'-> ∃k,d.bs[i]?=some k/\k'.wear=k.wear/\k'.bad=k.bad:=fun img i k' cA=>by
       rw[RX]at cA;split at cA
       ·rename_i hi;split at cA
        ·obtain rfl:=NI cA;exact⟨k,hi▸hk,rfl,rfl⟩
        ·cases cA
       ·exact⟨k',cA,rfl,rfl⟩
      refine⟨?_,fun _=>hp⟩;unfold Gn at aC hc⊢;by_cases ht:(N1 (Y0 d)).1=true
      ·rw[NE ht]at aC hc⊢;refine⟨hc,aC,?_,?_,by simp,wr _⟩
       ·show(N1 (Y0 d)).2.down=_;rw[qJ,ht];rfl
       ·show(d.torn++[_]).length+(if(N1 (Y0 d)).2.down=true then 0 else 1)<=_;rw[qJ,ht,NR];simp
      ·rw[ND ht]at aC hc⊢;have ht:(N1 (Y0 d)).1=false:=by simpa using ht
       refine⟨hc,aC,?_,?_,by simp,wr _⟩
       ·show(N1 (Y0 d)).2.down=_;rw[qJ,ht];rfl
       ·show(N1 (Y0 d)).2.torn.length+(if(N1 (Y0 d)).2.down=true then 0 else 1)<=_;rw[qJ,ht,t3];simp
 ·rw[NE hf];exact⟨.same ok aG jT,fun h=>absurd h hf⟩
def Cd4(h:Hd)(p:List UInt8)(size:Int):(O9 h p size).2≠11:=by
 unfold O9 J7
 repeat' split
 all_goals simp
def Wq(ok:G3 d)(aG:d.down=false)(b:Int)(h:Hd)(p:List UInt8):Gh d (O4 d b h p).2 (O4 d b h p).1/\((O4 d b h p).1=0->0<=h.2.2.2.2.1/\h.2.2.2.2.1<d.c.P):=by
 unfold O4;split
 ·rename_i he;exact⟨.same ok aG (Cd4 h p _),fun h=>absurd h he⟩
 ·exact Bp5 ok aG b _ _
theorem Aw0(b ep at' kind n:Int): ∀(l:List (List UInt8)) {d:B8} (i:Nat),G3 d->d.down=false->Gh d (N2 b ep at' kind n d i l).2 (N2 b ep at' kind n d i l).1/\((N2 b ep at' kind n d i l).1=0->l≠[]->0<=at'+i/\at'+i+l.length<=d.c.P)
 |[],d,i,ok,aG=>⟨.same (e:=0) ok aG (by decide),fun _ h=>absurd rfl h⟩
 |p::r,d,i,ok,aG=>by
  have h1:=Wq ok aG b (kind,i,n,ep,at'+i,()) p;unfold N2;split
  ·rename_i h0;have h2:=h1.2 h0;have aO:=h1.1;rw[h0]at aO;have h3:=Aw0 b ep at' kind n r (i+1) aO.ok (by rw[aO.dn];rfl);refine⟨aO.then h3.1,fun he _=>?_⟩;have h4:=h3.2 he;rw[aO.c]at h4;simp only at h2;refine⟨h2.1,?_⟩;cases r with
   |nil=>simp;omega
   |cons x y=>
    have:=h4 (by simp);simp only[NU]at*;omega
  ·rename_i h0;exact⟨h1.1,fun h=>absurd h h0⟩
def Zl(ok:G3 d)(aG:d.down=false)(b ep at' kind:Int)(l:List (List UInt8)):Gh d (S1 d b ep at' kind l).2 (S1 d b ep at' kind l).1/\((S1 d b ep at' kind l).1=0->l≠[]/\0<=at'/\at'+l.length<=d.c.P):=by
 unfold S1;split
 ·exact⟨.same (e:=2) ok aG (by decide),fun h=>absurd (show(2:Int)=0 from h) (by decide)⟩
 ·rename_i hl;have h:=Aw0 b ep at' kind l.length l 0 ok aG;exact⟨h.1,fun h0=>by have:=h.2 h0 hl;simp at this;exact⟨hl,by omega,by omega⟩⟩
def DH(ok:G3 d)(aG:d.down=false)(b ep:Int):Gh d (U9 d b ep).2 (U9 d b ep).1:=(Wq ok aG _ _ _).1
def AW(ok:G3 d)(aG:d.down=false)(b ep at':Int)(l:List It):Gh d (U7 d b ep at' l).2 (U7 d b ep at' l).1:=by
 unfold U7;split
 ·exact(Wq ok aG _ _ _).1
 ·exact .same (e:=3) ok aG (by decide)
structure HN(d d':B8)(b e:Int):Prop where
 c:d'.c=d.c
 ok:G3 d'
 dn:d'.down=decide (e=11)
 tn:d'.torn=d.torn
 ln:d'.bs.length=d.bs.length
 wr:e≠11-> ∀(i:Nat) k',d'.bs[i]?=some k'-> ∃k,d.bs[i]?=some k/\((((i:Int)=b/\k.bad=false)/\k'.wear=k.wear+1/\k'.bad=decide (e=10))\/(¬((i:Int)=b/\k.bad=false)/\k'.wear=k.wear/\k'.bad=k.bad))
def Yn(ok:G3 d)(aG:d.down=false)(b:Int):HN d (M3 d b).2 b (M3 d b).1:=by
 have aC:=Cl0 ok b;have hc:=GA d b;have ht:=Ck9 d b;have same: ∀e:Int,e≠11->(∀(i:Nat) k,d.bs[i]?=some k-> ¬((i:Int)=b/\k.bad=false))->HN d d b e:=fun e he hn=>⟨rfl,ok,by rw[aG];exact(OF he).symm,rfl,rfl,fun _ i k h=>⟨k,h,.inr ⟨hn i k h,rfl,rfl⟩⟩⟩;unfold M3 at aC hc ht⊢;have hP:=ok.c.p;by_cases hf:H6 d b 0=0
 ·rw[ND (by simpa using hf)]at aC hc ht⊢;have hb:0<=b/\b<d.bs.length:=by
   unfold H6 at hf;rw[ND (by rw[aG];decide)]at hf;split at hf
   ·cases hf
   ·rename_i h;exact PA.1 h
  have pW:b.toNat<d.bs.length:=by omega
  rw[NV pW]at aC hc ht⊢;dsimp only at aC hc ht⊢;by_cases bL:d.bs[b.toNat].bad=true
  ·rw[NE bL];refine same 10 (by decide) fun i k hk hh=>?_;have:i=b.toNat:=by omega
   subst this;rw[NV pW]at hk;obtain rfl:=NI hk;rw[bL]at hh;exact absurd hh.2 (by decide)
  ·have hbf:d.bs[b.toNat].bad=false:=by simpa using bL
   rw[ND bL]at aC hc ht⊢;have qJ:=JD aG;unfold Ku at aC hc ht⊢;by_cases sB:(N1 d).1=true
   ·rw[NE sB]at aC hc ht⊢;refine⟨hc,aC,?_,ht,by simp,fun h=>absurd rfl h⟩;show(N1 d).2.down=_;rw[qJ,sB];rfl
   ·have sB:(N1 d).1=false:=by simpa using sB
    rw[ND (by rw[sB];decide)]at aC hc ht⊢;refine⟨hc,aC,?_,ht,by simp,fun _ i k' cA=>?_⟩
    ·show(N1 d).2.down=_;rw[qJ,sB];split<;>rfl
    ·simp only at cA;rw[RX]at cA;split at cA
     ·rename_i hi;subst hi;obtain rfl:=NI cA;refine⟨d.bs[b.toNat],NV pW,.inl ⟨⟨by omega,hbf⟩,rfl,?_⟩⟩;unfold G6.fresh;simp only;split<;>rename_i h<;>simp[h]
     ·rename_i hi;exact⟨k',cA,.inr ⟨fun h=>hi (by omega),rfl,rfl⟩⟩
 ·rw[NE hf];unfold H6 at hf⊢;rw[ND (by rw[aG];decide)]at hf⊢;by_cases hr:0<=b/\b<d.bs.length
  ·rw[ND (fun h=>h hr),ND (by omega)]at hf;exact absurd rfl hf
  ·rw[NE hr];refine same 2 (by decide) fun i k hk hh=>?_;have:=(PL.1 hk).1;omega
theorem MM(d:B8): ∀n:Nat,((Ay d n).map fun h=>h.1).Nodup/\ ∀h∈Ay d n,h.1<(n:Int)
 |0=>⟨SJ,by simp[Ay]⟩
 |n+1=>by
  obtain⟨i1,i2⟩:=MM d n;rw[BO];cases hr:W3 d n with
  |none=>
   simp only[Option.toList_none,NP];exact⟨i1,fun h hh=>by have:=i2 h hh;omega⟩
  |some x=>
   have hx:=(Jf hr).1;refine⟨?_,fun h hh=>?_⟩
   ·rw[RZ,NQ,RC,QA];refine⟨i1,OW.2 ⟨by simp,SJ⟩,fun a ha b hb=>?_⟩;rw[NM]at hb;subst hb;obtain⟨h,hh,rfl⟩:=NY.1 ha;have:=i2 h hh;omega
   ·rcases NJ.1 hh with hh|hh
    ·have:=i2 h hh;omega
    ·rw[RZ,NM]at hh;subst hh;omega
def Ar(d:B8):List Int:=(G4 d).map fun h=>h.1
def Zd(d:B8):(Ar d).Nodup:=by
 unfold Ar G4;exact((Ih Hp (Ay d d.c.B)).map (fun h:HD=>h.1)).nodup_iff.2 (MM d d.c.B).1
def Ug{l:List Int}(hn:l.Nodup)(hi:i<l.length):l.idxOf l[i]=i:=List.Nodup.idxOf_getElem hn i hi
def Cf4(d:B8):(G4 d).Pairwise fun a b=>(Ar d).idxOf a.1<=(Ar d).idxOf b.1/\a.1≠b.1:=by
 have hn:=Zd d;rw[TL];intro i j hi hj nT;have hl:(Ar d).length=(G4 d).length:=by unfold Ar;rw[NL]
 have e: ∀(k:Nat) (hk:k<(G4 d).length),(G4 d)[k].1=(Ar d)[k]'(by omega):=fun k hk=>by unfold Ar;rw[QG]
 rw[e i hi,e j hj];refine⟨by rw[Ug hn,Ug hn];omega,fun h=>?_⟩;have h1:=Ug hn (i:=i) (by omega);have h2:=Ug hn (i:=j) (by omega);rw[h]at h1;omega
def Bg2(d:B8)(kind:Int):(Dr kind (G4 d)).Pairwise fun a b=>(Ar d).idxOf a.1.1<=(Ar d).idxOf b.1.1/\(a.1.1≠b.1.1\/a.2.2.1≠b.2.2.1):=by
 unfold Dr;rw[List.pairwise_flatMap];refine⟨fun h hh=>?_,(Cf4 d).imp fun{a b} fH x hx y hy=>?_⟩
 ·obtain⟨b,-,hb⟩:=Um hh;have ho:=(Jf hb).2.2.2;rw[SZ];refine(ho.filter _).imp fun{x y} ax=>⟨NF _,.inr ?_⟩;simp only;omega
 ·obtain⟨x',-,rfl⟩:=NY.1 hx;obtain⟨y',-,rfl⟩:=NY.1 hy;exact⟨fH.1,.inl fH.2⟩
def Aw4(d:B8):(Gd d (G4 d)).Pairwise fun x y=>(Ar d).idxOf x.2.1<=(Ar d).idxOf y.2.1/\x.2≠y.2:=by
 unfold Gd;rw[List.pairwise_filterMap];refine(Bg2 d 2).imp fun{a b} fH x hx y hy=>?_;have key: ∀{q:HD×It} {x:LE},Az d q=some x->x.2=Ed q.1 q.2:=fun{q x} h=>by
  unfold Az at h;split at h
  ·obtain rfl:=NI h;rfl
  ·cases h
 rw[key hx,key hy];refine⟨fH.1,fun h=>?_⟩;unfold Ed at h;have h1:=congrArg (fun t:It=>t.1) h;have h2:=congrArg (fun t:It=>t.2.1) h;rcases fH.2 with h3|h3
 ·exact h3 h1
 ·exact h3 h2
structure Zo(d:B8)(x:LE):Prop where
 fetch:(C7 d x.2).2.2=0/\M8 (C7 d x.2).1=x.1
 held: ∃h∈G4 d,h.1=x.2.1/\h.2.1=x.2.2.2.1
 page:1<=x.2.2.1/\x.2.2.1<=255
def Ct1{x:LE}(hx:x∈Gd d (G4 d)):Zo d x:=by
 unfold Gd at hx;rw[UF]at hx;obtain⟨q,hq,h⟩:=hx;unfold Dr at hq;rw[OY]at hq;obtain⟨hd,hm,hq⟩:=hq;obtain⟨y,hy,rfl⟩:=NY.1 hq;have hy:=(OI.1 hy).1;obtain⟨b,-,hb⟩:=Um hm;have hr:=(Jf hb).2.2.1 y hy;unfold Az at h;split at h
 ·rename_i h0;obtain rfl:=NI h;exact⟨⟨h0,rfl⟩,⟨hd,hm,rfl,rfl⟩,hr.1,hr.2.1⟩
 ·cases h
def Tr{x:LE}(hx:x∈M2 d):Zo d x:=Ct1 (OI.1 hx).1
def Af3(d:B8):(M2 d).Pairwise fun x y=>(Ar d).idxOf x.2.1<=(Ar d).idxOf y.2.1/\x.1≠y.1:=by
 have h0:(M2 d).Pairwise fun x y=>(Ar d).idxOf x.2.1<=(Ar d).idxOf y.2.1/\x.2≠y.2:=(Aw4 d).filter _;rw[TL]at h0⊢;intro i j hi hj nT;refine⟨(h0 i j hi hj nT).1,fun h=>(h0 i j hi hj nT).2 ?_⟩;have h1:=(OI.1 (NO hi)).2;have h2:=(OI.1 (NO hj)).2;simp only[QR]at h1 h2;have h3:=h1.1;have h4:=h2.1;rw[h]at h3;exact NI (h3.symm.trans h4)
theorem To: ∀(l:List HD) (a:Int),a<=l.foldl (fun a h=>L9 a h.2.1) a/\ ∀h∈l,h.2.1<=l.foldl (fun a h=>L9 a h.2.1) a
 |[],a=>by simp
 |x::r,a=>by
  obtain⟨h1,h2⟩:=To r (L9 a x.2.1);have h3:a<=L9 a x.2.1/\x.2.1<=L9 a x.2.1:=by unfold L9;split<;>omega
  rw[RU];refine⟨by omega,fun h hh=>?_⟩;rcases OC.1 hh with rfl|hh
  ·omega
  ·exact h2 h hh
def Cf2(d:B8):(G4 d).Pairwise fun a b=>a.2.1<=b.2.1:=Cb2 Hp (Ay d d.c.B)
def Cf6{x:LE}(hx:Zo d x): ∃(i:Nat) (hi:i<(G4 d).length),(G4 d)[i].1=x.2.1/\(G4 d)[i].2.1=x.2.2.2.1/\(Ar d).idxOf x.2.1=i:=by
 obtain⟨h,hh,e1,e2⟩:=hx.held;obtain⟨i,hi,rfl⟩:=TM hh;refine⟨i,hi,e1,e2,?_⟩;have hl:(Ar d).length=(G4 d).length:=by unfold Ar;rw[NL]
 have e:(Ar d)[i]'(by omega)=x.2.1:=by rw[<-e1];unfold Ar;rw[QG]
 rw[<-e];exact Ug (Zd d) (by omega)
def Uj{h:Hd}{p:List UInt8}(h1:16<=S)(h2:p.length<=S-16):(I9 h p S).length=S:=by
 unfold I9;rw[NR,Ly h1 h2,Df];omega
def Ys{n:Nat}(h:n<256):(G2 n 0).toNat=n:=by
 have:=Pz 1 n (by simpa using h);have e:I8 (E4 n 1)=(G2 n 0).toNat:=by simp[Cm9,I8]
 omega
def Ui(h:Hd)(p:List UInt8)(h1:16<=S)(h2:p.length<=S-16):(I9 h p S).take (S-4)=X8 h p S:=by
 unfold I9;exact SR (Ly h1 h2)
def Ce6(h:Hd)(p:List UInt8)(h1:16<=S)(h2:p.length<=S-16):(I9 h p S).drop (S-4)=E4 (K0 (X8 h p S)).toNat 4:=by
 unfold I9;exact TG (Ly h1 h2)
def Bt8(l:List UInt8):((I8 (E4 (K0 l).toNat 4):Nat):Int)=K0 l:=by
 have h:=Yv l;rw[Pz 4 _ (show(K0 l).toNat<4294967296 by omega)];omega
def FA{h:Hd}(e:J7 h=0)(p:List UInt8)(h1:64<=S/\S<=512)(h2:p.length<=S-16):
  U2 (I9 h p S)=h/\K2 (I9 h p S)=p.length/\Am (I9 h p S)=p/\(∀x∈V8 (I9 h p S),x=0)/\(I9 h p S).getD 3 0=165/\(I9 h p S).getD 9 0=0:=by
 have aC:=Ik e;obtain⟨k,pa,ps,ep,pg,u⟩:=h;simp only at aC;obtain⟨k,rfl⟩: ∃n:Nat,k=n:=⟨k.toNat,by omega⟩;obtain⟨pa,rfl⟩: ∃n:Nat,pa=n:=⟨pa.toNat,by omega⟩;obtain⟨ps,rfl⟩: ∃n:Nat,ps=n:=⟨ps.toNat,by omega⟩;obtain⟨ep,rfl⟩: ∃n:Nat,ep=n:=⟨ep.toNat,by omega⟩;obtain⟨pg,rfl⟩: ∃n:Nat,pg=n:=⟨pg.toNat,by omega⟩;have hC:=Uj (h:=((k:Int),(pa:Int),(ps:Int),(ep:Int),(pg:Int),())) (p:=p) (S:=S) (by omega) h2;generalize hq:List.replicate (S-16-p.length) 0++E4 (K0 (X8 ((k:Int),(pa:Int),(ps:Int),(ep:Int),(pg:Int),()) p S)).toNat 4=q;have hb:I9 ((k:Int),(pa:Int),(ps:Int),(ep:Int),(pg:Int),()) p S=G2 k 0::G2 pa 0::G2 ps 0::165::G2 ep 0::G2 ep 1::G2 ep 2::G2 ep 3::G2 pg 0::0::G2 p.length 0::G2 p.length 1::(p++q):=by
  rw[<-hq];unfold I9;conv=>lhs;arg 1;unfold X8 Fv
  simp only[NK,NZ];rfl
 have dI:(S-4)-12-p.length=S-16-p.length:=by omega
 generalize hB:I9 ((k:Int),(pa:Int),(ps:Int),(ep:Int),(pg:Int),()) p S=b at hb hC⊢;have e4:I8 (E4 ep 4)=ep:=Pz 4 ep (show ep<4294967296 by omega);have e2:I8 (E4 p.length 2)=p.length:=Pz 2 _ (show p.length<65536 by omega);have hn:K2 b=p.length:=by rw[hb];exact e2
 refine⟨?_,hn,?_,?_,by rw[hb];rfl,by rw[hb];rfl⟩
 ·have:U2 b=(((G2 k 0).toNat:Int),((G2 pa 0).toNat:Int),((G2 ps 0).toNat:Int),((I8 (E4 ep 4):Nat):Int),((G2 pg 0).toNat:Int),()):=by rw[hb];rfl
  rw[this,e4,Ys (by omega),Ys (by omega),Ys (by omega),Ys (by omega)]
 ·unfold Am;rw[hn,hb];show List.take p.length (p++q)=p;exact SR rfl
 ·unfold V8;rw[hn,hC,hb];have:List.drop (12+p.length) (G2 k 0::G2 pa 0::G2 ps 0::165::G2 ep 0::G2 ep 1::G2 ep 2::G2 ep 3::G2 pg 0::0::G2 p.length 0::G2 p.length 1::(p++q))=q:=by
   rw[<-QB];show List.drop p.length (p++q)=q;exact TG rfl
  rw[this,<-hq,show S-4-(12+p.length)=S-16-p.length by omega,SR (by rw[PE])];exact fun x hx=>PW hx
def Jh{h:Hd}(e:J7 h=0)(p:List UInt8)(h1:64<=S/\S<=512)(h2:p.length<=S-16):C1 (I9 h p S)=(h,p,0)/\R7 (I9 h p S)=false:=by
 obtain⟨a1,a2,a3,a4,a5,a6⟩:=FA e p h1 h2;have hC:=Uj (h:=h) (p:=p) (S:=S) (by omega) h2;have fR:R7 (I9 h p S)=false:=by
  unfold R7;rw[US];rw[Gv (by omega)]at a5;exact⟨_,NO (show 3<(I9 h p S).length by omega),by rw[a5];decide⟩
 have hc:K0 ((I9 h p S).take ((I9 h p S).length-4))=(I8 ((I9 h p S).drop ((I9 h p S).length-4)):Int):=by
  rw[hC,Ui h p (by omega) h2,Ce6 h p (by omega) h2,Bt8]
 have:=Wy (b:=I9 h p S) (by rw[hC];exact h1) fR hc (CQ a5 a6 (by omega) (by rw[a1];exact e) a4);rw[a1,a3]at this;exact⟨this,fR⟩
def Lv{b:List UInt8}(h:(C1 b).2.2=0):(64<=b.length/\b.length<=512)/\J7 (C1 b).1=0/\(C1 b).2.1.length<=b.length-16/\I9 (C1 b).1 (C1 b).2.1 b.length=b/\R7 b=false:=by
 by_cases h1:64<=b.length/\b.length<=512
 ·cases h2:R7 b with
  |true=>rw[CZ h1 h2]at h;cases h
  |false=>
   by_cases h3:K0 (b.take (b.length-4))=(I8 (b.drop (b.length-4)):Int)
   ·cases h4:Lq b with
    |true=>rw[Kl h1 h2 h3 h4]at h;cases h
    |false=>
     have aT:=fun c=>(XM.1 h4) ((Ib b).2 c);have hn:K2 b<=b.length-16:=by
      rcases PY (b.length-16) (K2 b)with c|c
      ·exact absurd (.inr (.inr (.inl c))) aT
      ·exact c
     rw[Wy h1 h2 h3 h4];refine⟨h1,QQ fun c=>aT (.inr (.inr (.inr (.inl c)))),by rw[CS (by omega)];exact hn,?_,rfl⟩;refine(Zn h1.1 h3 hn).2 ⟨QQ fun c=>aT (.inl c),QQ fun c=>aT (.inr (.inl c)),fun x hx=>QQ fun c=>aT (.inr (.inr (.inr (.inr ⟨x,hx,c⟩))))⟩
   ·rw[CX h1 h2 h3]at h;cases h
 ·rw[CY h1]at h;cases h
def EW(h:Hd)(p:List UInt8)(size:Int):(O9 h p size).2=0/\(∃S:Nat,size=S/\(64<=S/\S<=512)/\J7 h=0/\p.length<=S-16/\O9 h p size=(I9 h p S,0))\/(O9 h p size).2≠0/\(O9 h p size).1=[]:=by
 by_cases h1:64<=size/\size<=512
 ·obtain⟨S,rfl⟩: ∃S:Nat,size=S:=⟨size.toNat,by omega⟩;by_cases h2:J7 h=0
  ·by_cases h3:p.length<=S-16
   ·have:=EV (h:=h) (p:=p) (S:=S) (by omega) h2 h3;exact .inl ⟨by rw[this],S,rfl,by omega,h2,h3,this⟩
   ·refine .inr ?_;unfold O9;rw[ND (by omega),ND (by simpa using h2),NE (by omega)];exact⟨by decide,rfl⟩
  ·refine .inr ?_;rw[Ai8 (by omega) h2];exact⟨h2,rfl⟩
 ·refine .inr ?_;unfold O9;rw[NE h1];exact⟨by decide,rfl⟩
def Co(q:Nat->Bool):Nat->Nat
 |0=>0
 |k+1=>Co q k+(if q k=true then 1 else 0)
theorem GV{q r:Nat->Bool}: ∀{k:Nat},(∀i,i<k->q i=r i)->Co q k=Co r k
 |0,_=>rfl
 |k+1,h=>by
  unfold Co;rw[GV (fun i hi=>h i (by omega)),h k (by omega)]
theorem Cr7(q r:Nat->Bool): ∀k,Co (fun i=>q i&& !r i) k+Co (fun i=>q i&&r i) k=Co q k
 |0=>rfl
 |k+1=>by
  have:=Cr7 q r k;unfold Co;cases q k<;>cases r k<;>simp<;>omega
theorem Av3(q:Nat->Bool): ∀k,Co q k<=k
 |0=>NF _
 |k+1=>by
  have:=Av3 q k;unfold Co;split<;>omega
theorem Av2{q r:Nat->Bool}{j:Nat}: ∀{k:Nat},(∀i,i<k->i≠j->q i=r i)->j<k->Co q k+(if r j=true then 1 else 0)=Co r k+(if q j=true then 1 else 0)
 |0,_,hj=>by omega
 |k+1,h,hj=>by
  unfold Co;by_cases hk:j=k
  ·subst hk;rw[GV (q:=q) (r:=r) (fun i hi=>h i (by omega) (by omega))];omega
  ·have h1:=Av2 (q:=q) (r:=r) (j:=j) (k:=k) (fun i hi hZ=>h i (by omega) hZ) (by omega);have h2:=h k (by omega) (fun e=>hk e.symm);rw[h2];omega
theorem Av1: ∀k,Co (fun _=>false) k=0
 |0=>rfl
 |k+1=>by unfold Co;rw[Av1 k];rfl
def Cr1(ss:List BS)(us:List Int):Rd ss us=((Co (fun i=>O2 ss us (i:Int)) ss.length:Nat):Int):=by
 unfold Rd;refine Aq1 (O2 ss us) (fun(k:Int) _ _=>k+1) 0 ss (fun n k=>k=((Co (fun i=>O2 ss us (i:Int)) n:Nat):Int)) rfl ?_;intro i hi s hs;subst hs;show _=((Co (fun i=>O2 ss us (i:Int)) i+(if O2 ss us (i:Int)=true then 1 else 0):Nat):Int);split<;>simp
def Iu(ss:List BS)(us:List Int):Prop:=us.Nodup/\ ∀x∈us,I6 ss x=true
def Cq9(h:I6 ss x=true):0<=x/\x<ss.length:=by
 obtain⟨h0,hi,_⟩:=El h;omega
def At2(h:Iu ss us):Rb ss us:=⟨h.1,fun x hx=>Cq9 (h.2 x hx)⟩
def Fg(ss:List BS):Nat:=Co (fun i=>I6 ss (i:Int)) ss.length
def At1(h:Iu ss us)(hf:O2 ss us n=true):Iu ss (us++[n]):=by
 refine⟨(At3 (At2 h) hf).1,fun x hx=>?_⟩;rcases NJ.1 hx with h1|h1
 ·exact h.2 x h1
 ·rw[NM.1 h1];exact(Di hf).1
def Au4(g:BS->BS)(hn:0<=n)(hx:x≠n):I6 (O7 ss n g) x=I6 ss x:=by
 unfold I6 O7;by_cases h0:0<=x
 ·rw[RE];have: ¬n.toNat=x.toNat:=by omega
  simp[this]
 ·rw[OF h0];rfl
def Cq8(g:BS->BS)(hg:I6 ss n=true): ∃s,ss[n.toNat]?=some s/\I6 (O7 ss n g) n= !(g s).bad:=by
 obtain⟨h0,hi,hb⟩:=El hg;refine⟨ss[n.toNat],NV hi,?_⟩;unfold I6 O7;rw[RE,OH h0,NV hi];simp
def Ca7:x∈T9 us n↔x∈us/\x≠n:=by
 unfold T9;rw[OI];simp
def Cp4(h:Iu ss us)(hn:I6 ss n=true)(g:BS->BS):Iu (O7 ss n g) (T9 us n):=by
 have h0:=(El hn).1;refine⟨h.1.filter _,fun x hx=>?_⟩;obtain⟨h1,h2⟩:=Ca7.1 hx;rw[Au4 g h0 h2];exact h.2 x h1
def Au6(hn:I6 ss n=true)(g:BS->BS){bad:Bool}(hb: ∀s,ss[n.toNat]?=some s->(g s).bad=bad):(Fg (O7 ss n g):Int)=Fg ss-(if bad=true then 1 else 0):=by
 obtain⟨h0,hi,sT⟩:=El hn;obtain⟨s,hs,hg⟩:=Cq8 g hn;rw[hb s hs]at hg;have h1:=Av2 (q:=fun i=>I6 (O7 ss n g) (i:Int)) (r:=fun i=>I6 ss (i:Int)) (j:=n.toNat) (k:=ss.length) (fun i hi hZ=>Au4 g h0 (by omega)) (by omega);have e:((n.toNat:Nat):Int)=n:=by omega
 simp only[e]at h1;rw[hn,hg]at h1;unfold Fg;rw[GS];cases bad<;>simp at h1⊢ <;>omega
def Q0(ss:List BS)(n:Int):BS:=(ss[n.toNat]?).getD Oh
def Zf(hi:i<ss.length):Q0 ss (i:Int)=ss[i]:=by
 unfold Q0;rw[NK,NV hi];rfl
def Cp8(ss:List BS)(us:List Int):((G5 ss us).1=false-> ∀i:Nat,i<ss.length->O2 ss us i=false)/\
  ((G5 ss us).1=true->O2 ss us (G5 ss us).2.2=true/\(G5 ss us).2.1=Q0 ss (G5 ss us).2.2/\ ∀i:Nat,i<ss.length->O2 ss us i=true->Bz (Q0 ss (G5 ss us).2.2)<=Bz (Q0 ss i))/\((G5 ss us).1=false->(G5 ss us).2.1=Oh/\(G5 ss us).2.2=0):=by
 unfold G5;refine Aq1 (O2 ss us) Ee (false,Oh,0) ss (fun n (s:Rr)=>(s.1=false-> ∀i:Nat,i<n->O2 ss us i=false)/\(s.1=true->O2 ss us s.2.2=true/\s.2.1=Q0 ss s.2.2/\ ∀i:Nat,i<n->O2 ss us i=true->Bz (Q0 ss s.2.2)<=Bz (Q0 ss i))/\(s.1=false->s.2.1=Oh/\s.2.2=0)) ⟨fun _ i hi=>by omega,fun h=>by simp at h,fun _=>⟨rfl,rfl⟩⟩ ?_;rintro i hi ⟨fd,best,at'⟩ ⟨h1,h2,h3⟩;simp only at h1 h2 h3;by_cases hf:O2 ss us (i:Int)=true
 ·rw[NE hf];unfold Ee;simp only;by_cases hc:fd=false\/Bz ss[i]<Bz best
  ·rw[NE hc];refine⟨fun h=>by simp at h,fun _=>⟨hf,(Zf hi).symm,fun j hj mY=>?_⟩,fun h=>by simp at h⟩;simp only[Zf hi];rcases PY j i with fV|fV
   ·rcases hc with hc|hc
    ·rw[h1 hc j fV]at mY;cases mY
    ·cases fd with
     |false=>rw[h1 rfl j fV]at mY;cases mY
     |true=>
      obtain⟨a,b,c⟩:=h2 rfl;have:=c j fV mY;rw[b]at hc;omega
   ·obtain rfl:j=i:=by omega
    rw[Zf hi];exact QJ _
  ·rw[ND hc];have gI:fd=true:=by
    cases fd with
    |true=>rfl
    |false=>exact absurd (.inl rfl) hc
   subst gI;obtain⟨a,b,c⟩:=h2 rfl;refine⟨fun h=>by simp at h,fun _=>⟨a,b,fun j hj mY=>?_⟩,fun h=>by simp at h⟩;rcases PY j i with fV|fV
   ·exact c j fV mY
   ·obtain rfl:j=i:=by omega
    have: ¬Bz ss[j]<Bz best:=fun q=>hc (.inr q);rw[b,<-Zf hi]at this;show Bz (Q0 ss at')<=_;omega
 ·rw[ND hf];have sR:O2 ss us (i:Int)=false:=by simpa using hf
  refine⟨fun h j hj=>?_,fun h=>⟨(h2 h).1,(h2 h).2.1,fun j hj mY=>?_⟩,h3⟩
  ·rcases PY j i with fV|fV
   ·exact h1 h j fV
   ·obtain rfl:j=i:=by omega
    exact sR
  ·rcases PY j i with fV|fV
   ·exact(h2 h).2.2 j fV mY
   ·obtain rfl:j=i:=by omega
    rw[sR]at mY;cases mY
end Go.Proofs.YtieboeindnpnaaaGreatDoor
