/-
  It is proved what the functions that the law StoreBytes reaches compute, part 4. There are no further conditions than those that each theorem names.
-/
import Derived.Test.YtbaoieipijmakaaGreatDoorMStoreBytes3
set_option linter.unusedVariables false
set_option linter.unusedSimpArgs false
namespace Go.Proofs.YtbaoieipijmakaaGreatDoor
open Go.HL
def Aw8(l:List QE)(k:ByteArray):List QE:=l.eraseP fun e=>decide (k=e.key)
theorem Ah7{l:List QE}{k:ByteArray}{e:QE}(h:V1 l k=some e): ∃p s,l=p++e::s/\e.key=k/\Aw8 l k=p++s:=by
 unfold V1 at h
 rw[List.find?_eq_some_iff_append]at h
 obtain⟨hk,p,s,rfl,hp⟩:=h
 refine⟨p,s,rfl,(of_decide_eq_true hk).symm,?_⟩
 unfold Aw8
 rw[List.eraseP_append_right _ (fun b hb=>by simpa using hp b hb),List.eraseP_cons_of_pos (p:=fun e:QE=>decide (k=e.key)) hk]
theorem Ah8{l:List QE}{k:ByteArray}(h:V1 l k=none):Aw8 l k=l/\k∉l.map QE.key:=by
 unfold V1 at h
 rw[List.find?_eq_none]at h
 refine⟨List.eraseP_of_forall_not h,fun hm=>?_⟩
 obtain⟨e,he,rfl⟩:=List.mem_map.1 hm
 exact h e he (by simp)
theorem Ca1{l:List QE}{k:ByteArray}(ok:QOk l):k∉(Aw8 l k).map QE.key:=by
 cases hf:V1 l k with
 |none=>rw[(Ah8 hf).1];exact(Ah8 hf).2
 |some e=>
  obtain⟨p,s,rfl,rfl,hd⟩:=Ah7 hf
  rw[hd]
  have h:=ok.nd
  rw[List.map_append,List.map_cons]at h
  have h2:(e.key::(p.map QE.key++s.map QE.key)).Nodup:=(List.perm_middle.nodup_iff).1 h
  rw[List.map_append]
  exact(List.nodup_cons.1 h2).1
theorem Ca2(l:List QE)(k:ByteArray):(Aw8 l k).length<=l.length:=List.length_eraseP_le ..
theorem C87(room:Int):CallF PP 97 #[.i room] [] fun r L'=> ∃m,r= .q (some ⟨m,0,none⟩)/\QH m (Z6 room 0) [] L':=by
 refine CallF.of (args:=[.i room]) B5 B6 Tryz.func97 (e97 room _) ?_
 unfold t97
 refine C3 fun mk _=>C3 fun m _=>.of ⟨m,rfl,mk,#[],0,rfl,rfl,?_⟩
 exact⟨fun e h=>by simp at h,fun e h=>by simp at h,by simp,by simp,fun e h=>by simp at h⟩
theorem Bv2(m:Nat)(room:Int)(l:List QE)(A:A4)(h:QH m room l A)(k:ByteArray):
  CallF PP 105 #[.q (some ⟨m,0,none⟩),.w k] A fun r L'=>r= .b (V1 l k).isSome/\QH m room (Aw8 l k) L':=by
 refine CallF.of (args:=[.q (some ⟨m,0,none⟩),.w k]) B5 B6 Tryz.func105 (e105 (some ⟨m,0,none⟩) k _) ?_
 unfold t105
 refine B7 (A77 m room l A h k) (pt ((V1 l k).map QE.id),()) rfl ?_
 cases hf:V1 l k with
 |none=>
  refine ifT rfl (.of ⟨rfl,?_⟩)
  rw[(Ah8 hf).1];exact h
 |some e=>
  obtain⟨mk,mes,clock,rfl,hm,ok⟩:=h
  obtain⟨p,s,rfl,rfl,hd⟩:=Ah7 hf
  refine ifF rfl (J5 [] [] (Bd8 m room p s e mk mes clock hm ok) (by simp) ?_)
  rintro _ _-⟨rfl,mes',clock',rfl,hm'⟩
  rw[hd]
  exact⟨(),rfl,.drop (A:=QL m room (p++s) mk mes' clock') (J:=(e.id,M0 e (C9 none p) (C8 s none))::e.seg) ⟨rfl,mk,mes',clock',rfl,hm',ok.sub⟩ (by simp)⟩
theorem De7:U8 PP tyB tyb 1 1 [.int .u8 0]:=M6 (by kernel_rfl) (by kernel_rfl) rfl (by decide) (by decide)
theorem srcY:As9 PP tyB:=.inl ⟨tyb,by kernel_rfl⟩
theorem Da2{n:Nat}{e:TypeId}:Own ⟨some ⟨n,0,none⟩,0,0⟩ 1 e [] [(n,Obj.cells #[] e)]:=⟨rfl,Nat.le_refl _,.inr ⟨n,0,#[],(0,0),rfl,rfl,by simp,.inl (Nat.le_refl _),fun i u hu=>by simp at hu⟩⟩
theorem Bh4: ∀(l:List QE) (k:ByteArray) (v:Value),k∉l.map QE.key->A20 (A76 l) k v=A76 l++[(k,v)]
 |[],k,v,_=>rfl
 |e::r,k,v,h=>by
  rw[List.map_cons,List.mem_cons,not_or]at h
  show(if k=e.key then _ else _)=_
  rw[if_neg h.1]
  show(e.key,Value.q (pt (some e.id)))::A20 (A76 r) k v=_
  rw[Bh4 r k v h.2];rfl
theorem C85(m:Nat)(room:Int)(l:List QE)(A A0:A4)(h:QH m room l A)(hfew:l.length<100000)(k:ByteArray)(hk:k.size<=100000)(v:SlV)(b:List UInt8)(hv:BSl A0 v b)(hb:b.length<=100000):
  CallF PP 50 #[.q (some ⟨m,0,none⟩),.w k,.slice v.a v.len v.cap] (A++A0)
   fun r L'=>r= .t #[]/\ ∃A' e,L'=A'++A0/\QH m room (Aw8 l k++[e]) A'/\e.key=k/\e.val=b/\e.freq=0:=by
 refine CallF.of (args:=[.q (some ⟨m,0,none⟩),.w k,.slice v.a v.len v.cap]) B5 B6 Tryz.func50 (e50 (some ⟨m,0,none⟩) k v _) ?_
 unfold t50
 have hnot:k∉(Aw8 l k).map QE.key:=by obtain⟨_,_,_,_,_,ok⟩:=h;exact Ca1 ok
 have hfew2:=Ca2 l k
 refine ifF rfl (J5 [] A0 (Bv2 m room l A h k) (by simp) ?_)
 rintro _ _-⟨rfl,mk,mes,clock,rfl,hm,ok⟩
 refine⟨((V1 l k).isSome,()),rfl,?_⟩
 generalize Aw8 l k=l1 at hnot hfew2 hm ok⊢
 have hlen:=hv.len
 have hsum:=ok.sum
 have hQ:QL m room l1 mk mes clock=(m,qG room (S4 l1) (C8 l1 none) (C9 none l1) mk)::(mk,Obj.map mes clock)::(O8 none l1 none++Al3 l1):=rfl
 rw[hQ]
 refine A5 rfl (A6 (pt (C9 none l1)) (Ca6 (by simp;exact .inl rfl)) (C3 fun n1 _=>?_))
 refine E6 De7 srcY [] ([]++((m,qG room (S4 l1) (C8 l1 none) (C9 none l1) mk)::(mk,Obj.map mes clock)::(O8 none l1 none++Al3 l1))++A0) Da2 (by simp) (.sl ((hv.right (R:=[]++((m,qG room (S4 l1) (C8 l1 none) (C9 none l1) mk)::(mk,Obj.map mes clock)::(O8 none l1 none++Al3 l1)))).cons)) (K5 _)
  (by first|omega|(simp only;omega)) fun v2 seg hv2 own=>?_
 rw[List.nil_append]at own
 refine F5 (Ca6 (room:=room) (bytes:=S4 l1) (o:=C8 l1 none) (mk:=mk) (by simp)) (C3 fun n2 _=>?_)
 obtain⟨e,rfl,rfl,rfl,hfr0,rfl,rfl⟩: ∃e:QE,e.id=n2/\e.key=k/\e.val=b/\e.freq=0/\e.v=v2/\e.seg=seg:=⟨⟨n2,k,b,0,v2,seg⟩,rfl,rfl,rfl,rfl,rfl,rfl⟩
 have hve:e.v.len=e.val.length:=by have:=own.sl.len;rw[E7]at this;omega
 have hnode:(e.id,Obj.cells #[.w e.key,.slice e.v.a e.v.len e.v.cap,.i 0,.q (pt (C9 none l1)),.q none] 184)=(e.id,M0 e (C9 none l1) none):=by unfold M0;rw[hfr0];rfl
 have hok:QOk (l1++[e]):=by
  refine⟨fun x hx=>?_,fun x hx=>?_,?_,?_,fun x hx=>?_⟩
  ·rcases List.mem_append.1 hx with h1|h1
   ·exact ok.own x h1
   ·rw[List.mem_singleton.1 h1];exact own
  ·rcases List.mem_append.1 hx with h1|h1
   ·exact ok.small x h1
   ·rw[List.mem_singleton.1 h1];exact⟨hk,hb⟩
  ·rw[List.length_append];simp only[List.length_cons,List.length_nil];omega
  ·rw[List.map_append,List.nodup_append]
   refine⟨ok.nd,by simp,fun x hx y hy=>?_⟩
   simp only[List.map_cons,List.map_nil,List.mem_singleton]at hy
   rintro rfl
   rw[hy]at hx
   exact hnot hx
  ·rcases List.mem_append.1 hx with h1|h1
   ·exact ok.fr x h1
   ·rw[List.mem_singleton.1 h1,hfr0];omega
 have hsum2:=hok.sum
 have hqs:S4 (l1++[e])=S4 l1+(e.key.size+e.val.length):=by rw[Ak1];simp[S4]
 refine W7 (fun y L'=>L'=(e.id,M0 e (C9 none l1) none)::(e.seg++((m,qG room (S4 l1) (C8 (l1++[e]) none) (C9 none l1) mk)::(mk,Obj.map mes clock)::(O8 none l1 (some e.id)++Al3 l1)++A0))) ?_ ?_
 ·rintro y L' rfl
  refine A5 rfl (E3 ((e.id,M0 e (C9 none l1) none)::e.seg) ((mk,Obj.map mes clock)::(O8 none l1 (some e.id)++Al3 l1)++A0) rfl rfl (by simp) (.inl (Nat.le_refl _)) #[.i room,.i (S4 l1),.q (pt (C8 (l1++[e]) none)),.q (some ⟨e.id,0,none⟩),.map (some mk)] rfl ?_)
  have hm1: ∀{bb:Int},(m,qG room bb (C8 (l1++[e]) none) (some e.id) mk)∈((e.id,M0 e (C9 none l1) none)::e.seg)++(m,qG room bb (C8 (l1++[e]) none) (some e.id) mk)::((mk,Obj.map mes clock)::(O8 none l1 (some e.id)++Al3 l1)++A0):=by simp
  refine A5 rfl (A6 ((S4 l1:Nat):Int) (Aw9 hm1) ?_)
  have hsz:=B80 (((e.id,M0 e (C9 none l1) none)::e.seg)++(m,qG room (S4 l1) (C8 (l1++[e]) none) (some e.id) mk)::((mk,Obj.map mes clock)::(O8 none l1 (some e.id)++Al3 l1)++A0)) e (C9 none l1) none List.mem_cons_self hve ⟨hk,hb⟩
  refine B7 hsz (((e.key.size+e.val.length:Nat):Int),()) rfl (F5 (Aw9 hm1) ?_)
  have hw:IntKind.i64.wrap (((S4 l1:Nat):Int)+((e.key.size+e.val.length:Nat):Int))=((S4 (l1++[e]):Nat):Int):=by
   rw[C2 (by omega) (by omega)];omega
  simp only[hw]
  refine A5 rfl (E3 ((e.id,M0 e (C9 none l1) none)::e.seg) ((mk,Obj.map mes clock)::(O8 none l1 (some e.id)++Al3 l1)++A0) rfl rfl (by simp) (.inl (Nat.le_refl _)) #[.i room,.i ((S4 (l1++[e]):Nat):Int),.q (pt (C8 (l1++[e]) none)),.q (some ⟨e.id,0,none⟩),.map (some mk)] rfl ?_)
  refine A5 rfl (A6 (some mk) (q_map (room:=room) (bytes:=((S4 (l1++[e]):Nat):Int)) (o:=C8 (l1++[e]) none) (y:=some e.id) hm1) ?_)
  refine Bd7 mapQ (((e.id,M0 e (C9 none l1) none)::e.seg)++[(m,qG room ((S4 (l1++[e]):Nat):Int) (C8 (l1++[e]) none) (some e.id) mk)]) ((O8 none l1 (some e.id)++Al3 l1)++A0) (es:=mes) (clock:=clock) (by simp[qG,pt]) hm e.key _ fun mes' clock' hm'=>?_
  rw[Bh4 l1 e.key _ hnot]at hm'
  have hmap:A76 l1++[(e.key,Value.q (some ⟨e.id,0,none⟩))]=A76 (l1++[e]):=by simp[A76,pt]
  rw[hmap]at hm'
  refine .drop (A:=QL m room (l1++[e]) mk mes' clock'++A0) (J:=[]) ⟨rfl,_,e,rfl,⟨mk,mes',clock',rfl,hm',hok⟩,rfl,rfl,hfr0⟩ ?_
  have hlast:C9 none (l1++[e])=some e.id:=by rw[Y5]
  have hseg:Al3 (l1++[e])=Al3 l1++e.seg:=by unfold Al3;simp
  unfold QL
  rw[Ac1,hseg]
  have hq:qO room (l1++[e]) mk (S4 (l1++[e]))=qG room ((S4 (l1++[e]):Nat):Int) (C8 (l1++[e]) none) (some e.id) mk:=by unfold qO;rw[hlast];rfl
  rw[hq]
  classical
  rw[List.perm_iff_count]
  intro x
  simp only[List.append_eq,List.cons_append,List.nil_append,List.append_nil,List.count_append,List.count_cons,List.count_nil]
  omega
 ·intro j hj
  rw[hnode]
  rcases A33 l1 with rfl|⟨p0,a,rfl⟩
  ·refine A5 rfl (A6 (pt (C9 none [])) (Ca6 (room:=room) (bytes:=S4 []) (o:=C8 [] none) (mk:=mk) (by simp)) (ifF rfl (A5 rfl ?_)))
   refine E3 (n:=m) (off:=2) (c:=#[.i room,.i (S4 []),.q (pt (C8 [] none)),.q (pt (C9 none [])),.map (some mk)]) (T:=182) (fz:=(0,0)) ((e.id,M0 e (C9 none []) none)::e.seg) ((mk,Obj.map mes clock)::(O8 none [] none++Al3 [])++A0) rfl (by simp[qG]) (by simp) (.inl (Nat.le_refl _)) #[.i room,.i (S4 []),.q (some ⟨e.id,0,none⟩),.q (pt (C9 none [])),.map (some mk)] rfl (hj _ _ ?_)
   rfl
  ·refine A5 rfl (A6 (pt (C9 none (p0++[a]))) (Ca6 (room:=room) (bytes:=S4 (p0++[a])) (o:=C8 (p0++[a]) none) (mk:=mk) (by simp)) ?_)
   rw[Y5]
   refine ifT rfl (A5 rfl (A6 (pt (some a.id)) (Ca6 (room:=room) (bytes:=S4 (p0++[a])) (o:=C8 (p0++[a]) none) (mk:=mk) (by simp)) (A5 rfl ?_)))
   refine E3 (n:=a.id) (off:=4) (c:=#[.w a.key,.slice a.v.a a.v.len a.v.cap,.i a.freq,.q (pt (C9 none p0)),.q (pt none)]) (T:=184) (fz:=(0,0))
    ((e.id,M0 e (some a.id) none)::(e.seg++((m,qG room (S4 (p0++[a])) (C8 (p0++[a]) none) (some a.id) mk)::(mk,Obj.map mes clock)::O8 none p0 (some a.id))))
    (Al3 (p0++[a])++A0) rfl (by simp[Ac1,M0]) (by simp) (.inl (Nat.le_refl _)) #[.w a.key,.slice a.v.a a.v.len a.v.cap,.i a.freq,.q (pt (C9 none p0)),.q (some ⟨e.id,0,none⟩)] rfl (hj _ _ ?_)
   have hh:C8 (p0++[a]++[e]) none=C8 (p0++[a]) none:=by rw[P9];cases p0<;>rfl
   rw[hh,Ac1,Y5]
   simp[M0,pt]
def As8(e:QE):QE:={e with freq:=Ab3 (e.freq+1) 3}
def Bp1(l:List QE)(k:ByteArray):List QE:=l.map fun e=>if e.key=k then As8 e else e
theorem Cr9{p s:List QE}{e:QE}(h:((p++e::s).map QE.key).Nodup):Bp1 (p++e::s) e.key=p++As8 e::s:=by
 rw[List.map_append,List.map_cons]at h
 have h2:(e.key::(p.map QE.key++s.map QE.key)).Nodup:=(List.perm_middle.nodup_iff).1 h
 have h3:=(List.nodup_cons.1 h2).1
 rw[List.mem_append,not_or]at h3
 have id_of: ∀l:List QE,e.key∉l.map QE.key->l.map (fun x=>if x.key=e.key then As8 x else x)=l:=by
  intro l hl
  induction l with
  |nil=>rfl
  |cons a r ih=>
   rw[List.map_cons,List.mem_cons,not_or]at hl
   rw[List.map_cons,if_neg (fun he=>hl.1 he.symm),ih hl.2]
 unfold Bp1
 rw[List.map_append,List.map_cons,id_of p h3.1,id_of s h3.2,if_pos rfl]
theorem Df6{p s:List QE}{e:QE}(ok:QOk (p++e::s)):QOk (p++As8 e::s):=by
 have hk:(p++As8 e::s).map QE.key=(p++e::s).map QE.key:=by simp[As8]
 have hx: ∀x,x∈p++As8 e::s->x=As8 e\/x∈p++e::s:=by
  intro x hx
  rw[List.mem_append,List.mem_cons]at hx
  rcases hx with h|h|h
  ·exact .inr (by simp[h])
  ·exact .inl h
  ·exact .inr (by simp[h])
 have he:e∈p++e::s:=by simp
 refine⟨fun x h=>?_,fun x h=>?_,?_,by rw[hk];exact ok.nd,fun x h=>?_⟩
 ·rcases hx x h with rfl|h
  ·exact ok.own e he
  ·exact ok.own x h
 ·rcases hx x h with rfl|h
  ·exact ok.small e he
  ·exact ok.small x h
 ·have:=ok.few
  rw[List.length_append,List.length_cons]at this⊢
  exact this
 ·rcases hx x h with rfl|h
  ·have:=ok.fr e he
   show 0<=Ab3 (e.freq+1) 3/\Ab3 (e.freq+1) 3<=3
   unfold Ab3;split<;>omega
  ·exact ok.fr x h
theorem Dg3(m:Nat)(room:Int)(p s:List QE)(e:QE)(mk:Nat)(mes:Array MapEntry)(clock:Nat):QL m room (p++e::s) mk mes clock=
  (m,qG room (S4 (p++e::s)) (C8 (p++e::s) none) (C9 none (p++e::s)) mk)::(mk,Obj.map mes clock)::((O8 none p (some e.id)++(e.id,M0 e (C9 none p) (C8 s none))::O8 (some e.id) s none)++Al3 (p++e::s)):=by
 unfold QL
 rw[V3]
 rfl
theorem A88{m:Nat}{room:Int}{p s:List QE}{e:QE}{mk:Nat}{mes:Array MapEntry}{clock:Nat}:(e.id,M0 e (C9 none p) (C8 s none))∈QL m room (p++e::s) mk mes clock:=by
 rw[Dg3];simp
theorem B86{m:Nat}{room:Int}{l:List QE}{mk:Nat}{mes:Array MapEntry}{clock:Nat}: ∀x∈Al3 l,x∈QL m room l mk mes clock:=by
 intro x hx
 unfold QL;simp[hx]
theorem C18{l:List QE}{e:QE}{L:A4}(ok:QOk l)(he:e∈l)(hL: ∀x∈Al3 l,x∈L):BSl L e.v e.val:=
 (ok.own e he).sl.mono fun x hx=>hL x (List.mem_flatMap.2 ⟨e,he,hx⟩)
theorem Cr1(m:Nat)(room:Int)(l:List QE)(A:A4)(h:QH m room l A)(k:ByteArray):
  CallF PP 54 #[.q (some ⟨m,0,none⟩),.w k] A fun r L'=> ∃(u:SlV) (seg:A4),r= .t #[.slice u.a u.len u.cap,.b (V1 l k).isSome]/\L'=seg++A/\Own u 1 tyb (bvs (((V1 l k).map QE.val).getD [])) seg:=by
 refine CallF.of (args:=[.q (some ⟨m,0,none⟩),.w k]) B5 B6 Tryz.func54 (e54 (some ⟨m,0,none⟩) k _) ?_
 unfold t54
 refine B7 (A77 m room l A h k) (pt ((V1 l k).map QE.id),()) rfl ?_
 cases hf:V1 l k with
 |none=>exact ifT rfl (.of ⟨⟨none,0,0⟩,[],rfl,rfl,⟨rfl,Nat.le_refl _,.inl ⟨rfl,rfl,rfl⟩⟩⟩)
 |some e=>
  obtain⟨mk,mes,clock,rfl,hm,ok⟩:=h
  obtain⟨p,s,rfl,rfl,hd⟩:=Ah7 hf
  have he:e∈p++e::s:=by simp
  have hsm:=ok.small e he
  refine ifF rfl (C3 fun n1 _=>A5 rfl (A6 e.v (Bw2 (List.mem_cons_of_mem _ A88)) ?_))
  have hsl:=C18 (L:=(n1,Obj.cells #[] tyb)::QL m room (p++e::s) mk mes clock) ok he (fun x hx=>List.mem_cons_of_mem _ (B86 x hx))
  have hvl:=hsl.len
  refine E6 De7 srcY [] (QL m room (p++e::s) mk mes clock) Da2 rfl (.sl hsl) (K5 _) (by first|omega|(simp only;omega)) fun u seg hu own=>?_
  exact .of ⟨u,seg,rfl,rfl,by simpa using own⟩
theorem C90(m:Nat)(room:Int)(l:List QE)(A:A4)(h:QH m room l A)(k:ByteArray):
  CallF PP 59 #[.q (some ⟨m,0,none⟩),.w k] A fun r L'=> ∃(u:SlV) (seg A':A4),r= .t #[.slice u.a u.len u.cap,.b (V1 l k).isSome]/\L'=seg++A'/\Own u 1 tyb (bvs (((V1 l k).map QE.val).getD [])) seg/\QH m room (Bp1 l k) A':=by
 refine CallF.of (args:=[.q (some ⟨m,0,none⟩),.w k]) B5 B6 Tryz.func59 (e59 (some ⟨m,0,none⟩) k _) ?_
 unfold t59
 refine B7 (A77 m room l A h k) (pt ((V1 l k).map QE.id),()) rfl ?_
 cases hf:V1 l k with
 |none=>
  have hb:Bp1 l k=l:=by
   have hn:=(Ah8 hf).2
   unfold Bp1
   clear hf h
   induction l with
   |nil=>rfl
   |cons a r ih=>
    rw[List.map_cons,List.mem_cons,not_or]at hn
    rw[List.map_cons,if_neg (fun he=>hn.1 he.symm),ih hn.2]
  exact ifT rfl (.of ⟨⟨none,0,0⟩,[],A,rfl,rfl,⟨rfl,Nat.le_refl _,.inl ⟨rfl,rfl,rfl⟩⟩,by rw[hb];exact h⟩)
 |some e=>
  obtain⟨mk,mes,clock,rfl,hm,ok⟩:=h
  obtain⟨p,s,rfl,rfl,hd⟩:=Ah7 hf
  have he:e∈p++e::s:=by simp
  have hsm:=ok.small e he
  have hfr:=ok.fr e he
  have hw:IntKind.i64.wrap (e.freq+1)=e.freq+1:=C2 (by omega) (by omega)
  refine ifF rfl (A5 rfl (A6 e.freq (Cc5 A88) (A5 rfl ?_)))
  rw[hw]
  have ok':=Df6 ok
  have he':As8 e∈p++As8 e::s:=by simp
  refine E3 (n:=e.id) (off:=2) (c:=#[.w e.key,.slice e.v.a e.v.len e.v.cap,.i e.freq,.q (pt (C9 none p)),.q (pt (C8 s none))]) (T:=184) (fz:=(0,0))
   ((m,qG room (S4 (p++e::s)) (C8 (p++e::s) none) (C9 none (p++e::s)) mk)::(mk,Obj.map mes clock)::O8 none p (some e.id)) (O8 (some e.id) s none++Al3 (p++e::s)) rfl (by rw[Dg3];simp[M0]) (by simp) (.inl (Nat.le_refl _))
   #[.w e.key,.slice e.v.a e.v.len e.v.cap,.i (Ab3 (e.freq+1) 3),.q (pt (C9 none p)),.q (pt (C8 s none))] rfl ?_
  have e1:S4 (p++e::s)=S4 (p++As8 e::s):=by simp[S4,As8]
  have e2:C8 (p++e::s) none=C8 (p++As8 e::s) none:=by rw[P9,P9];rfl
  have e3:C9 none (p++e::s)=C9 none (p++As8 e::s):=by rw[P8,P8];rfl
  have e4:Al3 (p++e::s)=Al3 (p++As8 e::s):=by simp[Al3,As8]
  have e5:A76 (p++e::s)=A76 (p++As8 e::s):=by simp[A76,As8]
  have hL:((m,qG room (S4 (p++e::s)) (C8 (p++e::s) none) (C9 none (p++e::s)) mk)::(mk,Obj.map mes clock)::O8 none p (some e.id))++(e.id,Obj.cells #[.w e.key,.slice e.v.a e.v.len e.v.cap,.i (Ab3 (e.freq+1) 3),.q (pt (C9 none p)),.q (pt (C8 s none))] 184)::(O8 (some e.id) s none++Al3 (p++e::s))=
    QL m room (p++As8 e::s) mk mes clock:=by
   rw[Dg3,<-e1,<-e2,<-e3,<-e4]
   simp[As8,M0]
  rw[hL]
  refine C3 fun n1 _=>A5 rfl (A6 e.v (Bw2 (e:=As8 e) (List.mem_cons_of_mem _ A88)) ?_)
  have hsl:=C18 (L:=(n1,Obj.cells #[] tyb)::QL m room (p++As8 e::s) mk mes clock) ok' he' (fun x hx=>List.mem_cons_of_mem _ (B86 x hx))
  have hvl:e.v.len=e.val.length:=hsl.len
  refine E6 De7 srcY [] (QL m room (p++As8 e::s) mk mes clock) Da2 rfl (.sl hsl) (K5 _) (by first|omega|(simp only;omega)|(show(0+e.v.len)*1<=_;omega)) fun u seg hu own=>?_
  rw[Cr9 ok.nd]
  refine .of ⟨u,seg,_,rfl,rfl,own,mk,mes,clock,rfl,by rw[<-e5];exact hm,ok'⟩
theorem C89(m:Nat)(room:Int)(l:List QE)(A:A4)(h:QH m room l A)(k:ByteArray):Reads PP 52 #[.q (some ⟨m,0,none⟩),.w k] A (.b (V1 l k).isSome):=by
 refine Reads.of (args:=[.q (some ⟨m,0,none⟩),.w k]) B5 B6 Tryz.func52 (e52 (some ⟨m,0,none⟩) k _) ?_
 unfold t52
 refine B7 (A77 m room l A h k) (pt ((V1 l k).map QE.id),()) rfl (.of ⟨?_,rfl⟩)
 cases V1 l k<;>rfl
theorem C88(m:Nat)(room:Int)(l:List QE)(A:A4)(h:QH m room l A):Reads PP 70 #[.q (some ⟨m,0,none⟩)] A (.i l.length):=by
 obtain⟨mk,mes,clock,rfl,hm,ok⟩:=h
 refine Reads.of (args:=[.q (some ⟨m,0,none⟩)]) B5 B6 Tryz.func70 (e70 (some ⟨m,0,none⟩) _) ?_
 unfold t70
 refine ifF rfl (A5 rfl (A6 (some mk) (q_map (room:=room) (bytes:=S4 l) (o:=C8 l none) (y:=C9 none l) List.mem_cons_self) ?_))
 have hlen:mes.size=l.length:=by rw[hm.size];simp[A76]
 refine⟨((l.length:Int),()),?_,.of ⟨rfl,rfl⟩⟩
 have:=Db4 (P:=PP) (L:=QL m room l mk mes clock) (t:=tyM) (ty:=3) mapQ.und (r:=mk) (es:=mes) (clock:=clock) (by unfold QL;simp)
 rw[hlen]at this
 exact this
theorem Cr2(m:Nat)(room:Int)(l:List QE)(A:A4)(h:QH m room l A):Reads PP 113 #[.q (some ⟨m,0,none⟩)] A (.b (decide ((S4 l:Int)>room))):=by
 obtain⟨mk,mes,clock,rfl,hm,ok⟩:=h
 refine Reads.of (args:=[.q (some ⟨m,0,none⟩)]) B5 B6 Tryz.func113 (e113 (some ⟨m,0,none⟩) _) ?_
 unfold t113
 exact ifT rfl (A5 rfl (A5 rfl (A6 ((S4 l:Nat):Int) (Aw9 (room:=room) (o:=C8 l none) (y:=C9 none l) (mk:=mk) List.mem_cons_self) (A6 room (q_room (bytes:=S4 l) (o:=C8 l none) (y:=C9 none l) (mk:=mk) List.mem_cons_self) (.of ⟨rfl,rfl⟩)))))
theorem C86(m:Nat)(room:Int)(e:QE)(s:List QE)(A:A4)(h:QH m room (e::s) A):
  CallF PP 114 #[.q (some ⟨m,0,none⟩)] A fun r L'=>r= .t #[.agg #[.w e.key,.slice e.v.a e.v.len e.v.cap,.i e.freq],.b true]/\ ∃A',L'=A'++e.seg/\QH m room s A':=by
 obtain⟨mk,mes,clock,rfl,hm,ok⟩:=h
 refine CallF.of (args:=[.q (some ⟨m,0,none⟩)]) B5 B6 Tryz.func114 (e114 (some ⟨m,0,none⟩) _) ?_
 unfold t114
 have hold: ∀{n1:Nat} {o:Obj},D4 ⟨m,2,none⟩ [.q (pt (some e.id))] ((n1,o)::QL m room (e::s) mk mes clock):=q_old (room:=room) (bytes:=S4 (e::s)) (o:=some e.id) (y:=C9 none (e::s)) (mk:=mk) (List.mem_cons_of_mem _ List.mem_cons_self)
 refine C3 fun n1 _=>ifF rfl (A5 rfl (A6 (pt (some e.id)) hold (ifF rfl (A5 rfl (A6 (pt (some e.id)) hold ?_)))))
 refine J5 [(n1,Obj.cells #[.w ByteArray.empty,.slice none 0 0,.i 0] 179)] [] (Bd8 m room [] s e mk mes clock hm ok) (by simp) ?_
 rintro _ _-⟨rfl,mes',clock',rfl,hm'⟩
 refine⟨(),rfl,A5 rfl (A6 (e.key,e.v,e.freq,()) (B31 (p:=C9 none []) (n:=C8 s none) (by simp)) ?_)⟩
 refine E3 (n:=n1) (off:=0) (c:=#[.w ByteArray.empty,.slice none 0 0,.i 0]) (T:=179) (fz:=(0,0)) [] ((QL m room ([]++s) mk mes' clock'++((e.id,M0 e (C9 none []) (C8 s none))::e.seg))++[]) rfl rfl (by simp) (.inl (Nat.le_refl _)) #[.w e.key,.slice e.v.a e.v.len e.v.cap,.i e.freq] rfl ?_
 refine A6 (e.key,e.v,e.freq,()) (ldB (n:=n1) (c:=#[.w e.key,.slice e.v.a e.v.len e.v.cap,.i e.freq]) (T:=179) (fz:=(0,0)) List.mem_cons_self rfl) ?_
 refine .drop (A:=QL m room s mk mes' clock'++e.seg) (J:=[(n1,Obj.cells #[.w e.key,.slice e.v.a e.v.len e.v.cap,.i e.freq] 179),(e.id,M0 e (C9 none []) (C8 s none))]) ⟨rfl,_,rfl,mk,mes',clock',rfl,hm',ok.sub (p:=[])⟩ ?_
 classical
 rw[List.perm_iff_count]
 intro x
 simp only[List.nil_append,List.append_nil,List.count_append,List.count_cons,List.count_nil]
 omega
structure Reg where
 b:Int
 ep:Int
 nx:Int
 l:List It
abbrev QD:=ByteArray×List UInt8×Int
structure SC where
 c:Cfg
 sets:Int
 ways:Int
 small:Int
 ghost:Int
 rate:Int
 burst:Int
 seed:Int
structure Sto where
 sc:SC
 d:Dev
 ss:List BS
 rs:List Reg
 op:Option Reg
 bk:Bk
 epoch:Int
 pend:List It
 down:Bool
 q:List QD
 gh:List Int
 ix:List (List D0)
def T2(c:Cfg):Cf:=((c.B:Int),(c.P:Int),(c.S:Int),(c.W:Int),())
def Sto.us(s:Sto):List Int:=s.rs.map Reg.b++(s.op.map Reg.b).toList
def Sto.hash(s:Sto)(key:ByteArray):Nat:=(Bq5 s.sc.seed key.data.toList).toNat
def Sto.cost(s:Sto)(n:Int):Int:=n*s.sc.c.S
def Sto.pays(s:Sto)(n:Int):Bool:=decide (s.bk.tokens≥s.cost n)
def Sto.fits(s:Sto)(n:Int):Bool:=match s.op with|none=>false|some o=>decide (o.nx+n<s.sc.c.P)
def Sto.met(s:Sto)(e:Int):Sto:={s with down:=s.down||decide (e=11)}
def Sto.pay(s:Sto)(n:Int):Sto:={s with bk:=Ad4 s.bk (s.cost n)}
def Sto.dev(s:Sto)(d:Dev):Sto:={s with d:=d}
def Reg.grown(o:Reg)(kind:Int)(n:Nat):Reg:={o with nx:=o.nx+n,l:=o.l++[(kind,o.nx,(n:Int),())]}
def Sto.write(s:Sto)(kind:Int)(parts:List (List UInt8)):Sto×It×Int:=
 match s.op with
 |none=>(s,(0,0,0,()),0)
 |some o=>
  let q:=Ai6 s.d o.b o.ep o.nx kind parts
  let s1:=(s.pay parts.length).dev q.2
  if q.1≠0 then(s1.met q.1,(o.b,o.nx,o.ep,()),q.1)else({s1 with op:=some (o.grown kind parts.length)},(o.b,o.nx,o.ep,()),0)
def Sto.seals(s:Sto):Sto×Int:=
 match s.op with
 |none=>(s,0)
 |some o=>
  let q:=T4 s.d o.b o.ep o.nx o.l
  (({(s.pay 1).dev q.2 with op:=none,rs:=s.rs++[o]}).met q.1,q.1)
def Sto.begins(s:Sto)(b:Int):Sto×Int:=
 let q:=S8 s.d b (s.epoch+1)
 let s1:=(s.pay 1).dev q.2
 if q.1≠0 then(s1.met q.1,q.1)else({s1 with epoch:=s.epoch+1,op:=some ⟨b,s.epoch+1,1,[]⟩},0)
def Sto.erase(s:Sto)(b:Int):Sto×Int:=
 let q:=G2 s.d b
 if q.1=11 then((s.dev q.2).met 11,11)else
 ({s.dev q.2 with ss:=if H1 s.ss b=true then Ad5 s.ss b (T9 (decide (q.1=10)))else s.ss,rs:=s.rs.filter fun r=> !decide (r.b=b)},0)
def Sto.list(s:Sto)(key:ByteArray)(p:It):Sto:=
 let h:=s.hash key
 {s with ix:=C28 s.ix s.sc.ways h p,pend:=if Ad7 (H0 (P5 s.ix h) (inm h p)) s.sc.ways=true then s.pend++[(Cg1 (P5 s.ix h) s.sc.ways h p).pl]else s.pend}
def Sto.ixdrop(s:Sto)(h:Nat)(p:It):Sto:={s with ix:=iset s.ix h (H0 (P5 s.ix h) (inm h p))}
def Sto.move(s:Sto)(p:It)(n beside:Int):Sto×Int:=
 let f:=C5 s.d p
 let h:=s.hash (As3 f.1)
 if f.2.2≠0\/p∉Q2 (P5 s.ix h) h then(s,0)else
 if Az1 s.ix h p=0\/s.fits (n+beside)=false\/s.pays (n+beside)=false then(s.ixdrop h p,0)else
 let c:=Q8 f.1 f.2.1 (T2 s.sc.c)
 if c.2≠0 then(s,c.2)else
 let w:=s.write 2 c.1
 if w.2.2=0 then({w.1 with ix:=Az0 w.1.ix h p w.2.1},0)else(w.1,w.2.2)
def Sto.moves(b ep beside:Int):List It->Sto->Sto×Int
 |[],s=>(s,0)
 |x::r,s=>if x.1≠2 then Sto.moves b ep beside r s else
  let w:=s.move (b,x.2.1,ep,()) x.2.2.1 beside
  if w.2≠0 then w else Sto.moves b ep beside r w.1
def Sto.reclaim(s:Sto)(h:Reg)(beside:Int):Sto×Int:=
 let w:=Sto.moves h.b h.ep beside h.l s
 if w.2≠0 then w else Sto.erase {w.1 with pend:=w.1.pend.filter fun p=> !decide (p.1=h.b)} h.b
def Sto.free(s:Sto):Int:=A63 s.ss s.us
def Sto.frees(n:Int):Nat->Sto->Sto×Int
 |0,s=>(s,0)
 |k+1,s=>if s.free=0 then(match s.rs with
  |[]=>(s,0)
  |h::_=>let w:=s.reclaim h n
   if w.2≠0 then w else Sto.frees n k w.1)else(s,0)
def Sto.badAt(s:Sto)(b:Int):Bool:=match s.d.bs[b.toNat]? with|some k=>k.bad|none=>false
def Sto.sealN(s:Sto):Int:=match s.op with|none=>0|some _=>1
def Sto.more(s:Sto)(n:Int):Sto×Int:=
 if s.pays (n+1+s.sealN)=false then(s,13)else
 if s.epoch≥1073741824 then(s,7)else
 if s.free=0 then(match s.rs with
  |[]=>(s,7)
  |h::_=>s.reclaim h n)else
 let w:=s.seals
 if w.2≠0 then w else
 let p:=E9 w.1.ss w.1.us
 let z:=if p.2.1.dirty then w.1.erase p.2.2 else(w.1,0)
 if z.2≠0 then z else
 if p.2.1.dirty=true/\z.1.badAt p.2.2=true then(z.1,0)else
 let y:=z.1.begins p.2.2
 if y.2≠0 then y else Sto.frees n (y.1.rs.length+1) y.1
def Sto.room(n:Int):Nat->Sto->Sto×Int
 |0,s=>(s,13)
 |k+1,s=>if s.fits n=true then(if s.pays n=true then(s,0)else(s,13))else
  let w:=s.more n
  if w.2≠0 then w else Sto.room n k w.1
def Sto.mu(s:Sto):Nat:=s.bk.tokens.toNat*1000+s.ss.length*20+s.us.length
def Sto.roomy(s:Sto)(n:Int):Sto×Int:=Sto.room n (s.mu+1) s
def Sto.adm(s:Sto)(key:ByteArray)(val:List UInt8):Sto×Int:=
 let c:=Q8 key.data.toList val (T2 s.sc.c)
 if c.2≠0 then(s,c.2)else
 let w:=s.roomy c.1.length
 if w.2≠0 then w else
 let z:=w.1.write 2 c.1
 if z.2.2=0 then(z.1.list key z.2.1,0)else(z.1,z.2.2)
def Sto.place(s:Sto)(key:ByteArray):Option It:=(Q2 (P5 s.ix (s.hash key)) (s.hash key)).find? fun p=>decide ((C5 s.d p).2.2=0/\As3 (C5 s.d p).1=key)
def U7(l:List QD)(k:ByteArray):Option QD:=l.find? fun e=>decide (k=e.1)
def Ad0(l:List QD)(k:ByteArray):List QD:=l.eraseP fun e=>decide (k=e.1)
def As7(l:List QD)(k:ByteArray):List QD:=l.map fun e=>if e.1=k then(e.1,e.2.1,Ab3 (e.2.2+1) 3)else e
def By9(l:List QD):Nat:=(l.map fun e=>e.1.size+e.2.1.length).sum
def Sto.forget(s:Sto)(key:ByteArray):Sto×Bool:=
 let s1:={s with q:=Ad0 s.q key}
 match s1.place key with
 |none=>(s1,(U7 s.q key).isSome)
 |some p=>({s1.ixdrop (s.hash key) p with pend:=s.pend++[p]},true)
def Sto.trim:Nat->Sto->Sto×Int
 |0,s=>(s,0)
 |k+1,s=>if(By9 s.q:Int)>s.sc.small then(match s.q with
  |[]=>(s,0)
  |y::r=>
   let s1:={s with q:=r}
   let w:=if y.2.2>0 then s1.adm y.1 y.2.1 else(s1,8)
   if w.2=0 then Sto.trim k w.1 else if w.2=11 then w else Sto.trim k {w.1 with gh:=B40 s.sc.ghost w.1.gh (s.hash y.1)})else(s,0)
def Sto.asked(s:Sto)(key:ByteArray):Int:=if s.down=true then 11 else if key.size=0\/key.size>255 then 2 else 0
def Sto.putYoung(s:Sto)(key:ByteArray)(val:List UInt8):Sto×Int:=Sto.trim (s.q.length+2) {s with q:=Ad0 s.q key++[(key,val,0)]}
def Sto.put(s:Sto)(key:ByteArray)(val:List UInt8):Sto×Int:=
 if s.asked key≠0 then(s,s.asked key)else
 if val.length>65536 then(s,4)else
 let s1:=(s.forget key).1
 if H4 key.size val.length (T2 s.sc.c)=0 then(s1,14)else
 let h:=s.hash key
 if(h:Int)∈s1.gh then
  let s2:={s1 with gh:=s1.gh.erase (h:Int)}
  let w:=s2.adm key val
  if w.2=0\/w.2=11 then w else w.1.putYoung key val
 else s1.putYoung key val
def Sto.get(s:Sto)(key:ByteArray):Sto×List UInt8×Int:=
 if s.asked key≠0 then(s,[],s.asked key)else
 match U7 s.q key with
 |some e=>({s with q:=As7 s.q key},e.2.1,0)
 |none=>match s.place key with
  |none=>(s,[],8)
  |some p=>({s with ix:=iset s.ix (s.hash key) (As6 (P5 s.ix (s.hash key)) (inm (s.hash key) p))},(C5 s.d p).2.1,0)
def Sto.peek(s:Sto)(key:ByteArray):List UInt8×Int:=
 if s.asked key≠0 then([],s.asked key)else
 match U7 s.q key with
 |some e=>(e.2.1,0)
 |none=>match s.place key with
  |none=>([],8)
  |some p=>((C5 s.d p).2.1,0)
def Sto.delete(s:Sto)(key:ByteArray):Sto×Bool×Int:=if s.asked key≠0 then(s,false,s.asked key)else((s.forget key).1,(s.forget key).2,0)
def Sto.flushes:Nat->Sto->Sto×Int
 |0,s=>(s,0)
 |k+1,s=>match s.pend with
  |[]=>(s,0)
  |p::r=>
   let w:=s.roomy 1
   if w.2≠0 then w else
   let n:=min w.1.pend.length (C7 w.1.sc.c.S/6).toNat
   if n=0 then(w.1,0)else
   let l:=S2 (w.1.pend.take n)
   if l.2≠0 then(w.1,l.2)else
   let z:=w.1.write 3 [l.1]
   if z.2.2≠0 then(z.1,z.2.2)else Sto.flushes k {z.1 with pend:=z.1.pend.drop n}
def Sto.flush(s:Sto):Sto×Int:=if s.down=true then(s,11)else Sto.flushes (s.pend.length+1) s
def Sto.tick(s:Sto)(now:Int):Sto:=if s.down=true then s else{s with bk:=Ad3 s.bk now}
def Sto.has(s:Sto)(key:ByteArray):Int:=if s.asked key≠0 then 0 else if(U7 s.q key).isSome then 1 else if(s.place key).isSome then 2 else 0
theorem _root_.Go.HL.CallF.imp{P:Program}{f:FuncId}{args:Array Value}{L:A4}{K K':Value->HP}(h:CallF P f args L K)(hk: ∀v L',K v L'->K' v L'):CallF P f args L K':=CallF.mono h fun v L' _ hK=>hk v L' hK
def QE.dat(e:QE):QD:=(e.key,e.val,e.freq)
def QHd(m:Nat)(room:Int)(l:List QD)(A:A4):Prop:= ∃l':List QE,QH m room l' A/\l'.map QE.dat=l
theorem Ac9(l:List QE)(k:ByteArray):U7 (l.map QE.dat) k=(V1 l k).map QE.dat:=by
 unfold U7 V1
 rw[List.find?_map];rfl
theorem Bl2(l:List QE)(k:ByteArray):Ad0 (l.map QE.dat) k=(Aw8 l k).map QE.dat:=by
 unfold Ad0 Aw8
 rw[List.eraseP_map];rfl
theorem Cj5(l:List QE)(k:ByteArray):As7 (l.map QE.dat) k=(Bp1 l k).map QE.dat:=by
 unfold As7 Bp1
 rw[List.map_map,List.map_map]
 refine List.map_congr_left fun e _=>?_
 by_cases h:e.key=k
 ·simp[Function.comp,QE.dat,As8,h]
 ·simp[Function.comp,QE.dat,As8,h]
theorem Cx6(l:List QE):By9 (l.map QE.dat)=S4 l:=by
 unfold By9 S4
 rw[List.map_map];rfl
theorem Cr5(room:Int):CallF PP 97 #[.i room] [] fun r L'=> ∃m,r= .q (some ⟨m,0,none⟩)/\QHd m (Z6 room 0) [] L':=
 (C87 room).imp fun r L' ⟨m,e,h⟩=>⟨m,e,[],h,rfl⟩
theorem Ca5(m:Nat)(room:Int)(l:List QD)(A:A4)(h:QHd m room l A)(k:ByteArray):
  CallF PP 105 #[.q (some ⟨m,0,none⟩),.w k] A fun r L'=>r= .b (U7 l k).isSome/\QHd m room (Ad0 l k) L':=by
 obtain⟨l',h,rfl⟩:=h
 refine(Bv2 m room l' A h k).imp ?_
 rintro r L' ⟨rfl,h'⟩
 refine⟨by rw[Ac9,Option.isSome_map],_,h',(Bl2 l' k).symm⟩
theorem Cr3(m:Nat)(room:Int)(l:List QD)(A A0:A4)(h:QHd m room l A)(hfew:l.length<100000)(k:ByteArray)(hk:k.size<=100000)(v:SlV)(b:List UInt8)(hv:BSl A0 v b)(hb:b.length<=100000):
  CallF PP 50 #[.q (some ⟨m,0,none⟩),.w k,.slice v.a v.len v.cap] (A++A0) fun r L'=>r= .t #[]/\ ∃A',L'=A'++A0/\QHd m room (Ad0 l k++[(k,b,0)]) A':=by
 obtain⟨l',h,rfl⟩:=h
 rw[List.length_map]at hfew
 refine(C85 m room l' A A0 h hfew k hk v b hv hb).imp ?_
 rintro r L' ⟨rfl,A',e,rfl,h',rfl,rfl,hf⟩
 refine⟨rfl,A',rfl,_,h',?_⟩
 rw[Bl2,List.map_append]
 simp[QE.dat,hf]
theorem Ca3(m:Nat)(room:Int)(l:List QD)(A:A4)(h:QHd m room l A)(k:ByteArray):
  CallF PP 54 #[.q (some ⟨m,0,none⟩),.w k] A fun r L'=> ∃(u:SlV) (seg:A4),r= .t #[.slice u.a u.len u.cap,.b (U7 l k).isSome]/\L'=seg++A/\Own u 1 tyb (bvs (((U7 l k).map fun e=>e.2.1).getD [])) seg:=by
 obtain⟨l',h,rfl⟩:=h
 refine(Cr1 m room l' A h k).imp ?_
 rintro r L' ⟨u,seg,rfl,rfl,o⟩
 refine⟨u,seg,by rw[Ac9,Option.isSome_map],rfl,?_⟩
 rw[Ac9,Option.map_map];exact o
theorem Cr8(m:Nat)(room:Int)(l:List QD)(A:A4)(h:QHd m room l A)(k:ByteArray):
  CallF PP 59 #[.q (some ⟨m,0,none⟩),.w k] A fun r L'=> ∃(u:SlV) (seg A':A4),r= .t #[.slice u.a u.len u.cap,.b (U7 l k).isSome]/\L'=seg++A'/\Own u 1 tyb (bvs (((U7 l k).map fun e=>e.2.1).getD [])) seg/\QHd m room (As7 l k) A':=by
 obtain⟨l',h,rfl⟩:=h
 refine(C90 m room l' A h k).imp ?_
 rintro r L' ⟨u,seg,A',rfl,rfl,o,h'⟩
 refine⟨u,seg,A',by rw[Ac9,Option.isSome_map],rfl,?_,_,h',(Cj5 l' k).symm⟩
 rw[Ac9,Option.map_map];exact o
theorem Cr7(m:Nat)(room:Int)(l:List QD)(A:A4)(h:QHd m room l A)(k:ByteArray):Reads PP 52 #[.q (some ⟨m,0,none⟩),.w k] A (.b (U7 l k).isSome):=by
 obtain⟨l',h,rfl⟩:=h
 rw[Ac9,Option.isSome_map];exact C89 m room l' A h k
theorem Cr6(m:Nat)(room:Int)(l:List QD)(A:A4)(h:QHd m room l A):Reads PP 70 #[.q (some ⟨m,0,none⟩)] A (.i l.length):=by
 obtain⟨l',h,rfl⟩:=h
 rw[List.length_map];exact C88 m room l' A h
theorem Ca4(m:Nat)(room:Int)(l:List QD)(A:A4)(h:QHd m room l A):Reads PP 113 #[.q (some ⟨m,0,none⟩)] A (.b (decide ((By9 l:Int)>room))):=by
 obtain⟨l',h,rfl⟩:=h
 rw[Cx6];exact Cr2 m room l' A h
theorem Cr4(m:Nat)(room:Int)(e:QD)(s:List QD)(A:A4)(h:QHd m room (e::s) A):
  CallF PP 114 #[.q (some ⟨m,0,none⟩)] A fun r L'=> ∃(u:SlV) (seg A':A4),r= .t #[.agg #[.w e.1,.slice u.a u.len u.cap,.i e.2.2],.b true]/\L'=A'++seg/\BSl seg u e.2.1/\QHd m room s A':=by
 obtain⟨l',h,hl⟩:=h
 cases l' with
 |nil=>cases hl
 |cons x r=>
  injection hl with h1 h2
  subst h1;subst h2
  have ok:QOk (x::r):=by obtain⟨mk,mes,clock,rfl,hm,ok⟩:=h;exact ok
  refine(C86 m room x r A h).imp ?_
  rintro _ L' ⟨rfl,A',rfl,h'⟩
  exact⟨x.v,x.seg,A',rfl,rfl,(ok.own x (by simp)).sl,r,h',rfl⟩
theorem set_cl(n:Nat)(room:Int)(l0 l:List Int)(o:Obj)(h:GOb room l0 o)(v:SlV)(seg:A4)(hs:ISl seg v .u64 l)(hl:l.length<=64):
  CallF PP 109 #[.q (some ⟨n,0,none⟩),.slice v.a v.len v.cap] ((n,o)::seg) fun r L'=>r= .t #[]/\ ∃o',L'=(n,o')::seg/\GOb room l o':=by
 refine CallF.of (args:=[.q (some ⟨n,0,none⟩),.slice v.a v.len v.cap]) B5 B6 Tryz.func109 (e109 (some ⟨n,0,none⟩) v _) ?_
 unfold t109
 obtain⟨c,f,rfl,hsz,h0,h65,h66,hf,hl0,hr⟩:=h
 have hlen:=hs.len
 refine A5 rfl (K4 (l':=0) (h':=64) (m':=64) rfl rfl rfl (by omega) (by omega) (Nat.le_refl _) ?_)
 have hmin:min v.len 64=l.length:=by omega
 have htk:(ivs .u64 l).take (min v.len 64*1)=ivs .u64 l:=by rw[hmin];exact List.take_of_length_le (by rw[K8];omega)
 refine Ck0 (A:=[]) (B:=seg) (b:=n) (off:=1) (T:=256) (fz:=(0,0)) (c:=c) (v:=P1 ⟨some (Addr.add ⟨n,0,none⟩ 1),64,64⟩ (0:Nat) (64:Nat) (64:Nat) 1) (vs:=v) (ws:=ivs .u64 l) (sz:=1) Cx5.und (by kernel_rfl) rfl hs.cons (Ag6 _ _) ?_ (.inl (Nat.le_refl _)) ?_
 ·simp only[P1,Int.toNat_natCast];omega
 ·have hvl:(P1 ⟨some (Addr.add ⟨n,0,none⟩ 1),64,64⟩ (0:Nat) (64:Nat) (64:Nat) 1).len=64:=rfl
  rw[hvl,htk,hmin]
  have w1:=Ae6 (ivs .u64 l) c 1
  have w1s:=M9 (ivs .u64 l) c 1
  generalize wr c 1 (ivs .u64 l)=c1 at w1 w1s⊢
  refine A5 rfl (E3 (n:=n) (off:=65) [] seg rfl rfl (by rw[w1s,hsz];exact(show 66<=67 by decide)) (.inl (Nat.le_refl _)) (c1.setIfInBounds 65 (.i 0)) rfl ?_)
  refine A5 rfl (E3 (n:=n) (off:=66) [] seg rfl rfl (by rw[Array.size_setIfInBounds,w1s,hsz];exact Nat.le_refl 67) (.inl (Nat.le_refl _)) ((c1.setIfInBounds 65 (.i 0)).setIfInBounds 66 (.i l.length)) rfl ?_)
  rw[K8]at w1
  refine .of ⟨rfl,_,rfl,_,0,rfl,by simp[w1s,hsz],?_,?_,?_,by omega,hl,?_⟩
  ·rw[K9 _ _ _ _ (by rw[Array.size_setIfInBounds];omega),K9 _ _ _ _ (by omega),if_neg (by omega),if_neg (by omega),w1 _ (by omega),if_neg (by omega)];exact h0
  ·rw[K9 _ _ _ _ (by rw[Array.size_setIfInBounds];omega),K9 _ _ _ _ (by omega),if_neg (by omega),if_pos rfl];rfl
  ·rw[K9 _ _ _ _ (by rw[Array.size_setIfInBounds];omega),if_pos rfl]
  ·intro i x hx
   have hi:=(List.getElem?_eq_some_iff.1 hx).1
   have hm:(0+i)%64=i:=by omega
   rw[hm,K9 _ _ _ _ (by rw[Array.size_setIfInBounds];omega),K9 _ _ _ _ (by omega),if_neg (by omega),if_neg (by omega),w1 _ (by omega),if_pos (by omega),show 1+i-1=i by omega]
   rw[List.getElem?_eq_getElem hi]at hx
   rw[Cf3 hi,Option.some.inj hx]
theorem Cj2(n:Nat)(room:Int)(l:List Int)(o:Obj)(h:GOb room l o)(x:Int):
  CallF PP 48 #[.q (some ⟨n,0,none⟩),.int .u64 x] [(n,o)] fun r L'=>r= .b (decide (x∈l))/\ ∃o',L'=[(n,o')]/\GOb room (l.erase x) o':=by
 refine CallF.of (args:=[.q (some ⟨n,0,none⟩),.int .u64 x]) B5 B6 Tryz.func48 (e48 (some ⟨n,0,none⟩) x _) ?_
 unfold t48
 have hl:l.length<=64:=by obtain⟨_,_,_,_,_,_,_,_,hl,_⟩:=h;exact hl
 refine ifF rfl ?_
 refine J5 [] [] (C46 n room l o h) rfl ?_
 rintro w A'-⟨s,seg,rfl,rfl,own⟩
 refine⟨(s,()),rfl,?_⟩
 refine J5 [(n,o)] [] (Bv6 seg s l own.sl (by omega) x) (by simp) ?_
 rintro w A'-⟨rfl,i,rfl,hst⟩
 refine⟨(i,()),rfl,?_⟩
 refine C0 (fun(h1:i<0)=>?_) (fun(h1: ¬i<0)=>?_)
 ·have hx:x∉l:=fun e=>by have:=hst.mem.2 e;omega
  refine .drop (A:=[(n,o)]) (J:=A') ⟨by rw[decide_eq_false hx],o,rfl,by rw[List.erase_of_not_mem hx];exact h⟩ (by simp)
 ·rcases hst with⟨rfl,_⟩|⟨k,rfl,hk,hx,hn⟩
  ·omega
  ·have hw:IntKind.i64.wrap ((k:Int)+1)=(k:Int)+1:=C2 (by omega) (by omega)
   simp only[hw]
   refine J5 [(n,o)] [] (del_cl s l A' own (by omega) k hk) (by simp) ?_
   rintro w A2-⟨s2,rfl,own2⟩
   rw[<-Bm6.erase hk hx hn]at own2
   refine⟨(s2,()),rfl,?_⟩
   have hle:=Bk3 l x
   refine J5 [] [] (set_cl n room l (l.erase x) o h s2 A2 own2.sl (by omega)) (by simp) ?_
   rintro w A3-⟨rfl,o',rfl,ho'⟩
   refine⟨(),rfl,?_⟩
   have hxl:x∈l:=List.mem_of_getElem? hx
   exact .drop (A:=[(n,o')]) (J:=A2) ⟨by rw[decide_eq_true hxl],o',rfl,ho'⟩ (by simp)
theorem has_cl(n:Nat)(room:Int)(l:List Int)(o:Obj)(h:GOb room l o)(x:Int):
  Reads PP 40 #[.q (some ⟨n,0,none⟩),.int .u64 x] [(n,o)] (.b (decide (x∈l))):=by
 refine Reads.of (args:=[.q (some ⟨n,0,none⟩),.int .u64 x]) B5 B6 Tryz.func40 (e40 (some ⟨n,0,none⟩) x _) ?_
 unfold t40
 have hl:l.length<=64:=by obtain⟨_,_,_,_,_,_,_,_,hl,_⟩:=h;exact hl
 refine ifT rfl ?_
 refine J5 [] [] (C46 n room l o h) rfl ?_
 rintro w A'-⟨s,seg,rfl,rfl,own⟩
 refine⟨(s,()),rfl,?_⟩
 refine J5 [(n,o)] [] (Bv6 seg s l own.sl (by omega) x) (by simp) ?_
 rintro w A'-⟨rfl,i,rfl,hst⟩
 refine⟨(i,()),rfl,.drop (A:=[(n,o)]) (J:=A') ⟨?_,rfl⟩ (by simp)⟩
 congr 1
 exact decide_eq_decide.2 hst.mem
theorem B96{room:Int}{l:List Int}{c:Array Value}{f:Nat}(hsz:c.size=67)(h0:c[0]?=some (.i room))(h65:c[65]?=some (.i f))(hf:f<64)(hl:l.length<64)
  (hr: ∀(i:Nat) (x:Int),l[i]?=some x->c[1+(f+i)%64]?=some (.int .u64 x)) (x:Int):
  GOb room (l++[x]) (.cells ((c.setIfInBounds (1+(f+l.length)%64) (.int .u64 x)).setIfInBounds 66 (.i ((l.length:Int)+1))) 256):=by
 have hm:(f+l.length)%64<64:=Nat.mod_lt _ (by omega)
 refine⟨_,f,rfl,by simp[hsz],?_,?_,?_,hf,by rw[List.length_append];simp only[List.length_cons,List.length_nil];omega,?_⟩
 ·rw[K9 _ _ _ _ (by simp[hsz]),K9 _ _ _ _ (by omega),if_neg (by omega),if_neg (by omega)];exact h0
 ·rw[K9 _ _ _ _ (by simp[hsz]),K9 _ _ _ _ (by omega),if_neg (by omega),if_neg (by omega)];exact h65
 ·rw[K9 _ _ _ _ (by simp[hsz]),if_pos rfl,List.length_append];rfl
 ·intro i y hy
  have hmi:(f+i)%64<64:=Nat.mod_lt _ (by omega)
  have hi:=(List.getElem?_eq_some_iff.1 hy).1
  rw[List.length_append]at hi
  simp only[List.length_cons,List.length_nil]at hi
  rw[K9 _ _ _ _ (by simp[hsz]),if_neg (by omega),K9 _ _ _ _ (by omega)]
  by_cases he:i=l.length
  ·subst he
   rw[if_pos rfl]
   simp at hy
   rw[hy]
  ·rw[if_neg (by omega)]
   rw[List.getElem?_append_left (by omega)]at hy
   exact hr i y hy
theorem add_cl(n:Nat)(room:Int)(l:List Int)(o:Obj)(h:GOb room l o)(h1:(l.length:Int)<=room)(h2:room<=64)(x:Int):
  CallF PP 115 #[.q (some ⟨n,0,none⟩),.int .u64 x] [(n,o)] fun r L'=>r= .t #[]/\ ∃o',L'=[(n,o')]/\GOb room (B40 room l x) o':=by
 refine CallF.of (args:=[.q (some ⟨n,0,none⟩),.int .u64 x]) B5 B6 Tryz.func115 (e115 (some ⟨n,0,none⟩) x _) ?_
 unfold t115
 have hroom:D4 ⟨n,0,none⟩ [.i room] [(n,o)]:=by
  obtain⟨c,f,rfl,hsz,h0,_⟩:=h
  exact ldC List.mem_cons_self h0
 refine ifF rfl (A5 rfl (A6 room hroom ?_))
 refine Aa4 (fun(he:room=0)=>?_) (fun(hne:room≠0)=>?_)
 ·have hl:l=[]:=List.length_eq_zero_iff.1 (by omega)
  subst hl he
  exact .of ⟨rfl,o,rfl,h⟩
 refine J5 [] [] (Cj2 n room l o h x) rfl ?_
 rintro w A'-⟨rfl,o1,rfl,ho1⟩
 refine⟨(decide (x∈l),()),rfl,?_⟩
 have hel:=Bk3 l x
 unfold B40
 generalize l.erase x=e at ho1 hel⊢
 clear hroom h
 have hle:((e++[x]).length:Int)=e.length+1:=by rw[List.length_append];rfl
 rw[hle]
 refine W7 (fun y L'=> ∃(c:Array Value) (f:Nat) (l':List Int),L'=[(n,Obj.cells c 256)]/\c.size=67/\c[0]?=some (.i room)/\c[65]?=some (.i f)/\c[66]?=some (.i l'.length)/\f<64/\l'.length<64/\
   (∀(i:Nat) (x:Int),l'[i]?=some x->c[1+(f+i)%64]?=some (.int .u64 x))/\l'++[x]=if((e.length:Int)+1)>room then(e++[x]).drop 1 else e++[x]) ?_ ?_
 ·rintro y L' ⟨c,f,l',rfl,hsz,h0,h65,h66,hf,hl',hr,he⟩
  have hw:IntKind.i64.wrap ((f:Int)+l'.length)=((f+l'.length:Nat):Int):=by rw[C2 (by omega) (by omega)];omega
  have hmod:Int.tmod ((f+l'.length:Nat):Int) 64=(((f+l'.length)%64:Nat):Int):=by rw[Int.tmod_eq_emod_of_nonneg (by omega)];omega
  have hm:(f+l'.length)%64<64:=Nat.mod_lt _ (by omega)
  refine A5 rfl (A5 rfl (A5 rfl (A6 (f:Int) (ldC List.mem_cons_self h65) (A6 (l'.length:Int) (ldC List.mem_cons_self h66) (Ab9 (by decide) ?_)))))
  simp only[hw,hmod,Int.toNat_natCast,Nat.mul_one]
  refine E0 (by omega) (by omega) (E3 (n:=n) (off:=1+(f+l'.length)%64) [] [] (by rw[O3 (ad:=⟨n,0,none⟩) rfl,O3 rfl,Nat.zero_add]) rfl (by simp only[List.length_cons,List.length_nil];omega) (.inl (Nat.le_refl _)) _ rfl ?_)
  have g66:(c.setIfInBounds (1+(f+l'.length)%64) (.int .u64 x))[66]?=some (.i l'.length):=by
   rw[K9 _ _ _ _ (by omega),if_neg (by omega)];exact h66
  refine A5 rfl (A6 (l'.length:Int) (ldC List.mem_cons_self g66) (A5 rfl (E3 (n:=n) (off:=66) [] [] rfl rfl (by simp[hsz,M9]) (.inl (Nat.le_refl _)) _ rfl ?_)))
  refine .of ⟨rfl,_,rfl,?_⟩
  rw[<-he]
  have:=B96 hsz h0 h65 hf hl' hr x
  simp only[C2 (n:=(l'.length:Int)+1) (by omega) (by omega)]
  exact this
 ·intro j hj
  obtain⟨c,f,rfl,hsz,h0,h65,h66,hf,hl',hr⟩:=ho1
  refine A5 rfl (A5 rfl (A6 (e.length:Int) (ldC List.mem_cons_self h66) (A6 room (ldC List.mem_cons_self h0) ?_)))
  refine Aa4 (fun(he:(e.length:Int)=room)=>?_) (fun(he:(e.length:Int)≠room)=>?_)
  ·have hw:IntKind.i64.wrap ((f:Int)+1)=((f+1:Nat):Int):=by rw[C2 (by omega) (by omega)];omega
   have hmod:Int.tmod ((f+1:Nat):Int) 64=(((f+1)%64:Nat):Int):=by rw[Int.tmod_eq_emod_of_nonneg (by omega)];omega
   refine A5 rfl (A6 (f:Int) (ldC List.mem_cons_self h65) (Ab9 (by decide) ?_))
   simp only[hw,hmod]
   refine A5 rfl (E3 (n:=n) (off:=65) [] [] rfl rfl (by simp[hsz]) (.inl (Nat.le_refl _)) (c.setIfInBounds 65 (.i (((f+1)%64:Nat):Int))) rfl ?_)
   have g66:(c.setIfInBounds 65 (.i (((f+1)%64:Nat):Int)))[66]?=some (.i e.length):=by
    rw[K9 _ _ _ _ (by omega),if_neg (by omega)];exact h66
   refine A5 rfl (A6 (e.length:Int) (ldC List.mem_cons_self g66) (A5 rfl (E3 (n:=n) (off:=66) [] [] rfl rfl (by simp[hsz]) (.inl (Nat.le_refl _)) _ rfl (hj _ _ ?_))))
   cases e with
   |nil=>simp at he;omega
   |cons a r=>
    have hlr:(((a::r).length:Nat):Int)=(r.length:Int)+1:=by simp
    have hm:(f+1)%64<64:=Nat.mod_lt _ (by omega)
    simp only[List.length_cons]at hl' hel
    refine⟨_,(f+1)%64,r,rfl,?_,?_,?_,?_,hm,by omega,?_,?_⟩
    ·simp[M9,hsz]
    ·show((c.setIfInBounds 65 _).setIfInBounds 66 _)[0]?=_
     rw[K9 _ _ _ _ (by simp[hsz]),K9 _ _ _ _ (by omega),if_neg (by omega),if_neg (by omega)];exact h0
    ·show((c.setIfInBounds 65 _).setIfInBounds 66 _)[65]?=_
     rw[K9 _ _ _ _ (by simp[hsz]),K9 _ _ _ _ (by omega),if_neg (by omega),if_pos rfl]
    ·show((c.setIfInBounds 65 _).setIfInBounds 66 _)[66]?=_
     rw[K9 _ _ _ _ (by simp[hsz]),if_pos rfl,hlr,C2 (by omega) (by omega)]
     congr 2;omega
    ·intro i y hy
     show((c.setIfInBounds 65 _).setIfInBounds 66 _)[1+((f+1)%64+i)%64]?=_
     have hmi:((f+1)%64+i)%64<64:=Nat.mod_lt _ (by omega)
     rw[K9 _ _ _ _ (by simp[hsz]),K9 _ _ _ _ (by omega),if_neg (by omega),if_neg (by omega)]
     have:=hr (i+1) y (by simpa using hy)
     rw[<-this]
     congr 2
     omega
    ·rw[if_pos (by omega)];rfl
  ·refine hj _ _ ⟨c,f,e,rfl,hsz,h0,h65,h66,hf,by omega,hr,?_⟩
   rw[if_neg (by omega)]
theorem Dd6(room:Int):CallF PP 98 #[.i room] [] fun r L'=> ∃n o,r= .q (some ⟨n,0,none⟩)/\L'=[(n,o)]/\GOb (Ab3 (Z6 room 0) 64) [] o:=by
 refine CallF.of (args:=[.i room]) B5 B6 Tryz.func98 (e98 room _) ?_
 unfold t98
 refine C3 fun n _=>.of ⟨n,_,rfl,rfl,_,0,rfl,rfl,rfl,rfl,rfl,by omega,by simp,fun i x h=>by simp at h⟩
structure SP where
 n:Nat
 m:Nat
 nb:Nat
 nk:Nat
 nr:Nat
 nq:Nat
 ng:Nat
 ni:Nat
structure RN where
 r:Reg
 id:Nat
 v:SlV
 seg:A4
def RN.o(x:RN):Nat×Obj:=(x.id,Obj.cells #[.i x.r.b,.i x.r.ep,.i x.r.nx,.slice x.v.a x.v.len x.v.cap] 156)
def RN.objs(x:RN):A4:=x.o::x.seg
def RN.Ok(x:RN):Prop:=Own x.v 3 B48 (x.r.l.flatMap O9) x.seg
def rns(l:List RN):A4:=l.flatMap RN.objs
theorem B95(a b:List RN):rns (a++b)=rns a++rns b:=List.flatMap_append
theorem Ao5(a:RN):rns [a]=a.objs:=by simp[rns]
def RN.ptr(x:RN):Option Addr:=some ⟨x.id,0,none⟩
def W6(l:List RN):List (Int×Value):=l.map fun x=>(x.r.b,.q x.ptr)
def onp(o:Option RN):Option Addr:=match o with|none=>none|some x=>x.ptr
structure SG where
 ns:List RN
 on:Option RN
 es:Array MapEntry
 ck:Nat
 pv:SlV
 pseg:A4
 Ad:A4
 Ab:A4
 Aq:A4
 Ai:A4
 go:Obj
def SG.all(g:SG):List RN:=g.ns++g.on.toList
def stC(p:SP)(sc:SC)(op:Option Addr)(epoch:Int)(pv:SlV)(down:Bool):List Value:=
  [.i sc.c.B,.i sc.c.P,.i sc.c.S,.i sc.c.W,.i sc.sets,.i sc.ways,.i sc.small,.i sc.ghost,.i sc.rate,.i sc.burst,.i sc.seed,
   .q (some ⟨p.m,0,none⟩),.q (some ⟨p.nb,0,none⟩),.q (some ⟨p.nk,0,none⟩),.map (some p.nr),.q op,.i epoch,.slice pv.a pv.len pv.cap,.b down,
   .q (some ⟨p.nq,0,none⟩),.q (some ⟨p.ng,0,none⟩),.q (some ⟨p.ni,0,none⟩)]
def stO(p:SP)(s:Sto)(g:SG):Nat×Obj:=(p.n,Obj.cells (stC p s.sc (onp g.on) s.epoch g.pv s.down).toArray 89)
def kO(p:SP)(s:Sto):Nat×Obj:=(p.nk,A66 s.bk)
def mO(p:SP)(g:SG):Nat×Obj:=(p.nr,Obj.map g.es g.ck)
def gO(p:SP)(g:SG):Nat×Obj:=(p.ng,g.go)
def SL(p:SP)(s:Sto)(g:SG):A4:=stO p s g::(kO p s::(mO p g::(gO p g::(g.Ad++(g.Ab++(rns g.ns++(rns g.on.toList++(g.pseg++(g.Aq++g.Ai)))))))))
structure SX(p:SP)(s:Sto)(g:SG):Prop where
 cfg:s.d.c=s.sc.c
 dev:FH p.m s.d g.Ad
 blk:BX p.nb s.ss s.us g.Ab
 que:QHd p.nq s.sc.small s.q g.Aq
 gho:GOb s.sc.ghost s.gh g.go
 idx:IX p.ni s.sc.ways s.ix g.Ai
 mp:Mp (Value.i) g.es (W6 g.all)
 rs:g.ns.map RN.r=s.rs
 op:g.on.map RN.r=s.op
 ok: ∀x∈g.all,x.Ok
 pd:Own g.pv 3 A12 (s.pend.flatMap O9) g.pseg
def Has(L A:A4):Prop:= ∃Y,L.Perm (A++Y)
theorem Reads.has{P:Program}{f:FuncId}{args:Array Value}{L A:A4}{v:Value}(h:Has L A)(r:Reads P f args A v):Reads P f args L v:=by
 obtain⟨Y,hp⟩:=h
 intro E F w hw
 refine Calls.mono (CallF.frame (R:=Y) r E F w (hw.perm (hp.append_right F))) ?_
 rintro e w' ⟨v',L',he,hw',A',rfl,hv,hA'⟩
 subst hv
 rw[hA']at hw'
 exact⟨v',L,he,hw'.perm (hp.symm.append_right F),rfl,rfl⟩
theorem has_of{P:Program}{f:FuncId}{args:Array Value}{L A:A4}{v:Value}(h:Has L A)(r:CallF P f args A fun r L'=>r=v/\L'=A):Reads P f args L v:=Reads.has h r
section
variable {p:SP} {s:Sto} {g:SG} {L R:A4}
theorem SL.st(hp:L.Perm (SL p s g++R)):stO p s g∈L:=hp.symm.subset (by simp[SL])
theorem SL.k(hp:L.Perm (SL p s g++R)):kO p s∈L:=hp.symm.subset (by simp[SL])
theorem SL.m(hp:L.Perm (SL p s g++R)):mO p g∈L:=hp.symm.subset (by simp[SL])
theorem SL.gh(hp:L.Perm (SL p s g++R)):Has L [gO p g]:=⟨stO p s g::(kO p s::(mO p g::(g.Ad++(g.Ab++(rns g.ns++(rns g.on.toList++(g.pseg++(g.Aq++(g.Ai++R))))))))),pc fun z=>by have:=pcn hp z;simp only[SL,B4,C6,D8]at*;omega⟩
theorem SL.d(hp:L.Perm (SL p s g++R)):Has L g.Ad:=⟨stO p s g::(kO p s::(mO p g::(gO p g::(g.Ab++(rns g.ns++(rns g.on.toList++(g.pseg++(g.Aq++(g.Ai++R))))))))),pc fun z=>by have:=pcn hp z;simp only[SL,B4,C6,D8]at*;omega⟩
theorem SL.b(hp:L.Perm (SL p s g++R)):Has L g.Ab:=⟨stO p s g::(kO p s::(mO p g::(gO p g::(g.Ad++(rns g.ns++(rns g.on.toList++(g.pseg++(g.Aq++(g.Ai++R))))))))),pc fun z=>by have:=pcn hp z;simp only[SL,B4,C6,D8]at*;omega⟩
theorem SL.q(hp:L.Perm (SL p s g++R)):Has L g.Aq:=⟨stO p s g::(kO p s::(mO p g::(gO p g::(g.Ad++(g.Ab++(rns g.ns++(rns g.on.toList++(g.pseg++(g.Ai++R))))))))),pc fun z=>by have:=pcn hp z;simp only[SL,B4,C6,D8]at*;omega⟩
theorem SL.i(hp:L.Perm (SL p s g++R)):Has L g.Ai:=⟨stO p s g::(kO p s::(mO p g::(gO p g::(g.Ad++(g.Ab++(rns g.ns++(rns g.on.toList++(g.pseg++(g.Aq++R))))))))),pc fun z=>by have:=pcn hp z;simp only[SL,B4,C6,D8]at*;omega⟩
theorem SL.ps(hp:L.Perm (SL p s g++R)): ∀x∈g.pseg,x∈L:=fun x hx=>hp.symm.subset (by simp[SL,hx])
theorem SL.rn(hp:L.Perm (SL p s g++R)){x:RN}(hx:x∈g.all): ∀y∈x.objs,y∈L:=fun y hy=>hp.symm.subset (by
 rcases List.mem_append.1 hx with h|h
 ·have:y∈rns g.ns:=List.mem_flatMap.2 ⟨x,h,hy⟩
  simp[SL,this]
 ·have:y∈rns g.on.toList:=List.mem_flatMap.2 ⟨x,h,hy⟩
  simp[SL,this])
theorem E8{k:Nat}{v:Value}(hm:stO p s g∈L)(h:(stC p s.sc (onp g.on) s.epoch g.pv s.down)[k]?=some v):D4 ⟨p.n,k,none⟩ [v] L:=by
 unfold stO at hm
 exact ldC hm (by rw[List.getElem?_toArray];exact h)
theorem Co7(hm:stO p s g∈L):D4 ⟨p.n,0,none⟩ [.i s.sc.c.B,.i s.sc.c.P,.i s.sc.c.S,.i s.sc.c.W] L:=ldB hm rfl
theorem st1{n k:Nat}{cs:List Value}{T:TypeId}{v:Value}{Y:A4}{K:HP}(cs':List Value)(hL:L.Perm ((n,Obj.cells cs.toArray T)::Y))(hk:k<cs.length)(hc:cs.set k v=cs')(h: ∀L',L'.Perm ((n,Obj.cells cs'.toArray T)::Y)->K L'):HL.st ⟨n,k,none⟩ [v] K L:=by
 refine B12 (fz:=(0,0)) hL rfl (by simp only[List.size_toArray,List.length_cons,List.length_nil];omega) (.inl (Nat.le_refl _)) cs'.toArray ?_ h
 show cs.toArray.setIfInBounds k v=_
 rw[List.setIfInBounds_toArray,hc]
end
theorem Ad1{L:A4}{m:Nat}{d:Dev}{A:A4}(hA:Has L A)(h:FH m d A):Reads PP 93 #[.q (some ⟨m,0,none⟩)] L (.agg #[.i d.c.B,.i d.c.P,.i d.c.S,.i d.c.W]):=has_of hA (An5 m d A h)
theorem Bi5(l:List Int)(x:Int):(l++[x]).sum=l.sum+x:=by simp
theorem Cf5{l:List Int}{b:Nat}(h: ∀x∈l,0<=x/\x<=b):0<=l.sum/\l.sum<=l.length*b:=by
 induction l with
 |nil=>simp
 |cons a r ih=>
  have h1:=h a (by simp)
  have h2:=ih fun x hx=>h x (by simp[hx])
  rw[List.sum_cons,List.length_cons,Int.natCast_add,Int.add_mul]
  omega
theorem Bb9{L R:A4}{p:SP}{s:Sto}{g:SG}(hp:L.Perm (SL p s g++R))(X:SX p s g)(hS:s.sc.c.S<=512)(v:SlV)(l:List Int)(hv:ISl L v .i64 l)(hl:l.length<=10)(hb: ∀x∈l,0<=x/\x<=(1000000:Nat)):
  Reads PP 134 #[.q (some ⟨p.n,11,none⟩),.slice v.a v.len v.cap] L (.i (s.cost l.sum)):=by
 unfold Reads
 refine c134 (some ⟨p.n,11,none⟩) v ?_
 unfold s134
 have hvl:=hv.len
 refine G0 (fun z' z L'=> ∃i:Nat,i<=l.length/\z'=l.length-i/\z=((l.take i).sum,(i:Int),())/\L'=L) l.length ⟨0,by omega,by omega,rfl,rfl⟩ ?_
 rintro z' z L' ⟨i,hi,rfl,rfl,hL'⟩
 rw[hL']
 dsimp only
 have hle: ∀j,0<=(l.take j).sum/\(l.take j).sum<=10000000:=fun j=>by
  have h1:=Cf5 (l:=l.take j) (b:=1000000) fun x hx=>hb x (List.mem_of_mem_take hx)
  have h2:(l.take j).length<=10:=by rw[List.length_take];omega
  generalize (l.take j).sum=t at*
  generalize (l.take j).length=u at*
  have:(u:Int)*(1000000:Nat)<=10000000:=by omega
  omega
 refine B8 (fun(hlt:(i:Int)<v.len)=>?_) (fun(hge: ¬(i:Int)<v.len)=>?_)
 ·have hi':i<l.length:=by omega
  refine B47 hv (n:=i) rfl hi' fun a ha=>A6 l[i] ha ?_
  have h1:=hle i
  have h2:=hle (i+1)
  have h3:=hb l[i] (List.getElem_mem hi')
  refine D9 (by omega) (D9 (by omega) ⟨l.length-(i+1),by omega,i+1,by omega,rfl,?_,rfl⟩)
  rw[List.take_succ_eq_append_getElem hi',Bi5];rfl
 ·obtain rfl:i=l.length:=by omega
  rw[List.take_length]
  have h1:=hle l.length
  rw[List.take_length]at h1
  refine A5 rfl (A6 (some ⟨p.m,0,none⟩) (E8 (SL.st hp) rfl) (B7 (Ad1 (SL.d hp) X.dev) ((s.d.c.B,s.d.c.P,s.d.c.S,s.d.c.W,()),()) rfl ?_))
  dsimp only
  rw[X.cfg]
  have h2:0<=l.sum*(s.sc.c.S:Int)/\l.sum*(s.sc.c.S:Int)<=10000000*512:=⟨Int.mul_nonneg h1.1 (by omega),Int.mul_le_mul h1.2 (by omega) (by omega) (by omega)⟩
  exact D9 (by omega) (.of ⟨rfl,rfl⟩)
theorem Bp7{L R:A4}{p:SP}{s:Sto}{g:SG}(hp:L.Perm (SL p s g++R))(X:SX p s g)(hS:s.sc.c.S<=512)(v:SlV)(l:List Int)(hv:ISl L v .i64 l)(hl:l.length<=10)(hb: ∀x∈l,0<=x/\x<=(1000000:Nat)):
  Reads PP 128 #[.q (some ⟨p.n,11,none⟩),.slice v.a v.len v.cap] L (.b (s.pays l.sum)):=by
 unfold Reads
 refine c128 (some ⟨p.n,11,none⟩) v ?_
 unfold s128
 refine A5 rfl (A6 (some ⟨p.nk,0,none⟩) (E8 (SL.st hp) rfl) ?_)
 refine B7 (Be2 L p.nk s.bk (SL.k hp)) (s.bk.tokens,()) rfl ?_
 exact B7 (Bb9 hp X hS v l hv hl hb) (s.cost l.sum,()) rfl (.of ⟨rfl,rfl⟩)
theorem Ch7{L R:A4}{p:SP}{s:Sto}{g:SG}(hp:L.Perm (SL p s g++R))(X:SX p s g)(hnx: ∀o,s.op=some o->0<=o.nx/\o.nx<=1000)(v:SlV)(l:List Int)(hv:ISl L v .i64 l)(hl:l.length<=10)(hb: ∀x∈l,0<=x/\x<=(1000000:Nat)):
  Reads PP 126 #[.q (some ⟨p.n,11,none⟩),.slice v.a v.len v.cap] L (.b (s.fits l.sum)):=by
 unfold Reads
 refine c126 (some ⟨p.n,11,none⟩) v ?_
 unfold s126
 have hop:=X.op
 refine A5 rfl (A6 (onp g.on) (E8 (SL.st hp) rfl) ?_)
 cases hon:g.on with
 |none=>
  refine ifT rfl (.of ⟨?_,rfl⟩)
  rw[hon]at hop
  unfold Sto.fits
  rw[<-hop];rfl
 |some x=>
  rw[hon]at hop
  have hx:=hnx x.r hop.symm
  have hall:x∈g.all:=by unfold SG.all;rw[hon];simp
  have hm:x.o∈L:=SL.rn hp hall _ (by unfold RN.objs;exact List.mem_cons_self)
  refine ifF rfl (A6 x.ptr (E8 (SL.st hp) (by rw[hon];rfl)) (A5 (a:=⟨x.id,0,none⟩) rfl ?_))
  refine A6 x.r.nx (ldB (n:=x.id) (off:=2) hm rfl) ?_
  have hvl:=hv.len
  refine G0 (fun z' z L'=> ∃i:Nat,i<=l.length/\z'=l.length-i/\z=(x.r.nx+(l.take i).sum,(i:Int),())/\L'=L) l.length ⟨0,by omega,by omega,by simp,rfl⟩ ?_
  rintro z' z L' ⟨i,hi,rfl,rfl,hL'⟩
  rw[hL']
  dsimp only
  have hle: ∀j,0<=(l.take j).sum/\(l.take j).sum<=10000000:=fun j=>by
   have h1:=Cf5 (l:=l.take j) (b:=1000000) fun x hx=>hb x (List.mem_of_mem_take hx)
   have h2:(l.take j).length<=10:=by rw[List.length_take];omega
   generalize (l.take j).sum=t at*
   generalize (l.take j).length=u at*
   have:(u:Int)*(1000000:Nat)<=10000000:=by omega
   omega
  refine B8 (fun(hlt:(i:Int)<v.len)=>?_) (fun(hge: ¬(i:Int)<v.len)=>?_)
  ·have hi':i<l.length:=by omega
   refine B47 hv (n:=i) rfl hi' fun a ha=>A6 l[i] ha ?_
   have h1:=hle i
   have h2:=hle (i+1)
   have h3:=hb l[i] (List.getElem_mem hi')
   refine D9 (by omega) (D9 (by omega) ⟨l.length-(i+1),by omega,i+1,by omega,rfl,?_,rfl⟩)
   rw[List.take_succ_eq_append_getElem hi',Bi5,Int.add_assoc];rfl
  ·obtain rfl:i=l.length:=by omega
   rw[List.take_length]
   refine A6 (some ⟨p.m,0,none⟩) (E8 (SL.st hp) rfl) (B7 (Ad1 (SL.d hp) X.dev) ((s.d.c.B,s.d.c.P,s.d.c.S,s.d.c.W,()),()) rfl (.of ⟨?_,rfl⟩))
   unfold Sto.fits
   rw[<-hop,X.cfg]
   rfl
theorem Cb2(d:Dev)(i p:Nat)(k:Blk)(data:List UInt8):(As2 d i p k data).2.c=d.c:=by
 have:=(Z8 d).1
 unfold As2
 split<;>exact this
theorem C15(d:Dev)(b p:Int)(data:List UInt8):(prog d b p data).2.c=d.c:=by
 unfold prog
 split
 ·rfl
 ·split
  ·rfl
  ·split
   ·rfl
   ·split
    ·rfl
    ·split
     ·rfl
     ·exact Cb2 ..
theorem Ax4(d:Dev)(b:Int)(h:Hd)(p:List UInt8):(O7 d b h p).2.c=d.c:=by
 unfold O7
 split
 ·rfl
 ·exact C15 ..
theorem C45(b ep at' kind n:Int): ∀(l:List (List UInt8)) (d:Dev) (i:Nat),(A07 b ep at' kind n d i l).2.c=d.c
 |[],d,i=>rfl
 |p::r,d,i=>by
  unfold A07
  split
  ·rw[C45 b ep at' kind n r];exact Ax4 ..
  ·exact Ax4 ..
theorem appR_c(d:Dev)(b ep at' kind:Int)(l:List (List UInt8)):(Ai6 d b ep at' kind l).2.c=d.c:=by
 unfold Ai6
 split
 ·rfl
 ·exact C45 ..
theorem Da4(d:Dev)(b ep:Int):(S8 d b ep).2.c=d.c:=Ax4 ..
theorem C75(d:Dev)(b ep at':Int)(l:List It):(T4 d b ep at' l).2.c=d.c:=by
 unfold T4
 split
 ·exact Ax4 ..
 ·rfl
theorem Bb7(d:Dev)(b:Int):(G2 d b).2.c=d.c:=by
 have h0:=(Aq6 d).1
 unfold G2
 split
 ·rfl
 ·split
  ·rfl
  ·split
   ·rfl
   ·unfold Aj9
    split<;>exact h0
structure DSt(d d':Dev)(e:Int):Prop where
 c:d'.c=d.c
 ok:Q3 d'
 dn:d'.down=decide (e=11)
 tn:d'.torn.length+(if d'.down=true then 0 else 1)<=d.torn.length+1
 ln:d'.bs.length=d.bs.length
 wr: ∀(i:Nat) k',d'.bs[i]?=some k'-> ∃k,d.bs[i]?=some k/\k'.wear=k.wear/\k'.bad=k.bad
theorem DSt.same{d:Dev}(ok:Q3 d)(hdn:d.down=false){e:Int}(he:e≠11):DSt d d e:=⟨rfl,ok,by rw[hdn];exact(decide_eq_false he).symm,by rw[hdn];simp,rfl,fun i k h=>⟨k,h,rfl,rfl⟩⟩
theorem DSt.then{d d1 d2:Dev}{e:Int}(h1:DSt d d1 0)(h2:DSt d1 d2 e):DSt d d2 e:=by
 have hd1:d1.down=false:=by rw[h1.dn];rfl
 refine⟨h2.c.trans h1.c,h2.ok,h2.dn,?_,h2.ln.trans h1.ln,fun i k' hk'=>?_⟩
 ·have:=h1.tn
  have:=h2.tn
  rw[hd1]at*
  simp at*
  omega
 ·obtain⟨k1,e1,w1,b1⟩:=h2.wr i k' hk'
  obtain⟨k,e0,w0,b0⟩:=h1.wr i k1 e1
  exact⟨k,e0,w1.trans w0,b1.trans b0⟩
theorem Be4{d:Dev}(h:d.down=false):(Z4 d).2.down=(Z4 d).1:=by
 unfold Z4
 split
 ·exact h
 ·rfl
theorem C93{d:Dev}(ok:Q3 d)(hdn:d.down=false)(b p:Int)(data:List UInt8):DSt d (prog d b p data).2 (prog d b p data).1/\((prog d b p data).1=0->0<=p/\p<d.c.P):=by
 have hok:=Cb1 ok b p data
 have hc:=C15 d b p data
 unfold prog at hok hc⊢
 have hfe:H8 d b p≠11:=by
  unfold H8
  rw[if_neg (by rw[hdn];decide)]
  split
  ·decide
  ·split<;>decide
 by_cases hf:H8 d b p=0
 ·rw[if_neg (by simpa using hf)]at hok hc⊢
  have hp:0<=p/\p<d.c.P:=by
   unfold H8 at hf
   rw[if_neg (by rw[hdn];decide)]at hf
   split at hf
   ·cases hf
   ·split at hf
    ·cases hf
    ·rename_i h;exact Decidable.not_not.1 h
  split
  ·exact⟨.same (e:=2) ok hdn (by decide),fun h=>absurd (show(2:Int)=0 from h) (by decide)⟩
  ·rename_i hlen
   rw[if_neg hlen]at hok hc
   split
   ·exact⟨.same (e:=2) ok hdn (by decide),fun h=>absurd (show(2:Int)=0 from h) (by decide)⟩
   ·rename_i k hk
    rw[hk]at hok hc
    dsimp only at hok hc
    split
    ·exact⟨.same (e:=10) ok hdn (by decide),fun h=>absurd (show(10:Int)=0 from h) (by decide)⟩
    ·rename_i hb
     rw[if_neg hb]at hok hc
     split
     ·exact⟨.same (e:=9) ok hdn (by decide),fun h=>absurd (show(9:Int)=0 from h) (by decide)⟩
     ·rename_i hn
      rw[if_neg hn]at hok hc
      have hcd:(J6 d).down=false:=hdn
      have htd:=Be4 hcd
      obtain⟨t1,t2,t3,t4⟩:=Z8 d
      have wr: ∀(img:List UInt8) (i:Nat) (k':Blk),(d.bs.set b.toNat (k.put p.toNat img))[i]?=some k'-> ∃k,d.bs[i]?=some k/\k'.wear=k.wear/\k'.bad=k.bad:=fun img i k' hk'=>by
       rw[List.getElem?_set]at hk'
       split at hk'
       ·rename_i hi
        split at hk'
        ·obtain rfl:=Option.some.inj hk'
         exact⟨k,hi▸hk,rfl,rfl⟩
        ·cases hk'
       ·exact⟨k',hk',rfl,rfl⟩
      refine⟨?_,fun _=>hp⟩
      unfold As2 at hok hc⊢
      by_cases ht:(Z4 (J6 d)).1=true
      ·rw[if_pos ht]at hok hc⊢
       refine⟨hc,hok,?_,?_,by simp,wr _⟩
       ·show(Z4 (J6 d)).2.down=_
        rw[htd,ht];rfl
       ·show(d.torn++[_]).length+(if(Z4 (J6 d)).2.down=true then 0 else 1)<=_
        rw[htd,ht,List.length_append];simp
      ·rw[if_neg ht]at hok hc⊢
       have ht:(Z4 (J6 d)).1=false:=by simpa using ht
       refine⟨hc,hok,?_,?_,by simp,wr _⟩
       ·show(Z4 (J6 d)).2.down=_
        rw[htd,ht];rfl
       ·show(Z4 (J6 d)).2.torn.length+(if(Z4 (J6 d)).2.down=true then 0 else 1)<=_
        rw[htd,ht,t3];simp
 ·rw[if_pos hf]
  exact⟨.same ok hdn hfe,fun h=>absurd h hf⟩
theorem imgR_e(h:Hd)(p:List UInt8)(size:Int):(Ai8 h p size).2≠11:=by
 unfold Ai8 Ae9
 repeat' split
 all_goals simp
theorem A81{d:Dev}(ok:Q3 d)(hdn:d.down=false)(b:Int)(h:Hd)(p:List UInt8):DSt d (O7 d b h p).2 (O7 d b h p).1/\((O7 d b h p).1=0->0<=h.2.2.2.2.1/\h.2.2.2.2.1<d.c.P):=by
 unfold O7
 split
 ·rename_i he
  exact⟨.same ok hdn (imgR_e h p _),fun h=>absurd h he⟩
 ·exact C93 ok hdn b _ _
theorem Cl8(b ep at' kind n:Int): ∀(l:List (List UInt8)) {d:Dev} (i:Nat),Q3 d->d.down=false->DSt d (A07 b ep at' kind n d i l).2 (A07 b ep at' kind n d i l).1/\((A07 b ep at' kind n d i l).1=0->l≠[]->0<=at'+i/\at'+i+l.length<=d.c.P)
 |[],d,i,ok,hdn=>⟨.same (e:=0) ok hdn (by decide),fun _ h=>absurd rfl h⟩
 |p::r,d,i,ok,hdn=>by
  have h1:=A81 ok hdn b (kind,i,n,ep,at'+i,()) p
  unfold A07
  split
  ·rename_i h0
   have h2:=h1.2 h0
   have hst:=h1.1
   rw[h0]at hst
   have h3:=Cl8 b ep at' kind n r (i+1) hst.ok (by rw[hst.dn];rfl)
   refine⟨hst.then h3.1,fun he _=>?_⟩
   have h4:=h3.2 he
   rw[hst.c]at h4
   simp only at h2
   refine⟨h2.1,?_⟩
   cases r with
   |nil=>simp;omega
   |cons x y=>
    have:=h4 (by simp)
    simp only[List.length_cons]at*
    omega
  ·rename_i h0
   exact⟨h1.1,fun h=>absurd h h0⟩
theorem Bt0{d:Dev}(ok:Q3 d)(hdn:d.down=false)(b ep at' kind:Int)(l:List (List UInt8)):DSt d (Ai6 d b ep at' kind l).2 (Ai6 d b ep at' kind l).1/\((Ai6 d b ep at' kind l).1=0->l≠[]/\0<=at'/\at'+l.length<=d.c.P):=by
 unfold Ai6
 split
 ·exact⟨.same (e:=2) ok hdn (by decide),fun h=>absurd (show(2:Int)=0 from h) (by decide)⟩
 ·rename_i hl
  have h:=Cl8 b ep at' kind l.length l 0 ok hdn
  exact⟨h.1,fun h0=>by have:=h.2 h0 hl;simp at this;exact⟨hl,by omega,by omega⟩⟩
theorem Bw0{d:Dev}(ok:Q3 d)(hdn:d.down=false)(b ep:Int):DSt d (S8 d b ep).2 (S8 d b ep).1:=(A81 ok hdn _ _ _).1
theorem Bu9{d:Dev}(ok:Q3 d)(hdn:d.down=false)(b ep at':Int)(l:List It):DSt d (T4 d b ep at' l).2 (T4 d b ep at' l).1:=by
 unfold T4
 split
 ·exact(A81 ok hdn _ _ _).1
 ·exact .same (e:=3) ok hdn (by decide)
structure ESt(d d':Dev)(b e:Int):Prop where
 c:d'.c=d.c
 ok:Q3 d'
 dn:d'.down=decide (e=11)
 tn:d'.torn=d.torn
 ln:d'.bs.length=d.bs.length
 wr:e≠11-> ∀(i:Nat) k',d'.bs[i]?=some k'-> ∃k,d.bs[i]?=some k/\((((i:Int)=b/\k.bad=false)/\k'.wear=k.wear+1/\k'.bad=decide (e=10))\/(¬((i:Int)=b/\k.bad=false)/\k'.wear=k.wear/\k'.bad=k.bad))
theorem A01{d:Dev}(ok:Q3 d)(hdn:d.down=false)(b:Int):ESt d (G2 d b).2 b (G2 d b).1:=by
 have hok:=Cx0 ok b
 have hc:=Bb7 d b
 have ht:=B46 d b
 have same: ∀e:Int,e≠11->(∀(i:Nat) k,d.bs[i]?=some k-> ¬((i:Int)=b/\k.bad=false))->ESt d d b e:=fun e he hn=>⟨rfl,ok,by rw[hdn];exact(decide_eq_false he).symm,rfl,rfl,fun _ i k h=>⟨k,h,.inr ⟨hn i k h,rfl,rfl⟩⟩⟩
 unfold G2 at hok hc ht⊢
 have hP:=ok.c.p
 by_cases hf:H8 d b 0=0
 ·rw[if_neg (by simpa using hf)]at hok hc ht⊢
  have hb:0<=b/\b<d.bs.length:=by
   unfold H8 at hf
   rw[if_neg (by rw[hdn];decide)]at hf
   split at hf
   ·cases hf
   ·rename_i h;exact Decidable.not_not.1 h
  have hbi:b.toNat<d.bs.length:=by omega
  rw[List.getElem?_eq_getElem hbi]at hok hc ht⊢
  dsimp only at hok hc ht⊢
  by_cases hbad:d.bs[b.toNat].bad=true
  ·rw[if_pos hbad]
   refine same 10 (by decide) fun i k hk hh=>?_
   have:i=b.toNat:=by omega
   subst this
   rw[List.getElem?_eq_getElem hbi]at hk
   obtain rfl:=Option.some.inj hk
   rw[hbad]at hh
   exact absurd hh.2 (by decide)
  ·have hbf:d.bs[b.toNat].bad=false:=by simpa using hbad
   rw[if_neg hbad]at hok hc ht⊢
   have htd:=Be4 hdn
   unfold Aj9 at hok hc ht⊢
   by_cases hte:(Z4 d).1=true
   ·rw[if_pos hte]at hok hc ht⊢
    refine⟨hc,hok,?_,ht,by simp,fun h=>absurd rfl h⟩
    show(Z4 d).2.down=_
    rw[htd,hte];rfl
   ·have hte:(Z4 d).1=false:=by simpa using hte
    rw[if_neg (by rw[hte];decide)]at hok hc ht⊢
    refine⟨hc,hok,?_,ht,by simp,fun _ i k' hk'=>?_⟩
    ·show(Z4 d).2.down=_
     rw[htd,hte]
     split<;>rfl
    ·simp only at hk'
     rw[List.getElem?_set]at hk'
     split at hk'
     ·rename_i hi
      subst hi
      obtain rfl:=Option.some.inj hk'
      refine⟨d.bs[b.toNat],List.getElem?_eq_getElem hbi,.inl ⟨⟨by omega,hbf⟩,rfl,?_⟩⟩
      unfold Blk.fresh
      simp only
      split<;>rename_i h<;>simp[h]
     ·rename_i hi
      exact⟨k',hk',.inr ⟨fun h=>hi (by omega),rfl,rfl⟩⟩
 ·rw[if_pos hf]
  unfold H8 at hf⊢
  rw[if_neg (by rw[hdn];decide)]at hf⊢
  by_cases hr:0<=b/\b<d.bs.length
  ·rw[if_neg (fun h=>h hr),if_neg (by omega)]at hf
   exact absurd rfl hf
  ·rw[if_pos hr]
   refine same 2 (by decide) fun i k hk hh=>?_
   have:=(List.getElem?_eq_some_iff.1 hk).1
   omega
def SK(p:SP)(w:Sto×Int)(R:A4)(r:Value)(L':A4):Prop:= ∃g',L'=SL p w.1 g'++R/\SX p w.1 g'/\r= .i w.2
def WK(p:SP)(w:Sto×It×Int)(ns:List RN)(R:A4)(r:Value)(L':A4):Prop:= ∃g',L'=SL p w.1 g'++R/\SX p w.1 g'/\g'.ns=ns/\r= .t #[.agg #[.i w.2.1.1,.i w.2.1.2.1,.i w.2.1.2.2.1],.i w.2.2]
section
variable {p:SP} {s:Sto} {g:SG} {L R:A4}
theorem Z9(hp:L.Perm (SL p s g++R))(key:ByteArray)(hk:key.size<=1000000):Reads PP 41 #[.q (some ⟨p.n,0,none⟩),.w key] L (.int .u64 (s.hash key:Nat)):=by
 unfold Reads
 refine c41 (some ⟨p.n,0,none⟩) key ?_
 unfold s41
 exact A5 rfl (A6 s.sc.seed (E8 (SL.st hp) rfl) (B7 (Ct3 L s.sc.seed key hk) (((s.hash key:Nat):Int),()) rfl (.of ⟨rfl,rfl⟩)))
theorem Az4(s:Sto)(key:ByteArray):s.hash key<2^64:=by unfold Sto.hash;exact BitVec.isLt _
theorem B73(hp:L.Perm (SL p s g++R)):Reads PP 57 #[.q (some ⟨p.n,0,none⟩)] L (.b (!s.down)):=by
 unfold Reads
 refine c57 (some ⟨p.n,0,none⟩) ?_
 unfold s57
 exact ifF rfl (A5 rfl (A6 s.down (E8 (SL.st hp) rfl) (.of ⟨rfl,rfl⟩)))
theorem size0(key:ByteArray):key=ByteArray.mk #[]↔key.size=0:=by
 constructor
 ·rintro rfl;rfl
 ·intro h
  cases key with
  |mk d=>
   have:d.size=0:=h
   rw[Array.size_eq_zero_iff]at this
   rw[this]
theorem Ab7(hp:L.Perm (SL p s g++R))(key:ByteArray):Reads PP 39 #[.q (some ⟨p.n,0,none⟩),.w key] L (.i (s.asked key)):=by
 unfold Reads
 refine c39 (some ⟨p.n,0,none⟩) key ?_
 unfold s39
 refine ifF rfl (A5 rfl (A6 s.down (E8 (SL.st hp) rfl) ?_))
 unfold Sto.asked
 refine G7 (fun h=>?_) (fun h=>?_)
 ·rw[if_pos h];exact .of ⟨rfl,rfl⟩
 ·rw[if_neg (by rw[h];decide)]
  refine B8 (fun h0=>?_) (fun h0=>?_)
  ·rw[if_pos (.inl ((size0 key).1 h0))];exact .of ⟨rfl,rfl⟩
  ·refine B8 (fun(h1:(key.size:Int)>255)=>?_) (fun(h1: ¬(key.size:Int)>255)=>?_)
   ·rw[if_pos (.inr (by omega))];exact .of ⟨rfl,rfl⟩
   ·rw[if_neg (by rintro(h2|h2);exact h0 ((size0 key).2 h2);omega)];exact .of ⟨rfl,rfl⟩
end
theorem Bo0{p:SP}{s:Sto}{g:SG}{L Y:A4}{k:Nat}{v:Value}{K:HP}(s':Sto)(g':SG)(hL:L.Perm (stO p s g::Y))(hk:k<22)(hc:(stC p s.sc (onp g.on) s.epoch g.pv s.down).set k v=stC p s'.sc (onp g'.on) s'.epoch g'.pv s'.down)(h: ∀L',L'.Perm (stO p s' g'::Y)->K L'):HL.st ⟨p.n,k,none⟩ [v] K L:=by
 unfold stO at hL
 exact st1 (stC p s'.sc (onp g'.on) s'.epoch g'.pv s'.down) hL (by simpa[stC]using hk) hc h
theorem Bu2(p:SP)(s:Sto)(g:SG)(X:SX p s g)(e:Int):CallF PP 136 #[.q (some ⟨p.n,11,none⟩),.i e] (SL p s g) (fun r L'=>L'=SL p (s.met e) g/\SX p (s.met e) g/\r= .i e):=by
 refine c136 (some ⟨p.n,11,none⟩) e ?_
 unfold s136
 have fin: ∀(b:Bool),b=(s.met e).down->HL.st ⟨p.n,18,none⟩ [.b b] (HL.Ends (fun r L'=>L'=SL p (s.met e) g/\SX p (s.met e) g/\r= .i e) (.i e)) (SL p s g):=fun b hb=>by
  refine Bo0 (s.met e) g (List.Perm.refl _) (by decide) (by rw[hb];rfl) fun L' hL'=>?_
  exact .drop (A:=SL p (s.met e) g) (J:=[]) ⟨rfl,{X with cfg:=X.cfg,dev:=X.dev,blk:=X.blk},rfl⟩ (by rw[List.append_nil];exact hL')
 refine A5 rfl (A6 s.down (E8 (s:=s) (g:=g) (k:=18) (by simp[SL]) rfl) (G7 (fun h=>?_) (fun h=>?_)))
 ·exact fin true (by unfold Sto.met;rw[h];rfl)
 ·refine fin _ ?_
  unfold Sto.met
  rw[h,Bool.false_or]
  rfl
theorem Bo2(p:SP)(s:Sto)(g:SG)(X:SX p s g)(e:Int):CallF PP 136 #[.q (some ⟨p.n,11,none⟩),.i e] (SL p s g) (SK p (s.met e,e) []):=
 CallF.imp (Bu2 p s g X e) fun r L' ⟨h1,h2,h3⟩=>⟨g,by rw[h1,List.append_nil],h2,h3⟩
theorem Bo1{p:SP}{s:Sto}{g:SG}{L R:A4}(hp:L.Perm (SL p s g++R))(hb:s.bk.Ok)(n:Int){rs:List Sh}{k:RsV rs->HP}(r:RsV rs)(hr:Value.b (Aq3 s.bk (s.cost n))=Af9 rs r)(hk: ∀L',L'.Perm (SL p (s.pay n) g++R)->k r L'):
  cl PP 133 #[.q (some ⟨p.nk,0,none⟩),.i (s.cost n)] rs k L:=by
 refine G5 (C59 p.nk s.bk hb (s.cost n)) (R:=stO p s g::(mO p g::(gO p g::(g.Ad++(g.Ab++(rns g.ns++(rns g.on.toList++(g.pseg++(g.Aq++(g.Ai++R)))))))))) (pc fun z=>by have:=pcn hp z;simp only[SL,kO,B4,C6,D8]at*;omega) ?_
 rintro _ _ ⟨rfl,rfl⟩
 refine⟨_,List.Perm.refl _,r,hr,hk _ (pc fun z=>?_)⟩
 have e1:kO p (s.pay n)=(p.nk,A66 (Ad4 s.bk (s.cost n))):=rfl
 have e2:stO p (s.pay n) g=stO p s g:=rfl
 simp only[SL,e1,e2,B4,C6,D8]
 omega
theorem SX.pay{p:SP}{s:Sto}{g:SG}(X:SX p s g)(n:Int):SX p (s.pay n) g:={X with cfg:=X.cfg,dev:=X.dev,blk:=X.blk}
theorem Df1(s:Sto)(n:Int):s.cost n=s.cost [n].sum:=by simp
theorem Av1(p:SP)(s:Sto)(g:SG)(X:SX p s g)(hS:s.sc.c.S<=512)(hb:s.bk.Ok)(R:A4)(u:SlV)(l:List PV)(hu:Y1 R u l)(hl:l.length<=1000000)(G:DG s.d l.length)(o:Reg)(ho:s.op=some o)(hnx:0<=o.nx/\o.nx<=1000)(hol:o.l.length<=1000)(kind:Int):
  CallF PP 64 #[.q (some ⟨p.n,11,none⟩),.i kind,.slice u.a u.len u.cap] (SL p s g++R) (WK p (s.write kind (l.map Prod.snd)) g.ns R):=by
 refine c64 (some ⟨p.n,11,none⟩) kind u ?_
 unfold s64
 obtain⟨x,hx,rfl⟩: ∃x,g.on=some x/\x.r=o:=by
  have:=X.op
  rw[ho]at this
  cases h:g.on with
  |none=>rw[h]at this;cases this
  |some x=>rw[h]at this;exact⟨x,rfl,Option.some.inj this⟩
 have hall:x∈g.all:=by unfold SG.all;rw[hx];simp
 have hul:=hu.len
 have hmem: ∀{s':Sto} {L R':A4},L.Perm (SL p s' g++R')->x.o∈L:=fun hp=>SL.rn hp hall _ (by unfold RN.objs;exact List.mem_cons_self)
 refine A5 rfl (A6 x.ptr (E8 (s:=s) (g:=g) (k:=15) (by simp[SL]) (by rw[hx];rfl)) (A6 (some ⟨p.nk,0,none⟩) (E8 (s:=s) (g:=g) (k:=13) (by simp[SL]) rfl) ?_))
 refine C3 fun n2 _=>?_
 obtain⟨c2,hc2⟩: ∃c2:Nat×Obj,c2=(n2,Obj.cells #[.i u.len] 3):=⟨_,rfl⟩
 rw[<-hc2]
 have hp1:(c2::(SL p s g++R)).Perm (SL p s g++(c2::R)):=pc fun z=>by simp only[B4,C6];omega
 have hc2m:(n2,Obj.cells (ivs .i64 [(u.len:Int)]).toArray 3)∈c2::(SL p s g++R):=by rw[hc2];exact List.mem_cons_self
 refine B7 (Bb9 hp1 X hS ⟨some ⟨n2,0,none⟩,1,1⟩ [(u.len:Int)] (ISl.const 1 (by simp) hc2m) (by simp) (fun y hy=>by rw[List.mem_singleton.1 hy];omega)) (s.cost (u.len:Int),()) (by rw[<-Df1];rfl) ?_
 refine F5 (E8 (SL.st hp1) rfl) ?_
 refine Bo1 hp1 hb (u.len:Int) (Aq3 s.bk (s.cost u.len),()) rfl fun L2 hp2=>?_
 have X2:=X.pay (u.len:Int)
 have hm2:=hmem hp2
 refine A5 (a:=⟨x.id,0,none⟩) rfl ?_
 have f0: ∀{L:A4},x.o∈L->D4 ⟨x.id,0,none⟩ [.i x.r.b] L:=fun hm=>ldB hm rfl
 have f1: ∀{L:A4},x.o∈L->D4 ⟨x.id,1,none⟩ [.i x.r.ep] L:=fun hm=>ldB hm rfl
 have f2: ∀{L:A4},x.o∈L->D4 ⟨x.id,2,none⟩ [.i x.r.nx] L:=fun hm=>ldB hm rfl
 have f3: ∀{L:A4},x.o∈L->D4 ⟨x.id,3,none⟩ [.slice x.v.a x.v.len x.v.cap] L:=fun hm=>ldB hm rfl
 refine A6 x.r.b (f0 hm2) (A6 x.r.nx (f2 hm2) (A6 x.r.ep (f1 hm2) ?_))
 refine A6 (some ⟨p.m,0,none⟩) (E8 (SL.st hp2) rfl) (A6 x.r.b (f0 hm2) (A6 x.r.ep (f1 hm2) (A6 x.r.nx (f2 hm2) ?_)))
 have hG:DG (s.pay u.len).d l.length:=G
 refine Ar6 (Cl7 p.m (s.pay u.len).d g.Ad (stO p s g::(kO p (s.pay u.len)::(mO p g::(gO p g::(g.Ab++(rns g.ns++(rns g.on.toList++(g.pseg++(g.Aq++(g.Ai++(c2::R))))))))))) X2.dev u l (hu.mono fun y hy=>by simp[hy]) hl hG x.r.b x.r.ep x.r.nx kind (Bd4 (by omega)))
  (pc fun z=>by have:=pcn hp2 z;simp only[SL,show stO p (s.pay (u.len:Int)) g=stO p s g from rfl,B4,C6,D8]at*;omega) ?_
 rintro _ _ ⟨A',rfl,rfl,hA'⟩
 have e0:(s.pay (u.len:Int)).d=s.d:=rfl
 rw[e0]at hA'
 refine⟨((Ai6 s.d x.r.b x.r.ep x.r.nx kind (l.map Prod.snd)).1,()),by rw[e0];rfl,?_⟩
 have hw:s.write kind (l.map Prod.snd)=(if(Ai6 s.d x.r.b x.r.ep x.r.nx kind (l.map Prod.snd)).1≠0 then(((s.pay (l.map Prod.snd).length).dev (Ai6 s.d x.r.b x.r.ep x.r.nx kind (l.map Prod.snd)).2).met (Ai6 s.d x.r.b x.r.ep x.r.nx kind (l.map Prod.snd)).1,(x.r.b,x.r.nx,x.r.ep,()),(Ai6 s.d x.r.b x.r.ep x.r.nx kind (l.map Prod.snd)).1)
   else({(s.pay (l.map Prod.snd).length).dev (Ai6 s.d x.r.b x.r.ep x.r.nx kind (l.map Prod.snd)).2 with op:=some (x.r.grown kind (l.map Prod.snd).length)},(x.r.b,x.r.nx,x.r.ep,()),0)):=by
  unfold Sto.write;rw[ho]
 have hlm:(l.map Prod.snd).length=u.len:=by rw[List.length_map];omega
 rw[hw,hlm]
 have hqc:(Ai6 s.d x.r.b x.r.ep x.r.nx kind (l.map Prod.snd)).2.c=s.d.c:=appR_c s.d x.r.b x.r.ep x.r.nx kind (l.map Prod.snd)
 generalize Ai6 s.d x.r.b x.r.ep x.r.nx kind (l.map Prod.snd)=q at hA' hqc
 obtain⟨s2,hs2⟩: ∃s2,s2=(s.pay (u.len:Int)).dev q.2:=⟨_,rfl⟩
 have g2X:SX p s2 {g with Ad:=A'}:=by subst hs2;exact{X2 with cfg:=hqc.trans X.cfg,dev:=hA',blk:=X2.blk}
 have hp3:(A'++(stO p s g::(kO p (s.pay u.len)::(mO p g::(gO p g::(g.Ab++(rns g.ns++(rns g.on.toList++(g.pseg++(g.Aq++(g.Ai++(c2::R)))))))))))).Perm (SL p s2 {g with Ad:=A'}++(c2::R)):=by
  subst hs2
  exact pc fun z=>by
   simp only[SL,show stO p ((s.pay (u.len:Int)).dev q.2) {g with Ad:=A'}=stO p s g from rfl,show kO p ((s.pay (u.len:Int)).dev q.2)=kO p (s.pay (u.len:Int))from rfl,show mO p {g with Ad:=A'}=mO p g from rfl,show gO p {g with Ad:=A'}=gO p g from rfl,B4,C6,D8]
   omega
 generalize A'++(stO p s g::(kO p (s.pay u.len)::(mO p g::(gO p g::(g.Ab++(rns g.ns++(rns g.on.toList++(g.pseg++(g.Aq++(g.Ai++(c2::R)))))))))))=L3 at hp3
 rw[<-hs2]
 refine B8 (fun(h0:q.1=0)=>?_) (fun(h0: ¬q.1=0)=>?_)
 ·rw[if_neg (by simpa using h0)]
  have hall2:x∈({g with Ad:=A'}:SG).all:=hall
  have hm3:x.o∈L3:=SL.rn hp3 hall2 _ (by unfold RN.objs;exact List.mem_cons_self)
  refine A6 x.v (f3 hm3) (A6 x.r.nx (f2 hm3) ?_)
  have hok:=X.ok x hall
  have hvl:=hok.sl.els_len E1 (by decide)
  have hrn:rns g.on.toList=x.o::x.seg:=by rw[hx];exact Ao5 x
  refine Af2 Bs2 B78 hok (Y:=stO p s2 {g with Ad:=A'}::(kO p s2::(mO p g::(gO p g::(A'++(g.Ab++(rns g.ns++(x.o::(g.pseg++(g.Aq++(g.Ai++(c2::R)))))))))))) (ws:=O9 (kind,x.r.nx,(u.len:Int),())) (pc fun z=>by
    have:=pcn hp3 z
    simp only[SL,hrn,show mO p {g with Ad:=A'}=mO p g from rfl,show gO p {g with Ad:=A'}=gO p g from rfl,B4,C6,D8]at*
    omega) rfl rfl (by omega) fun s1 seg1 hl1 own1=>?_
  refine st1 (n:=x.id) (k:=3) [.i x.r.b,.i x.r.ep,.i x.r.nx,.slice s1.a s1.len s1.cap] (cs:=[.i x.r.b,.i x.r.ep,.i x.r.nx,.slice x.v.a x.v.len x.v.cap]) (T:=156) (Y:=stO p s2 {g with Ad:=A'}::(kO p s2::(mO p g::(gO p g::(A'++(g.Ab++(rns g.ns++(seg1++(g.pseg++(g.Aq++(g.Ai++(c2::R)))))))))))) (pc fun z=>by
    rw[show x.o=(x.id,Obj.cells [Value.i x.r.b,.i x.r.ep,.i x.r.nx,.slice x.v.a x.v.len x.v.cap].toArray 156)from rfl]
    simp only[B4,C6,D8]
    omega) (by simp) rfl fun L4 hp4=>?_
  have hm4:=hp4.symm.subset List.mem_cons_self
  refine A6 x.r.nx (ldB (n:=x.id) (off:=2) hm4 rfl) (D9 (by omega) ?_)
  refine st1 (n:=x.id) (k:=2) [.i x.r.b,.i x.r.ep,.i (x.r.nx+u.len),.slice s1.a s1.len s1.cap] hp4 (by simp) rfl fun L5 hp5=>?_
  obtain⟨x',hx'⟩: ∃x':RN,x'=⟨x.r.grown kind u.len,x.id,s1,seg1⟩:=⟨_,rfl⟩
  have ho':x'.o=(x.id,Obj.cells [Value.i x.r.b,.i x.r.ep,.i (x.r.nx+u.len),.slice s1.a s1.len s1.cap].toArray 156):=by rw[hx'];rfl
  obtain⟨g',hg'⟩: ∃g':SG,g'={g with Ad:=A',on:=some x'}:=⟨_,rfl⟩
  have hst:stO p {s2 with op:=some (x.r.grown kind u.len)} g'=stO p s2 {g with Ad:=A'}:=by
   unfold stO
   rw[hg']
   have:onp (some x')=onp g.on:=by rw[hx,hx'];rfl
   simp only[this]
  refine .drop (A:=SL p {s2 with op:=some (x.r.grown kind u.len)} g'++R) (J:=[c2]) ⟨g',rfl,?_,by rw[hg'],rfl⟩ (pc fun z=>?_)
  ·subst hg'
   have hmap:W6 (g.ns++(some x').toList)=W6 (g.ns++g.on.toList):=by
    unfold W6
    rw[hx,List.map_append,List.map_append,hx'];rfl
   have hus:({s2 with op:=some (x.r.grown kind u.len)}:Sto).us=s2.us:=by
    unfold Sto.us
    rw[hs2]
    show s.rs.map Reg.b++_=s.rs.map Reg.b++(s.op.map Reg.b).toList
    rw[ho];rfl
   refine⟨g2X.cfg,g2X.dev,by rw[hus];exact g2X.blk,g2X.que,g2X.gho,g2X.idx,?_,g2X.rs,by rw[hx'];rfl,?_,g2X.pd⟩
   ·show Mp _ g.es (W6 (g.ns++(some x').toList))
    rw[hmap];exact X.mp
   ·intro y hy
    rcases List.mem_append.1 hy with hy|hy
    ·exact X.ok y (List.mem_append_left _ hy)
    ·rw[List.mem_singleton.1 hy,hx']
     unfold RN.Ok
     show Own s1 3 B48 ((x.r.l++[(kind,x.r.nx,(u.len:Int),())]).flatMap O9) seg1
     rw[List.flatMap_append,List.flatMap_singleton];exact own1
  ·have h5:=pcn hp5 z
   rw[<-ho']at h5
   have hrn':rns g'.on.toList=x'.o::seg1:=by rw[hg'];refine(Ao5 x').trans ?_;unfold RN.objs;rw[hx']
   have hk2:kO p ({s2 with op:=some (x.r.grown kind u.len)}:Sto)=kO p s2:=rfl
   simp only[SL,hst,hrn',hk2,B4,C6,D8]
   simp only[hg',show mO p ({g with Ad:=A',on:=some x'}:SG)=mO p g from rfl,show gO p ({g with Ad:=A',on:=some x'}:SG)=gO p g from rfl,B4,C6,D8]at*
   omega
 ·rw[if_pos (by simpa using h0)]
  refine G5 (Bu2 p s2 {g with Ad:=A'} g2X q.1) hp3 ?_
  rintro _ _ ⟨hL',X',rfl⟩
  rw[hL']
  exact⟨_,List.Perm.refl _,(q.1,()),rfl,.drop (A:=SL p (s2.met q.1) {g with Ad:=A'}++R) (J:=[c2]) ⟨{g with Ad:=A'},rfl,X',rfl,rfl⟩ (pc fun z=>by simp only[B4,C6,D8];omega)⟩
theorem mapR:Cm4 PP 79 3 80 (Value.i) (.q none):=A96 (by kernel_rfl) (keyInt (by kernel_rfl)) (by kernel_rfl)
theorem Ax8{κ:Type}[DecidableEq κ]: ∀(m:List (κ×Value)) (k:κ) (v:Value),k∉m.map Prod.fst->A20 m k v=m++[(k,v)]
 |[],k,v,_=>rfl
 |p::r,k,v,h=>by
  rw[List.map_cons,List.mem_cons,not_or]at h
  rw[A20,if_neg h.1,Ax8 r k v h.2];rfl
theorem Bh9{κ:Type}[DecidableEq κ]: ∀(m:List (κ×Value)) (k:κ),(m.map Prod.fst).Nodup->Bd1 m k=m.filter fun p=> !decide (p.1=k)
 |[],k,_=>rfl
 |p::r,k,h=>by
  rw[List.map_cons,List.nodup_cons]at h
  rw[Bd1]
  by_cases e:k=p.1
  ·rw[if_pos e,List.filter_cons_of_neg (by simp[e])]
   symm
   rw[List.filter_eq_self]
   intro q hq
   have:q.1≠k:=fun e2=>h.1 (e▸e2▸List.mem_map_of_mem hq)
   simp[this]
  ·rw[if_neg e,List.filter_cons_of_pos (by simp[Ne.symm e]),Bh9 r k h.2]
theorem A37(l:List RN):(W6 l).map Prod.fst=(l.map RN.r).map Reg.b:=by unfold W6;rw[List.map_map,List.map_map];rfl
theorem SX.keys{p:SP}{s:Sto}{g:SG}(X:SX p s g):(W6 g.all).map Prod.fst=s.us:=by
 rw[A37]
 unfold SG.all Sto.us
 rw[List.map_append,List.map_append,X.rs,<-X.op]
 cases g.on<;>rfl
theorem SX.one{p:SP}{s:Sto}{g:SG}(X:SX p s g){o:Reg}(ho:s.op=some o): ∃x,g.on=some x/\x.r=o:=by
 have:=X.op
 rw[ho]at this
 cases h:g.on with
 |none=>rw[h]at this;cases this
 |some x=>rw[h]at this;exact⟨x,rfl,Option.some.inj this⟩
theorem SX.non{p:SP}{s:Sto}{g:SG}(X:SX p s g)(ho:s.op=none):g.on=none:=by
 have:=X.op
 rw[ho]at this
 cases h:g.on with
 |none=>rfl
 |some x=>rw[h]at this;cases this
theorem Co9(p:SP)(s:Sto)(g:SG)(X:SX p s g)(hS:s.sc.c.S<=512)(hb:s.bk.Ok)(G:DG s.d 1)(hol: ∀o,s.op=some o->o.l.length<=300):
  CallF PP 188 #[.q (some ⟨p.n,11,none⟩)] (SL p s g) (SK p s.seals []):=by
 refine c188 (some ⟨p.n,11,none⟩) ?_
 unfold s188
 refine A5 rfl (A6 (onp g.on) (E8 (s:=s) (g:=g) (k:=15) (by simp[SL]) rfl) ?_)
 cases ho:s.op with
 |none=>
  have hn:=X.non ho
  refine ifT (by rw[hn];rfl) (.of ?_)
  have e:s.seals=(s,0):=by unfold Sto.seals;rw[ho]
  rw[e]
  exact⟨g,by simp,X,rfl⟩
 |some o=>
  obtain⟨x,hx,rfl⟩:=X.one ho
  have hall:x∈g.all:=by unfold SG.all;rw[hx];simp
  refine ifF (by rw[hx];rfl) ?_
  obtain⟨s0,hs0⟩: ∃s0:Sto,s0={s with op:=none,rs:=s.rs++[x.r]}:=⟨_,rfl⟩
  obtain⟨g0,hg0⟩: ∃g0:SG,g0={g with ns:=g.ns++[x],on:=none}:=⟨_,rfl⟩
  have hga:g0.all=g.all:=by rw[hg0];unfold SG.all;rw[hx];simp
  have hus:s0.us=s.us:=by rw[hs0];unfold Sto.us;rw[ho];simp
  have X0:SX p s0 g0:=by
   refine⟨by rw[hs0];exact X.cfg,by rw[hs0,hg0];exact X.dev,?_,by rw[hs0,hg0];exact X.que,by rw[hs0,hg0];exact X.gho,by rw[hs0,hg0];exact X.idx,?_,by rw[hs0,hg0];simp[X.rs],by rw[hs0,hg0];rfl,by rw[hga];exact X.ok,by rw[hs0,hg0];exact X.pd⟩
   ·rw[hus]
    have e1:s0.ss=s.ss:=by rw[hs0]
    have e2:g0.Ab=g.Ab:=by rw[hg0]
    rw[e1,e2];exact X.blk
   ·rw[hga]
    have e2:g0.es=g.es:=by rw[hg0]
    rw[e2];exact X.mp
  have hrn:rns g.on.toList=x.objs:=by rw[hx];exact Ao5 x
  refine Bo0 (s:=s) (g:=g) (k:=15) s0 g0 (Y:=kO p s::(mO p g::(gO p g::(g.Ad++(g.Ab++(rns g.ns++(x.objs++(g.pseg++(g.Aq++g.Ai))))))))) (by unfold SL;rw[hrn]) (by decide) (by rw[hs0,hg0];rfl) fun L1 hp1=>?_
  have hp1:L1.Perm (SL p s0 g0++[]):=pc fun z=>by
   have:=pcn hp1 z
   have e1:kO p s0=kO p s:=by rw[hs0];rfl
   have e2:mO p g0=mO p g:=by rw[hg0];rfl
   have e3:gO p g0=gO p g:=by rw[hg0];rfl
   have e4:rns g0.ns=rns g.ns++x.objs:=by rw[hg0];show rns (g.ns++[x])=_;rw[B95,Ao5]
   have e5:rns g0.on.toList=[]:=by rw[hg0];rfl
   have e6:g0.Ad=g.Ad/\g0.Ab=g.Ab/\g0.pseg=g.pseg/\g0.Aq=g.Aq/\g0.Ai=g.Ai:=by rw[hg0];exact⟨rfl,rfl,rfl,rfl,rfl⟩
   simp only[SL,e1,e2,e3,e4,e5,e6.1,e6.2.1,e6.2.2.1,e6.2.2.2.1,e6.2.2.2.2,B4,C6,D8]at*
   omega
  have hS0:s0.sc.c.S<=512:=by rw[hs0];exact hS
  have hb0:s0.bk.Ok:=by rw[hs0];exact hb
  refine A6 (some ⟨p.nk,0,none⟩) (E8 (SL.st hp1) rfl) (C3 fun n1 _=>?_)
  obtain⟨c2,hc2⟩: ∃c2:Nat×Obj,c2=(n1,Obj.cells #[.i 1] 3):=⟨_,rfl⟩
  rw[<-hc2]
  have hp2:(c2::L1).Perm (SL p s0 g0++[c2]):=pc fun z=>by have:=pcn hp1 z;simp only[B4,C6,D8]at*;omega
  have hc2m:(n1,Obj.cells (ivs .i64 [(1:Int)]).toArray 3)∈c2::L1:=by rw[hc2];exact List.mem_cons_self
  refine B7 (Bb9 hp2 X0 hS0 ⟨some ⟨n1,0,none⟩,1,1⟩ [(1:Int)] (ISl.const 1 (by simp) hc2m) (by simp) (fun y hy=>by rw[List.mem_singleton.1 hy];omega)) (s0.cost 1,()) (by rw[<-Df1];rfl) ?_
  refine F5 (E8 (SL.st hp2) rfl) ?_
  refine Bo1 hp2 hb0 1 (Aq3 s0.bk (s0.cost 1),()) rfl fun L3 hp3=>?_
  have X3:=X0.pay 1
  have hall0:x∈g0.all:=by rw[hga];exact hall
  have hm3:x.o∈L3:=SL.rn hp3 hall0 _ (by unfold RN.objs;exact List.mem_cons_self)
  refine A5 (a:=⟨x.id,0,none⟩) (by rw[hx];rfl) (A6 (some ⟨p.m,0,none⟩) (E8 (SL.st hp3) rfl) ?_)
  refine A6 x.r.b (ldB (n:=x.id) (off:=0) hm3 rfl) (A6 x.r.ep (ldB (n:=x.id) (off:=1) hm3 rfl) (A6 x.r.nx (ldB (n:=x.id) (off:=2) hm3 rfl) (A6 x.v (ldB (n:=x.id) (off:=3) hm3 rfl) ?_)))
  have hok:=X.ok x hall
  have hd0:(s0.pay 1).d=s.d:=by rw[hs0];rfl
  have hseg: ∀y∈x.seg,y∈rns g0.ns:=fun y hy=>by rw[hg0];exact List.mem_flatMap.2 ⟨x,by simp,by unfold RN.objs;simp[hy]⟩
  refine Ar6 (B87 p.m (s0.pay 1).d g0.Ad (stO p (s0.pay 1) g0::(kO p (s0.pay 1)::(mO p g0::(gO p g0::(g0.Ab++(rns g0.ns++(rns g0.on.toList++(g0.pseg++(g0.Aq++(g0.Ai++[c2])))))))))) X3.dev x.v x.r.l (hok.sl.mono fun y hy=>by simp[hseg y hy]) (hol x.r ho) (by rw[hd0];exact G) x.r.b x.r.ep x.r.nx)
   (pc fun z=>by have:=pcn hp3 z;simp only[SL,B4,C6,D8]at*;omega) ?_
  rw[hd0]
  rintro _ _ ⟨A',rfl,rfl,hA'⟩
  refine⟨((T4 s.d x.r.b x.r.ep x.r.nx x.r.l).1,()),rfl,?_⟩
  have hqc:(T4 s.d x.r.b x.r.ep x.r.nx x.r.l).2.c=s.d.c:=C75 ..
  have hw:s.seals=(({(s.pay 1).dev (T4 s.d x.r.b x.r.ep x.r.nx x.r.l).2 with op:=none,rs:=s.rs++[x.r]}).met (T4 s.d x.r.b x.r.ep x.r.nx x.r.l).1,(T4 s.d x.r.b x.r.ep x.r.nx x.r.l).1):=by
   unfold Sto.seals;rw[ho]
  rw[hw]
  generalize T4 s.d x.r.b x.r.ep x.r.nx x.r.l=q at hA' hqc
  obtain⟨s2,hs2⟩: ∃s2:Sto,s2={(s.pay 1).dev q.2 with op:=none,rs:=s.rs++[x.r]}:=⟨_,rfl⟩
  have e2:s2=(s0.pay 1).dev q.2:=by rw[hs2,hs0];rfl
  have X2:SX p s2 {g0 with Ad:=A'}:=by rw[e2];exact{X3 with cfg:=by rw[show((s0.pay 1).dev q.2).d=q.2 from rfl,hqc,hs0];exact X.cfg,dev:=hA',blk:=X3.blk}
  rw[<-hs2]
  refine G5 (Bo2 p s2 {g0 with Ad:=A'} X2 q.1) (R:=[c2]) (pc fun z=>?_) ?_
  ·rw[e2]
   simp only[SL,show stO p ((s0.pay 1).dev q.2) {g0 with Ad:=A'}=stO p (s0.pay 1) g0 from rfl,show kO p ((s0.pay 1).dev q.2)=kO p (s0.pay 1)from rfl,show mO p {g0 with Ad:=A'}=mO p g0 from rfl,show gO p {g0 with Ad:=A'}=gO p g0 from rfl,B4,C6,D8]
   omega
  ·rintro _ _ ⟨g',hL',X',rfl⟩
   exact⟨_,List.Perm.refl _,(q.1,()),rfl,.drop (A:=SL p (s2.met q.1) g') (J:=[c2]) ⟨g',by simp,X',rfl⟩ (by rw[hL',List.append_nil])⟩
theorem A32{p:SP}{s:Sto}{g:SG}{L R:A4}(hp:L.Perm (SL p s g++R))(X:SX p s g)(hnd:s.us.Nodup):
  Reads PP 186 #[.q (some ⟨p.n,11,none⟩)] L (.q (match g.ns with|[]=>none|x::_=>x.ptr)):=by
 unfold Reads
 refine c186 (some ⟨p.n,11,none⟩) ?_
 unfold s186
 refine A5 rfl (A6 (some ⟨p.nb,0,none⟩) (E8 (SL.st hp) rfl) ?_)
 refine B7 (Reads.has (SL.b hp) (B52 p.nb s.ss s.us g.Ab X.blk)) (s.us.headD 0,decide (s.us≠[]),()) rfl ?_
 have hk:=X.keys
 have lk:=Am4 (P:=PP) mapR (SL.m hp) X.mp (s.us.headD 0)
 have hus:s.us=(g.ns.map fun x=>x.r.b)++(g.on.map fun x=>x.r.b).toList:=by
  unfold Sto.us
  rw[<-X.rs,<-X.op,List.map_map,Option.map_map];rfl
 refine W7 (fun _ L'=>L'=L/\ ∃x r,g.ns=x::r) ?_ ?_
 ·rintro _ _ ⟨rfl,x,r,hns⟩
  refine A6 (some p.nr) (E8 (SL.st hp) rfl) ?_
  refine⟨(x.ptr,()),?_,.of ⟨by rw[hns],rfl⟩⟩
  have:(Ay1 (W6 g.all) (s.us.headD 0)).getD (.q none)= .q x.ptr:=by
   rw[hus,hns]
   unfold SG.all W6
   rw[hns,List.cons_append,List.map_cons,R6]
   simp
  rw[this]at lk
  exact lk
 ·intro j hj
  refine G7 (fun(h:decide (s.us≠[])=true)=>?_) (fun(h:decide (s.us≠[])=false)=>?_)
  ·have hne:=of_decide_eq_true h
   refine A6 (onp g.on) (E8 (SL.st hp) rfl) ?_
   cases hon:g.on with
   |none=>
    refine ifT rfl (hj _ _ ⟨rfl,?_⟩)
    cases hns:g.ns with
    |nil=>rw[hus,hns,hon]at hne;exact absurd rfl hne
    |cons x r=>exact⟨x,r,rfl⟩
   |some y=>
    have hall:y∈g.all:=by unfold SG.all;rw[hon];simp
    have hm:y.o∈L:=SL.rn hp hall _ (by unfold RN.objs;exact List.mem_cons_self)
    refine ifF rfl (A6 y.ptr (E8 (SL.st hp) (by rw[hon];rfl)) (A5 (a:=⟨y.id,0,none⟩) rfl (A6 y.r.b (ldB (n:=y.id) (off:=0) hm rfl) ?_)))
    refine B8 (fun(he:y.r.b=s.us.headD 0)=>?_) (fun(he: ¬y.r.b=s.us.headD 0)=>?_)
    ·cases hns:g.ns with
     |nil=>exact .of ⟨rfl,rfl⟩
     |cons x r=>
      rw[hus,hns,hon]at he hnd
      simp at he hnd
      exact absurd he (fun e=>hnd.1.2 e.symm)
    ·cases hns:g.ns with
     |nil=>
      rw[hus,hns,hon]at he
      simp at he
     |cons x r=>exact hj _ _ ⟨rfl,x,r,hns⟩
  ·have hn:s.us=[]:=by
    have:=of_decide_eq_false h
    exact Decidable.not_not.1 this
   rw[hus]at hn
   cases hns:g.ns with
   |nil=>exact .of ⟨rfl,rfl⟩
   |cons x r=>rw[hns]at hn;simp at hn
theorem B91(p:SP)(s:Sto)(g:SG)(X:SX p s g)(hS:s.sc.c.S<=512)(hb:s.bk.Ok)(G:DG s.d 1)(hop:s.op=none)(hep:0<=s.epoch/\s.epoch<=1073741824)(hfew:s.us.length<100000)(b:Int)(hbo:Af1 s.ss s.us b=true)(hnew:b∉s.us):
  CallF PP 191 #[.q (some ⟨p.n,11,none⟩),.i b] (SL p s g) (SK p (s.begins b) []):=by
 refine c191 (some ⟨p.n,11,none⟩) b ?_
 unfold s191
 have hon:=X.non hop
 refine A5 rfl (A6 (some ⟨p.nk,0,none⟩) (E8 (s:=s) (g:=g) (k:=13) (by simp[SL]) rfl) (C3 fun n1 _=>?_))
 obtain⟨c2,hc2⟩: ∃c2:Nat×Obj,c2=(n1,Obj.cells #[.i 1] 3):=⟨_,rfl⟩
 rw[<-hc2]
 have hp2:(c2::SL p s g).Perm (SL p s g++[c2]):=pc fun z=>by simp only[B4,C6,D8];omega
 have hc2m:(n1,Obj.cells (ivs .i64 [(1:Int)]).toArray 3)∈c2::SL p s g:=by rw[hc2];exact List.mem_cons_self
 refine B7 (Bb9 hp2 X hS ⟨some ⟨n1,0,none⟩,1,1⟩ [(1:Int)] (ISl.const 1 (by simp) hc2m) (by simp) (fun y hy=>by rw[List.mem_singleton.1 hy];omega)) (s.cost 1,()) (by rw[<-Df1];rfl) ?_
 refine F5 (E8 (SL.st hp2) rfl) ?_
 refine Bo1 hp2 hb 1 (Aq3 s.bk (s.cost 1),()) rfl fun L3 hp3=>?_
 have X3:=X.pay 1
 refine A6 (some ⟨p.m,0,none⟩) (E8 (SL.st hp3) rfl) (A6 s.epoch (E8 (SL.st hp3) rfl) (D9 (by omega) ?_))
 refine Ar6 (Da3 p.m s.d g.Ad (stO p (s.pay 1) g::(kO p (s.pay 1)::(mO p g::(gO p g::(g.Ab++(rns g.ns++(rns g.on.toList++(g.pseg++(g.Aq++(g.Ai++[c2])))))))))) X.dev G b (s.epoch+1))
  (pc fun z=>by have:=pcn hp3 z;simp only[SL,B4,C6,D8]at*;omega) ?_
 rintro _ _ ⟨A',rfl,rfl,hA'⟩
 refine⟨((S8 s.d b (s.epoch+1)).1,()),rfl,?_⟩
 have hqc:(S8 s.d b (s.epoch+1)).2.c=s.d.c:=Da4 ..
 have hw:s.begins b=(if(S8 s.d b (s.epoch+1)).1≠0 then(((s.pay 1).dev (S8 s.d b (s.epoch+1)).2).met (S8 s.d b (s.epoch+1)).1,(S8 s.d b (s.epoch+1)).1)else({(s.pay 1).dev (S8 s.d b (s.epoch+1)).2 with epoch:=s.epoch+1,op:=some ⟨b,s.epoch+1,1,[]⟩},0)):=rfl
 rw[hw]
 generalize S8 s.d b (s.epoch+1)=q at hA' hqc
 obtain⟨s2,hs2⟩: ∃s2:Sto,s2=(s.pay 1).dev q.2:=⟨_,rfl⟩
 have X2:SX p s2 {g with Ad:=A'}:=by rw[hs2];exact{X3 with cfg:=hqc.trans X.cfg,dev:=hA',blk:=X3.blk}
 rw[<-hs2]
 have eqs:stO p s2 {g with Ad:=A'}=stO p (s.pay 1) g/\kO p s2=kO p (s.pay 1):=by rw[hs2];exact⟨rfl,rfl⟩
 have hp4:(A'++(stO p (s.pay 1) g::(kO p (s.pay 1)::(mO p g::(gO p g::(g.Ab++(rns g.ns++(rns g.on.toList++(g.pseg++(g.Aq++(g.Ai++[c2]))))))))))).Perm (SL p s2 {g with Ad:=A'}++[c2]):=pc fun z=>by
  simp only[SL,eqs.1,eqs.2,show mO p {g with Ad:=A'}=mO p g from rfl,show gO p {g with Ad:=A'}=gO p g from rfl,B4,C6,D8]
  omega
 generalize A'++(stO p (s.pay 1) g::(kO p (s.pay 1)::(mO p g::(gO p g::(g.Ab++(rns g.ns++(rns g.on.toList++(g.pseg++(g.Aq++(g.Ai++[c2]))))))))))=L4 at hp4
 obtain⟨g2,hg2⟩: ∃g2:SG,g2={g with Ad:=A'}:=⟨_,rfl⟩
 rw[<-hg2]at X2 hp4
 refine B8 (fun(h0:q.1=0)=>?_) (fun(h0: ¬q.1=0)=>?_)
 ·rw[if_neg (by simpa using h0)]
  have hep2:s2.epoch=s.epoch:=by rw[hs2];rfl
  have hus2:s2.us=s.us:=by rw[hs2];rfl
  have hss2:s2.ss=s.ss:=by rw[hs2];rfl
  have hon2:g2.on=none:=by rw[hg2];exact hon
  refine A6 s2.epoch (E8 (SL.st hp4) rfl) (D9 (by omega) ?_)
  obtain⟨s3,hs3⟩: ∃s3:Sto,s3={s2 with epoch:=s2.epoch+1}:=⟨_,rfl⟩
  have X3:SX p s3 g2:=by rw[hs3];exact{X2 with cfg:=X2.cfg,dev:=X2.dev,blk:=X2.blk}
  refine Bo0 (s:=s2) (g:=g2) (k:=16) s3 g2 (Y:=kO p s2::(mO p g2::(gO p g2::(g2.Ad++(g2.Ab++(rns g2.ns++(rns g2.on.toList++(g2.pseg++(g2.Aq++(g2.Ai++[c2])))))))))) (pc fun z=>by have:=pcn hp4 z;simp only[SL,B4,C6,D8]at*;omega) (by decide) (by rw[hs3];rfl) fun L5 hp5=>?_
  have hp5:L5.Perm (SL p s3 g2++[c2]):=pc fun z=>by
   have:=pcn hp5 z
   have e1:kO p s3=kO p s2:=by rw[hs3];rfl
   simp only[SL,e1,B4,C6,D8]at*
   omega
  refine A6 (some ⟨p.nb,0,none⟩) (E8 (SL.st hp5) rfl) ?_
  have hus3:s3.us=s.us:=by rw[hs3];exact hus2
  have hss3:s3.ss=s.ss:=by rw[hs3];exact hss2
  have hblk:BX p.nb s.ss s.us g2.Ab:=by have:=X3.blk;rwa [hus3,hss3]at this
  refine G5 (B51 p.nb s.ss s.us g2.Ab hblk hfew b) (R:=stO p s3 g2::(kO p s3::(mO p g2::(gO p g2::(g2.Ad++(rns g2.ns++(rns g2.on.toList++(g2.pseg++(g2.Aq++(g2.Ai++[c2])))))))))) (pc fun z=>by have:=pcn hp5 z;simp only[SL,B4,C6,D8]at*;omega) ?_
  rintro _ Ab' ⟨rfl,hAb'⟩
  rw[if_pos hbo]at hAb'
  refine⟨_,List.Perm.refl _,(Af1 s.ss s.us b,()),rfl,?_⟩
  have hep3:s3.epoch=s.epoch+1:=by rw[hs3];show s2.epoch+1=_;rw[hep2]
  refine A6 s3.epoch (E8 (s:=s3) (g:=g2) (k:=16) (by simp) rfl) (C3 fun n2 _=>?_)
  obtain⟨x,hx⟩: ∃x:RN,x=⟨⟨b,s.epoch+1,1,[]⟩,n2,⟨none,0,0⟩,[]⟩:=⟨_,rfl⟩
  have hxo:(n2,Obj.cells #[Value.i b,.i s3.epoch,.i 1,.slice none 0 0] 156)=x.o:=by rw[hx,hep3];rfl
  rw[hxo]
  obtain⟨s4,hs4⟩: ∃s4:Sto,s4={s3 with op:=some ⟨b,s.epoch+1,1,[]⟩}:=⟨_,rfl⟩
  refine Bo0 (s:=s3) (g:=g2) (k:=15) s4 {g2 with on:=some x} (Y:=x.o::(kO p s3::(mO p g2::(gO p g2::(g2.Ad++(Ab'++(rns g2.ns++(g2.pseg++(g2.Aq++(g2.Ai++[c2])))))))))) (pc fun z=>by rw[hon2];simp only[show rns (none:Option RN).toList=[]from rfl,B4,C6,D8];omega) (by decide) (by rw[hs4,hx];rfl) fun L6 hp6=>?_
  have hm6:=hp6.symm.subset List.mem_cons_self
  refine A6 (some p.nr) (E8 hm6 rfl) (A6 x.ptr (E8 hm6 rfl) ?_)
  refine Al0 mapR (r:=p.nr) (es:=g2.es) (clock:=g2.ck) (m:=W6 g2.all) (Y:=stO p s4 {g2 with on:=some x}::(x.o::(kO p s3::(gO p g2::(g2.Ad++(Ab'++(rns g2.ns++(g2.pseg++(g2.Aq++(g2.Ai++[c2])))))))))) (pc fun z=>by have:=pcn hp6 z;rw[show(p.nr,Obj.map g2.es g2.ck)=mO p g2 from rfl];simp only[B4,C6,D8]at*;omega) X2.mp b (.q x.ptr) fun es' ck' L7 hmp hp7=>?_
  obtain⟨g',hg'⟩: ∃g':SG,g'={g2 with on:=some x,Ab:=Ab',es:=es',ck:=ck'}:=⟨_,rfl⟩
  have hfin:({s2 with epoch:=s.epoch+1,op:=some ⟨b,s.epoch+1,1,[]⟩}:Sto)=s4:=by rw[hs4,hs3,hep2]
  rw[hfin]
  have hk2:=X2.keys
  rw[hus2]at hk2
  refine .drop (A:=SL p s4 g') (J:=[c2]) ⟨g',by simp,?_,rfl⟩ (pc fun z=>?_)
  ·have hall:g'.all=g2.all++[x]:=by rw[hg'];unfold SG.all;rw[hon2];simp
   have hus4:s4.us=s.us++[b]:=by
    have hrs3:s3.rs=s.rs:=by rw[hs3,hs2];rfl
    unfold Sto.us
    rw[hs4]
    show s3.rs.map Reg.b++[b]=_
    rw[hop,hrs3]
    simp
   refine⟨by rw[hs4,hs3];exact X2.cfg,by rw[hs4,hs3,hg'];exact X2.dev,?_,by rw[hs4,hs3,hg'];exact X2.que,by rw[hs4,hs3,hg'];exact X2.gho,by rw[hs4,hs3,hg'];exact X2.idx,?_,by rw[hs4,hs3,hg'];exact X2.rs,by rw[hs4,hg',hx];rfl,?_,by rw[hs4,hs3,hg'];exact X2.pd⟩
   ·rw[hus4]
    have e1:s4.ss=s.ss:=by rw[hs4];exact hss3
    have e2:g'.Ab=Ab':=by rw[hg']
    rw[e1,e2];exact hAb'
   ·rw[Ax8 _ _ _ (by rw[hk2];exact hnew)]at hmp
    rw[hall]
    have:W6 (g2.all++[x])=W6 g2.all++[(b,.q x.ptr)]:=by unfold W6;rw[List.map_append,hx];rfl
    rw[this]
    have e2:g'.es=es':=by rw[hg']
    rw[e2];exact hmp
   ·intro y hy
    rw[hall]at hy
    rcases List.mem_append.1 hy with hy|hy
    ·exact X2.ok y hy
    ·rw[List.mem_singleton.1 hy,hx];exact F4
  ·have h7:=pcn hp7 z
   have e1:stO p s4 g'=stO p s4 {g2 with on:=some x}:=by rw[hg'];rfl
   have e2:kO p s4=kO p s3:=by rw[hs4];rfl
   have e3:mO p g'=(p.nr,Obj.map es' ck'):=by rw[hg'];rfl
   have e4:gO p g'=gO p g2:=by rw[hg'];rfl
   have e5:rns g'.on.toList=[x.o]:=by rw[hg'];refine(Ao5 x).trans ?_;unfold RN.objs;rw[hx]
   have e6:g'.Ad=g2.Ad/\g'.Ab=Ab'/\g'.ns=g2.ns/\g'.pseg=g2.pseg/\g'.Aq=g2.Aq/\g'.Ai=g2.Ai:=by rw[hg'];exact⟨rfl,rfl,rfl,rfl,rfl,rfl⟩
   simp only[SL,e1,e2,e3,e4,e5,e6.1,e6.2.1,e6.2.2.1,e6.2.2.2.1,e6.2.2.2.2.1,e6.2.2.2.2.2,B4,C6,D8]at*
   omega
 ·rw[if_pos (by simpa using h0)]
  refine G5 (Bo2 p s2 g2 X2 q.1) hp4 ?_
  rintro _ _ ⟨g',hL',X',rfl⟩
  exact⟨_,List.Perm.refl _,(q.1,()),rfl,.drop (A:=SL p (s2.met q.1) g') (J:=[c2]) ⟨g',by simp,X',rfl⟩ (by rw[hL',List.append_nil])⟩
theorem Bj9{α:Type}(f:α->A4)(q:α->Bool)(l:List α)(z:Nat×Obj):cnt (l.flatMap f) z=cnt ((l.filter q).flatMap f) z+cnt ((l.filter fun x=> !q x).flatMap f) z:=by
 have h:=List.filter_append_perm q l
 have h2:=Az8 f h z
 rw[List.flatMap_append,B4]at h2
 exact h2.symm
theorem Be9(p:SP)(s:Sto)(g:SG)(X:SX p s g)(ok:Q3 s.d)(hw: ∀x∈s.ss,0<=x.wear/\x.wear<=900000000)(hnd:s.us.Nodup)(b:Int)(h1: ∀o,s.op=some o->o.b≠b)(h2:H1 s.ss b=false->b∉s.us):
  CallF PP 190 #[.q (some ⟨p.n,11,none⟩),.i b] (SL p s g) (SK p (s.erase b) []):=by
 refine c190 (some ⟨p.n,11,none⟩) b ?_
 unfold s190
 refine A5 rfl (A6 (some ⟨p.m,0,none⟩) (E8 (s:=s) (g:=g) (k:=11) (by simp[SL]) rfl) ?_)
 refine G5 (Cx1 p.m s.d g.Ad X.dev ok b) (R:=stO p s g::(kO p s::(mO p g::(gO p g::(g.Ab++(rns g.ns++(rns g.on.toList++(g.pseg++(g.Aq++g.Ai))))))))) (pc fun z=>by simp only[SL,B4,C6,D8];omega) ?_
 rintro _ A' ⟨rfl,hA'⟩
 refine⟨_,List.Perm.refl _,((G2 s.d b).1,()),rfl,?_⟩
 have hqc:(G2 s.d b).2.c=s.d.c:=Bb7 ..
 have hwf:s.erase b=(if(G2 s.d b).1=11 then((s.dev (G2 s.d b).2).met 11,11)else
  ({s.dev (G2 s.d b).2 with ss:=if H1 s.ss b=true then Ad5 s.ss b (T9 (decide ((G2 s.d b).1=10)))else s.ss,rs:=s.rs.filter fun r=> !decide (r.b=b)},0)):=rfl
 rw[hwf]
 generalize G2 s.d b=q at hA' hqc
 obtain⟨s2,hs2⟩: ∃s2:Sto,s2=s.dev q.2:=⟨_,rfl⟩
 have X2:SX p s2 {g with Ad:=A'}:=by rw[hs2];exact{X with cfg:=hqc.trans X.cfg,dev:=hA',blk:=X.blk}
 rw[<-hs2]
 have eqs:stO p s2 {g with Ad:=A'}=stO p s g/\kO p s2=kO p s:=by rw[hs2];exact⟨rfl,rfl⟩
 have hp2:(A'++(stO p s g::(kO p s::(mO p g::(gO p g::(g.Ab++(rns g.ns++(rns g.on.toList++(g.pseg++(g.Aq++g.Ai)))))))))).Perm (SL p s2 {g with Ad:=A'}++[]):=pc fun z=>by
  simp only[SL,eqs.1,eqs.2,show mO p {g with Ad:=A'}=mO p g from rfl,show gO p {g with Ad:=A'}=gO p g from rfl,B4,C6,D8]
  omega
 generalize A'++(stO p s g::(kO p s::(mO p g::(gO p g::(g.Ab++(rns g.ns++(rns g.on.toList++(g.pseg++(g.Aq++g.Ai)))))))))=L2 at hp2
 obtain⟨g2,hg2⟩: ∃g2:SG,g2={g with Ad:=A'}:=⟨_,rfl⟩
 rw[<-hg2]at X2 hp2
 refine B8 (fun(h0:q.1=11)=>?_) (fun(h0: ¬q.1=11)=>?_)
 ·rw[if_pos h0,h0]
  refine G5 (Bo2 p s2 g2 X2 11) hp2 ?_
  rintro _ _ ⟨g',hL',X',rfl⟩
  exact⟨_,List.Perm.refl _,(11,()),rfl,.drop (A:=SL p (s2.met 11) g') (J:=[]) ⟨g',by simp,X',rfl⟩ (by rw[hL',List.append_nil])⟩
 ·rw[if_neg h0]
  have hus2:s2.us=s.us:=by rw[hs2];rfl
  have hss2:s2.ss=s.ss:=by rw[hs2];rfl
  have hblk:BX p.nb s.ss s.us g2.Ab:=by have:=X2.blk;rwa [hus2,hss2]at this
  refine A6 (some ⟨p.nb,0,none⟩) (E8 (SL.st hp2) rfl) ?_
  refine G5 (B54 p.nb s.ss s.us g2.Ab hblk hw b (decide (q.1=10))) (R:=stO p s2 g2::(kO p s2::(mO p g2::(gO p g2::(g2.Ad++(rns g2.ns++(rns g2.on.toList++(g2.pseg++(g2.Aq++g2.Ai))))))))) (pc fun z=>by have:=pcn hp2 z;simp only[SL,B4,C6,D8]at*;omega) ?_
  rintro _ Ab' ⟨rfl,hAb'⟩
  refine⟨_,List.Perm.refl _,(H1 s.ss b,()),rfl,?_⟩
  refine A6 (some p.nr) (E8 (s:=s2) (g:=g2) (k:=14) (by simp) rfl) ?_
  refine Bk9 mapR (r:=p.nr) (es:=g2.es) (clock:=g2.ck) (m:=W6 g2.all) (Y:=stO p s2 g2::(kO p s2::(gO p g2::(g2.Ad++(Ab'++(rns g2.ns++(rns g2.on.toList++(g2.pseg++(g2.Aq++g2.Ai))))))))) (pc fun z=>by rw[show(p.nr,Obj.map g2.es g2.ck)=mO p g2 from rfl];simp only[B4,C6,D8];omega) X2.mp b fun es' ck' L4 hmp hp4=>?_
  obtain⟨s3,hs3⟩: ∃s3:Sto,s3={s2 with ss:=if H1 s.ss b=true then Ad5 s.ss b (T9 (decide (q.1=10)))else s.ss,rs:=s.rs.filter fun r=> !decide (r.b=b)}:=⟨_,rfl⟩
  rw[<-hs3]
  have hrs2:s2.rs=s.rs:=by rw[hs2];rfl
  have hop2:s2.op=s.op:=by rw[hs2];rfl
  obtain⟨g3,hg3⟩: ∃g3:SG,g3={g2 with ns:=g2.ns.filter (fun x=> !decide (x.r.b=b)),Ab:=Ab',es:=es',ck:=ck'}:=⟨_,rfl⟩
  have hopb:s3.op=s.op:=by rw[hs3];exact hop2
  have hr3:s3.rs=s.rs.filter fun r=> !decide (r.b=b):=by rw[hs3]
  have hon2:g2.on.map RN.r=s.op:=by rw[X2.op,hop2]
  have hus3:s3.us=iwo s.us b:=by
   unfold Sto.us iwo
   rw[hopb,hr3,List.filter_append]
   congr 1
   ·rw[List.filter_map]
    congr 1
    refine List.filter_congr fun x _=>?_
    simp
   ·cases ho:s.op with
    |none=>rfl
    |some o=>
     have:=h1 o ho
     simp[this]
  have hall3:g3.all=g2.all.filter fun x=> !decide (x.r.b=b):=by
   rw[hg3]
   unfold SG.all
   rw[List.filter_append]
   congr 1
   cases ho:g2.on with
   |none=>rfl
   |some x=>
    rw[ho]at hon2
    have:=h1 x.r hon2.symm
    simp[this]
  refine .drop (A:=SL p s3 g3) (J:=(g2.ns.filter fun x=> !!decide (x.r.b=b)).flatMap RN.objs) ⟨g3,by simp,?_,rfl⟩ (pc fun z=>?_)
  ·refine⟨by rw[hs3];exact X2.cfg,by rw[hs3,hg3];exact X2.dev,?_,by rw[hs3,hg3];exact X2.que,by rw[hs3,hg3];exact X2.gho,by rw[hs3,hg3];exact X2.idx,?_,?_,by rw[hopb,hg3];exact hon2,?_,by rw[hs3,hg3];exact X2.pd⟩
   ·rw[hus3]
    have e1:s3.ss=if H1 s.ss b=true then Ad5 s.ss b (T9 (decide (q.1=10)))else s.ss:=by rw[hs3]
    have e2:g3.Ab=Ab':=by rw[hg3]
    have e3:(if H1 s.ss b=true then iwo s.us b else s.us)=iwo s.us b:=by
     split
     ·rfl
     ·rename_i hh
      have:=h2 (by simpa using hh)
      unfold iwo
      symm
      rw[List.filter_eq_self]
      intro y hy
      have:y≠b:=fun e=>this (e▸hy)
      simp[this]
    rw[e1,e2,<-e3];exact hAb'
   ·have hk:=X2.keys
    rw[Bh9 _ _ (by rw[hk,hus2];exact hnd)]at hmp
    rw[hall3]
    have:W6 (g2.all.filter fun x=> !decide (x.r.b=b))=(W6 g2.all).filter fun p=> !decide (p.1=b):=by
     unfold W6
     rw[List.filter_map];rfl
    rw[this]
    have e2:g3.es=es':=by rw[hg3]
    rw[e2];exact hmp
   ·rw[hr3,hg3]
    show(g2.ns.filter _).map RN.r=_
    rw[<-hrs2,<-X2.rs,List.filter_map];rfl
   ·intro y hy
    rw[hall3]at hy
    exact X2.ok y (List.mem_filter.1 hy).1
  ·have h4:=pcn hp4 z
   have hfs:=Bj9 RN.objs (fun x:RN=> !decide (x.r.b=b)) g2.ns z
   have e1:stO p s3 g3=stO p s2 g2:=by rw[hs3,hg3];rfl
   have e2:kO p s3=kO p s2:=by rw[hs3];rfl
   have e3:mO p g3=(p.nr,Obj.map es' ck'):=by rw[hg3];rfl
   have e4:gO p g3=gO p g2:=by rw[hg3];rfl
   have e6:g3.Ad=g2.Ad/\g3.Ab=Ab'/\g3.ns=g2.ns.filter (fun x=> !decide (x.r.b=b))/\g3.on=g2.on/\g3.pseg=g2.pseg/\g3.Aq=g2.Aq/\g3.Ai=g2.Ai:=by rw[hg3];exact⟨rfl,rfl,rfl,rfl,rfl,rfl,rfl⟩
   simp only[SL,e1,e2,e3,e4,e6.1,e6.2.1,e6.2.2.1,e6.2.2.2.1,e6.2.2.2.2.1,e6.2.2.2.2.2.1,e6.2.2.2.2.2.2,rns,B4,C6,D8]at*
   omega
def SU(p:SP)(s:Sto)(R:A4)(r:Value)(L':A4):Prop:= ∃g',L'=SL p s g'++R/\SX p s g'/\r= .t #[]
theorem SX.pendLen{p:SP}{s:Sto}{g:SG}(X:SX p s g):g.pv.len=s.pend.length:=X.pd.sl.els_len E1 (by decide)
theorem Bu1{p:SP}{s:Sto}{g:SG}{L R:A4}(hp:L.Perm (SL p s g++R))(X:SX p s g)(hpl:s.pend.length<=1000000000)(x:It){K:HP}(s':Sto)(hs':s'={s with pend:=s.pend++[x]})(hk: ∀g' L',L'.Perm (SL p s' g'++R)->SX p s' g'->K L'):
  ld ⟨p.n,17,none⟩ (.lf .sl) (fun v2=>apv PP 55 55 55 102 v2 1 [.i x.1,.i x.2.1,.i x.2.2.1] fun s1=>HL.st ⟨p.n,17,none⟩ [.slice s1.a s1.len s1.cap] K) L:=by
 have hl:=X.pendLen
 refine A6 g.pv (E8 (SL.st hp) rfl) ?_
 refine Af2 Ap8 Bt9 X.pd (Y:=stO p s g::(kO p s::(mO p g::(gO p g::(g.Ad++(g.Ab++(rns g.ns++(rns g.on.toList++(g.Aq++(g.Ai++R)))))))))) (ws:=O9 x) (pc fun z=>by have:=pcn hp z;simp only[SL,B4,C6,D8]at*;omega) rfl rfl (by omega) fun s1 seg1 hl1 own1=>?_
 refine Bo0 (s:=s) (g:=g) (k:=17) s' {g with pv:=s1,pseg:=seg1} (Y:=seg1++(kO p s::(mO p g::(gO p g::(g.Ad++(g.Ab++(rns g.ns++(rns g.on.toList++(g.Aq++(g.Ai++R)))))))))) (pc fun z=>by simp only[B4,C6,D8];omega) (by decide) (by rw[hs'];rfl) fun L2 hp2=>hk {g with pv:=s1,pseg:=seg1} L2 (pc fun z=>?_) ?_
 ·have:=pcn hp2 z
  have e1:kO p s'=kO p s:=by rw[hs'];rfl
  simp only[SL,e1,show mO p {g with pv:=s1,pseg:=seg1}=mO p g from rfl,show gO p {g with pv:=s1,pseg:=seg1}=gO p g from rfl,B4,C6,D8]at*
  omega
 ·rw[hs']
  refine{X with cfg:=X.cfg,dev:=X.dev,blk:=X.blk,pd:=?_}
  show Own s1 3 A12 ((s.pend++[x]).flatMap O9) seg1
  rw[List.flatMap_append,List.flatMap_singleton];exact own1
theorem Bu3(p:SP)(s:Sto)(g:SG)(X:SX p s g)(hw:1<=s.sc.ways)(key:ByteArray)(hk:key.size<=1000000)(hrow:(P5 s.ix (s.hash key)).length<100)(hpl:s.pend.length<=1000000000)(x:It):
  CallF PP 101 #[.q (some ⟨p.n,0,none⟩),.w key,.agg #[.i x.1,.i x.2.1,.i x.2.2.1]] (SL p s g) (SU p (s.list key x) []):=by
 refine c101 (some ⟨p.n,0,none⟩) key x ?_
 unfold s101
 have hp0:(SL p s g).Perm (SL p s g++[]):=by rw[List.append_nil]
 refine A5 rfl (A6 (some ⟨p.ni,0,none⟩) (E8 (SL.st hp0) rfl) (B7 (Z9 hp0 key hk) (((s.hash key:Nat):Int),()) rfl (F5 (E8 (SL.st hp0) rfl) ?_)))
 refine G5 (Dc4 p.ni s.sc.ways s.ix g.Ai X.idx hw (s.hash key) (Az4 s key) x hrow) (R:=stO p s g::(kO p s::(mO p g::(gO p g::(g.Ad++(g.Ab++(rns g.ns++(rns g.on.toList++(g.pseg++g.Aq))))))))) (pc fun z=>by simp only[SL,B4,C6,D8];omega) ?_
 rintro _ Ai' ⟨⟨gn,rfl,hgn⟩,hAi'⟩
 refine⟨_,List.Perm.refl _,((gn.b,gn.p,gn.e,()),Ad7 (H0 (P5 s.ix (s.hash key)) (inm (s.hash key) x)) s.sc.ways,()),rfl,?_⟩
 obtain⟨s1,hs1⟩: ∃s1:Sto,s1={s with ix:=C28 s.ix s.sc.ways (s.hash key) x}:=⟨_,rfl⟩
 obtain⟨g1,hg1⟩: ∃g1:SG,g1={g with Ai:=Ai'}:=⟨_,rfl⟩
 have X1:SX p s1 g1:=by rw[hs1,hg1];exact{X with cfg:=X.cfg,dev:=X.dev,blk:=X.blk,idx:=hAi'}
 have hp1:(Ai'++(stO p s g::(kO p s::(mO p g::(gO p g::(g.Ad++(g.Ab++(rns g.ns++(rns g.on.toList++(g.pseg++g.Aq)))))))))).Perm (SL p s1 g1++[]):=pc fun z=>by
  have e1:stO p s1 g1=stO p s g:=by rw[hs1,hg1];rfl
  have e2:kO p s1=kO p s:=by rw[hs1];rfl
  have e3:mO p g1=mO p g:=by rw[hg1];rfl
  have e4:gO p g1=gO p g:=by rw[hg1];rfl
  simp only[SL,e1,e2,e3,e4,B4,C6,D8]
  simp only[hg1]
  omega
 generalize Ai'++(stO p s g::(kO p s::(mO p g::(gO p g::(g.Ad++(g.Ab++(rns g.ns++(rns g.on.toList++(g.pseg++g.Aq)))))))))=L1 at hp1
 have hl:s.list key x={s1 with pend:=if Ad7 (H0 (P5 s.ix (s.hash key)) (inm (s.hash key) x)) s.sc.ways=true then s.pend++[(Cg1 (P5 s.ix (s.hash key)) s.sc.ways (s.hash key) x).pl]else s.pend}:=by rw[hs1];rfl
 have hpe:s1.pend=s.pend:=by rw[hs1]
 rw[hl]
 dsimp only
 refine G7 (fun h=>?_) (fun h=>?_)
 ·rw[if_pos h]
  refine Bu1 (x:=gn.pl) hp1 X1 (by rw[hpe];exact hpl) _ rfl fun g' L' hp' X'=>?_
  rw[hpe,hgn]at hp' X'
  exact .drop (A:=SL p _ g') (J:=[]) ⟨g',by simp,X',rfl⟩ hp'
 ·rw[if_neg (by rw[h];decide)]
  have:({s1 with pend:=s.pend}:Sto)=s1:=by rw[<-hpe]
  rw[this]
  exact .drop (A:=SL p s1 g1) (J:=[]) ⟨g1,by simp,X1,rfl⟩ hp1
theorem De2{α:Type}{q:α->Bool}{l:List α}{i:Nat}(hi:i<l.length)(hn:(l.take i).find? q=none)(hq:q l[i]=true):l.find? q=some l[i]:=by
 conv=>lhs;rw[<-List.take_append_drop i l]
 rw[List.find?_append,hn,List.drop_eq_getElem_cons hi,List.find?_cons_of_pos hq];rfl
def Sto.placeV(s:Sto)(key:ByteArray):List UInt8:=match s.place key with
 |none=>[]
 |some p=>(C5 s.d p).2.1
def PlK(s:Sto)(key:ByteArray)(A:A4)(r:Value)(L':A4):Prop:= ∃(u:SlV) (sg:A4),r= .t #[.agg #[.i ((s.place key).getD (0,0,0,())).1,.i ((s.place key).getD (0,0,0,())).2.1,.i ((s.place key).getD (0,0,0,())).2.2.1],.slice u.a u.len u.cap,.b (s.place key).isSome]/\
 L'=sg++A/\Own u 1 eB (bvs (s.placeV key)) sg
theorem Al1(p:SP)(s:Sto)(g:SG)(X:SX p s g)(ok:Q3 s.d)(key:ByteArray)(hk:key.size<=1000000)(hrow:(P5 s.ix (s.hash key)).length<100)(hwf: ∀x∈Q2 (P5 s.ix (s.hash key)) (s.hash key),Q6 .i64 x.2.1):
  CallF PP 53 #[.q (some ⟨p.n,0,none⟩),.w key] (SL p s g) (PlK s key (SL p s g)):=by
 refine c53 (some ⟨p.n,0,none⟩) key ?_
 unfold s53
 have hp0:(SL p s g).Perm (SL p s g++[]):=by rw[List.append_nil]
 refine A5 rfl (A6 (some ⟨p.ni,0,none⟩) (E8 (SL.st hp0) rfl) (B7 (Z9 hp0 key hk) (((s.hash key:Nat):Int),()) rfl (F5 (E8 (SL.st hp0) rfl) ?_)))
 refine G5 (Bx0 p.ni s.sc.ways s.ix g.Ai X.idx (s.hash key) (Az4 s key)) (R:=stO p s g::(kO p s::(mO p g::(gO p g::(g.Ad++(g.Ab++(rns g.ns++(rns g.on.toList++(g.pseg++g.Aq))))))))) (pc fun z=>by simp only[SL,B4,C6,D8];omega) ?_
 rintro _ _ ⟨u,seg,rfl,rfl,own⟩
 refine⟨seg++SL p s g,pc fun z=>by simp only[SL,B4,C6,D8];omega,(u,()),rfl,?_⟩
 dsimp only
 have hpe:s.place key=(Q2 (P5 s.ix (s.hash key)) (s.hash key)).find? fun p=>decide ((C5 s.d p).2.2=0/\As3 (C5 s.d p).1=key):=rfl
 have hlen:(Q2 (P5 s.ix (s.hash key)) (s.hash key)).length<100:=by
  unfold Q2
  rw[List.length_map]
  exact Nat.lt_of_le_of_lt (List.length_filter_le ..) hrow
 have hpv:s.placeV key=match s.place key with|none=>[]|some p=>(C5 s.d p).2.1:=rfl
 generalize Q2 (P5 s.ix (s.hash key)) (s.hash key)=l at own hpe hwf hlen
 have hul:=own.sl.els_len Ag2 (by decide)
 refine G0 (fun z' z L'=> ∃i:Nat,i<=l.length/\z'=l.length-i/\z=((i:Int),())/\(l.take i).find? (fun p=>decide ((C5 s.d p).2.2=0/\As3 (C5 s.d p).1=key))=none/\ ∃J,L'.Perm (seg++(J++SL p s g))) l.length ⟨0,by omega,by omega,rfl,rfl,[],by simp⟩ ?_
 rintro z' z L1 ⟨i,hi,rfl,rfl,hno,J,hp1⟩
 dsimp only
 have hp1':L1.Perm (SL p s g++(seg++J)):=pc fun z=>by have:=pcn hp1 z;simp only[B4,C6,D8]at*;omega
 refine B8 (fun(hlt:(i:Int)<u.len)=>?_) (fun(hge: ¬(i:Int)<u.len)=>?_)
 ·have hi':i<l.length:=by omega
  refine V7 Ag2 (by decide) (own.sl.mono fun x hx=>hp1.symm.subset (by simp[hx])) (n:=i) rfl hi' fun a ha=>?_
  have hwi:=hwf _ (List.getElem_mem hi')
  refine A6 (sh:=.agg [.int .i64,.int .i64,.int .i64]) l[i] ha (A6 (some ⟨p.m,0,none⟩) (E8 (SL.st hp1') rfl) ?_)
  refine G5 (Bb5 p.m s.d g.Ad X.dev ok l[i] hwi) (R:=stO p s g::(kO p s::(mO p g::(gO p g::(g.Ab++(rns g.ns++(rns g.on.toList++(g.pseg++(g.Aq++(g.Ai++(seg++J))))))))))) (pc fun z=>by have:=pcn hp1 z;simp only[SL,B4,C6,D8]at*;omega) ?_
  rintro _ _ ⟨q,rfl,rfl,hq,hql⟩
  refine⟨_,List.Perm.refl _,(As3 (C5 s.d l[i]).1,q.v,(C5 s.d l[i]).2.2,()),rfl,?_⟩
  dsimp only
  have more: ¬((C5 s.d l[i]).2.2=0/\As3 (C5 s.d l[i]).1=key)-> ∃k',k'<l.length-i/\ ∃i':Nat,i'<=l.length/\k'=l.length-i'/\(((i:Int)+1,()):RsV [lI])=((i':Int),())/\(l.take i').find? (fun p=>decide ((C5 s.d p).2.2=0/\As3 (C5 s.d p).1=key))=none/\ ∃J',((q.seg++g.Ad)++(stO p s g::(kO p s::(mO p g::(gO p g::(g.Ab++(rns g.ns++(rns g.on.toList++(g.pseg++(g.Aq++(g.Ai++(seg++J)))))))))))).Perm (seg++(J'++SL p s g)):=fun hne=>
   ⟨l.length-(i+1),by omega,i+1,by omega,rfl,rfl,by rw[List.take_succ_eq_append_getElem hi',List.find?_append,hno];simp[hne],q.seg++J,pc fun z=>by simp only[SL,B4,C6,D8];omega⟩
  refine B8 (fun(h0:(C5 s.d l[i]).2.2=0)=>?_) (fun(h0: ¬(C5 s.d l[i]).2.2=0)=>D9 (by omega) (more fun h=>h0 h.1))
  refine B8 (fun(h1:As3 (C5 s.d l[i]).1=key)=>?_) (fun(h1: ¬As3 (C5 s.d l[i]).1=key)=>D9 (by omega) (more fun h=>h1 h.2))
  have hf:s.place key=some l[i]:=by rw[hpe];exact De2 hi' hno (by simp[h0,h1])
  refine .drop (A:=q.seg++SL p s g) (J:=seg++J) ⟨q.v,q.seg,by rw[hf];rfl,rfl,?_⟩ (pc fun z=>by simp only[SL,B4,C6,D8];omega)
  rw[hpv,hf]
  show Own q.v 1 eB (bvs (C5 s.d l[i]).2.1) q.seg
  rw[<-hql];exact hq
 ·obtain rfl:i=l.length:=by omega
  rw[List.take_length]at hno
  have hf:s.place key=none:=by rw[hpe];exact hno
  refine .drop (A:=SL p s g) (J:=seg++J) ⟨⟨none,0,0⟩,[],by rw[hf];rfl,rfl,?_⟩ hp1'
  rw[hpv,hf];exact F4
structure Aj2(ways:Int)(l:List D0):Prop where
 len:(l.length:Int)<=ways
 nd:(l.map D0.nm).Nodup
 fr: ∀s∈l,0<=s.freq/\s.freq<=3
theorem Aj2.erase{ways:Int}{l:List D0}(g:Aj2 ways l)(nm:Aq5):Aj2 ways (H0 l nm):=by
 have hs:(H0 l nm).Sublist l:=List.eraseP_sublist ..
 exact⟨by have:=hs.length_le;have:=g.len;omega,(hs.map _).nodup g.nd,fun s h=>g.fr s (hs.subset h)⟩
theorem Bk2{ways:Int}{l:List D0}(g:Aj2 ways l)(nm:Aq5):nm∉(H0 l nm).map D0.nm:=by
 rcases V5 l nm with⟨e1,e2,e3⟩|⟨j,hj,e1,e2,e4,e3⟩
 ·rw[e3]
  intro h
  obtain⟨s,hs,he⟩:=List.mem_map.1 h
  rw[List.find?_eq_none]at e2
  exact e2 s hs (by simpa using he)
 ·rw[e3]
  have hl:l=l.take j++l[j]::l.drop (j+1):=by rw[<-List.drop_eq_getElem_cons hj,List.take_append_drop]
  have hn:=g.nd
  rw[hl,List.map_append,List.map_cons,List.nodup_append]at hn
  obtain⟨n1,n2,n3⟩:=hn
  rw[List.nodup_cons]at n2
  rw[List.map_append,List.mem_append]
  rintro(h|h)
  ·exact n3 _ h l[j].nm (by simp) (by rw[e4])
  ·exact n2.1 (by rw[e4];exact h)
theorem Av5{ways:Int}{l:List D0}{x:D0}(g:Aj2 ways l)(h1:(l.length:Int)+1<=ways)(h2:x.nm∉l.map D0.nm)(h3:0<=x.freq/\x.freq<=3):Aj2 ways (l++[x]):=by
 refine⟨by rw[List.length_append];simp only[List.length_cons,List.length_nil];omega,?_,fun s hs=>?_⟩
 ·rw[List.map_append,List.nodup_append]
  refine⟨g.nd,by simp,fun a ha b hb=>?_⟩
  simp only[List.map_cons,List.map_nil,List.mem_singleton]at hb
  rintro rfl
  rw[hb]at ha
  exact h2 ha
 ·rcases List.mem_append.1 hs with h|h
  ·exact g.fr s h
  ·rw[List.mem_singleton.1 h];exact h3
theorem Br3(h:Nat)(p:Pl)(f:Int):(Cm9 h p f).nm=inm h p:=rfl
theorem Bv3{ways:Int}{l:List D0}(g:Aj2 ways l)(hw:1<=ways)(h:Nat)(p:Pl):Aj2 ways (B36 l ways h p):=by
 have g1:=g.erase (inm h p)
 have hn:=Bk2 g (inm h p)
 unfold B36
 generalize H0 l (inm h p)=l1 at g1 hn⊢
 by_cases hf:Ad7 l1 ways=true
 ·rw[if_pos hf]
  unfold Ad7 at hf
  have hl:(l1.length:Int)=ways:=by simpa using hf
  have hs:(l1.drop 1).Sublist l1:=List.drop_sublist ..
  refine Av5 ⟨?_,(hs.map _).nodup g1.nd,fun s h=>g1.fr s (hs.subset h)⟩ ?_ ?_ (by simp[Cm9])
  ·rw[List.length_drop];omega
  ·rw[List.length_drop];omega
  ·rw[Br3];exact fun h=>hn ((hs.map _).subset h)
 ·rw[if_neg hf]
  unfold Ad7 at hf
  have hl:(l1.length:Int)≠ways:=by simpa using hf
  have:=g1.len
  exact Av5 g1 (by omega) (by rw[Br3];exact hn) (by simp[Cm9])
theorem Bx3{ways:Int}{l:List D0}(g:Aj2 ways l)(nm:Aq5):Aj2 ways (As6 l nm):=by
 unfold As6
 cases hx:l.findIdx? (fun s=>decide (s.nm=nm))with
 |none=>exact g
 |some j=>
  simp only
  have hm:(l.modify j Cn0).map D0.nm=l.map D0.nm:=by
   apply List.ext_getElem?
   intro i
   rw[List.getElem?_map,List.getElem?_map,List.getElem?_modify]
   cases l[i]? with
   |none=>rfl
   |some s=>
    by_cases hij:j=i
    ·simp[hij,Cn0,D0.nm]
    ·simp[hij]
  refine⟨by rw[List.length_modify];exact g.len,by rw[hm];exact g.nd,fun s hs=>?_⟩
  obtain⟨i,hi,rfl⟩:=List.mem_iff_getElem.1 hs
  rw[List.getElem_modify]
  rw[List.length_modify]at hi
  have h1:=g.fr l[i] (List.getElem_mem hi)
  split
  ·unfold Cn0 Ab3
   simp only
   split<;>omega
  ·exact h1
theorem Cc9{ways:Int}{l:List D0}{x:D0}(g:Aj2 ways l)(h:Nat)(p q:Pl)(hx:l.find? (fun s=>decide (s.nm=inm h p))=some x):Aj2 ways (H0 (H0 l (inm h p)) (inm h q)++[Cm9 h q (Z6 (x.freq-1) 0)]):=by
 have g1:=g.erase (inm h p)
 have g2:=g1.erase (inm h q)
 have hn:=Bk2 g1 (inm h q)
 have hlt:(H0 l (inm h p)).length<l.length:=by
  rcases V5 l (inm h p)with⟨_,e,_⟩|⟨j,hj,_,_,_,e⟩
  ·rw[hx]at e;cases e
  ·rw[e,List.length_append,List.length_take,List.length_drop];omega
 have hle:(H0 (H0 l (inm h p)) (inm h q)).length<=(H0 l (inm h p)).length:=List.length_eraseP_le ..
 have hfx:=g.fr x (List.mem_of_find?_eq_some hx)
 have:=g.len
 refine Av5 g2 (by omega) (by rw[Br3];exact hn) ?_
 show 0<=Z6 (x.freq-1) 0/\Z6 (x.freq-1) 0<=3
 unfold Z6
 split<;>omega
def Cn2(ways:Int)(ss:List (List D0)):Prop:= ∀l∈ss,Aj2 ways l
theorem Cn2.row{ways:Int}{ss:List (List D0)}(g:Cn2 ways ss){h:Nat}(hl:isi ss h<ss.length):Aj2 ways (P5 ss h):=by
 unfold P5
 rw[List.getD_eq_getElem?_getD,List.getElem?_eq_getElem hl]
 exact g _ (List.getElem_mem hl)
theorem Cn2.iset{ways:Int}{ss:List (List D0)}(g:Cn2 ways ss)(h:Nat){row:List D0}(hr:Aj2 ways row):Cn2 ways (iset ss h row):=by
 intro l hl
 unfold Go.Proofs.YtbaoieipijmakaaGreatDoor.iset at hl
 rcases List.mem_or_eq_of_mem_set hl with h1|h1
 ·exact g l h1
 ·rw[h1];exact hr
theorem Am7(ss:List (List D0))(h:Nat)(row:List D0):(iset ss h row).length=ss.length:=List.length_set ..
def iact(ways:Int)(ss:List (List D0))(kind:Int)(h:Nat)(p q:Pl):List (List D0):=
 if kind=0 then C28 ss ways h p else if kind=1 then ss else if kind=2 then iset ss h (H0 (P5 ss h) (inm h p))else if kind=3 then iset ss h (As6 (P5 ss h) (inm h p))else Az0 ss h p q
theorem Cu6{ways:Int}{ss:List (List D0)}(g:Cn2 ways ss)(hw:1<=ways){h:Nat}(hl:isi ss h<ss.length)(p:Pl):Cn2 ways (C28 ss ways h p):=g.iset h (Bv3 (g.row hl) hw h p)
theorem Cv4{ways:Int}{ss:List (List D0)}(g:Cn2 ways ss)(hw:1<=ways)(kind:Int){h:Nat}(hl:isi ss h<ss.length)(p q:Pl):Cn2 ways (iact ways ss kind h p q)/\(iact ways ss kind h p q).length=ss.length:=by
 unfold iact
 split
 ·exact⟨Cu6 g hw hl p,Am7 ..⟩
 ·split
  ·exact⟨g,rfl⟩
  ·split
   ·exact⟨g.iset h ((g.row hl).erase _),Am7 ..⟩
   ·split
    ·exact⟨g.iset h (Bx3 (g.row hl) _),Am7 ..⟩
    ·unfold Az0
     split
     ·exact⟨g,rfl⟩
     ·rename_i x hx
      exact⟨g.iset h (Cc9 (g.row hl) h p q hx),Am7 ..⟩
def bct(q:Nat->Bool):Nat->Nat
 |0=>0
 |k+1=>bct q k+(if q k=true then 1 else 0)
theorem A06{q r:Nat->Bool}: ∀{k:Nat},(∀i,i<k->q i=r i)->bct q k=bct r k
 |0,_=>rfl
 |k+1,h=>by
  unfold bct
  rw[A06 (fun i hi=>h i (by omega)),h k (by omega)]
theorem Cl3(q r:Nat->Bool): ∀k,bct (fun i=>q i&& !r i) k+bct (fun i=>q i&&r i) k=bct q k
 |0=>rfl
 |k+1=>by
  have:=Cl3 q r k
  unfold bct
  cases q k<;>cases r k<;>simp<;>omega
theorem C42(q:Nat->Bool): ∀k,bct q k<=k
 |0=>Nat.le_refl _
 |k+1=>by
  have:=C42 q k
  unfold bct
  split<;>omega
theorem Cl2{q r:Nat->Bool}{j:Nat}: ∀{k:Nat},(∀i,i<k->i≠j->q i=r i)->j<k->bct q k+(if r j=true then 1 else 0)=bct r k+(if q j=true then 1 else 0)
 |0,_,hj=>by omega
 |k+1,h,hj=>by
  unfold bct
  by_cases hk:j=k
  ·subst hk
   rw[A06 (q:=q) (r:=r) (fun i hi=>h i (by omega) (by omega))]
   omega
  ·have h1:=Cl2 (q:=q) (r:=r) (j:=j) (k:=k) (fun i hi hne=>h i (by omega) hne) (by omega)
   have h2:=h k (by omega) (fun e=>hk e.symm)
   rw[h2]
   omega
theorem B02: ∀k,bct (fun _=>false) k=0
 |0=>rfl
 |k+1=>by unfold bct;rw[B02 k];rfl
theorem B53(ss:List BS)(us:List Int):A63 ss us=((bct (fun i=>N1 ss us (i:Int)) ss.length:Nat):Int):=by
 unfold A63
 refine Bk5 (N1 ss us) (fun(k:Int) _ _=>k+1) 0 ss (fun n k=>k=((bct (fun i=>N1 ss us (i:Int)) n:Nat):Int)) rfl ?_
 intro i hi s hs
 subst hs
 show _=((bct (fun i=>N1 ss us (i:Int)) i+(if N1 ss us (i:Int)=true then 1 else 0):Nat):Int)
 split<;>simp
def Ck6(ss:List BS)(us:List Int):Prop:=us.Nodup/\ ∀x∈us,H1 ss x=true
theorem Cy6{ss:List BS}{x:Int}(h:H1 ss x=true):0<=x/\x<ss.length:=by
 obtain⟨h0,hi,_⟩:=M8 h
 omega
theorem Bz6{ss:List BS}{us:List Int}(h:Ck6 ss us):bus ss us:=⟨h.1,fun x hx=>Cy6 (h.2 x hx)⟩
def Z3(ss:List BS):Nat:=bct (fun i=>H1 ss (i:Int)) ss.length
theorem Bl8{ss:List BS}{us:List Int}(h:Ck6 ss us){n:Int}(hf:N1 ss us n=true):Ck6 ss (us++[n]):=by
 refine⟨(Bz7 (Bz6 h) hf).1,fun x hx=>?_⟩
 rcases List.mem_append.1 hx with h1|h1
 ·exact h.2 x h1
 ·rw[List.mem_singleton.1 h1];exact(H9 hf).1
theorem Bm2{ss:List BS}{n:Int}(g:BS->BS){x:Int}(hn:0<=n)(hx:x≠n):H1 (Ad5 ss n g) x=H1 ss x:=by
 unfold H1 Ad5
 by_cases h0:0<=x
 ·rw[List.getElem?_modify]
  have: ¬n.toNat=x.toNat:=by omega
  simp[this]
 ·rw[decide_eq_false h0];rfl
theorem Bm1{ss:List BS}{n:Int}(g:BS->BS)(hg:H1 ss n=true): ∃s,ss[n.toNat]?=some s/\H1 (Ad5 ss n g) n= !(g s).bad:=by
 obtain⟨h0,hi,hb⟩:=M8 hg
 refine⟨ss[n.toNat],List.getElem?_eq_getElem hi,?_⟩
 unfold H1 Ad5
 rw[List.getElem?_modify,decide_eq_true h0,List.getElem?_eq_getElem hi]
 simp
theorem Dc0{us:List Int}{n x:Int}:x∈iwo us n↔x∈us/\x≠n:=by
 unfold iwo
 rw[List.mem_filter]
 simp
theorem Cy0{ss:List BS}{us:List Int}(h:Ck6 ss us){n:Int}(hn:H1 ss n=true)(g:BS->BS):Ck6 (Ad5 ss n g) (iwo us n):=by
 have h0:=(M8 hn).1
 refine⟨h.1.filter _,fun x hx=>?_⟩
 obtain⟨h1,h2⟩:=Dc0.1 hx
 rw[Bm2 g h0 h2]
 exact h.2 x h1
theorem A62{ss:List BS}{n:Int}(hn:H1 ss n=true)(g:BS->BS){bad:Bool}(hb: ∀s,ss[n.toNat]?=some s->(g s).bad=bad):(Z3 (Ad5 ss n g):Int)=Z3 ss-(if bad=true then 1 else 0):=by
 obtain⟨h0,hi,hbb⟩:=M8 hn
 obtain⟨s,hs,hg⟩:=Bm1 g hn
 rw[hb s hs]at hg
 have h1:=Cl2 (q:=fun i=>H1 (Ad5 ss n g) (i:Int)) (r:=fun i=>H1 ss (i:Int)) (j:=n.toNat) (k:=ss.length) (fun i hi hne=>Bm2 g h0 (by omega)) (by omega)
 have e:((n.toNat:Nat):Int)=n:=by omega
 simp only[e]at h1
 rw[hn,hg]at h1
 unfold Z3
 rw[Bc2]
 cases bad<;>simp at h1⊢ <;>omega
def bat(ss:List BS)(n:Int):BS:=(ss[n.toNat]?).getD bs0
theorem B04{ss:List BS}{i:Nat}(hi:i<ss.length):bat ss (i:Int)=ss[i]:=by
 unfold bat
 rw[Int.toNat_natCast,List.getElem?_eq_getElem hi];rfl
theorem A58(ss:List BS)(us:List Int):((E9 ss us).1=false-> ∀i:Nat,i<ss.length->N1 ss us i=false)/\
  ((E9 ss us).1=true->N1 ss us (E9 ss us).2.2=true/\(E9 ss us).2.1=bat ss (E9 ss us).2.2/\ ∀i:Nat,i<ss.length->N1 ss us i=true->Z7 (bat ss (E9 ss us).2.2)<=Z7 (bat ss i))/\((E9 ss us).1=false->(E9 ss us).2.1=bs0/\(E9 ss us).2.2=0):=by
 unfold E9
 refine Bk5 (N1 ss us) N6 (false,bs0,0) ss (fun n (s:BPk)=>(s.1=false-> ∀i:Nat,i<n->N1 ss us i=false)/\(s.1=true->N1 ss us s.2.2=true/\s.2.1=bat ss s.2.2/\ ∀i:Nat,i<n->N1 ss us i=true->Z7 (bat ss s.2.2)<=Z7 (bat ss i))/\(s.1=false->s.2.1=bs0/\s.2.2=0)) ⟨fun _ i hi=>by omega,fun h=>by simp at h,fun _=>⟨rfl,rfl⟩⟩ ?_
 rintro i hi ⟨fd,best,at'⟩ ⟨h1,h2,h3⟩
 simp only at h1 h2 h3
 by_cases hf:N1 ss us (i:Int)=true
 ·rw[if_pos hf]
  unfold N6
  simp only
  by_cases hc:fd=false\/Z7 ss[i]<Z7 best
  ·rw[if_pos hc]
   refine⟨fun h=>by simp at h,fun _=>⟨hf,(B04 hi).symm,fun j hj hfj=>?_⟩,fun h=>by simp at h⟩
   simp only[B04 hi]
   rcases Nat.lt_or_ge j i with hji|hji
   ·rcases hc with hc|hc
    ·rw[h1 hc j hji]at hfj;cases hfj
    ·cases fd with
     |false=>rw[h1 rfl j hji]at hfj;cases hfj
     |true=>
      obtain⟨a,b,c⟩:=h2 rfl
      have:=c j hji hfj
      rw[b]at hc
      omega
   ·obtain rfl:j=i:=by omega
    rw[B04 hi]
    exact Int.le_refl _
  ·rw[if_neg hc]
   have hfd:fd=true:=by
    cases fd with
    |true=>rfl
    |false=>exact absurd (.inl rfl) hc
   subst hfd
   obtain⟨a,b,c⟩:=h2 rfl
   refine⟨fun h=>by simp at h,fun _=>⟨a,b,fun j hj hfj=>?_⟩,fun h=>by simp at h⟩
   rcases Nat.lt_or_ge j i with hji|hji
   ·exact c j hji hfj
   ·obtain rfl:j=i:=by omega
    have: ¬Z7 ss[j]<Z7 best:=fun q=>hc (.inr q)
    rw[b,<-B04 hi]at this
    show Z7 (bat ss at')<=_
    omega
 ·rw[if_neg hf]
  have hf':N1 ss us (i:Int)=false:=by simpa using hf
  refine⟨fun h j hj=>?_,fun h=>⟨(h2 h).1,(h2 h).2.1,fun j hj hfj=>?_⟩,h3⟩
  ·rcases Nat.lt_or_ge j i with hji|hji
   ·exact h1 h j hji
   ·obtain rfl:j=i:=by omega
    exact hf'
  ·rcases Nat.lt_or_ge j i with hji|hji
   ·exact(h2 h).2.2 j hji hfj
   ·obtain rfl:j=i:=by omega
    rw[hf']at hfj;cases hfj
structure RowOk(s:Sto)(h:Nat):Prop where
 len:(P5 s.ix h).length<100
 wf: ∀x∈Q2 (P5 s.ix h) h,Q6 .i64 x.2.1
 fr: ∀x∈P5 s.ix h,0<=x.freq/\x.freq<=3
def Reg.Good(r:Reg):Prop:=r.l.length<=256/\ ∀x∈r.l,(0<=x.2.1/\x.2.1<=255)/\0<=x.2.2.1/\x.2.2.1<=255
structure SOk(s:Sto)(M:Nat):Prop where
 dv:Q3 s.d
 dn:s.down=s.d.down
 few:s.d.torn.length+(if s.d.down=true then 0 else 1)<=1000
 cfg:s.d.c=s.sc.c
 bk:s.bk.Ok
 ixi:Cn2 s.sc.ways s.ix
 ixl:1<=s.ix.length
 ixw: ∀row∈s.ix,∀x∈row,Q6 .i64 x.p
 wy:1<=s.sc.ways/\s.sc.ways<=8
 sm:0<=s.sc.small/\s.sc.small<=65536
 gs:0<=s.sc.ghost/\s.sc.ghost<=64
 gl:(s.gh.length:Int)<=s.sc.ghost
 op: ∀o,s.op=some o->1<=o.nx/\o.nx<=16/\(o.l.length:Int)<=o.nx
 it: ∀r,r∈s.rs\/s.op=some r->r.Good
 use:Ck6 s.ss s.us
 ssl:s.ss.length=s.d.bs.length
 ssd:s.down=false-> ∀(i:Nat) k,s.d.bs[i]?=some k-> ∃x,s.ss[i]?=some x/\x.wear=k.wear/\x.bad=k.bad
 sw: ∀x∈s.ss,0<=x.wear/\x.wear<=1048576
 ep:0<=s.epoch/\s.epoch<=1073741824
 qs: ∀e∈s.q,1<=e.1.size/\e.1.size<=255/\e.2.1.length<=65536
 ql:s.q.length<=66000
 pl:s.pend.length<=M
section
variable {s:Sto} {M:Nat}
theorem SOk.S(h:SOk s M):64<=s.sc.c.S/\s.sc.c.S<=512:=by rw[<-h.cfg];exact h.dv.c.s
theorem SOk.P(h:SOk s M):4<=s.sc.c.P/\s.sc.c.P<=16:=by rw[<-h.cfg];exact h.dv.c.p
theorem SOk.isi(h:SOk s M)(k:Nat):isi s.ix k<s.ix.length:=Nat.mod_lt _ h.ixl
theorem Am9{ss:List (List D0)}{k:Nat}(h:isi ss k<ss.length):P5 ss k∈ss:=by
 unfold P5
 rw[List.getD_eq_getElem?_getD,List.getElem?_eq_getElem h]
 exact List.getElem_mem h
theorem SOk.row(h:SOk s M)(k:Nat):RowOk s k:=by
 have g:=h.ixi.row (h.isi k)
 have hm:=Am9 (h.isi k)
 refine⟨by have:=g.len;have:=h.wy;omega,fun x hx=>?_,g.fr⟩
 unfold Q2 at hx
 obtain⟨y,hy,rfl⟩:=List.mem_map.1 hx
 exact h.ixw _ hm y (List.mem_filter.1 hy).1
theorem SOk.dg(h:SOk s M)(n:Nat)(hn:n<=1000000):DG s.d n:=⟨h.dv,by have:=h.few;split at this<;>omega⟩
theorem SOk.upto{N:Nat}(h:SOk s M)(hn:M<=N):SOk s N:={h with pl:=Nat.le_trans h.pl hn}
theorem SOk.usl(h:SOk s M):s.us.length<=16:=by
 have h1:=Bs6 (Bz6 h.use)
 have h2:=h.ssl
 have h3:=h.dv.len
 have h4:=h.dv.c.b
 omega
theorem SOk.pay(h:SOk s M)(n:Int):SOk (s.pay n) M:={h with dv:=h.dv,bk:=Ck9 h.bk _}
theorem SOk.step(h:SOk s M)(hd:s.down=false){d':Dev}{e:Int}(st:DSt s.d d' e):SOk ((s.dev d').met e) M:=by
 have e1:((s.dev d').met e).down=decide (e=11):=by
  show(s.down||decide (e=11))=_
  rw[hd];rfl
 refine{h with dv:=st.ok,dn:=by rw[e1];exact st.dn.symm,few:=?_,cfg:=st.c.trans h.cfg,ssl:=h.ssl.trans st.ln.symm,ssd:=fun hx i k hk=>?_}
 ·have h1:=st.tn
  have h2:=h.few
  rw[<-h.dn,hd]at h2
  simp at h2
  show d'.torn.length+(if d'.down=true then 0 else 1)<=1000
  omega
 ·obtain⟨k0,hk0,w,b⟩:=st.wr i k hk
  obtain⟨x,hx,w2,b2⟩:=h.ssd hd i k0 hk0
  exact⟨x,hx,by rw[w2,w],b2.trans b.symm⟩
theorem met0(s:Sto):s.met 0=s:=by unfold Sto.met;simp
theorem Ct5{s:Sto}{e:Int}(hd:s.down=false)(he:e=0):(s.met e).down=false:=by rw[he,met0];exact hd
theorem bat_lt{l:List It}{x:It}{P:It->Prop}(h: ∀y∈l,P y)(hx:P x): ∀y∈l++[x],P y:=fun y hy=>by
 rcases List.mem_append.1 hy with hy|hy
 ·exact h y hy
 ·rw[List.mem_singleton.1 hy];exact hx
theorem SOk.write(h:SOk s M)(hd:s.down=false)(kind:Int)(l:List (List UInt8)):SOk (s.write kind l).1 M/\((s.write kind l).2.2=0->(s.write kind l).1.down=false):=by
 unfold Sto.write
 split
 ·exact⟨h,fun _=>hd⟩
 ·rename_i o ho
  have hP:=h.P
  obtain⟨st,hok⟩:=Bt0 h.dv (by rw[<-h.dn];exact hd) o.b o.ep o.nx kind l
  rw[h.cfg]at hok
  dsimp only
  generalize Ai6 s.d o.b o.ep o.nx kind l=q at st hok
  have h2:SOk ((((s.pay l.length).dev q.2)).met q.1) M:=SOk.step (h.pay _) hd st
  by_cases h0:q.1=0
  ·rw[if_neg (by simpa using h0)]
   rw[h0,met0]at h2
   obtain⟨hl,hn1,hn2⟩:=hok h0
   have hl1:1<=l.length:=by cases l with|nil=>exact absurd rfl hl|cons a b=>simp
   have hop:=h.op o ho
   have hg:=h.it o (.inr ho)
   refine⟨{h2 with dv:=h2.dv,op:=fun o' ho'=>?_,it:=fun r hr=>?_,use:=?_},fun _=>hd⟩
   ·obtain rfl:=Option.some.inj ho'
    unfold Reg.grown
    refine⟨by simp only;omega,by simp only;omega,?_⟩
    simp only[List.length_append,List.length_cons,List.length_nil]
    omega
   ·rcases hr with hr|hr
    ·exact h.it r (.inl hr)
    ·obtain rfl:=Option.some.inj hr
     unfold Reg.grown
     refine⟨by simp only[List.length_append,List.length_cons,List.length_nil];omega,?_⟩
     exact bat_lt hg.2 ⟨⟨by simp only;omega,by simp only;omega⟩,by simp only;omega,by simp only;omega⟩
   ·have:({(s.pay l.length).dev q.2 with op:=some (o.grown kind l.length)}:Sto).us=s.us:=by
     show s.rs.map Reg.b++[o.b]=s.rs.map Reg.b++(s.op.map Reg.b).toList
     rw[ho];rfl
    rw[this];exact h.use
  ·rw[if_pos (by simpa using h0)]
   exact⟨h2,fun he=>absurd he h0⟩
theorem SOk.seals(h:SOk s M)(hd:s.down=false):SOk s.seals.1 M/\(s.seals.2=0->s.seals.1.down=false)/\s.seals.1.op=none/\s.seals.1.us=s.us/\s.seals.1.ss=s.ss/\s.seals.1.epoch=s.epoch/\s.seals.1.sc=s.sc:=by
 unfold Sto.seals
 split
 ·rename_i ho
  exact⟨h,fun _=>hd,ho,rfl,rfl,rfl,rfl⟩
 ·rename_i o ho
  have st:=Bu9 h.dv (by rw[<-h.dn];exact hd) o.b o.ep o.nx o.l
  dsimp only
  generalize T4 s.d o.b o.ep o.nx o.l=q at st
  have h2:SOk ((((s.pay 1).dev q.2)).met q.1) M:=SOk.step (h.pay _) hd st
  have hus:(({(s.pay 1).dev q.2 with op:=none,rs:=s.rs++[o]}:Sto).met q.1).us=s.us:=by
   show(s.rs++[o]).map Reg.b++[]=s.rs.map Reg.b++(s.op.map Reg.b).toList
   rw[ho];simp
  refine⟨{h2 with dv:=h2.dv,op:=fun o' ho'=>(by cases ho'),it:=fun r hr=>?_,use:=by rw[hus];exact h.use},fun he=>Ct5 hd he,rfl,hus,rfl,rfl,rfl⟩
  rcases hr with hr|hr
  ·rcases List.mem_append.1 hr with hr|hr
   ·exact h.it r (.inl hr)
   ·rw[List.mem_singleton.1 hr];exact h.it o (.inr ho)
  ·cases hr
theorem SOk.begins(h:SOk s M)(hd:s.down=false)(hop:s.op=none)(hep:s.epoch<1073741824){b:Int}(hb:N1 s.ss s.us b=true):SOk (s.begins b).1 M/\((s.begins b).2=0->(s.begins b).1.down=false/\(s.begins b).1.us=s.us++[b]):=by
 unfold Sto.begins
 have st:=Bw0 h.dv (by rw[<-h.dn];exact hd) b (s.epoch+1)
 dsimp only
 generalize S8 s.d b (s.epoch+1)=q at st
 have h2:SOk ((((s.pay 1).dev q.2)).met q.1) M:=SOk.step (h.pay _) hd st
 by_cases h0:q.1=0
 ·rw[if_neg (by simpa using h0)]
  rw[h0,met0]at h2
  have hus:({(s.pay 1).dev q.2 with epoch:=s.epoch+1,op:=some ⟨b,s.epoch+1,1,[]⟩}:Sto).us=s.us++[b]:=by
   show s.rs.map Reg.b++[b]=s.rs.map Reg.b++(s.op.map Reg.b).toList++[b]
   rw[hop];simp
  refine⟨{h2 with dv:=h2.dv,op:=fun o' ho'=>?_,it:=fun r hr=>?_,use:=by rw[hus];exact Bl8 h.use hb,ep:=by have:=h.ep;show 0<=s.epoch+1/\s.epoch+1<=1073741824;omega},fun _=>⟨hd,hus⟩⟩
  ·obtain rfl:=Option.some.inj ho'
   exact⟨Int.le_refl 1,show(1:Int)<=16 by decide,by simp⟩
  ·rcases hr with hr|hr
   ·exact h.it r (.inl hr)
   ·obtain rfl:=Option.some.inj hr
    exact⟨by simp,by simp⟩
 ·rw[if_pos (by simpa using h0)]
  exact⟨h2,fun he=>absurd he h0⟩
theorem SOk.erase(h:SOk s M)(hd:s.down=false){b:Int}(hb: ∀o,s.op=some o->o.b≠b):
  SOk (s.erase b).1 M/\((s.erase b).2=0->(s.erase b).1.down=false/\(s.erase b).1.us=iwo s.us b/\(s.erase b).1.ss=(if H1 s.ss b=true then Ad5 s.ss b (T9 (decide ((G2 s.d b).1=10)))else s.ss))/\(s.erase b).1.op=s.op/\(s.erase b).1.bk=s.bk/\(s.erase b).1.epoch=s.epoch/\(s.erase b).1.sc=s.sc:=by
 unfold Sto.erase
 have st:=A01 h.dv (by rw[<-h.dn];exact hd) b
 dsimp only
 generalize G2 s.d b=q at st
 have hfew:=h.few
 rw[<-h.dn,hd]at hfew
 simp at hfew
 by_cases h0:q.1=11
 ·rw[if_pos h0]
  refine⟨{h with dv:=st.ok,dn:=?_,few:=?_,cfg:=st.c.trans h.cfg,ssl:=h.ssl.trans st.ln.symm,ssd:=fun hx=>?_},fun he=>absurd (show(11:Int)=0 from he) (by decide),rfl,rfl,rfl,rfl⟩
  ·show(s.down||decide ((11:Int)=11))=q.2.down
   rw[st.dn,h0,hd];rfl
  ·show q.2.torn.length+(if q.2.down=true then 0 else 1)<=1000
   rw[st.tn]
   split<;>omega
  ·have:(s.down||decide ((11:Int)=11))=false:=hx
   rw[hd]at this
   exact absurd this (by decide)
 ·rw[if_neg h0]
  obtain⟨s',hs'⟩: ∃s':Sto,s'={s.dev q.2 with ss:=if H1 s.ss b=true then Ad5 s.ss b (T9 (decide (q.1=10)))else s.ss,rs:=s.rs.filter fun r=> !decide (r.b=b)}:=⟨_,rfl⟩
  rw[<-hs']
  have hss:s'.ss=if H1 s.ss b=true then Ad5 s.ss b (T9 (decide (q.1=10)))else s.ss:=by rw[hs']
  have hus:s'.us=iwo s.us b:=by
   have e1:s'.rs=s.rs.filter fun r=> !decide (r.b=b):=by rw[hs']
   have e2:s'.op=s.op:=by rw[hs'];rfl
   unfold Sto.us iwo
   rw[e1,e2,List.filter_append]
   congr 1
   ·rw[List.filter_map]
    congr 1
    refine List.filter_congr fun x _=>?_
    simp
   ·cases ho:s.op with
    |none=>rfl
    |some o=>
     have:=hb o ho
     simp[this]
  have hdd:s'.d=q.2:=by rw[hs'];rfl
  have hssl:s'.ss.length=s'.d.bs.length:=by
   rw[hdd,st.ln,<-h.ssl,hss]
   split
   ·exact Bc2 ..
   ·rfl
  have hssd: ∀(i:Nat) k,s'.d.bs[i]?=some k-> ∃x,s'.ss[i]?=some x/\x.wear=k.wear/\x.bad=k.bad:=fun i k' hk'=>by
   rw[hdd]at hk'
   obtain⟨k,hk,hcase⟩:=st.wr h0 i k' hk'
   obtain⟨x,hx,hw,hbd⟩:=h.ssd hd i k hk
   have hbg:(i:Int)=b->H1 s.ss b= !x.bad:=fun e=>by
    unfold H1
    subst e
    rw[Int.toNat_natCast,hx]
    simp
   rw[hss]
   rcases hcase with⟨⟨e,kb⟩,w,bd⟩|⟨hn,w,bd⟩
   ·have hg:H1 s.ss b=true:=by rw[hbg e,hbd,kb];rfl
    rw[if_pos hg]
    refine⟨T9 (decide (q.1=10)) x,?_,?_,?_⟩
    ·unfold Ad5
     rw[List.getElem?_modify,hx]
     simp[show b.toNat=i by omega]
    ·show x.wear+1=_
     rw[hw,w];simp
    ·exact bd.symm
   ·refine⟨x,?_,by rw[hw,w],hbd.trans bd.symm⟩
    split
    ·rename_i hg
     have:(i:Int)≠b:=fun e=>by
      rw[hbg e,hbd]at hg
      exact hn ⟨e,by simpa using hg⟩
     unfold H1 at hg
     simp only[Bool.and_eq_true,decide_eq_true_eq]at hg
     unfold Ad5
     rw[List.getElem?_modify,hx]
     simp[show¬b.toNat=i by omega]
    ·exact hx
  have hsw: ∀x∈s'.ss,0<=x.wear/\x.wear<=1048576:=fun x hx=>by
   obtain⟨i,hi,rfl⟩:=List.getElem_of_mem hx
   obtain⟨y,hy,hw,-⟩:=hssd i (s'.d.bs[i]'(by omega)) (List.getElem?_eq_getElem (by omega))
   rw[List.getElem?_eq_getElem hi]at hy
   obtain rfl:=Option.some.inj hy
   have h1:=st.ok.nx _ (show s'.d.bs[i]'(by omega)∈q.2.bs by rw[<-hdd];exact List.getElem_mem _)
   have h2:=st.ok.c.w
   rw[hw]
   omega
  have hdn':s'.down=false:=by rw[hs'];exact hd
  have huse:Ck6 s'.ss s'.us:=by
   rw[hss,hus]
   split
   ·rename_i hg
    exact Cy0 h.use hg _
   ·rename_i hg
    have:b∉s.us:=fun hm=>hg (h.use.2 b hm)
    have e:iwo s.us b=s.us:=by
     unfold iwo
     rw[List.filter_eq_self]
     intro y hy
     have:y≠b:=fun e=>this (e▸hy)
     simp[this]
    rw[e];exact h.use
  refine⟨?_,fun _=>⟨hdn',hus,hss⟩,by rw[hs'];rfl,by rw[hs'];rfl,by rw[hs'];rfl,by rw[hs'];rfl⟩
  refine⟨by rw[hdd];exact st.ok,?_,?_,?_,by rw[hs'];exact h.bk,by rw[hs'];exact h.ixi,by rw[hs'];exact h.ixl,by rw[hs'];exact h.ixw,by rw[hs'];exact h.wy,by rw[hs'];exact h.sm,by rw[hs'];exact h.gs,by rw[hs'];exact h.gl,by rw[hs'];exact h.op,?_,huse,hssl,fun _=>hssd,hsw,by rw[hs'];exact h.ep,by rw[hs'];exact h.qs,by rw[hs'];exact h.ql,by rw[hs'];exact h.pl⟩
  ·rw[hdn',hdd,st.dn];exact(decide_eq_false h0).symm
  ·rw[hdd,st.tn];split<;>omega
  ·rw[hdd,st.c];rw[hs'];exact h.cfg
  ·intro r hr
   rw[hs']at hr
   rcases hr with hr|hr
   ·exact h.it r (.inl (List.mem_filter.1 hr).1)
   ·exact h.it r (.inr hr)
theorem Bw4{ss:List (List D0)}{k:Nat}{row r:List D0}(h:r∈iset ss k row):r∈ss\/r=row:=by
 unfold iset at h
 exact List.mem_or_eq_of_mem_set h
theorem SOk.ixset(h:SOk s M)(k:Nat){row:List D0}(hg:Aj2 s.sc.ways row)(hw: ∀x∈row,Q6 .i64 x.p):SOk {s with ix:=iset s.ix k row} M:=by
 refine{h with dv:=h.dv,ixi:=h.ixi.iset k hg,ixl:=by rw[Am7];exact h.ixl,ixw:=fun r hr=>?_}
 rcases Bw4 hr with hr|rfl
 ·exact h.ixw r hr
 ·exact hw
theorem Ac5(l:List D0)(nm:Aq5): ∀x∈H0 l nm,x∈l:=fun x hx=>(List.eraseP_sublist ..).subset hx
theorem SOk.ixdrop(h:SOk s M)(k:Nat)(p:It):SOk (s.ixdrop k p) M:=h.ixset k ((h.ixi.row (h.isi k)).erase _) fun x hx=>h.ixw _ (Am9 (h.isi k)) x (Ac5 _ _ x hx)
theorem Cf8{l:List D0}{ways:Int}{k:Nat}{p:Pl}: ∀x∈B36 l ways k p,x∈l\/x=Cm9 k p 0:=fun x hx=>by
 unfold B36 at hx
 rcases List.mem_append.1 hx with hx|hx
 ·left
  split at hx
  ·exact Ac5 _ _ x (List.mem_of_mem_drop hx)
  ·exact Ac5 _ _ x hx
 ·right;exact List.mem_singleton.1 hx
theorem SOk.list(h:SOk s M)(key:ByteArray)(p:It)(hp:Q6 .i64 p.2.1):SOk (s.list key p) (M+1):=by
 have h1:SOk {s with ix:=C28 s.ix s.sc.ways (s.hash key) p} M:=h.ixset _ (Bv3 (h.ixi.row (h.isi _)) h.wy.1 _ _) fun x hx=>by
  rcases Cf8 x hx with hx|rfl
  ·exact h.ixw _ (Am9 (h.isi _)) x hx
  ·exact hp
 unfold Sto.list
 refine{h1 with dv:=h1.dv,pl:=?_}
 have:=h.pl
 simp only
 split
 ·rw[List.length_append];simp;omega
 ·omega
end
theorem Cu4(b:List UInt8):(Ac4 b).1.length<=65536/\(Ac4 b).2.1.length<=65536:=by
 have h1:=Ab4 (b:=b) (a:=0) (by omega)
 have h2:=Ab4 (b:=b) (a:=(G4 b 0).2.1) h1.2.1
 unfold Ac4
 repeat' split
 all_goals first|exact⟨h1.2.2.1,h2.2.2.1⟩|exact⟨Nat.zero_le _,Nat.zero_le _⟩
theorem Bk0(d:Dev)(p:It):(C5 d p).1.length<=65536/\(C5 d p).2.1.length<=65536:=by
 unfold C5
 repeat' split
 all_goals first|exact Cu4 _|exact⟨Nat.zero_le _,Nat.zero_le _⟩
theorem Bi2(l:List UInt8):(As3 l).size=l.length:=by unfold As3;exact List.size_toArray
theorem B82(L:A4)(v:SlV)(l:List It)(h:Sl L v 3 (l.flatMap Bp5))(hl:l.length<=1000000)(x:It):
  CallF PP 323 #[.slice v.a v.len v.cap,.agg #[.i x.1,.i x.2.1,.i x.2.2.1]] L fun r L'=>(∃n:Int,r= .i n/\(0<=n↔x∈l))/\L'=L:=by
 refine c323 v x ?_
 unfold s323
 have hvl:=h.els_len Ag2 (by decide)
 refine G0 (fun z' z L'=> ∃i:Nat,i<=l.length/\z'=l.length-i/\z=((i:Int),())/\x∉l.take i/\L'=L) l.length ⟨0,by omega,by omega,rfl,by simp,rfl⟩ ?_
 rintro z' z L' ⟨i,hi,rfl,rfl,hno,hL'⟩
 rw[hL']
 dsimp only
 refine B8 (fun(hlt:(i:Int)<v.len)=>?_) (fun(hge: ¬(i:Int)<v.len)=>?_)
 ·have hi':i<l.length:=by omega
  refine V7 Ag2 (by decide) h (n:=i) rfl hi' fun a ha=>?_
  refine A6 (sh:=.agg [.int .i64,.int .i64,.int .i64]) l[i] ha (eqPlc x l[i] (B8 (fun he=>?_) (fun he=>?_)))
  ·exact .of ⟨⟨(i:Int),rfl,⟨fun _=>he▸List.getElem_mem hi',fun _=>by omega⟩⟩,rfl⟩
  ·refine D9 (by omega) ⟨l.length-(i+1),by omega,i+1,by omega,rfl,rfl,?_,rfl⟩
   rw[List.take_succ_eq_append_getElem hi',List.mem_append,List.mem_singleton]
   rintro(h1|h1)
   ·exact hno h1
   ·exact he h1
 ·obtain rfl:i=l.length:=by omega
  rw[List.take_length]at hno
  exact .of ⟨⟨-1,rfl,⟨fun h=>absurd h (by decide),fun h=>absurd h hno⟩⟩,rfl⟩
theorem Bf1(L:A4)(v:SlV)(l:List It)(h:Sl L v 3 (l.flatMap Bp5))(hl:l.length<=1000000)(x:It):
  Reads PP 292 #[.slice v.a v.len v.cap,.agg #[.i x.1,.i x.2.1,.i x.2.2.1]] L (.b (decide (x∈l))):=by
 unfold Reads
 refine c292 v x ?_
 unfold s292
 refine S0 (B82 L v l h hl x) ?_
 rintro _ _-⟨⟨n,rfl,hn⟩,rfl⟩
 refine⟨(n,()),rfl,.of ⟨?_,rfl⟩⟩
 congr 1
 exact decide_eq_decide.2 hn
theorem six{p:SP}{s:Sto}{g:SG}{L R:A4}(hp:L.Perm (SL p s g++R))(X:SX p s g){ix':List (List D0)}{f:FuncId}{args:Array Value}{v:Value}(h:CallF PP f args g.Ai fun r L'=>r=v/\IX p.ni s.sc.ways ix' L'){rs:List Sh}{k:RsV rs->HP}(r:RsV rs)(hr:v=Af9 rs r)
  (s':Sto) (hs':s'={s with ix:=ix'}) (hk: ∀g' L',L'.Perm (SL p s' g'++R)->SX p s' g'->g'.ns=g.ns->k r L'):cl PP f args rs k L:=by
 refine G5 h (R:=stO p s g::(kO p s::(mO p g::(gO p g::(g.Ad++(g.Ab++(rns g.ns++(rns g.on.toList++(g.pseg++(g.Aq++R)))))))))) (pc fun z=>by have:=pcn hp z;simp only[SL,B4,C6,D8]at*;omega) ?_
 rintro _ Ai' ⟨rfl,hAi'⟩
 refine⟨_,List.Perm.refl _,r,hr,hk {g with Ai:=Ai'} _ (pc fun z=>?_) ?_ rfl⟩
 ·have e1:stO p s' {g with Ai:=Ai'}=stO p s g:=by rw[hs'];rfl
  have e2:kO p s'=kO p s:=by rw[hs'];rfl
  simp only[SL,e1,e2,show mO p {g with Ai:=Ai'}=mO p g from rfl,show gO p {g with Ai:=Ai'}=gO p g from rfl,B4,C6,D8]
  omega
 ·rw[hs'];exact{X with cfg:=X.cfg,dev:=X.dev,blk:=X.blk,idx:=hAi'}
theorem squ{p:SP}{s:Sto}{g:SG}{L R:A4}(hp:L.Perm (SL p s g++R))(X:SX p s g){q':List QD}{f:FuncId}{args:Array Value}{v:Value}(h:CallF PP f args g.Aq fun r L'=>r=v/\QHd p.nq s.sc.small q' L'){rs:List Sh}{k:RsV rs->HP}(r:RsV rs)(hr:v=Af9 rs r)
  (s':Sto) (hs':s'={s with q:=q'}) (hk: ∀g' L',L'.Perm (SL p s' g'++R)->SX p s' g'->k r L'):cl PP f args rs k L:=by
 refine G5 h (R:=stO p s g::(kO p s::(mO p g::(gO p g::(g.Ad++(g.Ab++(rns g.ns++(rns g.on.toList++(g.pseg++(g.Ai++R)))))))))) (pc fun z=>by have:=pcn hp z;simp only[SL,B4,C6,D8]at*;omega) ?_
 rintro _ Aq' ⟨rfl,hAq'⟩
 refine⟨_,List.Perm.refl _,r,hr,hk {g with Aq:=Aq'} _ (pc fun z=>?_) ?_⟩
 ·have e1:stO p s' {g with Aq:=Aq'}=stO p s g:=by rw[hs'];rfl
  have e2:kO p s'=kO p s:=by rw[hs'];rfl
  simp only[SL,e1,e2,show mO p {g with Aq:=Aq'}=mO p g from rfl,show gO p {g with Aq:=Aq'}=gO p g from rfl,B4,C6,D8]
  omega
 ·rw[hs'];exact{X with cfg:=X.cfg,dev:=X.dev,blk:=X.blk,que:=hAq'}
theorem sgh{p:SP}{s:Sto}{g:SG}{L R:A4}(hp:L.Perm (SL p s g++R))(X:SX p s g){gh':List Int}{f:FuncId}{args:Array Value}{v:Value}(h:CallF PP f args [gO p g] fun r L'=>r=v/\ ∃o',L'=[(p.ng,o')]/\GOb s.sc.ghost gh' o'){rs:List Sh}{k:RsV rs->HP}(r:RsV rs)(hr:v=Af9 rs r)
  (s':Sto) (hs':s'={s with gh:=gh'}) (hk: ∀g' L',L'.Perm (SL p s' g'++R)->SX p s' g'->k r L'):cl PP f args rs k L:=by
 refine G5 h (R:=stO p s g::(kO p s::(mO p g::(g.Ad++(g.Ab++(rns g.ns++(rns g.on.toList++(g.pseg++(g.Aq++(g.Ai++R)))))))))) (pc fun z=>by have:=pcn hp z;simp only[SL,B4,C6,D8]at*;omega) ?_
 rintro _ _ ⟨rfl,o',rfl,ho'⟩
 refine⟨_,List.Perm.refl _,r,hr,hk {g with go:=o'} _ (pc fun z=>?_) ?_⟩
 ·have e1:stO p s' {g with go:=o'}=stO p s g:=by rw[hs'];rfl
  have e2:kO p s'=kO p s:=by rw[hs'];rfl
  simp only[SL,e1,e2,show mO p {g with go:=o'}=mO p g from rfl,show gO p {g with go:=o'}=(p.ng,o')from rfl,B4,C6,D8]
  omega
 ·rw[hs'];exact{X with cfg:=X.cfg,dev:=X.dev,blk:=X.blk,gho:=ho'}
def SB(p:SP)(w:Sto×Bool)(R:A4)(r:Value)(L':A4):Prop:= ∃g',L'=SL p w.1 g'++R/\SX p w.1 g'/\r= .b w.2
theorem A34(p:SP)(s:Sto)(g:SG)(X:SX p s g)(ok:Q3 s.d)(key:ByteArray)(hk:key.size<=1000000)(hrow:RowOk s (s.hash key))(hpl:s.pend.length<=1000000000):
  CallF PP 46 #[.q (some ⟨p.n,0,none⟩),.w key] (SL p s g) (SB p (s.forget key) []):=by
 refine c46 (some ⟨p.n,0,none⟩) key ?_
 unfold s46
 have hp0:(SL p s g).Perm (SL p s g++[]):=by rw[List.append_nil]
 refine A5 rfl (A6 (some ⟨p.nq,0,none⟩) (E8 (SL.st hp0) rfl) ?_)
 obtain⟨s1,hs1⟩: ∃s1:Sto,s1={s with q:=Ad0 s.q key}:=⟨_,rfl⟩
 refine squ hp0 X (Ca5 p.nq s.sc.small s.q g.Aq X.que key) ((U7 s.q key).isSome,()) rfl s1 hs1 fun g1 L1 hp1 X1=>?_
 have hh:s1.hash key=s.hash key:=by rw[hs1];rfl
 have hix:s1.ix=s.ix:=by rw[hs1]
 have hd:s1.d=s.d:=by rw[hs1]
 have hfo:s.forget key=(match s1.place key with|none=>(s1,(U7 s.q key).isSome)|some x=>({s1.ixdrop (s.hash key) x with pend:=s.pend++[x]},true)):=by rw[hs1];rfl
 refine G5 (Al1 p s1 g1 X1 (by rw[hd];exact ok) key hk (by rw[hix,hh];exact hrow.len) (by rw[hix,hh];exact hrow.wf)) hp1 ?_
 rintro _ _ ⟨u,sg,rfl,rfl,own⟩
 refine⟨SL p s1 g1++sg,pc fun z=>by simp only[B4,D8];omega,((((s1.place key).getD (0,0,0,())).1,((s1.place key).getD (0,0,0,())).2.1,((s1.place key).getD (0,0,0,())).2.2.1,()),u,(s1.place key).isSome,()),rfl,?_⟩
 dsimp only
 obtain⟨L2,hL2⟩: ∃L2,L2=SL p s1 g1++sg:=⟨_,rfl⟩
 rw[<-hL2]
 have hp2:L2.Perm (SL p s1 g1++sg):=by rw[hL2]
 cases hpl2:s1.place key with
 |none=>
  refine ifF rfl ?_
  rw[hpl2]at hfo
  have e: ∀b:Bool,b=(U7 s.q key).isSome->HL.Ends (SB p (s.forget key) []) (.b b) L2:=fun b hb=>by
   rw[hfo]
   exact .drop (A:=SL p s1 g1) (J:=sg) ⟨g1,by simp,X1,by rw[hb]⟩ (by simpa using hp2)
  exact G7 (fun h=>e _ h.symm) (fun h=>e _ h.symm)
 |some x=>
  refine ifT rfl (A6 (some ⟨p.ni,0,none⟩) (E8 (SL.st hp2) rfl) (B7 (Z9 hp2 key hk) (((s1.hash key:Nat):Int),()) rfl (F5 (E8 (SL.st hp2) rfl) ?_)))
  rw[hpl2]at hfo
  refine six hp2 X1 (Bx1 p.ni s1.sc.ways s1.ix g1.Ai X1.idx (s1.hash key) (Az4 s1 key) x) ((Q7 s1.ix (s1.hash key) x).isSome,()) rfl (s1.ixdrop (s1.hash key) x) rfl fun g3 L3 hp3 X3 _=>?_
  have hpe:(s1.ixdrop (s1.hash key) x).pend=s.pend:=by rw[hs1];rfl
  refine Bu1 (x:=x) hp3 X3 (by rw[hpe];exact hpl) _ rfl fun g4 L4 hp4 X4=>?_
  have e: ∀b:Bool,b=true->HL.Ends (SB p (s.forget key) []) (.b b) L4:=fun b hb=>by
   rw[hfo]
   have hst:({s1.ixdrop (s.hash key) x with pend:=s.pend++[x]}:Sto)={s1.ixdrop (s1.hash key) x with pend:=(s1.ixdrop (s1.hash key) x).pend++[x]}:=by rw[hpe,hh]
   dsimp only
   rw[hst]
   exact .drop (A:=SL p _ g4) (J:=sg) ⟨g4,by simp,X4,by rw[hb]⟩ hp4
  exact G7 (fun h=>e _ rfl) (fun h=>e _ rfl)
structure Mv(s s':Sto):Prop where
 rs:s'.rs=s.rs
 ob:s'.op.map Reg.b=s.op.map Reg.b
 ss:s'.ss=s.ss
 pend:s'.pend=s.pend
 epoch:s'.epoch=s.epoch
 sc:s'.sc=s.sc
 q:s'.q=s.q
 gh:s'.gh=s.gh
 tk:s'.bk.tokens<=s.bk.tokens
theorem Mv.us{s s':Sto}(h:Mv s s'):s'.us=s.us:=by unfold Sto.us;rw[h.rs,h.ob]
theorem Mv.refl(s:Sto):Mv s s:=⟨rfl,rfl,rfl,rfl,rfl,rfl,rfl,rfl,Int.le_refl _⟩
theorem Mv.trans{a b c:Sto}(h:Mv a b)(k:Mv b c):Mv a c:=⟨k.rs.trans h.rs,k.ob.trans h.ob,k.ss.trans h.ss,k.pend.trans h.pend,k.epoch.trans h.epoch,k.sc.trans h.sc,k.q.trans h.q,k.gh.trans h.gh,Int.le_trans k.tk h.tk⟩
theorem C58(b:Bk)(n:Int):(Ad4 b n).tokens<=b.tokens:=by
 unfold Ad4
 split
 ·rename_i h;simp only;omega
 ·exact Int.le_refl _
theorem Mv.write(s:Sto)(kind:Int)(l:List (List UInt8)):Mv s (s.write kind l).1:=by
 unfold Sto.write
 split
 ·exact .refl s
 ·rename_i o ho
  dsimp only
  have ht:=C58 s.bk (s.cost l.length)
  split
  ·exact⟨rfl,rfl,rfl,rfl,rfl,rfl,rfl,rfl,ht⟩
  ·exact⟨rfl,by rw[ho];rfl,rfl,rfl,rfl,rfl,rfl,rfl,ht⟩
theorem Bt2{s:Sto}{M:Nat}(h:SOk s M)(kind:Int)(l:List (List UInt8)):Q6 .i64 (s.write kind l).2.1.2.1:=by
 unfold Sto.write
 split
 ·exact Bd4 (by simp)
 ·rename_i o ho
  have:=(h.op o ho)
  dsimp only
  split<;>exact Bd4 (by simp only;omega)
theorem SOk.ixmove{s:Sto}{M:Nat}(h:SOk s M)(k:Nat)(p q:It)(hq:Q6 .i64 q.2.1):SOk {s with ix:=Az0 s.ix k p q} M:=by
 have hg:=(Cv4 h.ixi h.wy.1 4 (h.isi k) p q)
 have e:iact s.sc.ways s.ix 4 k p q=Az0 s.ix k p q:=by unfold iact;simp
 rw[e]at hg
 refine{h with dv:=h.dv,ixi:=hg.1,ixl:=by rw[hg.2];exact h.ixl,ixw:=?_}
 intro r hr x hx
 unfold Az0 at hr
 split at hr
 ·exact h.ixw r hr x hx
 ·rcases Bw4 hr with hr|rfl
  ·exact h.ixw r hr x hx
  ·rcases List.mem_append.1 hx with hx|hx
   ·exact h.ixw _ (Am9 (h.isi k)) x (Ac5 _ _ x (Ac5 _ _ x hx))
   ·rw[List.mem_singleton.1 hx];exact hq
theorem SOk.move{s:Sto}{M:Nat}(h:SOk s M)(hd:s.down=false)(p:It)(n beside:Int):SOk (s.move p n beside).1 M/\((s.move p n beside).2=0->(s.move p n beside).1.down=false)/\Mv s (s.move p n beside).1:=by
 unfold Sto.move
 dsimp only
 split
 ·exact⟨h,fun _=>hd,.refl s⟩
 ·split
  ·exact⟨h.ixdrop _ _,fun _=>hd,rfl,rfl,rfl,rfl,rfl,rfl,rfl,rfl,Int.le_refl _⟩
  ·split
   ·exact⟨h,fun _=>hd,.refl s⟩
   ·have hw:=h.write hd 2 (Q8 (C5 s.d p).1 (C5 s.d p).2.1 (T2 s.sc.c)).1
    have hm:=Mv.write s 2 (Q8 (C5 s.d p).1 (C5 s.d p).2.1 (T2 s.sc.c)).1
    have hq:=Bt2 h 2 (Q8 (C5 s.d p).1 (C5 s.d p).2.1 (T2 s.sc.c)).1
    generalize s.write 2 (Q8 (C5 s.d p).1 (C5 s.d p).2.1 (T2 s.sc.c)).1=w at hw hm hq
    split
    ·rename_i h0
     exact⟨hw.1.ixmove _ _ _ hq,fun _=>hw.2 h0,hm.rs,hm.ob,hm.ss,hm.pend,hm.epoch,hm.sc,hm.q,hm.gh,hm.tk⟩
    ·rename_i h0
     exact⟨hw.1,fun he=>absurd he h0,hm⟩
theorem SOk.moves{b ep beside:Int}: ∀(l:List It) {s:Sto} {M:Nat},SOk s M->s.down=false->SOk (Sto.moves b ep beside l s).1 M/\((Sto.moves b ep beside l s).2=0->(Sto.moves b ep beside l s).1.down=false)/\Mv s (Sto.moves b ep beside l s).1
 |[],s,M,h,hd=>⟨h,fun _=>hd,.refl s⟩
 |x::r,s,M,h,hd=>by
  unfold Sto.moves
  split
  ·exact SOk.moves r h hd
  ·have h1:=h.move hd (b,x.2.1,ep,()) x.2.2.1 beside
   dsimp only
   generalize s.move (b,x.2.1,ep,()) x.2.2.1 beside=w at h1
   split
   ·rename_i h0
    exact⟨h1.1,fun he=>absurd he h0,h1.2.2⟩
   ·rename_i h0
    have h0:w.2=0:=by simpa using h0
    have h2:=SOk.moves (b:=b) (ep:=ep) (beside:=beside) r h1.1 (h1.2.1 h0)
    exact⟨h2.1,h2.2.1,h1.2.2.trans h2.2.2⟩
theorem SOk.cutp{s:Sto}{M:Nat}(h:SOk s M)(b:Int):SOk {s with pend:=s.pend.filter fun p=> !decide (p.1=b)} M:=
 {h with dv:=h.dv,pl:=Nat.le_trans (List.length_filter_le ..) h.pl}
theorem SOk.reclaim{s:Sto}{M:Nat}(h:SOk s M)(hd:s.down=false){r:Reg}{t:List Reg}(hr:s.rs=r::t)(beside:Int):
  SOk (s.reclaim r beside).1 M/\((s.reclaim r beside).2=0->(s.reclaim r beside).1.down=false/\(s.reclaim r beside).1.us.length+1=s.us.length/\Z3 (s.reclaim r beside).1.ss<=Z3 s.ss/\(s.reclaim r beside).1.bk.tokens<=s.bk.tokens/\(s.reclaim r beside).1.op.isSome=s.op.isSome)/\(s.reclaim r beside).1.sc=s.sc:=by
 unfold Sto.reclaim
 obtain⟨h1,h2,mv⟩:=SOk.moves (b:=r.b) (ep:=r.ep) (beside:=beside) r.l h hd
 dsimp only
 generalize Sto.moves r.b r.ep beside r.l s=w at h1 h2 mv
 split
 ·rename_i h0
  exact⟨h1,fun he=>absurd he h0,mv.sc⟩
 ·rename_i h0
  have h0:w.2=0:=by simpa using h0
  have hus:r.b∈w.1.us:=by rw[mv.us];unfold Sto.us;rw[hr];simp
  have hnd:=h.use.1
  have hob: ∀o,w.1.op=some o->o.b≠r.b:=fun o ho e=>by
   have h3:=mv.ob
   rw[ho]at h3
   unfold Sto.us at hnd
   rw[<-h3,hr]at hnd
   simp[e]at hnd
  have hc:=(h1.cutp r.b)
  have he:=hc.erase (h2 h0) (b:=r.b) hob
  obtain⟨s2,hs2⟩: ∃s2:Sto,s2={w.1 with pend:=w.1.pend.filter fun p=> !decide (p.1=r.b)}:=⟨_,rfl⟩
  rw[<-hs2]at he⊢
  have e1:s2.us=s.us:=by rw[hs2];exact mv.us
  have e2:s2.ss=s.ss:=by rw[hs2];exact mv.ss
  have e3:s2.bk.tokens<=s.bk.tokens:=by rw[hs2];exact mv.tk
  have e4:s2.sc=s.sc:=by rw[hs2];exact mv.sc
  have e5:s2.op.isSome=s.op.isSome:=by
   have h3:=congrArg Option.isSome mv.ob
   rw[Option.isSome_map,Option.isSome_map]at h3
   rw[hs2];exact h3
  obtain⟨g1,g2,g3,g4,g5,g6⟩:=he
  refine⟨g1,fun hz=>?_,g6.trans e4⟩
  obtain⟨k1,k2,k3⟩:=g2 hz
  have hbg:H1 s2.ss r.b=true:=by rw[e2];exact h.use.2 _ (by rw[<-mv.us];exact hus)
  refine⟨k1,?_,?_,by rw[g4];exact e3,by rw[g3];exact e5⟩
  ·rw[k2,e1]
   have hm:r.b∈s.us:=by rw[<-mv.us];exact hus
   have h4:iwo s.us r.b=s.us.erase r.b:=by
    unfold iwo
    rw[List.Nodup.erase_eq_filter hnd]
    refine List.filter_congr fun x _=>?_
    by_cases e:x=r.b<;>simp[e]
   rw[h4,List.length_erase_of_mem hm]
   have:=List.length_pos_of_mem hm
   omega
  ·rw[k3,if_pos hbg]
   have:=A62 hbg (T9 (decide ((G2 s2.d r.b).1=10))) (bad:=decide ((G2 s2.d r.b).1=10)) fun s _=>rfl
   rw[<-e2]
   split at this<;>omega
theorem Bd9{L:A4}{b:Nat}{x y:Int}(hm:(b,Obj.cells #[.i x,.i y] 3)∈L):ISl L ⟨some ⟨b,0,none⟩,2,2⟩ .i64 [x,y]:=ISl.const (l:=[x,y]) 2 (by simp) hm
theorem Be6{L:A4}{ov:SlV}{oseg:A4}{gs:List PG}(own:Own ov 1 tB (gs.map PG.val) oseg)(hg: ∀g∈gs,g.Ok)(h1: ∀x∈oseg,x∈L)(h2: ∀x∈pgs gs,x∈L):Y1 L ov (pvs gs):=by
 refine⟨?_,fun x hx=>?_⟩
 ·have:=own.sl.mono h1
  have e:(pvs gs).map pvV=gs.map PG.val:=by unfold pvs;rw[List.map_map];rfl
  rw[e];exact this
 ·unfold pvs at hx
  obtain⟨y,hy,rfl⟩:=List.mem_map.1 hx
  exact(hg y hy).sl.mono fun z hz=>h2 z (List.mem_flatMap.2 ⟨y,hy,hz⟩)
theorem Cj6(key val:List UInt8)(c:Cf):(Q8 key val c).1.length<=8:=by
 unfold Q8
 split
 ·simp
 ·split
  ·simp
  ·split
   ·simp
   ·rename_i h
    have:=(Ao9 h)
    simp only[Af0,List.length_map,List.length_range]
    omega
def MK(p:SP)(w:Sto×Int)(ns:List RN)(R:A4)(r:Value)(L':A4):Prop:= ∃g',L'=SL p w.1 g'++R/\SX p w.1 g'/\g'.ns=ns/\r= .i w.2
theorem Cp3(p:SP)(s:Sto)(g:SG)(X:SX p s g){M:Nat}(h:SOk s M)(R:A4)(hT:Tab R)(pl:It)(hpl:Q6 .i64 pl.2.1)(x:It)(hx:0<=x.2.2.1/\x.2.2.1<=255)(beside:Int)(hbs:0<=beside/\beside<=1000):
  CallF PP 246 #[.q (some ⟨p.n,0,none⟩),.agg #[.i pl.1,.i pl.2.1,.i pl.2.2.1],.agg #[.i x.1,.i x.2.1,.i x.2.2.1],.i beside] (SL p s g++R) (MK p (s.move pl x.2.2.1 beside) g.ns R):=by
 refine c246 (some ⟨p.n,0,none⟩) pl x beside ?_
 unfold s246
 have hS:=h.S
 have hP:=h.P
 have hp0:(SL p s g++R).Perm (SL p s g++R):=List.Perm.refl _
 refine A5 rfl (A6 (some ⟨p.m,0,none⟩) (E8 (SL.st hp0) rfl) ?_)
 refine G5 (Bb5 p.m s.d g.Ad X.dev h.dv pl hpl) (R:=stO p s g::(kO p s::(mO p g::(gO p g::(g.Ab++(rns g.ns++(rns g.on.toList++(g.pseg++(g.Aq++(g.Ai++R)))))))))) (pc fun z=>by simp only[SL,B4,C6,D8];omega) ?_
 rintro _ _ ⟨q,rfl,rfl,hq,hql⟩
 obtain⟨L1,hL1⟩: ∃L1,L1=SL p s g++(q.seg++R):=⟨_,rfl⟩
 have hp1:L1.Perm (SL p s g++(q.seg++R)):=by rw[hL1]
 refine⟨L1,pc fun z=>by rw[hL1];simp only[SL,B4,C6,D8];omega,(As3 (C5 s.d pl).1,q.v,(C5 s.d pl).2.2,()),rfl,?_⟩
 dsimp only
 have hfl:=Bk0 s.d pl
 have hks:(As3 (C5 s.d pl).1).size<=1000000:=by rw[Bi2];omega
 have hmv:s.move pl x.2.2.1 beside=(if(C5 s.d pl).2.2≠0\/pl∉Q2 (P5 s.ix (s.hash (As3 (C5 s.d pl).1))) (s.hash (As3 (C5 s.d pl).1))then(s,0)else
   if Az1 s.ix (s.hash (As3 (C5 s.d pl).1)) pl=0\/s.fits (x.2.2.1+beside)=false\/s.pays (x.2.2.1+beside)=false then(s.ixdrop (s.hash (As3 (C5 s.d pl).1)) pl,0)else
   if(Q8 (C5 s.d pl).1 (C5 s.d pl).2.1 (T2 s.sc.c)).2≠0 then(s,(Q8 (C5 s.d pl).1 (C5 s.d pl).2.1 (T2 s.sc.c)).2)else
   if(s.write 2 (Q8 (C5 s.d pl).1 (C5 s.d pl).2.1 (T2 s.sc.c)).1).2.2=0 then({(s.write 2 (Q8 (C5 s.d pl).1 (C5 s.d pl).2.1 (T2 s.sc.c)).1).1 with ix:=Az0 (s.write 2 (Q8 (C5 s.d pl).1 (C5 s.d pl).2.1 (T2 s.sc.c)).1).1.ix (s.hash (As3 (C5 s.d pl).1)) pl (s.write 2 (Q8 (C5 s.d pl).1 (C5 s.d pl).2.1 (T2 s.sc.c)).1).2.1},0)
   else((s.write 2 (Q8 (C5 s.d pl).1 (C5 s.d pl).2.1 (T2 s.sc.c)).1).1,(s.write 2 (Q8 (C5 s.d pl).1 (C5 s.d pl).2.1 (T2 s.sc.c)).1).2.2)):=rfl
 obtain⟨kk,hkk⟩: ∃kk,kk=As3 (C5 s.d pl).1:=⟨_,rfl⟩
 rw[<-hkk]at hks hmv⊢
 have hkd:kk.data.toList=(C5 s.d pl).1:=by rw[hkk];rfl
 obtain⟨hh,hhh⟩: ∃hh,hh=s.hash kk:=⟨_,rfl⟩
 have hlt:hh<2^64:=by rw[hhh];exact Az4 s kk
 have hrow:=h.row hh
 refine B7 (Z9 hp1 kk hks) ((hh:Int),()) (by rw[hhh];rfl) ?_
 rw[<-hhh]at hmv
 obtain⟨f,hf⟩: ∃f,f=C5 s.d pl:=⟨_,rfl⟩
 rw[<-hf]at hmv hql hkd hfl⊢
 have skip: ∀{L2 J:A4},L2.Perm (SL p s g++(J++R))->(f.2.2≠0\/pl∉Q2 (P5 s.ix hh) hh)->HL.Ends (MK p (s.move pl x.2.2.1 beside) g.ns R) (.i 0) L2:=fun{L2 J} hp hc=>by
  rw[hmv,if_pos hc]
  exact .drop (A:=SL p s g++R) (J:=J) ⟨g,rfl,X,rfl,rfl⟩ (pc fun z=>by have:=pcn hp z;simp only[B4]at*;omega)
 refine W7 (fun _ L'=>(f.2.2=0/\pl∈Q2 (P5 s.ix hh) hh)/\ ∃J,L'.Perm (SL p s g++(q.seg++(J++R)))) ?_ ?_
 ·rintro _ L2 ⟨hc1,J,hp2⟩
  rw[if_neg (by rintro(hn|hn);exact hn hc1.1;exact hn hc1.2)]at hmv
  have drop: ∀{L3 J3:A4} {rs:List Sh} {K:RsV rs->HP},L3.Perm (SL p s g++(J3++R))->(Az1 s.ix hh pl=0\/s.fits (x.2.2.1+beside)=false\/s.pays (x.2.2.1+beside)=false)->
    ld ⟨p.n,21,none⟩ (.lf .ptr) (fun v4=>cl PP 106 #[.q v4,.int .u64 (hh:Int),.agg #[.i pl.1,.i pl.2.1,.i pl.2.2.1]] [.lf .bool] fun r6=>HL.Ends (MK p (s.move pl x.2.2.1 beside) g.ns R) (.i 0)) L3:=fun{L3 J3 rs K} hp hc=>by
   refine A6 (some ⟨p.ni,0,none⟩) (E8 (SL.st hp) rfl) ?_
   refine six hp X (Bx1 p.ni s.sc.ways s.ix g.Ai X.idx hh hlt pl) ((Q7 s.ix hh pl).isSome,()) rfl (s.ixdrop hh pl) rfl fun g' L4 hp4 X4 hn4=>?_
   rw[hmv,if_pos hc]
   exact .drop (A:=SL p (s.ixdrop hh pl) g'++R) (J:=J3) ⟨g',rfl,X4,hn4,rfl⟩ (pc fun z=>by have:=pcn hp4 z;simp only[B4]at*;omega)
  refine W7 (fun _ L'=>(Az1 s.ix hh pl≠0/\s.fits (x.2.2.1+beside)=true/\s.pays (x.2.2.1+beside)=true)/\ ∃J,L'.Perm (SL p s g++(q.seg++(J++R)))) ?_ ?_
  ·rintro _ L3 ⟨hc2,J3,hp3⟩
   rw[if_neg (by rintro(hn|hn|hn);exact hc2.1 hn;rw[hc2.2.1]at hn;cases hn;rw[hc2.2.2]at hn;cases hn)]at hmv
   refine A6 (sh:=.agg [.int .i64,.int .i64,.int .i64,.int .i64]) ((s.sc.c.B:Int),(s.sc.c.P:Int),(s.sc.c.S:Int),(s.sc.c.W:Int),()) (Co7 (SL.st hp3)) ?_
   refine G5 (C40 (q.seg++R) (hT.mono fun y hy=>by simp[hy]) kk (Nat.le_trans hks (by decide)) q.v f.2.1 (by have:=hq.sl;rw[hql]at this;exact this.mono fun y hy=>by simp[hy]) (T2 s.sc.c) (by show(s.sc.c.P:Int)<=_;omega)) (R:=SL p s g++J3) (pc fun z=>by have:=pcn hp3 z;simp only[B4]at*;omega) ?_
   rintro _ _ ⟨ov,oseg,gs,rfl,rfl,own,hgs,hgl⟩
   rw[hkd]at hgl⊢
   have hcl:=Cj6 f.1 f.2.1 (T2 s.sc.c)
   obtain⟨c,hc⟩: ∃c,c=Q8 f.1 f.2.1 (T2 s.sc.c):=⟨_,rfl⟩
   rw[<-hc]at hgl hmv hcl⊢
   refine⟨_,List.Perm.refl _,(ov,c.2,()),rfl,?_⟩
   have hp4:((oseg++(pgs gs++(q.seg++R)))++(SL p s g++J3)).Perm (SL p s g++(oseg++(pgs gs++(q.seg++(J3++R))))):=pc fun z=>by simp only[B4];omega
   generalize (oseg++(pgs gs++(q.seg++R)))++(SL p s g++J3)=L4 at hp4
   dsimp only
   refine B8 (fun(h0:c.2=0)=>?_) (fun(h0: ¬c.2=0)=>?_)
   ·rw[if_neg (by simpa using h0)]at hmv
    obtain⟨o,ho⟩: ∃o,s.op=some o:=by
     have:=hc2.2.1
     unfold Sto.fits at this
     cases hop:s.op with
     |none=>rw[hop]at this;cases this
     |some o=>exact⟨o,rfl⟩
    have hopk:=h.op o ho
    have hsnd:(pvs gs).map Prod.snd=c.1:=by rw[Ax0];exact hgl
    have hpl2:(pvs gs).length<=8:=by rw[<-hsnd,List.length_map]at hcl;exact hcl
    refine Ar6 (Av1 p s g X hS.2 h.bk (oseg++(pgs gs++(q.seg++(J3++R)))) ov (pvs gs) (Be6 own hgs (fun y hy=>by simp[hy]) (fun y hy=>by simp[hy])) (by omega) (h.dg _ (by omega)) o ho (by omega) (by omega) 2) hp4 ?_
    rw[hsnd]
    rintro _ _ ⟨g5,rfl,X5,hn5,rfl⟩
    obtain⟨w,hw⟩: ∃w,w=s.write 2 c.1:=⟨_,rfl⟩
    rw[<-hw]at X5 hmv⊢
    refine⟨(((w.2.1.1,w.2.1.2.1,w.2.1.2.2.1,()),w.2.2,())),rfl,?_⟩
    dsimp only
    have hp5:(SL p w.1 g5++(oseg++(pgs gs++(q.seg++(J3++R))))).Perm (SL p w.1 g5++(oseg++(pgs gs++(q.seg++(J3++R))))):=List.Perm.refl _
    refine B8 (fun(h1:w.2.2=0)=>?_) (fun(h1: ¬w.2.2=0)=>?_)
    ·rw[if_pos h1]at hmv
     refine A6 (some ⟨p.ni,0,none⟩) (E8 (SL.st hp5) rfl) ?_
     have hix:w.1.ix=s.ix/\w.1.sc=s.sc:=by
      rw[hw];unfold Sto.write;rw[ho];dsimp only;split<;>exact⟨rfl,rfl⟩
     refine six hp5 X5 (Cv0 p.ni w.1.sc.ways w.1.ix g5.Ai X5.idx hh hlt pl w.2.1 (by rw[hix.1];exact hrow.fr)) ((Q7 w.1.ix hh pl).isSome,()) rfl {w.1 with ix:=Az0 w.1.ix hh pl w.2.1} rfl fun g6 L6 hp6 X6 hn6=>?_
     rw[hmv,h1]
     exact .drop (A:=SL p _ g6++R) (J:=oseg++(pgs gs++(q.seg++J3))) ⟨g6,rfl,X6,hn6.trans hn5,rfl⟩ (pc fun z=>by have:=pcn hp6 z;simp only[B4]at*;omega)
    ·rw[if_neg h1]at hmv
     rw[hmv]
     exact .drop (A:=SL p w.1 g5++R) (J:=oseg++(pgs gs++(q.seg++J3))) ⟨g5,rfl,X5,hn5,rfl⟩ (pc fun z=>by simp only[B4];omega)
   ·rw[if_pos (by simpa using h0)]at hmv
    rw[hmv]
    exact .drop (A:=SL p s g++R) (J:=oseg++(pgs gs++(q.seg++J3))) ⟨g,rfl,X,rfl,rfl⟩ (pc fun z=>by have:=pcn hp4 z;simp only[B4]at*;omega)
  ·intro j2 hj2
   have hp2':L2.Perm (SL p s g++((q.seg++J)++R)):=pc fun z=>by have:=pcn hp2 z;simp only[B4]at*;omega
   refine A6 (some ⟨p.ni,0,none⟩) (E8 (SL.st hp2) rfl) ?_
   refine B7 (Reads.has (SL.i hp2) (Cv2 p.ni s.sc.ways s.ix g.Ai X.idx hh hlt pl)) (Az1 s.ix hh pl,()) rfl ?_
   refine B8 (fun hz=>drop (rs:=[]) (K:=fun _ _=>True) hp2' (.inl hz)) (fun hz=>?_)
   refine C3 fun n3 _=>?_
   obtain⟨c3,hc3⟩: ∃c3:Nat×Obj,c3=(n3,Obj.cells #[.i x.2.2.1,.i beside] 3):=⟨_,rfl⟩
   rw[<-hc3]
   have hp3:(c3::L2).Perm (SL p s g++(c3::(q.seg++(J++R)))):=pc fun z=>by have:=pcn hp2 z;simp only[B4,C6]at*;omega
   have hsum: ∀y∈[x.2.2.1,beside],0<=y/\y<=(1000000:Nat):=fun y hy=>by
    simp at hy
    rcases hy with rfl|rfl<;>omega
   have hs2:[x.2.2.1,beside].sum=x.2.2.1+beside:=by simp
   refine B7 (Ch7 hp3 X (fun o ho=>by have:=h.op o ho;omega) ⟨some ⟨n3,0,none⟩,2,2⟩ [x.2.2.1,beside] (Bd9 (by rw[hc3];exact List.mem_cons_self)) (by simp) hsum) (s.fits (x.2.2.1+beside),()) (by rw[hs2];rfl) ?_
   refine G7 (fun hfi=>?_) (fun hfi=>drop (rs:=[]) (K:=fun _ _=>True) (J3:=c3::(q.seg++J)) (pc fun z=>by have:=pcn hp3 z;simp only[B4,C6]at*;omega) (.inr (.inl hfi)))
   refine C3 fun n4 _=>?_
   obtain⟨c4,hc4⟩: ∃c4:Nat×Obj,c4=(n4,Obj.cells #[.i x.2.2.1,.i beside] 3):=⟨_,rfl⟩
   rw[<-hc4]
   have hp4:(c4::(c3::L2)).Perm (SL p s g++(q.seg++((c3::(c4::J))++R))):=pc fun z=>by have:=pcn hp3 z;simp only[B4,C6]at*;omega
   refine B7 (Bp7 hp4 X hS.2 ⟨some ⟨n4,0,none⟩,2,2⟩ [x.2.2.1,beside] (Bd9 (by rw[hc4];exact List.mem_cons_self)) (by simp) hsum) (s.pays (x.2.2.1+beside),()) (by rw[hs2];rfl) ?_
   refine G7 (fun hpa=>hj2 _ _ ⟨⟨hz,hfi,hpa⟩,_,hp4⟩) (fun hpa=>drop (rs:=[]) (K:=fun _ _=>True) (J3:=q.seg++(c3::(c4::J))) (pc fun z=>by have:=pcn hp4 z;simp only[B4,C6]at*;omega) (.inr (.inr hpa)))
 ·intro j1 hj1
  refine B8 (fun(h0:f.2.2=0)=>?_) (fun(h0: ¬f.2.2=0)=>skip (J:=q.seg) (pc fun z=>by have:=pcn hp1 z;simp only[B4]at*;omega) (.inl h0))
  refine A6 (some ⟨p.ni,0,none⟩) (E8 (SL.st hp1) rfl) ?_
  refine G5 (Bx0 p.ni s.sc.ways s.ix g.Ai X.idx hh hlt) (R:=stO p s g::(kO p s::(mO p g::(gO p g::(g.Ad++(g.Ab++(rns g.ns++(rns g.on.toList++(g.pseg++(g.Aq++(q.seg++R))))))))))) (pc fun z=>by have:=pcn hp1 z;simp only[SL,B4,C6,D8]at*;omega) ?_
  rintro _ _ ⟨u,seg,rfl,rfl,own⟩
  refine⟨_,List.Perm.refl _,(u,()),rfl,?_⟩
  have hp2:((seg++g.Ai)++(stO p s g::(kO p s::(mO p g::(gO p g::(g.Ad++(g.Ab++(rns g.ns++(rns g.on.toList++(g.pseg++(g.Aq++(q.seg++R)))))))))))).Perm (SL p s g++(q.seg++(seg++R))):=pc fun z=>by simp only[SL,B4,C6,D8];omega
  generalize (seg++g.Ai)++(stO p s g::(kO p s::(mO p g::(gO p g::(g.Ad++(g.Ab++(rns g.ns++(rns g.on.toList++(g.pseg++(g.Aq++(q.seg++R)))))))))))=L2 at hp2
  have hfl2:(Q2 (P5 s.ix hh) hh).length<=1000000:=by
   unfold Q2
   rw[List.length_map]
   have:=List.length_filter_le (fun s:D0=>decide (s.part=T0 hh)) (P5 s.ix hh)
   have:=hrow.len
   omega
  refine B7 (Bf1 L2 u _ (own.sl.mono fun y hy=>hp2.symm.subset (by simp[hy])) hfl2 pl) (decide (pl∈Q2 (P5 s.ix hh) hh),()) rfl ?_
  refine B8 (fun hin=>hj1 _ _ ⟨⟨h0,hin⟩,seg,hp2⟩) (fun hin=>skip (J:=q.seg++seg) (pc fun z=>by have:=pcn hp2 z;simp only[B4]at*;omega) (.inr hin))
theorem B98(L:A4)(x:It)(n1 m:Nat)(b:Int)(h1:D4 ⟨n1,0,none⟩ [.q (some ⟨m,0,none⟩)] L)(h2:D4 ⟨m,0,none⟩ [.i b] L):
  Reads PP 248 #[.agg #[.i x.1,.i x.2.1,.i x.2.2.1],.q (some ⟨n1,0,none⟩)] L (.b (decide (x.1=b))):=by
 unfold Reads
 refine c248 x (some ⟨n1,0,none⟩) ?_
 unfold s248
 exact A5 rfl (A6 (some ⟨m,0,none⟩) h1 (A5 rfl (A6 b h2 (.of ⟨rfl,rfl⟩))))
def ofb(l:List It)(b:Int):List It:=l.filter fun p=> !decide (p.1=b)
theorem Bw1(l:List It)(b:Int)(y:It):ofb (l++[y]) b=ofb l b++(if y.1=b then[]else[y]):=by
 unfold ofb
 rw[List.filter_append]
 by_cases h:y.1=b<;>simp[h]
theorem Cp6(L:A4)(v:SlV)(l:List It)(h:Sl L v 3 (l.flatMap O9))(hl:l.length<=1000000000)(n1 m:Nat)(b:Int)(h1:D4 ⟨n1,0,none⟩ [.q (some ⟨m,0,none⟩)] L)(h2:D4 ⟨m,0,none⟩ [.i b] L):
  Reads PP 295 #[.slice v.a v.len v.cap,.func (.func 248) #[] #[.q (some ⟨n1,0,none⟩)]] L (.i (match l.findIdx? (fun y=>decide (y.1=b))with|some i=>(i:Int)|none=> -1)):=by
 unfold Reads
 refine c295 v ⟨.func 248,#[],#[.q (some ⟨n1,0,none⟩)]⟩ ?_
 unfold s295
 have hvl:=h.els_len E1 (by decide)
 refine G0 (fun k z L'=>L'=L/\ ∃i:Nat,i<=l.length/\k=l.length-i/\z=((i:Int),())/\ ∀y∈l.take i,y.1≠b) l.length ⟨rfl,0,by omega,by omega,rfl,by simp⟩ ?_
 rintro k z L' ⟨hL',i,hi,rfl,rfl,hn⟩
 rw[hL']
 dsimp only
 refine B8 (fun(hlt:(i:Int)<v.len)=>?_) (fun(hge: ¬(i:Int)<v.len)=>?_)
 ·have hi':i<l.length:=by omega
  refine V7 E1 (by decide) h (n:=i) rfl hi' fun a ha=>A6 (sh:=.agg [.int .i64,.int .i64,.int .i64]) l[i] ha (Z2 (by kernel_rfl) (B7 (B98 _ l[i] n1 m b h1 h2) (decide (l[i].1=b),()) rfl ?_))
  refine B8 (fun(he:l[i].1=b)=>.of ⟨?_,rfl⟩) (fun(he: ¬l[i].1=b)=>D9 (by omega) ⟨l.length-(i+1),by omega,rfl,i+1,by omega,rfl,rfl,fun y hy=>?_⟩)
  ·have:l.findIdx? (fun y=>decide (y.1=b))=some i:=by
    rw[List.findIdx?_eq_some_iff_getElem]
    refine⟨hi',by simpa using he,fun j hj=>?_⟩
    have:=hn l[j] (by rw[List.mem_take_iff_getElem];exact⟨j,by omega,rfl⟩)
    simpa using this
   rw[this]
  ·rw[List.take_succ_eq_append_getElem hi']at hy
   rcases List.mem_append.1 hy with hy|hy
   ·exact hn y hy
   ·rw[List.mem_singleton.1 hy];exact he
 ·obtain rfl:i=l.length:=by omega
  rw[List.take_length]at hn
  have:l.findIdx? (fun y=>decide (y.1=b))=none:=by
   rw[List.findIdx?_eq_none_iff]
   intro y hy
   simpa using hn y hy
  rw[this]
  exact .of ⟨rfl,rfl⟩
theorem C68(v:SlV)(i h:Nat):P1 v ((i:Nat):Int) ((h:Nat):Int) ((v.cap:Nat):Int) 3=P1 (P1 v ((0:Nat):Int) ((i:Nat):Int) ((v.cap:Nat):Int) 3) ((P1 v ((0:Nat):Int) ((i:Nat):Int) ((v.cap:Nat):Int) 3).len) ((h:Nat):Int) ((P1 v ((0:Nat):Int) ((i:Nat):Int) ((v.cap:Nat):Int) 3).cap) 3:=by
 have ea: ∀o:Option Addr,o.map (·.add 0)=o:=fun o=>by cases o<;>simp[Addr.add]
 simp only[P1,Int.toNat_natCast,Nat.sub_zero,Nat.zero_mul,ea,ite_self]
theorem Cq1(v:SlV)(l:List It)(seg Y:A4)(own:Own v 3 A12 (l.flatMap O9) seg)(hl:l.length<=1000000000)(n1 m:Nat)(b:Int)(h1:D4 ⟨n1,0,none⟩ [.q (some ⟨m,0,none⟩)] Y)(h2:D4 ⟨m,0,none⟩ [.i b] Y):
  CallF PP 247 #[.slice v.a v.len v.cap,.func (.func 248) #[] #[.q (some ⟨n1,0,none⟩)]] (seg++Y)
   fun r L'=> ∃(s:SlV) (seg':A4),r= .slice s.a s.len s.cap/\L'=seg'++Y/\Own s 3 A12 ((ofb l b).flatMap O9) seg':=by
 refine c247 v ⟨.func 248,#[],#[.q (some ⟨n1,0,none⟩)]⟩ ?_
 unfold s247
 have l1: ∀{sg L:A4},L.Perm (sg++Y)->D4 ⟨n1,0,none⟩ [.q (some ⟨m,0,none⟩)] L:=fun hp=>h1.mono fun x hx=>hp.symm.subset (by simp[hx])
 have l2: ∀{sg L:A4},L.Perm (sg++Y)->D4 ⟨m,0,none⟩ [.i b] L:=fun hp=>h2.mono fun x hx=>hp.symm.subset (by simp[hx])
 have hlen:=own.sl.els_len E1 (by decide)
 have hcap:=own.cap
 refine B7 (Cp6 _ v l (own.sl.mono fun x hx=>by simp[hx]) hl n1 m b (l1 (List.Perm.refl _)) (l2 (List.Perm.refl _))) (_,()) rfl ?_
 cases hf:l.findIdx? (fun y=>decide (y.1=b))with
 |none=>
  rw[List.findIdx?_eq_none_iff]at hf
  have:ofb l b=l:=by
   unfold ofb
   rw[List.filter_eq_self]
   intro y hy
   have:=hf y hy
   simpa using this
  rw[this]
  exact ifT rfl (.of ⟨v,seg,rfl,rfl,own⟩)
 |some i0=>
  rw[List.findIdx?_eq_some_iff_getElem]at hf
  obtain⟨hi0,h1',h2'⟩:=hf
  have h1':l[i0].1=b:=by simpa using h1'
  have hpre:ofb (l.take i0) b=l.take i0:=by
   unfold ofb
   rw[List.filter_eq_self]
   intro y hy
   obtain⟨j,hj,rfl⟩:=List.mem_take_iff_getElem.1 hy
   have:=h2' j (by omega)
   simpa using this
  have hsn:=Bw1 (l.take i0) b l[i0]
  rw[<-List.take_succ_eq_append_getElem hi0,if_pos h1',hpre,List.append_nil]at hsn
  dsimp only
  refine ifF (by simp) (D9 (by omega) ?_)
  refine G0 (fun k z L'=> ∃(i j:Nat) (cur:List It) (sg:A4),i<=j/\j<=l.length/\k=l.length-j/\z=((i:Int),(j:Int),())/\L'.Perm (sg++Y)/\Own v 3 A12 (cur.flatMap O9) sg/\cur.length=l.length/\i=(ofb (l.take j) b).length/\cur.take i=ofb (l.take j) b/\cur.drop j=l.drop j) (l.length-(i0+1))
   ⟨i0,i0+1,l,seg,by omega,by omega,by omega,rfl,List.Perm.refl _,own,rfl,by rw[hsn,List.length_take];omega,by rw[hsn],rfl⟩ ?_
  clear hsn hpre own
  rintro k z L' ⟨i,j,cur,sg,hij,hj,rfl,rfl,hp,own,hcl,hil,htk,hdr⟩
  dsimp only
  have h0:Sl L' v 3 (cur.flatMap O9):=own.sl.mono fun x hx=>hp.symm.subset (by simp[hx])
  refine B8 (fun(hlt:(j:Int)<v.len)=>?_) (fun(hge: ¬(j:Int)<v.len)=>?_)
  ·have hj':j<cur.length:=by omega
   have hjl:j<l.length:=by omega
   have hcj:cur[j]=l[j]:=by
    have a1:=List.drop_eq_getElem_cons hj'
    have a2:=List.drop_eq_getElem_cons hjl
    rw[hdr,a2]at a1
    injection a1 with b1 b2
    exact b1.symm
   have hdr':cur.drop (j+1)=l.drop (j+1):=by
    rw[<-List.drop_drop,hdr,List.drop_drop]
   have hsn:=Bw1 (l.take j) b l[j]
   rw[<-List.take_succ_eq_append_getElem hjl]at hsn
   refine V7 E1 (by decide) h0 (n:=j) rfl hj' fun a ha=>?_
   rw[hcj]at ha
   refine A6 (sh:=.agg [.int .i64,.int .i64,.int .i64]) l[j] ha (Z2 (by kernel_rfl) (B7 (B98 _ l[j] n1 m b (l1 hp) (l2 hp)) (decide (l[j].1=b),()) rfl ?_))
   refine B8 (fun(he:l[j].1=b)=>?_) (fun(he: ¬l[j].1=b)=>?_)
   ·rw[if_pos he,List.append_nil]at hsn
    exact D9 (by omega) ⟨l.length-(j+1),by omega,i,j+1,cur,sg,by omega,by omega,rfl,rfl,hp,own,hcl,by rw[hsn];exact hil,by rw[hsn];exact htk,hdr'⟩
   ·rw[if_neg he]at hsn
    obtain⟨a2,ha2,hla2⟩:=h0.el E1 (by decide) (show i<cur.length by omega)
    refine A5 ha2 (E0 (show(0:Int)<=(i:Int) by omega) (show(i:Int)<v.len by omega) ?_)
    rw[Int.toNat_natCast]
    refine B77 E1 (by decide) own ha2 (show i<cur.length by omega) l[j] hp fun sg' L2 hp2 own2=>?_
    refine D9 (by omega) (D9 (by omega) ⟨l.length-(j+1),by omega,i+1,j+1,cur.set i l[j],sg',by omega,by omega,rfl,rfl,hp2,own2,by rw[List.length_set];exact hcl,?_,?_,?_⟩)
    ·rw[hsn,List.length_append,<-hil];rfl
    ·rw[hsn,<-htk,List.take_succ_eq_append_getElem (by rw[List.length_set];omega),List.take_set_of_le (by omega),List.getElem_set_self]
    ·rw[List.drop_set_of_lt (by omega)];exact hdr'
  ·obtain rfl:j=l.length:=by omega
   rw[List.take_length]at hil htk
   have own':=own.slc (l:=0) (h:=i) (by omega) (by omega)
   rw[Au2 E1,List.drop_zero,Nat.sub_zero,htk]at own'
   refine K4 (l':=i) (h':=v.len) (m':=v.cap) rfl rfl rfl (by omega) hcap (Nat.le_refl _) ?_
   refine Au5.permL hp (Ah0 Ap8 rfl [] Y own' (by simp) (h:=v.len) (by simp only[P1,Int.toNat_natCast];omega) (by simp only[P1,Int.toNat_natCast];omega) (C68 v i v.len) fun seg2 own2=>?_)
   refine K4 (l':=0) (h':=i) (m':=v.cap) rfl rfl rfl (by omega) (by omega) (Nat.le_refl _) (.of ⟨_,seg2,rfl,by simp,own2⟩)
theorem C77(v:SlV)(l:List It)(seg:A4)(own:Own v 3 A12 (l.flatMap O9) seg)(hb:l.length<=1000000000)(k:Nat)(hk:k<=l.length)(h0:0<k):
  CallF PP 65 #[.slice v.a v.len v.cap,.i 0,.i k] seg fun r L'=> ∃s,r= .slice s.a s.len s.cap/\Own s 3 A12 ((l.drop k).flatMap O9) L':=by
 refine c65 v 0 k ?_
 unfold s65
 have hlen:=own.sl.els_len E1 (by decide)
 have hcap:=own.cap
 refine K4 (l':=0) (h':=k) (m':=v.len) rfl rfl rfl (by omega) (by omega) hcap ?_
 refine ifN (show¬((0:Int)=(k:Int)) by omega) ?_
 refine K4 (l':=0) (h':=0) (m':=v.cap) rfl rfl rfl (by omega) (by omega) (Nat.le_refl _) ?_
 refine K4 (l':=k) (h':=v.len) (m':=v.cap) rfl rfl rfl (by omega) hcap (Nat.le_refl _) ?_
 have own2:=own.slc (l:=0) (h:=0) (by omega) (by omega)
 have src2:=Sl.slc (m:=v.cap) own.sl (by omega) (l:=k) (h':=v.len) (by omega) (Nat.le_refl _) hcap
 rw[Au2 E1]at own2 src2
 refine Ai5 Ap8 Bt9 [] [] own2 (by simp) (.sl src2) (Bi4 _) (by simp only[P1,Int.toNat_natCast];omega) fun s seg' hs _ hcap' own'=>?_
 rw[<-List.flatMap_append]at own'
 have e1:(l.drop 0).take (0-0)++(l.drop k).take (v.len-k)=l.drop k:=by
  rw[hlen]
  simp only[Nat.sub_zero,List.take_zero,List.nil_append]
  exact List.take_of_length_le (by rw[List.length_drop];omega)
 rw[e1]at own'
 simp only[P1,Int.toNat_natCast]at hs hcap'
 have hsc:=own'.cap
 refine K4 (l':=s.len) (h':=v.len) (m':=s.cap) rfl rfl rfl (by omega) (by omega) (Nat.le_refl _) ?_
 refine Ah0 Ap8 rfl [] [] own' (by simp) (h:=v.len) (by omega) (by omega) rfl fun seg2 own2=>?_
 exact .of ⟨s,rfl,by simpa using own2⟩
theorem B30{n:Nat}{e:TypeId}:Own ⟨some ⟨n,0,none⟩,0,0⟩ 3 e [] [(n,Obj.cells #[] e)]:=⟨rfl,Nat.le_refl _,.inr ⟨n,0,#[],(0,0),rfl,rfl,by simp,.inl (Nat.le_refl _),fun i u hu=>by simp at hu⟩⟩
theorem B89(A:A4)(v:SlV)(l:List It)(h:Sl A v 3 (l.flatMap O9))(hb:l.length<=1000000000):
  CallF PP 71 #[.slice v.a v.len v.cap] A fun r L'=> ∃(s:SlV) (seg:A4),r= .slice s.a s.len s.cap/\L'=seg++A/\Own s 3 A12 (l.flatMap O9) seg:=by
 refine c71 v ?_
 unfold s71
 have hlen:=h.els_len E1 (by decide)
 cases ha:v.a with
 |none=>
  have:l=[]:=by
   cases l with
   |nil=>rfl
   |cons x r=>
    obtain⟨a,ha2,_⟩:=h.el E1 (by decide) (i:=0) (by simp)
    rw[ha]at ha2;cases ha2
  rw[this]
  exact ifT rfl (.of ⟨⟨none,0,0⟩,[],rfl,rfl,F4⟩)
 |some a=>
  refine ifF rfl (C3 fun n1 _=>?_)
  refine app_pm Ap8 Bt9 (B30 (n:=n1) (e:=102)) (Y:=A) (n:=v.len) (ws:=l.flatMap O9) (List.Perm.refl _) ?_ (Bi4 _) ?_ fun v5 sg5 hl5 o5=>?_
  ·rw[<-ha];exact .sl (h.mono fun x hx=>List.mem_cons_of_mem _ hx)
  ·rw[hlen,show({a:=some ⟨n1,0,none⟩,len:=0,cap:=0}:SlV).len=0 from rfl];omega
  ·exact .of ⟨v5,sg5,rfl,rfl,by simpa using o5⟩
theorem Ax9(b ep beside:Int): ∀(l:List It) (x:It) (s:Sto),(Sto.moves b ep beside l s).2=0->Sto.moves b ep beside (l++[x]) s=(if x.1≠2 then((Sto.moves b ep beside l s).1,0)else(Sto.moves b ep beside l s).1.move (b,x.2.1,ep,()) x.2.2.1 beside)
 |[],x,s,_=>by
  show Sto.moves b ep beside [x] s=_
  unfold Sto.moves
  split
  ·rfl
  ·dsimp only[Sto.moves]
   split
   ·rfl
   ·rename_i h
    have h:(s.move (b,x.2.1,ep,()) x.2.2.1 beside).2=0:=by simpa using h
    exact Prod.ext rfl h.symm
 |y::r,x,s,h=>by
  rw[List.cons_append]
  unfold Sto.moves at h⊢
  split
  ·rename_i hy
   rw[if_pos hy]at h
   exact Ax9 b ep beside r x s h
  ·rename_i hy
   rw[if_neg hy]at h
   dsimp only at h⊢
   split
   ·rename_i h0
    rw[if_pos h0]at h
    exact absurd h h0
   ·rename_i h0
    rw[if_neg h0]at h
    exact Ax9 b ep beside r x _ h
theorem Ap1(b ep beside:Int): ∀(l r:List It) (s:Sto),(Sto.moves b ep beside l s).2≠0->Sto.moves b ep beside (l++r) s=Sto.moves b ep beside l s
 |[],r,s,h=>absurd rfl h
 |y::t,r,s,h=>by
  rw[List.cons_append]
  unfold Sto.moves at h⊢
  split
  ·rename_i hy
   rw[if_pos hy]at h
   exact Ap1 b ep beside t r s h
  ·rename_i hy
   rw[if_neg hy]at h
   dsimp only at h⊢
   split
   ·rfl
   ·rename_i h0
    rw[if_neg h0]at h
    exact Ap1 b ep beside t r _ h
theorem Av2(p:SP)(s:Sto)(g:SG)(X:SX p s g){M:Nat}(h:SOk s M)(hM:M<=1000000000)(hd:s.down=false)(R:A4)(hT:Tab R)(x:RN)(t:List RN)(hns:g.ns=x::t)(beside:Int)(hbs:0<=beside/\beside<=1000):
  CallF PP 187 #[.q (some ⟨p.n,0,none⟩),.q x.ptr,.i beside] (SL p s g++R) (SK p (s.reclaim x.r beside) R):=by
 refine c187 (some ⟨p.n,0,none⟩) x.ptr beside ?_
 unfold s187
 refine C3 fun n1 _=>?_
 obtain⟨c1,hc1⟩: ∃c1:Nat×Obj,c1=(n1,Obj.cells #[.q x.ptr] 80):=⟨_,rfl⟩
 rw[<-hc1]
 have l1: ∀{L:A4},c1∈L->D4 ⟨n1,0,none⟩ [.q (some ⟨x.id,0,none⟩)] L:=fun hm=>ldB (by rw[hc1]at hm;exact hm) rfl
 have hall:x∈g.all:=by unfold SG.all;rw[hns];simp
 have xo: ∀{g':SG} {s':Sto} {L R':A4},g'.ns=g.ns->L.Perm (SL p s' g'++R')-> ∀y∈x.objs,y∈L:=fun hn hp=>SL.rn hp (by unfold SG.all;rw[hn,hns];simp)
 have hp0:(c1::(SL p s g++R)).Perm (SL p s g++(c1::R)):=pc fun z=>by simp only[B4,C6];omega
 have hm0:x.o∈c1::(SL p s g++R):=xo rfl hp0 _ (by unfold RN.objs;exact List.mem_cons_self)
 refine A6 (some ⟨x.id,0,none⟩) (l1 List.mem_cons_self) (A5 (a:=⟨x.id,0,none⟩) rfl (A6 x.v (ldB (n:=x.id) (off:=3) hm0 rfl) ?_))
 have hok:=X.ok x hall
 have hvl:=hok.sl.els_len E1 (by decide)
 have hxr:x.r∈s.rs:=by rw[<-X.rs,hns];simp
 have hgood:=h.it x.r (.inl hxr)
 have hl256:=hgood.1
 refine G0 (fun z' z L'=> ∃(i:Nat) (g':SG) (J:A4),i<=x.r.l.length/\z'=x.r.l.length-i/\z=((i:Int),())/\(Sto.moves x.r.b x.r.ep beside (x.r.l.take i) s).2=0/\SX p (Sto.moves x.r.b x.r.ep beside (x.r.l.take i) s).1 g'/\g'.ns=g.ns/\L'.Perm (SL p (Sto.moves x.r.b x.r.ep beside (x.r.l.take i) s).1 g'++(c1::(J++R)))) x.r.l.length
  ⟨0,g,[],by omega,by omega,rfl,rfl,X,rfl,hp0⟩ ?_
 rintro z' z L1 ⟨i,g',J,hi,rfl,rfl,h0,X',hn',hp1⟩
 dsimp only
 have hT1:Tab (c1::(J++R)):=hT.mono fun y hy=>by simp[hy]
 have hc1m:c1∈L1:=hp1.symm.subset (by simp)
 have hm1:=xo hn' hp1
 have hmo:x.o∈L1:=hm1 _ (by unfold RN.objs;exact List.mem_cons_self)
 obtain⟨k1,k2,mv⟩:=SOk.moves (b:=x.r.b) (ep:=x.r.ep) (beside:=beside) (x.r.l.take i) h hd
 have fb: ∀{L:A4},x.o∈L->D4 ⟨x.id,0,none⟩ [.i x.r.b] L:=fun hm=>ldB hm rfl
 have fe: ∀{L:A4},x.o∈L->D4 ⟨x.id,1,none⟩ [.i x.r.ep] L:=fun hm=>ldB hm rfl
 refine B8 (fun(hlt:(i:Int)<x.v.len)=>?_) (fun(hge: ¬(i:Int)<x.v.len)=>?_)
 ·have hi':i<x.r.l.length:=by omega
  have hig:=hgood.2 _ (List.getElem_mem hi')
  have hap:=Ax9 x.r.b x.r.ep beside (x.r.l.take i) x.r.l[i] s h0
  have hst: ∀r:List It,(Sto.moves x.r.b x.r.ep beside (x.r.l.take (i+1)) s).2≠0->Sto.moves x.r.b x.r.ep beside x.r.l s=Sto.moves x.r.b x.r.ep beside (x.r.l.take (i+1)) s:=fun _ he=>by
   conv=>lhs;rw[<-List.take_append_drop (i+1) x.r.l]
   exact Ap1 x.r.b x.r.ep beside _ _ s he
  rw[List.take_succ_eq_append_getElem hi']at hst
  obtain⟨w,hw⟩: ∃w,w=Sto.moves x.r.b x.r.ep beside (x.r.l.take i) s:=⟨_,rfl⟩
  rw[<-hw]at X' hp1 k1 hap k2 mv h0
  refine V7 E1 (by decide) (hok.sl.mono fun y hy=>hm1 y (by unfold RN.objs;simp[hy])) (n:=i) rfl hi' fun a ha=>?_
  obtain⟨y,hy⟩: ∃y,y=x.r.l[i]:=⟨_,rfl⟩
  rw[<-hy]at ha hig hap hst
  refine A6 (sh:=.agg [.int .i64,.int .i64,.int .i64]) y ha ?_
  refine B8 (fun(hk:y.1=2)=>?_) (fun(hk: ¬y.1=2)=>?_)
  ·rw[if_neg (by simpa using hk)]at hap
   refine A6 (some ⟨x.id,0,none⟩) (l1 hc1m) (A5 rfl (A6 x.r.b (fb hmo) (A6 (some ⟨x.id,0,none⟩) (l1 hc1m) (A5 rfl (A6 x.r.ep (fe hmo) ?_)))))
   refine Ar6 (Cp3 p w.1 g' X' k1 (c1::(J++R)) hT1 (x.r.b,y.2.1,x.r.ep,()) (Bd4 (by show-9223372036854775808<=y.2.1/\y.2.1<=9223372036854775807;omega)) y hig.2 beside hbs) hp1 ?_
   rintro _ _ ⟨g2,rfl,X2,hn2,rfl⟩
   refine⟨((w.1.move (x.r.b,y.2.1,x.r.ep,()) y.2.2.1 beside).2,()),rfl,?_⟩
   refine B8 (fun(h1:(w.1.move (x.r.b,y.2.1,x.r.ep,()) y.2.2.1 beside).2=0)=>?_) (fun(h1: ¬(w.1.move (x.r.b,y.2.1,x.r.ep,()) y.2.2.1 beside).2=0)=>?_)
   ·refine D9 (by omega) ⟨x.r.l.length-(i+1),by omega,i+1,g2,J,by omega,rfl,rfl,?_,?_,hn2.trans hn',?_⟩
    ·rw[List.take_succ_eq_append_getElem hi',<-hy,hap];exact h1
    ·rw[List.take_succ_eq_append_getElem hi',<-hy,hap];exact X2
    ·rw[List.take_succ_eq_append_getElem hi',<-hy,hap]
   ·have hall:=hst [] (by rw[hap];exact h1)
    rw[hap]at hall
    have hrc:s.reclaim x.r beside=w.1.move (x.r.b,y.2.1,x.r.ep,()) y.2.2.1 beside:=by
     unfold Sto.reclaim
     dsimp only
     rw[hall,if_pos h1]
    rw[hrc]
    exact .drop (A:=SL p _ g2++R) (J:=c1::J) ⟨g2,rfl,X2,rfl⟩ (pc fun z=>by simp only[B4,C6];omega)
  ·rw[if_pos (by simpa using hk)]at hap
   refine D9 (by omega) ⟨x.r.l.length-(i+1),by omega,i+1,g',J,by omega,rfl,rfl,?_,?_,hn',?_⟩
   ·rw[List.take_succ_eq_append_getElem hi',<-hy,hap]
   ·rw[List.take_succ_eq_append_getElem hi',<-hy,hap];exact X'
   ·rw[List.take_succ_eq_append_getElem hi',<-hy,hap];exact hp1
 ·obtain rfl:i=x.r.l.length:=by omega
  rw[List.take_length]at h0 X' hp1 k1 k2 mv
  obtain⟨w,hw⟩: ∃w,w=Sto.moves x.r.b x.r.ep beside x.r.l s:=⟨_,rfl⟩
  have hrc:s.reclaim x.r beside=Sto.erase {w.1 with pend:=w.1.pend.filter fun p=> !decide (p.1=x.r.b)} x.r.b:=by
   unfold Sto.reclaim
   dsimp only
   rw[<-hw,if_neg]
   rw[hw];simpa using h0
  rw[<-hw]at X' hp1 k1 k2 mv h0
  rw[hrc]
  refine A5 rfl (A6 g'.pv (E8 (SL.st hp1) rfl) ?_)
  refine Ar6 (Cq1 g'.pv w.1.pend g'.pseg (stO p w.1 g'::(kO p w.1::(mO p g'::(gO p g'::(g'.Ad++(g'.Ab++(rns g'.ns++(rns g'.on.toList++(g'.Aq++(g'.Ai++(c1::(J++R)))))))))))) X'.pd (Nat.le_trans k1.pl hM) n1 x.id x.r.b (l1 (by simp)) (fb (by
    have:x.o∈rns g'.ns:=List.mem_flatMap.2 ⟨x,by rw[hn',hns];simp,by unfold RN.objs;exact List.mem_cons_self⟩
    simp[this]))) (pc fun z=>by have:=pcn hp1 z;simp only[SL,B4,C6,D8]at*;omega) ?_
  rintro _ _ ⟨s1,seg1,rfl,rfl,own1⟩
  refine⟨(s1,()),rfl,?_⟩
  obtain⟨s2,hs2⟩: ∃s2:Sto,s2={w.1 with pend:=w.1.pend.filter fun p=> !decide (p.1=x.r.b)}:=⟨_,rfl⟩
  obtain⟨g2,hg2⟩: ∃g2:SG,g2={g' with pv:=s1,pseg:=seg1}:=⟨_,rfl⟩
  rw[<-hs2]
  refine Bo0 (s:=w.1) (g:=g') (k:=17) s2 g2 (Y:=seg1++(kO p w.1::(mO p g'::(gO p g'::(g'.Ad++(g'.Ab++(rns g'.ns++(rns g'.on.toList++(g'.Aq++(g'.Ai++(c1::(J++R)))))))))))) (pc fun z=>by simp only[B4,C6,D8];omega) (by decide) (by rw[hs2,hg2];rfl) fun L2 hp2=>?_
  have hp2:L2.Perm (SL p s2 g2++(c1::(J++R))):=pc fun z=>by
   have:=pcn hp2 z
   have e1:kO p s2=kO p w.1:=by rw[hs2];rfl
   have e2:mO p g2=mO p g':=by rw[hg2];rfl
   have e3:gO p g2=gO p g':=by rw[hg2];rfl
   have e4:g2.pseg=seg1/\g2.Ad=g'.Ad/\g2.Ab=g'.Ab/\g2.ns=g'.ns/\g2.on=g'.on/\g2.Aq=g'.Aq/\g2.Ai=g'.Ai:=by rw[hg2];exact⟨rfl,rfl,rfl,rfl,rfl,rfl,rfl⟩
   simp only[SL,e1,e2,e3,e4.1,e4.2.1,e4.2.2.1,e4.2.2.2.1,e4.2.2.2.2.1,e4.2.2.2.2.2.1,e4.2.2.2.2.2.2,B4,C6,D8]at*
   omega
  have X2:SX p s2 g2:=by rw[hs2,hg2];exact{X' with cfg:=X'.cfg,dev:=X'.dev,blk:=X'.blk,pd:=own1}
  have hn2:g2.ns=g.ns:=by rw[hg2];exact hn'
  have hmo2:x.o∈L2:=xo hn2 hp2 _ (by unfold RN.objs;exact List.mem_cons_self)
  refine A6 (some ⟨x.id,0,none⟩) (l1 (hp2.symm.subset (by simp))) (A5 rfl (A6 x.r.b (fb hmo2) ?_))
  have hk2:SOk s2 M:=by rw[hs2];exact k1.cutp x.r.b
  have hus2:s2.us=s.us:=by rw[hs2];exact mv.us
  have hob: ∀o,s2.op=some o->o.b≠x.r.b:=fun o ho e=>by
   have h3:s2.op.map Reg.b=s.op.map Reg.b:=by rw[hs2];exact mv.ob
   rw[ho]at h3
   have hnd:=h.use.1
   unfold Sto.us at hnd
   rw[<-h3,<-X.rs,hns]at hnd
   simp[e]at hnd
  refine G5 (Be9 p s2 g2 X2 hk2.dv (fun y hy=>by have:=hk2.sw y hy;omega) hk2.use.1 x.r.b hob (fun hb=>by
   have:x.r.b∈s2.us:=by rw[hus2];unfold Sto.us;exact List.mem_append_left _ (List.mem_map_of_mem hxr)
   have:=hk2.use.2 _ this
   rw[this]at hb;cases hb)) hp2 ?_
  rintro _ _ ⟨g3,hL3,X3,rfl⟩
  rw[List.append_nil]at hL3
  rw[hL3]
  exact⟨_,List.Perm.refl _,((s2.erase x.r.b).2,()),rfl,.drop (A:=SL p (s2.erase x.r.b).1 g3++R) (J:=c1::J) ⟨g3,rfl,X3,rfl⟩ (pc fun z=>by simp only[B4,C6];omega)⟩
theorem Al9{ss:List BS}{us:List Int}(h:A63 ss us≠0):N1 ss us (E9 ss us).2.2=true/\(E9 ss us).2.1=bat ss (E9 ss us).2.2:=by
 obtain⟨h1,h2,-⟩:=A58 ss us
 cases hp:(E9 ss us).1 with
 |false=>
  refine absurd ?_ h
  rw[B53,A06 (r:=fun _=>false) fun i hi=>h1 hp i hi,B02]
  rfl
 |true=>exact⟨(h2 hp).1,(h2 hp).2.1⟩
theorem A05{ss:List BS}{us:List Int}{b:Int}(h:N1 ss us b=true)(hd:(bat ss b).dirty=false):Af1 ss us b=true:=by
 obtain⟨h1,h2⟩:=H9 h
 obtain⟨h3,h4,h5⟩:=M8 h1
 unfold Af1
 rw[h,List.getElem?_eq_getElem h4]
 unfold bat at hd
 rw[List.getElem?_eq_getElem h4]at hd
 simp at hd
 simp[hd]
def Sto.mu2(s:Sto):Nat:=s.bk.tokens.toNat*1000+Z3 s.ss*20+s.us.length
structure Lk(s s':Sto):Prop where
 dn:s'.down=false
 us:s'.us.length<=s.us.length
 gd:Z3 s'.ss<=Z3 s.ss
 tk:s'.bk.tokens<=s.bk.tokens
theorem Lk.trans{a b c:Sto}(h:Lk a b)(k:Lk b c):Lk a c:=⟨k.dn,Nat.le_trans k.us h.us,Nat.le_trans k.gd h.gd,Int.le_trans k.tk h.tk⟩
theorem SOk.frees{n:Int}: ∀(k:Nat) {s:Sto} {M:Nat},SOk s M->s.down=false->SOk (Sto.frees n k s).1 M/\((Sto.frees n k s).2=0->Lk s (Sto.frees n k s).1)/\(Sto.frees n k s).1.sc=s.sc
 |0,s,M,h,hd=>⟨h,fun _=>⟨hd,Nat.le_refl _,Nat.le_refl _,Int.le_refl _⟩,rfl⟩
 |k+1,s,M,h,hd=>by
  unfold Sto.frees
  split
  ·split
   ·exact⟨h,fun _=>⟨hd,Nat.le_refl _,Nat.le_refl _,Int.le_refl _⟩,rfl⟩
   ·rename_i r t hr
    obtain⟨h1,h2,h3⟩:=h.reclaim hd hr n
    dsimp only
    split
    ·rename_i h0
     exact⟨h1,fun he=>absurd he h0,h3⟩
    ·rename_i h0
     obtain⟨a1,a2,a3,a4,a5⟩:=h2 (by simpa using h0)
     obtain⟨b1,b2,b3⟩:=SOk.frees (n:=n) k h1 a1
     exact⟨b1,fun he=>Lk.trans ⟨a1,by omega,a3,a4⟩ (b2 he),b3.trans h3⟩
  ·exact⟨h,fun _=>⟨hd,Nat.le_refl _,Nat.le_refl _,Int.le_refl _⟩,rfl⟩
theorem B71{b:Bk}{n:Int}(h0:0<=n)(h:n<=b.tokens):(Ad4 b n).tokens=b.tokens-n:=by unfold Ad4;rw[if_pos ⟨h0,h⟩]
theorem SOk.picks{s:Sto}{M:Nat}(h:SOk s M)(hd:s.down=false)(hop:s.op=none)(hf:s.free≠0):
  ∃z:Sto×Int,z=(if(E9 s.ss s.us).2.1.dirty then s.erase (E9 s.ss s.us).2.2 else(s,0))/\SOk z.1 M/\z.1.op=none/\z.1.bk=s.bk/\z.1.epoch=s.epoch/\z.1.sc=s.sc/\(z.2=0->z.1.down=false/\z.1.us=s.us/\Z3 z.1.ss<=Z3 s.ss/\
   ((E9 s.ss s.us).2.1.dirty=true/\z.1.badAt (E9 s.ss s.us).2.2=true->Z3 z.1.ss+1=Z3 s.ss)/\
   (¬((E9 s.ss s.us).2.1.dirty=true/\z.1.badAt (E9 s.ss s.us).2.2=true)->N1 z.1.ss z.1.us (E9 s.ss s.us).2.2=true/\Af1 z.1.ss z.1.us (E9 s.ss s.us).2.2=true)):=by
 refine⟨_,rfl,?_⟩
 obtain⟨p1,p2⟩:=Al9 hf
 obtain⟨q1,q2⟩:=H9 p1
 obtain⟨q3,q4,q5⟩:=M8 q1
 rw[p2]
 generalize (E9 s.ss s.us).2.2=b at p1 q1 q2 q3 q4 q5
 cases hdi:(bat s.ss b).dirty with
 |false=>
  rw[if_neg (by decide)]
  refine⟨h,hop,rfl,rfl,rfl,fun _=>⟨hd,rfl,Nat.le_refl _,fun hh=>absurd hh.1 (by decide),fun _=>⟨p1,A05 p1 hdi⟩⟩⟩
 |true=>
  rw[if_pos rfl]
  have he:=h.erase hd (b:=b) (fun o ho=>by rw[hop]at ho;cases ho)
  obtain⟨e1,e2,e3,e4,e5,e6⟩:=he
  refine⟨e1,e3.trans hop,e4,e5,e6,fun h0=>?_⟩
  obtain⟨a1,a2,a3⟩:=e2 h0
  rw[if_pos q1]at a3
  have hus:(s.erase b).1.us=s.us:=by
   rw[a2]
   unfold iwo
   rw[List.filter_eq_self]
   intro y hy
   have:y≠b:=fun e=>q2 (e▸hy)
   simp[this]
  have hN:=A62 q1 (T9 (decide ((G2 s.d b).1=10))) (bad:=decide ((G2 s.d b).1=10)) fun s _=>rfl
  rw[<-a3]at hN
  have hat:(s.erase b).1.ss[b.toNat]?=some (T9 (decide ((G2 s.d b).1=10)) s.ss[b.toNat]):=by
   rw[a3]
   unfold Ad5
   rw[List.getElem?_modify,List.getElem?_eq_getElem q4]
   simp
  have hbl:b.toNat<(s.erase b).1.d.bs.length:=by
   rw[<-e1.ssl]
   exact(List.getElem?_eq_some_iff.1 hat).1
  obtain⟨x,hx,hxw,hxb⟩:=e1.ssd a1 b.toNat _ (List.getElem?_eq_getElem hbl)
  rw[hat]at hx
  obtain rfl:=Option.some.inj hx
  have hbad:(s.erase b).1.badAt b=decide ((G2 s.d b).1=10):=by
   unfold Sto.badAt
   rw[List.getElem?_eq_getElem hbl]
   exact hxb.symm
  refine⟨a1,hus,by split at hN<;>omega,fun hh=>?_,fun hh=>?_⟩
  ·rw[hbad]at hh
   rw[if_pos hh.2]at hN
   omega
  ·have hnb:decide ((G2 s.d b).1=10)=false:=by
    rw[hbad]at hh
    simpa using hh
   rw[hnb]at hat
   have hg:H1 (s.erase b).1.ss b=true:=by
    unfold H1
    rw[hat]
    simp[q3,T9]
   have hfr:N1 (s.erase b).1.ss (s.erase b).1.us b=true:=by
    unfold N1
    rw[hg,hus]
    simp[q2]
   refine⟨hfr,A05 hfr ?_⟩
   unfold bat
   rw[hat];rfl
theorem SOk.more{s:Sto}{M:Nat}(h:SOk s M)(hd:s.down=false){n:Int}(hn:0<=n):SOk (s.more n).1 M/\((s.more n).2=0->(s.more n).1.down=false/\(s.more n).1.mu2<s.mu2)/\(s.more n).1.sc=s.sc:=by
 unfold Sto.more
 have hS:=h.S
 have hb:=h.bk
 split
 ·exact⟨h,fun he=>absurd (show(13:Int)=0 from he) (by decide),rfl⟩
 rename_i hpay
 have hpay:s.bk.tokens≥(n+1+s.sealN)*(s.sc.c.S:Int):=by
  unfold Sto.pays Sto.cost at hpay
  simpa using hpay
 split
 ·exact⟨h,fun he=>absurd (show(7:Int)=0 from he) (by decide),rfl⟩
 rename_i hep
 split
 ·split
  ·exact⟨h,fun he=>absurd (show(7:Int)=0 from he) (by decide),rfl⟩
  ·rename_i r t hr
   obtain⟨h1,h2,h3⟩:=h.reclaim hd hr n
   refine⟨h1,fun he=>?_,h3⟩
   obtain⟨a1,a2,a3,a4,a5⟩:=h2 he
   refine⟨a1,?_⟩
   unfold Sto.mu2
   have:=h1.bk.t0
   omega
 rename_i hfree
 obtain⟨s1,s2,s3,s4,s5,s6,s7⟩:=h.seals hd
 have htk:s.seals.2=0->s.seals.1.bk.tokens=s.bk.tokens-s.sealN*(s.sc.c.S:Int):=fun h0=>by
  unfold Sto.seals at h0⊢
  unfold Sto.sealN at hpay⊢
  cases ho:s.op with
  |none=>simp
  |some o=>
   rw[ho]at h0 hpay
   simp only at h0⊢
   have hc:s.cost 1=(s.sc.c.S:Int):=by unfold Sto.cost;omega
   have h5:(s.sc.c.S:Int)<=s.bk.tokens:=by
    have:(n+1+1)*(s.sc.c.S:Int)≥1*(s.sc.c.S:Int):=Int.mul_le_mul_of_nonneg_right (by omega) (by omega)
    simp only at hpay
    omega
   have:=B71 (b:=s.bk) (n:=(s.sc.c.S:Int)) (by omega) h5
   show(Ad4 s.bk (s.cost 1)).tokens=_
   rw[hc,this];simp
 dsimp only
 generalize s.seals=w at s1 s2 s3 s4 s5 s6 s7 htk
 split
 ·rename_i h0
  exact⟨s1,fun he=>absurd he h0,s7⟩
 rename_i h0
 have h0:w.2=0:=by simpa using h0
 have hfr:w.1.free≠0:=by
  unfold Sto.free at hfree⊢
  rw[s5,s4];exact hfree
 have htk:=htk h0
 obtain⟨z,hz,z1,z2,z3,z4,z5,z6⟩:=s1.picks (s2 h0) s3 hfr
 rw[<-hz]
 clear hz
 generalize E9 w.1.ss w.1.us=pk at z6
 split
 ·rename_i hz0
  exact⟨z1,fun he=>absurd he hz0,z5.trans s7⟩
 rename_i hz0
 obtain⟨y1,y2,y3,y4,y5⟩:=z6 (by simpa using hz0)
 have hg1:Z3 z.1.ss<=Z3 s.ss:=by rw[s5]at y3;exact y3
 have hu1:z.1.us.length=s.us.length:=by rw[y2,s4]
 have hsn:0<=s.sealN*(s.sc.c.S:Int):=Int.mul_nonneg (by unfold Sto.sealN;split<;>decide) (by omega)
 have ht1:z.1.bk.tokens<=s.bk.tokens:=by rw[z3,htk];omega
 have ht0:=z1.bk.t0
 split
 ·rename_i hbd
  have hg2:=y4 hbd
  rw[s5]at hg2
  refine⟨z1,fun _=>⟨y1,?_⟩,z5.trans s7⟩
  show z.1.mu2<s.mu2
  unfold Sto.mu2
  omega
 rename_i hbd
 obtain⟨f1,f2⟩:=y5 hbd
 have hep2:z.1.epoch<1073741824:=by rw[z4,s6];omega
 obtain⟨b1,b2⟩:=z1.begins y1 z2 hep2 f1
 have hbsc:(z.1.begins pk.2.2).1.sc=z.1.sc:=by unfold Sto.begins;dsimp only;split<;>rfl
 have hbss:(z.1.begins pk.2.2).1.ss=z.1.ss:=by unfold Sto.begins;dsimp only;split<;>rfl
 have hbtk:(z.1.begins pk.2.2).1.bk.tokens=z.1.bk.tokens-(s.sc.c.S:Int):=by
  have hc:z.1.cost 1=(s.sc.c.S:Int):=by unfold Sto.cost;rw[z5,s7];omega
  have h5:(s.sc.c.S:Int)<=z.1.bk.tokens:=by
   rw[z3,htk]
   rw[Int.add_mul,Int.add_mul]at hpay
   have:0<=n*(s.sc.c.S:Int):=Int.mul_nonneg hn (by omega)
   omega
  have:=B71 (b:=z.1.bk) (n:=(s.sc.c.S:Int)) (by omega) h5
  rw[<-hc]at this
  have e:(z.1.begins pk.2.2).1.bk=Ad4 z.1.bk (z.1.cost 1):=by unfold Sto.begins;dsimp only;split<;>rfl
  rw[e,this,hc]
 generalize z.1.begins pk.2.2=y at b1 b2 hbsc hbss hbtk
 split
 ·rename_i hy0
  exact⟨b1,fun he=>absurd he hy0,hbsc.trans (z5.trans s7)⟩
 rename_i hy0
 obtain⟨c1,c2⟩:=b2 (by simpa using hy0)
 obtain⟨d1,d2,d3⟩:=SOk.frees (n:=n) (y.1.rs.length+1) b1 c1
 refine⟨d1,fun he=>?_,d3.trans (hbsc.trans (z5.trans s7))⟩
 have hl:=d2 he
 refine⟨hl.dn,?_⟩
 unfold Sto.mu2
 have l1:=hl.us
 have l2:=hl.gd
 have l3:=hl.tk
 have l4:=d1.bk.t0
 rw[c2,List.length_append]at l1
 rw[hbss]at l2
 simp at l1
 omega
theorem T6(n:Int)(k:Nat)(s:Sto):Sto.room n (k+1) s=if s.fits n=true then(if s.pays n=true then(s,0)else(s,13))else if(s.more n).2≠0 then s.more n else Sto.room n k (s.more n).1:=rfl
theorem Bf6{n:Int}(hn:0<=n)(k:Nat): ∀{s:Sto} {M:Nat},SOk s M->s.down=false->s.mu2<k->Sto.room n k s=Sto.room n (s.mu2+1) s:=by
 induction k using Nat.strongRecOn with
 |ind k ih=>
  intro s M h hd hk
  obtain⟨j,rfl⟩: ∃j,k=j+1:=⟨k-1,by omega⟩
  rw[T6 n j s,T6 n s.mu2 s]
  by_cases hf:s.fits n=true
  ·rw[if_pos hf,if_pos hf]
  ·rw[if_neg hf,if_neg hf]
   by_cases h0:(s.more n).2≠0
   ·rw[if_pos h0,if_pos h0]
   ·rw[if_neg h0,if_neg h0]
    obtain⟨h1,h2,-⟩:=h.more hd hn
    obtain⟨a1,a2⟩:=h2 (by simpa using h0)
    rw[ih j (by omega) h1 a1 (by omega),ih s.mu2 (by omega) h1 a1 a2]
theorem mu_le(s:Sto):s.mu2<=s.mu:=by
 unfold Sto.mu2 Sto.mu
 have:Z3 s.ss<=s.ss.length:=C42 _ _
 omega
theorem Cq6{n:Int}(hn:0<=n){s:Sto}{M:Nat}(h:SOk s M)(hd:s.down=false):s.roomy n=Sto.room n (s.mu2+1) s:=Bf6 hn _ h hd (by have:=mu_le s;omega)
theorem SOk.room{n:Int}(hn:0<=n): ∀(k:Nat) {s:Sto} {M:Nat},SOk s M->s.down=false->SOk (Sto.room n k s).1 M/\((Sto.room n k s).2=0->(Sto.room n k s).1.down=false/\(Sto.room n k s).1.fits n=true)/\(Sto.room n k s).1.sc=s.sc
 |0,s,M,h,hd=>⟨h,fun he=>absurd (show(13:Int)=0 from he) (by decide),rfl⟩
 |k+1,s,M,h,hd=>by
  unfold Sto.room
  split
  ·rename_i hf
   split
   ·exact⟨h,fun _=>⟨hd,hf⟩,rfl⟩
   ·exact⟨h,fun he=>absurd (show(13:Int)=0 from he) (by decide),rfl⟩
  ·dsimp only
   obtain⟨h1,h2,h3⟩:=h.more hd hn
   split
   ·rename_i h0
    exact⟨h1,fun he=>absurd he h0,h3⟩
   ·rename_i h0
    obtain⟨b1,b2,b3⟩:=SOk.room hn k h1 (h2 (by simpa using h0)).1
    exact⟨b1,b2,b3.trans h3⟩
theorem A52(n:Int)(k:Nat)(s:Sto):Sto.frees n (k+1) s=if s.free=0 then(match s.rs with
 |[]=>(s,0)
 |h::_=>if(s.reclaim h n).2≠0 then s.reclaim h n else Sto.frees n k (s.reclaim h n).1)else(s,0):=rfl
theorem C01(s:Sto):s.us.length=s.rs.length+(if s.op.isSome=true then 1 else 0):=by
 unfold Sto.us
 rw[List.length_append,List.length_map]
 cases s.op<;>rfl
theorem bad_eq{d:Dev}{b:Int}(hb:0<=b)(hl:b.toNat<d.bs.length):Bc5 d b=(match d.bs[b.toNat]? with|some k=>k.bad|none=>false):=by
 unfold Bc5 G3
 rw[if_pos (by omega)]
 cases d.bs[b.toNat]?<;>rfl
theorem B85(p:SP)(s:Sto)(g:SG)(X:SX p s g){M:Nat}(h:SOk s M)(hM:M<=1000000000)(hd:s.down=false)(R:A4)(hT:Tab R)(n:Int)(hn:0<=n/\n<=1000){L J:A4}(hp:L.Perm (SL p s g++(J++R))){K:Value->HP}(hK: ∀v L',HL.Ends (SK p (Sto.frees n (s.rs.length+1) s) R) v L'->K v L'):
  lp [] () (fun z1 go1=>ld ⟨p.n,12,none⟩ (.lf .ptr) fun v6=>cl PP 185 #[.q v6] [lI] fun r10=>ifB (decide ((r10.1:Int)=0)) (
   cl PP 186 #[.q (some ⟨p.n,11,none⟩)] [.lf .ptr] fun r11=>ifB (Option.isNone r11.1) (K (.i 0)) (
    cl PP 187 #[.q (some ⟨p.n,0,none⟩),.q r11.1,.i n] [lI] fun r12=>ifB (decide ((r12.1:Int)=0)) (go1 ()) (K (.i r12.1)))) (K (.i 0))) L:=by
 refine G0 (fun z' z L'=> ∃(cur:Sto) (g':SG) (J:A4),z'=cur.rs.length/\SOk cur M/\cur.down=false/\SX p cur g'/\Sto.frees n (s.rs.length+1) s=Sto.frees n (cur.rs.length+1) cur/\L'.Perm (SL p cur g'++(J++R))) s.rs.length ⟨s,g,J,rfl,h,hd,X,rfl,hp⟩ ?_
 rintro z' z L1 ⟨cur,g',J,rfl,hc,hcd,X',heq,hp1⟩
 dsimp only
 rw[heq]at hK
 have fin: ∀{L2:A4} {J2:A4},L2.Perm (SL p cur g'++(J2++R))->Sto.frees n (cur.rs.length+1) cur=(cur,0)->K (.i 0) L2:=fun{L2 J2} hp2 he=>by
  refine hK _ _ ?_
  rw[he]
  exact .drop (A:=SL p cur g'++R) (J:=J2) ⟨g',rfl,X',rfl⟩ (pc fun z=>by have:=pcn hp2 z;simp only[B4]at*;omega)
 rw[A52]at fin hK
 refine A6 (some ⟨p.nb,0,none⟩) (E8 (SL.st hp1) rfl) ?_
 refine B7 (Reads.has (SL.b hp1) (Bm3 p.nb cur.ss cur.us g'.Ab X'.blk)) (cur.free,()) rfl ?_
 refine B8 (fun(h0:cur.free=0)=>?_) (fun(h0: ¬cur.free=0)=>fin hp1 (by rw[if_neg h0]))
 rw[if_pos h0]at fin hK
 refine B7 (A32 hp1 X' hc.use.1) ((match g'.ns with|[]=>none|x::_=>x.ptr),()) rfl ?_
 have hrs:=X'.rs
 cases hns:g'.ns with
 |nil=>
  rw[hns]at hrs
  exact ifT rfl (fin hp1 (by rw[<-hrs];rfl))
 |cons x t=>
  rw[hns]at hrs
  refine ifF rfl ?_
  have hT2:Tab (J++R):=hT.mono fun y hy=>by simp[hy]
  refine Ar6 (Av2 p cur g' X' hc hM hcd (J++R) hT2 x t hns n hn) hp1 ?_
  rintro _ _ ⟨g2,rfl,X2,rfl⟩
  refine⟨((cur.reclaim x.r n).2,()),rfl,?_⟩
  have hrs':cur.rs=x.r::t.map RN.r:=hrs.symm
  obtain⟨k1,k2,k3⟩:=hc.reclaim hcd hrs' n
  rw[hrs']at hK
  dsimp only at hK
  refine B8 (fun(h1:(cur.reclaim x.r n).2=0)=>?_) (fun(h1: ¬(cur.reclaim x.r n).2=0)=>?_)
  ·obtain⟨a1,a2,a3,a4,a5⟩:=k2 h1
   rw[C01,C01,a5]at a2
   have hl:(cur.reclaim x.r n).1.rs.length+1=cur.rs.length:=by omega
   refine⟨(cur.reclaim x.r n).1.rs.length,by omega,_,g2,J,rfl,k1,a1,X2,?_,List.Perm.refl _⟩
   rw[heq,A52,if_pos h0,hrs']
   dsimp only
   rw[if_neg (by simpa using h1),<-hrs',hl]
  ·rw[if_pos (by simpa using h1)]at hK
   exact hK _ _ (.drop (A:=SL p (cur.reclaim x.r n).1 g2++R) (J:=J) ⟨g2,rfl,X2,rfl⟩ (pc fun z=>by simp only[B4];omega))
theorem Cp4(p:SP)(s:Sto)(g:SG)(X:SX p s g){M:Nat}(h:SOk s M)(hM:M<=1000000000)(hd:s.down=false)(R:A4)(hT:Tab R)(n:Int)(hn:0<=n/\n<=1000):
  CallF PP 127 #[.q (some ⟨p.n,0,none⟩),.i n] (SL p s g++R) (SK p (s.more n) R):=by
 refine c127 (some ⟨p.n,0,none⟩) n ?_
 unfold s127
 have hS:=h.S
 have hp0:(SL p s g++R).Perm (SL p s g++R):=List.Perm.refl _
 refine W7 (fun(y:RsV [lI]) L'=>y=(s.sealN,())/\L'=SL p s g++R) ?_ ?_
 ·rintro _ _ ⟨rfl,rfl⟩
  dsimp only
  refine A5 rfl (C3 fun n1 _=>?_)
  obtain⟨c1,hc1⟩: ∃c1:Nat×Obj,c1=(n1,Obj.cells #[.i n,.i 1,.i s.sealN] 3):=⟨_,rfl⟩
  rw[<-hc1]
  have hp1:(c1::(SL p s g++R)).Perm (SL p s g++(c1::R)):=pc fun z=>by simp only[B4,C6];omega
  have hsn:0<=s.sealN/\s.sealN<=1:=by unfold Sto.sealN;split<;>decide
  have hm1:(n1,Obj.cells (ivs .i64 [n,1,s.sealN]).toArray 3)∈c1::(SL p s g++R):=by rw[hc1];exact List.mem_cons_self
  have hsum: ∀y∈[n,1,s.sealN],0<=y/\y<=(1000000:Nat):=fun y hy=>by
   simp at hy
   rcases hy with rfl|rfl|rfl<;>omega
  have hs2:[n,1,s.sealN].sum=n+1+s.sealN:=by simp;omega
  refine B7 (Bp7 hp1 X hS.2 ⟨some ⟨n1,0,none⟩,3,3⟩ [n,1,s.sealN] (ISl.const (l:=[n,1,s.sealN]) 3 (by simp) hm1) (by simp) hsum) (s.pays (n+1+s.sealN),()) (by rw[hs2];rfl) ?_
  have hmore:s.more n=(if s.pays (n+1+s.sealN)=false then(s,13)else if s.epoch≥1073741824 then(s,7)else if s.free=0 then(match s.rs with
    |[]=>(s,7)
    |h::_=>s.reclaim h n)else if s.seals.2≠0 then s.seals else
   if(if(E9 s.seals.1.ss s.seals.1.us).2.1.dirty then s.seals.1.erase (E9 s.seals.1.ss s.seals.1.us).2.2 else(s.seals.1,0)).2≠0 then(if(E9 s.seals.1.ss s.seals.1.us).2.1.dirty then s.seals.1.erase (E9 s.seals.1.ss s.seals.1.us).2.2 else(s.seals.1,0))else
   if(E9 s.seals.1.ss s.seals.1.us).2.1.dirty=true/\(if(E9 s.seals.1.ss s.seals.1.us).2.1.dirty then s.seals.1.erase (E9 s.seals.1.ss s.seals.1.us).2.2 else(s.seals.1,0)).1.badAt (E9 s.seals.1.ss s.seals.1.us).2.2=true then((if(E9 s.seals.1.ss s.seals.1.us).2.1.dirty then s.seals.1.erase (E9 s.seals.1.ss s.seals.1.us).2.2 else(s.seals.1,0)).1,0)else
   if((if(E9 s.seals.1.ss s.seals.1.us).2.1.dirty then s.seals.1.erase (E9 s.seals.1.ss s.seals.1.us).2.2 else(s.seals.1,0)).1.begins (E9 s.seals.1.ss s.seals.1.us).2.2).2≠0 then(if(E9 s.seals.1.ss s.seals.1.us).2.1.dirty then s.seals.1.erase (E9 s.seals.1.ss s.seals.1.us).2.2 else(s.seals.1,0)).1.begins (E9 s.seals.1.ss s.seals.1.us).2.2 else
   Sto.frees n (((if(E9 s.seals.1.ss s.seals.1.us).2.1.dirty then s.seals.1.erase (E9 s.seals.1.ss s.seals.1.us).2.2 else(s.seals.1,0)).1.begins (E9 s.seals.1.ss s.seals.1.us).2.2).1.rs.length+1) ((if(E9 s.seals.1.ss s.seals.1.us).2.1.dirty then s.seals.1.erase (E9 s.seals.1.ss s.seals.1.us).2.2 else(s.seals.1,0)).1.begins (E9 s.seals.1.ss s.seals.1.us).2.2).1):=rfl
  obtain⟨L1,hL1⟩: ∃L1,L1=c1::(SL p s g++R):=⟨_,rfl⟩
  rw[<-hL1]at hp1⊢
  have fin: ∀(e:Int),s.more n=(s,e)->HL.Ends (SK p (s.more n) R) (.i e) L1:=fun e he=>by
   rw[he]
   exact .drop (A:=SL p s g++R) (J:=[c1]) ⟨g,rfl,X,rfl⟩ (pc fun z=>by have:=pcn hp1 z;simp only[B4,C6,D8]at*;omega)
  refine G7 (fun hpy=>?_) (fun hpy=>fin 13 (by rw[hmore,if_pos hpy]))
  rw[if_neg (by rw[show s.pays (n+1+s.sealN)=true from hpy];decide)]at hmore
  refine A6 s.epoch (E8 (SL.st hp1) rfl) ?_
  refine B8 (fun(hep:s.epoch≥1073741824)=>fin 7 (by rw[hmore,if_pos hep])) (fun(hep: ¬s.epoch≥1073741824)=>?_)
  rw[if_neg hep]at hmore
  refine A6 (some ⟨p.nb,0,none⟩) (E8 (SL.st hp1) rfl) ?_
  refine B7 (Reads.has (SL.b hp1) (Bm3 p.nb s.ss s.us g.Ab X.blk)) (s.free,()) rfl ?_
  have hT2:Tab (c1::R):=hT.cons
  refine B8 (fun(h0:s.free=0)=>?_) (fun(h0: ¬s.free=0)=>?_)
  ·rw[if_pos h0]at hmore
   refine B7 (A32 hp1 X h.use.1) ((match g.ns with|[]=>none|x::_=>x.ptr),()) rfl ?_
   have hrs:=X.rs
   cases hns:g.ns with
   |nil=>
    rw[hns]at hrs
    exact ifT rfl (fin 7 (by rw[hmore,<-hrs];rfl))
   |cons x t=>
    rw[hns]at hrs
    refine ifF rfl ?_
    have hrs':s.rs=x.r::t.map RN.r:=hrs.symm
    rw[hrs']at hmore
    dsimp only at hmore
    refine Ar6 (Av2 p s g X h hM hd (c1::R) hT2 x t hns n hn) hp1 ?_
    rintro _ _ ⟨g2,rfl,X2,rfl⟩
    rw[hmore]
    exact⟨((s.reclaim x.r n).2,()),rfl,.drop (A:=SL p (s.reclaim x.r n).1 g2++R) (J:=[c1]) ⟨g2,rfl,X2,rfl⟩ (pc fun z=>by simp only[B4,C6,D8];omega)⟩
  ·rw[if_neg h0]at hmore
   obtain⟨s1,s2,s3,s4,s5,s6,s7⟩:=h.seals hd
   refine G5 (Co9 p s g X hS.2 h.bk (h.dg 1 (by decide)) (fun o ho=>by have:=(h.it o (.inr ho)).1;omega)) hp1 ?_
   rintro _ _ ⟨g2,hL2,X2,rfl⟩
   rw[List.append_nil]at hL2
   rw[hL2]
   refine⟨_,List.Perm.refl _,(s.seals.2,()),rfl,?_⟩
   dsimp only
   generalize s.seals=w at s1 s2 s3 s4 s5 s6 s7 X2 hmore
   have hp2:(SL p w.1 g2++c1::R).Perm (SL p w.1 g2++c1::R):=List.Perm.refl _
   refine B8 (fun(h1:w.2=0)=>?_) (fun(h1: ¬w.2=0)=>?_)
   ·rw[if_neg (by simpa using h1)]at hmore
    have hfr:w.1.free≠0:=by
     unfold Sto.free at h0⊢
     rw[s5,s4];exact h0
    obtain⟨z,hz,z1,z2,z3,z4,z5,z6⟩:=s1.picks (s2 h1) s3 hfr
    have hpf:=Al9 hfr
    rw[<-hz]at hmore
    refine A6 (some ⟨p.nb,0,none⟩) (E8 (SL.st hp2) rfl) ?_
    refine B7 (Reads.has (SL.b hp2) (Cy2 p.nb w.1.ss w.1.us g2.Ab X2.blk)) ((E9 w.1.ss w.1.us).2.2,(E9 w.1.ss w.1.us).2.1.dirty,(E9 w.1.ss w.1.us).1,()) rfl ?_
    dsimp only
    generalize E9 w.1.ss w.1.us=pk at hz z6 hmore hpf
    obtain⟨q1,q2⟩:=H9 hpf.1
    obtain⟨q3,q4,q5⟩:=M8 q1
    refine W7 (fun _ L'=>z.2=0/\ ¬(pk.2.1.dirty=true/\z.1.badAt pk.2.2=true)/\ ∃g3,SX p z.1 g3/\L'.Perm (SL p z.1 g3++(c1::R))) ?_ ?_
    ·rintro _ L3 ⟨hz0,hnb,g3,X3,hp3⟩
     obtain⟨y1,y2,y3,y4,y5⟩:=z6 hz0
     obtain⟨f1,f2⟩:=y5 hnb
     rw[if_neg (by simpa using hz0),if_neg hnb]at hmore
     have hep2:z.1.epoch<1073741824:=by rw[z4,s6];omega
     obtain⟨b1,b2⟩:=z1.begins y1 z2 hep2 f1
     refine G5 (B91 p z.1 g3 X3 z1.S.2 z1.bk (z1.dg 1 (by decide)) z2 z1.ep (by have:=z1.usl;omega) pk.2.2 f2 (H9 f1).2) hp3 ?_
     rintro _ _ ⟨g4,hL4,X4,rfl⟩
     rw[List.append_nil]at hL4
     rw[hL4]
     refine⟨_,List.Perm.refl _,((z.1.begins pk.2.2).2,()),rfl,?_⟩
     dsimp only
     generalize z.1.begins pk.2.2=y at b1 b2 X4 hmore
     refine B8 (fun(h2:y.2=0)=>?_) (fun(h2: ¬y.2=0)=>?_)
     ·rw[if_neg (by simpa using h2)]at hmore
      rw[hmore]
      exact B85 p y.1 g4 X4 b1 hM (b2 h2).1 R hT n hn (J:=[c1]) (List.Perm.refl _) fun _ _ hk=>hk
     ·rw[if_pos (by simpa using h2)]at hmore
      rw[hmore]
      exact .drop (A:=SL p y.1 g4++R) (J:=[c1]) ⟨g4,rfl,X4,rfl⟩ (pc fun z=>by simp only[B4,C6,D8];omega)
    ·intro j2 hj2
     refine G7 (fun(hdi:pk.2.1.dirty=true)=>?_) (fun(hdi:pk.2.1.dirty=false)=>?_)
     ·rw[if_pos hdi]at hz
      refine G5 (Be9 p w.1 g2 X2 s1.dv (fun y hy=>by have:=s1.sw y hy;omega) s1.use.1 pk.2.2 (fun o ho=>by rw[s3]at ho;cases ho) (fun hb=>by rw[q1]at hb;cases hb)) hp2 ?_
      rw[<-hz]
      rintro _ _ ⟨g3,hL3,X3,rfl⟩
      rw[List.append_nil]at hL3
      rw[hL3]
      refine⟨_,List.Perm.refl _,(z.2,()),rfl,?_⟩
      have hp3:(SL p z.1 g3++c1::R).Perm (SL p z.1 g3++c1::R):=List.Perm.refl _
      dsimp only
      refine B8 (fun(hz0:z.2=0)=>?_) (fun(hz0: ¬z.2=0)=>?_)
      ·refine A6 (some ⟨p.m,0,none⟩) (E8 (SL.st hp3) rfl) ?_
       refine B7 (Reads.has (SL.d hp3) (C43 p.m z.1.d g3.Ad X3.dev z1.dv pk.2.2)) (Bc5 z.1.d pk.2.2,()) rfl ?_
       have hbl:pk.2.2.toNat<z.1.d.bs.length:=by
        have h1:=z1.dv.len
        have h2:=s1.dv.len
        have h3:=s1.ssl
        have h4:z.1.d.c=w.1.d.c:=by rw[z1.cfg,s1.cfg,z5]
        rw[h4]at h1
        omega
       have hbe:Bc5 z.1.d pk.2.2=z.1.badAt pk.2.2:=bad_eq q3 hbl
       rw[hbe]
       refine G7 (fun hb=>?_) (fun hb=>hj2 _ _ ⟨hz0,fun hh=>by rw[show z.1.badAt pk.2.2=false from hb]at hh;exact absurd hh.2 (by decide),g3,X3,hp3⟩)
       rw[if_neg (by simpa using hz0),if_pos ⟨hdi,hb⟩]at hmore
       rw[hmore,hz0]
       exact .drop (A:=SL p z.1 g3++R) (J:=[c1]) ⟨g3,rfl,X3,rfl⟩ (pc fun z=>by simp only[B4,C6,D8];omega)
      ·rw[if_pos (by simpa using hz0)]at hmore
       rw[hmore]
       exact .drop (A:=SL p z.1 g3++R) (J:=[c1]) ⟨g3,rfl,X3,rfl⟩ (pc fun z=>by simp only[B4,C6,D8];omega)
     ·rw[if_neg (by rw[hdi];decide)]at hz
      have hzw:z.1=w.1:=by rw[hz]
      exact hj2 _ _ ⟨by rw[hz],fun hh=>by rw[hdi]at hh;exact absurd hh.1 (by decide),g2,by rw[hzw];exact X2,by rw[hzw]⟩
   ·rw[if_pos (by simpa using h1)]at hmore
    rw[hmore]
    exact .drop (A:=SL p w.1 g2++R) (J:=[c1]) ⟨g2,rfl,X2,rfl⟩ (pc fun z=>by simp only[B4,C6,D8];omega)
 ·intro j1 hj1
  refine A5 rfl (A6 (onp g.on) (E8 (SL.st hp0) rfl) ?_)
  have hop:=X.op
  cases hon:g.on with
  |none=>
   rw[hon]at hop
   exact ifT rfl (hj1 _ _ ⟨by unfold Sto.sealN;rw[<-hop];rfl,rfl⟩)
  |some x=>
   rw[hon]at hop
   exact ifF rfl (hj1 _ _ ⟨by unfold Sto.sealN;rw[<-hop];rfl,rfl⟩)
theorem Bt8(p:SP)(s:Sto)(g:SG)(X:SX p s g){M:Nat}(h:SOk s M)(hM:M<=1000000000)(hd:s.down=false)(R:A4)(hT:Tab R)(n:Int)(hn:0<=n/\n<=1000):
  CallF PP 61 #[.q (some ⟨p.n,0,none⟩),.i n] (SL p s g++R) (SK p (s.roomy n) R):=by
 refine c61 (some ⟨p.n,0,none⟩) n ?_
 unfold s61
 rw[Cq6 hn.1 h hd]
 refine G0 (fun z' z L'=> ∃(cur:Sto) (g':SG) (J:A4),z'=cur.mu2/\SOk cur M/\cur.down=false/\SX p cur g'/\Sto.room n (s.mu2+1) s=Sto.room n (cur.mu2+1) cur/\L'.Perm (SL p cur g'++(J++R))) s.mu2 ⟨s,g,[],rfl,h,hd,X,rfl,List.Perm.refl _⟩ ?_
 rintro z' z L1 ⟨cur,g',J,rfl,hc,hcd,X',heq,hp1⟩
 dsimp only
 rw[heq,T6]
 have hS:=hc.S
 have hmem: ∀y∈[n],0<=y/\y<=(1000000:Nat):=fun y hy=>by rw[List.mem_singleton.1 hy];omega
 have hs1:[n].sum=n:=by simp
 refine A5 rfl (C3 fun n1 _=>?_)
 obtain⟨c1,hc1⟩: ∃c1:Nat×Obj,c1=(n1,Obj.cells #[.i n] 3):=⟨_,rfl⟩
 rw[<-hc1]
 have hp2:(c1::L1).Perm (SL p cur g'++((c1::J)++R)):=pc fun z=>by have:=pcn hp1 z;simp only[B4,C6]at*;omega
 have hm1:(n1,Obj.cells (ivs .i64 [n]).toArray 3)∈c1::L1:=by rw[hc1];exact List.mem_cons_self
 refine B7 (Ch7 hp2 X' (fun o ho=>by have:=hc.op o ho;omega) ⟨some ⟨n1,0,none⟩,1,1⟩ [n] (ISl.const (l:=[n]) 1 (by simp) hm1) (by simp) hmem) (cur.fits n,()) (by rw[hs1];rfl) ?_
 refine G7 (fun hf=>?_) (fun hf=>?_)
 ·rw[if_pos hf]
  refine C3 fun n2 _=>?_
  obtain⟨c2,hc2⟩: ∃c2:Nat×Obj,c2=(n2,Obj.cells #[.i n] 3):=⟨_,rfl⟩
  rw[<-hc2]
  have hp3:(c2::(c1::L1)).Perm (SL p cur g'++((c2::(c1::J))++R)):=pc fun z=>by have:=pcn hp2 z;simp only[B4,C6]at*;omega
  have hm2:(n2,Obj.cells (ivs .i64 [n]).toArray 3)∈c2::(c1::L1):=by rw[hc2];exact List.mem_cons_self
  refine B7 (Bp7 hp3 X' hS.2 ⟨some ⟨n2,0,none⟩,1,1⟩ [n] (ISl.const (l:=[n]) 1 (by simp) hm2) (by simp) hmem) (cur.pays n,()) (by rw[hs1];rfl) ?_
  refine G7 (fun hpy=>?_) (fun hpy=>?_)
  ·rw[if_pos hpy]
   exact .drop (A:=SL p cur g'++R) (J:=c2::(c1::J)) ⟨g',rfl,X',rfl⟩ (pc fun z=>by have:=pcn hp3 z;simp only[B4,C6]at*;omega)
  ·rw[if_neg (by rw[show cur.pays n=false from hpy];decide)]
   exact .drop (A:=SL p cur g'++R) (J:=c2::(c1::J)) ⟨g',rfl,X',rfl⟩ (pc fun z=>by have:=pcn hp3 z;simp only[B4,C6]at*;omega)
 ·rw[if_neg (by rw[show cur.fits n=false from hf];decide)]
  have hT2:Tab ((c1::J)++R):=hT.mono fun y hy=>by simp[hy]
  refine Ar6 (Cp4 p cur g' X' hc hM hcd ((c1::J)++R) hT2 n hn) hp2 ?_
  rintro _ _ ⟨g2,rfl,X2,rfl⟩
  refine⟨((cur.more n).2,()),rfl,?_⟩
  obtain⟨k1,k2,k3⟩:=hc.more hcd hn.1
  refine B8 (fun(h0:(cur.more n).2=0)=>?_) (fun(h0: ¬(cur.more n).2=0)=>?_)
  ·obtain⟨a1,a2⟩:=k2 h0
   refine⟨(cur.more n).1.mu2,a2,(cur.more n).1,g2,c1::J,rfl,k1,a1,X2,?_,List.Perm.refl _⟩
   rw[if_neg (by simpa using h0)]
   exact Bf6 hn.1 _ k1 a1 a2
  ·rw[if_pos (by simpa using h0)]
   exact .drop (A:=SL p (cur.more n).1 g2++R) (J:=c1::J) ⟨g2,rfl,X2,rfl⟩ (pc fun z=>by simp only[B4,C6];omega)
theorem n11{e:Int}(h: ¬e≠0):e≠11:=fun h2=>h (by rw[h2];decide)
theorem Cd6(s:Sto){e:Int}(h:e≠11):(s.met e).down=s.down:=by unfold Sto.met;simp[h]
theorem At0(s:Sto)(kind:Int)(l:List (List UInt8))(h:(s.write kind l).2.2≠11):(s.write kind l).1.down=s.down:=by
 unfold Sto.write at h⊢
 split
 ·rfl
 ·rename_i o ho
  rw[ho]at h
  dsimp only at h⊢
  split
  ·rename_i h0
   rw[if_pos h0]at h
   exact Cd6 _ h
  ·rfl
theorem Bu8(s:Sto)(h:s.seals.2≠11):s.seals.1.down=s.down:=by
 unfold Sto.seals at h⊢
 split
 ·rfl
 ·rename_i o ho
  rw[ho]at h
  exact Cd6 _ h
theorem Bm4(s:Sto)(b:Int)(h:(s.begins b).2≠11):(s.begins b).1.down=s.down:=by
 unfold Sto.begins at h⊢
 dsimp only at h⊢
 split
 ·rename_i h0
  rw[if_pos h0]at h
  exact Cd6 _ h
 ·rfl
theorem By6(s:Sto)(b:Int)(h:(s.erase b).2≠11):(s.erase b).1.down=s.down:=by
 unfold Sto.erase at h⊢
 dsimp only at h⊢
 split
 ·rename_i h0
  rw[if_pos h0]at h
  exact absurd rfl h
 ·rfl
theorem Cd0(s:Sto)(p:It)(n beside:Int)(h:(s.move p n beside).2≠11):(s.move p n beside).1.down=s.down:=by
 unfold Sto.move at h⊢
 dsimp only at h⊢
 split
 ·rfl
 ·rename_i h1
  rw[if_neg h1]at h
  split
  ·rfl
  ·rename_i h2
   rw[if_neg h2]at h
   split
   ·rfl
   ·rename_i h3
    rw[if_neg h3]at h
    split
    ·rename_i h4
     exact At0 s _ _ (by rw[h4];decide)
    ·rename_i h4
     rw[if_neg h4]at h
     exact At0 s _ _ h
theorem At8(b ep beside:Int): ∀(l:List It) (s:Sto),(Sto.moves b ep beside l s).2≠11->(Sto.moves b ep beside l s).1.down=s.down
 |[],s,_=>rfl
 |x::r,s,h=>by
  unfold Sto.moves at h⊢
  split
  ·rename_i hx
   rw[if_pos hx]at h
   exact At8 b ep beside r s h
  ·rename_i hx
   rw[if_neg hx]at h
   dsimp only at h⊢
   split
   ·rename_i h0
    rw[if_pos h0]at h
    exact Cd0 _ _ _ _ h
   ·rename_i h0
    rw[if_neg h0]at h
    rw[At8 b ep beside r _ h]
    exact Cd0 _ _ _ _ (n11 h0)
theorem Ao6(s:Sto)(r:Reg)(beside:Int)(h:(s.reclaim r beside).2≠11):(s.reclaim r beside).1.down=s.down:=by
 unfold Sto.reclaim at h⊢
 dsimp only at h⊢
 split
 ·rename_i h0
  rw[if_pos h0]at h
  exact At8 _ _ _ _ _ h
 ·rename_i h0
  rw[if_neg h0]at h
  rw[By6 _ _ h]
  exact At8 _ _ _ _ _ (n11 h0)
theorem Bx8(n:Int): ∀(k:Nat) (s:Sto),(Sto.frees n k s).2≠11->(Sto.frees n k s).1.down=s.down
 |0,s,_=>rfl
 |k+1,s,h=>by
  unfold Sto.frees at h⊢
  split
  ·rename_i hf
   rw[if_pos hf]at h
   cases hr:s.rs with
   |nil=>rfl
   |cons r t=>
    rw[hr]at h
    dsimp only at h⊢
    split
    ·rename_i h0
     rw[if_pos h0]at h
     exact Ao6 _ _ _ h
    ·rename_i h0
     rw[if_neg h0]at h
     rw[Bx8 n k _ h]
     exact Ao6 _ _ _ (n11 h0)
  ·rfl
theorem Cd1(s:Sto)(n:Int)(h:(s.more n).2≠11):(s.more n).1.down=s.down:=by
 unfold Sto.more at h⊢
 split
 ·rfl
 ·rename_i h1
  rw[if_neg h1]at h
  split
  ·rfl
  ·rename_i h2
   rw[if_neg h2]at h
   split
   ·rename_i h3
    rw[if_pos h3]at h
    cases hr:s.rs with
    |nil=>rfl
    |cons r t=>
     rw[hr]at h
     exact Ao6 _ _ _ h
   ·rename_i h3
    rw[if_neg h3]at h
    dsimp only at h⊢
    split
    ·rename_i h4
     rw[if_pos h4]at h
     exact Bu8 _ h
    ·rename_i h4
     rw[if_neg h4]at h
     have e0:=Bu8 s (n11 h4)
     generalize s.seals=w at h e0
     have ez: ∀z:Sto×Int,z=(if(E9 w.1.ss w.1.us).2.1.dirty=true then w.1.erase (E9 w.1.ss w.1.us).2.2 else(w.1,0))->z.2≠11->z.1.down=s.down:=fun z hz hn=>by
      subst hz
      split
      ·rename_i hd
       rw[if_pos hd]at hn
       rw[By6 _ _ hn];exact e0
      ·exact e0
     have ez:=ez _ rfl
     generalize (if(E9 w.1.ss w.1.us).2.1.dirty=true then w.1.erase (E9 w.1.ss w.1.us).2.2 else(w.1,0))=z at h ez
     split
     ·rename_i h5
      rw[if_pos h5]at h
      exact ez h
     ·rename_i h5
      rw[if_neg h5]at h
      have ez:=ez (n11 h5)
      split
      ·exact ez
      ·rename_i h6
       rw[if_neg h6]at h
       split
       ·rename_i h7
        rw[if_pos h7]at h
        rw[Bm4 _ _ h];exact ez
       ·rename_i h7
        rw[if_neg h7]at h
        rw[Bx8 _ _ _ h,Bm4 _ _ (n11 h7)]
        exact ez
theorem A75(n:Int): ∀(k:Nat) (s:Sto),(Sto.room n k s).2≠11->(Sto.room n k s).1.down=s.down
 |0,s,_=>rfl
 |k+1,s,h=>by
  rw[T6]at h⊢
  split
  ·split<;>rfl
  ·rename_i hf
   rw[if_neg hf]at h
   split
   ·rename_i h0
    rw[if_pos h0]at h
    exact Cd1 _ _ h
   ·rename_i h0
    rw[if_neg h0]at h
    rw[A75 n k _ h]
    exact Cd1 _ _ (n11 h0)
theorem Db7(s:Sto)(key:ByteArray)(p:It):(s.list key p).down=s.down:=rfl
theorem Aa7(s:Sto)(key:ByteArray)(val:List UInt8)(h:(s.adm key val).2≠11):(s.adm key val).1.down=s.down:=by
 unfold Sto.adm at h⊢
 dsimp only at h⊢
 split
 ·rfl
 ·rename_i h1
  rw[if_neg h1]at h
  split
  ·rename_i h2
   rw[if_pos h2]at h
   exact A75 _ _ _ h
  ·rename_i h2
   rw[if_neg h2]at h
   have er:=A75 _ _ _ (n11 h2)
   split
   ·rename_i h3
    rw[Db7,At0 _ _ _ (by rw[h3];decide)]
    exact er
   ·rename_i h3
    rw[if_neg h3]at h
    rw[At0 _ _ _ h]
    exact er
def Qk(s s':Sto):Prop:=s'.q=s.q/\s'.gh=s.gh/\s'.sc=s.sc
theorem Qk.refl(s:Sto):Qk s s:=⟨rfl,rfl,rfl⟩
theorem Qk.trans{a b c:Sto}(h:Qk a b)(k:Qk b c):Qk a c:=⟨k.1.trans h.1,k.2.1.trans h.2.1,k.2.2.trans h.2.2⟩
theorem Au7(s:Sto)(kind:Int)(l:List (List UInt8)):Qk s (s.write kind l).1:=by
 unfold Sto.write
 split
 ·exact .refl s
 ·dsimp only
  split<;>exact⟨rfl,rfl,rfl⟩
theorem C72(s:Sto):Qk s s.seals.1:=by
 unfold Sto.seals
 split<;>exact⟨rfl,rfl,rfl⟩
theorem Cy8(s:Sto)(b:Int):Qk s (s.begins b).1:=by
 unfold Sto.begins
 dsimp only
 split<;>exact⟨rfl,rfl,rfl⟩
theorem Ci3(s:Sto)(b:Int):Qk s (s.erase b).1:=by
 unfold Sto.erase
 dsimp only
 split<;>exact⟨rfl,rfl,rfl⟩
theorem C23(s:Sto)(p:It)(n beside:Int):Qk s (s.move p n beside).1:=by
 unfold Sto.move
 dsimp only
 split
 ·exact .refl s
 ·split
  ·exact⟨rfl,rfl,rfl⟩
  ·split
   ·exact .refl s
   ·have:=Au7 s 2 (Q8 (C5 s.d p).1 (C5 s.d p).2.1 (T2 s.sc.c)).1
    split
    ·exact⟨this.1,this.2.1,this.2.2⟩
    ·exact this
theorem Bq3(b ep beside:Int): ∀(l:List It) (s:Sto),Qk s (Sto.moves b ep beside l s).1
 |[],s=>.refl s
 |x::r,s=>by
  unfold Sto.moves
  split
  ·exact Bq3 b ep beside r s
  ·dsimp only
   split
   ·exact C23 ..
   ·exact(C23 s _ _ _).trans (Bq3 b ep beside r _)
theorem Aw3(s:Sto)(r:Reg)(beside:Int):Qk s (s.reclaim r beside).1:=by
 unfold Sto.reclaim
 dsimp only
 have h1:=Bq3 r.b r.ep beside r.l s
 split
 ·exact h1
 ·have h2:=Ci3 {(Sto.moves r.b r.ep beside r.l s).1 with pend:=(Sto.moves r.b r.ep beside r.l s).1.pend.filter fun p=> !decide (p.1=r.b)} r.b
  exact h1.trans ⟨h2.1,h2.2.1,h2.2.2⟩
theorem Ch1(n:Int): ∀(k:Nat) (s:Sto),Qk s (Sto.frees n k s).1
 |0,s=>.refl s
 |k+1,s=>by
  unfold Sto.frees
  split
  ·split
   ·exact .refl s
   ·dsimp only
    split
    ·exact Aw3 ..
    ·exact(Aw3 s _ n).trans (Ch1 n k _)
  ·exact .refl s
theorem C25(s:Sto)(n:Int):Qk s (s.more n).1:=by
 unfold Sto.more
 split
 ·exact .refl s
 ·split
  ·exact .refl s
  ·split
   ·split
    ·exact .refl s
    ·exact Aw3 ..
   ·dsimp only
    have h1:=C72 s
    generalize s.seals=w at h1
    split
    ·exact h1
    ·have h2:Qk s (if(E9 w.1.ss w.1.us).2.1.dirty=true then w.1.erase (E9 w.1.ss w.1.us).2.2 else(w.1,0)).1:=by
      split
      ·exact h1.trans (Ci3 ..)
      ·exact h1
     generalize (if(E9 w.1.ss w.1.us).2.1.dirty=true then w.1.erase (E9 w.1.ss w.1.us).2.2 else(w.1,0))=z at h2
     split
     ·exact h2
     ·split
      ·exact h2
      ·have h3:=h2.trans (Cy8 z.1 (E9 w.1.ss w.1.us).2.2)
       split
       ·exact h3
       ·exact h3.trans (Ch1 ..)
theorem Bf5(n:Int): ∀(k:Nat) (s:Sto),Qk s (Sto.room n k s).1
 |0,s=>.refl s
 |k+1,s=>by
  rw[T6]
  split
  ·split<;>exact .refl s
  ·split
   ·exact C25 ..
   ·exact(C25 s n).trans (Bf5 n k _)
theorem Aq4(s:Sto)(key:ByteArray)(val:List UInt8):Qk s (s.adm key val).1:=by
 unfold Sto.adm
 dsimp only
 split
 ·exact .refl s
 ·have h1:Qk s (s.roomy (Q8 key.data.toList val (T2 s.sc.c)).1.length).1:=Bf5 ..
  split
  ·exact h1
  ·have h2:=h1.trans (Au7 (s.roomy (Q8 key.data.toList val (T2 s.sc.c)).1.length).1 2 (Q8 key.data.toList val (T2 s.sc.c)).1)
   split
   ·exact⟨h2.1,h2.2.1,h2.2.2⟩
   ·exact h2
theorem Cn4(s:Sto)(kind:Int)(l:List (List UInt8)):(s.write kind l).1.sc=s.sc:=(Mv.write s kind l).sc
theorem SOk.roomy{s:Sto}{M:Nat}(h:SOk s M)(hd:s.down=false){n:Int}(hn:0<=n):SOk (s.roomy n).1 M/\((s.roomy n).2=0->(s.roomy n).1.down=false/\(s.roomy n).1.fits n=true)/\(s.roomy n).1.sc=s.sc:=SOk.room hn _ h hd
theorem SOk.adm{s:Sto}{M:Nat}(h:SOk s M)(hd:s.down=false)(key:ByteArray)(val:List UInt8):SOk (s.adm key val).1 (M+1)/\(s.adm key val).1.sc=s.sc:=by
 unfold Sto.adm
 dsimp only
 split
 ·exact⟨h.upto (by omega),rfl⟩
 ·obtain⟨h1,h2,h3⟩:=h.roomy hd (n:=((Q8 key.data.toList val (T2 s.sc.c)).1.length:Int)) (by omega)
  generalize s.roomy (Q8 key.data.toList val (T2 s.sc.c)).1.length=w at h1 h2 h3
  split
  ·exact⟨h1.upto (by omega),h3⟩
  ·rename_i h0
   obtain⟨a1,a2⟩:=h2 (by simpa using h0)
   obtain⟨b1,b2⟩:=h1.write a1 2 (Q8 key.data.toList val (T2 s.sc.c)).1
   have hq:=Bt2 h1 2 (Q8 key.data.toList val (T2 s.sc.c)).1
   have hs:=Cn4 w.1 2 (Q8 key.data.toList val (T2 s.sc.c)).1
   generalize w.1.write 2 (Q8 key.data.toList val (T2 s.sc.c)).1=z at b1 b2 hq hs
   split
   ·exact⟨b1.list key z.2.1 hq,hs.trans h3⟩
   ·exact⟨b1.upto (by omega),hs.trans h3⟩
theorem Bl1(l:List QD)(k:ByteArray): ∀e∈Ad0 l k,e∈l:=fun e he=>(List.eraseP_sublist ..).subset he
theorem V8(l:List QD)(k:ByteArray):(Ad0 l k).length<=l.length:=(List.eraseP_sublist ..).length_le
theorem SOk.setq{s:Sto}{M:Nat}(h:SOk s M){q:List QD}(h1: ∀e∈q,1<=e.1.size/\e.1.size<=255/\e.2.1.length<=65536)(h2:q.length<=66000):SOk {s with q:=q} M:={h with dv:=h.dv,qs:=h1,ql:=h2}
theorem SOk.setgh{s:Sto}{M:Nat}(h:SOk s M){gh:List Int}(h1:(gh.length:Int)<=s.sc.ghost):SOk {s with gh:=gh} M:={h with dv:=h.dv,gl:=h1}
theorem SOk.forget{s:Sto}{M:Nat}(h:SOk s M)(key:ByteArray):SOk (s.forget key).1 (M+1)/\(s.forget key).1.down=s.down/\(s.forget key).1.sc=s.sc/\(s.forget key).1.q=Ad0 s.q key/\(s.forget key).1.gh=s.gh:=by
 have h1:SOk {s with q:=Ad0 s.q key} M:=h.setq (fun e he=>h.qs e (Bl1 _ _ e he)) (Nat.le_trans (V8 _ _) h.ql)
 unfold Sto.forget
 dsimp only
 split
 ·exact⟨h1.upto (by omega),rfl,rfl,rfl,rfl⟩
 ·rename_i x hx
  refine⟨?_,rfl,rfl,rfl,rfl⟩
  have h2:=h1.ixdrop (s.hash key) x
  refine{h2 with dv:=h2.dv,pl:=?_}
  have:=h.pl
  show(s.pend++[x]).length<=M+1
  rw[List.length_append];simp;omega
theorem Al2{room:Int}{l:List Int}(h0:0<=room)(h:(l.length:Int)<=room)(x:Int):((B40 room l x).length:Int)<=room:=by
 have h1:(l.erase x).length<=l.length:=List.length_erase_le
 unfold B40
 split
 ·rename_i h2
  rw[List.length_drop,List.length_append]at*
  simp at*
  omega
 ·rename_i h2
  omega
theorem SOk.trim: ∀(k:Nat) {s:Sto} {M:Nat},SOk s M->s.down=false->SOk (Sto.trim k s).1 (M+k)/\(Sto.trim k s).1.sc=s.sc/\((Sto.trim k s).2≠11->(Sto.trim k s).1.down=false)
 |0,s,M,h,hd=>⟨h,rfl,fun _=>hd⟩
 |k+1,s,M,h,hd=>by
  unfold Sto.trim
  split
  ·cases hq:s.q with
   |nil=>exact⟨h.upto (by omega),rfl,fun _=>hd⟩
   |cons y r=>
    dsimp only
    have hqs:=h.qs
    have hql:=h.ql
    rw[hq]at hqs hql
    have h1:SOk {s with q:=r} M:=h.setq (fun e he=>hqs e (List.mem_cons_of_mem _ he)) (by simp at hql;omega)
    have hw:SOk (if y.2.2>0 then({s with q:=r}:Sto).adm y.1 y.2.1 else({s with q:=r},8)).1 (M+1)/\(if y.2.2>0 then({s with q:=r}:Sto).adm y.1 y.2.1 else({s with q:=r},8)).1.sc=s.sc/\((if y.2.2>0 then({s with q:=r}:Sto).adm y.1 y.2.1 else({s with q:=r},8)).2≠11->(if y.2.2>0 then({s with q:=r}:Sto).adm y.1 y.2.1 else({s with q:=r},8)).1.down=false):=by
     split
     ·have ha:=h1.adm hd y.1 y.2.1
      exact⟨ha.1,ha.2,fun hn=>(Aa7 _ _ _ hn).trans hd⟩
     ·exact⟨h1.upto (by omega),rfl,fun _=>hd⟩
    generalize (if y.2.2>0 then({s with q:=r}:Sto).adm y.1 y.2.1 else({s with q:=r},8))=w at hw
    obtain⟨w1,w2,w3⟩:=hw
    split
    ·rename_i h0
     obtain⟨a1,a2,a3⟩:=SOk.trim k w1 (w3 (by rw[h0];decide))
     exact⟨a1.upto (by omega),a2.trans w2,a3⟩
    ·split
     ·rename_i h11
      exact⟨w1.upto (by omega),w2,fun hn=>absurd h11 hn⟩
     ·rename_i h11
      have hg:SOk {w.1 with gh:=B40 s.sc.ghost w.1.gh (s.hash y.1)} (M+1):=w1.setgh (by rw[w2];exact Al2 h.gs.1 (by have:=w1.gl;rw[w2]at this;exact this) _)
      obtain⟨a1,a2,a3⟩:=SOk.trim k hg (w3 h11)
      exact⟨a1.upto (by omega),a2.trans w2,a3⟩
  ·exact⟨h.upto (by omega),rfl,fun _=>hd⟩
theorem Bf2(p:SP)(s:Sto)(g:SG)(X:SX p s g){M:Nat}(h:SOk s M)(hM:M<=1000000000)(hd:s.down=false)(R:A4)(hT:Tab R)(key:ByteArray)(hk:key.size<=1000000)(u:SlV)(val:List UInt8)(hu:BSl R u val):
  CallF PP 49 #[.q (some ⟨p.n,0,none⟩),.w key,.slice u.a u.len u.cap] (SL p s g++R) (SK p (s.adm key val) R):=by
 refine c49 (some ⟨p.n,0,none⟩) key u ?_
 unfold s49
 have hS:=h.S
 have hP:=h.P
 have hp0:(SL p s g++R).Perm (SL p s g++R):=List.Perm.refl _
 have had:s.adm key val=(if(Q8 key.data.toList val (T2 s.sc.c)).2≠0 then(s,(Q8 key.data.toList val (T2 s.sc.c)).2)else
  if(s.roomy (Q8 key.data.toList val (T2 s.sc.c)).1.length).2≠0 then s.roomy (Q8 key.data.toList val (T2 s.sc.c)).1.length else
  if((s.roomy (Q8 key.data.toList val (T2 s.sc.c)).1.length).1.write 2 (Q8 key.data.toList val (T2 s.sc.c)).1).2.2=0 then(((s.roomy (Q8 key.data.toList val (T2 s.sc.c)).1.length).1.write 2 (Q8 key.data.toList val (T2 s.sc.c)).1).1.list key ((s.roomy (Q8 key.data.toList val (T2 s.sc.c)).1.length).1.write 2 (Q8 key.data.toList val (T2 s.sc.c)).1).2.1,0)
  else(((s.roomy (Q8 key.data.toList val (T2 s.sc.c)).1.length).1.write 2 (Q8 key.data.toList val (T2 s.sc.c)).1).1,((s.roomy (Q8 key.data.toList val (T2 s.sc.c)).1.length).1.write 2 (Q8 key.data.toList val (T2 s.sc.c)).1).2.2)):=rfl
 refine A5 rfl (A6 (sh:=.agg [.int .i64,.int .i64,.int .i64,.int .i64]) ((s.sc.c.B:Int),(s.sc.c.P:Int),(s.sc.c.S:Int),(s.sc.c.W:Int),()) (Co7 (SL.st hp0)) ?_)
 refine G5 (C40 R hT key (Nat.le_trans hk (by decide)) u val hu (T2 s.sc.c) (by show(s.sc.c.P:Int)<=_;omega)) (R:=SL p s g) (pc fun z=>by simp only[B4]at*;omega) ?_
 rintro _ _ ⟨ov,oseg,gs,rfl,rfl,own,hgs,hgl⟩
 have hcl:=Cj6 key.data.toList val (T2 s.sc.c)
 obtain⟨c,hc⟩: ∃c,c=Q8 key.data.toList val (T2 s.sc.c):=⟨_,rfl⟩
 rw[<-hc]at hgl had hcl⊢
 refine⟨_,List.Perm.refl _,(ov,c.2,()),rfl,?_⟩
 have hp1:((oseg++(pgs gs++R))++SL p s g).Perm (SL p s g++(oseg++(pgs gs++R))):=List.perm_append_comm
 generalize (oseg++(pgs gs++R))++SL p s g=L1 at hp1
 dsimp only
 have hovl:ov.len=c.1.length:=by
  have:=own.sl.len
  rw[List.length_map,Nat.mul_one]at this
  rw[this,<-hgl,List.length_map]
 refine B8 (fun(h0:c.2=0)=>?_) (fun(h0: ¬c.2=0)=>?_)
 ·rw[if_neg (by simpa using h0)]at had
  have hT1:Tab (oseg++(pgs gs++R)):=hT.mono fun y hy=>by simp[hy]
  have hn:(0:Int)<=(c.1.length:Int)/\(c.1.length:Int)<=1000:=by omega
  have hcall:=Bt8 p s g X h hM hd (oseg++(pgs gs++R)) hT1 (c.1.length:Int) hn
  rw[<-hovl]at hcall
  refine Ar6 hcall hp1 ?_
  rw[hovl]
  rintro _ _ ⟨g2,rfl,X2,rfl⟩
  obtain⟨k1,k2,k3⟩:=h.roomy hd hn.1
  refine⟨((s.roomy (c.1.length:Int)).2,()),rfl,?_⟩
  dsimp only
  generalize s.roomy (c.1.length:Int)=w at k1 k2 k3 X2 had
  refine B8 (fun(h1:w.2=0)=>?_) (fun(h1: ¬w.2=0)=>?_)
  ·rw[if_neg (by simpa using h1)]at had
   obtain⟨a1,a2⟩:=k2 h1
   obtain⟨o,ho⟩: ∃o,w.1.op=some o:=by
    unfold Sto.fits at a2
    cases hop:w.1.op with
    |none=>rw[hop]at a2;cases a2
    |some o=>exact⟨o,rfl⟩
   have hopk:=k1.op o ho
   have hsnd:(pvs gs).map Prod.snd=c.1:=by rw[Ax0];exact hgl
   have hpl2:(pvs gs).length<=8:=by rw[<-hsnd,List.length_map]at hcl;exact hcl
   have hb1:(pvs gs).length<=1000000:=by omega
   have hb2:0<=o.nx/\o.nx<=1000:=by omega
   have hb3:o.l.length<=1000:=by omega
   have hb4:Y1 (oseg++(pgs gs++R)) ov (pvs gs):=Be6 own hgs (fun y hy=>by simp[hy]) (fun y hy=>by simp[hy])
   have hcall2:=Av1 p w.1 g2 X2 k1.S.2 k1.bk (oseg++(pgs gs++R)) ov (pvs gs) hb4 hb1 (k1.dg _ hb1) o ho hb2 hb3 2
   rw[hovl]at hcall2
   refine Ar6 hcall2 (List.Perm.refl _) ?_
   rw[hsnd]
   rintro _ _ ⟨g3,rfl,X3,hn3,rfl⟩
   obtain⟨b1,b2⟩:=k1.write a1 2 c.1
   refine⟨((((w.1.write 2 c.1).2.1.1,(w.1.write 2 c.1).2.1.2.1,(w.1.write 2 c.1).2.1.2.2.1,()),(w.1.write 2 c.1).2.2,())),rfl,?_⟩
   dsimp only
   generalize w.1.write 2 c.1=z at b1 b2 X3 had
   refine B8 (fun(h2:z.2.2=0)=>?_) (fun(h2: ¬z.2.2=0)=>?_)
   ·rw[if_pos h2]at had
    refine G5 (Bu3 p z.1 g3 X3 b1.wy.1 key hk (b1.row _).len (Nat.le_trans b1.pl hM) z.2.1) (List.Perm.refl _) ?_
    rintro _ _ ⟨g4,hL4,X4,rfl⟩
    rw[List.append_nil]at hL4
    rw[hL4]
    refine⟨_,List.Perm.refl _,(),rfl,?_⟩
    rw[had,h2]
    exact .drop (A:=SL p (z.1.list key z.2.1) g4++R) (J:=oseg++pgs gs) ⟨g4,rfl,X4,rfl⟩ (pc fun z=>by simp only[B4];omega)
   ·rw[if_neg h2]at had
    rw[had]
    exact .drop (A:=SL p z.1 g3++R) (J:=oseg++pgs gs) ⟨g3,rfl,X3,rfl⟩ (pc fun z=>by simp only[B4];omega)
  ·rw[if_pos (by simpa using h1)]at had
   rw[had]
   exact .drop (A:=SL p w.1 g2++R) (J:=oseg++pgs gs) ⟨g2,rfl,X2,rfl⟩ (pc fun z=>by simp only[B4];omega)
 ·rw[if_pos (by simpa using h0)]at had
  rw[had]
  exact .drop (A:=SL p s g++R) (J:=oseg++pgs gs) ⟨g,rfl,X,rfl⟩ (pc fun z=>by have:=pcn hp1 z;simp only[B4]at*;omega)
theorem B68(k:Nat)(s:Sto):Sto.trim (k+1) s=if(By9 s.q:Int)>s.sc.small then(match s.q with
  |[]=>(s,0)
  |y::r=>
   if(if y.2.2>0 then({s with q:=r}:Sto).adm y.1 y.2.1 else({s with q:=r},8)).2=0 then Sto.trim k (if y.2.2>0 then({s with q:=r}:Sto).adm y.1 y.2.1 else({s with q:=r},8)).1 else
   if(if y.2.2>0 then({s with q:=r}:Sto).adm y.1 y.2.1 else({s with q:=r},8)).2=11 then(if y.2.2>0 then({s with q:=r}:Sto).adm y.1 y.2.1 else({s with q:=r},8))else
   Sto.trim k {(if y.2.2>0 then({s with q:=r}:Sto).adm y.1 y.2.1 else({s with q:=r},8)).1 with gh:=B40 s.sc.ghost (if y.2.2>0 then({s with q:=r}:Sto).adm y.1 y.2.1 else({s with q:=r},8)).1.gh (s.hash y.1)})else(s,0):=rfl
theorem Co5(p:SP)(s:Sto)(g:SG)(X:SX p s g){M:Nat}(h:SOk s M)(k0:Nat)(hk0:s.q.length<k0)(hM:M+k0<=1000000000)(hd:s.down=false)(R:A4)(hT:Tab R):
  CallF PP 51 #[.q (some ⟨p.n,0,none⟩)] (SL p s g++R) (SK p (Sto.trim k0 s) R):=by
 refine c51 (some ⟨p.n,0,none⟩) ?_
 unfold s51
 refine G0 (fun z' z L'=> ∃(cur:Sto) (g':SG) (J:A4) (N:Nat),cur.q.length<z'/\N+z'=M+k0/\SOk cur N/\cur.down=false/\SX p cur g'/\Sto.trim k0 s=Sto.trim z' cur/\L'.Perm (SL p cur g'++(J++R))) k0 ⟨s,g,[],M,hk0,rfl,h,hd,X,rfl,List.Perm.refl _⟩ ?_
 rintro z' z L1 ⟨cur,g',J,N,hql,hN,hc,hcd,X',heq,hp1⟩
 dsimp only
 obtain⟨k,rfl⟩: ∃k,z'=k+1:=⟨z'-1,by omega⟩
 rw[heq,B68]
 refine A5 rfl (A6 (some ⟨p.nq,0,none⟩) (E8 (SL.st hp1) rfl) ?_)
 refine B7 (Reads.has (SL.q hp1) (Ca4 p.nq cur.sc.small cur.q g'.Aq X'.que)) (decide ((By9 cur.q:Int)>cur.sc.small),()) rfl ?_
 refine B8 (fun(hov:(By9 cur.q:Int)>cur.sc.small)=>?_) (fun(hov: ¬(By9 cur.q:Int)>cur.sc.small)=>?_)
 ·rw[if_pos hov]
  have hqs:=hc.qs
  have hq:=X'.que
  cases hcq:cur.q with
  |nil=>
   have:=hc.sm
   rw[hcq]at hov
   exact absurd hov (by show¬((0:Nat):Int)>_;omega)
  |cons y r=>
   rw[hcq]at hqs hq hql
   dsimp only
   refine A6 (some ⟨p.nq,0,none⟩) (E8 (SL.st hp1) rfl) ?_
   refine G5 (Cr4 p.nq cur.sc.small y r g'.Aq hq) (R:=stO p cur g'::(kO p cur::(mO p g'::(gO p g'::(g'.Ad++(g'.Ab++(rns g'.ns++(rns g'.on.toList++(g'.pseg++(g'.Ai++(J++R))))))))))) (pc fun z=>by have:=pcn hp1 z;simp only[SL,B4,C6,D8]at*;omega) ?_
   rintro _ _ ⟨u,seg,Aq',rfl,rfl,hbs,hq'⟩
   refine⟨_,List.Perm.refl _,((y.1,u,y.2.2,()),true,()),rfl,?_⟩
   dsimp only
   obtain⟨s1,hs1⟩: ∃s1:Sto,s1={cur with q:=r}:=⟨_,rfl⟩
   obtain⟨g1,hg1⟩: ∃g1:SG,g1={g' with Aq:=Aq'}:=⟨_,rfl⟩
   have X1:SX p s1 g1:=by rw[hs1,hg1];exact{X' with cfg:=X'.cfg,dev:=X'.dev,blk:=X'.blk,que:=hq'}
   have hp2:((Aq'++seg)++(stO p cur g'::(kO p cur::(mO p g'::(gO p g'::(g'.Ad++(g'.Ab++(rns g'.ns++(rns g'.on.toList++(g'.pseg++(g'.Ai++(J++R)))))))))))).Perm (SL p s1 g1++(seg++(J++R))):=pc fun z=>by
    have e1:stO p s1 g1=stO p cur g':=by rw[hs1,hg1];rfl
    have e2:kO p s1=kO p cur:=by rw[hs1];rfl
    have e3:mO p g1=mO p g':=by rw[hg1];rfl
    have e4:gO p g1=gO p g':=by rw[hg1];rfl
    simp only[SL,e1,e2,e3,e4,B4,C6,D8]
    simp only[hg1]
    omega
   generalize (Aq'++seg)++(stO p cur g'::(kO p cur::(mO p g'::(gO p g'::(g'.Ad++(g'.Ab++(rns g'.ns++(rns g'.on.toList++(g'.pseg++(g'.Ai++(J++R)))))))))))=L2 at hp2
   have h1:SOk s1 N:=by rw[hs1];exact hc.setq (fun e he=>hqs e (List.mem_cons_of_mem _ he)) (by have:=hc.ql;rw[hcq]at this;simp at this;omega)
   have hd1:s1.down=false:=by rw[hs1];exact hcd
   have hks:=hqs y (by simp)
   rw[<-hs1]
   obtain⟨w,hw⟩: ∃w,w=(if y.2.2>0 then s1.adm y.1 y.2.1 else(s1,8)):=⟨_,rfl⟩
   rw[<-hw]
   have hwk:SOk w.1 (N+1)/\w.1.sc=cur.sc/\(w.2≠11->w.1.down=false)/\w.1.q.length<=r.length:=by
    rw[hw]
    split
    ·have ha:=h1.adm hd1 y.1 y.2.1
     exact⟨ha.1,ha.2.trans (by rw[hs1]),fun hn=>(Aa7 _ _ _ hn).trans hd1,by rw[(Aq4 s1 y.1 y.2.1).1,hs1];exact Nat.le_refl _⟩
    ·exact⟨h1.upto (by omega),by rw[hs1],fun _=>hd1,by rw[hs1];exact Nat.le_refl _⟩
   have hash:s1.hash y.1=cur.hash y.1:=by rw[hs1];rfl
   refine W7 (fun(y1:RsV [lI]) L'=>y1=(w.2,())/\ ∃(g2:SG) (J2:A4),SX p w.1 g2/\L'.Perm (SL p w.1 g2++(J2++R))) ?_ ?_
   ·rintro _ L3 ⟨rfl,g2,J2,X2,hp3⟩
    dsimp only
    obtain⟨w1,w2,w3,w4⟩:=hwk
    simp only[List.length_cons]at hql
    refine B8 (fun(h0:w.2=0)=>?_) (fun(h0: ¬w.2=0)=>?_)
    ·rw[if_pos h0]
     exact⟨k,by omega,w.1,g2,J2,N+1,by omega,by omega,w1,w3 (by rw[h0];decide),X2,rfl,hp3⟩
    ·rw[if_neg h0]
     refine B8 (fun(h11:w.2=11)=>?_) (fun(h11: ¬w.2=11)=>?_)
     ·rw[if_pos h11]
      exact .drop (A:=SL p w.1 g2++R) (J:=J2) ⟨g2,rfl,X2,rfl⟩ (pc fun z=>by have:=pcn hp3 z;simp only[B4]at*;omega)
     ·rw[if_neg h11]
      have hsh:w.1.hash y.1=cur.hash y.1:=by unfold Sto.hash;rw[w2]
      refine A6 (some ⟨p.ng,0,none⟩) (E8 (SL.st hp3) rfl) ?_
      refine B7 (Z9 hp3 y.1 (by omega)) (((w.1.hash y.1:Nat):Int),()) rfl ?_
      refine F5 (E8 (SL.st hp3) rfl) ?_
      have hgl:=w1.gl
      refine sgh hp3 X2 (add_cl p.ng w.1.sc.ghost w.1.gh g2.go X2.gho hgl w1.gs.2 (w.1.hash y.1:Nat)) () rfl {w.1 with gh:=B40 w.1.sc.ghost w.1.gh (w.1.hash y.1)} rfl fun g3 L4 hp4 X3=>?_
      refine⟨k,by omega,_,g3,J2,N+1,by exact(show w.1.q.length<k by omega),by omega,w1.setgh (Al2 w1.gs.1 hgl _),w3 h11,X3,?_,hp4⟩
      rw[hsh,w2]
   ·intro j1 hj1
    have hT2:Tab (seg++(J++R)):=hT.mono fun z hz=>by simp[hz]
    refine B8 (fun(hfr:y.2.2>0)=>?_) (fun(hfr: ¬y.2.2>0)=>?_)
    ·rw[if_pos hfr]at hw
     refine Ar6 (Bf2 p s1 g1 X1 h1 (by omega) hd1 (seg++(J++R)) hT2 y.1 (by omega) u y.2.1 (hbs.mono fun z hz=>by simp[hz])) hp2 ?_
     rw[<-hw]
     rintro _ _ ⟨g2,rfl,X2,rfl⟩
     exact⟨(w.2,()),rfl,hj1 _ _ ⟨rfl,g2,seg++J,X2,pc fun z=>by simp only[B4];omega⟩⟩
    ·rw[if_neg hfr]at hw
     refine hj1 _ _ ⟨by rw[hw],g1,seg++J,by rw[hw];exact X1,by rw[hw];exact hp2.trans (by rw[List.append_assoc])⟩
 ·rw[if_neg hov]
  exact .drop (A:=SL p cur g'++R) (J:=J) ⟨g',rfl,X',rfl⟩ (pc fun z=>by have:=pcn hp1 z;simp only[B4]at*;omega)
theorem x11{e:Int}(he:e≠11){q:Prop}{x:Int}(h:x=11)(hx:x=e):q:=absurd (hx▸h) he
theorem Bw3(s:Sto){e:Int}(h:e=11):(s.met e).down=true:=by unfold Sto.met;simp[h]
theorem Bt3(s:Sto)(kind:Int)(l:List (List UInt8))(h:(s.write kind l).2.2=11):(s.write kind l).1.down=true:=by
 unfold Sto.write at h⊢
 split
 ·rename_i ho
  rw[ho]at h
  first|exact x11 (e:=0) (by decide) h rfl|exact x11 (e:=13) (by decide) h rfl|exact x11 (e:=7) (by decide) h rfl|exact x11 (e:=8) (by decide) h rfl
 ·rename_i o ho
  rw[ho]at h
  dsimp only at h⊢
  split
  ·rename_i h0
   rw[if_pos h0]at h
   exact Bw3 _ h
  ·rename_i h0
   rw[if_neg h0]at h
   first|exact x11 (e:=0) (by decide) h rfl|exact x11 (e:=13) (by decide) h rfl|exact x11 (e:=7) (by decide) h rfl|exact x11 (e:=8) (by decide) h rfl
theorem Cp8(s:Sto)(h:s.seals.2=11):s.seals.1.down=true:=by
 unfold Sto.seals at h⊢
 split
 ·rename_i ho
  rw[ho]at h
  first|exact x11 (e:=0) (by decide) h rfl|exact x11 (e:=13) (by decide) h rfl|exact x11 (e:=7) (by decide) h rfl|exact x11 (e:=8) (by decide) h rfl
 ·rename_i o ho
  rw[ho]at h
  exact Bw3 _ h
theorem Cl1(s:Sto)(b:Int)(h:(s.begins b).2=11):(s.begins b).1.down=true:=by
 unfold Sto.begins at h⊢
 dsimp only at h⊢
 split
 ·rename_i h0
  rw[if_pos h0]at h
  exact Bw3 _ h
 ·rename_i h0
  rw[if_neg h0]at h
  first|exact x11 (e:=0) (by decide) h rfl|exact x11 (e:=13) (by decide) h rfl|exact x11 (e:=7) (by decide) h rfl|exact x11 (e:=8) (by decide) h rfl
theorem By3(s:Sto)(b:Int)(h:(s.erase b).2=11):(s.erase b).1.down=true:=by
 unfold Sto.erase at h⊢
 dsimp only at h⊢
 split
 ·exact Bw3 _ rfl
 ·rename_i h0
  rw[if_neg h0]at h
  first|exact x11 (e:=0) (by decide) h rfl|exact x11 (e:=13) (by decide) h rfl|exact x11 (e:=7) (by decide) h rfl|exact x11 (e:=8) (by decide) h rfl
theorem cut_e(key val:List UInt8)(c:Cf):(Q8 key val c).2≠11:=by
 intro h
 unfold Q8 at h
 repeat' split at h
 all_goals first|exact x11 (e:=0) (by decide) h rfl|exact x11 (e:=2) (by decide) h rfl|exact x11 (e:=4) (by decide) h rfl|exact x11 (e:=14) (by decide) h rfl
theorem Db1(s:Sto)(p:It)(n beside:Int)(h:(s.move p n beside).2=11):(s.move p n beside).1.down=true:=by
 unfold Sto.move at h⊢
 dsimp only at h⊢
 split
 ·rename_i h1
  rw[if_pos h1]at h
  first|exact x11 (e:=0) (by decide) h rfl|exact x11 (e:=13) (by decide) h rfl|exact x11 (e:=7) (by decide) h rfl|exact x11 (e:=8) (by decide) h rfl
 ·rename_i h1
  rw[if_neg h1]at h
  split
  ·rename_i h2
   rw[if_pos h2]at h
   first|exact x11 (e:=0) (by decide) h rfl|exact x11 (e:=13) (by decide) h rfl|exact x11 (e:=7) (by decide) h rfl|exact x11 (e:=8) (by decide) h rfl
  ·rename_i h2
   rw[if_neg h2]at h
   split
   ·rename_i h3
    rw[if_pos h3]at h
    exact absurd h (cut_e _ _ _)
   ·rename_i h3
    rw[if_neg h3]at h
    split
    ·rename_i h4
     rw[if_pos h4]at h
     first|exact x11 (e:=0) (by decide) h rfl|exact x11 (e:=13) (by decide) h rfl|exact x11 (e:=7) (by decide) h rfl|exact x11 (e:=8) (by decide) h rfl
    ·rename_i h4
     rw[if_neg h4]at h
     exact Bt3 s _ _ h
theorem A89(b ep beside:Int): ∀(l:List It) (s:Sto),(Sto.moves b ep beside l s).2=11->(Sto.moves b ep beside l s).1.down=true
 |[],s,h=>absurd (show(0:Int)=11 from h) (by decide)
 |x::r,s,h=>by
  unfold Sto.moves at h⊢
  split
  ·rename_i hx
   rw[if_pos hx]at h
   exact A89 b ep beside r s h
  ·rename_i hx
   rw[if_neg hx]at h
   dsimp only at h⊢
   split
   ·rename_i h0
    rw[if_pos h0]at h
    exact Db1 _ _ _ _ h
   ·rename_i h0
    rw[if_neg h0]at h
    exact A89 b ep beside r _ h
theorem A39(s:Sto)(r:Reg)(beside:Int)(h:(s.reclaim r beside).2=11):(s.reclaim r beside).1.down=true:=by
 unfold Sto.reclaim at h⊢
 dsimp only at h⊢
 split
 ·rename_i h0
  rw[if_pos h0]at h
  exact A89 _ _ _ _ _ h
 ·rename_i h0
  rw[if_neg h0]at h
  exact By3 _ _ h
theorem Bx7(n:Int): ∀(k:Nat) (s:Sto),(Sto.frees n k s).2=11->(Sto.frees n k s).1.down=true
 |0,s,h=>absurd (show(0:Int)=11 from h) (by decide)
 |k+1,s,h=>by
  unfold Sto.frees at h⊢
  split
  ·rename_i hf
   rw[if_pos hf]at h
   cases hr:s.rs with
   |nil=>rw[hr]at h;exact absurd (show(0:Int)=11 from h) (by decide)
   |cons r t=>
    rw[hr]at h
    dsimp only at h⊢
    split
    ·rename_i h0
     rw[if_pos h0]at h
     exact A39 _ _ _ h
    ·rename_i h0
     rw[if_neg h0]at h
     exact Bx7 n k _ h
  ·rename_i hf
   rw[if_neg hf]at h
   first|exact x11 (e:=0) (by decide) h rfl|exact x11 (e:=13) (by decide) h rfl|exact x11 (e:=7) (by decide) h rfl|exact x11 (e:=8) (by decide) h rfl
theorem Db2(s:Sto)(n:Int)(h:(s.more n).2=11):(s.more n).1.down=true:=by
 unfold Sto.more at h⊢
 split
 ·rename_i h1
  rw[if_pos h1]at h
  first|exact x11 (e:=0) (by decide) h rfl|exact x11 (e:=13) (by decide) h rfl|exact x11 (e:=7) (by decide) h rfl|exact x11 (e:=8) (by decide) h rfl
 ·rename_i h1
  rw[if_neg h1]at h
  split
  ·rename_i h2
   rw[if_pos h2]at h
   first|exact x11 (e:=0) (by decide) h rfl|exact x11 (e:=13) (by decide) h rfl|exact x11 (e:=7) (by decide) h rfl|exact x11 (e:=8) (by decide) h rfl
  ·rename_i h2
   rw[if_neg h2]at h
   split
   ·rename_i h3
    rw[if_pos h3]at h
    cases hr:s.rs with
    |nil=>rw[hr]at h;exact absurd (show(7:Int)=11 from h) (by decide)
    |cons r t=>
     rw[hr]at h
     exact A39 _ _ _ h
   ·rename_i h3
    rw[if_neg h3]at h
    dsimp only at h⊢
    split
    ·rename_i h4
     rw[if_pos h4]at h
     exact Cp8 _ h
    ·rename_i h4
     rw[if_neg h4]at h
     generalize s.seals=w at h
     have ez: ∀z:Sto×Int,z=(if(E9 w.1.ss w.1.us).2.1.dirty=true then w.1.erase (E9 w.1.ss w.1.us).2.2 else(w.1,0))->z.2=11->z.1.down=true:=fun z hz hn=>by
      subst hz
      split
      ·rename_i hd
       rw[if_pos hd]at hn
       exact By3 _ _ hn
      ·rename_i hd
       rw[if_neg hd]at hn
       first|exact x11 (e:=0) (by decide) hn rfl|exact x11 (e:=8) (by decide) hn rfl
     have ez:=ez _ rfl
     generalize (if(E9 w.1.ss w.1.us).2.1.dirty=true then w.1.erase (E9 w.1.ss w.1.us).2.2 else(w.1,0))=z at h ez
     split
     ·rename_i h5
      rw[if_pos h5]at h
      exact ez h
     ·rename_i h5
      rw[if_neg h5]at h
      split
      ·rename_i h6
       rw[if_pos h6]at h
       first|exact x11 (e:=0) (by decide) h rfl|exact x11 (e:=13) (by decide) h rfl|exact x11 (e:=7) (by decide) h rfl|exact x11 (e:=8) (by decide) h rfl
      ·rename_i h6
       rw[if_neg h6]at h
       split
       ·rename_i h7
        rw[if_pos h7]at h
        exact Cl1 _ _ h
       ·rename_i h7
        rw[if_neg h7]at h
        exact Bx7 _ _ _ h
theorem Bo8(n:Int): ∀(k:Nat) (s:Sto),(Sto.room n k s).2=11->(Sto.room n k s).1.down=true
 |0,s,h=>absurd (show(13:Int)=11 from h) (by decide)
 |k+1,s,h=>by
  rw[T6]at h⊢
  split
  ·rename_i hf
   rw[if_pos hf]at h
   split at h<;>first|exact x11 (e:=0) (by decide) h rfl|exact x11 (e:=13) (by decide) h rfl|exact x11 (e:=7) (by decide) h rfl|exact x11 (e:=8) (by decide) h rfl
  ·rename_i hf
   rw[if_neg hf]at h
   split
   ·rename_i h0
    rw[if_pos h0]at h
    exact Db2 _ _ h
   ·rename_i h0
    rw[if_neg h0]at h
    exact Bo8 n k _ h
theorem Cz3(s:Sto)(key:ByteArray)(val:List UInt8)(h:(s.adm key val).2=11):(s.adm key val).1.down=true:=by
 unfold Sto.adm at h⊢
 dsimp only at h⊢
 split
 ·rename_i h1
  rw[if_pos h1]at h
  exact absurd h (cut_e _ _ _)
 ·rename_i h1
  rw[if_neg h1]at h
  split
  ·rename_i h2
   rw[if_pos h2]at h
   exact Bo8 _ _ _ h
  ·rename_i h2
   rw[if_neg h2]at h
   split
   ·rename_i h3
    rw[if_pos h3]at h
    first|exact x11 (e:=0) (by decide) h rfl|exact x11 (e:=13) (by decide) h rfl|exact x11 (e:=7) (by decide) h rfl|exact x11 (e:=8) (by decide) h rfl
   ·rename_i h3
    rw[if_neg h3]at h
    exact Bt3 _ _ _ h
theorem Bn7: ∀(k:Nat) (s:Sto),(Sto.trim k s).2=11->(Sto.trim k s).1.down=true
 |0,s,h=>absurd (show(0:Int)=11 from h) (by decide)
 |k+1,s,h=>by
  unfold Sto.trim at h⊢
  split
  ·rename_i ho
   rw[if_pos ho]at h
   cases hq:s.q with
   |nil=>rw[hq]at h;exact absurd (show(0:Int)=11 from h) (by decide)
   |cons y r=>
    rw[hq]at h
    dsimp only at h⊢
    have hw:(if y.2.2>0 then({s with q:=r}:Sto).adm y.1 y.2.1 else({s with q:=r},8)).2=11->(if y.2.2>0 then({s with q:=r}:Sto).adm y.1 y.2.1 else({s with q:=r},8)).1.down=true:=fun hn=>by
     split
     ·rename_i hf
      rw[if_pos hf]at hn
      exact Cz3 _ _ _ hn
     ·rename_i hf
      rw[if_neg hf]at hn
      first|exact x11 (e:=0) (by decide) hn rfl|exact x11 (e:=8) (by decide) hn rfl
    generalize (if y.2.2>0 then({s with q:=r}:Sto).adm y.1 y.2.1 else({s with q:=r},8))=w at hw h
    split
    ·rename_i h0
     rw[if_pos h0]at h
     exact Bn7 k _ h
    ·rename_i h0
     rw[if_neg h0]at h
     split
     ·rename_i h1
      exact hw h1
     ·rename_i h1
      rw[if_neg h1]at h
      exact Bn7 k _ h
  ·rename_i ho
   rw[if_neg ho]at h
   first|exact x11 (e:=0) (by decide) h rfl|exact x11 (e:=13) (by decide) h rfl|exact x11 (e:=7) (by decide) h rfl|exact x11 (e:=8) (by decide) h rfl
def Pk(s s':Sto):Prop:=s'.pend.length<=s.pend.length
theorem Pk.refl(s:Sto):Pk s s:=Nat.le_refl _
theorem Pk.trans{a b c:Sto}(h:Pk a b)(k:Pk b c):Pk a c:=Nat.le_trans k h
theorem C52(s:Sto)(kind:Int)(l:List (List UInt8)):Pk s (s.write kind l).1:=by
 unfold Sto.write
 split
 ·exact .refl s
 ·dsimp only
  split<;>exact Nat.le_refl _
theorem C73(s:Sto):Pk s s.seals.1:=by
 unfold Sto.seals
 split<;>exact Nat.le_refl _
theorem Cy9(s:Sto)(b:Int):Pk s (s.begins b).1:=by
 unfold Sto.begins
 dsimp only
 split<;>exact Nat.le_refl _
theorem Ci4(s:Sto)(b:Int):Pk s (s.erase b).1:=by
 unfold Sto.erase
 dsimp only
 split<;>exact Nat.le_refl _
theorem C24(s:Sto)(p:It)(n beside:Int):Pk s (s.move p n beside).1:=by
 unfold Sto.move
 dsimp only
 split
 ·exact .refl s
 ·split
  ·exact Nat.le_refl _
  ·split
   ·exact .refl s
   ·have:=C52 s 2 (Q8 (C5 s.d p).1 (C5 s.d p).2.1 (T2 s.sc.c)).1
    split
    ·exact this
    ·exact this
theorem Bq4(b ep beside:Int): ∀(l:List It) (s:Sto),Pk s (Sto.moves b ep beside l s).1
 |[],s=>.refl s
 |x::r,s=>by
  unfold Sto.moves
  split
  ·exact Bq4 b ep beside r s
  ·dsimp only
   split
   ·exact C24 ..
   ·exact(C24 s _ _ _).trans (Bq4 b ep beside r _)
theorem Aw4(s:Sto)(r:Reg)(beside:Int):Pk s (s.reclaim r beside).1:=by
 unfold Sto.reclaim
 dsimp only
 have h1:=Bq4 r.b r.ep beside r.l s
 split
 ·exact h1
 ·have h2:=Ci4 {(Sto.moves r.b r.ep beside r.l s).1 with pend:=(Sto.moves r.b r.ep beside r.l s).1.pend.filter fun p=> !decide (p.1=r.b)} r.b
  exact h1.trans (Nat.le_trans h2 (List.length_filter_le ..))
theorem Ch2(n:Int): ∀(k:Nat) (s:Sto),Pk s (Sto.frees n k s).1
 |0,s=>.refl s
 |k+1,s=>by
  unfold Sto.frees
  split
  ·split
   ·exact .refl s
   ·dsimp only
    split
    ·exact Aw4 ..
    ·exact(Aw4 s _ n).trans (Ch2 n k _)
  ·exact .refl s
theorem C26(s:Sto)(n:Int):Pk s (s.more n).1:=by
 unfold Sto.more
 split
 ·exact .refl s
 ·split
  ·exact .refl s
  ·split
   ·split
    ·exact .refl s
    ·exact Aw4 ..
   ·dsimp only
    have h1:=C73 s
    generalize s.seals=w at h1
    split
    ·exact h1
    ·have h2:Pk s (if(E9 w.1.ss w.1.us).2.1.dirty=true then w.1.erase (E9 w.1.ss w.1.us).2.2 else(w.1,0)).1:=by
      split
      ·exact h1.trans (Ci4 ..)
      ·exact h1
     generalize (if(E9 w.1.ss w.1.us).2.1.dirty=true then w.1.erase (E9 w.1.ss w.1.us).2.2 else(w.1,0))=z at h2
     split
     ·exact h2
     ·split
      ·exact h2
      ·have h3:=h2.trans (Cy9 z.1 (E9 w.1.ss w.1.us).2.2)
       split
       ·exact h3
       ·exact h3.trans (Ch2 ..)
theorem C12(n:Int): ∀(k:Nat) (s:Sto),Pk s (Sto.room n k s).1
 |0,s=>.refl s
 |k+1,s=>by
  rw[T6]
  split
  ·split<;>exact .refl s
  ·split
   ·exact C26 ..
   ·exact(C26 s n).trans (C12 n k _)
theorem Cj1(e:QD)(l:List QD):By9 (e::l)=e.1.size+e.2.1.length+By9 l:=by simp[By9]
theorem Cx7{l:List QD}(h: ∀e∈l,1<=e.1.size):l.length<=By9 l:=by
 induction l with
 |nil=>simp
 |cons a r ih=>
  have h1:=h a (by simp)
  have h2:=ih fun e he=>h e (by simp[he])
  rw[Cj1,List.length_cons]
  omega
theorem Au9: ∀(k:Nat) (s:Sto),s.q.length<k->0<=s.sc.small->(Sto.trim k s).2≠11->(By9 (Sto.trim k s).1.q:Int)<=s.sc.small
 |0,s,hk,_,_=>absurd hk (by omega)
 |k+1,s,hk,hs,hn=>by
  unfold Sto.trim at hn⊢
  split
  ·rename_i ho
   rw[if_pos ho]at hn
   cases hq:s.q with
   |nil=>rw[hq]at ho;exact absurd ho (by show¬((0:Nat):Int)>_;omega)
   |cons y r=>
    rw[hq]at hn hk
    simp only[List.length_cons]at hk
    dsimp only at hn⊢
    have hw:Qk {s with q:=r} (if y.2.2>0 then({s with q:=r}:Sto).adm y.1 y.2.1 else({s with q:=r},8)).1:=by
     split
     ·exact Aq4 ..
     ·exact .refl _
    generalize (if y.2.2>0 then({s with q:=r}:Sto).adm y.1 y.2.1 else({s with q:=r},8))=w at hw hn
    obtain⟨w1,w2,w3⟩:=hw
    have w1:w.1.q=r:=w1
    have w3:w.1.sc=s.sc:=w3
    split
    ·rename_i h0
     rw[if_pos h0]at hn
     have:=Au9 k w.1 (by rw[w1];omega) (by rw[w3];exact hs) hn
     rw[w3]at this;exact this
    ·rename_i h0
     rw[if_neg h0]at hn
     split
     ·rename_i h1
      rw[if_pos h1]at hn
      exact absurd h1 hn
     ·rename_i h1
      rw[if_neg h1]at hn
      have:=Au9 k {w.1 with gh:=B40 s.sc.ghost w.1.gh (s.hash y.1)} (by show w.1.q.length<k;rw[w1];omega) (by show 0<=w.1.sc.small;rw[w3];exact hs) hn
      have e:({w.1 with gh:=B40 s.sc.ghost w.1.gh (s.hash y.1)}:Sto).sc=s.sc:=w3
      rw[e]at this;exact this
  ·rename_i ho
   exact Int.not_lt.1 ho
structure J8(s:Sto)(M:Nat):Prop where
 ok:SOk s M
 q:s.down=false->s.q.length<=65536
theorem J8.upto{s:Sto}{M N:Nat}(h:J8 s M)(hn:M<=N):J8 s N:=⟨h.ok.upto hn,h.q⟩
theorem Y0{s:Sto}{key:ByteArray}(h:s.asked key=0):s.down=false/\1<=key.size/\key.size<=255:=by
 unfold Sto.asked at h
 split at h
 ·cases h
 ·rename_i h1
  split at h
  ·cases h
  ·rename_i h2
   rw[not_or]at h2
   exact⟨by simpa using h1,by omega,by omega⟩
theorem SOk.putYoung{s:Sto}{M:Nat}(h:SOk s M)(hd:s.down=false)(hq:s.q.length<=65536){key:ByteArray}{val:List UInt8}(hk:1<=key.size/\key.size<=255)(hv:val.length<=65536):
  SOk {s with q:=Ad0 s.q key++[(key,val,0)]} M/\J8 (s.putYoung key val).1 (M+70000)/\(s.putYoung key val).1.sc=s.sc:=by
 have hdl:=V8 s.q key
 have h1:SOk {s with q:=Ad0 s.q key++[(key,val,0)]} M:=h.setq (fun e he=>by
  rcases List.mem_append.1 he with he|he
  ·exact h.qs e (Bl1 _ _ e he)
  ·rw[List.mem_singleton.1 he];exact⟨hk.1,hk.2,hv⟩) (by rw[List.length_append];simp;omega)
 refine⟨h1,?_⟩
 obtain⟨a1,a2,a3⟩:=SOk.trim (s.q.length+2) h1 hd
 have hdone:=Au9 (s.q.length+2) {s with q:=Ad0 s.q key++[(key,val,0)]} (by show(Ad0 s.q key++[(key,val,0)]).length<_;rw[List.length_append];simp;omega) h.sm.1
 have hup:=Bn7 (s.q.length+2) {s with q:=Ad0 s.q key++[(key,val,0)]}
 unfold Sto.putYoung
 refine⟨⟨a1.upto (by omega),fun hdn=>?_⟩,a2⟩
 generalize Sto.trim (s.q.length+2) {s with q:=Ad0 s.q key++[(key,val,0)]}=w at*
 have h11:w.2≠11\/w.2=11:=by omega
 rcases h11 with h11|h11
 ·have h2:=hdone h11
  have h3:=Cx7 (l:=w.1.q) fun e he=>(a1.qs e he).1
  have h4:=h.sm
  have h2:(By9 w.1.q:Int)<=s.sc.small:=h2
  omega
 ·rw[hup h11]at hdn;cases hdn
theorem J8.put{s:Sto}{M:Nat}(h:J8 s M)(key:ByteArray)(val:List UInt8):J8 (s.put key val).1 (M+100000)/\(s.put key val).1.sc=s.sc:=by
 unfold Sto.put
 split
 ·exact⟨h.upto (by omega),rfl⟩
 ·rename_i ha
  obtain⟨hd,hk⟩:=Y0 (s:=s) (key:=key) (by simpa using ha)
  split
  ·exact⟨h.upto (by omega),rfl⟩
  ·rename_i hv
   obtain⟨f1,f2,f3,f4,f5⟩:=h.ok.forget key
   have hq1:(s.forget key).1.q.length<=65536:=by rw[f4];exact Nat.le_trans (V8 _ _) (h.q hd)
   have hd1:(s.forget key).1.down=false:=f2.trans hd
   dsimp only
   generalize (s.forget key).1=s1 at f1 f2 f3 f4 f5 hq1 hd1
   split
   ·exact⟨⟨f1.upto (by omega),fun _=>hq1⟩,f3⟩
   ·split
    ·have hg:SOk {s1 with gh:=s1.gh.erase ((s.hash key:Nat):Int)} (M+1):=f1.setgh (by have h1:=f1.gl;have h2:(s1.gh.erase ((s.hash key:Nat):Int)).length<=s1.gh.length:=List.length_erase_le;omega)
     obtain⟨a1,a2⟩:=hg.adm hd1 key val
     have a3:=Aq4 {s1 with gh:=s1.gh.erase ((s.hash key:Nat):Int)} key val
     have a4:=Aa7 {s1 with gh:=s1.gh.erase ((s.hash key:Nat):Int)} key val
     generalize ({s1 with gh:=s1.gh.erase ((s.hash key:Nat):Int)}:Sto).adm key val=w at a1 a2 a3 a4
     have hq2:w.1.q.length<=65536:=by rw[a3.1];exact hq1
     split
     ·exact⟨⟨a1.upto (by omega),fun _=>hq2⟩,a2.trans f3⟩
     ·rename_i hw
      rw[not_or]at hw
      have:=a1.putYoung ((a4 hw.2).trans hd1) hq2 (val:=val) hk (by omega)
      exact⟨this.2.1.upto (by omega),this.2.2.trans (a2.trans f3)⟩
    ·have:=f1.putYoung hd1 hq1 (val:=val) hk (by omega)
     exact⟨this.2.1.upto (by omega),this.2.2.trans f3⟩
end Go.Proofs.YtbaoieipijmakaaGreatDoor
