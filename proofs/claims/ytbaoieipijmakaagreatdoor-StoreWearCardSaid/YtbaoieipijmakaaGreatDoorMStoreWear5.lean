/-
  It is proved what the functions that the law StoreWear reaches compute, part 5. There are no further conditions than those that each theorem names.
-/
import Derived.Test.YtbaoieipijmakaaGreatDoorMStoreWear4
set_option linter.unusedVariables false
set_option linter.unusedSimpArgs false
namespace Go.Proofs.YtbaoieipijmakaaGreatDoor
open Go.HL
theorem x11{e:Int}(he:e≠11){q:Prop}{x:Int}(h:x=11)(hx:x=e):q:=absurd (hx▸h) he
theorem Bu3(s:Sto){e:Int}(h:e=11):(s.met e).down=true:=by unfold Sto.met;simp[h]
theorem Br1(s:Sto)(kind:Int)(l:List (List UInt8))(h:(s.write kind l).2.2=11):(s.write kind l).1.down=true:=by
 unfold Sto.write at h⊢
 split
 ·rename_i ho
  rw[ho]at h
  first|exact x11 (e:=0) (by decide) h rfl|exact x11 (e:=13) (by decide) h rfl|exact x11 (e:=7) (by decide) h rfl|exact x11 (e:=8) (by decide) h rfl
 ·rename_i o ho
  rw[ho]at h
  dsimp only at h⊢
  split
  ·rename_i h0
   rw[if_pos h0]at h
   exact Bu3 _ h
  ·rename_i h0
   rw[if_neg h0]at h
   first|exact x11 (e:=0) (by decide) h rfl|exact x11 (e:=13) (by decide) h rfl|exact x11 (e:=7) (by decide) h rfl|exact x11 (e:=8) (by decide) h rfl
theorem Cn1(s:Sto)(h:s.seals.2=11):s.seals.1.down=true:=by
 unfold Sto.seals at h⊢
 split
 ·rename_i ho
  rw[ho]at h
  first|exact x11 (e:=0) (by decide) h rfl|exact x11 (e:=13) (by decide) h rfl|exact x11 (e:=7) (by decide) h rfl|exact x11 (e:=8) (by decide) h rfl
 ·rename_i o ho
  rw[ho]at h
  exact Bu3 _ h
theorem Ci7(s:Sto)(b:Int)(h:(s.begins b).2=11):(s.begins b).1.down=true:=by
 unfold Sto.begins at h⊢
 dsimp only at h⊢
 split
 ·rename_i h0
  rw[if_pos h0]at h
  exact Bu3 _ h
 ·rename_i h0
  rw[if_neg h0]at h
  first|exact x11 (e:=0) (by decide) h rfl|exact x11 (e:=13) (by decide) h rfl|exact x11 (e:=7) (by decide) h rfl|exact x11 (e:=8) (by decide) h rfl
theorem Bw4(s:Sto)(b:Int)(h:(s.erase b).2=11):(s.erase b).1.down=true:=by
 unfold Sto.erase at h⊢
 dsimp only at h⊢
 split
 ·exact Bu3 _ rfl
 ·rename_i h0
  rw[if_neg h0]at h
  first|exact x11 (e:=0) (by decide) h rfl|exact x11 (e:=13) (by decide) h rfl|exact x11 (e:=7) (by decide) h rfl|exact x11 (e:=8) (by decide) h rfl
theorem cut_e(key val:List UInt8)(c:Cf):(T4 key val c).2≠11:=by
 intro h
 unfold T4 at h
 repeat' split at h
 all_goals first|exact x11 (e:=0) (by decide) h rfl|exact x11 (e:=2) (by decide) h rfl|exact x11 (e:=4) (by decide) h rfl|exact x11 (e:=14) (by decide) h rfl
theorem C73(s:Sto)(p:It)(n beside:Int)(h:(s.move p n beside).2=11):(s.move p n beside).1.down=true:=by
 unfold Sto.move at h⊢
 dsimp only at h⊢
 split
 ·rename_i h1
  rw[if_pos h1]at h
  first|exact x11 (e:=0) (by decide) h rfl|exact x11 (e:=13) (by decide) h rfl|exact x11 (e:=7) (by decide) h rfl|exact x11 (e:=8) (by decide) h rfl
 ·rename_i h1
  rw[if_neg h1]at h
  split
  ·rename_i h2
   rw[if_pos h2]at h
   first|exact x11 (e:=0) (by decide) h rfl|exact x11 (e:=13) (by decide) h rfl|exact x11 (e:=7) (by decide) h rfl|exact x11 (e:=8) (by decide) h rfl
  ·rename_i h2
   rw[if_neg h2]at h
   split
   ·rename_i h3
    rw[if_pos h3]at h
    exact absurd h (cut_e _ _ _)
   ·rename_i h3
    rw[if_neg h3]at h
    split
    ·rename_i h4
     rw[if_pos h4]at h
     first|exact x11 (e:=0) (by decide) h rfl|exact x11 (e:=13) (by decide) h rfl|exact x11 (e:=7) (by decide) h rfl|exact x11 (e:=8) (by decide) h rfl
    ·rename_i h4
     rw[if_neg h4]at h
     exact Br1 s _ _ h
theorem A69(b ep beside:Int): ∀(l:List It) (s:Sto),(Sto.moves b ep beside l s).2=11->(Sto.moves b ep beside l s).1.down=true
 |[],s,h=>absurd (show(0:Int)=11 from h) (by decide)
 |x::r,s,h=>by
  unfold Sto.moves at h⊢
  split
  ·rename_i hx
   rw[if_pos hx]at h
   exact A69 b ep beside r s h
  ·rename_i hx
   rw[if_neg hx]at h
   dsimp only at h⊢
   split
   ·rename_i h0
    rw[if_pos h0]at h
    exact C73 _ _ _ _ h
   ·rename_i h0
    rw[if_neg h0]at h
    exact A69 b ep beside r _ h
theorem A21(s:Sto)(r:Reg)(beside:Int)(h:(s.reclaim r beside).2=11):(s.reclaim r beside).1.down=true:=by
 unfold Sto.reclaim at h⊢
 dsimp only at h⊢
 split
 ·rename_i h0
  rw[if_pos h0]at h
  exact A69 _ _ _ _ _ h
 ·rename_i h0
  rw[if_neg h0]at h
  exact Bw4 _ _ h
theorem Bv8(n:Int): ∀(k:Nat) (s:Sto),(Sto.frees n k s).2=11->(Sto.frees n k s).1.down=true
 |0,s,h=>absurd (show(0:Int)=11 from h) (by decide)
 |k+1,s,h=>by
  unfold Sto.frees at h⊢
  split
  ·rename_i hf
   rw[if_pos hf]at h
   cases hr:s.rs with
   |nil=>rw[hr]at h;exact absurd (show(0:Int)=11 from h) (by decide)
   |cons r t=>
    rw[hr]at h
    dsimp only at h⊢
    split
    ·rename_i h0
     rw[if_pos h0]at h
     exact A21 _ _ _ h
    ·rename_i h0
     rw[if_neg h0]at h
     exact Bv8 n k _ h
  ·rename_i hf
   rw[if_neg hf]at h
   first|exact x11 (e:=0) (by decide) h rfl|exact x11 (e:=13) (by decide) h rfl|exact x11 (e:=7) (by decide) h rfl|exact x11 (e:=8) (by decide) h rfl
theorem C74(s:Sto)(n:Int)(h:(s.more n).2=11):(s.more n).1.down=true:=by
 unfold Sto.more at h⊢
 split
 ·rename_i h1
  rw[if_pos h1]at h
  first|exact x11 (e:=0) (by decide) h rfl|exact x11 (e:=13) (by decide) h rfl|exact x11 (e:=7) (by decide) h rfl|exact x11 (e:=8) (by decide) h rfl
 ·rename_i h1
  rw[if_neg h1]at h
  split
  ·rename_i h2
   rw[if_pos h2]at h
   first|exact x11 (e:=0) (by decide) h rfl|exact x11 (e:=13) (by decide) h rfl|exact x11 (e:=7) (by decide) h rfl|exact x11 (e:=8) (by decide) h rfl
  ·rename_i h2
   rw[if_neg h2]at h
   split
   ·rename_i h3
    rw[if_pos h3]at h
    cases hr:s.rs with
    |nil=>rw[hr]at h;exact absurd (show(7:Int)=11 from h) (by decide)
    |cons r t=>
     rw[hr]at h
     exact A21 _ _ _ h
   ·rename_i h3
    rw[if_neg h3]at h
    dsimp only at h⊢
    split
    ·rename_i h4
     rw[if_pos h4]at h
     exact Cn1 _ h
    ·rename_i h4
     rw[if_neg h4]at h
     generalize s.seals=w at h
     have ez: ∀z:Sto×Int,z=(if(F5 w.1.ss w.1.us).2.1.dirty=true then w.1.erase (F5 w.1.ss w.1.us).2.2 else(w.1,0))->z.2=11->z.1.down=true:=fun z hz hn=>by
      subst hz
      split
      ·rename_i hd
       rw[if_pos hd]at hn
       exact Bw4 _ _ hn
      ·rename_i hd
       rw[if_neg hd]at hn
       first|exact x11 (e:=0) (by decide) hn rfl|exact x11 (e:=8) (by decide) hn rfl
     have ez:=ez _ rfl
     generalize (if(F5 w.1.ss w.1.us).2.1.dirty=true then w.1.erase (F5 w.1.ss w.1.us).2.2 else(w.1,0))=z at h ez
     split
     ·rename_i h5
      rw[if_pos h5]at h
      exact ez h
     ·rename_i h5
      rw[if_neg h5]at h
      split
      ·rename_i h6
       rw[if_pos h6]at h
       first|exact x11 (e:=0) (by decide) h rfl|exact x11 (e:=13) (by decide) h rfl|exact x11 (e:=7) (by decide) h rfl|exact x11 (e:=8) (by decide) h rfl
      ·rename_i h6
       rw[if_neg h6]at h
       split
       ·rename_i h7
        rw[if_pos h7]at h
        exact Ci7 _ _ h
       ·rename_i h7
        rw[if_neg h7]at h
        exact Bv8 _ _ _ h
theorem Bm6(n:Int): ∀(k:Nat) (s:Sto),(Sto.room n k s).2=11->(Sto.room n k s).1.down=true
 |0,s,h=>absurd (show(13:Int)=11 from h) (by decide)
 |k+1,s,h=>by
  rw[U5]at h⊢
  split
  ·rename_i hf
   rw[if_pos hf]at h
   split at h<;>first|exact x11 (e:=0) (by decide) h rfl|exact x11 (e:=13) (by decide) h rfl|exact x11 (e:=7) (by decide) h rfl|exact x11 (e:=8) (by decide) h rfl
  ·rename_i hf
   rw[if_neg hf]at h
   split
   ·rename_i h0
    rw[if_pos h0]at h
    exact C74 _ _ h
   ·rename_i h0
    rw[if_neg h0]at h
    exact Bm6 n k _ h
theorem Cv8(s:Sto)(key:ByteArray)(val:List UInt8)(h:(s.adm key val).2=11):(s.adm key val).1.down=true:=by
 unfold Sto.adm at h⊢
 dsimp only at h⊢
 split
 ·rename_i h1
  rw[if_pos h1]at h
  exact absurd h (cut_e _ _ _)
 ·rename_i h1
  rw[if_neg h1]at h
  split
  ·rename_i h2
   rw[if_pos h2]at h
   exact Bm6 _ _ _ h
  ·rename_i h2
   rw[if_neg h2]at h
   split
   ·rename_i h3
    rw[if_pos h3]at h
    first|exact x11 (e:=0) (by decide) h rfl|exact x11 (e:=13) (by decide) h rfl|exact x11 (e:=7) (by decide) h rfl|exact x11 (e:=8) (by decide) h rfl
   ·rename_i h3
    rw[if_neg h3]at h
    exact Br1 _ _ _ h
theorem Bl6: ∀(k:Nat) (s:Sto),(Sto.trim k s).2=11->(Sto.trim k s).1.down=true
 |0,s,h=>absurd (show(0:Int)=11 from h) (by decide)
 |k+1,s,h=>by
  unfold Sto.trim at h⊢
  split
  ·rename_i ho
   rw[if_pos ho]at h
   cases hq:s.q with
   |nil=>rw[hq]at h;exact absurd (show(0:Int)=11 from h) (by decide)
   |cons y r=>
    rw[hq]at h
    dsimp only at h⊢
    have hw:(if y.2.2>0 then({s with q:=r}:Sto).adm y.1 y.2.1 else({s with q:=r},8)).2=11->(if y.2.2>0 then({s with q:=r}:Sto).adm y.1 y.2.1 else({s with q:=r},8)).1.down=true:=fun hn=>by
     split
     ·rename_i hf
      rw[if_pos hf]at hn
      exact Cv8 _ _ _ hn
     ·rename_i hf
      rw[if_neg hf]at hn
      first|exact x11 (e:=0) (by decide) hn rfl|exact x11 (e:=8) (by decide) hn rfl
    generalize (if y.2.2>0 then({s with q:=r}:Sto).adm y.1 y.2.1 else({s with q:=r},8))=w at hw h
    split
    ·rename_i h0
     rw[if_pos h0]at h
     exact Bl6 k _ h
    ·rename_i h0
     rw[if_neg h0]at h
     split
     ·rename_i h1
      exact hw h1
     ·rename_i h1
      rw[if_neg h1]at h
      exact Bl6 k _ h
  ·rename_i ho
   rw[if_neg ho]at h
   first|exact x11 (e:=0) (by decide) h rfl|exact x11 (e:=13) (by decide) h rfl|exact x11 (e:=7) (by decide) h rfl|exact x11 (e:=8) (by decide) h rfl
def Pk(s s':Sto):Prop:=s'.pend.length<=s.pend.length
theorem Pk.refl(s:Sto):Pk s s:=Nat.le_refl _
theorem Pk.trans{a b c:Sto}(h:Pk a b)(k:Pk b c):Pk a c:=Nat.le_trans k h
theorem C17(s:Sto)(kind:Int)(l:List (List UInt8)):Pk s (s.write kind l).1:=by
 unfold Sto.write
 split
 ·exact .refl s
 ·dsimp only
  split<;>exact Nat.le_refl _
theorem C39(s:Sto):Pk s s.seals.1:=by
 unfold Sto.seals
 split<;>exact Nat.le_refl _
theorem Cv4(s:Sto)(b:Int):Pk s (s.begins b).1:=by
 unfold Sto.begins
 dsimp only
 split<;>exact Nat.le_refl _
theorem Cg5(s:Sto)(b:Int):Pk s (s.erase b).1:=by
 unfold Sto.erase
 dsimp only
 split<;>exact Nat.le_refl _
theorem Cy9(s:Sto)(p:It)(n beside:Int):Pk s (s.move p n beside).1:=by
 unfold Sto.move
 dsimp only
 split
 ·exact .refl s
 ·split
  ·exact Nat.le_refl _
  ·split
   ·exact .refl s
   ·have:=C17 s 2 (T4 (C6 s.d p).1 (C6 s.d p).2.1 (U2 s.sc.c)).1
    split
    ·exact this
    ·exact this
theorem Bn9(b ep beside:Int): ∀(l:List It) (s:Sto),Pk s (Sto.moves b ep beside l s).1
 |[],s=>.refl s
 |x::r,s=>by
  unfold Sto.moves
  split
  ·exact Bn9 b ep beside r s
  ·dsimp only
   split
   ·exact Cy9 ..
   ·exact(Cy9 s _ _ _).trans (Bn9 b ep beside r _)
theorem Au6(s:Sto)(r:Reg)(beside:Int):Pk s (s.reclaim r beside).1:=by
 unfold Sto.reclaim
 dsimp only
 have h1:=Bn9 r.b r.ep beside r.l s
 split
 ·exact h1
 ·have h2:=Cg5 {(Sto.moves r.b r.ep beside r.l s).1 with pend:=(Sto.moves r.b r.ep beside r.l s).1.pend.filter fun p=> !decide (p.1=r.b)} r.b
  exact h1.trans (Nat.le_trans h2 (List.length_filter_le ..))
theorem Cf4(n:Int): ∀(k:Nat) (s:Sto),Pk s (Sto.frees n k s).1
 |0,s=>.refl s
 |k+1,s=>by
  unfold Sto.frees
  split
  ·split
   ·exact .refl s
   ·dsimp only
    split
    ·exact Au6 ..
    ·exact(Au6 s _ n).trans (Cf4 n k _)
  ·exact .refl s
theorem Cz1(s:Sto)(n:Int):Pk s (s.more n).1:=by
 unfold Sto.more
 split
 ·exact .refl s
 ·split
  ·exact .refl s
  ·split
   ·split
    ·exact .refl s
    ·exact Au6 ..
   ·dsimp only
    have h1:=C39 s
    generalize s.seals=w at h1
    split
    ·exact h1
    ·have h2:Pk s (if(F5 w.1.ss w.1.us).2.1.dirty=true then w.1.erase (F5 w.1.ss w.1.us).2.2 else(w.1,0)).1:=by
      split
      ·exact h1.trans (Cg5 ..)
      ·exact h1
     generalize (if(F5 w.1.ss w.1.us).2.1.dirty=true then w.1.erase (F5 w.1.ss w.1.us).2.2 else(w.1,0))=z at h2
     split
     ·exact h2
     ·split
      ·exact h2
      ·have h3:=h2.trans (Cv4 z.1 (F5 w.1.ss w.1.us).2.2)
       split
       ·exact h3
       ·exact h3.trans (Cf4 ..)
theorem Cx7(n:Int): ∀(k:Nat) (s:Sto),Pk s (Sto.room n k s).1
 |0,s=>.refl s
 |k+1,s=>by
  rw[U5]
  split
  ·split<;>exact .refl s
  ·split
   ·exact Cz1 ..
   ·exact(Cz1 s n).trans (Cx7 n k _)
theorem Ch1(e:QD)(l:List QD):Bx1 (e::l)=e.1.size+e.2.1.length+Bx1 l:=by simp[Bx1]
theorem Cu2{l:List QD}(h: ∀e∈l,1<=e.1.size):l.length<=Bx1 l:=by
 induction l with
 |nil=>simp
 |cons a r ih=>
  have h1:=h a (by simp)
  have h2:=ih fun e he=>h e (by simp[he])
  rw[Ch1,List.length_cons]
  omega
theorem As9: ∀(k:Nat) (s:Sto),s.q.length<k->0<=s.sc.small->(Sto.trim k s).2≠11->(Bx1 (Sto.trim k s).1.q:Int)<=s.sc.small
 |0,s,hk,_,_=>absurd hk (by omega)
 |k+1,s,hk,hs,hn=>by
  unfold Sto.trim at hn⊢
  split
  ·rename_i ho
   rw[if_pos ho]at hn
   cases hq:s.q with
   |nil=>rw[hq]at ho;exact absurd ho (by show¬((0:Nat):Int)>_;omega)
   |cons y r=>
    rw[hq]at hn hk
    simp only[List.length_cons]at hk
    dsimp only at hn⊢
    have hw:Qk {s with q:=r} (if y.2.2>0 then({s with q:=r}:Sto).adm y.1 y.2.1 else({s with q:=r},8)).1:=by
     split
     ·exact Az1 ..
     ·exact .refl _
    generalize (if y.2.2>0 then({s with q:=r}:Sto).adm y.1 y.2.1 else({s with q:=r},8))=w at hw hn
    obtain⟨w1,w2,w3⟩:=hw
    have w1:w.1.q=r:=w1
    have w3:w.1.sc=s.sc:=w3
    split
    ·rename_i h0
     rw[if_pos h0]at hn
     have:=As9 k w.1 (by rw[w1];omega) (by rw[w3];exact hs) hn
     rw[w3]at this;exact this
    ·rename_i h0
     rw[if_neg h0]at hn
     split
     ·rename_i h1
      rw[if_pos h1]at hn
      exact absurd h1 hn
     ·rename_i h1
      rw[if_neg h1]at hn
      have:=As9 k {w.1 with gh:=Cf2 s.sc.ghost w.1.gh (s.hash y.1)} (by show w.1.q.length<k;rw[w1];omega) (by show 0<=w.1.sc.small;rw[w3];exact hs) hn
      have e:({w.1 with gh:=Cf2 s.sc.ghost w.1.gh (s.hash y.1)}:Sto).sc=s.sc:=w3
      rw[e]at this;exact this
  ·rename_i ho
   exact Int.not_lt.1 ho
structure K8(s:Sto)(M:Nat):Prop where
 ok:SOk s M
 q:s.down=false->s.q.length<=65536
theorem K8.upto{s:Sto}{M N:Nat}(h:K8 s M)(hn:M<=N):K8 s N:=⟨h.ok.upto hn,h.q⟩
theorem Aa0{s:Sto}{key:ByteArray}(h:s.asked key=0):s.down=false/\1<=key.size/\key.size<=255:=by
 unfold Sto.asked at h
 split at h
 ·cases h
 ·rename_i h1
  split at h
  ·cases h
  ·rename_i h2
   rw[not_or]at h2
   exact⟨by simpa using h1,by omega,by omega⟩
theorem SOk.putYoung{s:Sto}{M:Nat}(h:SOk s M)(hd:s.down=false)(hq:s.q.length<=65536){key:ByteArray}{val:List UInt8}(hk:1<=key.size/\key.size<=255)(hv:val.length<=65536):
  SOk {s with q:=Ac5 s.q key++[(key,val,0)]} M/\K8 (s.putYoung key val).1 (M+70000)/\(s.putYoung key val).1.sc=s.sc:=by
 have hdl:=Y3 s.q key
 have h1:SOk {s with q:=Ac5 s.q key++[(key,val,0)]} M:=h.setq (fun e he=>by
  rcases List.mem_append.1 he with he|he
  ·exact h.qs e (Bj1 _ _ e he)
  ·rw[List.mem_singleton.1 he];exact⟨hk.1,hk.2,hv⟩) (by rw[List.length_append];simp;omega)
 refine⟨h1,?_⟩
 obtain⟨a1,a2,a3⟩:=SOk.trim (s.q.length+2) h1 hd
 have hdone:=As9 (s.q.length+2) {s with q:=Ac5 s.q key++[(key,val,0)]} (by show(Ac5 s.q key++[(key,val,0)]).length<_;rw[List.length_append];simp;omega) h.sm.1
 have hup:=Bl6 (s.q.length+2) {s with q:=Ac5 s.q key++[(key,val,0)]}
 unfold Sto.putYoung
 refine⟨⟨a1.upto (by omega),fun hdn=>?_⟩,a2⟩
 generalize Sto.trim (s.q.length+2) {s with q:=Ac5 s.q key++[(key,val,0)]}=w at*
 have h11:w.2≠11\/w.2=11:=by omega
 rcases h11 with h11|h11
 ·have h2:=hdone h11
  have h3:=Cu2 (l:=w.1.q) fun e he=>(a1.qs e he).1
  have h4:=h.sm
  have h2:(Bx1 w.1.q:Int)<=s.sc.small:=h2
  omega
 ·rw[hup h11]at hdn;cases hdn
theorem K8.put{s:Sto}{M:Nat}(h:K8 s M)(key:ByteArray)(val:List UInt8):K8 (s.put key val).1 (M+100000)/\(s.put key val).1.sc=s.sc:=by
 unfold Sto.put
 split
 ·exact⟨h.upto (by omega),rfl⟩
 ·rename_i ha
  obtain⟨hd,hk⟩:=Aa0 (s:=s) (key:=key) (by simpa using ha)
  split
  ·exact⟨h.upto (by omega),rfl⟩
  ·rename_i hv
   obtain⟨f1,f2,f3,f4,f5⟩:=h.ok.forget key
   have hq1:(s.forget key).1.q.length<=65536:=by rw[f4];exact Nat.le_trans (Y3 _ _) (h.q hd)
   have hd1:(s.forget key).1.down=false:=f2.trans hd
   dsimp only
   generalize (s.forget key).1=s1 at f1 f2 f3 f4 f5 hq1 hd1
   split
   ·exact⟨⟨f1.upto (by omega),fun _=>hq1⟩,f3⟩
   ·split
    ·have hg:SOk {s1 with gh:=s1.gh.erase ((s.hash key:Nat):Int)} (M+1):=f1.setgh (by have h1:=f1.gl;have h2:(s1.gh.erase ((s.hash key:Nat):Int)).length<=s1.gh.length:=List.length_erase_le;omega)
     obtain⟨a1,a2⟩:=hg.adm hd1 key val
     have a3:=Az1 {s1 with gh:=s1.gh.erase ((s.hash key:Nat):Int)} key val
     have a4:=Ah2 {s1 with gh:=s1.gh.erase ((s.hash key:Nat):Int)} key val
     generalize ({s1 with gh:=s1.gh.erase ((s.hash key:Nat):Int)}:Sto).adm key val=w at a1 a2 a3 a4
     have hq2:w.1.q.length<=65536:=by rw[a3.1];exact hq1
     split
     ·exact⟨⟨a1.upto (by omega),fun _=>hq2⟩,a2.trans f3⟩
     ·rename_i hw
      rw[not_or]at hw
      have:=a1.putYoung ((a4 hw.2).trans hd1) hq2 (val:=val) hk (by omega)
      exact⟨this.2.1.upto (by omega),this.2.2.trans (a2.trans f3)⟩
    ·have:=f1.putYoung hd1 hq1 (val:=val) hk (by omega)
     exact⟨this.2.1.upto (by omega),this.2.2.trans f3⟩
theorem At4(p:SP)(s:Sto)(g:SG)(X:SX p s g){M:Nat}(h:K8 s M)(hM:M<=900000000)(R:A4)(hT:Tab R)(key:ByteArray)(u:SlV)(val:List UInt8)(hu:BSl R u val):
  CallF PP 17 #[.pointer (some ⟨p.n,0,none⟩),.string key,.slice u.a u.len u.cap] (SL p s g++R) (SK p (s.put key val) R):=by
 refine c17 (some ⟨p.n,0,none⟩) key u ?_
 unfold s17
 have hp0:(SL p s g++R).Perm (SL p s g++R):=List.Perm.refl _
 have hul:=hu.len
 have hpv:s.put key val=(if s.asked key≠0 then(s,s.asked key)else if val.length>65536 then(s,4)else
  if H9 key.size val.length (U2 s.sc.c)=0 then((s.forget key).1,14)else
  if((s.hash key:Nat):Int)∈(s.forget key).1.gh then
   (if(({(s.forget key).1 with gh:=(s.forget key).1.gh.erase ((s.hash key:Nat):Int)}:Sto).adm key val).2=0\/(({(s.forget key).1 with gh:=(s.forget key).1.gh.erase ((s.hash key:Nat):Int)}:Sto).adm key val).2=11 then({(s.forget key).1 with gh:=(s.forget key).1.gh.erase ((s.hash key:Nat):Int)}:Sto).adm key val else(({(s.forget key).1 with gh:=(s.forget key).1.gh.erase ((s.hash key:Nat):Int)}:Sto).adm key val).1.putYoung key val)
  else(s.forget key).1.putYoung key val):=rfl
 refine B7 (Aa6 hp0 key) (s.asked key,()) rfl ?_
 refine B8 (fun(ha:s.asked key=0)=>?_) (fun(ha: ¬s.asked key=0)=>?_)
 ·rw[if_neg (by simpa using ha)]at hpv
  obtain⟨hd,hk⟩:=Aa0 ha
  refine B8 (fun(hl:(u.len:Int)>65536)=>?_) (fun(hl: ¬(u.len:Int)>65536)=>?_)
  ·rw[if_pos (by omega)]at hpv
   rw[hpv];exact .of ⟨g,rfl,X,rfl⟩
  ·rw[if_neg (by omega)]at hpv
   refine G2 (A16 p s g X h.ok.dv key (by omega) (h.ok.row _) (Nat.le_trans h.ok.pl (by omega))) hp0 ?_
   rintro _ _ ⟨g1,hL1,X1,rfl⟩
   rw[List.append_nil]at hL1
   rw[hL1]
   refine⟨_,List.Perm.refl _,((s.forget key).2,()),rfl,?_⟩
   obtain⟨f1,f2,f3,f4,f5⟩:=h.ok.forget key
   have hq1:(s.forget key).1.q.length<=65536:=by rw[f4];exact Nat.le_trans (Y3 _ _) (h.q hd)
   have hd1:(s.forget key).1.down=false:=f2.trans hd
   have hh1:(s.forget key).1.hash key=s.hash key:=by unfold Sto.hash;rw[f3]
   rw[<-f3]at hpv
   generalize (s.forget key).1=s1 at f1 f2 f3 f4 f5 hq1 hd1 hh1 X1 hpv
   have hP:=f1.P
   have hp1:(SL p s1 g1++R).Perm (SL p s1 g1++R):=List.Perm.refl _
   refine A5 rfl (A6 (sh:=.agg [.int .i64,.int .i64,.int .i64,.int .i64]) ((s1.sc.c.B:Int),(s1.sc.c.P:Int),(s1.sc.c.S:Int),(s1.sc.c.W:Int),()) (Cm0 (SL.st hp1)) ?_)
   refine B7 (Bt9 _ (hT.mono fun y hy=>by simp[hy]) key.size u.len (U2 s1.sc.c) (by show(s1.sc.c.P:Int)<=_;omega)) (H9 key.size u.len (U2 s1.sc.c),()) rfl ?_
   dsimp only
   rw[hul]
   refine B8 (fun(h0:H9 key.size val.length (U2 s1.sc.c)=0)=>?_) (fun(h0: ¬H9 key.size val.length (U2 s1.sc.c)=0)=>?_)
   ·rw[if_pos h0]at hpv
    rw[hpv];exact .of ⟨g1,rfl,X1,rfl⟩
   ·rw[if_neg h0]at hpv
    refine U0 (fun _ L'=> ∃(s2:Sto) (g2:SG),s.put key val=s2.putYoung key val/\SOk s2 (M+2)/\s2.down=false/\s2.q.length<=65536/\SX p s2 g2/\L'.Perm (SL p s2 g2++R)) ?_ ?_
    ·rintro _ L2 ⟨s2,g2,he,k1,k2,k3,X2,hp2⟩
     rw[he]
     refine A6 (some ⟨p.nq,0,none⟩) (E7 (SL.st hp2) rfl) ?_
     rw[<-hul]
     refine G2 (Co3 p.nq s2.sc.small s2.q g2.Aq R X2.que (by omega) key (by omega) u val hu (by omega)) (R:=stO p s2 g2::(kO p s2::(mO p g2::(gO p g2::(g2.Ad++(g2.Ab++(rns g2.ns++(rns g2.on.toList++(g2.pseg++g2.Ai))))))))) (pc fun z=>by have:=pcn hp2 z;simp only[SL,B6,C5,D8]at*;omega) ?_
     rintro _ _ ⟨rfl,Aq',rfl,hq'⟩
     refine⟨_,List.Perm.refl _,(),rfl,?_⟩
     obtain⟨s3,hs3⟩: ∃s3:Sto,s3={s2 with q:=Ac5 s2.q key++[(key,val,0)]}:=⟨_,rfl⟩
     obtain⟨g3,hg3⟩: ∃g3:SG,g3={g2 with Aq:=Aq'}:=⟨_,rfl⟩
     have X3:SX p s3 g3:=by rw[hs3,hg3];exact{X2 with cfg:=X2.cfg,dev:=X2.dev,blk:=X2.blk,que:=hq'}
     have hp3:((Aq'++R)++(stO p s2 g2::(kO p s2::(mO p g2::(gO p g2::(g2.Ad++(g2.Ab++(rns g2.ns++(rns g2.on.toList++(g2.pseg++g2.Ai)))))))))).Perm (SL p s3 g3++R):=pc fun z=>by
      have e1:stO p s3 g3=stO p s2 g2:=by rw[hs3,hg3];rfl
      have e2:kO p s3=kO p s2:=by rw[hs3];rfl
      have e3:mO p g3=mO p g2:=by rw[hg3];rfl
      have e4:gO p g3=gO p g2:=by rw[hg3];rfl
      simp only[SL,e1,e2,e3,e4,B6,C5,D8]
      simp only[hg3]
      omega
     generalize (Aq'++R)++(stO p s2 g2::(kO p s2::(mO p g2::(gO p g2::(g2.Ad++(g2.Ab++(rns g2.ns++(rns g2.on.toList++(g2.pseg++g2.Ai)))))))))=L3 at hp3
     have hy:=k1.putYoung k2 k3 (val:=val) hk (by omega)
     have hl3:s3.q.length<s2.q.length+2:=by rw[hs3];show(Ac5 s2.q key++[(key,val,0)]).length<_;rw[List.length_append];have:=Y3 s2.q key;simp;omega
     refine Ap5 (Cl8 p s3 g3 X3 (M:=M+2) (by rw[hs3];exact hy.1) (s2.q.length+2) hl3 (by omega) (by rw[hs3];exact k2) R hT) hp3 ?_
     have hpy:s2.putYoung key val=Sto.trim (s2.q.length+2) s3:=by rw[hs3];rfl
     rw[<-hpy]
     rintro _ _ ⟨g4,rfl,X4,rfl⟩
     exact⟨((s2.putYoung key val).2,()),rfl,.of ⟨g4,rfl,X4,rfl⟩⟩
    ·intro j1 hj1
     refine A6 (some ⟨p.ng,0,none⟩) (E7 (SL.st hp1) rfl) ?_
     refine B7 (Z2 hp1 key (by omega)) (((s1.hash key:Nat):Int),()) rfl ?_
     refine E5 (E7 (SL.st hp1) rfl) ?_
     rw[hh1]
     obtain⟨s2,hs2⟩: ∃s2:Sto,s2={s1 with gh:=s1.gh.erase ((s.hash key:Nat):Int)}:=⟨_,rfl⟩
     rw[<-hs2]at hpv
     refine sgh hp1 X1 (Ch2 p.ng s1.sc.ghost s1.gh g1.go X1.gho ((s.hash key:Nat):Int)) (decide (((s.hash key:Nat):Int)∈s1.gh),()) rfl s2 hs2 fun g2 L2 hp2 X2=>?_
     have k1:SOk s2 (M+1):=by
      rw[hs2]
      refine f1.setgh ?_
      have h1:=f1.gl
      have h2:(s1.gh.erase ((s.hash key:Nat):Int)).length<=s1.gh.length:=List.length_erase_le
      omega
     have hd2:s2.down=false:=by rw[hs2];exact hd1
     have hq2:s2.q=s1.q:=by rw[hs2]
     refine B8 (fun(hin:((s.hash key:Nat):Int)∈s1.gh)=>?_) (fun(hin: ¬((s.hash key:Nat):Int)∈s1.gh)=>?_)
     ·rw[if_pos hin]at hpv
      have hcall:=Bd5 p s2 g2 X2 k1 (by omega) hd2 R hT key (by omega) u val hu
      rw[hul]at hcall
      refine Ap5 hcall hp2 ?_
      rintro _ _ ⟨g3,rfl,X3,rfl⟩
      have a1:=(k1.adm hd2 key val).1
      have a3:=(Az1 s2 key val).1
      have a4:=Ah2 s2 key val
      generalize s2.adm key val=w at X3 a1 a3 a4 hpv
      refine⟨(w.2,()),rfl,?_⟩
      refine B8 (fun(h1:w.2=0)=>?_) (fun(h1: ¬w.2=0)=>?_)
      ·rw[if_pos (.inl h1)]at hpv
       rw[hpv];exact .of ⟨g3,rfl,X3,rfl⟩
      ·refine B8 (fun(h2:w.2=11)=>?_) (fun(h2: ¬w.2=11)=>?_)
       ·rw[if_pos (.inr h2)]at hpv
        rw[hpv];exact .of ⟨g3,rfl,X3,rfl⟩
       ·rw[if_neg (by rintro(hh|hh);exact h1 hh;exact h2 hh)]at hpv
        exact hj1 _ _ ⟨w.1,g3,hpv,a1,(a4 h2).trans hd2,by rw[a3,hq2];exact hq1,X3,List.Perm.refl _⟩
     ·rw[if_neg hin]at hpv
      have e:s2=s1:=by rw[hs2,List.erase_of_not_mem hin]
      exact hj1 _ _ ⟨s2,g2,by rw[hpv,e],k1.upto (by omega),hd2,by rw[hq2];exact hq1,X2,hp2⟩
 ·rw[if_pos (by simpa using ha)]at hpv
  rw[hpv];exact .of ⟨g,rfl,X,rfl⟩
theorem B29{l:List QD}{k:ByteArray}(h:U1 l k=none):Aq7 l k=l:=by
 unfold U1 at h
 rw[List.find?_eq_none]at h
 unfold Aq7
 conv=>rhs;rw[<-List.map_id l]
 refine List.map_congr_left fun e he=>?_
 rw[if_neg (fun e2=>h e he (by simp[e2]))];rfl
def GK(p:SP)(w:Sto×List UInt8×Int)(R:A4)(r:Value)(L':A4):Prop:= ∃(g':SG) (u:SlV) (sg:A4),L'=sg++(SL p w.1 g'++R)/\SX p w.1 g'/\Own u 1 eB (bvs w.2.1) sg/\r= .tuple #[.slice u.a u.len u.cap,.i w.2.2]
theorem Bm2(p:SP)(s:Sto)(g:SG)(X:SX p s g){M:Nat}(h:SOk s M)(key:ByteArray):
  CallF PP 25 #[.pointer (some ⟨p.n,0,none⟩),.string key] (SL p s g) (GK p (s.get key) []):=by
 refine c25 (some ⟨p.n,0,none⟩) key ?_
 unfold s25
 have hp0:(SL p s g).Perm (SL p s g++[]):=by rw[List.append_nil]
 have hgv:s.get key=(if s.asked key≠0 then(s,[],s.asked key)else match U1 s.q key with
  |some e=>({s with q:=Aq7 s.q key},e.2.1,0)
  |none=>match s.place key with
   |none=>(s,[],8)
   |some p=>({s with ix:=iset s.ix (s.hash key) (Aq6 (P2 s.ix (s.hash key)) (inm (s.hash key) p))},(C6 s.d p).2.1,0)):=rfl
 refine B7 (Aa6 hp0 key) (s.asked key,()) rfl ?_
 refine B8 (fun(ha:s.asked key=0)=>?_) (fun(ha: ¬s.asked key=0)=>?_)
 ·rw[if_neg (by simpa using ha)]at hgv
  obtain⟨hd,hk⟩:=Aa0 ha
  refine A5 rfl (A6 (some ⟨p.nq,0,none⟩) (E7 (SL.st hp0) rfl) ?_)
  refine G2 (Co8 p.nq s.sc.small s.q g.Aq X.que key) (R:=stO p s g::(kO p s::(mO p g::(gO p g::(g.Ad++(g.Ab++(rns g.ns++(rns g.on.toList++(g.pseg++g.Ai))))))))) (pc fun z=>by simp only[SL,B6,C5,D8];omega) ?_
  rintro _ _ ⟨u,seg,Aq',rfl,rfl,own,hq'⟩
  refine⟨_,List.Perm.refl _,(u,(U1 s.q key).isSome,()),rfl,?_⟩
  obtain⟨s1,hs1⟩: ∃s1:Sto,s1={s with q:=Aq7 s.q key}:=⟨_,rfl⟩
  obtain⟨g1,hg1⟩: ∃g1:SG,g1={g with Aq:=Aq'}:=⟨_,rfl⟩
  have X1:SX p s1 g1:=by rw[hs1,hg1];exact{X with cfg:=X.cfg,dev:=X.dev,blk:=X.blk,que:=hq'}
  have hp1:((seg++Aq')++(stO p s g::(kO p s::(mO p g::(gO p g::(g.Ad++(g.Ab++(rns g.ns++(rns g.on.toList++(g.pseg++g.Ai)))))))))).Perm (SL p s1 g1++seg):=pc fun z=>by
   have e1:stO p s1 g1=stO p s g:=by rw[hs1,hg1];rfl
   have e2:kO p s1=kO p s:=by rw[hs1];rfl
   have e3:mO p g1=mO p g:=by rw[hg1];rfl
   have e4:gO p g1=gO p g:=by rw[hg1];rfl
   simp only[SL,e1,e2,e3,e4,B6,C5,D8]
   simp only[hg1]
   omega
  generalize (seg++Aq')++(stO p s g::(kO p s::(mO p g::(gO p g::(g.Ad++(g.Ab++(rns g.ns++(rns g.on.toList++(g.pseg++g.Ai)))))))))=L1 at hp1
  cases hf:U1 s.q key with
  |some e=>
   rw[hf]at hgv own
   refine ifT rfl ?_
   rw[hgv]
   refine .drop (A:=seg++SL p s1 g1) (J:=[]) ⟨g1,u,seg,by rw[hs1,List.append_nil],by rw[<-hs1];exact X1,own,rfl⟩ (pc fun z=>by have:=pcn hp1 z;simp only[B6,D8]at*;omega)
  |none=>
   rw[hf]at hgv
   refine ifF rfl ?_
   have e:s1=s:=by rw[hs1,B29 hf]
   rw[e]at X1 hp1
   dsimp only at hgv
   refine G2 (Ak0 p s g1 X1 h.dv key (by omega) (h.row _).len (h.row _).wf) hp1 ?_
   rintro _ _ ⟨v,sg,rfl,rfl,own2⟩
   refine⟨(SL p s g1++(sg++seg)),pc fun z=>by simp only[B6];omega,((((s.place key).getD (0,0,0,())).1,((s.place key).getD (0,0,0,())).2.1,((s.place key).getD (0,0,0,())).2.2.1,()),v,(s.place key).isSome,()),rfl,?_⟩
   dsimp only
   have hp2:(SL p s g1++(sg++seg)).Perm (SL p s g1++(sg++seg)):=List.Perm.refl _
   unfold Sto.placeV at own2
   cases hpl:s.place key with
   |none=>
    rw[hpl]at hgv
    refine ifF rfl ?_
    rw[hgv]
    exact .drop (A:=SL p s g1) (J:=sg++seg) ⟨g1,⟨none,0,0⟩,[],by simp,X1,F6,rfl⟩ hp2
   |some x=>
    rw[hpl]at hgv own2
    refine ifT rfl (A6 (some ⟨p.ni,0,none⟩) (E7 (SL.st hp2) rfl) (B7 (Z2 hp2 key (by omega)) (((s.hash key:Nat):Int),()) rfl (E5 (E7 (SL.st hp2) rfl) ?_)))
    refine six hp2 X1 (C92 p.ni s.sc.ways s.ix g1.Ai X1.idx (s.hash key) (Ax8 s key) x (h.row _).fr) ((Q0 s.ix (s.hash key) x).isSome,()) rfl {s with ix:=iset s.ix (s.hash key) (Aq6 (P2 s.ix (s.hash key)) (inm (s.hash key) x))} rfl fun g3 L3 hp3 X3 _=>?_
    rw[hgv]
    exact .drop (A:=sg++SL p _ g3) (J:=seg) ⟨g3,v,sg,by rw[List.append_nil],X3,own2,rfl⟩ (pc fun z=>by have:=pcn hp3 z;simp only[B6]at*;omega)
 ·rw[if_pos (by simpa using ha)]at hgv
  rw[hgv]
  exact .of ⟨g,⟨none,0,0⟩,[],by simp,X,F6,rfl⟩
def PK(w:List UInt8×Int)(A:A4)(r:Value)(L':A4):Prop:= ∃(u:SlV) (sg:A4),L'=sg++A/\Own u 1 eB (bvs w.1) sg/\r= .tuple #[.slice u.a u.len u.cap,.i w.2]
theorem Cm5(p:SP)(s:Sto)(g:SG)(X:SX p s g){M:Nat}(h:SOk s M)(key:ByteArray):
  CallF PP 20 #[.pointer (some ⟨p.n,0,none⟩),.string key] (SL p s g) (PK (s.peek key) (SL p s g)):=by
 refine c20 (some ⟨p.n,0,none⟩) key ?_
 unfold s20
 have hp0:(SL p s g).Perm (SL p s g++[]):=by rw[List.append_nil]
 have hgv:s.peek key=(if s.asked key≠0 then([],s.asked key)else match U1 s.q key with
  |some e=>(e.2.1,0)
  |none=>match s.place key with
   |none=>([],8)
   |some p=>((C6 s.d p).2.1,0)):=rfl
 refine B7 (Aa6 hp0 key) (s.asked key,()) rfl ?_
 refine B8 (fun(ha:s.asked key=0)=>?_) (fun(ha: ¬s.asked key=0)=>?_)
 ·rw[if_neg (by simpa using ha)]at hgv
  obtain⟨hd,hk⟩:=Aa0 ha
  refine A5 rfl (A6 (some ⟨p.nq,0,none⟩) (E7 (SL.st hp0) rfl) ?_)
  refine G2 (B89 p.nq s.sc.small s.q g.Aq X.que key) (R:=stO p s g::(kO p s::(mO p g::(gO p g::(g.Ad++(g.Ab++(rns g.ns++(rns g.on.toList++(g.pseg++g.Ai))))))))) (pc fun z=>by simp only[SL,B6,C5,D8];omega) ?_
  rintro _ _ ⟨u,seg,rfl,rfl,own⟩
  refine⟨SL p s g++seg,pc fun z=>by simp only[SL,B6,C5,D8];omega,(u,(U1 s.q key).isSome,()),rfl,?_⟩
  cases hf:U1 s.q key with
  |some e=>
   rw[hf]at hgv own
   refine ifT rfl ?_
   rw[hgv]
   exact .drop (A:=seg++SL p s g) (J:=[]) ⟨u,seg,rfl,own,rfl⟩ (pc fun z=>by simp only[B6,D8];omega)
  |none=>
   rw[hf]at hgv
   refine ifF rfl ?_
   dsimp only at hgv
   refine G2 (Ak0 p s g X h.dv key (by omega) (h.row _).len (h.row _).wf) (List.Perm.refl _) ?_
   rintro _ _ ⟨v,sg,rfl,rfl,own2⟩
   refine⟨_,List.Perm.refl _,((((s.place key).getD (0,0,0,())).1,((s.place key).getD (0,0,0,())).2.1,((s.place key).getD (0,0,0,())).2.2.1,()),v,(s.place key).isSome,()),rfl,?_⟩
   dsimp only
   unfold Sto.placeV at own2
   cases hpl:s.place key with
   |none=>
    rw[hpl]at hgv
    refine ifF rfl ?_
    rw[hgv]
    exact .drop (A:=SL p s g) (J:=sg++seg) ⟨⟨none,0,0⟩,[],by simp,F6,rfl⟩ (pc fun z=>by simp only[B6];omega)
   |some x=>
    rw[hpl]at hgv own2
    refine ifT rfl ?_
    rw[hgv]
    exact .drop (A:=sg++SL p s g) (J:=seg) ⟨v,sg,rfl,own2,rfl⟩ (List.Perm.refl _)
 ·rw[if_pos (by simpa using ha)]at hgv
  rw[hgv]
  exact .of ⟨⟨none,0,0⟩,[],by simp,F6,rfl⟩
def DK(p:SP)(w:Sto×Bool×Int)(R:A4)(r:Value)(L':A4):Prop:= ∃g',L'=SL p w.1 g'++R/\SX p w.1 g'/\r= .tuple #[.bool w.2.1,.i w.2.2]
theorem A17(p:SP)(s:Sto)(g:SG)(X:SX p s g){M:Nat}(h:SOk s M)(hM:M<=1000000000)(key:ByteArray):
  CallF PP 26 #[.pointer (some ⟨p.n,0,none⟩),.string key] (SL p s g) (DK p (s.delete key) []):=by
 refine c26 (some ⟨p.n,0,none⟩) key ?_
 unfold s26
 have hp0:(SL p s g).Perm (SL p s g++[]):=by rw[List.append_nil]
 have hdv:s.delete key=(if s.asked key≠0 then(s,false,s.asked key)else((s.forget key).1,(s.forget key).2,0)):=rfl
 refine B7 (Aa6 hp0 key) (s.asked key,()) rfl ?_
 refine B8 (fun(ha:s.asked key=0)=>?_) (fun(ha: ¬s.asked key=0)=>?_)
 ·rw[if_neg (by simpa using ha)]at hdv
  obtain⟨hd,hk⟩:=Aa0 ha
  refine R4 (A16 p s g X h.dv key (by omega) (h.row _) (Nat.le_trans h.pl hM)) ?_
  rintro _ _-⟨g1,rfl,X1,rfl⟩
  rw[hdv]
  exact⟨((s.forget key).2,()),rfl,.of ⟨g1,rfl,X1,rfl⟩⟩
 ·rw[if_pos (by simpa using ha)]at hdv
  rw[hdv]
  exact .of ⟨g,by simp,X,rfl⟩
theorem C36(p:SP)(s:Sto)(g:SG)(X:SX p s g){M:Nat}(h:SOk s M)(key:ByteArray):
  Reads PP 19 #[.pointer (some ⟨p.n,0,none⟩),.string key] (SL p s g) (.i (s.has key)):=by
 unfold Reads
 refine c19 (some ⟨p.n,0,none⟩) key ?_
 unfold s19
 have hp0:(SL p s g).Perm (SL p s g++[]):=by rw[List.append_nil]
 have hhv:s.has key=(if s.asked key≠0 then 0 else if(U1 s.q key).isSome then 1 else if(s.place key).isSome then 2 else 0):=rfl
 refine B7 (Aa6 hp0 key) (s.asked key,()) rfl ?_
 refine B8 (fun(ha:s.asked key=0)=>?_) (fun(ha: ¬s.asked key=0)=>?_)
 ·rw[if_neg (by simpa using ha)]at hhv
  obtain⟨hd,hk⟩:=Aa0 ha
  refine A5 rfl (A6 (some ⟨p.nq,0,none⟩) (E7 (SL.st hp0) rfl) ?_)
  refine B7 (Reads.has (SL.q hp0) (Co7 p.nq s.sc.small s.q g.Aq X.que key)) ((U1 s.q key).isSome,()) rfl ?_
  refine G0 (fun(hf:(U1 s.q key).isSome=true)=>?_) (fun(hf:(U1 s.q key).isSome=false)=>?_)
  ·rw[if_pos hf]at hhv
   rw[hhv];exact .of ⟨rfl,rfl⟩
  ·rw[if_neg (by rw[hf];decide)]at hhv
   refine R4 (Ak0 p s g X h.dv key (by omega) (h.row _).len (h.row _).wf) ?_
   rintro _ _-⟨v,sg,rfl,rfl,own2⟩
   refine⟨((((s.place key).getD (0,0,0,())).1,((s.place key).getD (0,0,0,())).2.1,((s.place key).getD (0,0,0,())).2.2.1,()),v,(s.place key).isSome,()),rfl,?_⟩
   dsimp only
   refine G0 (fun(hpl:(s.place key).isSome=true)=>?_) (fun(hpl:(s.place key).isSome=false)=>?_)
   ·rw[if_pos hpl]at hhv
    rw[hhv];exact .drop (A:=SL p s g) (J:=sg) ⟨rfl,rfl⟩ List.perm_append_comm
   ·rw[if_neg (by rw[hpl];decide)]at hhv
    rw[hhv];exact .drop (A:=SL p s g) (J:=sg) ⟨rfl,rfl⟩ List.perm_append_comm
 ·rw[if_pos (by simpa using ha)]at hhv
  rw[hhv];exact .of ⟨rfl,rfl⟩
def Sto.ghosted(s:Sto)(key:ByteArray):Bool:=if s.asked key=0 then decide (((s.hash key:Nat):Int)∈s.gh)else false
theorem Bm1(p:SP)(s:Sto)(g:SG)(X:SX p s g)(key:ByteArray):Reads PP 13 #[.pointer (some ⟨p.n,0,none⟩),.string key] (SL p s g) (.bool (s.ghosted key)):=by
 unfold Reads
 refine c13 (some ⟨p.n,0,none⟩) key ?_
 unfold s13
 have hp0:(SL p s g).Perm (SL p s g++[]):=by rw[List.append_nil]
 unfold Sto.ghosted
 refine B7 (Aa6 hp0 key) (s.asked key,()) rfl ?_
 refine B8 (fun(ha:s.asked key=0)=>?_) (fun(ha: ¬s.asked key=0)=>?_)
 ·rw[if_pos ha]
  obtain⟨hd,hk⟩:=Aa0 ha
  refine A5 rfl (A6 (some ⟨p.ng,0,none⟩) (E7 (SL.st hp0) rfl) (B7 (Z2 hp0 key (by omega)) (((s.hash key:Nat):Int),()) rfl (E5 (E7 (SL.st hp0) rfl) ?_)))
  exact B7 (Reads.has (SL.gh hp0) (has_cl p.ng s.sc.ghost s.gh g.go X.gho ((s.hash key:Nat):Int))) (decide (((s.hash key:Nat):Int)∈s.gh),()) rfl (.of ⟨rfl,rfl⟩)
 ·rw[if_neg ha];exact .of ⟨rfl,rfl⟩
theorem Br6(p:SP)(s:Sto)(g:SG)(X:SX p s g)(hb:s.bk.Ok)(now:Int):
  CallF PP 24 #[.pointer (some ⟨p.n,0,none⟩),.i now] (SL p s g) (SU p (s.tick now) []):=by
 refine c24 (some ⟨p.n,0,none⟩) now ?_
 unfold s24
 have hp0:(SL p s g).Perm (SL p s g++[]):=by rw[List.append_nil]
 refine B7 (B57 hp0) (!s.down,()) rfl ?_
 unfold Sto.tick
 refine G0 (fun(hu:(!s.down)=true)=>?_) (fun(hu:(!s.down)=false)=>?_)
 ·have hd:s.down=false:=by simpa using hu
  rw[if_neg (by rw[hd];decide)]
  refine A5 rfl (A6 (some ⟨p.nk,0,none⟩) (E7 (SL.st hp0) rfl) ?_)
  refine G2 (C23 p.nk s.bk hb now) (R:=stO p s g::(mO p g::(gO p g::(g.Ad++(g.Ab++(rns g.ns++(rns g.on.toList++(g.pseg++(g.Aq++g.Ai))))))))) (pc fun z=>by simp only[SL,kO,B6,C5,D8];omega) ?_
  rintro _ _ ⟨rfl,rfl⟩
  refine⟨_,List.Perm.refl _,(),rfl,?_⟩
  refine .drop (A:=SL p {s with bk:=Aq0 s.bk now} g) (J:=[]) ⟨g,by simp,{X with cfg:=X.cfg,dev:=X.dev,blk:=X.blk},rfl⟩ (pc fun z=>?_)
  have e1:kO p {s with bk:=Aq0 s.bk now}=(p.nk,A46 (Aq0 s.bk now)):=rfl
  have e2:stO p {s with bk:=Aq0 s.bk now} g=stO p s g:=rfl
  simp only[SL,e1,e2,B6,C5,D8]
  omega
 ·have hd:s.down=true:=by simpa using hu
  rw[if_pos hd]
  exact .of ⟨g,by simp,X,rfl⟩
def Sto.flN(s:Sto):Nat:=min s.pend.length (D4 s.sc.c.S/6).toNat
theorem Bh5(k:Nat)(s:Sto):Sto.flushes (k+1) s=match s.pend with
  |[]=>(s,0)
  |p::r=>
   if(s.roomy 1).2≠0 then s.roomy 1 else
   if(s.roomy 1).1.flN=0 then((s.roomy 1).1,0)else
   if(T9 ((s.roomy 1).1.pend.take (s.roomy 1).1.flN)).2≠0 then((s.roomy 1).1,(T9 ((s.roomy 1).1.pend.take (s.roomy 1).1.flN)).2)else
   if((s.roomy 1).1.write 3 [(T9 ((s.roomy 1).1.pend.take (s.roomy 1).1.flN)).1]).2.2≠0 then(((s.roomy 1).1.write 3 [(T9 ((s.roomy 1).1.pend.take (s.roomy 1).1.flN)).1]).1,((s.roomy 1).1.write 3 [(T9 ((s.roomy 1).1.pend.take (s.roomy 1).1.flN)).1]).2.2)else
   Sto.flushes k {((s.roomy 1).1.write 3 [(T9 ((s.roomy 1).1.pend.take (s.roomy 1).1.flN)).1]).1 with pend:=((s.roomy 1).1.write 3 [(T9 ((s.roomy 1).1.pend.take (s.roomy 1).1.flN)).1]).1.pend.drop (s.roomy 1).1.flN}:=rfl
theorem Cp7{L:A4}{n:Nat}{g:PG}(hg:g.Ok)(h1:(n,Obj.cells #[.slice g.v.a g.v.len g.v.cap] 27)∈L)(h2: ∀x∈g.seg,x∈L):W3 L ⟨some ⟨n,0,none⟩,1,1⟩ [(g.v,g.l)]:=by
 refine⟨⟨rfl,Nat.le_refl _,.inr ⟨⟨n,0,none⟩,rfl,ldB h1 rfl⟩⟩,fun x hx=>?_⟩
 rw[List.mem_singleton.1 hx]
 exact hg.sl.mono h2
theorem Bd0(p:SP)(s:Sto)(g:SG)(X:SX p s g){M:Nat}(h:SOk s M)(hM:M<=900000000)(R:A4)(hT:Tab R):
  CallF PP 27 #[.pointer (some ⟨p.n,0,none⟩)] (SL p s g++R) (SK p s.flush R):=by
 refine c27 (some ⟨p.n,0,none⟩) ?_
 unfold s27
 have hp0:(SL p s g++R).Perm (SL p s g++R):=List.Perm.refl _
 have hfl:s.flush=(if s.down=true then(s,11)else Sto.flushes (s.pend.length+1) s):=rfl
 refine ifF rfl (A5 rfl (A6 s.down (E7 (SL.st hp0) rfl) ?_))
 refine G0 (fun(hd:s.down=true)=>?_) (fun(hd:s.down=false)=>?_)
 ·rw[if_pos hd]at hfl
  rw[hfl];exact .of ⟨g,rfl,X,rfl⟩
 rw[if_neg (by rw[hd];decide)]at hfl
 rw[hfl]
 refine G3 (fun z' z L'=> ∃(cur:Sto) (g':SG) (J:A4),cur.pend.length<z'/\SOk cur M/\cur.down=false/\SX p cur g'/\Sto.flushes (s.pend.length+1) s=Sto.flushes z' cur/\L'.Perm (SL p cur g'++(J++R))) (s.pend.length+1) ⟨s,g,[],by omega,h,hd,X,rfl,List.Perm.refl _⟩ ?_
 rintro z' z L1 ⟨cur,g',J,hpl,hc,hcd,X',heq,hp1⟩
 dsimp only
 obtain⟨k,rfl⟩: ∃k,z'=k+1:=⟨z'-1,by omega⟩
 rw[heq,Bh5]
 have hpvl:=X'.pendLen
 refine A6 g'.pv (E7 (SL.st hp1) rfl) ?_
 cases hcp:cur.pend with
 |nil=>
  rw[hcp]at hpvl
  refine ifN (show¬((g'.pv.len:Int)>0) by rw[hpvl];simp) ?_
  exact .drop (A:=SL p cur g'++R) (J:=J) ⟨g',rfl,X',rfl⟩ (pc fun z=>by have:=pcn hp1 z;simp only[B6]at*;omega)
 |cons x0 r0=>
  rw[hcp,List.length_cons]at hpvl
  refine ifP (show(g'.pv.len:Int)>0 by omega) ?_
  dsimp only
  have hT1:Tab (J++R):=hT.mono fun y hy=>by simp[hy]
  refine Ap5 (Br7 p cur g' X' hc (by omega) hcd (J++R) hT1 1 (by decide)) hp1 ?_
  rintro _ _ ⟨g2,rfl,X2,rfl⟩
  obtain⟨k1,k2,k3⟩:=hc.roomy hcd (n:=1) (by decide)
  have kp:(cur.roomy 1).1.pend.length<=cur.pend.length:=Cx7 1 _ cur
  refine⟨((cur.roomy 1).2,()),rfl,?_⟩
  dsimp only
  generalize cur.roomy 1=w at k1 k2 k3 kp X2
  have hp2:(SL p w.1 g2++(J++R)).Perm (SL p w.1 g2++(J++R)):=List.Perm.refl _
  refine B8 (fun(h0:w.2=0)=>?_) (fun(h0: ¬w.2=0)=>?_)
  ·rw[if_neg (by simpa using h0)]
   obtain⟨a1,a2⟩:=k2 h0
   refine A6 g2.pv (E7 (SL.st hp2) rfl) (A6 (w.1.sc.c.S:Int) ((Cm0 (SL.st hp2)).one 2 rfl) ?_)
   refine B7 (Ag5 _ (w.1.sc.c.S:Int)) (D4 w.1.sc.c.S,()) rfl ?_
   refine E5 (E7 (SL.st hp2) rfl) ?_
   have hS:=k1.S
   have hr0:0<=D4 (w.1.sc.c.S:Int)/\D4 (w.1.sc.c.S:Int)<=496:=by
    by_cases hz:D4 (w.1.sc.c.S:Int)=0
    ·omega
    ·have:=Ag2 hz;omega
   have hdv:Int.tdiv (D4 (w.1.sc.c.S:Int)) 6=D4 (w.1.sc.c.S:Int)/6:=Int.tdiv_eq_ediv_of_nonneg hr0.1
   have hpv2:=X2.pendLen
   have hmin:V3 (g2.pv.len:Int) (D4 (w.1.sc.c.S:Int)/6)=(w.1.flN:Int):=by
    unfold Sto.flN V3
    rw[hpv2]
    split<;>omega
   have hfl1:w.1.flN<=w.1.pend.length:=by unfold Sto.flN;omega
   have hfl2:w.1.flN<=82:=by unfold Sto.flN;omega
   dsimp only
   rw[hdv]
   refine D9 (by omega) ?_
   rw[hmin]
   refine B8 (fun(hz:(w.1.flN:Int)=0)=>?_) (fun(hz: ¬(w.1.flN:Int)=0)=>?_)
   ·rw[if_pos (by omega)]
    exact .drop (A:=SL p w.1 g2++R) (J:=J) ⟨g2,rfl,X2,rfl⟩ (pc fun z=>by simp only[B6];omega)
   ·rw[if_neg (by omega)]
    refine A6 g2.pv (E7 (SL.st hp2) rfl) ?_
    have hcap:=X2.pd.cap
    refine slc_el E3 (by decide) (A:=g2.pseg) (Own.sl X2.pd) (i':=0) (j':=w.1.flN) (m':=g2.pv.cap) rfl rfl rfl (by omega) hfl1 (by omega) (Nat.le_refl _) fun s1 hs1 _ hsl1=>?_
    rw[List.drop_zero,Nat.sub_zero]at hsl1
    refine R4 (Bo7 (SL p w.1 g2++(J++R)) s1 (w.1.pend.take w.1.flN) (hsl1.mono (SL.ps hp2)) (by rw[List.length_take];omega)) ?_
    rintro _ _-⟨q,rfl,rfl,hq,hql⟩
    refine⟨(q.v,(T9 (w.1.pend.take w.1.flN)).2,()),rfl,?_⟩
    dsimp only
    refine B8 (fun(h1:(T9 (w.1.pend.take w.1.flN)).2=0)=>?_) (fun(h1: ¬(T9 (w.1.pend.take w.1.flN)).2=0)=>?_)
    ·rw[if_neg (by simpa using h1)]
     refine C4 fun n1 _=>?_
     obtain⟨c1,hc1⟩: ∃c1:Nat×Obj,c1=(n1,Obj.cells #[.slice q.v.a q.v.len q.v.cap] 27):=⟨_,rfl⟩
     rw[<-hc1]
     have hp3:(c1::(q.seg++(SL p w.1 g2++(J++R)))).Perm (SL p w.1 g2++(c1::(q.seg++(J++R)))):=pc fun z=>by simp only[B6,C5];omega
     obtain⟨o,ho⟩: ∃o,w.1.op=some o:=by
      unfold Sto.fits at a2
      cases hop:w.1.op with
      |none=>rw[hop]at a2;cases a2
      |some o=>exact⟨o,rfl⟩
     have hopk:=k1.op o ho
     have hcall:=At1 p w.1 g2 X2 k1.S.2 k1.bk (c1::(q.seg++(J++R))) ⟨some ⟨n1,0,none⟩,1,1⟩ [(q.v,q.l)] (Cp7 hq (by rw[hc1];exact List.mem_cons_self) (fun y hy=>by simp[hy])) (by simp) (k1.dg _ (by simp)) o ho (by omega) (by omega) 3
     rw[show[(q.v,q.l)].map Prod.snd=[(T9 (w.1.pend.take w.1.flN)).1] by simp[hql]]at hcall
     refine Ap5 hcall hp3 ?_
     rintro _ _ ⟨g3,rfl,X3,hn3,rfl⟩
     obtain⟨b1,b2⟩:=k1.write a1 3 [(T9 (w.1.pend.take w.1.flN)).1]
     have bp:(w.1.write 3 [(T9 (w.1.pend.take w.1.flN)).1]).1.pend=w.1.pend:=(Mv.write w.1 3 _).pend
     generalize w.1.write 3 [(T9 (w.1.pend.take w.1.flN)).1]=z at b1 b2 bp X3
     refine⟨((z.2.1.1,z.2.1.2.1,z.2.1.2.2.1,()),z.2.2,()),rfl,?_⟩
     dsimp only
     have hp4:(SL p z.1 g3++(c1::(q.seg++(J++R)))).Perm (SL p z.1 g3++(c1::(q.seg++(J++R)))):=List.Perm.refl _
     refine B8 (fun(h2:z.2.2=0)=>?_) (fun(h2: ¬z.2.2=0)=>?_)
     ·rw[if_neg (by simpa using h2)]
      refine A6 g3.pv (E7 (SL.st hp4) rfl) ?_
      refine G2 (C42 g3.pv z.1.pend g3.pseg X3.pd (Nat.le_trans b1.pl (by omega)) w.1.flN (by rw[bp];exact hfl1) (by omega)) (R:=stO p z.1 g3::(kO p z.1::(mO p g3::(gO p g3::(g3.Ad++(g3.Ab++(rns g3.ns++(rns g3.on.toList++(g3.Aq++(g3.Ai++(c1::(q.seg++(J++R))))))))))))) (pc fun z=>by simp only[SL,B6,C5,D8];omega) ?_
      rintro _ pseg' ⟨v',rfl,own'⟩
      refine⟨_,List.Perm.refl _,(v',()),rfl,?_⟩
      obtain⟨s4,hs4⟩: ∃s4:Sto,s4={z.1 with pend:=z.1.pend.drop w.1.flN}:=⟨_,rfl⟩
      obtain⟨g4,hg4⟩: ∃g4:SG,g4={g3 with pv:=v',pseg:=pseg'}:=⟨_,rfl⟩
      rw[<-hs4]
      refine Bl7 (s:=z.1) (g:=g3) (k:=17) s4 g4 (Y:=pseg'++(kO p z.1::(mO p g3::(gO p g3::(g3.Ad++(g3.Ab++(rns g3.ns++(rns g3.on.toList++(g3.Aq++(g3.Ai++(c1::(q.seg++(J++R))))))))))))) (pc fun z=>by simp only[B6,C5,D8];omega) (by decide) (by rw[hs4,hg4];rfl) fun L5 hp5=>?_
      have X4:SX p s4 g4:=by rw[hs4,hg4];exact{X3 with cfg:=X3.cfg,dev:=X3.dev,blk:=X3.blk,pd:=own'}
      refine⟨k,by omega,s4,g4,c1::(q.seg++J),?_,?_,?_,X4,rfl,pc fun z'=>?_⟩
      ·rw[hs4]
       show(z.1.pend.drop w.1.flN).length<k
       rw[List.length_drop,bp]
       omega
      ·rw[hs4];exact{b1 with dv:=b1.dv,pl:=by show(z.1.pend.drop w.1.flN).length<=M;rw[List.length_drop];have:=b1.pl;omega}
      ·rw[hs4];exact b2 h2
      ·have:=pcn hp5 z'
       have e1:kO p s4=kO p z.1:=by rw[hs4];rfl
       have e2:mO p g4=mO p g3:=by rw[hg4];rfl
       have e3:gO p g4=gO p g3:=by rw[hg4];rfl
       have e4:g4.pseg=pseg'/\g4.Ad=g3.Ad/\g4.Ab=g3.Ab/\g4.ns=g3.ns/\g4.on=g3.on/\g4.Aq=g3.Aq/\g4.Ai=g3.Ai:=by rw[hg4];exact⟨rfl,rfl,rfl,rfl,rfl,rfl,rfl⟩
       simp only[SL,e1,e2,e3,e4.1,e4.2.1,e4.2.2.1,e4.2.2.2.1,e4.2.2.2.2.1,e4.2.2.2.2.2.1,e4.2.2.2.2.2.2,B6,C5,D8]at*
       omega
     ·rw[if_pos (by simpa using h2)]
      exact .drop (A:=SL p z.1 g3++R) (J:=c1::(q.seg++J)) ⟨g3,rfl,X3,rfl⟩ (pc fun z=>by simp only[B6,C5];omega)
    ·rw[if_pos (by simpa using h1)]
     exact .drop (A:=SL p w.1 g2++R) (J:=q.seg++J) ⟨g2,rfl,X2,rfl⟩ (pc fun z=>by simp only[B6,C5];omega)
  ·rw[if_pos (by simpa using h0)]
   exact .drop (A:=SL p w.1 g2++R) (J:=J) ⟨g2,rfl,X2,rfl⟩ (pc fun z=>by simp only[B6];omega)
section
variable {p:SP} {s:Sto} {g:SG}
theorem A53{L R:A4}(hp:L.Perm (SL p s g++R)){f:FuncId}(hf:Ac7 PP f=true){cap:Array Value}{v:Int}(hr:Reads PP f cap L (.i v)):Reads PP 42 #[.pointer (some ⟨p.n,0,none⟩),.func (.func f) #[] cap] L (.i (if s.down=true then 0 else v)):=by
 unfold Reads
 refine c42 (some ⟨p.n,0,none⟩) ⟨.func f,#[],cap⟩ ?_
 unfold s42
 refine B7 (B57 hp) (!s.down,()) rfl ?_
 refine G0 (fun(hu:(!s.down)=true)=>?_) (fun(hu:(!s.down)=false)=>?_)
 ·rw[if_neg (by simpa using hu)]
  refine Y4 hf ?_
  have e:(#[]++#[]++cap:Array Value)=cap:=by simp
  rw[e]
  exact B7 hr (v,()) rfl (.of ⟨rfl,rfl⟩)
 ·rw[if_pos (by simpa using hu)]
  exact .of ⟨rfl,rfl⟩
theorem Bz0(X:SX p s g):Reads PP 14 #[.pointer (some ⟨p.n,0,none⟩)] (SL p s g) (.i (if s.down=true then 0 else s.bk.tokens)):=by
 unfold Reads
 refine c14 (some ⟨p.n,0,none⟩) ?_
 unfold s14
 refine C4 fun n1 _=>A6 (some ⟨p.n,0,none⟩) (ldB List.mem_cons_self rfl) ?_
 obtain⟨c1,hc1⟩: ∃c1:Nat×Obj,c1=(n1,Obj.cells #[.pointer (some ⟨p.n,0,none⟩)] 28):=⟨_,rfl⟩
 have hp:((n1,Obj.cells #[.pointer (some ⟨p.n,0,none⟩)] 28)::SL p s g).Perm (SL p s g++[c1]):=by rw[hc1];exact pc fun z=>by simp only[B6,C5,D8];omega
 refine B7 (A53 hp (by kernel_rfl) (v:=s.bk.tokens) ?_) (_,()) rfl (.drop (A:=SL p s g) (J:=[c1]) ⟨rfl,rfl⟩ hp)
 unfold Reads
 refine c43 (some ⟨n1,0,none⟩) ?_
 unfold s43
 refine A5 rfl (A6 (some ⟨p.n,0,none⟩) (ldB List.mem_cons_self rfl) (A5 rfl (A6 (some ⟨p.nk,0,none⟩) (E7 (SL.st hp) rfl) ?_)))
 exact B7 (Bc6 _ p.nk s.bk (SL.k hp)) (s.bk.tokens,()) rfl (.of ⟨rfl,rfl⟩)
theorem C33(X:SX p s g):Reads PP 29 #[.pointer (some ⟨p.n,0,none⟩)] (SL p s g) (.i (if s.down=true then 0 else(ilen s.ix:Int))):=by
 unfold Reads
 refine c29 (some ⟨p.n,0,none⟩) ?_
 unfold s29
 refine C4 fun n1 _=>A6 (some ⟨p.n,0,none⟩) (ldB List.mem_cons_self rfl) ?_
 obtain⟨c1,hc1⟩: ∃c1:Nat×Obj,c1=(n1,Obj.cells #[.pointer (some ⟨p.n,0,none⟩)] 28):=⟨_,rfl⟩
 have hp:((n1,Obj.cells #[.pointer (some ⟨p.n,0,none⟩)] 28)::SL p s g).Perm (SL p s g++[c1]):=by rw[hc1];exact pc fun z=>by simp only[B6,C5,D8];omega
 refine B7 (A53 hp (by kernel_rfl) (v:=(ilen s.ix:Int)) ?_) (_,()) rfl (.drop (A:=SL p s g) (J:=[c1]) ⟨rfl,rfl⟩ hp)
 unfold Reads
 refine c67 (some ⟨n1,0,none⟩) ?_
 unfold s67
 refine A5 rfl (A6 (some ⟨p.n,0,none⟩) (ldB List.mem_cons_self rfl) (A5 rfl (A6 (some ⟨p.ni,0,none⟩) (E7 (SL.st hp) rfl) ?_)))
 exact B7 (Reads.has (SL.i hp) (C91 p.ni s.sc.ways s.ix g.Ai X.idx)) ((ilen s.ix:Int),()) rfl (.of ⟨rfl,rfl⟩)
theorem B56(X:SX p s g):Reads PP 30 #[.pointer (some ⟨p.n,0,none⟩)] (SL p s g) (.i (if s.down=true then 0 else(s.q.length:Int))):=by
 unfold Reads
 refine c30 (some ⟨p.n,0,none⟩) ?_
 unfold s30
 refine C4 fun n1 _=>A6 (some ⟨p.n,0,none⟩) (ldB List.mem_cons_self rfl) ?_
 obtain⟨c1,hc1⟩: ∃c1:Nat×Obj,c1=(n1,Obj.cells #[.pointer (some ⟨p.n,0,none⟩)] 28):=⟨_,rfl⟩
 have hp:((n1,Obj.cells #[.pointer (some ⟨p.n,0,none⟩)] 28)::SL p s g).Perm (SL p s g++[c1]):=by rw[hc1];exact pc fun z=>by simp only[B6,C5,D8];omega
 refine B7 (A53 hp (by kernel_rfl) (v:=(s.q.length:Int)) ?_) (_,()) rfl (.drop (A:=SL p s g) (J:=[c1]) ⟨rfl,rfl⟩ hp)
 unfold Reads
 refine c69 (some ⟨n1,0,none⟩) ?_
 unfold s69
 refine A5 rfl (A6 (some ⟨p.n,0,none⟩) (ldB List.mem_cons_self rfl) (A5 rfl (A6 (some ⟨p.nq,0,none⟩) (E7 (SL.st hp) rfl) ?_)))
 exact B7 (Reads.has (SL.q hp) (Co6 p.nq s.sc.small s.q g.Aq X.que)) ((s.q.length:Int),()) rfl (.of ⟨rfl,rfl⟩)
theorem Bz4(X:SX p s g):Reads PP 23 #[.pointer (some ⟨p.n,0,none⟩)] (SL p s g) (.i (if s.down=true then 0 else Af9 s.ss)):=by
 unfold Reads
 refine c23 (some ⟨p.n,0,none⟩) ?_
 unfold s23
 refine C4 fun n1 _=>A6 (some ⟨p.n,0,none⟩) (ldB List.mem_cons_self rfl) ?_
 obtain⟨c1,hc1⟩: ∃c1:Nat×Obj,c1=(n1,Obj.cells #[.pointer (some ⟨p.n,0,none⟩)] 28):=⟨_,rfl⟩
 have hp:((n1,Obj.cells #[.pointer (some ⟨p.n,0,none⟩)] 28)::SL p s g).Perm (SL p s g++[c1]):=by rw[hc1];exact pc fun z=>by simp only[B6,C5,D8];omega
 refine B7 (A53 hp (by kernel_rfl) (v:=Af9 s.ss) ?_) (_,()) rfl (.drop (A:=SL p s g) (J:=[c1]) ⟨rfl,rfl⟩ hp)
 unfold Reads
 refine c55 (some ⟨n1,0,none⟩) ?_
 unfold s55
 refine A5 rfl (A6 (some ⟨p.n,0,none⟩) (ldB List.mem_cons_self rfl) (A5 rfl (A6 (some ⟨p.nb,0,none⟩) (E7 (SL.st hp) rfl) ?_)))
 exact B7 (Reads.has (SL.b hp) (B31 p.nb s.ss s.us g.Ab X.blk)) (Af9 s.ss,()) rfl (.of ⟨rfl,rfl⟩)
theorem At5(X:SX p s g)(hl:s.pend.length<=1000000000):CallF PP 31 #[.pointer (some ⟨p.n,0,none⟩)] (SL p s g) fun r L'=> ∃(u:SlV) (sg:A4),r= .slice u.a u.len u.cap/\L'=sg++SL p s g/\Own u 3 Az4 ((if s.down=true then[]else s.pend).flatMap O4) sg:=by
 refine c31 (some ⟨p.n,0,none⟩) ?_
 unfold s31
 have hp0:(SL p s g).Perm (SL p s g++[]):=by rw[List.append_nil]
 refine B7 (B57 hp0) (!s.down,()) rfl ?_
 refine G0 (fun(hu:(!s.down)=true)=>?_) (fun(hu:(!s.down)=false)=>?_)
 ·rw[if_neg (by simpa using hu)]
  refine A5 rfl (A6 g.pv (E7 (SL.st hp0) rfl) ?_)
  refine R4 (B74 (SL p s g) g.pv s.pend (X.pd.sl.mono (SL.ps hp0)) hl) ?_
  rintro _ _-⟨u,sg,rfl,rfl,own⟩
  exact⟨(u,()),rfl,.of ⟨u,sg,rfl,rfl,own⟩⟩
 ·rw[if_pos (by simpa using hu)]
  exact .of ⟨⟨none,0,0⟩,[],rfl,rfl,F6⟩
end
theorem Au8(d:Dev): ∀n:Nat,((Az9 d n).map fun h=>h.1).Nodup/\ ∀h∈Az9 d n,h.1<(n:Int)
 |0=>⟨List.nodup_nil,by simp[Az9]⟩
 |n+1=>by
  obtain⟨i1,i2⟩:=Au8 d n
  rw[Au7]
  cases hr:Bk7 d n with
  |none=>
   simp only[Option.toList_none,List.append_nil]
   exact⟨i1,fun h hh=>by have:=i2 h hh;omega⟩
  |some x=>
   have hx:=(Au4 hr).1
   refine⟨?_,fun h hh=>?_⟩
   ·rw[Option.toList_some,List.map_append,List.map_singleton,List.nodup_append]
    refine⟨i1,List.nodup_cons.2 ⟨by simp,List.nodup_nil⟩,fun a ha b hb=>?_⟩
    rw[List.mem_singleton]at hb
    subst hb
    obtain⟨h,hh,rfl⟩:=List.mem_map.1 ha
    have:=i2 h hh
    omega
   ·rcases List.mem_append.1 hh with hh|hh
    ·have:=i2 h hh;omega
    ·rw[Option.toList_some,List.mem_singleton]at hh
     subst hh;omega
def blkR(d:Dev):List Int:=(J7 d).map fun h=>h.1
theorem A40(d:Dev):(blkR d).Nodup:=by
 unfold blkR J7
 exact((O2 epK (Az9 d d.c.B)).map (fun h:HD=>h.1)).nodup_iff.2 (Au8 d d.c.B).1
structure C14(d:Dev)(x:LE):Prop where
 fetch:(C6 d x.2).2.2=0/\Aq3 (C6 d x.2).1=x.1
 held: ∃h∈J7 d,h.1=x.2.1/\h.2.1=x.2.2.2.1
 page:1<=x.2.2.1/\x.2.2.1<=255
theorem all_ok{d:Dev}{x:LE}(hx:x∈Cv7 d (J7 d)):C14 d x:=by
 unfold Cv7 at hx
 rw[List.mem_filterMap]at hx
 obtain⟨q,hq,h⟩:=hx
 unfold Bz9 at hq
 rw[List.mem_flatMap]at hq
 obtain⟨hd,hm,hq⟩:=hq
 obtain⟨y,hy,rfl⟩:=List.mem_map.1 hq
 have hy:=(List.mem_filter.1 hy).1
 obtain⟨b,-,hb⟩:=Bv4 hm
 have hr:=(Au4 hb).2.2.1 y hy
 unfold Z6 at h
 split at h
 ·rename_i h0
  obtain rfl:=Option.some.inj h
  exact⟨⟨h0,rfl⟩,⟨hd,hm,rfl,rfl⟩,hr.1,hr.2.1⟩
 ·cases h
theorem Cc4{d:Dev}{x:LE}(hx:x∈S3 d):C14 d x:=all_ok (List.mem_filter.1 hx).1
theorem Cc1: ∀(l:List HD) (a:Int),a<=l.foldl (fun a h=>S7 a h.2.1) a/\ ∀h∈l,h.2.1<=l.foldl (fun a h=>S7 a h.2.1) a
 |[],a=>by simp
 |x::r,a=>by
  obtain⟨h1,h2⟩:=Cc1 r (S7 a x.2.1)
  have h3:a<=S7 a x.2.1/\x.2.1<=S7 a x.2.1:=by unfold S7;split<;>omega
  rw[List.foldl_cons]
  refine⟨by omega,fun h hh=>?_⟩
  rcases List.mem_cons.1 hh with rfl|hh
  ·omega
  ·exact h2 h hh
theorem Bp1(d:Dev):(J7 d).Pairwise fun a b=>a.2.1<=b.2.1:=Bg7 epK (Az9 d d.c.B)
def At2(d:Dev):List BS:=d.bs.map fun k=>⟨k.wear,k.bad,decide (k.next≠0)⟩
theorem Bz3(m:Nat)(d:Dev)(A:A4)(h:FH m d A)(ok:Q2 d):CallF PP 100 #[.pointer (some ⟨m,0,none⟩)] A fun r L'=> ∃(v:SlV) (seg:A4),r= .slice v.a v.len v.cap/\L'=seg++A/\Own v 3 194 ((At2 d).flatMap W2) seg:=by
 refine c100 (some ⟨m,0,none⟩) ?_
 unfold s100
 have hasA: ∀{L J:A4},L.Perm (J++A)->Has L A:=fun{L J} hp=>⟨J,hp.trans List.perm_append_comm⟩
 have hB:=ok.c.b
 have hlen:=ok.len
 refine B7 (Ab8 ⟨[],by simp⟩ h) ((d.c.B,d.c.P,d.c.S,d.c.W,()),()) rfl ?_
 dsimp only
 refine G3 (fun z' z L'=> ∃(i:Nat) (v:SlV) (seg:A4),z=(v,(i:Int),())/\z'=d.c.B-i/\i<=d.c.B/\L'.Perm (seg++A)/\Own v 3 194 (((At2 d).take i).flatMap W2) seg) d.c.B ⟨0,⟨none,0,0⟩,[],rfl,rfl,by omega,List.Perm.refl _,F6⟩ ?_
 rintro z' z L1 ⟨i,v,seg,rfl,rfl,hi,hp,own⟩
 dsimp only
 have hst:(At2 d).length=d.c.B:=by unfold At2;rw[List.length_map,hlen]
 refine B8 (fun(hlt:(i:Int)<d.c.B)=>?_) (fun(hge: ¬(i:Int)<d.c.B)=>?_)
 ·have hi':i<d.bs.length:=by omega
  have hat:H7 d (i:Int)=some d.bs[i]:=by unfold H7;rw[if_pos (by omega),Int.toNat_natCast,List.getElem?_eq_getElem hi']
  refine B7 (Reads.has (hasA hp) (B47 m d A h ok i)) (G4 d i,()) rfl ?_
  refine B7 (Reads.has (hasA hp) (Cj0 m d A h ok i)) (Y6 d i,()) rfl ?_
  refine B7 (Reads.has (hasA hp) (C72 m d A h ok i)) (Q6 d i,()) rfl ?_
  dsimp only
  have e1:G4 d i=(d.bs[i].wear:Int):=by unfold G4;rw[hat];rfl
  have e2:Y6 d i=d.bs[i].bad:=by unfold Y6;rw[hat];rfl
  have e3:Q6 d i=(d.bs[i].next:Int):=by unfold Q6;rw[hat];rfl
  rw[e1,e2,e3]
  have hvl:=own.sl.els_len G8 (by decide)
  rw[List.length_take]at hvl
  have hb3:((d.bs[i].next:Int) !=0)=decide (d.bs[i].next≠0):=by
   by_cases hn:d.bs[i].next=0
   ·simp[hn]
   ·simp[hn]
  rw[hb3]
  refine Ai7 Cg9 Cx2 own hp (ws:=W2 ⟨d.bs[i].wear,d.bs[i].bad,decide (d.bs[i].next≠0)⟩) rfl rfl (by omega) fun v' seg' hl' own'=>?_
  refine D9 (by omega) ⟨d.c.B-(i+1),by omega,i+1,v',seg',rfl,rfl,by omega,List.Perm.refl _,?_⟩
  rw[List.take_succ_eq_append_getElem (by omega),List.flatMap_append,List.flatMap_singleton]
  have:(At2 d)[i]'(by omega)=⟨d.bs[i].wear,d.bs[i].bad,decide (d.bs[i].next≠0)⟩:=by unfold At2;rw[List.getElem_map]
  rw[this];exact own'
 ·obtain rfl:i=d.c.B:=by omega
  rw[show d.c.B=(At2 d).length from hst.symm,List.take_length]at own
  exact .drop (A:=seg++A) (J:=[]) ⟨v,seg,rfl,rfl,own⟩ (by simpa using hp)
abbrev A06:=Int×Int×Int×Int×Int×Int×Int×Int×Int×Int×Int×Unit
def Q3(n most:Int):Bool:=decide (0<=n/\n<=most)
theorem W4(L:A4)(n most:Int):Reads PP 164 #[.i n,.i most] L (.bool (Q3 n most)):=by
 unfold Reads
 refine c164 n most ?_
 unfold s164 Q3
 refine B8 (fun(h:n≥0)=>.of ⟨?_,rfl⟩) (fun(h: ¬n≥0)=>.of ⟨?_,rfl⟩)
 ·congr 1;exact decide_eq_decide.2 ⟨fun hm=>⟨h,hm⟩,fun hm=>hm.2⟩
 ·congr 1;exact(decide_eq_false fun hh=>h hh.1).symm
def fitB(c:A06):Bool:=Q3 c.2.2.2.2.2.2.1 65536&&Q3 c.2.2.2.2.2.2.2.1 64&&Q3 c.2.2.2.2.2.2.2.2.1 1048576&&Q3 c.2.2.2.2.2.2.2.2.2.1 1073741824&&decide (3*(c.2.1-2)<=D4 c.2.2.1)
theorem fit_rd(L:A4)(c:A06)(hP:0<=c.2.1/\c.2.1<=1000):Reads PP 94 #[.agg #[.i c.1,.i c.2.1,.i c.2.2.1,.i c.2.2.2.1,.i c.2.2.2.2.1,.i c.2.2.2.2.2.1,.i c.2.2.2.2.2.2.1,.i c.2.2.2.2.2.2.2.1,.i c.2.2.2.2.2.2.2.2.1,.i c.2.2.2.2.2.2.2.2.2.1,.i c.2.2.2.2.2.2.2.2.2.2.1]] L (.bool (fitB c)):=by
 unfold Reads
 refine c94 c ?_
 unfold s94 fitB
 have no: ∀{b:Bool},b=false->(Value.bool false=Value.bool b/\L=L):=fun hb=>⟨by rw[hb],rfl⟩
 refine B7 (W4 L c.2.2.2.2.2.2.1 65536) (Q3 c.2.2.2.2.2.2.1 65536,()) rfl ?_
 refine G0 (fun(h1:Q3 c.2.2.2.2.2.2.1 65536=true)=>?_) (fun(h1:Q3 c.2.2.2.2.2.2.1 65536=false)=>?_)
 ·refine B7 (W4 L c.2.2.2.2.2.2.2.1 64) (Q3 c.2.2.2.2.2.2.2.1 64,()) rfl (B7 (W4 L c.2.2.2.2.2.2.2.2.1 1048576) (Q3 c.2.2.2.2.2.2.2.2.1 1048576,()) rfl ?_)
  refine G0 (fun(h3:Q3 c.2.2.2.2.2.2.2.2.1 1048576=true)=>?_) (fun(h3:Q3 c.2.2.2.2.2.2.2.2.1 1048576=false)=>?_)
  ·refine B7 (W4 L c.2.2.2.2.2.2.2.2.2.1 1073741824) (Q3 c.2.2.2.2.2.2.2.2.2.1 1073741824,()) rfl ?_
   refine G0 (fun(h2:Q3 c.2.2.2.2.2.2.2.1 64=true)=>?_) (fun(h2:Q3 c.2.2.2.2.2.2.2.1 64=false)=>.of (no (by rw[h2];simp)))
   refine G0 (fun(h4:Q3 c.2.2.2.2.2.2.2.2.2.1 1073741824=true)=>?_) (fun(h4:Q3 c.2.2.2.2.2.2.2.2.2.1 1073741824=false)=>.of (no (by rw[h4];simp)))
   refine D9 (by omega) (D9 (by omega) (B7 (Ag5 L c.2.2.1) (D4 c.2.2.1,()) rfl (.of ⟨?_,rfl⟩)))
   rw[h1,h2,h3,h4];simp
  ·exact G0 (fun _=>.of (no (by rw[h3];simp))) (fun _=>.of (no (by rw[h3];simp)))
 ·refine B7 (W4 L c.2.2.2.2.2.2.2.2.1 1048576) (Q3 c.2.2.2.2.2.2.2.2.1 1048576,()) rfl ?_
  refine G0 (fun _=>?_) (fun _=>.of (no (by rw[h1];simp)))
  exact B7 (W4 L c.2.2.2.2.2.2.2.2.2.1 1073741824) (Q3 c.2.2.2.2.2.2.2.2.2.1 1073741824,()) rfl (.of (no (by rw[h1];simp)))
def A19(x:A06)(d:Dev):SC:=⟨d.c,x.2.2.2.2.1,x.2.2.2.2.2.1,x.2.2.2.2.2.2.1,x.2.2.2.2.2.2.2.1,x.2.2.2.2.2.2.2.2.1,x.2.2.2.2.2.2.2.2.2.1,x.2.2.2.2.2.2.2.2.2.2.1⟩
def B05(h:HD):Reg:=⟨h.1,h.2.1,0,h.2.2⟩
def V6(d:Dev):List Reg:=(J7 d).map B05
def B41(sc:SC)(d:Dev)(now:Int)(ss:List BS):Sto:=⟨sc,d,ss,V6 d,none,Ah7 sc.rate sc.burst now 0,A74 (J7 d),[],false,[],[],List.replicate sc.sets.toNat []⟩
def Ac1(l:List LE)(s:Sto):Sto:=l.foldl (fun s x=>s.list x.1 x.2) s
def Ca4(sc:SC)(d:Dev)(now:Int):Option Sto:=(Ah6 (At2 d) ((V6 d).map Reg.b)).map fun r=>Ac1 (S3 d) (B41 sc d now r.1)
theorem By0: ∀(l:List Int) {ss:List BS} {us:List Int} {r:List BS×List Int},Ci2 ss us->Ao3 ss us l=some r->r.2=us++l/\Ci2 r.1 r.2/\r.1.map (fun x=>(x.wear,x.bad))=ss.map (fun x=>(x.wear,x.bad))
 |[],ss,us,r,h,hr=>by
  obtain rfl:=Option.some.inj hr
  exact⟨by simp,h,rfl⟩
 |n::t,ss,us,r,h,hr=>by
  unfold Ao3 at hr
  split at hr
  ·rename_i hf
   obtain⟨h1,h2⟩:=K7 hf
   obtain⟨h3,h4,h5⟩:=N5 h1
   have hm:(Ab9 ss n Z8).map (fun x=>(x.wear,x.bad))=ss.map (fun x=>(x.wear,x.bad)):=by
    apply List.ext_getElem?
    intro i
    unfold Ab9
    rw[List.getElem?_map,List.getElem?_map,List.getElem?_modify]
    cases ss[i]? with
    |none=>rfl
    |some x=>
     simp only[Option.map_some,Option.map_eq_map]
     by_cases e:n.toNat=i<;>simp[e,Z8]
   have hg: ∀x,F4 (Ab9 ss n Z8) x=F4 ss x:=fun x=>by
    unfold F4
    have:=congrArg (fun l=>l[x.toNat]?) hm
    simp only[List.getElem?_map]at this
    cases h6:(Ab9 ss n Z8)[x.toNat]? with
    |none=>rw[h6]at this;cases h7:ss[x.toNat]? with
     |none=>rfl
     |some y=>rw[h7]at this;cases this
    |some y=>rw[h6]at this;cases h7:ss[x.toNat]? with
     |none=>rw[h7]at this;cases this
     |some z=>rw[h7]at this;simp at this;simp[this.2]
   have hb:Ci2 (Ab9 ss n Z8) (us++[n]):=by
    have:=Bj6 h hf
    exact⟨this.1,fun x hx=>by rw[hg];exact this.2 x hx⟩
   obtain⟨a1,a2,a3⟩:=By0 t hb hr
   exact⟨by rw[a1];simp,a2,a3.trans hm⟩
  ·cases hr
theorem By1{ss:List BS}{l:List Int}{r:List BS×List Int}(h:Ah6 ss l=some r):r.2=l/\Ci2 r.1 r.2/\r.1.map (fun x=>(x.wear,x.bad))=ss.map (fun x=>(x.wear,x.bad))/\Bj5 ss=true:=by
 unfold Ah6 at h
 split at h
 ·rename_i hc
  obtain⟨a1,a2,a3⟩:=By0 l ⟨List.nodup_nil,fun x hx=>by cases hx⟩ h
  exact⟨by simpa using a1,a2,a3,hc.2.2⟩
 ·cases h
theorem Ax6{d:Dev}{h:HD}(hh:h∈J7 d):(B05 h).Good/\0<=h.2.1/\h.2.1<=1073741824:=by
 have h1:=(O2 epK (Az9 d d.c.B)).subset hh
 obtain⟨b,hb,hr⟩:=Ar6 h1
 obtain⟨e1,e2,e3,e4⟩:=Au4 hr
 refine⟨⟨?_,fun x hx=>?_⟩,e2⟩
 ·have:=Bn7 h.2.2 1 (fun x hx=>by have:=e3 x hx;unfold Aq4 at this;omega) e4 (by decide)
  show h.2.2.length<=256
  omega
 ·have:=e3 x hx
  unfold Aq4 at this
  omega
theorem Bu5: ∀(l:List HD) (a:Int),0<=a->a<=1073741824->(∀h∈l,0<=h.2.1/\h.2.1<=1073741824)->0<=l.foldl (fun a h=>S7 a h.2.1) a/\l.foldl (fun a h=>S7 a h.2.1) a<=1073741824
 |[],a,h0,h1,_=>⟨h0,h1⟩
 |x::r,a,h0,h1,h=>by
  have hx:=h x (by simp)
  rw[List.foldl_cons]
  exact Bu5 r _ (by unfold S7;split<;>omega) (by unfold S7;split<;>omega) fun y hy=>h y (by simp[hy])
structure ScOk(sc:SC):Prop where
 st:1<=sc.sets/\sc.sets<=64
 wy:1<=sc.ways/\sc.ways<=8
 sm:0<=sc.small/\sc.small<=65536
 gs:0<=sc.ghost/\sc.ghost<=64
theorem C31{sc:SC}{d:Dev}{now:Int}{r:List BS×List Int}(ok:Q2 d)(hc:d.c=sc.c)(hd:d.down=false)(hfew:d.torn.length<=999)(k:ScOk sc)(hr:Ah6 (At2 d) ((V6 d).map Reg.b)=some r):SOk (B41 sc d now r.1) 0:=by
 obtain⟨r1,r2,r3,r4⟩:=By1 hr
 have hus:(B41 sc d now r.1).us=r.2:=by
  rw[r1]
  show(V6 d).map Reg.b++[]=_
  simp
 have hl:r.1.length=d.bs.length:=by
  have:=congrArg List.length r3
  simp only[List.length_map]at this
  rw[this];unfold At2;rw[List.length_map]
 have hssd: ∀(i:Nat) k,d.bs[i]?=some k-> ∃x,r.1[i]?=some x/\x.wear=k.wear/\x.bad=k.bad:=fun i k hk=>by
  have:=congrArg (fun l=>l[i]?) r3
  simp only[List.getElem?_map]at this
  unfold At2 at this
  rw[List.getElem?_map,hk]at this
  cases h6:r.1[i]? with
  |none=>rw[h6]at this;cases this
  |some x=>rw[h6]at this;simp at this;exact⟨x,rfl,this.1,this.2⟩
 refine⟨ok,hd.symm,?_,hc,Cv0 _ _ _ _,?_,?_,?_,k.wy,k.sm,k.gs,?_,fun o ho=>(by cases ho),?_,by rw[hus];exact r2,hl,fun _=>hssd,?_,?_,fun e he=>(by cases he),by simp[B41],by simp[B41]⟩
 ·show d.torn.length+(if d.down=true then 0 else 1)<=1000
  split<;>omega
 ·intro row hrow
  have:row=[]:=List.eq_of_mem_replicate hrow
  subst this
  exact⟨by show((([]:List C9).length:Nat):Int)<=sc.ways;have:=k.wy;simp;omega,by simp,by simp⟩
 ·show 1<=(List.replicate sc.sets.toNat []).length
  rw[List.length_replicate]
  have:=k.st;omega
 ·intro row hrow x hx
  have:row=[]:=List.eq_of_mem_replicate hrow
  subst this
  cases hx
 ·show((([]:List Int).length:Nat):Int)<=sc.ghost
  have:=k.gs;simp;omega
 ·intro q hq
  rcases hq with hq|hq
  ·obtain⟨h,hh,rfl⟩:=List.mem_map.1 (show q∈(J7 d).map B05 from hq)
   exact(Ax6 hh).1
  ·cases hq
 ·intro x hx
  obtain⟨i,hi,rfl⟩:=List.getElem_of_mem (show x∈r.1 from hx)
  have hi2:i<d.bs.length:=by omega
  obtain⟨y,hy,hw,-⟩:=hssd i _ (List.getElem?_eq_getElem hi2)
  rw[List.getElem?_eq_getElem hi]at hy
  obtain rfl:=Option.some.inj hy
  have h1:=ok.nx _ (List.getElem_mem hi2)
  have h2:=ok.c.w
  rw[hw]
  omega
 ·exact Bu5 (J7 d) 0 (by decide) (by decide) fun h hh=>(Ax6 hh).2
theorem A79: ∀(l:List LE) {s:Sto} {M:Nat},SOk s M->(∀x∈l,P9 .i64 x.2.2.1)->SOk (Ac1 l s) (M+l.length)/\(Ac1 l s).q=s.q/\(Ac1 l s).down=s.down
 |[],s,M,h,_=>⟨h,rfl,rfl⟩
 |x::r,s,M,h,hw=>by
  have h1:=h.list x.1 x.2 (hw x (by simp))
  have h2:=A79 r h1 fun y hy=>hw y (by simp[hy])
  exact⟨h2.1.upto (by simp;omega),h2.2.1,h2.2.2⟩
theorem Bs3(kind:Int): ∀(l:List HD),(∀h∈l,h.2.2.length<=256)->(Bz9 kind l).length<=l.length*256
 |[],_=>by simp[Bz9]
 |x::r,h=>by
  have h1:=h x (by simp)
  have h2:=Bs3 kind r fun y hy=>h y (by simp[hy])
  have h3:=List.length_filter_le (fun y:It=>decide (y.1=kind)) x.2.2
  have e:Bz9 kind (x::r)=((x.2.2.filter fun y=>decide (y.1=kind)).map fun y=>(x,y))++Bz9 kind r:=rfl
  rw[e,List.length_append,List.length_map,List.length_cons]
  omega
theorem A78{d:Dev}(ok:Q2 d):(S3 d).length<=4096:=by
 have h1:(S3 d).length<=(Cv7 d (J7 d)).length:=List.length_filter_le ..
 have h2:(Cv7 d (J7 d)).length<=(Bz9 2 (J7 d)).length:=List.length_filterMap_le ..
 have h3:=Bs3 2 (J7 d) fun h hh=>(Ax6 hh).1.1
 have h4:=(O2 epK (Az9 d d.c.B)).length_eq
 have h5:=Ar7 d d.c.B
 have h6:=ok.c.b
 have h7:(J7 d).length<=16:=by unfold J7;omega
 omega
theorem Cc3{d:Dev}: ∀x∈S3 d,P9 .i64 x.2.2.1:=fun x hx=>by have:=(Cc4 hx).page;exact Bb8 (by omega)
theorem undDev:A03 PP 23=true:=by kernel_rfl
theorem neDev{L:A4}(a b c d a' b' c' d':Int){k:ShV (.lf .bool)->HP}(hk:k (!decide ((a,b,c,d)=(a',b',c',d'))) L):
  smP PP (binOp .neq 23 (.agg #[.i a,.i b,.i c,.i d]) (.agg #[.i a',.i b',.i c',.i d'])) (.lf .bool) k L:=by
 refine Cy7 (r:=(a==a'&&(b==b'&&(c==c'&&(d==d'&&true))))) undDev (by kernel_rfl) ?_
 have e:decide ((a,b,c,d)=(a',b',c',d'))=(a==a'&&(b==b'&&(c==c'&&(d==d'&&true)))):=by
  rw[Bool.eq_iff_iff];simp
 rw[e]at hk;exact hk
def Bq4(x:A06)(d:Dev):Prop:=(((d.c.B:Int),(d.c.P:Int),(d.c.S:Int),(d.c.W:Int))=(x.1,x.2.1,x.2.2.1,x.2.2.2.1))/\(1<=x.2.2.2.2.1/\x.2.2.2.2.1<=64/\1<=x.2.2.2.2.2.1/\x.2.2.2.2.2.1<=8)/\fitB x=true
instance (x:A06) (d:Dev):Decidable (Bq4 x d):=by unfold Bq4;infer_instance
def An3(x:A06)(d:Dev)(now:Int):Option Sto×Int:=
 if Bq4 x d then(if d.down=true then(none,11)else match Ca4 (A19 x d) d now with
  |none=>(none,2)
  |some s=>(some s,0))else(none,30)
theorem Db4{x:A06}{d:Dev}(h:Bq4 x d):ScOk (A19 x d):=by
 obtain⟨h1,h2,h3⟩:=h
 unfold fitB Q3 at h3
 simp only[Bool.and_eq_true,decide_eq_true_eq]at h3
 obtain⟨⟨⟨⟨a,b⟩,c⟩,e⟩,f⟩:=h3
 exact⟨⟨h2.1,h2.2.1⟩,⟨h2.2.2.1,h2.2.2.2⟩,a,b⟩
def OpenK(x:A06)(m:Nat)(d:Dev)(now:Int)(A:A4)(r:Value)(L':A4):Prop:=
 (∃e,An3 x d now=(none,e)/\e≠0/\r= .tuple #[.pointer none,.i e]/\L'=A)\/
 (∃s p g,An3 x d now=(some s,0)/\r= .tuple #[.pointer (some ⟨p.n,0,none⟩),.i 0]/\p.m=m/\L'=SL p s g/\SX p s g/\K8 s (S3 d).length)
def Cx8(m:Nat)(nb:Option Addr)(nk nr nq ng ni:Nat)(sc:SC)(ep:Int):List Value:=
  [.i sc.c.B,.i sc.c.P,.i sc.c.S,.i sc.c.W,.i sc.sets,.i sc.ways,.i sc.small,.i sc.ghost,.i sc.rate,.i sc.burst,.i sc.seed,
   .pointer (some ⟨m,0,none⟩),.pointer nb,.pointer (some ⟨nk,0,none⟩),.map (some nr),.pointer none,.i ep,.slice none 0 0,.bool false,
   .pointer (some ⟨nq,0,none⟩),.pointer (some ⟨ng,0,none⟩),.pointer (some ⟨ni,0,none⟩)]
theorem B64(L:A4)(x:A06)(now:Int):Reads PP 36 #[.agg #[.i x.1,.i x.2.1,.i x.2.2.1,.i x.2.2.2.1,.i x.2.2.2.2.1,.i x.2.2.2.2.2.1,.i x.2.2.2.2.2.2.1,.i x.2.2.2.2.2.2.2.1,.i x.2.2.2.2.2.2.2.2.1,.i x.2.2.2.2.2.2.2.2.2.1,.i x.2.2.2.2.2.2.2.2.2.2.1],.pointer none,.i now] L (.tuple #[.pointer none,.i 1]):=by
 unfold Reads
 refine c36 x none now ?_
 unfold s36
 exact ifT rfl (.of ⟨rfl,rfl⟩)
theorem A54(m:Nat)(d:Dev)(A:A4)(h:FH m d A)(ok:Q2 d)(hfew:d.torn.length<=999)(x:A06)(now:Int):
  CallF PP 36 #[.agg #[.i x.1,.i x.2.1,.i x.2.2.1,.i x.2.2.2.1,.i x.2.2.2.2.1,.i x.2.2.2.2.2.1,.i x.2.2.2.2.2.2.1,.i x.2.2.2.2.2.2.2.1,.i x.2.2.2.2.2.2.2.2.1,.i x.2.2.2.2.2.2.2.2.2.1,.i x.2.2.2.2.2.2.2.2.2.2.1],.pointer (some ⟨m,0,none⟩),.i now] A (OpenK x m d now A):=by
 refine c36 x (some ⟨m,0,none⟩) now ?_
 unfold s36
 have hP:=ok.c.p
 have hB:=ok.c.b
 refine ifF rfl ?_
 have bad: ∀{L J:A4},L.Perm (A++J)-> ¬Bq4 x d->HL.Ends (OpenK x m d now A) (.tuple #[.pointer none,.i 30]) L:=fun{L J} hp hn=>.drop (A:=A) (J:=J) (.inl ⟨30,by unfold An3;rw[if_neg hn],by decide,rfl,rfl⟩) hp
 by_cases hsw:1<=x.2.2.2.2.1/\x.2.2.2.2.1<=64/\1<=x.2.2.2.2.2.1/\x.2.2.2.2.2.1<=8
 ·obtain⟨sets,hsets⟩: ∃k:Nat,x.2.2.2.2.1=k:=⟨x.2.2.2.2.1.toNat,by omega⟩
  have hnew:=C87 sets x.2.2.2.2.2.1 (by omega) (by omega) hsw.2.2.1 hsw.2.2.2
  rw[<-hsets]at hnew
  refine G2 (A:=[]) (R:=A) hnew (List.Perm.refl _) ?_
  rintro _ Ai ⟨ni,rfl,hAi⟩
  refine⟨_,List.Perm.refl _,(some ⟨ni,0,none⟩,0,()),rfl,?_⟩
  have hp1:(Ai++A).Perm (A++Ai):=List.perm_append_comm
  generalize Ai++A=L1 at hp1
  refine U0 (fun _ L'=>Bq4 x d/\L'=L1) ?_ ?_
  ·rintro _ _ ⟨hcfg,rfl⟩
   dsimp only
   have hsc:=Db4 hcfg
   obtain⟨sc,hscd⟩: ∃sc,sc=A19 x d:=⟨_,rfl⟩
   cases hdn:d.down with
   |true=>
    refine G2 (B85 m d A h hdn) hp1 ?_
    rintro _ _ ⟨rfl,hA'⟩
    rw[hA']
    refine⟨_,List.Perm.refl _,((⟨none,0,0⟩,⟨none,0,0⟩,0,()),11,()),rfl,ifN (show¬((11:Int)=0) by decide) ?_⟩
    exact .drop (A:=A) (J:=Ai) (.inl ⟨11,by unfold An3;rw[if_pos hcfg,if_pos hdn],by decide,rfl,rfl⟩) (List.Perm.refl _)
   |false=>
    have hoe:An3 x d now=(match Ca4 sc d now with
      |none=>(none,2)
      |some s=>(some s,0)):=by unfold An3;rw[if_pos hcfg,if_neg (by rw[hdn];decide),hscd]
    refine G2 (Cn7 m d A h ok hdn) hp1 ?_
    rintro _ _ ⟨lv,hs,hseg,vv,vseg,rfl,rfl,own,hok,hdat,vown⟩
    refine⟨_,List.Perm.refl _,((lv,vv,A74 (J7 d),()),0,()),rfl,ifP rfl ?_⟩
    dsimp only
    have hp2:((hseg++(S8 hs++(vseg++A)))++Ai).Perm (S8 hs++(hseg++(vseg++(A++Ai)))):=pc fun z=>by simp only[B6];omega
    generalize (hseg++(S8 hs++(vseg++A)))++Ai=L2 at hp2
    refine G2 (A:=[]) (R:=L2) (Cu9 x.2.2.2.2.2.2.2.2.1 x.2.2.2.2.2.2.2.2.2.1 now 0) (List.Perm.refl _) ?_
    rintro _ _ ⟨nk,rfl,rfl⟩
    refine⟨(nk,A46 (Ah7 x.2.2.2.2.2.2.2.2.1 x.2.2.2.2.2.2.2.2.2.1 now 0))::L2,List.Perm.refl _,(some ⟨nk,0,none⟩,()),rfl,?_⟩
    refine G2 (A:=[]) (R:=(nk,A46 (Ah7 x.2.2.2.2.2.2.2.2.1 x.2.2.2.2.2.2.2.2.2.1 now 0))::L2) (Co5 x.2.2.2.2.2.2.1) (List.Perm.refl _) ?_
    rintro _ Aq ⟨nq,rfl,hAq⟩
    refine⟨Aq++((nk,A46 (Ah7 x.2.2.2.2.2.2.2.2.1 x.2.2.2.2.2.2.2.2.2.1 now 0))::L2),List.Perm.refl _,(some ⟨nq,0,none⟩,()),rfl,?_⟩
    refine G2 (A:=[]) (R:=Aq++((nk,A46 (Ah7 x.2.2.2.2.2.2.2.2.1 x.2.2.2.2.2.2.2.2.2.1 now 0))::L2)) (C99 x.2.2.2.2.2.2.2.1) (List.Perm.refl _) ?_
    rintro _ _ ⟨ng,go,rfl,rfl,hgo⟩
    refine⟨(ng,go)::(Aq++((nk,A46 (Ah7 x.2.2.2.2.2.2.2.2.1 x.2.2.2.2.2.2.2.2.2.1 now 0))::L2)),List.Perm.refl _,(some ⟨ng,0,none⟩,()),rfl,C4 fun n3 _=>C4 fun n4 _=>?_⟩
    have hsm:=hsc.sm
    have hgs:=hsc.gs
    have esm:S7 x.2.2.2.2.2.2.1 0=sc.small:=by rw[hscd];show S7 (A19 x d).small 0=_;unfold S7;split<;>omega
    have egs:V3 (S7 x.2.2.2.2.2.2.2.1 0) 64=sc.ghost:=by rw[hscd];show V3 (S7 (A19 x d).ghost 0) 64=_;unfold S7 V3;split<;>split<;>omega
    rw[esm]at hAq
    rw[egs]at hgo
    obtain⟨F,hF⟩: ∃F:A4,F=hseg++(vseg++(A++(Ai++((nk,A46 (Ah7 sc.rate sc.burst now 0))::(Aq++[(ng,go)]))))):=⟨_,rfl⟩
    obtain⟨so,hso⟩: ∃so:Nat×Obj,so=(n4,Obj.cells (Cx8 m none nk n3 nq ng ni sc (A74 (J7 d))).toArray 89):=⟨_,rfl⟩
    have hdc:((d.c.B:Int),(d.c.P:Int),(d.c.S:Int),(d.c.W:Int))=(x.1,x.2.1,x.2.2.1,x.2.2.2.1):=hcfg.1
    simp only[Prod.mk.injEq]at hdc
    have eso:(n4,Obj.cells #[.i x.1,.i x.2.1,.i x.2.2.1,.i x.2.2.2.1,.i x.2.2.2.2.1,.i x.2.2.2.2.2.1,.i x.2.2.2.2.2.2.1,.i x.2.2.2.2.2.2.2.1,.i x.2.2.2.2.2.2.2.2.1,.i x.2.2.2.2.2.2.2.2.2.1,.i x.2.2.2.2.2.2.2.2.2.2.1,.pointer (some ⟨m,0,none⟩),.pointer none,.pointer (some ⟨nk,0,none⟩),.map (some n3),.pointer none,.i (A74 (J7 d)),.slice none 0 0,.bool false,.pointer (some ⟨nq,0,none⟩),.pointer (some ⟨ng,0,none⟩),.pointer (some ⟨ni,0,none⟩)] 89)=so:=by
     rw[hso,hscd,<-hdc.1,<-hdc.2.1,<-hdc.2.2.1,<-hdc.2.2.2];rfl
    rw[eso]
    have hhl:hs.length<=16:=by
     have h1:=congrArg List.length hdat
     rw[List.length_map]at h1
     have h2:=(O2 epK (Az9 d d.c.B)).length_eq
     have h3:=Ar7 d d.c.B
     unfold J7 at h1
     omega
    have hlv:=own.sl.els_len HE.enc_len (by decide)
    have hnd:(hs.map HE.b).Nodup:=by
     have h1:=A40 d
     unfold blkR at h1
     rw[<-hdat,List.map_map]at h1
     exact h1
    have l14: ∀{L:A4},so∈L->D0 ⟨n4,14,none⟩ [.map (some n3)] L:=fun hm=>by rw[hso]at hm;exact ldC hm rfl
    refine G3 (fun z' z L'=> ∃(i:Nat) (ns:List RN) (uv:SlV) (useg:A4) (es:Array MapEntry) (ck:Nat) (J:A4),z=(uv,(i:Int),())/\z'=hs.length-i/\i<=hs.length/\ns.map RN.r=(hs.take i).map (fun q=>B05 q.dat)/\(∀y∈ns,y.Ok)/\Mp (Value.i) es (W0 ns)/\Own uv 1 Bx0 (ivs .i64 ((hs.take i).map HE.b)) useg/\L'.Perm (so::((n3,Obj.map es ck)::(useg++(rns ns++(S8 (hs.drop i)++(F++J))))))) hs.length
     ⟨0,[],⟨none,0,0⟩,[],#[],0,[],rfl,rfl,by omega,rfl,by simp,rfl,F6,(pc fun z=>by have:=pcn hp2 z;rw[hF,hscd];simp only[List.drop_zero,show rns []=[]from rfl,show(A19 x d).rate=x.2.2.2.2.2.2.2.2.1 from rfl,show(A19 x d).burst=x.2.2.2.2.2.2.2.2.2.1 from rfl,B6,C5,D8]at*;omega)⟩ ?_
    rintro z' z L3 ⟨i,ns,uv,useg,es,ck,J,rfl,rfl,hi,hnr,hnok,hmp,hus,hp3⟩
    dsimp only
    have hseg3: ∀y∈hseg,y∈L3:=fun y hy=>hp3.symm.subset (by rw[hF];simp[hy])
    have hso3:so∈L3:=hp3.symm.subset (by simp)
    refine B8 (fun(hlt:(i:Int)<lv.len)=>?_) (fun(hge: ¬(i:Int)<lv.len)=>?_)
    ·have hi':i<hs.length:=by omega
     refine V1 HE.enc_len (by decide) (own.sl.mono hseg3) (n:=i) rfl hi' fun a ha=>?_
     have hdrop:hs.drop i=hs[i]::hs.drop (i+1):=List.drop_eq_getElem_cons hi'
     have htake:hs.take (i+1)=hs.take i++[hs[i]]:=List.take_succ_eq_append_getElem hi'
     have hbn:hs[i].b∉(hs.take i).map HE.b:=by
      have h1:=hnd
      rw[<-List.take_append_drop i hs,hdrop,List.map_append,List.map_cons,List.nodup_append]at h1
      exact fun hm=>h1.2.2 _ hm _ (by simp) rfl
     have hqok:=hok _ (List.getElem_mem hi')
     generalize hs[i]=q at ha hdrop htake hbn hqok
     refine A6 (sh:=.agg [.int .i64,.int .i64,.sl]) (q.b,q.ep,q.v,()) ha ?_
     have huv:=hus.sl.len
     rw[Nat.mul_one,M2,List.length_map,List.length_take]at huv
     refine Ai7 A99 B63 hus (Y:=so::((n3,Obj.map es ck)::(rns ns++(S8 (hs.drop i)++(F++J))))) (ws:=[.i q.b]) (pc fun z=>by have:=pcn hp3 z;simp only[B6,C5]at*;omega) rfl rfl (by omega) fun uv' useg' hl' hus'=>?_
     refine A6 (some n3) (l14 (by simp)) (C4 fun n7 _=>?_)
     obtain⟨y,hy⟩: ∃y:RN,y=⟨B05 q.dat,n7,q.v,q.seg⟩:=⟨_,rfl⟩
     have eyo:(n7,Obj.cells #[Value.i q.b,.i q.ep,.i 0,.slice q.v.a q.v.len q.v.cap] 156)=y.o:=by rw[hy];rfl
     rw[eyo]
     refine Aj9 mapR (r:=n3) (es:=es) (clock:=ck) (m:=W0 ns) (Y:=y.o::(so::(useg'++(rns ns++(S8 (hs.drop i)++(F++J)))))) (pc fun z=>by simp only[B6,C5];omega) hmp q.b (.pointer (some ⟨n7,0,none⟩)) fun es' ck' L4 hmp' hp4=>?_
     refine D9 (by omega) ⟨hs.length-(i+1),by omega,i+1,ns++[y],uv',useg',es',ck',J,rfl,rfl,by omega,?_,?_,?_,?_,?_⟩
     ·rw[htake,List.map_append,List.map_append,hnr,hy];rfl
     ·intro w hw
      rcases List.mem_append.1 hw with hw|hw
      ·exact hnok w hw
      ·rw[List.mem_singleton.1 hw,hy];exact hqok
     ·rw[Aw1 _ _ _ (by rw[A20,hnr,List.map_map];exact hbn)]at hmp'
      have:W0 (ns++[y])=W0 ns++[(q.b,.pointer (some ⟨n7,0,none⟩))]:=by unfold W0;rw[List.map_append,hy];rfl
      rw[this];exact hmp'
     ·rw[htake,List.map_append,Ab1];exact hus'
     ·refine pc fun z=>?_
      have:=pcn hp4 z
      have e1:y.objs=y.o::q.seg:=by rw[hy];rfl
      rw[hdrop]at this
      have e2:S8 (q::hs.drop (i+1))=q.seg++S8 (hs.drop (i+1)):=rfl
      rw[e2]at this
      rw[B81,Am9,e1]
      simp only[B6,C5]at*
      omega
    ·obtain rfl:i=hs.length:=by omega
     rw[List.take_length]at hnr hus
     rw[List.drop_length]at hp3
     have hregs:(hs.map fun q=>B05 q.dat)=V6 d:=by unfold V6;rw[<-hdat,List.map_map];rfl
     rw[hregs]at hnr
     have hub:hs.map HE.b=(V6 d).map Reg.b:=by rw[<-hregs,List.map_map];rfl
     rw[hub]at hus
     have hul:=hus.sl.len
     rw[Nat.mul_one,M2]at hul
     have hulen:((V6 d).map Reg.b).length<=16:=by rw[<-hub,List.length_map];exact hhl
     refine G2 (Bz3 m d A h ok) (R:=so::((n3,Obj.map es ck)::(useg++(rns ns++(hseg++(vseg++(Ai++((nk,A46 (Ah7 sc.rate sc.burst now 0))::(Aq++((ng,go)::J)))))))))) (pc fun z=>by have:=pcn hp3 z;rw[hF]at this;simp only[show S8 []=[]from rfl,B6,C5,D8]at*;omega) ?_
     rintro _ _ ⟨sv,sseg,rfl,rfl,sown⟩
     refine⟨_,List.Perm.refl _,(sv,()),rfl,?_⟩
     refine R4 (Db8 _ sv (At2 d) (sown.sl.mono fun y hy=>by simp[hy]) uv ((V6 d).map Reg.b) (hus.sl.mono fun y hy=>by simp[hy]) (by omega)) ?_
     intro rv L5 _ hK
     unfold Az3 at hK
     cases hbn:Ah6 (At2 d) ((V6 d).map Reg.b)with
     |none=>
      rw[hbn]at hK
      obtain⟨rfl,rfl⟩:=hK
      refine⟨(none,2,()),rfl,?_⟩
      have hos:An3 x d now=(none,2):=by rw[hoe];unfold Ca4;rw[hbn];rfl
      refine st1 (n:=n4) (k:=12) (Cx8 m none nk n3 nq ng ni sc (A74 (J7 d))) (cs:=Cx8 m none nk n3 nq ng ni sc (A74 (J7 d))) (T:=89) (Y:=sseg++(A++((n3,Obj.map es ck)::(useg++(rns ns++(hseg++(vseg++(Ai++((nk,A46 (Ah7 sc.rate sc.burst now 0))::(Aq++((ng,go)::J))))))))))) (pc fun z=>by rw[<-hso];simp only[B6,C5];omega) (by simp[Cx8]) rfl fun L6 hp6=>?_
      refine ifN (show¬((2:Int)=0) by decide) ?_
      rw[<-hso]at hp6
      exact .drop (A:=A) (J:=so::(sseg++((n3,Obj.map es ck)::(useg++(rns ns++(hseg++(vseg++(Ai++((nk,A46 (Ah7 sc.rate sc.burst now 0))::(Aq++((ng,go)::J))))))))))) (.inl ⟨2,hos,by decide,rfl,rfl⟩) (pc fun z=>by have:=pcn hp6 z;simp only[B6,C5]at*;omega)
     |some rr=>
      rw[hbn]at hK
      obtain⟨nb,Ab,rfl,rfl,hAb,-⟩:=hK
      refine⟨(some ⟨nb,0,none⟩,0,()),rfl,?_⟩
      obtain⟨r1,r2,r3,r4⟩:=By1 hbn
      obtain⟨s0,hs0⟩: ∃s0,s0=B41 sc d now rr.1:=⟨_,rfl⟩
      have hos:An3 x d now=(some (Ac1 (S3 d) s0),0):=by rw[hoe];unfold Ca4;rw[hbn,hs0];rfl
      obtain⟨p,hp⟩: ∃p:SP,p=⟨n4,m,nb,nk,n3,nq,ng,ni⟩:=⟨_,rfl⟩
      obtain⟨g,hg⟩: ∃g:SG,g=⟨ns,none,es,ck,⟨none,0,0⟩,[],A,Ab,Aq,Ai,go⟩:=⟨_,rfl⟩
      have hcc:d.c=sc.c:=by rw[hscd];rfl
      have hX:SX p s0 g:=by
       subst hp;subst hg;subst hs0
       refine⟨hcc,h,?_,hAq,hgo,?_,?_,hnr,rfl,?_,F6⟩
       ·have e:(B41 sc d now rr.1).us=rr.2:=by rw[r1];show(V6 d).map Reg.b++[]=_;simp
        rw[e];exact hAb
       ·have e:sc.sets.toNat=sets:=by rw[hscd];show x.2.2.2.2.1.toNat=sets;omega
        show IX ni sc.ways (List.replicate sc.sets.toNat []) Ai
        rw[e,hscd];exact hAi
       ·show Mp _ es (W0 (ns++[]))
        rw[List.append_nil];exact hmp
       ·intro y hy
        have:y∈ns:=by unfold SG.all at hy;simpa using hy
        exact hnok y this
      have hst:stO p s0 g=(n4,Obj.cells (Cx8 m (some ⟨nb,0,none⟩) nk n3 nq ng ni sc (A74 (J7 d))).toArray 89):=by
       subst hp;subst hg;subst hs0;rfl
      refine st1 (n:=n4) (k:=12) (Cx8 m (some ⟨nb,0,none⟩) nk n3 nq ng ni sc (A74 (J7 d))) (cs:=Cx8 m none nk n3 nq ng ni sc (A74 (J7 d))) (T:=89) (Y:=Ab++(sseg++(A++((n3,Obj.map es ck)::(useg++(rns ns++(hseg++(vseg++(Ai++((nk,A46 (Ah7 sc.rate sc.burst now 0))::(Aq++((ng,go)::J)))))))))))) (pc fun z=>by rw[<-hso];simp only[B6,C5];omega) (by simp[Cx8]) rfl fun L6 hp6=>?_
      rw[<-hst]at hp6
      have hp6:L6.Perm (SL p s0 g++(vseg++(sseg++(useg++(hseg++J))))):=pc fun z=>by
       have:=pcn hp6 z
       have e2:kO p s0=(nk,A46 (Ah7 sc.rate sc.burst now 0)):=by rw[hp,hs0];rfl
       have e3:mO p g=(n3,Obj.map es ck):=by rw[hp,hg];rfl
       have e4:gO p g=(ng,go):=by rw[hp,hg];rfl
       simp only[SL,e2,e3,e4,B6,C5,D8]
       simp only[hg,show rns (none:Option RN).toList=[]from rfl,B6,C5,D8]at*
       omega
      refine ifP rfl ?_
      have hk0:SOk s0 0:=by rw[hs0];exact C31 ok hcc hdn hfew (by rw[hscd];exact hsc) hbn
      have hll:=vown.sl.els_len LE.enc_len (by decide)
      have hvle:=A78 ok
      refine G3 (fun z' z L'=> ∃(i:Nat) (g':SG),z=((i:Int),())/\z'=(S3 d).length-i/\i<=(S3 d).length/\SX p (Ac1 ((S3 d).take i) s0) g'/\L'.Perm (SL p (Ac1 ((S3 d).take i) s0) g'++(vseg++(sseg++(useg++(hseg++J)))))) (S3 d).length ⟨0,g,rfl,rfl,by omega,hX,hp6⟩ ?_
      rintro z' z L7 ⟨i,g',rfl,rfl,hi,X',hp7⟩
      dsimp only
      refine B8 (fun(hlt:(i:Int)<vv.len)=>?_) (fun(hge: ¬(i:Int)<vv.len)=>?_)
      ·have hi':i<(S3 d).length:=by omega
       have htake:(S3 d).take (i+1)=(S3 d).take i++[(S3 d)[i]]:=List.take_succ_eq_append_getElem hi'
       refine V1 LE.enc_len (by decide) (vown.sl.mono fun y hy=>hp7.symm.subset (by simp[hy])) (n:=i) rfl hi' fun a ha=>?_
       have hlk:=A79 ((S3 d).take i) hk0 fun y hy=>Cc3 y (List.mem_of_mem_take hy)
       have hks:((S3 d)[i]).1.size<=1000000:=by
        have:=(Cc4 (List.getElem_mem hi')).fetch.2
        rw[<-this,Bg3]
        have:=(Bi1 d ((S3 d)[i]).2).1
        omega
       generalize (S3 d)[i]=y at ha htake hks
       refine A6 (sh:=.agg [.str,.int .i64,.int .i64,.int .i64]) y ha ?_
       have hnp:(⟨n4,0,none⟩:Addr)=⟨p.n,0,none⟩:=by rw[hp]
       rw[hnp]
       refine G2 (Bs2 p _ g' X' hlk.1.wy.1 y.1 hks (hlk.1.row _).len (Nat.le_trans hlk.1.pl (by rw[List.length_take];omega)) y.2) hp7 ?_
       rintro _ _ ⟨g2,hL2,X2,rfl⟩
       rw[List.append_nil]at hL2
       rw[hL2]
       have hls:Ac1 ((S3 d).take (i+1)) s0=(Ac1 ((S3 d).take i) s0).list y.1 y.2:=by rw[htake];unfold Ac1;rw[List.foldl_append];rfl
       refine⟨_,List.Perm.refl _,(),rfl,D9 (by omega) ⟨(S3 d).length-(i+1),by omega,i+1,g2,rfl,rfl,by omega,by rw[hls];exact X2,by rw[hls]⟩⟩
      ·obtain rfl:i=(S3 d).length:=by omega
       rw[List.take_length]at X' hp7
       have hlk:=A79 (S3 d) hk0 Cc3
       refine .drop (A:=SL p (Ac1 (S3 d) s0) g') (J:=vseg++(sseg++(useg++(hseg++J)))) (.inr ⟨_,p,g',hos,by rw[hp],by rw[hp],rfl,X',⟨hlk.1.upto (by omega),fun _=>by rw[hlk.2.1,hs0];exact Nat.zero_le _⟩⟩) hp7
  ·intro j1 hj1
   refine B7 (Ab8 ⟨Ai,hp1⟩ h) ((d.c.B,d.c.P,d.c.S,d.c.W,()),()) rfl ?_
   refine neDev _ _ _ _ _ _ _ _ ?_
   refine G0 (fun hne=>bad hp1 fun hc=>?_) (fun hne=>?_)
   ·rw[show decide (((d.c.B:Int),(d.c.P:Int),(d.c.S:Int),(d.c.W:Int))=(x.1,x.2.1,x.2.2.1,x.2.2.2.1))=true from decide_eq_true hc.1]at hne
    cases hne
   ·have heq:(((d.c.B:Int),(d.c.P:Int),(d.c.S:Int),(d.c.W:Int))=(x.1,x.2.1,x.2.2.1,x.2.2.2.1)):=by
     by_cases hh:(((d.c.B:Int),(d.c.P:Int),(d.c.S:Int),(d.c.W:Int))=(x.1,x.2.1,x.2.2.1,x.2.2.2.1))
     ·exact hh
     ·rw[show decide (((d.c.B:Int),(d.c.P:Int),(d.c.S:Int),(d.c.W:Int))=(x.1,x.2.1,x.2.2.1,x.2.2.2.1))=false from decide_eq_false hh]at hne
      cases hne
    have hq:=heq
    simp only[Prod.mk.injEq]at hq
    refine ifP rfl ?_
    refine B7 (fit_rd L1 x (by omega)) (fitB x,()) rfl ?_
    exact G0 (fun hf=>hj1 _ _ ⟨⟨heq,hsw,hf⟩,rfl⟩) (fun hf=>bad hp1 fun hc=>by have h9:=hc.2.2;rw[show fitB x=false from hf]at h9;cases h9)
 ·refine B7 (Cr6 A x.2.2.2.2.1 x.2.2.2.2.2.1 (by omega)) (none,30,()) rfl ?_
  have hn: ¬Bq4 x d:=fun hc=>hsw hc.2.1
  refine U0 (fun _ _=>False) (fun _ _ hf=>hf.elim) fun j1 _=>?_
  refine B7 (Ab8 ⟨[],by simp⟩ h) ((d.c.B,d.c.P,d.c.S,d.c.W,()),()) rfl ?_
  refine neDev _ _ _ _ _ _ _ _ ?_
  exact G0 (fun _=>bad (J:=[]) (by simp) hn) (fun _=>ifN (show¬((30:Int)=0) by decide) (bad (J:=[]) (by simp) hn))
def exC:Cfg:=⟨4,8,64,1000⟩
def exX:A06:=(4,8,64,1000,4,4,12,8,1000,4000,0,())
def kA:ByteArray:=ByteArray.mk #[97]
def kB:ByteArray:=ByteArray.mk #[98]
def kC:ByteArray:=ByteArray.mk #[99]
def v5:List UInt8:=[49,50,51,52,53]
def v1:List UInt8:=[49]
def exD:Dev:=fresh exC
def exS0:Sto:=B41 (A19 exX exD) exD 0 (List.replicate 4 ⟨0,false,false⟩)
def C00:Sto:=exS0.tick 9
def Cz9:Sto:=(C00.put kA v5).1
def Cz8:Sto:=(Cz9.put kB v5).1
def B45:Sto:=(Cz8.put kC v1).1
def Da6:Sto:=(B45.put kA v1).1
def Cz7:Sto:=(Da6.get kA).1
def Cg3:Sto:=(Cz7.delete kA).1
def Da5:Sto:=Cg3.flush.1
def Bk9:Sto:=(Da5.get kA).1
theorem ex0:An3 exX exD 0=(some exS0,0):=by kernel_rfl
theorem ex2:(C00.put kA v5).2=0:=by kernel_rfl
theorem ex3:(Cz9.put kB v5).2=0:=by kernel_rfl
theorem ex4:(Cz8.put kC v1).2=0:=by kernel_rfl
theorem ex4g:B45.ghosted kA=true:=by kernel_rfl
theorem ex4h:B45.has kB=1:=by kernel_rfl
theorem ex5:(B45.put kA v1).2=0:=by kernel_rfl
theorem ex6:(Da6.get kA).2=([49],0):=by kernel_rfl
theorem ex7:(Cz7.delete kA).2=(true,0):=by kernel_rfl
theorem ex7p:Cg3.pend.length=1:=by kernel_rfl
theorem ex8:Cg3.flush.2=0:=by kernel_rfl
theorem ex9:(Da5.get kA).2.2=8:=by kernel_rfl
theorem ex9q:Bk9.q.length=2:=by kernel_rfl
theorem ex9l:ilen Bk9.ix=0:=by kernel_rfl
theorem ex9t:Bk9.bk.tokens=3808:=by kernel_rfl
theorem exd7:Cg3.down=false:=by kernel_rfl
theorem exd9:Bk9.down=false:=by kernel_rfl
theorem K8.tick{s:Sto}{M:Nat}(h:K8 s M)(now:Int):K8 (s.tick now) M/\(s.tick now).sc=s.sc:=by
 unfold Sto.tick
 split
 ·exact⟨h,rfl⟩
 ·exact⟨⟨{h.ok with dv:=h.ok.dv,bk:=Ci4 h.ok.bk now},h.q⟩,rfl⟩
theorem C93{l:List C9}{nm:Ao5}: ∀x∈Aq6 l nm,∃y∈l,x.p=y.p:=fun x hx=>by
 unfold Aq6 at hx
 split at hx
 ·rename_i i hi
  obtain⟨j,hj,rfl⟩:=List.getElem_of_mem hx
  rw[List.length_modify]at hj
  refine⟨l[j],List.getElem_mem hj,?_⟩
  rw[List.getElem_modify]
  split<;>rfl
 ·exact⟨x,hx,rfl⟩
theorem K8.get{s:Sto}{M:Nat}(h:K8 s M)(key:ByteArray):K8 (s.get key).1 M/\(s.get key).1.sc=s.sc:=by
 unfold Sto.get
 split
 ·exact⟨h,rfl⟩
 ·split
  ·refine⟨⟨h.ok.setq (fun e he=>?_) (by unfold Aq7;rw[List.length_map];exact h.ok.ql),fun hd=>by show(Aq7 s.q key).length<=65536;unfold Aq7;rw[List.length_map];exact h.q hd⟩,rfl⟩
   unfold Aq7 at he
   obtain⟨y,hy,rfl⟩:=List.mem_map.1 he
   have:=h.ok.qs y hy
   split<;>exact this
  ·split
   ·exact⟨h,rfl⟩
   ·refine⟨⟨h.ok.ixset _ (Bv3 (h.ok.ixi.row (h.ok.isi _)) _) fun x hx=>?_,h.q⟩,rfl⟩
    obtain⟨y,hy,e⟩:=C93 x hx
    rw[e];exact h.ok.ixw _ (Al5 (h.ok.isi _)) y hy
theorem K8.delete{s:Sto}{M:Nat}(h:K8 s M)(key:ByteArray):K8 (s.delete key).1 (M+1)/\(s.delete key).1.sc=s.sc:=by
 unfold Sto.delete
 split
 ·exact⟨h.upto (by omega),rfl⟩
 ·obtain⟨f1,f2,f3,f4,f5⟩:=h.ok.forget key
  exact⟨⟨f1,fun hd=>by show(s.forget key).1.q.length<=65536;rw[f4];exact Nat.le_trans (Y3 _ _) (h.q (f2▸hd))⟩,f3⟩
theorem K8.flushes: ∀(k:Nat) {s:Sto} {M:Nat},K8 s M->s.down=false->K8 (Sto.flushes k s).1 M/\(Sto.flushes k s).1.sc=s.sc
 |0,s,M,h,hd=>⟨h,rfl⟩
 |k+1,s,M,h,hd=>by
  unfold Sto.flushes
  split
  ·exact⟨h,rfl⟩
  ·obtain⟨a1,a2,a3⟩:=h.ok.roomy hd (n:=1) (by decide)
   have aq:(s.roomy 1).1.q=s.q:=(Bt0 1 (s.mu+1) s).1
   dsimp only
   have adn:=A58 1 (s.mu+1) s
   have adn:(s.roomy 1).2≠11->(s.roomy 1).1.down=s.down:=adn
   have aup:(s.roomy 1).2=11->(s.roomy 1).1.down=true:=Bm6 1 (s.mu+1) s
   generalize s.roomy 1=w at a1 a2 a3 aq adn aup
   have iw:K8 w.1 M:=⟨a1,fun _=>by rw[aq];exact h.q hd⟩
   split
   ·exact⟨iw,a3⟩
   ·rename_i h0
    obtain⟨b1,b2⟩:=a2 (by simpa using h0)
    split
    ·exact⟨iw,a3⟩
    ·split
     ·exact⟨iw,a3⟩
     ·obtain⟨c1,c2⟩:=a1.write b1 3 [(T9 (w.1.pend.take (min w.1.pend.length (D4 w.1.sc.c.S/6).toNat))).1]
      have cq:=A49 w.1 3 [(T9 (w.1.pend.take (min w.1.pend.length (D4 w.1.sc.c.S/6).toNat))).1]
      generalize w.1.write 3 [(T9 (w.1.pend.take (min w.1.pend.length (D4 w.1.sc.c.S/6).toNat))).1]=z at c1 c2 cq
      have iz:K8 z.1 M:=⟨c1,fun _=>by rw[cq.1,aq];exact h.q hd⟩
      split
      ·exact⟨iz,cq.2.2.trans a3⟩
      ·rename_i h1
       have h1:z.2.2=0:=by simpa using h1
       have i4:K8 {z.1 with pend:=z.1.pend.drop (min w.1.pend.length (D4 w.1.sc.c.S/6).toNat)} M:=⟨{c1 with dv:=c1.dv,pl:=by show(z.1.pend.drop _).length<=M;rw[List.length_drop];have:=c1.pl;omega},iz.q⟩
       have:=K8.flushes k i4 (c2 h1)
       exact⟨this.1,this.2.trans (cq.2.2.trans a3)⟩
theorem K8.flush{s:Sto}{M:Nat}(h:K8 s M):K8 s.flush.1 M/\s.flush.1.sc=s.sc:=by
 unfold Sto.flush
 split
 ·exact⟨h,rfl⟩
 ·rename_i hd
  exact K8.flushes _ h (by simpa using hd)
theorem A57{L:A4}{b:Nat}{l:List UInt8}{T:TypeId}{fz:Nat×Nat}(cap:Nat)(hc:l.length<=cap)(hm:(b,Obj.cells (bvs l).toArray T fz)∈L):BSl L ⟨some ⟨b,0,none⟩,l.length,cap⟩ l:=
 ⟨by rw[E9];simp,hc,.inr ⟨_,rfl,.blk hm fun i v hv=>by simpa using hv⟩⟩
theorem Cl7:PP.underlying 27=some (.slice 5):=by kernel_rfl
theorem Cl6:PP.underlying 5=some (.int .u8):=by kernel_rfl
section
variable (L:A4) (key:ByteArray)
theorem Bz8:Reads PP 27 #[.pointer none] L (.i 1):=by
 unfold Reads
 refine c27 none ?_
 unfold s27
 exact ifT rfl (.of ⟨rfl,rfl⟩)
theorem Am5:Reads PP 37 #[] L (.agg #[.i 4,.i 8,.i 64,.i 1000,.i 4,.i 4,.i 12,.i 8,.i 1000,.i 4000,.i 0]):=by
 unfold Reads
 refine c37 ?_
 unfold s37
 exact .of ⟨rfl,rfl⟩
end
def zO(n:Nat)(c:Array Value):Nat×Obj:=(n,Obj.cells c 5 (c.size,c.size+1))
theorem exe2:(C00.put kA v5).1=Cz9:=by unfold Cz9;exact rfl
theorem exe3:(Cz9.put kB v5).1=Cz8:=by unfold Cz8;exact rfl
theorem exe4:(Cz8.put kC v1).1=B45:=by unfold B45;exact rfl
theorem exe5:(B45.put kA v1).1=Da6:=by unfold Da6;exact rfl
theorem exe6:(Da6.get kA).1=Cz7:=by unfold Cz7;exact rfl
theorem exe7:(Cz7.delete kA).1=Cg3:=by unfold Cg3;exact rfl
theorem exe8:Cg3.flush.1=Da5:=by unfold Da5;exact rfl
theorem exe9:(Da5.get kA).1=Bk9:=by unfold Bk9;exact rfl
theorem Cz4{p:SP}{s:Sto}{g:SG}{R:A4}:Has (SL p s g++R) (SL p s g):=⟨R,List.Perm.refl _⟩
theorem B60(L:A4)(hT:Tab L):Reads PP 10 #[] L (.bool true):=by
 unfold Reads
 refine c10 ?_
 unfold s10
 refine B7 (Am5 L) (exX,()) rfl ?_
 refine G2 (A:=[]) (R:=L) (Cy6 (4,8,64,1000,())) (List.Perm.refl _) ?_
 rintro _ A0 (⟨hn,-,-⟩|⟨-,m,rfl,hA0⟩)
 ·exact absurd (by decide) hn
 have hA0:FH m exD A0:=hA0
 refine⟨A0++L,List.Perm.refl _,(some ⟨m,0,none⟩,0,()),rfl,?_⟩
 refine B7 (Am5 _) (exX,()) rfl ?_
 have okD:Q2 exD:=Bv7 (Ch9 (c:=(4,8,64,1000,())) (by decide))
 refine G2 (R:=L) (A54 m exD A0 hA0 okD (by decide) exX 0) (List.Perm.refl _) ?_
 rintro _ _ (⟨e,he,-,-,-⟩|⟨s,p,g,he,rfl,-,rfl,X0,I0⟩)
 ·rw[ex0]at he;cases he
 rw[ex0]at he
 injection he with he1 _
 obtain rfl:=Option.some.inj he1
 refine⟨SL p exS0 g++L,List.Perm.refl _,(some ⟨p.n,0,none⟩,0,()),rfl,?_⟩
 refine B7 (Am5 _) (exX,()) rfl (B7 (B64 _ exX 0) (none,1,()) rfl ?_)
 have hll:=A78 okD
 have I1:K8 C00 4096:=(K8.tick (I0.upto hll) 9).1
 have I2:K8 Cz9 104096:=(I1.put kA v5).1
 have I3:K8 Cz8 204096:=(I2.put kB v5).1
 have I4:K8 B45 304096:=(I3.put kC v1).1
 have I5:K8 Da6 404096:=(I4.put kA v1).1
 have I6:K8 Cz7 404096:=(I5.get kA).1
 have I7:K8 Cg3 404097:=(I6.delete kA).1
 have I8:K8 Da5 404097:=I7.flush.1
 have I9:K8 Bk9 404097:=(I8.get kA).1
 refine U0 (fun _ L'=>L'=SL p exS0 g++L) ?_ ?_
 ·rintro _ _ rfl
  refine G2 (Br6 p exS0 g X0 I0.ok.bk 9) (R:=L) (List.Perm.refl _) ?_
  rintro _ _ ⟨g1,hL1,X1,rfl⟩
  rw[List.append_nil]at hL1
  rw[hL1]
  have X1:SX p C00 g1:=X1
  refine⟨SL p C00 g1++L,List.Perm.refl _,(),rfl,?_⟩
  refine C4 fun n1 _=>A75 Cl7 Cl6 ?_
  obtain⟨c1,hc1⟩: ∃c1:Nat×Obj,c1=zO n1 #[.int .u8 49,.int .u8 50,.int .u8 51,.int .u8 52,.int .u8 53]:=⟨_,rfl⟩
  have hb1: ∀{Y:A4},BSl (c1::Y) ⟨some ⟨n1,0,none⟩,5,5⟩ v5:=A57 (l:=v5) 5 (by decide) (by rw[hc1];exact List.mem_cons_self)
  refine Ap5 (At4 p C00 g1 X1 I1 (by decide) (c1::L) hT.cons kA ⟨some ⟨n1,0,none⟩,5,5⟩ v5 hb1) (by rw[hc1];unfold zO;exact pc fun z=>by simp only[B6,C5];omega) ?_
  rintro _ _ ⟨g2,rfl,X2,rfl⟩
  rw[exe2]at X2⊢
  refine⟨((C00.put kA v5).2,()),rfl,C4 fun n2 _=>A75 Cl7 Cl6 ?_⟩
  obtain⟨c2,hc2⟩: ∃c2:Nat×Obj,c2=zO n2 #[.int .u8 49,.int .u8 50,.int .u8 51,.int .u8 52,.int .u8 53]:=⟨_,rfl⟩
  have hb2: ∀{Y:A4},BSl (c2::Y) ⟨some ⟨n2,0,none⟩,5,5⟩ v5:=A57 (l:=v5) 5 (by decide) (by rw[hc2];exact List.mem_cons_self)
  refine Ap5 (At4 p Cz9 g2 X2 I2 (by decide) (c2::(c1::L)) hT.cons.cons kB ⟨some ⟨n2,0,none⟩,5,5⟩ v5 hb2) (by rw[hc2];unfold zO;exact pc fun z=>by simp only[B6,C5];omega) ?_
  rintro _ _ ⟨g3,rfl,X3,rfl⟩
  rw[exe3]at X3⊢
  refine⟨((Cz9.put kB v5).2,()),rfl,C4 fun n3 _=>A75 Cl7 Cl6 ?_⟩
  obtain⟨c3,hc3⟩: ∃c3:Nat×Obj,c3=zO n3 #[.int .u8 49]:=⟨_,rfl⟩
  have hb3: ∀{Y:A4},BSl (c3::Y) ⟨some ⟨n3,0,none⟩,1,1⟩ v1:=A57 (l:=v1) 1 (by decide) (by rw[hc3];exact List.mem_cons_self)
  refine Ap5 (At4 p Cz8 g3 X3 I3 (by decide) (c3::(c2::(c1::L))) hT.cons.cons.cons kC ⟨some ⟨n3,0,none⟩,1,1⟩ v1 hb3) (by rw[hc3];unfold zO;exact pc fun z=>by simp only[B6,C5];omega) ?_
  rintro _ _ ⟨g4,rfl,X4,rfl⟩
  rw[exe4]at X4⊢
  refine⟨((Cz8.put kC v1).2,()),rfl,?_⟩
  refine B7 (Reads.has Cz4 (Bm1 p B45 g4 X4 kA)) (true,()) (congrArg Value.bool ex4g) ?_
  refine B7 (Reads.has Cz4 (C36 p B45 g4 X4 I4.ok kB)) (1,()) (congrArg (Value.i) ex4h) ?_
  refine C4 fun n4 _=>A75 Cl7 Cl6 ?_
  obtain⟨c4,hc4⟩: ∃c4:Nat×Obj,c4=zO n4 #[.int .u8 49]:=⟨_,rfl⟩
  have hb4: ∀{Y:A4},BSl (c4::Y) ⟨some ⟨n4,0,none⟩,1,1⟩ v1:=A57 (l:=v1) 1 (by decide) (by rw[hc4];exact List.mem_cons_self)
  obtain⟨R,hR⟩: ∃R,R=c4::(c3::(c2::(c1::L))):=⟨_,rfl⟩
  have hTR:Tab R:=by rw[hR];exact hT.cons.cons.cons.cons
  refine Ap5 (At4 p B45 g4 X4 I4 (by decide) R hTR kA ⟨some ⟨n4,0,none⟩,1,1⟩ v1 (by rw[hR];exact hb4)) (by rw[hR,hc4];unfold zO;exact pc fun z=>by simp only[B6,C5];omega) ?_
  rintro _ _ ⟨g5,rfl,X5,rfl⟩
  rw[exe5]at X5⊢
  refine⟨((B45.put kA v1).2,()),rfl,?_⟩
  refine G2 (Bm2 p Da6 g5 X5 I5.ok kA) (R:=R) (List.Perm.refl _) ?_
  rintro _ _ ⟨g6,u6,sg6,hL6,X6,own6,rfl⟩
  rw[List.append_nil]at hL6
  rw[hL6]
  rw[exe6]at X6⊢
  rw[ex6]at own6⊢
  refine⟨SL p Cz7 g6++(sg6++R),pc fun z=>by simp only[B6];omega,(u6,0,()),rfl,?_⟩
  refine G2 (A17 p Cz7 g6 X6 I6.ok (by decide) kA) (R:=sg6++R) (List.Perm.refl _) ?_
  rintro _ _ ⟨g7,hL7,X7,rfl⟩
  rw[List.append_nil]at hL7
  rw[hL7]
  rw[exe7]at X7⊢
  rw[ex7]
  refine⟨SL p Cg3 g7++(sg6++R),List.Perm.refl _,(true,0,()),rfl,?_⟩
  refine G2 (At5 X7 (Nat.le_trans I7.ok.pl (by decide))) (R:=sg6++R) (List.Perm.refl _) ?_
  rintro _ _ ⟨u7,sg7,rfl,rfl,own7⟩
  have hu7:u7.len=1:=by
   have:=own7.sl.els_len E3 (by decide)
   rw[exd7,if_neg (by decide),ex7p]at this
   exact this
  refine⟨SL p Cg3 g7++(sg7++(sg6++R)),pc fun z=>by simp only[B6];omega,(u7,()),rfl,?_⟩
  obtain⟨R2,hR2⟩: ∃R2,R2=sg7++(sg6++R):=⟨_,rfl⟩
  rw[<-hR2]
  have hTR2:Tab R2:=by rw[hR2];exact hTR.mono fun y hy=>by simp[hy]
  refine Ap5 (Bd0 p Cg3 g7 X7 I7.ok (by decide) R2 hTR2) (List.Perm.refl _) ?_
  rintro _ _ ⟨g8,rfl,X8,rfl⟩
  rw[exe8]at X8⊢
  rw[ex8]
  refine⟨(0,()),rfl,?_⟩
  refine G2 (Bm2 p Da5 g8 X8 I8.ok kA) (R:=R2) (List.Perm.refl _) ?_
  rintro _ _ ⟨g9,u9,sg9,hL9,X9,own9,rfl⟩
  rw[List.append_nil]at hL9
  rw[hL9]
  rw[exe9]at X9⊢
  rw[ex9]
  obtain⟨L9,hL9'⟩: ∃L9,L9=SL p Bk9 g9++(sg9++R2):=⟨_,rfl⟩
  have hp9:L9.Perm (SL p Bk9 g9++(sg9++R2)):=by rw[hL9']
  refine⟨L9,pc fun z=>by rw[hL9'];simp only[B6];omega,(u9,8,()),rfl,?_⟩
  refine ifP ex2 (ifP ex3 (ifP ex4 (ifT rfl (ifP rfl (ifP ex5 ?_)))))
  refine Cj2 (l:=[49]) (own6.sl.mono fun y hy=>hp9.symm.subset (by rw[hR2];simp[hy])) ?_
  refine ifP rfl (ifP rfl (ifT rfl (ifP rfl (ifP (show(u7.len:Int)=1 by rw[hu7];rfl) (ifP rfl ?_)))))
  have hd9:Bk9.down=false:=exd9
  have h9:Has L9 (SL p Bk9 g9):=⟨_,hp9⟩
  refine G2 (At5 X9 (Nat.le_trans I9.ok.pl (by decide))) hp9 ?_
  rintro _ _ ⟨u10,sg10,rfl,rfl,own10⟩
  have hu10:u10.len=0:=by
   have:=own10.sl.els_len E3 (by decide)
   rw[hd9,if_neg (by decide),show Bk9.pend.length=0 by kernel_rfl]at this
   exact this
  obtain⟨L10,hL10'⟩: ∃L10,L10=SL p Bk9 g9++(sg10++(sg9++R2)):=⟨_,rfl⟩
  have hp10:L10.Perm (SL p Bk9 g9++(sg10++(sg9++R2))):=by rw[hL10']
  have h10:Has L10 (SL p Bk9 g9):=⟨_,hp10⟩
  refine⟨L10,pc fun z=>by rw[hL10'];simp only[B6];omega,(u10,()),rfl,?_⟩
  refine ifP (show(u10.len:Int)=0 by rw[hu10];rfl) (ifP rfl ?_)
  refine B7 (Bz8 L10) (1,()) rfl (ifP rfl ?_)
  refine B7 (Reads.has h10 (B56 X9)) (2,()) (by rw[if_neg (by rw[hd9];decide),ex9q];rfl) (ifP rfl ?_)
  refine B7 (Reads.has h10 (C33 X9)) (0,()) (by rw[if_neg (by rw[hd9];decide),ex9l];rfl) (ifP rfl ?_)
  refine B7 (Reads.has h10 (Bz0 X9)) (3808,()) (by rw[if_neg (by rw[hd9];decide),ex9t];rfl) ?_
  refine .drop (A:=L) (J:=SL p Bk9 g9++(sg10++(sg9++(sg7++(sg6++(c4::(c3::(c2::[c1])))))))) ⟨rfl,rfl⟩ (pc fun z=>by have:=pcn hp10 z;rw[hR2,hR]at this;simp only[B6,C5,D8]at*;omega)
 ·intro j1 hj1
  exact ifP rfl (ifP rfl (ifP rfl (hj1 _ _ rfl)))
abbrev B39:=Int×ByteArray×(SlV×List UInt8)×Int×Int×Unit
theorem A88{h:Hd}{p:List UInt8}{S:Nat}(h1:16<=S)(h2:p.length<=S-16):(Y9 h p S).length=S:=by
 unfold Y9
 rw[List.length_append,Af1 h1 h2,Z9];omega
theorem dig0{n:Nat}(h:n<256):(dig n 0).toNat=n:=by
 have:=Ar9 1 n (by simpa using h)
 have e:num (O9 n 1)=(dig n 0).toNat:=by simp[digs1,num]
 omega
theorem Ax5(h:Hd)(p:List UInt8){S:Nat}(h1:16<=S)(h2:p.length<=S-16):(Y9 h p S).take (S-4)=Ad7 h p S:=by
 unfold Y9
 exact List.take_left' (Af1 h1 h2)
theorem Ce4(h:Hd)(p:List UInt8){S:Nat}(h1:16<=S)(h2:p.length<=S-16):(Y9 h p S).drop (S-4)=O9 (H5 (Ad7 h p S)).toNat 4:=by
 unfold Y9
 exact List.drop_left' (Af1 h1 h2)
theorem C71(l:List UInt8):((num (O9 (H5 l).toNat 4):Nat):Int)=H5 l:=by
 have h:=Ao2 l
 rw[Ar9 4 _ (show(H5 l).toNat<4294967296 by omega)]
 omega
theorem B23{h:Hd}(e:Ad8 h=0)(p:List UInt8){S:Nat}(h1:64<=S/\S<=512)(h2:p.length<=S-16):
  hOf (Y9 h p S)=h/\nOf (Y9 h p S)=p.length/\Aa8 (Y9 h p S)=p/\(∀x∈T8 (Y9 h p S),x=0)/\(Y9 h p S).getD 3 0=165/\(Y9 h p S).getD 9 0=0:=by
 have hok:=Af2 e
 obtain⟨k,pa,ps,ep,pg,u⟩:=h
 simp only at hok
 obtain⟨k,rfl⟩: ∃n:Nat,k=n:=⟨k.toNat,by omega⟩
 obtain⟨pa,rfl⟩: ∃n:Nat,pa=n:=⟨pa.toNat,by omega⟩
 obtain⟨ps,rfl⟩: ∃n:Nat,ps=n:=⟨ps.toNat,by omega⟩
 obtain⟨ep,rfl⟩: ∃n:Nat,ep=n:=⟨ep.toNat,by omega⟩
 obtain⟨pg,rfl⟩: ∃n:Nat,pg=n:=⟨pg.toNat,by omega⟩
 have hlen:=A88 (h:=((k:Int),(pa:Int),(ps:Int),(ep:Int),(pg:Int),())) (p:=p) (S:=S) (by omega) h2
 generalize hq:List.replicate (S-16-p.length) 0++O9 (H5 (Ad7 ((k:Int),(pa:Int),(ps:Int),(ep:Int),(pg:Int),()) p S)).toNat 4=q
 have hb:Y9 ((k:Int),(pa:Int),(ps:Int),(ep:Int),(pg:Int),()) p S=dig k 0::dig pa 0::dig ps 0::165::dig ep 0::dig ep 1::dig ep 2::dig ep 3::dig pg 0::0::dig p.length 0::dig p.length 1::(p++q):=by
  rw[<-hq]
  unfold Y9
  conv=>lhs;arg 1;unfold Ad7 Ai3
  simp only[Int.toNat_natCast,List.append_assoc]
  rfl
 have hbl:(S-4)-12-p.length=S-16-p.length:=by omega
 generalize hB:Y9 ((k:Int),(pa:Int),(ps:Int),(ep:Int),(pg:Int),()) p S=b at hb hlen⊢
 have e4:num (O9 ep 4)=ep:=Ar9 4 ep (show ep<4294967296 by omega)
 have e2:num (O9 p.length 2)=p.length:=Ar9 2 _ (show p.length<65536 by omega)
 have hn:nOf b=p.length:=by rw[hb];exact e2
 refine⟨?_,hn,?_,?_,by rw[hb];rfl,by rw[hb];rfl⟩
 ·have:hOf b=(((dig k 0).toNat:Int),((dig pa 0).toNat:Int),((dig ps 0).toNat:Int),((num (O9 ep 4):Nat):Int),((dig pg 0).toNat:Int),()):=by rw[hb];rfl
  rw[this,e4,dig0 (by omega),dig0 (by omega),dig0 (by omega),dig0 (by omega)]
 ·unfold Aa8
  rw[hn,hb]
  show List.take p.length (p++q)=p
  exact List.take_left' rfl
 ·unfold T8
  rw[hn,hlen,hb]
  have:List.drop (12+p.length) (dig k 0::dig pa 0::dig ps 0::165::dig ep 0::dig ep 1::dig ep 2::dig ep 3::dig pg 0::0::dig p.length 0::dig p.length 1::(p++q))=q:=by
   rw[<-List.drop_drop]
   show List.drop p.length (p++q)=q
   exact List.drop_left' rfl
  rw[this,<-hq,show S-4-(12+p.length)=S-16-p.length by omega,List.take_left' (by rw[List.length_replicate])]
  exact fun x hx=>List.eq_of_mem_replicate hx
theorem C63{h:Hd}(e:Ad8 h=0)(p:List UInt8){S:Nat}(h1:64<=S/\S<=512)(h2:p.length<=S-16):G9 (Y9 h p S)=(h,p,0)/\O7 (Y9 h p S)=false:=by
 obtain⟨a1,a2,a3,a4,a5,a6⟩:=B23 e p h1 h2
 have hlen:=A88 (h:=h) (p:=p) (S:=S) (by omega) h2
 have hbk:O7 (Y9 h p S)=false:=by
  unfold O7
  rw[List.all_eq_false]
  rw[Ac3 (by omega)]at a5
  exact⟨_,List.getElem_mem (show 3<(Y9 h p S).length by omega),by rw[a5];decide⟩
 have hc:H5 ((Y9 h p S).take ((Y9 h p S).length-4))=(num ((Y9 h p S).drop ((Y9 h p S).length-4)):Int):=by
  rw[hlen,Ax5 h p (by omega) h2,Ce4 h p (by omega) h2,C71]
 have:=Bn6 (b:=Y9 h p S) (by rw[hlen];exact h1) hbk hc (Cy2 a5 a6 (by omega) (by rw[a1];exact e) a4)
 rw[a1,a3]at this
 exact⟨this,hbk⟩
theorem C89{b:List UInt8}(h:(G9 b).2.2=0):(64<=b.length/\b.length<=512)/\Ad8 (G9 b).1=0/\(G9 b).2.1.length<=b.length-16/\Y9 (G9 b).1 (G9 b).2.1 b.length=b/\O7 b=false:=by
 by_cases h1:64<=b.length/\b.length<=512
 ·cases h2:O7 b with
  |true=>rw[A25 h1 h2]at h;cases h
  |false=>
   by_cases h3:H5 (b.take (b.length-4))=(num (b.drop (b.length-4)):Int)
   ·cases h4:C61 b with
    |true=>rw[Ag6 h1 h2 h3 h4]at h;cases h
    |false=>
     have hno:=fun c=>(Bool.eq_false_iff.1 h4) ((Z4 b).2 c)
     have hn:nOf b<=b.length-16:=by
      rcases Nat.lt_or_ge (b.length-16) (nOf b)with c|c
      ·exact absurd (.inr (.inr (.inl c))) hno
      ·exact c
     rw[Bn6 h1 h2 h3 h4]
     refine⟨h1,Decidable.byContradiction fun c=>hno (.inr (.inr (.inr (.inl c)))),by rw[Bf0 (by omega)];exact hn,?_,rfl⟩
     refine(Dc0 h1.1 h3 hn).2 ⟨Decidable.byContradiction fun c=>hno (.inl c),Decidable.byContradiction fun c=>hno (.inr (.inl c)),fun x hx=>Decidable.byContradiction fun c=>hno (.inr (.inr (.inr (.inr ⟨x,hx,c⟩))))⟩
   ·rw[Bt8 h1 h2 h3]at h;cases h
 ·rw[Bf1 h1]at h;cases h
theorem B21(h:Hd)(p:List UInt8)(size:Int):(Ah4 h p size).2=0/\(∃S:Nat,size=S/\(64<=S/\S<=512)/\Ad8 h=0/\p.length<=S-16/\Ah4 h p size=(Y9 h p S,0))\/(Ah4 h p size).2≠0/\(Ah4 h p size).1=[]:=by
 by_cases h1:64<=size/\size<=512
 ·obtain⟨S,rfl⟩: ∃S:Nat,size=S:=⟨size.toNat,by omega⟩
  by_cases h2:Ad8 h=0
  ·by_cases h3:p.length<=S-16
   ·have:=C90 (h:=h) (p:=p) (S:=S) (by omega) h2 h3
    exact .inl ⟨by rw[this],S,rfl,by omega,h2,h3,this⟩
   ·refine .inr ?_
    unfold Ah4
    rw[if_neg (by omega),if_neg (by simpa using h2),if_pos (by omega)]
    exact⟨by decide,rfl⟩
  ·refine .inr ?_
   rw[Cs0 (by omega) h2]
   exact⟨h2,rfl⟩
 ·refine .inr ?_
  unfold Ah4
  rw[if_pos h1]
  exact⟨by decide,rfl⟩
structure Bb1(good:Int->Prop)(c:Int->Int)(us:List Int)(s:Int):Prop where
 A: ∀u∈us,∀f,good f->f∉us->c u<=c f+s/\c f<=c u+1+s
 D: ∀f g,good f->f∉us->good g->g∉us->c f<=c g+1+s
 B:us.Pairwise fun u v=>c u<=c v+s/\c v<=c u+1+s
theorem B93{α:Type}{R:α->α->Prop}(hs: ∀a b,R a b->R b a)(hr: ∀a,R a a): ∀{l:List α},l.Pairwise R-> ∀x∈l,∀y∈l,R x y
 |[],_,x,hx,_,_=>by simp at hx
 |a::r,h,x,hx,y,hy=>by
  obtain⟨h1,h2⟩:=List.pairwise_cons.1 h
  rcases List.mem_cons.1 hx with e|hx'
  ·rcases List.mem_cons.1 hy with e2|hy'
   ·rw[e,e2];exact hr _
   ·rw[e];exact h1 y hy'
  ·rcases List.mem_cons.1 hy with e2|hy'
   ·rw[e2];exact hs _ _ (h1 x hx')
   ·exact B93 hs hr h2 x hx' y hy'
theorem Bb1.all{good:Int->Prop}{c:Int->Int}{us:List Int}{s:Int}(h:Bb1 good c us s)(hs:0<=s){i j:Int}(hi:good i)(hj:good j):c i<=c j+1+s:=by
 by_cases h1:i∈us
 ·by_cases h2:j∈us
  ·have hB:us.Pairwise fun u v=>c u<=c v+1+s/\c v<=c u+1+s:=h.B.imp fun{a b} hab=>⟨by omega,hab.2⟩
   exact(B93 (R:=fun u v=>c u<=c v+1+s/\c v<=c u+1+s) (fun a b hab=>⟨hab.2,hab.1⟩) (fun x=>⟨by omega,by omega⟩) hB i h1 j h2).1
  ·have:=(h.A i h1 j hj h2).1
   omega
 ·by_cases h2:j∈us
  ·exact(h.A j h2 i hi h1).2
  ·exact h.D i j hi h1 hj h2
theorem Bb1.open{good:Int->Prop}{c:Int->Int}{us:List Int}{s:Int}(h:Bb1 good c us s)(hs:0<=s){v:Int}(hv:good v)(hn:v∉us)(hm: ∀f,good f->f∉us->c v<=c f):Bb1 good c (us++[v]) s:=by
 refine⟨fun u hu f hf hfu=>?_,fun f g hf hfu hg hgu=>?_,?_⟩
 ·have hf':f∉us:=fun q=>hfu (List.mem_append_left _ q)
  rcases List.mem_append.1 hu with h1|h1
  ·exact h.A u h1 f hf hf'
  ·rw[List.mem_singleton.1 h1]
   have:=hm f hf hf'
   have:=h.D f v hf hf' hv hn
   exact⟨by omega,this⟩
 ·exact h.D f g hf (fun q=>hfu (List.mem_append_left _ q)) hg (fun q=>hgu (List.mem_append_left _ q))
 ·rw[List.pairwise_append]
  refine⟨h.B,by simp,fun a ha b hb=>?_⟩
  rw[List.mem_singleton.1 hb]
  exact h.A a ha v hv hn
theorem Bb1.drop{good good':Int->Prop}{c c':Int->Int}{o:Int}{r:List Int}{s:Int}(h:Bb1 good c (o::r) s)(hs:0<=s)(hg: ∀x,good' x->good x)(ho:c' o=c o+1)(hc: ∀x,good x->x≠o->c' x=c x)(hor:o∉r)(hgr: ∀u∈r,good u):Bb1 good' c' r s:=by
 have hB:=List.pairwise_cons.1 h.B
 have hcr: ∀u∈r,c' u=c u:=fun u hu=>hc u (hgr u hu) (fun e=>hor (e▸hu))
 refine⟨fun u hu f hf hfu=>?_,fun f g hf hfu hg' hgu=>?_,?_⟩
 ·rw[hcr u hu]
  have hou:=hB.1 u hu
  by_cases hfo:f=o
  ·subst hfo
   rw[ho]
   exact⟨by omega,by omega⟩
  ·rw[hc f (hg f hf) hfo]
   exact h.A u (by simp[hu]) f (hg f hf) (by simp[hfo,hfu])
 ·by_cases hfo:f=o
  ·by_cases hgo:g=o
   ·subst hfo hgo;omega
   ·subst hfo
    rw[ho,hc g (hg g hg') hgo]
    have:=(h.A f (by simp) g (hg g hg') (by simp[hgo,hgu])).1
    omega
  ·rw[hc f (hg f hf) hfo]
   by_cases hgo:g=o
   ·subst hgo
    rw[ho]
    have:=(h.A g (by simp) f (hg f hf) (by simp[hfo,hfu])).2
    omega
   ·rw[hc g (hg g hg') hgo]
    exact h.D f g (hg f hf) (by simp[hfo,hfu]) (hg g hg') (by simp[hgo,hgu])
 ·refine hB.2.imp_of_mem ?_
  intro a b ha hb hab
  rw[hcr a ha,hcr b hb]
  exact hab
theorem Bb1.spoil{good:Int->Prop}{c c':Int->Int}{us:List Int}{s:Int}(h:Bb1 good c us s)(hs:0<=s){k:Int}(hk:good k)(hku:k∉us)(hck:c' k=c k+1)(hc: ∀x,good x->x≠k->c' x=c x)(hgu: ∀u∈us,good u):Bb1 good c' us (s+1):=by
 have hcu: ∀u∈us,c' u=c u:=fun u hu=>hc u (hgu u hu) (fun e=>hku (e▸hu))
 have hcl: ∀x,good x->c x<=c' x/\c' x<=c x+1:=fun x hx=>by
  by_cases e:x=k
  ·subst e;omega
  ·rw[hc x hx e];omega
 refine⟨fun u hu f hf hfu=>?_,fun f g hf hfu hg hgu'=>?_,?_⟩
 ·rw[hcu u hu]
  have h1:=h.A u hu f hf hfu
  have h2:=hcl f hf
  omega
 ·have h1:=h.D f g hf hfu hg hgu'
  have h2:=hcl f hf
  have h3:=hcl g hg
  omega
 ·refine h.B.imp_of_mem ?_
  intro a b ha hb hab
  rw[hcu a ha,hcu b hb]
  omega
theorem Bb1.congr{good good':Int->Prop}{c c':Int->Int}{us:List Int}{s:Int}(h:Bb1 good c us s)(hg: ∀x,good' x->good x/\c' x=c x)(hu: ∀u∈us,good' u):Bb1 good' c' us s:=by
 refine⟨fun u hu' f hf hfu=>?_,fun f g hf hfu hg' hgu=>?_,?_⟩
 ·rw[(hg u (hu u hu')).2,(hg f hf).2]
  exact h.A u hu' f (hg f hf).1 hfu
 ·rw[(hg f hf).2,(hg g hg').2]
  exact h.D f g (hg f hf).1 hfu (hg g hg').1 hgu
 ·refine h.B.imp_of_mem ?_
  intro a b ha hb hab
  rw[(hg a (hu a ha)).2,(hg b (hu b hb)).2]
  exact hab
theorem A45{ss:List BS}{n:Int}(g:BS->BS)(hi:n.toNat<ss.length):bat (Ab9 ss n g) n=g (bat ss n):=by
 unfold bat Ab9
 rw[List.getElem?_modify,List.getElem?_eq_getElem hi]
 simp
theorem A44{ss:List BS}{n x:Int}(g:BS->BS)(hn:0<=n)(hx:0<=x)(hne:x≠n):bat (Ab9 ss n g) x=bat ss x:=by
 unfold bat Ab9
 rw[List.getElem?_modify]
 have: ¬n.toNat=x.toNat:=by omega
 simp[this]
def hdI(ep:Int):Hd:=(1,0,1,ep,0,())
def hdE(p:List UInt8):Option Int:=if(G9 p).2.2=0/\(G9 p).1=hdI (G9 p).1.2.2.2.1/\(G9 p).2.1=[]then some (G9 p).1.2.2.2.1 else none
theorem Bv5{p:List UInt8}{ep:Int}(h:hdE p=some ep):(64<=p.length/\p.length<=512)/\Y9 (hdI ep) [] p.length=p/\O7 p=false:=by
 unfold hdE at h
 split at h
 ·rename_i hc
  obtain⟨h1,h2,h3⟩:=hc
  obtain⟨a1,a2,a3,a4,a5⟩:=C89 h1
  obtain rfl:=Option.some.inj h
  rw[<-h2]
  rw[h3]at a4
  exact⟨a1,a4,a5⟩
 ·cases h
theorem A89(S:Nat):hdE (blk S)=none:=by
 cases h:hdE (blk S)with
 |none=>rfl
 |some ep=>
  have:=(Bv5 h).2.2
  unfold O7 blk at this
  rw[List.all_eq_false]at this
  obtain⟨x,hx,hn⟩:=this
  rw[List.eq_of_mem_replicate hx]at hn
  exact absurd (by decide) hn
theorem Ce9{ep:Int}(e:Ad8 (hdI ep)=0){S:Nat}(h1:64<=S/\S<=512):hdE (Y9 (hdI ep) [] S)=some ep:=by
 have:=(C63 e [] h1 (by simp)).1
 unfold hdE
 rw[this]
 exact if_pos ⟨rfl,rfl,rfl⟩
theorem img_at{ep:Int}{S:Nat}(h1:64<=S/\S<=512):(Y9 (hdI ep) [] S)[S-5]?=some 0:=by
 have hl:=Af1 (h:=hdI ep) (p:=[]) (size:=S) (by omega) (by simp)
 unfold Y9
 rw[List.getElem?_append_left (by omega)]
 have e:Ad7 (hdI ep) [] S=Ai3 (hdI ep) 0++List.replicate (S-16) 0:=by unfold Ad7;simp
 have hl2:(Ai3 (hdI ep) 0).length+(S-16)=S-4:=by
  rw[e,List.length_append,List.length_replicate]at hl
  exact hl
 rw[e,List.getElem?_append_right (by omega),List.getElem?_replicate]
 exact if_pos (by omega)
theorem Cs6{ep:Int}(e:Ad8 (hdI ep)=0){S n:Nat}(h1:64<=S/\S<=512)(hn:n<=S):hdE ((Y9 (hdI ep) [] S).take n++blk (S-n))=none\/hdE ((Y9 (hdI ep) [] S).take n++blk (S-n))=some ep:=by
 have hlen:=A88 (h:=hdI ep) (p:=[]) (S:=S) (by omega) (by simp)
 have hbl:((Y9 (hdI ep) [] S).take n++blk (S-n)).length=S:=by
  rw[List.length_append,List.length_take,hlen];unfold blk;rw[List.length_replicate];omega
 cases h:hdE ((Y9 (hdI ep) [] S).take n++blk (S-n))with
 |none=>exact .inl rfl
 |some q=>
  right
  obtain⟨-,h2,-⟩:=Bv5 h
  rw[hbl]at h2
  have hS:S-4<=n:=by
   rcases Nat.lt_or_ge n (S-4)with hc|hc
   ·have h3:=img_at (ep:=q) h1
    rw[h2,List.getElem?_append_right (by rw[List.length_take,hlen];omega)]at h3
    unfold blk at h3
    rw[List.getElem?_replicate]at h3
    split at h3
    ·cases h3
    ·cases h3
   ·exact hc
  have h4:=congrArg (List.take (S-4)) h2
  rw[Ax5 _ _ (by omega) (by simp),List.take_append_of_le_length (by rw[List.length_take,hlen];omega),List.take_take,Nat.min_eq_left hS,Ax5 _ _ (by omega) (by simp)]at h4
  have h5:Y9 (hdI q) [] S=Y9 (hdI ep) [] S:=by unfold Y9;rw[h4]
  rw[<-h2,h5,Ce9 e h1]at h
  rw[<-h]
def S9(k:Blk):Option Int:=if k.bad=true then none else hdE (k.pages.getD 0 [])
def T5(d:Dev)(x:Int):Option Int:=(H7 d x).bind S9
def K2(d:Dev)(x:Int):Prop:= ∃k,H7 d x=some k/\k.bad=false
def nz(k:Blk):Int:=if k.next≠0 then 1 else 0
def O5(d:Dev)(us:List Int)(x:Int):Int:=(H7 d x).elim 0 fun k=>(k.wear:Int)+if x∈us then 0 else nz k
structure Bb0(d d':Dev)(b:Int)(k k':Blk):Prop where
 c:d'.c=d.c
 at':H7 d b=some k
 bs:d'.bs=d.bs.set b.toNat k'
theorem Ai6{d:Dev}{b:Int}{k:Blk}(h:H7 d b=some k):0<=b/\ ∃hi:b.toNat<d.bs.length,d.bs[b.toNat]=k:=by
 unfold H7 at h
 split at h
 ·exact⟨by assumption,List.getElem?_eq_some_iff.1 h⟩
 ·cases h
section
variable {d d':Dev} {b:Int} {k k':Blk}
theorem Bb0.own(t:Bb0 d d' b k k'):H7 d' b=some k':=by
 obtain⟨h0,hi,-⟩:=Ai6 t.at'
 unfold H7
 rw[if_pos h0,t.bs,List.getElem?_set_self hi]
theorem Bb0.ne(t:Bb0 d d' b k k'){x:Int}(hx:x≠b):H7 d' x=H7 d x:=by
 obtain⟨h0,hi,-⟩:=Ai6 t.at'
 unfold H7
 split
 ·rw[t.bs,List.getElem?_set_ne (by omega)]
 ·rfl
theorem Bh2{x e:Int}(h:T5 d x=some e):K2 d x:=by
 unfold T5 at h
 cases hk:H7 d x with
 |none=>rw[hk]at h;cases h
 |some k=>
  rw[hk]at h
  refine⟨k,hk,?_⟩
  have h:S9 k=some e:=h
  unfold S9 at h
  split at h
  ·cases h
  ·rename_i hb;simpa using hb
theorem Bb0.head(t:Bb0 d d' b k k')(x:Int):T5 d' x=if x=b then S9 k' else T5 d x:=by
 unfold T5
 split
 ·rename_i e;rw[e,t.own];rfl
 ·rename_i e;rw[t.ne e]
theorem Bb0.good(t:Bb0 d d' b k k')(x:Int):K2 d' x↔(x=b/\k'.bad=false)\/(x≠b/\K2 d x):=by
 unfold K2
 by_cases e:x=b
 ·rw[e,t.own]
  simp
 ·rw[t.ne e]
  simp[e]
theorem Bb0.cost(t:Bb0 d d' b k k')(us:List Int)(x:Int):O5 d' us x=if x=b then(k'.wear:Int)+(if x∈us then 0 else nz k')else O5 d us x:=by
 unfold O5
 by_cases e:x=b
 ·rw[if_pos e,e,t.own];rfl
 ·rw[if_neg e,t.ne e]
theorem Ac6{us:List Int}(h:H7 d b=some k):O5 d us b=(k.wear:Int)+if b∈us then 0 else nz k:=by unfold O5;rw[h];rfl
theorem Bx3{us vs:List Int}{x:Int}(h:x∈us↔x∈vs):O5 d us x=O5 d vs x:=by
 unfold O5
 cases H7 d x with
 |none=>rfl
 |some k=>
  simp only[Option.elim_some,h]
theorem Bc0(us:List Int)(x:Int):G4 d x<=O5 d us x/\O5 d us x<=G4 d x+1:=by
 unfold G4 O5 nz
 cases H7 d x with
 |none=>exact⟨Int.le_refl _,by simp⟩
 |some k=>
  simp only[Option.elim_some]
  split
  ·omega
  ·split<;>omega
end
abbrev fs(us:List (Int×Int)):List Int:=us.map Prod.fst
structure DI(d:Dev)(us:List (Int×Int))(s:Int):Prop where
 hd: ∀u∈us,T5 d u.1=some u.2
 fr: ∀x,x∉fs us->T5 d x=none
 srt:us.Pairwise fun u v=>u.2<v.2
 nd:(fs us).Nodup
 s0:0<=s
 inv:Bb1 (K2 d) (O5 d (fs us)) (fs us) s
def SPd(d:Dev)(n:Int):Prop:= ∀x y,K2 d x->K2 d y->G4 d x<=G4 d y+n
section
variable {d d':Dev} {b:Int} {k k':Blk} {us:List (Int×Int)} {s:Int}
theorem DI.good(h:DI d us s){x:Int}(hx:x∈fs us):K2 d x:=by
 obtain⟨u,hu,rfl⟩:=List.mem_map.1 hx
 exact Bh2 (h.hd u hu)
theorem DI.sp(h:DI d us s):SPd d (2+s):=fun x y hx hy=>by
 have h1:=h.inv.all h.s0 hx hy
 have h2:=Bc0 (d:=d) (fs us) x
 have h3:=Bc0 (d:=d) (fs us) y
 omega
theorem Bb1.mono{good:Int->Prop}{c:Int->Int}{us:List Int}{s t:Int}(h:Bb1 good c us s)(hst:s<=t):Bb1 good c us t:=
 ⟨fun u hu f hf hn=>by have:=h.A u hu f hf hn;omega,fun f g hf hn hg hm=>by have:=h.D f g hf hn hg hm;omega,h.B.imp fun{a b} hab=>by omega⟩
theorem DI.mono(h:DI d us s){t:Int}(hst:s<=t):DI d us t:=⟨h.hd,h.fr,h.srt,h.nd,by have:=h.s0;omega,h.inv.mono hst⟩
theorem DI.congr(h:DI d us s)(hb:d'.bs=d.bs):DI d' us s:=by
 have e:H7 d'=H7 d:=by funext x;unfold H7;rw[hb]
 have e1:T5 d'=T5 d:=by funext x;unfold T5;rw[e]
 have e2:K2 d'=K2 d:=by funext x;unfold K2;rw[e]
 have e3:O5 d'=O5 d:=by funext u x;unfold O5;rw[e]
 exact⟨by rw[e1];exact h.hd,by rw[e1];exact h.fr,h.srt,h.nd,h.s0,by rw[e2,e3];exact h.inv⟩
theorem SPd.congr{n:Int}(h:SPd d n)(hb:d'.bs=d.bs):SPd d' n:=by
 have e:H7 d'=H7 d:=by funext x;unfold H7;rw[hb]
 have e2:K2 d'=K2 d:=by funext x;unfold K2;rw[e]
 have e3:G4 d'=G4 d:=by funext x;unfold G4;rw[e]
 unfold SPd
 rw[e2,e3];exact h
theorem SPd.set{n:Int}(h:SPd d n)(t:Bb0 d d' b k k')(hw:k'.wear=k.wear)(hb:k'.bad=k.bad):SPd d' n:=by
 have hg: ∀x,K2 d' x->K2 d x:=fun x hx=>by
  rcases(t.good x).1 hx with⟨rfl,h2⟩|⟨_,h2⟩
  ·exact⟨k,t.at',by rw[<-hb];exact h2⟩
  ·exact h2
 have he: ∀x,G4 d' x=G4 d x:=fun x=>by
  unfold G4
  by_cases e:x=b
  ·rw[e,t.own,t.at'];simp[hw]
  ·rw[t.ne e]
 intro x y hx hy
 rw[he,he]
 exact h x y (hg x hx) (hg y hy)
theorem DI.frame(h:DI d us s)(t:Bb0 d d' b k k')(hw:k'.wear=k.wear)(hb:k'.bad=k.bad)(hh:S9 k'=S9 k)(hn:b∈fs us):DI d' us s:=by
 have e1: ∀x,T5 d' x=T5 d x:=fun x=>by
  rw[t.head]
  split
  ·rename_i e;rw[e,hh];unfold T5;rw[t.at'];rfl
  ·rfl
 have hg: ∀x,K2 d' x↔K2 d x:=fun x=>by
  rw[t.good]
  by_cases e:x=b
  ·simp only[e,hb,true_and,ne_eq,not_true_eq_false,false_and,or_false]
   exact⟨fun q=>⟨k,t.at',q⟩,fun⟨k2,q1,q2⟩=>by rw[t.at']at q1;rw[Option.some.inj q1];exact q2⟩
  ·simp[e]
 refine⟨fun u hu=>by rw[e1];exact h.hd u hu,fun x hx=>by rw[e1];exact h.fr x hx,h.srt,h.nd,h.s0,h.inv.congr (fun x hx=>⟨(hg x).1 hx,?_⟩) fun u hu=>(hg u).2 (h.good hu)⟩
 rw[t.cost]
 split
 ·rename_i e
  rw[e,Ac6 t.at',if_pos hn,if_pos hn,hw]
 ·rfl
theorem DI.drop{u:Int×Int}(h:DI d (u::us) s)(t:Bb0 d d' u.1 k k')(hh:S9 k'=none)(ho:(k'.wear:Int)+nz k'=k.wear+1):DI d' us s:=by
 have hnd:u.1∉fs us/\(fs us).Nodup:=List.nodup_cons.1 h.nd
 have hne: ∀x∈fs us,x≠u.1:=fun x hx e=>hnd.1 (e▸hx)
 refine⟨fun v hv=>?_,fun x hx=>?_,(List.pairwise_cons.1 h.srt).2,hnd.2,h.s0,?_⟩
 ·rw[t.head,if_neg (hne v.1 (List.mem_map_of_mem hv))]
  exact h.hd v (List.mem_cons_of_mem _ hv)
 ·rw[t.head]
  split
  ·exact hh
  ·rename_i e
   exact h.fr x (by simp only[fs,List.map_cons,List.mem_cons,not_or];exact⟨e,hx⟩)
 ·refine Bb1.drop (o:=u.1) (good:=K2 d) (c:=O5 d (fs (u::us))) h.inv h.s0 (fun x hx=>?_) ?_ (fun x hx hxo=>?_) hnd.1 fun v hv=>h.good (List.mem_cons_of_mem _ hv)
  ·rcases(t.good x).1 hx with⟨e,-⟩|⟨-,h2⟩
   ·rw[e];exact h.good (by simp[fs])
   ·exact h2
  ·rw[t.cost,if_pos rfl,if_neg hnd.1,Ac6 t.at',if_pos (by simp[fs]),ho];simp
  ·rw[t.cost,if_neg hxo]
   exact Bx3 (by simp[fs,hxo])
theorem DI.wash(h:DI d us s)(t:Bb0 d d' b k k')(hb:b∉fs us)(hkb:k.bad=false)(hh:S9 k'=none)(hc:(k'.wear:Int)+nz k'=k.wear+nz k):
  DI d' us s/\ ∀x,K2 d' x->K2 d x/\O5 d' (fs us) x=O5 d (fs us) x:=by
 have hne: ∀x∈fs us,x≠b:=fun x hx e=>hb (e▸hx)
 have key: ∀x,K2 d' x->K2 d x/\O5 d' (fs us) x=O5 d (fs us) x:=fun x hx=>by
  rcases(t.good x).1 hx with⟨e,-⟩|⟨h1,h2⟩
  ·rw[e]
   refine⟨⟨k,t.at',hkb⟩,?_⟩
   rw[t.cost,if_pos rfl,if_neg hb,Ac6 t.at',if_neg hb,hc]
  ·exact⟨h2,by rw[t.cost,if_neg h1]⟩
 refine⟨⟨fun v hv=>?_,fun x hx=>?_,h.srt,h.nd,h.s0,h.inv.congr key fun u hu=>(t.good u).2 (.inr ⟨hne u hu,h.good hu⟩)⟩,key⟩
 ·rw[t.head,if_neg (hne v.1 (List.mem_map_of_mem hv))]
  exact h.hd v hv
 ·rw[t.head]
  split
  ·exact hh
  ·exact h.fr x hx
theorem DI.opn(h:DI d us s)(t:Bb0 d d' b k k')(hb:b∉fs us)(hkb:k.bad=false)(hn:k.next=0)(hw:k'.wear=k.wear)(hbd:k'.bad=k.bad){ep:Int}(hh:S9 k'=some ep)(hep: ∀u∈us,u.2<ep)
  (hm: ∀f,K2 d f->f∉fs us->O5 d (fs us) b<=O5 d (fs us) f):DI d' (us++[(b,ep)]) s:=by
 have hne: ∀x∈fs us,x≠b:=fun x hx e=>hb (e▸hx)
 have hfs:fs (us++[(b,ep)])=fs us++[b]:=by simp[fs]
 have hg: ∀x,K2 d x->K2 d' x:=fun x hx=>by
  rw[t.good]
  by_cases e:x=b
  ·exact .inl ⟨e,hbd.trans hkb⟩
  ·exact .inr ⟨e,hx⟩
 refine⟨fun v hv=>?_,fun x hx=>?_,?_,?_,h.s0,?_⟩
 ·rcases List.mem_append.1 hv with hv|hv
  ·rw[t.head,if_neg (hne v.1 (List.mem_map_of_mem hv))]
   exact h.hd v hv
  ·rw[List.mem_singleton.1 hv,t.head,if_pos rfl];exact hh
 ·rw[hfs,List.mem_append,not_or]at hx
  rw[t.head,if_neg (by simpa using hx.2)]
  exact h.fr x hx.1
 ·rw[List.pairwise_append]
  exact⟨h.srt,by simp,fun a ha c hc=>by rw[List.mem_singleton.1 hc];exact hep a ha⟩
 ·rw[hfs,List.nodup_append]
  exact⟨h.nd,by simp,fun x hx y hy=>by rw[List.mem_singleton.1 hy];exact hne x hx⟩
 ·rw[hfs]
  have h1:=h.inv.open h.s0 ⟨k,t.at',hkb⟩ hb hm
  refine h1.congr (fun x hx=>?_) fun u hu=>?_
  ·rcases(t.good x).1 hx with⟨e,-⟩|⟨e,h2⟩
   ·rw[e]
    refine⟨⟨k,t.at',hkb⟩,?_⟩
    rw[t.cost,if_pos rfl,if_pos (by simp),Ac6 t.at',if_neg hb,hw]
    unfold nz
    simp[hn]
   ·refine⟨h2,?_⟩
    rw[t.cost,if_neg e]
    exact Bx3 (by simp[e])
  ·rcases List.mem_append.1 hu with hu|hu
   ·exact hg u (h.good hu)
   ·rw[List.mem_singleton.1 hu];exact hg b ⟨k,t.at',hkb⟩
theorem DI.spoil(h:DI d us s)(t:Bb0 d d' b k k')(hb:b∉fs us)(hkb:k.bad=false)(hn:k.next=0)(hw:k'.wear=k.wear)(hbd:k'.bad=k.bad)(hh:S9 k'=none)(hn':k'.next≠0):DI d' us (s+1):=by
 have hne: ∀x∈fs us,x≠b:=fun x hx e=>hb (e▸hx)
 refine⟨fun v hv=>?_,fun x hx=>?_,h.srt,h.nd,by have:=h.s0;omega,?_⟩
 ·rw[t.head,if_neg (hne v.1 (List.mem_map_of_mem hv))]
  exact h.hd v hv
 ·rw[t.head]
  split
  ·exact hh
  ·exact h.fr x hx
 ·have h1:=h.inv.spoil (c':=O5 d' (fs us)) h.s0 ⟨k,t.at',hkb⟩ hb (by
   rw[t.cost,if_pos rfl,if_neg hb,Ac6 t.at',if_neg hb,hw]
   unfold nz
   simp[hn,hn']) (fun x hx hxb=>by rw[t.cost,if_neg hxb]) fun u hu=>h.good hu
  refine h1.congr (fun x hx=>⟨?_,rfl⟩) fun u hu=>(t.good u).2 (.inr ⟨hne u hu,h.good hu⟩)
  rcases(t.good x).1 hx with⟨e,-⟩|⟨-,h2⟩
  ·rw[e];exact⟨k,t.at',hkb⟩
  ·exact h2
end
def Fx(us:List (Int×Int))(d d':Dev):Prop:= ∀x,x∉fs us->H7 d' x=H7 d x
theorem Bt4(d:Dev)(b p:Int)(data:List UInt8):((prog d b p data).2=d/\(prog d b p data).1≠0)\/
  ∃k img,Bb0 d (prog d b p data).2 b k (k.put p.toNat img)/\k.bad=false/\(k.next:Int)=p/\(((prog d b p data).1=0/\img=data)\/((prog d b p data).1=11/\img=M8 d data)):=by
 unfold prog
 split
 ·rename_i h;exact .inl ⟨rfl,h⟩
 ·rename_i hf
  split
  ·exact .inl ⟨rfl,show(2:Int)≠0 by decide⟩
  ·split
   ·exact .inl ⟨rfl,show(2:Int)≠0 by decide⟩
   ·rename_i k hk
    split
    ·exact .inl ⟨rfl,show(10:Int)≠0 by decide⟩
    ·rename_i hb
     split
     ·exact .inl ⟨rfl,show(9:Int)≠0 by decide⟩
     ·rename_i hn
      right
      have h0:=(Aj4 (Decidable.not_not.1 hf)).2.1
      have hat:H7 d b=some k:=by unfold H7;rw[if_pos h0];exact hk
      have hc:=B98 d b.toNat p.toNat k data
      have hn2:(k.next:Int)=p:=Decidable.not_not.1 hn
      unfold Av5 at hc⊢
      split
      ·rename_i ht
       rw[if_pos ht]at hc
       exact⟨k,M8 d data,⟨hc,hat,rfl⟩,by simpa using hb,hn2,.inr ⟨rfl,rfl⟩⟩
      ·rename_i ht
       rw[if_neg ht]at hc
       exact⟨k,data,⟨hc,hat,rfl⟩,by simpa using hb,hn2,.inl ⟨rfl,rfl⟩⟩
theorem Cp1{k:Blk}{p:Nat}(hp:1<=p)(img:List UInt8):S9 (k.put p img)=S9 k:=by
 unfold S9 Blk.put
 simp only
 rw[List.getD_eq_getElem?_getD,List.getElem?_set_ne (by omega),List.getD_eq_getElem?_getD]
section
variable {d:Dev} {us:List (Int×Int)} {s:Int} {b:Int}
theorem DI.pg(h:DI d us s)(hb:b∈fs us){p:Int}(hp:1<=p)(data:List UInt8):DI (prog d b p data).2 us s/\Fx us d (prog d b p data).2:=by
 rcases Bt4 d b p data with⟨h1,-⟩|⟨k,img,t,h1,h2,-⟩
 ·rw[h1];exact⟨h,fun x _=>rfl⟩
 ·exact⟨h.frame t rfl rfl (Cp1 (by omega) img) hb,fun x hx=>t.ne fun e=>hx (e▸hb)⟩
theorem DI.pgI(h:DI d us s)(hb:b∈fs us)(hd:Hd)(hp:1<=hd.2.2.2.2.1)(p:List UInt8):DI (T3 d b hd p).2 us s/\Fx us d (T3 d b hd p).2:=by
 unfold T3
 split
 ·exact⟨h,fun x _=>rfl⟩
 ·exact h.pg hb hp _
theorem DI.apG(ep at' kind n:Int)(ha:1<=at'): ∀(l:List (List UInt8)) {d:Dev} (i:Nat),DI d us s->b∈fs us->DI (Bl0 b ep at' kind n d i l).2 us s/\Fx us d (Bl0 b ep at' kind n d i l).2
 |[],d,i,h,hb=>⟨h,fun x _=>rfl⟩
 |p::r,d,i,h,hb=>by
  obtain⟨h1,h2⟩:=h.pgI hb (kind,i,n,ep,at'+i,()) (by simp only;omega) p
  unfold Bl0
  split
  ·obtain⟨h3,h4⟩:=DI.apG ep at' kind n ha r (i+1) h1 hb
   exact⟨h3,fun x hx=>(h4 x hx).trans (h2 x hx)⟩
  ·exact⟨h1,h2⟩
theorem DI.app(h:DI d us s)(hb:b∈fs us)(ep:Int){at':Int}(ha:1<=at')(kind:Int)(l:List (List UInt8)):DI (Aq9 d b ep at' kind l).2 us s/\Fx us d (Aq9 d b ep at' kind l).2:=by
 unfold Aq9
 split
 ·exact⟨h,fun x _=>rfl⟩
 ·exact DI.apG ep at' kind _ ha l 0 h hb
theorem DI.sealD(h:DI d us s)(hb:b∈fs us)(ep:Int){at':Int}(ha:1<=at')(l:List It):DI (Y8 d b ep at' l).2 us s/\Fx us d (Y8 d b ep at' l).2:=by
 unfold Y8
 split
 ·exact h.pgI hb _ ha _
 ·exact⟨h,fun x _=>rfl⟩
theorem DI.opn2(h:DI d us s)(dv:Q2 d){k:Blk}(hk:H7 d b=some k)(hkb:k.bad=false)(hb:b∉fs us){ep:Int}(hep: ∀u∈us,u.2<ep)(hm: ∀f,K2 d f->f∉fs us->O5 d (fs us) b<=O5 d (fs us) f):
  ((V4 d b ep).2=d/\(V4 d b ep).1≠0)\/((V4 d b ep).1=0/\DI (V4 d b ep).2 (us++[(b,ep)]) s/\ ∀x,x≠b->H7 (V4 d b ep).2 x=H7 d x)\/
  ((V4 d b ep).1=11/\(∃us',DI (V4 d b ep).2 us' (s+1))/\ ∀n,SPd d n->SPd (V4 d b ep).2 n):=by
 unfold V4 T3
 rcases B21 (1,0,1,ep,0,()) [] (d.c.S:Int)with⟨h0,S,hS,h1,he,-,him⟩|⟨h0,-⟩
 ·rw[if_neg (by simpa using h0),him]
  obtain rfl:d.c.S=S:=by omega
  have he:Ad8 (hdI ep)=0:=he
  dsimp only
  rcases Bt4 d b 0 (Y9 (1,0,1,ep,0,()) [] d.c.S)with hu|⟨k2,img,t,h2,h3,hc⟩
  ·exact .inl hu
  ·right
   obtain rfl:k2=k:=by have:=t.at';rw[hk]at this;exact(Option.some.inj this).symm
   have hn:k2.next=0:=by omega
   have hpl:=(dv.pg k2 (by obtain⟨_,hi,e⟩:=Ai6 hk;rw[<-e];exact List.getElem_mem hi)).1
   have hP:=dv.c.p
   have hhd:S9 (k2.put (0:Int).toNat img)=hdE img:=by
    unfold S9 Blk.put
    simp only
    rw[if_neg (by rw[h2];decide),List.getD_eq_getElem?_getD]
    rw[show(0:Int).toNat=0 from rfl,List.getElem?_set_self (by omega)];rfl
   rcases hc with⟨e1,rfl⟩|⟨e1,rfl⟩
   ·left
    exact⟨e1,h.opn t hb h2 hn rfl rfl (by rw[hhd];exact Ce9 he h1) hep hm,fun x hx=>t.ne hx⟩
   ·right
    refine⟨e1,?_,fun n hn'=>hn'.set t rfl rfl⟩
    unfold M8 at hhd t
    rcases Cs6 he h1 (n:=R7 d.keep d.c.S) (by unfold R7;omega)with hz|hz
    ·exact⟨us,h.spoil t hb h2 hn rfl rfl (hhd.trans hz) (by unfold Blk.put;simp)⟩
    ·exact⟨us++[(b,ep)],(h.opn t hb h2 hn rfl rfl (hhd.trans hz) hep hm).mono (by omega)⟩
 ·rw[if_pos h0]
  exact .inl ⟨rfl,h0⟩
theorem Bi3{k:Blk}(dv:Q2 d)(hdn:d.down=false)(hk:H7 d b=some k)(hkb:k.bad=false): ∃k',Bb0 d (H0 d b).2 b k k'/\(((H0 d b).1=11/\ ∃n,k'=k.torn d.c n)\/((H0 d b).1≠11/\k'=k.fresh d.c/\(H0 d b).1=if k'.bad=true then 10 else 0)):=by
 obtain⟨h0,hi,e⟩:=Ai6 hk
 have hP:=dv.c.p
 have hf:H8 d b 0=0:=by
  unfold H8
  rw[if_neg (by rw[hdn];decide),if_neg (by omega),if_neg (by omega)]
 have hc:=A98 d b
 unfold H0 at hc⊢
 rw[if_neg (by simpa using hf),List.getElem?_eq_getElem hi,e]at hc⊢
 dsimp only at hc⊢
 rw[if_neg (by rw[hkb];decide)]at hc⊢
 unfold Al9 at hc⊢
 split
 ·rename_i ht
  rw[if_pos ht]at hc
  exact⟨_,⟨hc,hk,rfl⟩,.inl ⟨rfl,_,rfl⟩⟩
 ·rename_i ht
  rw[if_neg ht]at hc
  refine⟨_,⟨hc,hk,rfl⟩,.inr ⟨?_,rfl,?_⟩⟩
  ·simp only
   split<;>decide
  ·unfold Blk.fresh
   simp only[decide_eq_true_eq]
theorem A33{c:Cfg}(hP:4<=c.P)(k:Blk):S9 (k.fresh c)=none/\nz (k.fresh c)=0/\(k.fresh c).wear=k.wear+1:=by
 refine⟨?_,by unfold nz Blk.fresh;simp,rfl⟩
 unfold S9 Blk.fresh
 split
 ·rfl
 ·simp only
  rw[List.getD_eq_getElem?_getD,List.getElem?_replicate,if_pos (by omega)]
  exact A89 _
theorem Bc5{c:Cfg}(hP:4<=c.P)(k:Blk)(n:Nat):(S9 (k.torn c n)=none\/S9 (k.torn c n)=S9 k)/\nz (k.torn c n)=1/\(k.torn c n).wear=k.wear/\(k.torn c n).bad=k.bad:=by
 refine⟨?_,by unfold nz Blk.torn;simp only;rw[if_pos (by omega)],rfl,rfl⟩
 cases n with
 |zero=>right;unfold S9 Blk.torn;simp
 |succ n=>
  left
  unfold S9 Blk.torn
  split
  ·rfl
  ·simp only[List.replicate_succ,List.cons_append,List.getD_cons_zero]
   exact A89 _
end
theorem Be0{d:Dev}(ok:Q2 d)(hdn:d.down=false){b:Nat}{k:Blk}(hk:d.bs[b]?=some k):(Bk7 d b).map (fun h=>h.2.1)=S9 k:=by
 have hP:=ok.c.p
 have hi:=(List.getElem?_eq_some_iff.1 hk).1
 have hb:b<d.c.B:=by rw[<-ok.len];exact hi
 have hf: ∀p:Nat,p<d.c.P->H8 d b p=0:=fun p hp=>by
  unfold H8
  rw[if_neg (by rw[hdn];decide),if_neg (by omega),if_neg (by omega)]
 obtain⟨ps,hps⟩: ∃ps,ps=(N7 d b).1:=⟨_,rfl⟩
 have hl:(N7 d b).1=(List.range d.c.P).map fun(p:Nat)=>(P0 d b (p:Int)).1:=by
  unfold N7
  rw[if_neg (by simpa using hf 0 (by omega))]
 have h0:ps[0]?=some (if k.bad=true then blk d.c.S else k.pages.getD 0 []):=by
  rw[hps,hl,List.getElem?_map,List.getElem?_range (by omega)]
  simp only[Option.map_some]
  unfold P0
  have:=hf 0 (by omega)
  rw[if_neg (by simpa using this),show((b:Int)).toNat=b by omega,hk]
  dsimp only
  split<;>rfl
 have hhd:S9 k=hdE (if k.bad=true then blk d.c.S else k.pages.getD 0 []):=by
  unfold S9
  split
  ·exact(A89 _).symm
  ·rfl
 rw[hhd]
 generalize (if k.bad=true then blk d.c.S else k.pages.getD 0 [])=p0 at h0
 have hne:ps≠[]:=fun e=>by rw[e]at h0;cases h0
 have hg:ps.getD 0 []=p0:=by rw[List.getD_eq_getElem?_getD,h0];rfl
 have hep:epR ps=(G9 p0).1.2.2.2.1:=by unfold epR;rw[hg]
 have hsays:Aa3 ps 0 (1,0,1,epR ps,0,())=if(G9 p0).2.2=0/\(G9 p0).1=hdI (epR ps)then some (G9 p0).2.1 else none:=by
  unfold Aa3
  rw[if_pos (by omega),show(0:Int).toNat=0 from rfl,h0];rfl
 have hscan:(Q4 ps).2=(hdE p0).isSome/\((hdE p0).isSome=true->some (Q4 ps).1.1=hdE p0):=by
  by_cases hc:(G9 p0).2.2=0/\(G9 p0).1=hdI (G9 p0).1.2.2.2.1
  ·by_cases hc2:(G9 p0).2.1=[]
   ·have e1:hdE p0=some (G9 p0).1.2.2.2.1:=by unfold hdE;exact if_pos ⟨hc.1,hc.2,hc2⟩
    rw[e1]
    unfold Q4
    rw[if_neg hne,hsays,hep,if_pos hc,hc2]
    dsimp only
    split<;>exact⟨rfl,fun _=>rfl⟩
   ·have e1:hdE p0=none:=by unfold hdE;exact if_neg fun q=>hc2 q.2.2
    rw[e1]
    unfold Q4
    rw[if_neg hne,hsays,hep,if_pos hc]
    cases hq:(G9 p0).2.1 with
    |nil=>exact absurd hq hc2
    |cons x r=>exact⟨rfl,fun h=>by cases h⟩
  ·have e1:hdE p0=none:=by unfold hdE;exact if_neg fun q=>hc ⟨q.1,q.2.1⟩
   rw[e1]
   unfold Q4
   rw[if_neg hne,hsays,hep,if_neg hc]
   exact⟨rfl,fun h=>by cases h⟩
 unfold Bk7
 rw[<-hps]
 cases hq:hdE p0 with
 |none=>
  rw[hq]at hscan
  rw[if_neg (by rw[hscan.1];decide)];rfl
 |some e=>
  rw[hq]at hscan
  rw[if_pos (by rw[hscan.1];rfl)]
  exact hscan.2 rfl
theorem C96{d:Dev}{us:List (Int×Int)}{s:Int}(h:DI d us s)(ok:Q2 d)(hdn:d.down=false):(J7 d).map (fun x=>(x.1,x.2.1))=us:=by
 have hreg: ∀(b:Nat) x,Bk7 d b=some x->b<d.c.B->T5 d x.1=some x.2.1:=fun b x hx hb=>by
  have h1:=(Au4 hx).1
  have hi:b<d.bs.length:=by rw[ok.len];exact hb
  have h2:=Be0 ok hdn (List.getElem?_eq_getElem hi)
  rw[hx]at h2
  unfold T5 H7
  rw[h1,if_pos (by omega),Int.toNat_natCast,List.getElem?_eq_getElem hi]
  exact h2.symm
 have hin: ∀x∈J7 d,(x.1,x.2.1)∈us:=fun x hx=>by
  obtain⟨b,hb,hr⟩:=Ar6 ((O2 epK (Az9 d d.c.B)).subset hx)
  have h1:=hreg b x hr hb
  have h2:x.1∈fs us:=Decidable.byContradiction fun hn=>by rw[h.fr _ hn]at h1;cases h1
  obtain⟨u,hu,he⟩:=List.mem_map.1 h2
  have h3:=h.hd u hu
  rw[he,h1]at h3
  have:(x.1,x.2.1)=u:=by rw[<-he,Option.some.inj h3]
  rw[this];exact hu
 have hout: ∀u∈us,u∈(J7 d).map fun x=>(x.1,x.2.1):=fun u hu=>by
  have h1:=h.hd u hu
  obtain⟨k,hk,-⟩:=Bh2 h1
  obtain⟨h0,hi,-⟩:=Ai6 hk
  have h2:=Be0 ok hdn (List.getElem?_eq_getElem hi)
  have h3:S9 d.bs[u.1.toNat]=some u.2:=by
   unfold T5 H7 at h1
   rw[if_pos h0,List.getElem?_eq_getElem hi]at h1
   exact h1
  rw[h3]at h2
  cases hr:Bk7 d u.1.toNat with
  |none=>rw[hr]at h2;cases h2
  |some x=>
   rw[hr]at h2
   have h4:=(Au4 hr).1
   refine List.mem_map.2 ⟨x,(O2 epK (Az9 d d.c.B)).symm.subset ?_,?_⟩
   ·unfold Az9
    exact List.mem_filterMap.2 ⟨u.1.toNat,List.mem_range.2 (by rw[<-ok.len];exact hi),hr⟩
   ·have h5:x.2.1=u.2:=Option.some.inj h2
    rw[h4,h5,Int.toNat_of_nonneg h0]
 have hnd:((J7 d).map fun x=>(x.1,x.2.1)).Nodup:=by
  have h1:=A40 d
  unfold blkR at h1
  refine List.Pairwise.of_map Prod.fst (fun a b hab e=>hab (congrArg Prod.fst e)) (S:=fun a b=>a≠b) ?_
  rw[List.map_map];exact h1
 have hnu:us.Nodup:=List.Pairwise.of_map Prod.fst (fun a b hab e=>hab (congrArg Prod.fst e)) (S:=fun a b=>a≠b) h.nd
 have hp:((J7 d).map fun x=>(x.1,x.2.1)).Perm us:=(List.perm_ext_iff_of_nodup hnd hnu).2 fun u=>⟨fun hu=>by
  obtain⟨x,hx,rfl⟩:=List.mem_map.1 hu
  exact hin x hx,hout u⟩
 refine List.Perm.eq_of_pairwise (le:=fun a b=>a.2<=b.2) (fun a b ha hb h1 h2=>?_) ?_ (h.srt.imp fun hab=>Int.le_of_lt hab) hp
 ·have hs:=h.srt
  have:=B93 (R:=fun u v:Int×Int=>u.2=v.2->u=v) (fun a b hab e=>(hab e.symm).symm) (fun a _=>rfl) (hs.imp fun{u v} huv e=>absurd e (Int.ne_of_lt huv)) a (hp.subset ha) b hb
  exact this (Int.le_antisymm h1 h2)
 ·rw[List.pairwise_map]
  exact Bp1 d
def Reg.be(r:Reg):Int×Int:=(r.b,r.ep)
def Sto.ue(s:Sto):List (Int×Int):=s.rs.map Reg.be++(s.op.map Reg.be).toList
theorem By7(s:Sto):fs s.ue=s.us:=by
 unfold fs Sto.ue Sto.us
 rw[List.map_append,List.map_map]
 cases s.op<;>rfl
def TN(d:Dev)(k:Int):Prop:=(d.torn.length:Int)+(if d.down=true then 0 else 1)<=k+1
theorem TN.st{d d':Dev}{e k:Int}(h:TN d k)(hd:d.down=false)(st:DSt d d' e):TN d' k:=by
 have h1:=st.tn
 unfold TN at*
 rw[hd]at h
 simp only[Bool.false_eq_true,if_false]at h
 split at h1<;>rename_i hq<;>simp only[hq,if_true,Bool.false_eq_true,if_false]<;>omega
theorem TN.er{d d':Dev}{b e k:Int}(h:TN d k)(hd:d.down=false)(st:ESt d d' b e):TN d' k:=by
 unfold TN at*
 rw[hd]at h
 simp only[Bool.false_eq_true,if_false]at h
 rw[st.tn]
 split<;>omega
structure WS(s:Sto)(k:Int):Prop where
 di:DI s.d s.ue k
 ep: ∀u∈s.ue,u.2<=s.epoch
 dr: ∀x,K2 s.d x->(bat s.ss x).dirty=decide (x∉fs s.ue/\Q6 s.d x≠0)
 tn:TN s.d k
def WD(d:Dev)(k:Int):Prop:=(∃us,DI d us (k+1))/\SPd d (2+k)/\TN d k
def WR(s:Sto)(k:Int):Prop:=(s.down=false->WS s k)/\(s.down=true->WD s.d k)
theorem DI.wd{d:Dev}{us:List (Int×Int)}{k:Int}(h:DI d us k)(t:TN d k):WD d k:=⟨⟨us,h.mono (by omega)⟩,h.sp,t⟩
theorem WS.wr{s:Sto}{k:Int}(h:WS s k):WR s k:=⟨fun _=>h,fun _=>h.di.wd h.tn⟩
section
variable {s s':Sto} {k:Int} {M:Nat}
theorem WS.congr(h:WS s k)(h1:s'.d=s.d)(h2:s'.ue=s.ue)(h3:s'.epoch=s.epoch)(h4:s'.ss=s.ss):WS s' k:=⟨by rw[h1,h2];exact h.di,by rw[h2,h3];exact h.ep,by rw[h1,h2,h4];exact h.dr,by rw[h1];exact h.tn⟩
theorem WR.congr(h:WR s k)(h1:s'.d=s.d)(h2:s'.ue=s.ue)(h3:s'.epoch=s.epoch)(h4:s'.ss=s.ss)(h5:s'.down=s.down):WR s' k:=⟨fun hd=>(h.1 (h5▸hd)).congr h1 h2 h3 h4,fun hd=>by rw[h1];exact h.2 (h5▸hd)⟩
theorem Bv6{d:Dev}{x:Int}{b:Blk}(h:H7 d x=some b):K2 d x↔b.bad=false:=by
 unfold K2
 rw[h]
 simp
theorem As2{d d':Dev}{x:Int}(h:H7 d' x=H7 d x):K2 d' x↔K2 d x:=by unfold K2;rw[h]
theorem Aw0{d d':Dev}{x:Int}(h:H7 d' x=H7 d x):Q6 d' x=Q6 d x:=by unfold Q6;rw[h]
theorem WS.step(h:WS s k)(h1:DI s'.d s.ue k/\Fx s.ue s.d s'.d)(h2:s'.ue=s.ue)(h3:s'.epoch=s.epoch)(h4:s'.ss=s.ss)(h5:TN s'.d k):WS s' k:=by
 refine⟨by rw[h2];exact h1.1,by rw[h2,h3];exact h.ep,fun x hx=>?_,h5⟩
 rw[h2,h4]
 by_cases hm:x∈fs s.ue
 ·rw[h.dr x (h.di.good hm)]
  simp[hm]
 ·have e:=h1.2 x hm
  rw[h.dr x ((As2 e).1 hx),Aw0 e]
theorem SOk.gd(ok:SOk s M)(hd:s.down=false)(x:Int):(F4 s.ss x=true↔K2 s.d x)/\(K2 s.d x->(bat s.ss x).wear=G4 s.d x):=by
 by_cases hx:0<=x
 ·cases hk:s.d.bs[x.toNat]? with
  |none=>
   have hss:s.ss[x.toNat]?=none:=by
    rw[List.getElem?_eq_none_iff]at hk⊢
    rw[ok.ssl];exact hk
   have hb:H7 s.d x=none:=by unfold H7;rw[if_pos hx,hk]
   have hng: ¬K2 s.d x:=fun⟨b,hb2,_⟩=>by rw[hb]at hb2;cases hb2
   refine⟨⟨fun hg=>?_,fun hg=>absurd hg hng⟩,fun hg=>absurd hg hng⟩
   unfold F4 at hg
   rw[hss]at hg
   simp at hg
  |some b=>
   obtain⟨y,hy,hw,hbd⟩:=ok.ssd hd x.toNat b hk
   have hb:H7 s.d x=some b:=by unfold H7;rw[if_pos hx,hk]
   refine⟨?_,fun _=>?_⟩
   ·rw[Bv6 hb]
    unfold F4
    rw[hy]
    simp[hx,hbd]
   ·unfold bat G4
    rw[hy,hb]
    exact hw
 ·have hb:H7 s.d x=none:=by unfold H7;rw[if_neg hx]
  have hng: ¬K2 s.d x:=fun⟨b,hb2,_⟩=>by rw[hb]at hb2;cases hb2
  refine⟨⟨fun hg=>?_,fun hg=>absurd hg hng⟩,fun hg=>absurd hg hng⟩
  unfold F4 at hg
  simp[hx]at hg
theorem WS.cost(h:WS s k)(ok:SOk s M)(hd:s.down=false){x:Int}(hg:K2 s.d x):Z0 (bat s.ss x)=O5 s.d (fs s.ue) x:=by
 have hw:=(ok.gd hd x).2 hg
 have hdr:=h.dr x hg
 obtain⟨b,hb,-⟩:=hg
 rw[Ac6 hb]
 unfold Z0
 rw[hdr,hw]
 have e1:G4 s.d x=b.wear:=by unfold G4;rw[hb];rfl
 have e2:Q6 s.d x=b.next:=by unfold Q6;rw[hb];rfl
 rw[e1,e2]
 unfold nz
 by_cases hm:x∈fs s.ue
 ·simp[hm]
 ·by_cases hn:b.next=0
  ·simp[hm,hn]
  ·simp[hm,hn]
theorem WS.write(h:WS s k)(ok:SOk s M)(hd:s.down=false)(kind:Int)(l:List (List UInt8)):WS (s.write kind l).1 k:=by
 unfold Sto.write
 split
 ·exact h
 ·rename_i o ho
  have hb:o.b∈fs s.ue:=by rw[By7];unfold Sto.us;rw[ho];simp
  have h1:=h.di.app hb o.ep (ok.op o ho).1 kind l
  have h2:=h.tn.st (by rw[<-ok.dn];exact hd) (Cj5 ok.dv (by rw[<-ok.dn];exact hd) o.b o.ep o.nx kind l).1
  dsimp only
  generalize Aq9 s.d o.b o.ep o.nx kind l=q at h1 h2
  split
  ·exact h.step (s':=((s.pay l.length).dev q.2).met q.1) h1 rfl rfl rfl h2
  ·refine h.step (s':={(s.pay l.length).dev q.2 with op:=some (o.grown kind l.length)}) h1 ?_ rfl rfl h2
   show s.rs.map Reg.be++[_]=s.rs.map Reg.be++(s.op.map Reg.be).toList
   rw[ho];rfl
theorem WS.seals(h:WS s k)(ok:SOk s M)(hd:s.down=false):WS s.seals.1 k/\s.seals.1.ue=s.ue:=by
 unfold Sto.seals
 split
 ·exact⟨h,rfl⟩
 ·rename_i o ho
  have hb:o.b∈fs s.ue:=by rw[By7];unfold Sto.us;rw[ho];simp
  have h1:=h.di.sealD hb o.ep (ok.op o ho).1 o.l
  have h2:=h.tn.st (by rw[<-ok.dn];exact hd) (Bs8 ok.dv (by rw[<-ok.dn];exact hd) o.b o.ep o.nx o.l)
  dsimp only
  generalize Y8 s.d o.b o.ep o.nx o.l=q at h1 h2
  have hu:(({(s.pay 1).dev q.2 with op:=none,rs:=s.rs++[o]}:Sto).met q.1).ue=s.ue:=by
   show(s.rs++[o]).map Reg.be++[]=s.rs.map Reg.be++(s.op.map Reg.be).toList
   rw[ho];simp
  exact⟨h.step h1 hu rfl rfl h2,hu⟩
theorem WS.begins(h:WS s k)(ok:SOk s M)(hd:s.down=false)(hop:s.op=none){b:Int}(hb:M9 s.ss s.us b=true)(hcl:(bat s.ss b).dirty=false)(hm: ∀f,K2 s.d f->f∉fs s.ue->O5 s.d (fs s.ue) b<=O5 s.d (fs s.ue) f):WR (s.begins b).1 k:=by
 obtain⟨hg,hbu⟩:=K7 hb
 obtain⟨kb,hk,hkb⟩:=(ok.gd hd b).1.1 hg
 rw[<-By7]at hbu
 have h1:=h.di.opn2 ok.dv hk hkb hbu (ep:=s.epoch+1) (fun u hu=>by have:=h.ep u hu;omega) hm
 have ht:=h.tn.st (by rw[<-ok.dn];exact hd) (Bu0 ok.dv (by rw[<-ok.dn];exact hd) b (s.epoch+1))
 unfold Sto.begins
 dsimp only
 generalize V4 s.d b (s.epoch+1)=q at h1 ht
 rcases h1 with⟨e1,e2⟩|⟨e1,e2,e3⟩|⟨e1,e2,e3⟩
 ·rw[if_pos e2]
  exact(h.congr (s':=(((s.pay 1).dev q.2).met q.1)) e1 rfl rfl rfl).wr
 ·rw[if_neg (by simpa using e1)]
  refine WS.wr ?_
  have hu:({(s.pay 1).dev q.2 with epoch:=s.epoch+1,op:=some ⟨b,s.epoch+1,1,[]⟩}:Sto).ue=s.ue++[(b,s.epoch+1)]:=by
   show s.rs.map Reg.be++[_]=s.rs.map Reg.be++(s.op.map Reg.be).toList++[_]
   rw[hop];simp;rfl
  refine⟨by rw[hu];exact e2,fun u hu'=>?_,fun x hx=>?_,ht⟩
  ·rw[hu]at hu'
   show u.2<=s.epoch+1
   rcases List.mem_append.1 hu' with hu'|hu'
   ·have:=h.ep u hu';omega
   ·rw[List.mem_singleton.1 hu'];exact Int.le_refl _
  ·rw[hu]
   show(bat s.ss x).dirty=decide (x∉fs (s.ue++[(b,s.epoch+1)])/\Q6 q.2 x≠0)
   have hf:fs (s.ue++[(b,s.epoch+1)])=fs s.ue++[b]:=by simp[fs]
   rw[hf]
   by_cases e:x=b
   ·rw[e,hcl];simp
   ·have e4:=e3 x e
    rw[h.dr x ((As2 e4).1 hx),Aw0 e4]
    refine decide_eq_decide.2 ⟨fun⟨q1,q2⟩=>⟨fun hm=>?_,q2⟩,fun⟨q1,q2⟩=>⟨fun hm=>q1 (List.mem_append_left _ hm),q2⟩⟩
    rcases List.mem_append.1 hm with hm|hm
    ·exact q1 hm
    ·exact e (List.mem_singleton.1 hm)
 ·rw[if_pos (by rw[e1];decide)]
  refine⟨fun hdn=>?_,fun _=>⟨e2,e3 _ h.di.sp,ht⟩⟩
  have:(s.down||decide (q.1=11))=false:=hdn
  rw[e1]at this
  simp at this
theorem Ch3{d':Dev}{us us':List (Int×Int)}{b:Int}{kb kb':Blk}(t:Bb0 s.d d' b kb kb')(hdr: ∀x,K2 s.d x->(bat s.ss x).dirty=decide (x∉fs us/\Q6 s.d x≠0))(hlt:b.toNat<s.ss.length)(hn:kb'.next=0)(hm: ∀x,x≠b->(x∈fs us↔x∈fs us'))(bad:Bool):
  ∀x,K2 d' x->(bat (Ab9 s.ss b (T0 bad)) x).dirty=decide (x∉fs us'/\Q6 d' x≠0):=fun x hx=>by
 have hb0:=(Ai6 t.at').1
 by_cases e:x=b
 ·rw[e,A45 _ hlt]
  have:Q6 d' b=0:=by unfold Q6;rw[t.own];show((kb'.next:Nat):Int)=0;rw[hn];rfl
  rw[this]
  simp[T0]
 ·have hx2:=hx
  obtain⟨y,hy,-⟩:=hx2
  have hx0:=(Ai6 hy).1
  have e4:=t.ne e
  rw[A44 _ hb0 hx0 e,hdr x ((As2 e4).1 hx),Aw0 e4]
  rw[decide_eq_decide,hm x e]
theorem Bw5(b:Int)(e:(H0 s.d b).1≠11):(s.erase b).1.ue=(s.rs.filter fun r=> !decide (r.b=b)).map Reg.be++(s.op.map Reg.be).toList/\(s.erase b).1.d=(H0 s.d b).2/\(s.erase b).1.epoch=s.epoch/\(s.erase b).1.ss=(if F4 s.ss b=true then Ab9 s.ss b (T0 (decide ((H0 s.d b).1=10)))else s.ss):=by
 unfold Sto.erase
 dsimp only
 rw[if_neg e]
 exact⟨rfl,rfl,rfl,rfl⟩
theorem Bw6(b:Int)(e:(H0 s.d b).1=11):(s.erase b).1.d=(H0 s.d b).2/\(s.erase b).1.down=true/\(s.erase b).2=11:=by
 unfold Sto.erase
 dsimp only
 rw[if_pos e]
 refine⟨rfl,?_,rfl⟩
 show(s.down||decide ((11:Int)=11))=true
 simp
theorem WS.wash(h:WS s k)(ok:SOk s M)(hd:s.down=false){b:Int}(hb:M9 s.ss s.us b=true)(hdi:(bat s.ss b).dirty=true):
  WR (s.erase b).1 k/\((s.erase b).2=0->WS (s.erase b).1 k/\(s.erase b).1.ue=s.ue/\ ∀x,K2 (s.erase b).1.d x->K2 s.d x/\O5 (s.erase b).1.d (fs s.ue) x=O5 s.d (fs s.ue) x):=by
 obtain⟨hg,hbu⟩:=K7 hb
 have hgd:=(ok.gd hd b).1.1 hg
 have hdr:=h.dr b hgd
 obtain⟨kb,hk,hkb⟩:=hgd
 obtain⟨-,hlt,-⟩:=N5 hg
 rw[<-By7]at hbu
 have hP:4<=s.d.c.P:=ok.dv.c.p.1
 have hz:nz kb=1:=by
  rw[hdi]at hdr
  have h2:=(of_decide_eq_true hdr.symm).2
  have e2:Q6 s.d b=kb.next:=by unfold Q6;rw[hk];rfl
  rw[e2]at h2
  unfold nz
  rw[if_pos (by omega)]
 have hh0:S9 kb=none:=by
  have:=h.di.fr b hbu
  unfold T5 at this
  rw[hk]at this;exact this
 have ht:=h.tn.er (by rw[<-ok.dn];exact hd) (Ay4 ok.dv (by rw[<-ok.dn];exact hd) b)
 obtain⟨kb',t,hc⟩:=Bi3 ok.dv (by rw[<-ok.dn];exact hd) hk hkb
 rcases hc with⟨e1,n,rfl⟩|⟨e1,rfl,-⟩
 ·obtain⟨a1,a2,a3⟩:=Bw6 b e1
  obtain⟨b1,b2,b3,b4⟩:=Bc5 hP kb n
  have h1:=(h.di.wash t hbu hkb (b1.elim id fun q=>q.trans hh0) (by rw[b2,b3,hz])).1
  exact⟨⟨fun hx=>(by rw[a2]at hx;cases hx),fun _=>(by rw[a1];exact h1.wd ht)⟩,fun hx=>(by rw[a3]at hx;cases hx)⟩
 ·obtain⟨a1,a2,a3,a4⟩:=Bw5 b e1
  obtain⟨b1,b2,b3⟩:=A33 hP kb
  obtain⟨h1,h2⟩:=h.di.wash t hbu hkb b1 (by rw[b2,b3,hz];omega)
  have hu:(s.erase b).1.ue=s.ue:=by
   rw[a1]
   unfold Sto.ue
   congr 2
   rw[List.filter_eq_self]
   intro r hr
   have:r.b≠b:=fun e=>hbu (by rw[By7,<-e];unfold Sto.us;exact List.mem_append_left _ (List.mem_map_of_mem hr))
   simp[this]
  have hw:WS (s.erase b).1 k:=by
   refine⟨by rw[a2,hu];exact h1,by rw[hu,a3];exact h.ep,?_,by rw[a2];exact ht⟩
   rw[a2,hu,a4,if_pos hg]
   exact Ch3 t h.dr hlt rfl (fun x _=>Iff.rfl) _
  exact⟨hw.wr,fun _=>⟨hw,hu,by rw[a2];exact h2⟩⟩
theorem WS.oldest(h:WS s k)(ok:SOk s M)(hd:s.down=false){r:Reg}{t:List Reg}(hr:s.rs=r::t):WR (s.erase r.b).1 k:=by
 have hue:s.ue=r.be::(t.map Reg.be++(s.op.map Reg.be).toList):=by unfold Sto.ue;rw[hr];rfl
 have hbu:r.b∈fs s.ue:=by rw[hue];simp[fs,Reg.be]
 have hgd:=h.di.good hbu
 have hg:=(ok.gd hd r.b).1.2 hgd
 obtain⟨kb,hk,hkb⟩:=hgd
 obtain⟨-,hlt,-⟩:=N5 hg
 have hP:4<=s.d.c.P:=ok.dv.c.p.1
 have hdi:=h.di
 rw[hue]at hdi
 have ht:=h.tn.er (by rw[<-ok.dn];exact hd) (Ay4 ok.dv (by rw[<-ok.dn];exact hd) r.b)
 obtain⟨kb',st,hc⟩:=Bi3 ok.dv (by rw[<-ok.dn];exact hd) hk hkb
 rcases hc with⟨e1,n,rfl⟩|⟨e1,rfl,-⟩
 ·obtain⟨a1,a2,a3⟩:=Bw6 r.b e1
  obtain⟨b1,b2,b3,b4⟩:=Bc5 hP kb n
  refine⟨fun hx=>(by rw[a2]at hx;cases hx),fun _=>?_⟩
  rw[a1]
  rcases b1 with b1|b1
  ·exact(hdi.drop (u:=r.be) st b1 (by rw[b2,b3])).wd ht
  ·exact(h.di.frame st b3 b4 b1 hbu).wd ht
 ·obtain⟨a1,a2,a3,a4⟩:=Bw5 r.b e1
  obtain⟨b1,b2,b3⟩:=A33 hP kb
  have h1:=hdi.drop (u:=r.be) st b1 (by rw[b2,b3];omega)
  have hnd:=hdi.nd
  have hnd:r.b∉fs (t.map Reg.be++(s.op.map Reg.be).toList):=(List.nodup_cons.1 hnd).1
  have hu:(s.erase r.b).1.ue=t.map Reg.be++(s.op.map Reg.be).toList:=by
   rw[a1,hr,List.filter_cons]
   simp only[decide_true,Bool.not_true,Bool.false_eq_true,if_false]
   congr 2
   rw[List.filter_eq_self]
   intro x hx
   have:x.b≠r.b:=fun e=>hnd (by rw[<-e];exact List.mem_map.2 ⟨x.be,List.mem_append_left _ (List.mem_map_of_mem hx),rfl⟩)
   simp[this]
  refine WS.wr ⟨by rw[a2,hu];exact h1,fun u hu'=>?_,?_,by rw[a2];exact ht⟩
  ·rw[hu]at hu'
   rw[a3]
   exact h.ep u (by rw[hue];exact List.mem_cons_of_mem _ hu')
  ·rw[a2,hu,a4,if_pos hg]
   refine Ch3 st h.dr hlt rfl (fun x hx=>?_) _
   rw[hue]
   simp[fs,Reg.be,hx]
theorem WS.move(h:WS s k)(ok:SOk s M)(hd:s.down=false)(p:It)(n beside:Int):WS (s.move p n beside).1 k:=by
 unfold Sto.move
 dsimp only
 split
 ·exact h
 ·split
  ·exact h.congr rfl rfl rfl rfl
  ·split
   ·exact h
   ·have:=h.write ok hd 2 (T4 (C6 s.d p).1 (C6 s.d p).2.1 (U2 s.sc.c)).1
    split
    ·exact this.congr rfl rfl rfl rfl
    ·exact this
theorem WS.moves{b ep beside:Int}: ∀(l:List It) {s:Sto} {M:Nat},WS s k->SOk s M->s.down=false->WS (Sto.moves b ep beside l s).1 k
 |[],s,M,h,ok,hd=>h
 |x::r,s,M,h,ok,hd=>by
  unfold Sto.moves
  split
  ·exact WS.moves r h ok hd
  ·have h1:=ok.move hd (b,x.2.1,ep,()) x.2.2.1 beside
   have h2:=h.move ok hd (b,x.2.1,ep,()) x.2.2.1 beside
   dsimp only
   split
   ·exact h2
   ·rename_i h0
    exact WS.moves r h2 h1.1 (h1.2.1 (by simpa using h0))
theorem WS.reclaim(h:WS s k)(ok:SOk s M)(hd:s.down=false){r:Reg}{t:List Reg}(hr:s.rs=r::t)(beside:Int):WR (s.reclaim r beside).1 k:=by
 obtain⟨h1,h2,mv⟩:=SOk.moves (b:=r.b) (ep:=r.ep) (beside:=beside) r.l ok hd
 have h3:=WS.moves (b:=r.b) (ep:=r.ep) (beside:=beside) r.l h ok hd
 unfold Sto.reclaim
 dsimp only
 split
 ·exact h3.wr
 ·rename_i h0
  exact WS.oldest (s:={(Sto.moves r.b r.ep beside r.l s).1 with pend:=(Sto.moves r.b r.ep beside r.l s).1.pend.filter fun p=> !decide (p.1=r.b)}) (h3.congr rfl rfl rfl rfl) (h1.cutp r.b) (h2 (by simpa using h0)) (mv.rs.trans hr)
theorem WS.frees{n:Int}: ∀(j:Nat) {s:Sto} {M:Nat},WS s k->SOk s M->s.down=false->WR (Sto.frees n j s).1 k
 |0,s,M,h,ok,hd=>h.wr
 |j+1,s,M,h,ok,hd=>by
  unfold Sto.frees
  split
  ·split
   ·exact h.wr
   ·rename_i r t hr
    have h1:=ok.reclaim hd hr n
    have h2:=h.reclaim ok hd hr n
    dsimp only
    split
    ·exact h2
    ·rename_i h0
     have h3:=(h1.2.1 (by simpa using h0)).1
     exact WS.frees j (h2.1 h3) h1.1 h3
  ·exact h.wr
theorem WS.more(h:WS s k)(ok:SOk s M)(hd:s.down=false)(n:Int):WR (s.more n).1 k:=by
 unfold Sto.more
 split
 ·exact h.wr
 split
 ·exact h.wr
 rename_i hep
 split
 ·split
  ·exact h.wr
  ·rename_i r t hr
   exact h.reclaim ok hd hr n
 rename_i hfree
 obtain⟨s1,s2,s3,s4,s5,s6,s7⟩:=ok.seals hd
 obtain⟨w1,w2⟩:=h.seals ok hd
 dsimp only
 generalize s.seals=w at s1 s2 s3 s4 s5 s6 s7 w1 w2
 split
 ·exact w1.wr
 rename_i h0
 have hdw:=s2 (by simpa using h0)
 have hfr:w.1.free≠0:=by
  unfold Sto.free at hfree⊢
  rw[s5,s4];exact hfree
 obtain⟨p1,p2⟩:=Av8 hfr
 have hpm: ∀f,K2 w.1.d f->f∉fs w.1.ue->O5 w.1.d (fs w.1.ue) (F5 w.1.ss w.1.us).2.2<=O5 w.1.d (fs w.1.ue) f:=fun f hf hfu=>by
  obtain⟨q1,q2,-⟩:=A38 w.1.ss w.1.us
  have hgf:=(s1.gd hdw f).1.2 hf
  obtain⟨c1,c2,-⟩:=N5 hgf
  have hff:M9 w.1.ss w.1.us f=true:=by
   rw[By7]at hfu
   unfold M9
   rw[hgf];simp[hfu]
  cases hp:(F5 w.1.ss w.1.us).1 with
  |false=>
   have:=q1 hp f.toNat c2
   rw[Int.toNat_of_nonneg c1,hff]at this
   cases this
  |true=>
   have h3:=(q2 hp).2.2 f.toNat c2
   rw[Int.toNat_of_nonneg c1]at h3
   rw[<-w1.cost s1 hdw hf,<-w1.cost s1 hdw ((s1.gd hdw _).1.1 (K7 p1).1)]
   exact h3 hff
 obtain⟨z,hz,z1,z2,z3,z4,z5,z6⟩:=s1.picks hdw s3 hfr
 have hzw:WR z.1 k/\(z.2=0->z.1.ue=w.1.ue/\ ∀x,K2 z.1.d x->K2 w.1.d x/\O5 z.1.d (fs w.1.ue) x=O5 w.1.d (fs w.1.ue) x):=by
  rw[hz,p2]
  rw[p2]at hz
  cases hdi:(bat w.1.ss (F5 w.1.ss w.1.us).2.2).dirty with
  |false=>
   rw[if_neg (by decide)]
   exact⟨w1.wr,fun _=>⟨rfl,fun x hx=>⟨hx,rfl⟩⟩⟩
  |true=>
   rw[if_pos rfl]
   have:=w1.wash s1 hdw p1 hdi
   exact⟨this.1,fun h0=>(this.2 h0).2⟩
 rw[<-hz]
 clear hz
 generalize F5 w.1.ss w.1.us=pk at z6 hpm p1 p2
 split
 ·exact hzw.1
 rename_i hz0
 have hz0:z.2=0:=by simpa using hz0
 obtain⟨y1,y2,y3,y4,y5⟩:=z6 hz0
 obtain⟨g1,g2⟩:=hzw.2 hz0
 have hzs:=hzw.1.1 y1
 split
 ·exact hzw.1
 rename_i hbd
 obtain⟨f1,f2⟩:=y5 hbd
 have hcl:(bat z.1.ss pk.2.2).dirty=false:=by
  unfold Ad3 at f2
  rw[f1]at f2
  unfold bat
  cases hq:z.1.ss[pk.2.2.toNat]? with
  |none=>rfl
  |some x=>rw[hq]at f2;simpa using f2
 have hgp:=(z1.gd y1 _).1.1 (K7 f1).1
 have hm: ∀f,K2 z.1.d f->f∉fs z.1.ue->O5 z.1.d (fs z.1.ue) pk.2.2<=O5 z.1.d (fs z.1.ue) f:=fun f hf hfu=>by
  rw[g1]at hfu⊢
  rw[(g2 _ hgp).2,(g2 f hf).2]
  exact hpm f (g2 f hf).1 hfu
 have hb:=hzs.begins z1 y1 z2 f1 hcl hm
 have hok:=z1.begins y1 z2 (by rw[z4,s6];omega) f1
 split
 ·exact hb
 rename_i hy0
 have hy:=(hok.2 (by simpa using hy0)).1
 exact WS.frees _ (hb.1 hy) hok.1 hy
theorem WS.room{n:Int}(hn:0<=n): ∀(j:Nat) {s:Sto} {M:Nat},WS s k->SOk s M->s.down=false->WR (Sto.room n j s).1 k
 |0,s,M,h,ok,hd=>h.wr
 |j+1,s,M,h,ok,hd=>by
  rw[U5]
  split
  ·split<;>exact h.wr
  ·have h1:=ok.more hd hn
   have h2:=h.more ok hd n
   split
   ·exact h2
   ·rename_i h0
    have h3:=(h1.2.1 (by simpa using h0)).1
    exact WS.room hn j (h2.1 h3) h1.1 h3
theorem WS.adm(h:WS s k)(ok:SOk s M)(hd:s.down=false)(key:ByteArray)(val:List UInt8):WR (s.adm key val).1 k:=by
 unfold Sto.adm
 dsimp only
 split
 ·exact h.wr
 ·have h1:WR (s.roomy (T4 key.data.toList val (U2 s.sc.c)).1.length).1 k:=WS.room (by omega) _ h ok hd
  obtain⟨h2,h3,-⟩:=ok.roomy hd (n:=((T4 key.data.toList val (U2 s.sc.c)).1.length:Int)) (by omega)
  split
  ·exact h1
  ·rename_i h0
   have h4:=(h3 (by simpa using h0)).1
   have h5:=(h1.1 h4).write h2 h4 2 (T4 key.data.toList val (U2 s.sc.c)).1
   split
   ·refine WS.wr ?_
    exact h5.congr rfl rfl rfl rfl
   ·exact h5.wr
theorem WR.forget(h:WR s k)(key:ByteArray):WR (s.forget key).1 k:=by
 unfold Sto.forget
 dsimp only
 split<;>exact h.congr rfl rfl rfl rfl rfl
theorem WS.trim: ∀(j:Nat) {s:Sto} {M:Nat},WS s k->SOk s M->s.down=false->WR (Sto.trim j s).1 k
 |0,s,M,h,ok,hd=>h.wr
 |j+1,s,M,h,ok,hd=>by
  unfold Sto.trim
  split
  ·cases hq:s.q with
   |nil=>exact h.wr
   |cons y r=>
    dsimp only
    have hqs:=ok.qs
    have hql:=ok.ql
    rw[hq]at hqs hql
    have h1:SOk {s with q:=r} M:=ok.setq (fun e he=>hqs e (List.mem_cons_of_mem _ he)) (by simp at hql;omega)
    have w0:WS {s with q:=r} k:=h.congr rfl rfl rfl rfl
    have hw:SOk (if y.2.2>0 then({s with q:=r}:Sto).adm y.1 y.2.1 else({s with q:=r},8)).1 (M+1)/\WR (if y.2.2>0 then({s with q:=r}:Sto).adm y.1 y.2.1 else({s with q:=r},8)).1 k/\((if y.2.2>0 then({s with q:=r}:Sto).adm y.1 y.2.1 else({s with q:=r},8)).2≠11->(if y.2.2>0 then({s with q:=r}:Sto).adm y.1 y.2.1 else({s with q:=r},8)).1.down=false)/\(if y.2.2>0 then({s with q:=r}:Sto).adm y.1 y.2.1 else({s with q:=r},8)).1.sc=s.sc:=by
     split
     ·have ha:=h1.adm hd y.1 y.2.1
      exact⟨ha.1,w0.adm h1 hd _ _,fun hn=>(Ah2 _ _ _ hn).trans hd,ha.2⟩
     ·exact⟨h1.upto (by omega),w0.wr,fun _=>hd,rfl⟩
    generalize (if y.2.2>0 then({s with q:=r}:Sto).adm y.1 y.2.1 else({s with q:=r},8))=w at hw
    obtain⟨k1,k2,k3,k4⟩:=hw
    split
    ·rename_i h0
     have h5:=k3 (by rw[h0];decide)
     exact WS.trim j (k2.1 h5) k1 h5
    ·split
     ·exact k2
     ·rename_i h0 h11
      have h5:=k3 h11
      refine WS.trim j ((k2.1 h5).congr rfl rfl rfl rfl) (k1.setgh (gh:=Cf2 s.sc.ghost w.1.gh (s.hash y.1)) ?_) h5
      have h6:=k1.gl
      have h7:=k1.gs
      rw[k4]at h6 h7⊢
      exact At7 h7.1 h6 _
  ·exact h.wr
theorem WS.putYoung(h:WS s k)(ok:SOk s M)(hd:s.down=false)(hq:s.q.length<=65536){key:ByteArray}{val:List UInt8}(hk:1<=key.size/\key.size<=255)(hv:val.length<=65536):WR (s.putYoung key val).1 k:=by
 have h1:=(ok.putYoung hd hq hk hv).1
 unfold Sto.putYoung
 exact WS.trim _ (h.congr rfl rfl rfl rfl) h1 hd
theorem WR.put(h:WR s k)(iv:K8 s M)(key:ByteArray)(val:List UInt8):WR (s.put key val).1 k:=by
 unfold Sto.put
 split
 ·exact h
 ·rename_i ha
  obtain⟨hd,hk⟩:=Aa0 (s:=s) (key:=key) (by simpa using ha)
  split
  ·exact h
  ·rename_i hv
   obtain⟨f1,f2,f3,f4,f5⟩:=iv.ok.forget key
   have hq1:(s.forget key).1.q.length<=65536:=by rw[f4];exact Nat.le_trans (Y3 _ _) (iv.q hd)
   have hd1:(s.forget key).1.down=false:=f2.trans hd
   have h1:=(h.forget key).1 hd1
   dsimp only
   generalize (s.forget key).1=s1 at f1 f2 f3 f4 f5 hq1 hd1 h1
   split
   ·exact h1.wr
   ·split
    ·have hg:SOk {s1 with gh:=s1.gh.erase ((s.hash key:Nat):Int)} (M+1):=f1.setgh (by have h1:=f1.gl;have h2:(s1.gh.erase ((s.hash key:Nat):Int)).length<=s1.gh.length:=List.length_erase_le;omega)
     have w0:WS {s1 with gh:=s1.gh.erase ((s.hash key:Nat):Int)} k:=h1.congr rfl rfl rfl rfl
     have a0:=w0.adm hg hd1 key val
     obtain⟨a1,a2⟩:=hg.adm hd1 key val
     have a3:=Az1 {s1 with gh:=s1.gh.erase ((s.hash key:Nat):Int)} key val
     have a4:=Ah2 {s1 with gh:=s1.gh.erase ((s.hash key:Nat):Int)} key val
     generalize ({s1 with gh:=s1.gh.erase ((s.hash key:Nat):Int)}:Sto).adm key val=w at a0 a1 a2 a3 a4
     have hq2:w.1.q.length<=65536:=by rw[a3.1];exact hq1
     split
     ·exact a0
     ·rename_i hw
      rw[not_or]at hw
      have h5:=(a4 hw.2).trans hd1
      exact(a0.1 h5).putYoung a1 h5 hq2 hk (by omega)
    ·exact h1.putYoung f1 hd1 hq1 hk (by omega)
theorem WR.get(h:WR s k)(key:ByteArray):WR (s.get key).1 k:=by
 unfold Sto.get
 split
 ·exact h
 ·split
  ·exact h.congr rfl rfl rfl rfl rfl
  ·split
   ·exact h
   ·exact h.congr rfl rfl rfl rfl rfl
theorem WR.delete(h:WR s k)(key:ByteArray):WR (s.delete key).1 k:=by
 unfold Sto.delete
 split
 ·exact h
 ·exact h.forget key
theorem WR.tick(h:WR s k)(now:Int):WR (s.tick now) k:=by
 unfold Sto.tick
 split
 ·exact h
 ·exact h.congr rfl rfl rfl rfl rfl
theorem WS.flushes: ∀(j:Nat) {s:Sto} {M:Nat},WS s k->K8 s M->s.down=false->WR (Sto.flushes j s).1 k
 |0,s,M,h,iv,hd=>h.wr
 |j+1,s,M,h,iv,hd=>by
  unfold Sto.flushes
  split
  ·exact h.wr
  ·obtain⟨a1,a2,a3⟩:=iv.ok.roomy hd (n:=1) (by decide)
   have a4:WR (s.roomy 1).1 k:=WS.room (by decide) _ h iv.ok hd
   have aq:(s.roomy 1).1.q=s.q:=(Bt0 1 (s.mu+1) s).1
   dsimp only
   generalize s.roomy 1=w at a1 a2 a3 a4 aq
   split
   ·exact a4
   ·rename_i h0
    obtain⟨b1,b2⟩:=a2 (by simpa using h0)
    have w1:=a4.1 b1
    split
    ·exact a4
    ·split
     ·exact a4
     ·have w2:=w1.write a1 b1 3 [(T9 (w.1.pend.take (min w.1.pend.length (D4 w.1.sc.c.S/6).toNat))).1]
      obtain⟨c1,c2⟩:=a1.write b1 3 [(T9 (w.1.pend.take (min w.1.pend.length (D4 w.1.sc.c.S/6).toNat))).1]
      have cq:=A49 w.1 3 [(T9 (w.1.pend.take (min w.1.pend.length (D4 w.1.sc.c.S/6).toNat))).1]
      generalize w.1.write 3 [(T9 (w.1.pend.take (min w.1.pend.length (D4 w.1.sc.c.S/6).toNat))).1]=z at w2 c1 c2 cq
      split
      ·exact w2.wr
      ·rename_i h1
       have h1:z.2.2=0:=by simpa using h1
       have i4:K8 {z.1 with pend:=z.1.pend.drop (min w.1.pend.length (D4 w.1.sc.c.S/6).toNat)} M:=⟨{c1 with dv:=c1.dv,pl:=by show(z.1.pend.drop _).length<=M;rw[List.length_drop];have:=c1.pl;omega},fun _=>by show z.1.q.length<=65536;rw[cq.1,aq];exact iv.q hd⟩
       exact WS.flushes j (w2.congr rfl rfl rfl rfl) i4 (c2 h1)
theorem WR.flush(h:WR s k)(iv:K8 s M):WR s.flush.1 k:=by
 unfold Sto.flush
 split
 ·exact h
 ·rename_i hd
  have hd:s.down=false:=by simpa using hd
  exact WS.flushes _ (h.1 hd) iv hd
end
theorem Bq7(ss:List BS)(n x:Int):F4 (Ab9 ss n Z8) x=F4 ss x:=by
 unfold F4 Ab9
 rw[List.getElem?_modify]
 cases ss[x.toNat]? with
 |none=>rfl
 |some y=>
  simp only[Option.map_eq_map,Option.map_some]
  split<;>simp[Z8]
theorem A39: ∀(l:List Int) {ss:List BS} {us:List Int},(us++l).Nodup->(∀x∈l,F4 ss x=true)-> ∃r,Ao3 ss us l=some r/\ ∀x,0<=x->(bat r.1 x).dirty=(decide (x∉l)&&(bat ss x).dirty)
 |[],ss,us,_,_=>⟨(ss,us),rfl,fun x _=>by simp⟩
 |n::t,ss,us,hn,hg=>by
  have hgn:=hg n (by simp)
  obtain⟨h0,hlt,-⟩:=N5 hgn
  have hnu:n∉us:=fun hm=>(List.nodup_append.1 hn).2.2 n hm n (by simp) rfl
  have hf:M9 ss us n=true:=by unfold M9;rw[hgn];simp[hnu]
  obtain⟨r,h1,h2⟩:=A39 t (ss:=Ab9 ss n Z8) (us:=us++[n]) (by rw[List.append_assoc];exact hn) fun x hx=>by rw[Bq7];exact hg x (by simp[hx])
  refine⟨r,?_,fun x hx=>?_⟩
  ·unfold Ao3
   rw[if_pos hf];exact h1
  ·rw[h2 x hx]
   by_cases e:x=n
   ·rw[e,A45 _ hlt]
    simp[Z8]
   ·rw[A44 _ h0 hx e]
    simp[e]
theorem A27: ∀(l:List LE) (s:Sto),(Ac1 l s).d=s.d/\(Ac1 l s).ue=s.ue/\(Ac1 l s).epoch=s.epoch/\(Ac1 l s).ss=s.ss/\(Ac1 l s).sc=s.sc/\(Ac1 l s).down=s.down/\(Ac1 l s).bk=s.bk
 |[],s=>⟨rfl,rfl,rfl,rfl,rfl,rfl,rfl⟩
 |x::r,s=>A27 r (s.list x.1 x.2)
theorem Cy4{d:Dev}{us:List (Int×Int)}{k:Int}(h:DI d us k)(ok:Q2 d)(hdn:d.down=false)(ht:TN d k){x:A06}(hx:Bq4 x d)(now:Int):
  ∃s,An3 x d now=(some s,0)/\WS s k/\s.sc=A19 x d/\s.down=false/\s.d=d/\s.bk=Ah7 (A19 x d).rate (A19 x d).burst now 0:=by
 have hus:=C96 h ok hdn
 have hB:=ok.c.b
 have hW:=ok.c.w
 have hub:(V6 d).map Reg.b=fs us:=by
  rw[<-hus]
  unfold V6 fs
  rw[List.map_map,List.map_map];rfl
 have hsl:(At2 d).length=d.c.B:=by unfold At2;rw[List.length_map,ok.len]
 have hbw:Bj5 (At2 d)=true:=by
  unfold Bj5 At2
  rw[List.all_map,List.all_eq_true]
  intro b hb
  have:=ok.nx b hb
  simp only[Function.comp,decide_eq_true_eq]
  omega
 have hbat: ∀y,K2 d y->F4 (At2 d) y=true/\(bat (At2 d) y).dirty=decide (Q6 d y≠0):=fun y ⟨b,hb,hbb⟩=>by
  obtain⟨h0,hi,e⟩:=Ai6 hb
  have hs:(At2 d)[y.toNat]?=some ⟨b.wear,b.bad,decide (b.next≠0)⟩:=by
   unfold At2
   rw[List.getElem?_map,List.getElem?_eq_getElem hi,e];rfl
  have hn:Q6 d y=b.next:=by unfold Q6;rw[hb];rfl
  constructor
  ·unfold F4
   rw[hs]
   simp[h0,hbb]
  ·unfold bat
   rw[hs,hn]
   show decide (b.next≠0)=_
   exact decide_eq_decide.2 (by omega)
 obtain⟨r,hr,hrd⟩:=A39 (fs us) (ss:=At2 d) (us:=[]) (by simpa using h.nd) fun y hy=>(hbat y (h.good hy)).1
 have hbn:Ah6 (At2 d) ((V6 d).map Reg.b)=some r:=by
  unfold Ah6
  rw[if_pos ⟨by omega,by omega,hbw⟩,hub];exact hr
 obtain⟨k1,k2,k3,k4,k5,k6,k7⟩:=A27 (S3 d) (B41 (A19 x d) d now r.1)
 have hue:(B41 (A19 x d) d now r.1).ue=us:=by
  show(V6 d).map Reg.be++[]=us
  rw[List.append_nil,<-hus]
  unfold V6
  rw[List.map_map];rfl
 refine⟨Ac1 (S3 d) (B41 (A19 x d) d now r.1),?_,WS.congr (s:=B41 (A19 x d) d now r.1) ⟨by rw[hue];exact h,fun u hu=>?_,fun y hy=>?_,ht⟩ k1 k2 k3 k4,k5,k6,k1,k7⟩
 ·unfold An3
  rw[if_pos hx,if_neg (by rw[hdn];decide)]
  unfold Ca4
  rw[hbn];rfl
 ·rw[hue,<-hus]at hu
  obtain⟨y,hy,rfl⟩:=List.mem_map.1 hu
  exact(Cc1 (J7 d) 0).2 y hy
 ·rw[hue]
  show(bat r.1 y).dirty=_
  have h0:0<=y:=by
   obtain⟨b,hb,-⟩:=hy
   exact(Ai6 hb).1
  rw[hrd y h0,(hbat y hy).2,<-Bool.decide_and]
  rfl
def wlS(d:Dev):Nat->Int×Int
 |0=>(-1,-1)
 |i+1=>if Y6 d i=true then wlS d i else(if(wlS d i).1<0\/G4 d i<(wlS d i).1 then G4 d i else(wlS d i).1,S7 (wlS d i).2 (G4 d i))
theorem Br2(d:Dev)(x:Int):0<=G4 d x:=by unfold G4;omega
theorem Ar2(d:Dev): ∀n:Nat,((wlS d n).1= -1/\(wlS d n).2= -1/\ ∀j:Nat,j<n->Y6 d j=true)\/
  ((∃j:Nat,j<n/\Y6 d j=false/\G4 d j=(wlS d n).1)/\(∃j:Nat,j<n/\Y6 d j=false/\G4 d j=(wlS d n).2)/\ ∀j:Nat,j<n->Y6 d j=false->(wlS d n).1<=G4 d j/\G4 d j<=(wlS d n).2)
 |0=>.inl ⟨rfl,rfl,fun j hj=>by omega⟩
 |n+1=>by
  have ih:=Ar2 d n
  have hw:=Br2 d n
  unfold wlS
  generalize wlS d n=z at ih
  cases hb:Y6 d n with
  |true=>
   rw[if_pos rfl]
   rcases ih with⟨h1,h2,h3⟩|⟨⟨a,a1,a2,a3⟩,⟨b,b1,b2,b3⟩,h3⟩
   ·refine .inl ⟨h1,h2,fun j hj=>?_⟩
    rcases Nat.lt_or_ge j n with h|h
    ·exact h3 j h
    ·obtain rfl:j=n:=by omega
     exact hb
   ·refine .inr ⟨⟨a,by omega,a2,a3⟩,⟨b,by omega,b2,b3⟩,fun j hj hg=>?_⟩
    rcases Nat.lt_or_ge j n with h|h
    ·exact h3 j h hg
    ·obtain rfl:j=n:=by omega
     rw[hb]at hg;cases hg
  |false=>
   rw[if_neg (by decide)]
   right
   unfold S7
   rcases ih with⟨h1,h2,h3⟩|⟨⟨a,a1,a2,a3⟩,⟨b,b1,b2,b3⟩,h3⟩
   ·have hnew: ∀j:Nat,j<n+1->Y6 d j=false->j=n:=fun j hj hg=>by
     rcases Nat.lt_or_ge j n with h|h
     ·rw[h3 j h]at hg;cases hg
     ·omega
    simp only
    rw[if_pos (.inl (by omega))]
    refine⟨⟨n,by omega,hb,rfl⟩,⟨n,by omega,hb,by split<;>omega⟩,fun j hj hg=>?_⟩
    rw[hnew j hj hg]
    exact⟨Int.le_refl _,by split<;>omega⟩
   ·have h0:=Br2 d a
    refine⟨?_,?_,fun j hj hg=>?_⟩
    ·simp only
     split
     ·exact⟨n,by omega,hb,rfl⟩
     ·exact⟨a,by omega,a2,a3⟩
    ·simp only
     by_cases hc:z.2<=G4 d n
     ·exact⟨n,by omega,hb,by split<;>omega⟩
     ·exact⟨b,by omega,b2,by split<;>omega⟩
    ·simp only
     rcases Nat.lt_or_ge j n with h|h
     ·have:=h3 j h hg
      constructor<;>split<;>omega
     ·obtain rfl:j=n:=by omega
      constructor<;>split<;>omega
theorem Ba8{d:Dev}(ok:Q2 d)(j:Nat)(hj:j<d.c.B):Y6 d j=false↔K2 d j:=by
 have hi:j<d.bs.length:=by rw[ok.len];exact hj
 have hb:H7 d (j:Int)=some d.bs[j]:=by unfold H7;rw[if_pos (by omega),Int.toNat_natCast,List.getElem?_eq_getElem hi]
 rw[Bv6 hb]
 unfold Y6
 rw[hb];rfl
theorem B48{d:Dev}(ok:Q2 d){n:Int}(h:SPd d n)(hn:0<=n):(wlS d d.c.B).2-(wlS d d.c.B).1<=n:=by
 rcases Ar2 d d.c.B with⟨h1,h2,-⟩|⟨⟨a,a1,a2,a3⟩,⟨b,b1,b2,b3⟩,-⟩
 ·omega
 ·have:=h b a ((Ba8 ok b b1).1 b2) ((Ba8 ok a a1).1 a2)
  omega
theorem Bl4{s:Sto}{M:Nat}(ok:SOk s M)(hd:s.down=false):(wlS s.d s.d.c.B).2-(wlS s.d s.d.c.B).1=Af9 s.ss:=by
 have hl:s.ss.length=s.d.c.B:=ok.ssl.trans ok.dv.len
 have hg: ∀j:Nat,j<s.d.c.B->(F4 s.ss j=true↔Y6 s.d j=false)/\(F4 s.ss j=true->(bat s.ss j).wear=G4 s.d j):=fun j hj=>by
  obtain⟨g1,g2⟩:=ok.gd hd (j:Int)
  exact⟨g1.trans (Ba8 ok.dv j hj).symm,fun h=>g2 (g1.1 h)⟩
 obtain⟨p1,p2⟩:=Cu6 s.ss
 unfold Af9
 rcases Ar2 s.d s.d.c.B with⟨h1,h2,h3⟩|⟨⟨a,a1,a2,a3⟩,⟨b,b1,b2,b3⟩,h3⟩
 ·cases hb:(bsp s.ss).1 with
  |false=>
   obtain⟨q1,q2,-⟩:=p1 hb
   omega
  |true=>
   obtain⟨⟨i,i1,i2,-⟩,-,-⟩:=p2 hb
   have h4:=(hg i (by omega)).1.1 i2
   rw[h3 i (by omega)]at h4;cases h4
 ·cases hb:(bsp s.ss).1 with
  |false=>
   have h4:=(p1 hb).2.2 a (by omega)
   rw[(hg a a1).1.2 a2]at h4;cases h4
  |true=>
   obtain⟨⟨i,i1,i2,i3⟩,⟨j,j1,j2,j3⟩,h4⟩:=p2 hb
   have x1:=h4 a (by omega) ((hg a a1).1.2 a2)
   have x2:=h4 b (by omega) ((hg b b1).1.2 b2)
   have x3:=h3 i (by omega) ((hg i (by omega)).1.1 i2)
   have x4:=h3 j (by omega) ((hg j (by omega)).1.1 j2)
   have y1:=(hg a a1).2 ((hg a a1).1.2 a2)
   have y2:=(hg b b1).2 ((hg b b1).1.2 b2)
   have y3:=(hg i (by omega)).2 i2
   have y4:=(hg j (by omega)).2 j2
   omega
theorem Da0{c:Cfg}(hc:Cw1 c):DI (fresh c) [] 0/\TN (fresh c) 0:=by
 have hP:=hc.p
 have hat: ∀x k,H7 (fresh c) x=some k->k=⟨List.replicate c.P (blk c.S),0,0,false⟩:=fun x k h=>by
  obtain⟨h0,hi,e⟩:=Ai6 h
  have hm:k∈(fresh c).bs:=by rw[<-e];exact List.getElem_mem hi
  exact List.eq_of_mem_replicate hm
 have hcost: ∀x,K2 (fresh c) x->O5 (fresh c) [] x=0:=fun x ⟨k,hk,_⟩=>by
  rw[Ac6 hk,hat x k hk];rfl
 refine⟨⟨by simp,fun x _=>?_,.nil,by simp[fs],Int.le_refl 0,⟨by simp[fs],fun f g hf _ hg _=>?_,by simp[fs]⟩⟩,show((0:Nat):Int)+1<=0+1 by decide⟩
 ·unfold T5
  cases hk:H7 (fresh c) x with
  |none=>rfl
  |some k=>
   rw[hat x k hk]
   show S9 _=none
   unfold S9
   rw[if_neg (show¬(false=true) by decide)]
   simp only
   rw[List.getD_eq_getElem?_getD,List.getElem?_replicate,if_pos (by omega)]
   exact A89 _
 ·rw[show fs ([]:List (Int×Int))=[]from rfl,hcost f hf,hcost g hg];decide
theorem WR.armed{s:Sto}{k:Int}(h:WR s k)(n keep:Int):WR (s.dev (arm s.d n keep)) k:=by
 unfold arm
 split
 ·exact h
 ·rename_i hdn
  have e: ∀x,H7 {s.d with after:=n.toNat,keep:=keep} x=H7 s.d x:=fun x=>rfl
  refine⟨fun hd=>?_,fun hd=>?_⟩
  ·have w:=h.1 hd
   exact⟨w.di.congr rfl,w.ep,fun x hx=>w.dr x ((As2 (e x)).1 hx),w.tn⟩
  ·obtain⟨⟨us,w1⟩,w2,w3⟩:=h.2 hd
   exact⟨⟨us,w1.congr rfl⟩,w2.congr rfl,w3⟩
theorem WR.restarted{s:Sto}{k:Int}(h:WR s k):(∃us,DI (Aa4 s.d) us (k+1))/\TN (Aa4 s.d) (k+1):=by
 cases hd:s.down with
 |false=>
  have w:=h.1 hd
  refine⟨⟨s.ue,(w.di.mono (by omega)).congr rfl⟩,?_⟩
  have:=w.tn
  unfold TN at*
  show(s.d.torn.length:Int)+1<=_
  split at this<;>omega
 |true=>
  obtain⟨⟨us,w1⟩,w2,w3⟩:=h.2 hd
  refine⟨⟨us,w1.congr rfl⟩,?_⟩
  unfold TN at*
  show(s.d.torn.length:Int)+1<=_
  split at w3<;>omega
def B78(x:B39):List Value:=[.i x.1,.string x.2.1,.slice x.2.2.1.1.a x.2.2.1.1.len x.2.2.1.1.cap,.i x.2.2.2.1,.i x.2.2.2.2.1]
theorem B77(x:B39):(B78 x).length=5:=rfl
structure A07(L:A4)(v:SlV)(l:List B39):Prop where
 sl:Sl L v 5 (l.flatMap B78)
 val: ∀x∈l,BSl L x.2.2.1.1 x.2.2.1.2
 rng: ∀x∈l,x.2.2.2.1<=9223372036854775807
theorem A07.mono{L R:A4}{v:SlV}{l:List B39}(h:A07 L v l)(hs: ∀p∈L,p∈R):A07 R v l:=⟨h.sl.mono hs,fun x hx=>Sl.mono (h.val x hx) hs,h.rng⟩
theorem A07.len{L:A4}{v:SlV}{l:List B39}(h:A07 L v l):v.len=l.length:=h.sl.els_len B77 (by decide)
def fewD(l:List B39)(most bytes:Int):Prop:=l.length<=most/\ ∀x∈l,x.2.1.size<=bytes/\x.2.2.1.2.length<=bytes
theorem few_cl(L:A4)(v:SlV)(l:List B39)(h:A07 L v l)(most bytes:Int)(hm:most<=1000):
  CallF PP 9 #[.slice v.a v.len v.cap,.i most,.i bytes] L fun r L'=>L'=L/\ ∃b:Bool,r= .bool b/\(b=true->fewD l most bytes):=by
 refine c9 v most bytes ?_
 unfold s9
 have hlen:=h.len
 refine U0 (fun _ L'=>L'=L/\ ∃i:Nat,i<=l.length/\((i:Int)<l.length->(i:Int)>most)/\ ∀x∈l.take i,x.2.1.size<=bytes/\x.2.2.1.2.length<=bytes) ?_ ?_
 ·rintro _ _ ⟨rfl,i,hi,h1,h2⟩
  refine .of ⟨rfl,decide ((v.len:Int)<=most),rfl,fun hb=>?_⟩
  have hb:=of_decide_eq_true hb
  have:i=l.length:=by omega
  rw[this,List.take_length]at h2
  exact⟨by omega,h2⟩
 ·intro j1 hj1
  refine G3 (fun z' z L'=> ∃i:Nat,z=((i:Int),())/\z'=l.length-i/\i<=l.length/\L'=L/\ ∀x∈l.take i,x.2.1.size<=bytes/\x.2.2.1.2.length<=bytes) l.length ⟨0,rfl,rfl,by omega,rfl,by simp⟩ ?_
  rintro z' z L1 ⟨i,rfl,rfl,hi,hL1,hx⟩
  rw[hL1]
  dsimp only
  refine U0 (fun _ L'=>L'=L/\i<l.length/\(i:Int)<=most) ?_ ?_
  ·rintro _ _ ⟨rfl,hi',him⟩
   have hm':l[i]∈l:=List.getElem_mem hi'
   have hval:=h.val l[i] hm'
   have htk:l.take (i+1)=l.take i++[l[i]]:=List.take_succ_eq_append_getElem hi'
   refine V1 B77 (by decide) h.sl rfl hi' fun a ha=>?_
   generalize l[i]=y at ha hval htk
   refine A6 y.2.1 (ha.one 1 rfl) (B8 (fun _=>.of ⟨rfl,false,rfl,fun hb=>by cases hb⟩) fun hk=>?_)
   refine A6 y.2.2.1.1 (ha.one 2 rfl) (B8 (fun _=>.of ⟨rfl,false,rfl,fun hb=>by cases hb⟩) fun hv=>?_)
   have hvl:=hval.len
   refine D9 (by omega) ⟨l.length-(i+1),by omega,i+1,rfl,rfl,by omega,rfl,?_⟩
   rw[htk]
   intro q hq
   rcases List.mem_append.1 hq with hq|hq
   ·exact hx q hq
   ·rw[List.mem_singleton.1 hq];exact⟨by omega,by omega⟩
  ·intro j2 hj2
   refine B8 (fun(hlt:(i:Int)<v.len)=>?_) (fun(hge: ¬(i:Int)<v.len)=>hj1 _ _ ⟨rfl,i,hi,fun hq=>by omega,hx⟩)
   exact B8 (fun(hle:(i:Int)<=most)=>hj2 _ _ ⟨rfl,by omega,hle⟩) (fun(hgt: ¬(i:Int)<=most)=>hj1 _ _ ⟨rfl,i,hi,fun _=>by omega,hx⟩)
def sAct(x:A06)(s:Sto)(a:B39)(now:Int):Sto:=
 if a.1=0 then(s.put a.2.1 a.2.2.1.2).1 else if a.1=1 then(s.get a.2.1).1 else if a.1=2 then(s.delete a.2.1).1 else if a.1=3 then s.flush.1 else if a.1=4 then s.tick now else
 if a.1=5 then s.dev (arm s.d a.2.2.2.1 a.2.2.2.2.1)else if a.1=6 then(An3 x (Aa4 s.d) now).1.getD s else s
structure Live(x:A06)(p:SP)(s:Sto)(g:SG)(M:Nat)(k:Int):Prop where
 X:SX p s g
 iv:K8 s M
 wr:WR s k
 cfg:Bq4 x s.d
 sc:s.sc=A19 x s.d
abbrev scV(x:A06):Value:=.agg #[.i x.1,.i x.2.1,.i x.2.2.1,.i x.2.2.2.1,.i x.2.2.2.2.1,.i x.2.2.2.2.2.1,.i x.2.2.2.2.2.2.1,.i x.2.2.2.2.2.2.2.1,.i x.2.2.2.2.2.2.2.2.1,.i x.2.2.2.2.2.2.2.2.2.1,.i x.2.2.2.2.2.2.2.2.2.2.1]
theorem C07{x:A06}{d d':Dev}(h:Bq4 x d)(e:d'.c=d.c):Bq4 x d':=by unfold Bq4 at*;rw[e];exact h
theorem scOf_c(x:A06){d d':Dev}(e:d'.c=d.c):A19 x d'=A19 x d:=by unfold A19;rw[e]
theorem arm_c(d:Dev)(n k:Int):(arm d n k).c=d.c/\(arm d n k).bs=d.bs/\(arm d n k).down=d.down/\(arm d n k).torn=d.torn/\(arm d n k).bytes=d.bytes:=by unfold arm;split<;>exact⟨rfl,rfl,rfl,rfl,rfl⟩
theorem K8.armed{s:Sto}{M:Nat}(h:K8 s M){n:Int}(hn:n<=9223372036854775807)(k:Int):K8 (s.dev (arm s.d n k)) M:=by
 obtain⟨e1,e2,e3,e4,-⟩:=arm_c s.d n k
 have ok:=h.ok
 refine⟨{ok with dv:=arm_ok ok.dv hn,dn:=?_,few:=?_,cfg:=?_,ssl:=?_,ssd:=?_},h.q⟩
 ·exact ok.dn.trans e3.symm
 ·show(arm s.d n k).torn.length+(if(arm s.d n k).down=true then 0 else 1)<=1000
  rw[e3,e4];exact ok.few
 ·exact e1.trans ok.cfg
 ·show s.ss.length=(arm s.d n k).bs.length
  rw[e2];exact ok.ssl
 ·show s.down=false-> ∀(i:Nat) b,(arm s.d n k).bs[i]?=some b->_
  rw[e2];exact ok.ssd
def SLr(p:SP)(s:Sto)(g:SG):A4:=stO p s g::(kO p s::(mO p g::(gO p g::(g.Ab++(rns g.ns++(rns g.on.toList++(g.pseg++(g.Aq++g.Ai))))))))
theorem By4(p:SP)(s:Sto)(g:SG)(R:A4):(SL p s g++R).Perm (g.Ad++(SLr p s g++R)):=by unfold SL SLr;exact pc fun z=>by simp only[B6,C5];omega
theorem C45{x:A06}{p:SP}{s:Sto}{g:SG}{M:Nat}{k:Int}(h:Live x p s g M k)(hM:M<=800000000)(hk:k<=900)(R:A4)(hT:Tab R)(a:B39)(hu:BSl R a.2.2.1.1 a.2.2.1.2)(hn:a.2.2.2.1<=9223372036854775807)(now:Int):
  CallF PP 11 #[scV x,.pointer (some ⟨p.n,0,none⟩),.pointer (some ⟨p.m,0,none⟩),.agg #[.i a.1,.string a.2.1,.slice a.2.2.1.1.a a.2.2.1.1.len a.2.2.1.1.cap,.i a.2.2.2.1,.i a.2.2.2.2.1],.i now] (SL p s g++R)
  fun r L'=> ∃p' g' J,r= .pointer (some ⟨p'.n,0,none⟩)/\p'.m=p.m/\L'.Perm (SL p' (sAct x s a now) g'++(R++J))/\Live x p' (sAct x s a now) g' (M+100000) (k+if a.1=6 then 1 else 0):=by
 refine c11 x (some ⟨p.n,0,none⟩) (some ⟨p.m,0,none⟩) (a.1,a.2.1,a.2.2.1.1,a.2.2.2.1,a.2.2.2.2.1,()) now ?_
 unfold s11
 have mk: ∀{s':Sto} {g':SG},SX p s' g'->K8 s' (M+100000)->WR s' k->s'.sc=s.sc->Live x p s' g' (M+100000) k:=fun X' i w e=>by
  have hc:=X'.cfg.trans ((congrArg SC.c e).trans h.X.cfg.symm)
  exact⟨X',i,w,C07 h.cfg hc,by rw[e,h.sc,scOf_c x hc]⟩
 unfold sAct
 refine B8 (fun(h0:a.1=0)=>?_) (fun(h0: ¬a.1=0)=>?_)
 ·rw[if_pos h0,if_neg (show¬a.1=6 by omega),Int.add_zero]
  refine Ap5 (At4 p s g h.X h.iv (by omega) R hT a.2.1 a.2.2.1.1 a.2.2.1.2 hu) (List.Perm.refl _) ?_
  rintro _ _ ⟨g2,rfl,X2,rfl⟩
  have i2:=h.iv.put a.2.1 a.2.2.1.2
  exact⟨((s.put a.2.1 a.2.2.1.2).2,()),rfl,.of ⟨p,g2,[],rfl,rfl,by simp,mk X2 i2.1 (h.wr.put h.iv _ _) i2.2⟩⟩
 rw[if_neg h0]
 refine B8 (fun(h1:a.1=1)=>?_) (fun(h1: ¬a.1=1)=>?_)
 ·rw[if_pos h1,if_neg (show¬a.1=6 by omega),Int.add_zero]
  refine G2 (Bm2 p s g h.X h.iv.ok a.2.1) (R:=R) (List.Perm.refl _) ?_
  rintro _ _ ⟨g2,u,sg,rfl,X2,-,rfl⟩
  have i2:=h.iv.get a.2.1
  exact⟨_,List.Perm.refl _,(u,(s.get a.2.1).2.2,()),rfl,.of ⟨p,g2,sg,rfl,rfl,pc fun z=>by simp only[B6,D8];omega,mk X2 (i2.1.upto (by omega)) (h.wr.get _) i2.2⟩⟩
 rw[if_neg h1]
 refine B8 (fun(h2:a.1=2)=>?_) (fun(h2: ¬a.1=2)=>?_)
 ·rw[if_pos h2,if_neg (show¬a.1=6 by omega),Int.add_zero]
  refine G2 (A17 p s g h.X h.iv.ok (by omega) a.2.1) (R:=R) (List.Perm.refl _) ?_
  rintro _ _ ⟨g2,rfl,X2,rfl⟩
  have i2:=h.iv.delete a.2.1
  exact⟨_,List.Perm.refl _,((s.delete a.2.1).2.1,(s.delete a.2.1).2.2,()),rfl,.of ⟨p,g2,[],rfl,rfl,pc fun z=>by simp only[B6,D8];omega,mk X2 (i2.1.upto (by omega)) (h.wr.delete _) i2.2⟩⟩
 rw[if_neg h2]
 refine B8 (fun(h3:a.1=3)=>?_) (fun(h3: ¬a.1=3)=>?_)
 ·rw[if_pos h3,if_neg (show¬a.1=6 by omega),Int.add_zero]
  refine Ap5 (Bd0 p s g h.X h.iv.ok (by omega) R hT) (List.Perm.refl _) ?_
  rintro _ _ ⟨g2,rfl,X2,rfl⟩
  have i2:=h.iv.flush
  exact⟨(s.flush.2,()),rfl,.of ⟨p,g2,[],rfl,rfl,by simp,mk X2 (i2.1.upto (by omega)) (h.wr.flush h.iv) i2.2⟩⟩
 rw[if_neg h3]
 refine B8 (fun(h4:a.1=4)=>?_) (fun(h4: ¬a.1=4)=>?_)
 ·rw[if_pos h4,if_neg (show¬a.1=6 by omega),Int.add_zero]
  refine G2 (Br6 p s g h.X h.iv.ok.bk now) (R:=R) (List.Perm.refl _) ?_
  rintro _ _ ⟨g2,rfl,X2,rfl⟩
  have i2:=h.iv.tick now
  exact⟨_,List.Perm.refl _,(),rfl,.of ⟨p,g2,[],rfl,rfl,pc fun z=>by simp only[B6,D8];omega,mk X2 (i2.1.upto (by omega)) (h.wr.tick _) i2.2⟩⟩
 rw[if_neg h4]
 refine B8 (fun(h5:a.1=5)=>?_) (fun(h5: ¬a.1=5)=>?_)
 ·rw[if_pos h5,if_neg (show¬a.1=6 by omega),Int.add_zero]
  refine G2 (arm_cl p.m s.d g.Ad h.X.dev a.2.2.2.1 a.2.2.2.2.1) (R:=SLr p s g++R) (By4 p s g R) ?_
  rintro _ A' ⟨rfl,hA'⟩
  have X2:SX p (s.dev (arm s.d a.2.2.2.1 a.2.2.2.2.1)) {g with Ad:=A'}:=⟨(arm_c s.d _ _).1.trans h.X.cfg,hA',h.X.blk,h.X.que,h.X.gho,h.X.idx,h.X.mp,h.X.rs,h.X.op,h.X.ok,h.X.pd⟩
  exact⟨_,List.Perm.refl _,(),rfl,.of ⟨p,{g with Ad:=A'},[],rfl,rfl,by rw[List.append_nil];exact(By4 p (s.dev (arm s.d a.2.2.2.1 a.2.2.2.2.1)) {g with Ad:=A'} R).symm,mk X2 ((h.iv.armed hn _).upto (by omega)) (h.wr.armed _ _) rfl⟩⟩
 rw[if_neg h5]
 refine B8 (fun(h6:a.1=6)=>?_) (fun(h6: ¬a.1=6)=>?_)
 ·rw[if_pos h6,if_pos h6]
  refine G2 (B04 p.m s.d g.Ad h.X.dev) (R:=SLr p s g++R) (By4 p s g R) ?_
  rintro _ A' ⟨rfl,hA'⟩
  refine⟨_,List.Perm.refl _,(),rfl,?_⟩
  have okr:=B03 h.iv.ok.dv
  obtain⟨⟨us,w1⟩,w2⟩:=h.wr.restarted
  have hc:Bq4 x (Aa4 s.d):=C07 h.cfg rfl
  obtain⟨s2,e1,e2,e3,e4,e5,-⟩:=Cy4 w1 okr rfl w2 hc now
  have hfew:(Aa4 s.d).torn.length<=999:=by
   unfold TN at w2
   rw[show(Aa4 s.d).down=false from rfl,if_neg (by decide)]at w2
   omega
  refine G2 (A54 p.m (Aa4 s.d) A' hA' okr hfew x now) (R:=SLr p s g++R) (List.Perm.refl _) ?_
  rintro _ _ (⟨e,he,hne,-,-⟩|⟨s3,p3,g3,he,rfl,hm,rfl,X3,I3⟩)
  ·rw[e1]at he
   exact absurd (congrArg Prod.snd he).symm hne
  ·rw[e1]at he
   obtain rfl:s2=s3:=Option.some.inj (congrArg Prod.fst he)
   rw[e1]
   refine⟨_,List.Perm.refl _,(some ⟨p3.n,0,none⟩,0,()),rfl,ifP rfl (.of ⟨p3,g3,SLr p s g,rfl,hm,pc fun z=>by simp only[B6,Option.getD_some];omega,X3,?_,e2.wr,?_,?_⟩)⟩
   ·exact I3.upto (by have:=A78 okr;omega)
   ·show Bq4 x s2.d
    rw[e5];exact hc
   ·show s2.sc=A19 x s2.d
    rw[e3,e5]
 rw[if_neg h6,if_neg h6,Int.add_zero]
 refine G2 (Cm5 p s g h.X h.iv.ok a.2.1) (R:=R) (List.Perm.refl _) ?_
 rintro _ _ ⟨u,sg,rfl,-,rfl⟩
 exact⟨_,List.Perm.refl _,(u,(s.peek a.2.1).2,()),rfl,.of ⟨p,g,sg,rfl,rfl,pc fun z=>by simp only[B6];omega,mk h.X (h.iv.upto (by omega)) h.wr rfl⟩⟩
theorem C32(x:A06):CallF PP 8 #[scV x] [] fun r L'=>(∃J,r= .tuple #[.pointer none,.pointer none]/\L'=J)\/(∃p s g J,r= .tuple #[.pointer (some ⟨p.n,0,none⟩),.pointer (some ⟨p.m,0,none⟩)]/\L'.Perm (SL p s g++J)/\Live x p s g 4096 0/\s.down=false/\s.bk=Ah7 x.2.2.2.2.2.2.2.2.1 x.2.2.2.2.2.2.2.2.2.1 0 0/\s.d.bytes=0/\(s.d.c.B:Int)=x.1):=by
 refine c8 x ?_
 unfold s8
 refine Ap5 (Cy6 (x.1,x.2.1,x.2.2.1,x.2.2.2.1,())) (List.Perm.refl _) ?_
 rintro _ A0 (⟨-,rfl,rfl⟩|⟨hr,m,rfl,hA0⟩)
 ·exact⟨(none,30,()),rfl,ifN (by decide) (.of (.inl ⟨[],rfl,rfl⟩))⟩
 refine⟨(some ⟨m,0,none⟩,0,()),rfl,ifP rfl ?_⟩
 have hcok:=Ch9 hr
 have okD:=Bv7 hcok
 obtain⟨w1,w2⟩:=Da0 hcok
 refine Ap5 (A54 m _ A0 hA0 okD (by show(0:Nat)<=999;decide) x 0) (List.Perm.refl _) ?_
 rintro _ _ (⟨e,he,hne,rfl,rfl⟩|⟨s3,p3,g3,he,rfl,hm,rfl,X3,I3⟩)
 ·exact⟨(none,e,()),rfl,ifN hne (.of (.inl ⟨_,rfl,rfl⟩))⟩
 ·have hc:Bq4 x (fresh (cfg (x.1,x.2.1,x.2.2.1,x.2.2.2.1,()))):=Decidable.byContradiction fun hn=>by
   unfold An3 at he
   rw[if_neg hn]at he
   cases he
  obtain⟨s2,e1,e2,e3,e4,e5,e6⟩:=Cy4 w1 okD rfl w2 hc 0
  rw[e1]at he
  obtain rfl:s2=s3:=Option.some.inj (congrArg Prod.fst he)
  refine⟨(some ⟨p3.n,0,none⟩,0,()),rfl,ifP rfl (.of (.inr ⟨p3,s2,g3,[],?_,by simp,⟨X3,I3.upto (A78 okD),e2.wr,by rw[e5];exact hc,by rw[e3,e5]⟩,e4,e6,by rw[e5];rfl,by rw[e5];have:=hc.1;simp only[Prod.mk.injEq]at this;exact this.1⟩))⟩
  rw[hm]
theorem C21{d:Dev}(ok:Q2 d)(n:Nat): -1<=(wlS d n).1/\(wlS d n).1<=1048576/\ -1<=(wlS d n).2/\(wlS d n).2<=1048576:=by
 have hw: ∀j:Nat,0<=G4 d j/\G4 d j<=1048576:=fun j=>by
  unfold G4 H7
  rw[if_pos (by omega)]
  cases hk:d.bs[((j:Int)).toNat]? with
  |none=>simp
  |some k=>
   have h1:=ok.nx k (List.mem_of_getElem? hk)
   have h2:=ok.c.w
   simp only[Option.elim_some]
   omega
 rcases Ar2 d n with⟨h1,h2,-⟩|⟨⟨a,-,-,a3⟩,⟨b,-,-,b3⟩,-⟩
 ·omega
 ·have:=hw a
  have:=hw b
  omega
theorem A81(L:A4)(hT:Tab L)(c:A06)(v:SlV)(l:List B39)(h:A07 L v l):Reads PP 5 #[scV c,.slice v.a v.len v.cap] L (.bool true):=by
 unfold Reads
 refine c5 c v ?_
 unfold s5
 have fin: ∀{L2 J:A4},L2.Perm (L++J)->cl PP 10 #[] [.lf .bool] (fun r=>HL.Ends (fun v' L'=>v'= .bool true/\L'=L) (.bool r.1)) L2:=fun{L2 J} hp=>
  B7 (B60 L2 (hT.mono fun y hy=>hp.symm.subset (by simp[hy]))) (true,()) rfl (.drop (A:=L) (J:=J) ⟨rfl,rfl⟩ hp)
 have hvl:=h.len
 refine G2 (A:=[]) (R:=L) (C32 c) (List.Perm.refl _) ?_
 rintro _ J1 (⟨-,rfl,-⟩|⟨p,s,g,J0,rfl,hp0,hl0,-,-,-,hB⟩)
 ·refine⟨_,List.Perm.refl _,(none,none,()),rfl,?_⟩
  exact U0 (fun _ _=>False) (fun _ _ hf=>hf.elim) fun j hj=>ifT rfl (fin (J:=J1) List.perm_append_comm)
 refine⟨SL p s g++(L++J0),(hp0.append_right L).trans (pc fun z=>by simp only[B6];omega),(some ⟨p.n,0,none⟩,some ⟨p.m,0,none⟩,()),rfl,?_⟩
 have hh0:A07 (SL p s g++(L++J0)) v l:=h.mono fun y hy=>by simp[hy]
 refine U0 (fun _ L'=>L'=SL p s g++(L++J0)/\fewD l 150 700) ?_ ?_
 rotate_left
 ·intro j hj
  refine ifF rfl (R4 (few_cl _ v l hh0 150 700 (by decide)) ?_)
  rintro _ _-⟨rfl,b,rfl,hb⟩
  refine⟨(b,()),rfl,G0 (fun(e:b=true)=>hj _ _ ⟨rfl,hb e⟩) fun _=>fin (J:=SL p s g++J0) (pc fun z=>by simp only[B6];omega)⟩
 rintro _ _ ⟨rfl,hfew,-⟩
 obtain⟨m,hm⟩: ∃m,m=p.m:=⟨_,rfl⟩
 have hmm:=hm
 refine G3 (fun z' z L'=> ∃(i:Nat) (now k:Int) (p:SP) (s:Sto) (g:SG) (J:A4),z=(some ⟨p.n,0,none⟩,2+k,now,(i:Int),())/\z'=l.length-i/\i<=l.length/\L'.Perm (SL p s g++(L++J))/\p.m=m/\0<=k/\k<=i/\Live c p s g (4096+i*100000) k/\(s.d.c.B:Int)=c.1) l.length
  ⟨0,0,0,p,s,g,J0,rfl,rfl,by omega,List.Perm.refl _,hm.symm,by omega,by omega,by simpa using hl0,hB⟩ ?_
 rw[<-hm]
 clear hp0 hl0 hB hh0 hm hmm
 rintro z' z L1 ⟨i,now,k,p,s,g,J,rfl,rfl,hi,hp,hm,hk0,hki,hl,hB⟩
 dsimp only
 refine B8 (fun(hlt:(i:Int)<v.len)=>?_) (fun(hge: ¬(i:Int)<v.len)=>fin (J:=SL p s g++J) (hp.trans (pc fun z=>by simp only[B6];omega)))
 have hi':i<l.length:=by omega
 have hh1:A07 L1 v l:=h.mono fun y hy=>hp.symm.subset (by simp[hy])
 have hmem:=List.getElem_mem hi'
 obtain⟨y,hy⟩: ∃y,y=l[i]:=⟨_,rfl⟩
 have hat: ∀{K:Addr->HP},(∀a,D0 a (B78 y) L1->K a L1)->elp v.a v.len (i:Int) 5 K L1:=fun{K} hK=>V1 B77 (by decide) hh1.sl rfl hi' (by rw[<-hy];exact hK)
 rw[<-hy]at hmem
 have hu:=h.val y hmem
 have hn:=h.rng y hmem
 refine U0 (fun w L'=>L'=L1/\w=(2+(k+if y.1=6 then 1 else 0),())) ?_ ?_
 rotate_left
 ·intro j hj
  refine hat fun a ha=>?_
  refine A6 y.1 ha.hd (B8 (fun(h6:y.1=6)=>D9 (by omega) (hj _ _ ⟨rfl,?_⟩)) fun(h6: ¬y.1=6)=>hj _ _ ⟨rfl,?_⟩)
  ·rw[if_pos h6,Int.add_assoc]
  ·rw[if_neg h6,Int.add_zero]
 rintro _ L' ⟨hLe,rfl⟩
 rw[hLe]
 clear hLe
 refine U0 (fun w L'=>L'=L1) ?_ ?_
 rotate_left
 ·intro j hj
  refine hat fun a ha=>?_
  exact A6 y.1 ha.hd (B8 (fun _=>A6 y.2.2.2.1 (ha.one 3 rfl) (hj _ _ rfl)) fun _=>hj _ _ rfl)
 rintro⟨now2,_⟩ L' hLe
 rw[hLe]
 clear hLe
 refine hat fun a ha=>?_
 refine A6 (y.1,y.2.1,y.2.2.1.1,y.2.2.2.1,y.2.2.2.2.1,()) ha ?_
 dsimp only
 have hact:=C45 hl (by omega) (by omega) (L++J) (hT.mono fun q hq=>by simp[hq]) y (hu.mono fun q hq=>by simp[hq]) hn now2
 rw[hm]at hact
 refine Ap5 hact hp ?_
 rintro _ L2 ⟨p2,g2,J2,rfl,hm2,hp2,hl2⟩
 refine⟨(some ⟨p2.n,0,none⟩,()),rfl,ifF rfl ?_⟩
 obtain⟨s2,hs2⟩: ∃s2,s2=sAct c s y now2:=⟨_,rfl⟩
 rw[<-hs2]at hp2 hl2
 obtain⟨k2,hk2⟩: ∃k2,k2=k+if y.1=6 then 1 else 0:=⟨_,rfl⟩
 rw[<-hk2]at hl2⊢
 have hk2r:0<=k2/\k2<=i+1:=by rw[hk2];split<;>omega
 have ok2:=hl2.iv.ok
 have hB2:(s2.d.c.B:Int)=c.1:=by
  have h1:=hl2.cfg.1
  simp only[Prod.mk.injEq]at h1
  exact h1.1
 have hhas:Has L2 g2.Ad:=⟨SLr p2 s2 g2++(L++J++J2),hp2.trans (By4 p2 s2 g2 _)⟩
 have hdev:FH m s2.d g2.Ad:=by rw[<-hm2];exact hl2.X.dev
 have hwear: ∀b:Int,Reads PP 16 #[.pointer (some ⟨m,0,none⟩),.i b] L2 (.i (G4 s2.d b)):=fun b=>Reads.has hhas (B47 m s2.d g2.Ad hdev ok2.dv b)
 refine G3 (fun z' z L'=> ∃b:Nat,z=((wlS s2.d b).1,(wlS s2.d b).2,(b:Int),())/\z'=s2.d.c.B-b/\b<=s2.d.c.B/\L'=L2) s2.d.c.B ⟨0,rfl,rfl,by omega,rfl⟩ ?_
 rintro z' z L3 ⟨b,rfl,rfl,hb,hL3⟩
 rw[hL3]
 have hBr:=ok2.dv.c.b
 dsimp only
 refine B8 (fun(hlt2:(b:Int)<c.1)=>?_) (fun(hge2: ¬(b:Int)<c.1)=>?_)
 ·refine B7 (Reads.has hhas (Cj0 m s2.d g2.Ad hdev ok2.dv b)) (Y6 s2.d b,()) rfl ?_
  have hstep:wlS s2.d (b+1)=if Y6 s2.d b=true then wlS s2.d b else(if(wlS s2.d b).1<0\/G4 s2.d b<(wlS s2.d b).1 then G4 s2.d b else(wlS s2.d b).1,S7 (wlS s2.d b).2 (G4 s2.d b)):=rfl
  refine G0 (fun(hbad:Y6 s2.d b=true)=>?_) (fun(hbad:Y6 s2.d b=false)=>?_)
  ·exact D9 (by omega) ⟨s2.d.c.B-(b+1),by omega,b+1,by rw[hstep,if_pos hbad];rfl,rfl,by omega,rfl⟩
  ·rw[if_neg (by rw[hbad];decide)]at hstep
   refine U0 (fun w L'=>L'=L2/\w=((if(wlS s2.d b).1<0\/G4 s2.d b<(wlS s2.d b).1 then G4 s2.d b else(wlS s2.d b).1),())) ?_ ?_
   ·rintro _ _ ⟨rfl,rfl⟩
    exact B7 (hwear b) (G4 s2.d b,()) rfl (D9 (by omega) ⟨s2.d.c.B-(b+1),by omega,b+1,by rw[hstep];rfl,rfl,by omega,rfl⟩)
   ·intro j hj
    refine B8 (fun(hc:(wlS s2.d b).1<0)=>B7 (hwear b) (G4 s2.d b,()) rfl (hj _ _ ⟨rfl,by rw[if_pos (.inl hc)]⟩)) fun(hc: ¬(wlS s2.d b).1<0)=>?_
    refine B7 (hwear b) (G4 s2.d b,()) rfl (B8 (fun(hc2:G4 s2.d b<(wlS s2.d b).1)=>B7 (hwear b) (G4 s2.d b,()) rfl (hj _ _ ⟨rfl,by rw[if_pos (.inr hc2)]⟩)) fun(hc2: ¬G4 s2.d b<(wlS s2.d b).1)=>hj _ _ ⟨rfl,by rw[if_neg (by rintro(q|q)<;>contradiction)]⟩)
 ·have hbB:b=s2.d.c.B:=by omega
  have hr:=C21 ok2.dv b
  have hsp:SPd s2.d (2+k2):=by
   cases hd:s2.down with
   |false=>exact(hl2.wr.1 hd).di.sp
   |true=>exact(hl2.wr.2 hd).2.1
  have hdiff:=B48 ok2.dv hsp (by omega)
  rw[<-hbB]at hdiff
  refine D9 (by omega) (ifN (show¬((wlS s2.d b).2-(wlS s2.d b).1>2+k2) by omega) ?_)
  refine B7 (Reads.has hhas (Bp9 m s2.d g2.Ad hdev)) (s2.d.down,()) rfl ?_
  have hnext: ∃k',k'<l.length-i/\ ∃(i':Nat) (now k:Int) (p:SP) (s:Sto) (g:SG) (J:A4),((some ⟨p2.n,0,none⟩,2+k2,now2,(i:Int)+1,()):RsV [.lf .ptr,lI,lI,lI])=(some ⟨p.n,0,none⟩,2+k,now,(i':Int),())/\k'=l.length-i'/\i'<=l.length/\L2.Perm (SL p s g++(L++J))/\p.m=m/\0<=k/\k<=i'/\Live c p s g (4096+i'*100000) k/\(s.d.c.B:Int)=c.1:=
   ⟨l.length-(i+1),by omega,i+1,now2,k2,p2,s2,g2,J++J2,rfl,rfl,by omega,hp2.trans (pc fun z=>by simp only[B6];omega),hm2,hk2r.1,by omega,by rw[show 4096+(i+1)*100000=4096+i*100000+100000 by omega];exact hl2,hB2⟩
  refine G0 (fun(hdn:s2.d.down=true)=>D9 (by omega) hnext) (fun(hdn:s2.d.down=false)=>?_)
  have hd2:s2.down=false:=by rw[ok2.dn];exact hdn
  refine B7 (Reads.has ⟨_,hp2⟩ (Bz4 hl2.X)) (Af9 s2.ss,()) (by rw[if_neg (by rw[hd2];decide)];rfl) ?_
  have hsprd:=Bl4 ok2 hd2
  rw[<-hbB]at hsprd
  exact D9 (by omega) (ifP hsprd.symm (D9 (by omega) hnext))
abbrev saWf(W:World)(x:B39):Prop:=P9 .i64 x.1/\x.2.1.size<=maxLen/\C13 W (fun b=>[bv b]) (fun _=>True) 1 x.2.2.1/\P9 .i64 x.2.2.2.1/\P9 .i64 x.2.2.2.2.1/\True
theorem Cn4{W:World}{a:SlV}{l:List B39}(w:C13 W B78 (saWf W) 5 (a,l)):A07 (B37 W) a l:=⟨w.sl,fun x hx=>(w.all x hx).2.2.1.bytes,fun x hx=>(Bb9 (w.all x hx).2.2.2.1).2⟩
abbrev RCfg:=(Int×Int×Int×Int×Unit)×Int×Int×Int×Int×Int×Int×Int×Unit
def scR(a0:RCfg):A06:=(a0.1.1,a0.1.2.1,a0.1.2.2.1,a0.1.2.2.2.1,a0.2.1,a0.2.2.1,a0.2.2.2.1,a0.2.2.2.2.1,a0.2.2.2.2.2.1,a0.2.2.2.2.2.2.1,a0.2.2.2.2.2.2.2.1,())
abbrev scWf(a0:RCfg):Prop:=(P9 .i64 a0.1.1/\P9 .i64 a0.1.2.1/\P9 .i64 a0.1.2.2.1/\P9 .i64 a0.1.2.2.2.1/\True)/\P9 .i64 a0.2.1/\P9 .i64 a0.2.2.1/\P9 .i64 a0.2.2.2.1/\P9 .i64 a0.2.2.2.2.1/\P9 .i64 a0.2.2.2.2.2.1/\P9 .i64 a0.2.2.2.2.2.2.1/\P9 .i64 a0.2.2.2.2.2.2.2.1/\True
theorem Cn5(W:World)(hT:Tab (B37 W))(a0:RCfg)(w0:scWf a0)(a1:SlV)(l1:List B39)(w1:C13 W B78 (saWf W) 5 (a1,l1)):
  Reads PP 5 #[.agg #[.i a0.1.1,.i a0.1.2.1,.i a0.1.2.2.1,.i a0.1.2.2.2.1,.i a0.2.1,.i a0.2.2.1,.i a0.2.2.2.1,.i a0.2.2.2.2.1,.i a0.2.2.2.2.2.1,.i a0.2.2.2.2.2.2.1,.i a0.2.2.2.2.2.2.2.1],.slice a1.a a1.len a1.cap] (B37 W) (.bool true):=
 A81 _ hT (scR a0) a1 l1 (Cn4 w1)
end Go.Proofs.YtbaoieipijmakaaGreatDoor
