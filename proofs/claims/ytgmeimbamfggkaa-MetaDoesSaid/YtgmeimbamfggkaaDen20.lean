import Derived.Test.YtgmeimbamfggkaaDen19
namespace Go.Proofs.Ytgmeimbamfggkaa.Den
open Go
def akR (k:NK) (v:TV):List Nat :=
 match k,v with
 | .own _,.sl _ (.own p) _ _=>[p]
 | .ownN _,.sl _ (.own p) _ _=>[p]
 | _,_=>[]
def src : List (NK×TV)→Nat→Option Nat
 | [],_=>none
 | (k,v) :: r,q=>if q∈nkQ k then (akR k v).head? else src r q
theorem aJc {k:NK} {p q:Nat} (h1:p∈nkQ k) (h2:q∈nkQ k):p=q:=by
 cases k <;> simp [nkQ] at h1 h2 <;> omega
theorem apart_spec : ∀ {l:List Nat},apart l=true→l.Nodup
 | [],_=>.nil
 | q :: r,h=>by
   simp only [apart,Bool.and_eq_true,Bool.not_eq_true'] at h
   refine .cons (fun a ha e=>?_) (apart_spec h.2)
   subst e
   have:r.any (Nat.beq q)=true:=List.any_eq_true.2 ⟨q,ha,by rw [Nat.beq_eq]⟩
   rw [h.1] at this; cases this
theorem axd : ∀ {C:List (NK×TV)} {q p:Nat},src C q=some p→p∈C.flatMap fun x=>akR x.1 x.2
 | [],_,_,h=>by cases h
 | (k,v) :: r,q,p,h=>by
   unfold src at h
   split at h
   · exact List.mem_flatMap.2 ⟨(k,v),List.mem_cons_self ..,List.mem_of_mem_head? h⟩
   · exact List.mem_flatMap.2 (by obtain ⟨x,hx,hp⟩:=List.mem_flatMap.1 (axd h); exact ⟨x,List.mem_cons_of_mem _ hx,hp⟩)
theorem aDL : ∀ {C:List (NK×TV)} {q q2 p:Nat},(C.flatMap fun x=>akR x.1 x.2).Nodup→src C q=some p→src C q2=some p→q=q2
 | [],_,_,_,_,h,_=>by cases h
 | (k,v) :: r,q,q2,p,hn,h1,h2=>by
   rw [List.flatMap_cons] at hn
   obtain ⟨_,hr,hd⟩:=List.nodup_append.1 hn
   unfold src at h1 h2
   split at h1 <;> split at h2
   · rename_i a b; exact aJc a b
   · exact absurd rfl (hd p (List.mem_of_mem_head? h1) p (axd h2))
   · exact absurd rfl (hd p (List.mem_of_mem_head? h2) p (axd h1))
   · exact aDL hr h1 h2
theorem aG3 : ∀ {C:List (NK×TV)} {k:NK} {v:TV} {q:Nat},(C.flatMap fun x=>nkQ x.1).Nodup→(k,v)∈C→q∈nkQ k→src C q=(akR k v).head?
 | [],_,_,_,_,h,_=>by simp at h
 | (k',v') :: r,k,v,q,hn,h,hq=>by
   rw [List.flatMap_cons] at hn
   obtain ⟨_,hr,hd⟩:=List.nodup_append.1 hn
   unfold src
   rcases List.mem_cons.1 h with h | h
   · injection h with e1 e2
     subst e1 e2
     rw [if_pos hq]
   · split
     · rename_i hq'
       exact absurd rfl (hd q hq' q (List.mem_flatMap.2 ⟨(k,v),h,hq⟩))
     · exact aG3 hr h hq
def Low (S S1:List Obj):Prop:=∀ (i:Nat) cs1,S1[i]?=some cs1→∃ cs,S[i]?=some cs∧evo cs cs1
mutual
theorem aDN {w:World} {M:Mem} {θ:Nat→Option Nat} {O:Nat→Bool} {c:Nat} {S S1:List Obj} (hS:Low S S1):∀ (x:TV) (v:Value),tame S1.length x=true→aaI w S x v→tc w M θ O c x v∧aaI w S1 x v
 | .sl t (.own q) _ _,_,h,_=>by simp [tame] at h
 | .sl _ .sh _ _,_,_,_=>⟨trivial,trivial⟩
 | .sl _ .full _ _,_,_,_=>⟨trivial,trivial⟩
 | .ptr i _,_,h,_=>⟨trivial,by simpa [tame,aaI] using h⟩
 | .fn _ l,v,h,k=>⟨trivial,fun vs hv=>(asI (w:=w) (M:=M) (θ:=θ) (O:=O) (c:=c) hS l vs (by simpa [tame] using h) (k vs hv)).2⟩
 | .tup l,v,h,k=>⟨fun vs hv=>(asI hS l vs (by simpa [tame] using h) (k vs hv)).1,fun vs hv=>(asI (w:=w) (M:=M) (θ:=θ) (O:=O) (c:=c) hS l vs (by simpa [tame] using h) (k vs hv)).2⟩
 | .ag l,v,h,k=>⟨fun vs hv=>(asI hS l vs (by simpa [tame] using h) (k vs hv)).1,fun vs hv=>(asI (w:=w) (M:=M) (θ:=θ) (O:=O) (c:=c) hS l vs (by simpa [tame] using h) (k vs hv)).2⟩
 | .ref r i,v,h,k=>⟨trivial,by simpa [tame] using h,asz (Shp.refl _) (hS i) r v k.2⟩
 | .blk _,_,_,_=>⟨trivial,trivial⟩
 | .undef,_,_,_=>⟨trivial,trivial⟩
 | .skip,_,_,_=>⟨trivial,trivial⟩
 | .bool _,_,_,_=>⟨trivial,trivial⟩
 | .int _ _,_,_,_=>⟨trivial,trivial⟩
 | .str _,_,_,_=>⟨trivial,trivial⟩
 | .st _ _,_,_,_=>⟨trivial,trivial⟩
 | .ep _ _,_,_,_=>⟨trivial,trivial⟩
 | .nilp,_,_,_=>⟨trivial,trivial⟩
 | .nilfn,_,_,_=>⟨trivial,trivial⟩
theorem asI {w:World} {M:Mem} {θ:Nat→Option Nat} {O:Nat→Bool} {c:Nat} {S S1:List Obj} (hS:Low S S1):∀ (x:List TV) (v:List Value),tame.go S1.length x=true→abE w S x v→tcs w M θ O c x v∧abE w S1 x v
 | [],[],_,_=>⟨trivial,trivial⟩
 | [],_ :: _,_,_=>⟨trivial,trivial⟩
 | _ :: _,[],_,_=>⟨trivial,trivial⟩
 | x :: xs,v :: vs,h,k=>by
   simp only [tame.go,Bool.and_eq_true] at h
   obtain ⟨a1,a2⟩:=aDN hS x v h.1 k.1
   obtain ⟨b1,b2⟩:=asI hS xs vs h.2 k.2
   exact ⟨⟨a1,b1⟩,a2,b2⟩
end
section
variable {w0 : World} {M0:Mem} {X:Fr} {s s':St} {w:World} {M:Mem} {ι:Nat→Nat} {θ:Nat→Option Nat} {a:Act}
theorem aE5 {q sz:Nat} {t:Ty} {nl:Option Bool} {l:List t.D} {x:Value} (h:rv M ι (.sl t .full nl l) x):claim w M θ q sz x:=by
 obtain ⟨a,c,h1,_,_,_,_,_,h2⟩:=h
 intro a' n c' e
 rw [h1] at e
 injection e with e1 e2 e3
 exact .inr (.inl (by rw [← e2,← e3]; exact h2 rfl))
theorem aDr {θ':Nat→Option Nat} {O':Nat→Bool} {m c:Nat} {k:NK} {v v':TV} {ps:List Nat} {x:Value} {S0 S1:List Obj} (h:nkTV s m c k v=some (v',ps)) (h1:rv M ι v x) (h2:tc w M θ s.O s.c v x) (h3:aaI w S0 v x) (hm:m=S1.length) (hS:Low S0 S1)
 (hθ:∀ q∈nkQ k,θ' q=(akR k v).head?.bind θ) :
 rv M ι v' x∧tc w M θ' O' c v' x∧aaI w S1 v' x∧ps=akR k v∧(∀ p∈ps,s.O p=true)∧(∀ q∈nkQ k,q < c):=by
 have own:∀ q t f (nl:Option Bool) (l:List t.D),(∀ nl',(∀ b,nl'=some b→nl=some b)→rv M ι (.sl t (.own q) nl' l) x)∧(agy s f=true→tc w M θ s.O s.c (.sl t f nl l) x→rv M ι (.sl t f nl l) x →
  θ' q=(match f with | .own p=>[p] | _=>([]:List Nat)).head?.bind θ→claim w M θ' q t.size x)∨¬ rv M ι (.sl t f nl l) x:=by
  intro q t f nl l
  by_cases hr:rv M ι (.sl t f nl l) x
  · refine .inl ⟨fun nl' hnl=>?_,fun hm ht hr hq=>?_⟩
    · obtain ⟨a,c,h1,h2,h3,h4,h5,h6,h7⟩:=hr
      exact ⟨a,c,h1,h2,h3,h4,h5,fun b hb=>h6 b (hnl b hb),nofun⟩
    · cases f with
      | sh=>cases hm
      | full=>exact aE5 hr
      | own p =>
        have hp:s.O p=true:=hm
        have hc:=ht.2 hp
        intro a n cc e
        rcases hc a n cc e with h | h | ⟨g,e',cur,p0,k1,k2,k3,k4,k5⟩
        · exact .inl h
        · exact .inr (.inl h)
        · exact .inr (.inr ⟨g,e',cur,p0,k1,by rw [hq]; exact k2,k3,k4,k5⟩)
  · exact .inr hr
 unfold nkTV at h
 split at h
 · cases ht:tame m v with
   | false=>rw [ht] at h; cases h
   | true =>
     rw [ht] at h
     cases h
     obtain ⟨t1,t2⟩:=aDN (w:=w) (M:=M) (θ:=θ') (O:=O') (c:=c) hS v x (hm ▸ ht) h3
     refine ⟨h1,t1,t2,?_,(fun p hp=>by simp at hp),(fun q hq=>by simp [nkQ] at hq)⟩
     rfl
 · rename_i q t f nl l
   cases hb:(agy s f&&Nat.blt q c) with
   | false=>rw [hb] at h; cases h
   | true =>
     rw [hb] at h
     cases h
     rw [Bool.and_eq_true] at hb
     have hq:q < c:=by simpa using hb.2
     rcases own q t f nl l with ⟨o1,o2⟩ | o
     · refine ⟨o1 none (fun b hb=>by cases hb),⟨hq,fun _=>o2 hb.1 h2 h1 ?_⟩,trivial,?_,?_,(fun q' hq'=>by simp [nkQ] at hq'; omega)⟩
       · rw [hθ q (by simp [nkQ])]; cases f <;> rfl
       · cases f <;> rfl
       · cases f <;> intro p hp <;> simp at hp
         subst hp; exact hb.1
     · exact absurd h1 o
 · rename_i q t f nl l
   cases hb:(agy s f&&Nat.blt q c) with
   | false=>rw [hb] at h; cases h
   | true =>
     rw [hb] at h
     cases h
     rw [Bool.and_eq_true] at hb
     have hq:q < c:=by simpa using hb.2
     rcases own q t f nl l with ⟨o1,o2⟩ | o
     · refine ⟨o1 nl (fun b hb=>hb),⟨hq,fun _=>o2 hb.1 h2 h1 ?_⟩,trivial,?_,?_,(fun q' hq'=>by simp [nkQ] at hq'; omega)⟩
       · rw [hθ q (by simp [nkQ])]; cases f <;> rfl
       · cases f <;> rfl
       · cases f <;> intro p hp <;> simp at hp
         subst hp; exact hb.1
     · exact absurd h1 o
 · cases h
   obtain ⟨a,c,k1,k2,k3,k4,k5,k6,k7⟩:=h1
   exact ⟨⟨a,c,k1,k2,k3,k4,k5,nofun,nofun⟩,trivial,trivial,rfl,(fun p hp=>by simp at hp),(fun q hq=>by simp [nkQ] at hq)⟩
 · cases h
   obtain ⟨a,c,k1,k2,k3,k4,k5,k6,k7⟩:=h1
   exact ⟨⟨a,c,k1,k2,k3,k4,k5,k6,nofun⟩,trivial,trivial,rfl,(fun p hp=>by simp at hp),(fun q hq=>by simp [nkQ] at hq)⟩
 · cases h
   exact ⟨h1,trivial,trivial,rfl,(fun p hp=>by simp at hp),(fun q hq=>by simp [nkQ] at hq)⟩
 · cases h
theorem avN {m c:Nat} {k:NK} {v v':TV} {ps:List Nat} (h:nkTV s m c k v=some (v',ps)):(∀ p∈ps,s.O p=true)∧∀ q∈nkQ k,q < c:=by
 unfold nkTV at h
 split at h
 · cases ht:tame m v <;> rw [ht] at h <;> cases h
   exact ⟨fun p hp=>by simp at hp,fun q hq=>by simp [nkQ] at hq⟩
 · rename_i q t f nl l
   cases hb:(agy s f&&Nat.blt q c) <;> rw [hb] at h <;> cases h
   rw [Bool.and_eq_true] at hb
   have hq:q < c:=by simpa using hb.2
   refine ⟨fun p hp=>?_,fun q' hq'=>by simp [nkQ] at hq'; omega⟩
   cases f <;> simp at hp
   subst hp; exact hb.1
 · rename_i q t f nl l
   cases hb:(agy s f&&Nat.blt q c) <;> rw [hb] at h <;> cases h
   rw [Bool.and_eq_true] at hb
   have hq:q < c:=by simpa using hb.2
   refine ⟨fun p hp=>?_,fun q' hq'=>by simp [nkQ] at hq'; omega⟩
   cases f <;> simp at hp
   subst hp; exact hb.1
 · cases h; exact ⟨fun p hp=>by simp at hp,fun q hq=>by simp [nkQ] at hq⟩
 · cases h; exact ⟨fun p hp=>by simp at hp,fun q hq=>by simp [nkQ] at hq⟩
 · cases h; exact ⟨fun p hp=>by simp at hp,fun q hq=>by simp [nkQ] at hq⟩
 · cases h
theorem aHF {m c:Nat} {k:NK} {v v':TV} {ps:List Nat} (h:nkTV s m c k v=some (v',ps)) (b:Blk):v'=.blk b↔v=.blk b:=by
 unfold nkTV at h
 split at h
 · cases ht:tame m v with
   | false=>rw [ht] at h; cases h
   | true=>rw [ht] at h; cases h; exact Iff.rfl
 · rename_i q t f nl l
   cases hb:(agy s f&&Nat.blt q c) with
   | false=>rw [hb] at h; cases h
   | true=>rw [hb] at h; cases h; exact ⟨nofun,nofun⟩
 · rename_i q t f nl l
   cases hb:(agy s f&&Nat.blt q c) with
   | false=>rw [hb] at h; cases h
   | true=>rw [hb] at h; cases h; exact ⟨nofun,nofun⟩
 · cases h; exact ⟨nofun,nofun⟩
 · cases h; exact ⟨nofun,nofun⟩
 · cases h; exact ⟨nofun,nofun⟩
 · cases h
theorem avM {m c:Nat}:∀ {ks:List NK} {vs vs':List TV} {ps:List Nat},nkL s m c ks vs=some (vs',ps)→vs'.length=vs.length∧ks.length=vs.length ∧
 ∀ (j:Nat) v',vs'[j]?=some v'→∃ k v ps',ks[j]?=some k∧vs[j]?=some v∧nkTV s m c k v=some (v',ps')∧(∀ p∈ps',p∈ps)
 | [],[],_,_,h=>by cases h; exact ⟨rfl,rfl,fun j v' h=>by simp at h⟩
 | [],_ :: _,_,_,h=>by cases h
 | _ :: _,[],_,_,h=>by cases h
 | k :: ks,v :: vs,vs',ps,h=>by
   unfold nkL at h
   split at h
   · rename_i v1 a r b h1 h2
     cases h
     obtain ⟨k1,k2,k3⟩:=avM h2
     refine ⟨by simp [k1],by simp [k2],fun j v' hj=>?_⟩
     cases j with
     | zero=>simp at hj; subst hj; exact ⟨k,v,a,rfl,rfl,h1,fun p hp=>List.mem_append_left _ hp⟩
     | succ j =>
       obtain ⟨k',v',ps',e1,e2,e3,e4⟩:=k3 j v' (by simpa using hj)
       exact ⟨k',v',ps',by simpa using e1,by simpa using e2,e3,fun p hp=>List.mem_append_right _ (e4 p hp)⟩
   · cases h
theorem arR {m c:Nat} {ks:List NK} {vs vs':List TV} {ps:List Nat} (h:nkL s m c ks vs=some (vs',ps)):ahG vs'=ahG vs∧hol vs'=hol vs∧∀ b,vs'=[.blk b]↔vs=[.blk b]:=by
 obtain ⟨h1,_,h3⟩:=avM h
 refine ayg h1 fun j x x' hx hx' b=>?_
 obtain ⟨k,v,ps',_,e2,e3,_⟩:=h3 j x' hx'
 rw [hx] at e2
 cases e2
 exact aHF e3 b
theorem avO {m c:Nat} {k:NK} {v v':TV} {ps:List Nat} (h:nkTV s m c k v=some (v',ps)):ps=akR k v:=by
 unfold nkTV at h
 split at h
 · cases ht:tame m v <;> rw [ht] at h <;> cases h; rfl
 · rename_i q t f nl l
   cases hb:(agy s f&&Nat.blt q c) <;> rw [hb] at h <;> cases h
   cases f <;> rfl
 · rename_i q t f nl l
   cases hb:(agy s f&&Nat.blt q c) <;> rw [hb] at h <;> cases h
   cases f <;> rfl
 · cases h; rfl
 · cases h; rfl
 · cases h; rfl
 · cases h
theorem aBj {m c:Nat}:∀ {ks:List NK} {vs vs':List TV} {ps:List Nat},nkL s m c ks vs=some (vs',ps)→ps=(ks.zip vs).flatMap fun x=>akR x.1 x.2
 | [],[],_,_,h=>by cases h; rfl
 | [],_ :: _,_,_,h=>by cases h
 | _ :: _,[],_,_,h=>by cases h
 | k :: ks,v :: vs,vs',ps,h=>by
   unfold nkL at h
   split at h
   · rename_i v1 a r b h1 h2
     cases h
     rw [List.zip_cons_cons,List.flatMap_cons,avO h1,aBj h2]
   · cases h
def ajA : List (List NK)→List (List TV)→List (NK×TV)
 | k :: ks,v :: vs=>k.zip v++ajA ks vs
 | _,_=>[]
theorem ay8 {m c:Nat}:∀ {ks:List (List NK)} {vs vs':List (List TV)} {ps:List Nat},nkLL s m c ks vs=some (vs',ps)→vs'.length=ks.length∧ks.length≤vs.length∧ps=(ajA ks vs).flatMap (fun x=>akR x.1 x.2) ∧
 ∀ (i:Nat) cs',vs'[i]?=some cs'→∃ k cs ps',ks[i]?=some k∧vs[i]?=some cs∧nkL s m c k cs=some (cs',ps')∧∀ x∈k.zip cs,x∈ajA ks vs
 | [],_,_,_,h=>by
   have h:some (([]:List (List TV)),([]:List Nat))=some _:=h
   cases h
   exact ⟨rfl,Nat.zero_le _,by cases ‹List (List TV)› <;> rfl,fun i cs' h=>by simp at h⟩
 | _ :: _,[],_,_,h=>by cases h
 | k :: ks,v :: vs,vs',ps,h=>by
   unfold nkLL at h
   split at h
   · rename_i v1 a r b h1 h2
     cases h
     obtain ⟨k1,k2,k3,k4⟩:=ay8 h2
     refine ⟨by simp [k1],by simpa using k2,by rw [ajA,List.flatMap_append,aBj h1,k3],fun i cs' hi=>?_⟩
     cases i with
     | zero=>simp at hi; subst hi; exact ⟨k,v,a,rfl,rfl,h1,fun x hx=>List.mem_append_left _ hx⟩
     | succ i =>
       obtain ⟨k',cs,ps',e1,e2,e3,e4⟩:=k4 i cs' (by simpa using hi)
       exact ⟨k',cs,ps',by simpa using e1,by simpa using e2,e3,fun x hx=>List.mem_append_right _ (e4 x hx)⟩
   · cases h
theorem aEm {m c:Nat}:∀ {ks:List (Nat×NK)} {ts:List (Nat×TV)} {ps:List Nat},nkT s m c ks=some (ts,ps)→ps=(ks.map fun p=>(p.2,s.T p.1)).flatMap (fun x=>akR x.1 x.2) ∧
 ∀ t,al4 ts t=.undef∨∃ k ps',(t,k)∈ks∧nkTV s m c k (s.T t)=some (al4 ts t,ps')
 | [],_,_,h=>by cases h; exact ⟨rfl,fun t=>.inl rfl⟩
 | (t0,k) :: ks,ts,ps,h=>by
   unfold nkT at h
   split at h
   · rename_i v1 a r b h1 h2
     cases h
     obtain ⟨k1,k2⟩:=aEm h2
     refine ⟨by rw [List.map_cons,List.flatMap_cons,avO h1,k1],fun t=>?_⟩
     unfold al4
     cases hb:Nat.beq t0 t with
     | true =>
       rw [Nat.beq_eq] at hb
       subst hb
       exact .inr ⟨k,a,List.mem_cons_self ..,h1⟩
     | false =>
       rcases k2 t with h | ⟨k',ps',e1,e2⟩
       · exact .inl h
       · exact .inr ⟨k',ps',List.mem_cons_of_mem _ e1,e2⟩
   · cases h
end
end Go.Proofs.Ytgmeimbamfggkaa.Den
