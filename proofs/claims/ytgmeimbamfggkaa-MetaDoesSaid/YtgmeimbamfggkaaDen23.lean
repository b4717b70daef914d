import Derived.Test.YtgmeimbamfggkaaDen22
namespace Go.Proofs.Ytgmeimbamfggkaa.Den
open Go
set_option linter.unusedVariables false
set_option linter.unusedSimpArgs false
section
variable {w w1:World} {M M1:Mem} {ι ι':Nat→Nat} {θ θ1:Nat→Option Nat} {O O1:Nat→Bool} {c c1 m m':Nat}
mutual
theorem aIC (hc:c≤c1) (hk:∀ q,q < c→O1 q=true→O q=true∧∀ g,θ q=some g→θ1 q=some g∧w1.heap[g]?=w.heap[g]?∧∀ i,M1 g i=M g i) :
 ∀ (x:TV) (v:Value),tc w M θ O c x v→tc w1 M1 θ1 O1 c1 x v
 | .sl t (.own q) _ _,v,h=>by
   refine ⟨Nat.lt_of_lt_of_le h.1 hc,fun hq a n cc hv=>?_⟩
   obtain ⟨hO,hg⟩:=hk q h.1 hq
   rcases h.2 hO a n cc hv with h1 | h1 | ⟨g,e,cur,p0,h1,h2,h3,h4,h5⟩
   · exact .inl h1
   · exact .inr (.inl h1)
   · obtain ⟨k1,k2,k3⟩:=hg g h2
     exact .inr (.inr ⟨g,e,cur,p0,h1,k1,k2.trans h3,h4,fun i hi=>(k3 i).trans (h5 i hi)⟩)
 | .sl _ .sh _ _,_,_=>trivial
 | .sl _ .full _ _,_,_=>trivial
 | .tup l,v,h=>fun vs hv=>aBI hc hk l vs (h vs hv)
 | .ag l,v,h=>fun vs hv=>aBI hc hk l vs (h vs hv)
 | .ref _ _,_,_=>trivial
 | .blk _,_,_=>trivial
 | .undef,_,_=>trivial
 | .skip,_,_=>trivial
 | .bool _,_,_=>trivial
 | .int _ _,_,_=>trivial
 | .str _,_,_=>trivial
 | .st _ _,_,_=>trivial
 | .ep _ _,_,_=>trivial
 | .ptr _ _,_,_=>trivial
 | .nilp,_,_=>trivial
 | .fn _ _,_,_=>trivial
 | .nilfn,_,_=>trivial
theorem aBI (hc:c≤c1) (hk:∀ q,q < c→O1 q=true→O q=true∧∀ g,θ q=some g→θ1 q=some g∧w1.heap[g]?=w.heap[g]?∧∀ i,M1 g i=M g i) :
 ∀ (x:List TV) (v:List Value),tcs w M θ O c x v→tcs w1 M1 θ1 O1 c1 x v
 | [],[],_=>trivial
 | [],_ :: _,_=>trivial
 | _ :: _,[],_=>trivial
 | x :: xs,v :: vs,h=>⟨aIC hc hk x v h.1,aBI hc hk xs vs h.2⟩
end
def aFy (w:World) (ι ι':Nat→Nat) (S S1:List Obj) (F:Nat→Nat):Prop:=∀ i,i < S.length→ι' (F i)=ι i∧F i < S1.length∧∀ r v,lnk w S[i]? r v→lnk w S1[F i]? r v
mutual
theorem aDU {S S1:List Obj} {F:Nat→Nat} {d:Nat} (hF:aFy w ι ι' S S1 F):∀ (x:TV) (v:Value),aaI w S x v→rv M ι x v→rv M ι' (back F d x) v∧aaI w S1 (back F d x) v
 | .ptr i o,v,hm,hv=>by
   obtain ⟨h1,h2,_⟩:=hF i hm
   exact ⟨by rw [show v=_ from hv]; simp only [back,rv]; rw [h1],h2⟩
 | .sl t (.own q) nl l,v,_,hv=>by
   obtain ⟨a,c,k1,k2,k3,k4,k5,k6,k7⟩:=hv
   exact ⟨⟨a,c,k1,k2,k3,k4,k5,k6,nofun⟩,trivial⟩
 | .sl t .sh nl l,v,_,hv=>⟨hv,trivial⟩
 | .sl t .full nl l,v,_,hv=>⟨hv,trivial⟩
 | .fn g l,v,hm,hv=>by
   obtain ⟨vs,k1,k2⟩:=hv
   obtain ⟨q1,q3⟩:=auZ hF l vs (hm vs k1) k2
   refine ⟨⟨vs,k1,q1⟩,fun us hu=>?_⟩
   have:us=vs:=by rw [k1] at hu; simpa using hu.symm
   subst this; exact q3
 | .tup l,v,hm,hv=>by
   obtain ⟨vs,k1,k2⟩:=hv
   obtain ⟨q1,q3⟩:=auZ hF l vs (hm vs k1) k2
   refine ⟨⟨vs,k1,q1⟩,fun us hu=>?_⟩
   have:us=vs:=by rw [k1] at hu; simpa using hu.symm
   subst this; exact q3
 | .ag l,v,hm,hv=>by
   obtain ⟨vs,k1,k2⟩:=hv
   obtain ⟨q1,q3⟩:=auZ hF l vs (hm vs k1) k2
   refine ⟨⟨vs,k1,q1⟩,fun us hu=>?_⟩
   have:us=vs:=by rw [k1] at hu; simpa using hu.symm
   subst this; exact q3
 | .ref r i,v,hm,hv=>by
   obtain ⟨h1,h2,h3⟩:=hF i hm.1
   have hv:rfv (ι i) r v:=hv
   exact ⟨by show rv M ι' (.ref r (F i)) v; simp only [rv]; rw [h1]; exact hv,h2,h3 r v hm.2⟩
 | .blk _,_,_,hv=>absurd hv (fun h=>h)
 | .undef,v,_,hv=>⟨hv,trivial⟩
 | .skip,v,_,hv=>⟨hv,trivial⟩
 | .bool _,v,_,hv=>⟨hv,trivial⟩
 | .int _ _,v,_,hv=>⟨hv,trivial⟩
 | .str _,v,_,hv=>⟨hv,trivial⟩
 | .st _ _,v,_,hv=>⟨hv,trivial⟩
 | .ep _ _,v,_,hv=>⟨hv,trivial⟩
 | .nilp,v,_,hv=>⟨hv,trivial⟩
 | .nilfn,v,_,hv=>⟨hv,trivial⟩
theorem auZ {S S1:List Obj} {F:Nat→Nat} {d:Nat} (hF:aFy w ι ι' S S1 F):∀ (x:List TV) (v:List Value),abE w S x v→rvs M ι x v→rvs M ι' (back.go F d x) v∧abE w S1 (back.go F d x) v
 | [],v,_,hv=>by
   have:v=[]:=hv
   subst this
   exact ⟨rfl,trivial⟩
 | x :: xs,v,hm,hv=>by
   obtain ⟨v1,vs,rfl,k1,k2⟩:=hv
   obtain ⟨a1,a3⟩:=aDU hF x v1 hm.1 k1
   obtain ⟨b1,b3⟩:=auZ hF xs vs hm.2 k2
   exact ⟨⟨v1,vs,rfl,a1,b1⟩,a3,b3⟩
end
mutual
theorem aFD {F:Nat→Nat} {d:Nat} (ht:∀ q,q < c→θ1 (d+q)=θ q∧(O1 (d+q)=true→O q=true)) (hc:d+c≤c1):∀ (x:TV) (v:Value),tc w M θ O c x v→tc w M θ1 O1 c1 (back F d x) v
 | .sl t (.own q) nl l,v,h=>by
   obtain ⟨h1,h2⟩:=h
   obtain ⟨t1,t2⟩:=ht q h1
   refine ⟨by omega,fun hq a n cc e=>?_⟩
   rcases h2 (t2 hq) a n cc e with h | h | ⟨g,e',cur,p0,k1,k2,k3⟩
   · exact .inl h
   · exact .inr (.inl h)
   · exact .inr (.inr ⟨g,e',cur,p0,k1,t1.trans k2,k3⟩)
 | .sl t .sh nl l,v,_=>trivial
 | .sl t .full nl l,v,_=>trivial
 | .tup l,v,h=>fun vs hv=>aAR ht hc l vs (h vs hv)
 | .ag l,v,h=>fun vs hv=>aAR ht hc l vs (h vs hv)
 | .ptr _ _,_,_=>trivial
 | .fn _ _,_,_=>trivial
 | .ref _ _,_,_=>trivial
 | .blk _,_,_=>trivial
 | .undef,_,_=>trivial
 | .skip,_,_=>trivial
 | .bool _,_,_=>trivial
 | .int _ _,_,_=>trivial
 | .str _,_,_=>trivial
 | .st _ _,_,_=>trivial
 | .ep _ _,_,_=>trivial
 | .nilp,_,_=>trivial
 | .nilfn,_,_=>trivial
theorem aAR {F:Nat→Nat} {d:Nat} (ht:∀ q,q < c→θ1 (d+q)=θ q∧(O1 (d+q)=true→O q=true)) (hc:d+c≤c1):∀ (x:List TV) (v:List Value),tcs w M θ O c x v→tcs w M θ1 O1 c1 (back.go F d x) v
 | [],_,_=>trivial
 | x :: xs,[],_=>trivial
 | x :: xs,v :: vs,h=>⟨aFD ht hc x v h.1,aAR ht hc xs vs h.2⟩
end
theorem aHh {F:Nat→Nat} {d:Nat} (x:TV) (b:Blk):back F d x=.blk b↔x=.blk b:=by
 cases x with
 | sl t f nl l=>cases f <;> exact ⟨nofun,nofun⟩
 | blk b'=>exact Iff.rfl
 | _=>exact ⟨nofun,nofun⟩
theorem ayl {F:Nat→Nat} {d:Nat}:∀ (l:List TV),(back.go F d l).length=l.length∧∀ (j:Nat) x,(back.go F d l)[j]?=some x→∃ y,l[j]?=some y∧x=back F d y
 | []=>⟨rfl,fun j x h=>absurd h (by show ([]:List TV)[j]?≠_; simp)⟩
 | z :: l=>by
   obtain ⟨k1,k2⟩:=ayl (F:=F) (d:=d) l
   refine ⟨by show (_ :: back.go F d l).length=_; simp [k1],fun j x h=>?_⟩
   have h:(back F d z :: back.go F d l)[j]?=some x:=h
   cases j with
   | zero=>simp at h; exact ⟨z,rfl,h.symm⟩
   | succ j=>obtain ⟨y,e1,e2⟩:=k2 j x (by simpa using h); exact ⟨y,by simpa using e1,e2⟩
theorem auY {F:Nat→Nat} {d:Nat} (l:List TV):ahG (back.go F d l)=ahG l∧hol (back.go F d l)=hol l∧∀ b,back.go F d l=[.blk b]↔l=[.blk b]:=by
 obtain ⟨h1,h2⟩:=ayl (F:=F) (d:=d) l
 refine ayg h1 fun j z u hz hu b=>?_
 obtain ⟨y,e1,rfl⟩:=h2 j u hu
 rw [hz] at e1
 cases e1
 exact aHh z b
mutual
theorem aBO {S:List Obj} {L:Nat→Bool}:∀ (x:TV) (v:Value),rv M ι x v→rv M ι (tidy L x) v∧(tc w M θ O c x v→tc w M θ O c (tidy L x) v)∧(aaI w S x v→aaI w S (tidy L x) v)∧((∀ q,L q=false)→tc w M θ1 O1 c1 (tidy L x) v)
 | .sl t (.own q) nl l,v,hv=>by
   show rv M ι (bif L q then _ else _) v∧(_→tc w M θ O c (bif L q then _ else _) v)∧(_→aaI w S (bif L q then _ else _) v)∧(_→tc w M θ1 O1 c1 (bif L q then _ else _) v)
   cases hq:L q with
   | true=>exact ⟨hv,id,id,fun h=>by rw [h q] at hq; cases hq⟩
   | false =>
     obtain ⟨a,c,k1,k2,k3,k4,k5,k6,k7⟩:=hv
     exact ⟨⟨a,c,k1,k2,k3,k4,k5,k6,nofun⟩,fun _=>trivial,fun _=>trivial,fun _=>trivial⟩
 | .sl t .sh nl l,v,hv=>⟨hv,id,id,fun _=>trivial⟩
 | .sl t .full nl l,v,hv=>⟨hv,id,id,fun _=>trivial⟩
 | .tup l,v,hv=>by
   obtain ⟨vs,k1,k2⟩:=hv
   obtain ⟨q1,q2,q3,q4⟩:=awn (S:=S) l vs k2
   have hu:∀ us:List Value,v=.tuple us.toArray→us=vs:=fun us hu=>by rw [k1] at hu; simpa using hu.symm
   exact ⟨⟨vs,k1,q1⟩,fun h us he=>by rw [hu us he]; exact q2 (h vs k1),fun h us he=>by rw [hu us he]; exact q3 (h vs k1),fun h us he=>by rw [hu us he]; exact q4 h⟩
 | .ag l,v,hv=>by
   obtain ⟨vs,k1,k2⟩:=hv
   obtain ⟨q1,q2,q3,q4⟩:=awn (S:=S) l vs k2
   have hu:∀ us:List Value,v=.agg us.toArray→us=vs:=fun us hu=>by rw [k1] at hu; simpa using hu.symm
   exact ⟨⟨vs,k1,q1⟩,fun h us he=>by rw [hu us he]; exact q2 (h vs k1),fun h us he=>by rw [hu us he]; exact q3 (h vs k1),fun h us he=>by rw [hu us he]; exact q4 h⟩
 | .ref _ _,v,hv=>⟨hv,id,id,fun _=>trivial⟩
 | .blk _,v,hv=>⟨hv,id,id,fun _=>trivial⟩
 | .fn _ _,v,hv=>⟨hv,id,id,fun _=>trivial⟩
 | .ptr _ _,v,hv=>⟨hv,id,id,fun _=>trivial⟩
 | .undef,v,hv=>⟨hv,id,id,fun _=>trivial⟩
 | .skip,v,hv=>⟨hv,id,id,fun _=>trivial⟩
 | .bool _,v,hv=>⟨hv,id,id,fun _=>trivial⟩
 | .int _ _,v,hv=>⟨hv,id,id,fun _=>trivial⟩
 | .str _,v,hv=>⟨hv,id,id,fun _=>trivial⟩
 | .st _ _,v,hv=>⟨hv,id,id,fun _=>trivial⟩
 | .ep _ _,v,hv=>⟨hv,id,id,fun _=>trivial⟩
 | .nilp,v,hv=>⟨hv,id,id,fun _=>trivial⟩
 | .nilfn,v,hv=>⟨hv,id,id,fun _=>trivial⟩
theorem awn {S:List Obj} {L:Nat→Bool}:∀ (x:List TV) (v:List Value),rvs M ι x v→rvs M ι (tidy.go L x) v∧(tcs w M θ O c x v→tcs w M θ O c (tidy.go L x) v)∧(abE w S x v→abE w S (tidy.go L x) v)∧((∀ q,L q=false)→tcs w M θ1 O1 c1 (tidy.go L x) v)
 | [],v,hv=>by
   have:v=[]:=hv
   subst this
   exact ⟨rfl,id,id,fun _=>trivial⟩
 | x :: xs,v,hv=>by
   obtain ⟨v1,vs,rfl,k1,k2⟩:=hv
   obtain ⟨a1,a2,a3,a4⟩:=aBO (S:=S) x v1 k1
   obtain ⟨b1,b2,b3,b4⟩:=awn (S:=S) xs vs k2
   exact ⟨⟨v1,vs,rfl,a1,b1⟩,fun h=>⟨a2 h.1,b2 h.2⟩,fun h=>⟨a3 h.1,b3 h.2⟩,fun h=>⟨a4 h,b4 h⟩⟩
end
end
theorem aCd : ∀ (js:List Nat) (S S':List Obj),js.Nodup→(∀ i∈js,i < S.length)→js.length≤S'.length →
 (layS S js S').length=S.length+(S'.length - js.length)∧(∀ (k i:Nat),js[k]?=some i→(layS S js S')[i]?=S'[k]?) ∧
 (∀ i,i < S.length→i ∉ js→(layS S js S')[i]?=S[i]?)∧∀ k,(layS S js S')[S.length+k]?=S'[js.length+k]?
 | [],S,S',_,_,_=>by
   have e:layS S [] S'=S++S':=by cases S' <;> rfl
   rw [e]
   refine ⟨by simp,fun k i h=>by simp at h,fun i hi _=>List.getElem?_append_left hi,fun k=>?_⟩
   rw [List.getElem?_append_right (by omega)]
   congr 1
   simp
 | i :: r,S,[],_,_,h=>by simp at h
 | i :: r,S,o :: os,hn,hb,hl=>by
   rw [List.nodup_cons] at hn
   have hi:=hb i (List.mem_cons_self ..)
   obtain ⟨k1,k2,k3,k4⟩:=aCd r (S.set i o) os hn.2 (fun j hj=>by rw [List.length_set]; exact hb j (List.mem_cons_of_mem _ hj)) (by simpa using hl)
   rw [List.length_set] at k1 k3 k4
   show (layS (S.set i o) r os).length=_∧_
   refine ⟨by rw [k1]; simp,fun k j hk=>?_,fun j hj hnj=>?_,fun k=>?_⟩
   · show (layS (S.set i o) r os)[j]?=_
     cases k with
     | zero =>
       have hk:i=j:=by simpa using hk
       subst hk
       rw [k3 i hi hn.1,List.getElem?_set_self hi]
       rfl
     | succ k=>rw [k2 k j (by simpa using hk)]; rfl
   · show (layS (S.set i o) r os)[j]?=_
     rw [k3 j hj fun h=>hnj (List.mem_cons_of_mem _ h)]
     rw [List.getElem?_set_ne fun e=>hnj (by rw [e]; exact List.mem_cons_self ..)]
   · show (layS (S.set i o) r os)[S.length+k]?=_
     rw [k4 k]
     rw [show (i :: r).length+k=(r.length+k)+1 by simp; omega,List.getElem?_cons_succ]
end Go.Proofs.Ytgmeimbamfggkaa.Den
