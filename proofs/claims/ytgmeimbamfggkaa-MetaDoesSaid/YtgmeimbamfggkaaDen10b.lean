import Derived.Test.YtgmeimbamfggkaaDen10
namespace Go.Proofs.Ytgmeimbamfggkaa.Den
open Go
section
variable {w0 : World} {M0:Mem} {X:Fr} {s:St} {w:World} {M:Mem} {ι:Nat→Nat} {θ:Nat→Option Nat} {a:Act}
theorem abg {S:List Obj} {t:Ty} {i:Nat} {l:List t.D} (h:acz S t i=some l):S[i]?=some [.blk (.row t l)]:=by
 unfold acz at h
 split at h
 · rename_i t' l' hs
   by_cases ht:t'=t
   · subst ht
     rw [dif_pos rfl] at h
     cases h
     exact hs
   · rw [dif_neg ht] at h; cases h
 · cases h
theorem ap8 {t:Ty} {l:List t.D} (h:l≠[]):hol [.blk (.row t l)]=false:=by
 cases l with
 | nil=>exact absurd rfl h
 | cons x l=>rfl
theorem ap2 {t:Ty}:∀ (l1 l2:List t.D) (cs:List Value),repL M t cs (l1++l2)→∃ c1 c2,cs=c1++c2∧repL M t c1 l1∧repL M t c2 l2
 | [],l2,cs,h=>⟨[],cs,rfl,rfl,h⟩
 | x :: l1,l2,cs,h=>by
   obtain ⟨c1,c2,rfl,h1,h2⟩:=h
   obtain ⟨d1,d2,rfl,k1,k2⟩:=ap2 l1 l2 c2 h2
   exact ⟨c1++d1,d2,by simp,⟨c1,d1,rfl,h1,k1⟩,k2⟩
theorem ash {t:Ty} {l:List t.D} {cs:List Value} (h:repL M t cs l) {a n:Nat} (hn:a+n≤l.length) :
 ∃ c1 c2 c3,cs=c1++c2++c3∧c1.length=a * t.size∧repL M t c2 ((l.drop a).take n)∧repL M t c1 (l.take a)∧repL M t c3 (l.drop (a+n)):=by
 have e:l=l.take a++((l.drop a).take n++l.drop (a+n)):=by
  conv=>lhs; rw [← List.take_append_drop a l,← List.take_append_drop n (l.drop a),List.drop_drop]
 rw [e] at h
 obtain ⟨c1,c2,rfl,h1,h2⟩:=ap2 _ _ _ h
 obtain ⟨c3,c4,rfl,h3,h4⟩:=ap2 _ _ _ h2
 refine ⟨c1,c3,c4,by simp,?_,h3,h1,h4⟩
 rw [acP _ _ h1,List.length_take,Nat.min_eq_left (by omega)]
theorem atI (I:Inv w0 M0 X s w M ι θ) {t:Ty} {i:Nat} {l:List t.D} (h:s.S[i]?=some [.blk (.row t l)]) (hl:l≠[]) :
 ∃ (vs:Array Value) (e:TypeId) (us rest:List Value),w.heap[ι i]?=some (.cells vs e (0,0))∧vs.toList=us++rest∧repL M t us l∧(∀ k,M (ι i) k=none)∧(X (ι i)∨w0.heap.size≤ι i):=by
 obtain ⟨⟨h1,h2⟩,h3⟩:=I.obj i _ h (ap8 hl)
 obtain ⟨vs,e,us,rest,k1,k2,k3⟩:=h2
 exact ⟨vs,e,us,rest,k1,k2,k3,h1,h3⟩
theorem aG4 (I:Inv w0 M0 X s w M ι θ) {x:TV} {v:Value} {t:Ty} {l:List t.D} (h1:rv M ι x v) (h3:aaI w s.S x v) (h:srcV s.S t x=some l) :
 ∃ q c news,v=.slice q l.length c∧l.length≤c∧c≤maxLen∧repL M t news l∧(l≠[]→∃ b o,q=some ⟨b,o,none⟩∧∀ (j:Nat) u,news[j]?=some u→w.cell? ⟨b,o+j,none⟩=some u):=by
 unfold srcV at h
 split at h
 · rename_i t' f nl l'
   by_cases ht:t'=t
   · subst ht
     rw [dif_pos rfl] at h
     cases h
     obtain ⟨q,c,k1,k2,k3,_,k5,_⟩:=h1
     obtain ⟨news,n1,n2⟩:=ayk k5
     exact ⟨q,c,news,k1,k2,k3,n1,fun hne=>by
        obtain ⟨b,o,e1,e2⟩:=n2 hne
        exact ⟨b,o,e1,fun j u hj=>I.mem _ _ _ (e2 j u hj)⟩⟩
   · rw [dif_neg ht] at h; cases h
 · rename_i t' i
   split at h
   · rename_i ht
     subst ht
     have hr:=abg h
     obtain ⟨A,c,e1,e2,e3,e4,e5,e6⟩:=h3.2 l hr
     refine ⟨A,c,?_⟩
     by_cases hl:l=[]
     · subst hl
       exact ⟨[],e1,e2,e4,rfl,fun h=>absurd rfl h⟩
     · obtain ⟨vs,e,us,rest,k1,k2,k3,_,_⟩:=atI I hr hl
       refine ⟨us,e1,e2,e4,k3,fun _=>?_⟩
       have hc:c≠0:=by
        have:l.length≠0:=fun e=>hl (List.eq_nil_of_length_eq_zero e)
        omega
       obtain ⟨_,b,cur,e',fr,q1,q2,q3⟩:=e6 hc
       obtain ⟨A',n',c',g1,g2⟩:=h1
       rw [e1] at g1
       injection g1 with g1 g3 g4
       obtain ⟨o,g5⟩:=g2 (by omega)
       rw [← g1,q1] at g5
       injection g5 with g5
       injection g5 with g5
       subst g5
       refine ⟨ι i,0 * t'.size,q1,fun j u hj=>?_⟩
       rw [ai7 k1,← Array.getElem?_toList,k2,Nat.zero_mul,Nat.zero_add,List.getElem?_append_left (List.getElem?_eq_some_iff.1 hj).1]
       exact hj
   · cases h
 · rename_i t' a' n i
   split at h
   · rename_i ht
     subst ht
     obtain ⟨l0,hr,rfl⟩:=Option.map_eq_some_iff.1 h
     have hr:=abg hr
     obtain ⟨A,c,e1,e2,e3,e4,e5,e6⟩:=h3.2 l0 hr
     have hlen:((l0.drop a').take n).length=n:=by rw [List.length_take,List.length_drop]; omega
     refine ⟨A,c,?_⟩
     by_cases hl:n=0
     · subst hl
       exact ⟨[],by rw [hlen]; exact e1,by rw [hlen]; exact e2,e4,by rw [List.take_zero]; rfl,fun h=>absurd (by rw [List.take_zero]) h⟩
     · have hc:c≠0:=by omega
       obtain ⟨hl0,b,cur,e',fr,q1,q2,q3⟩:=e6 hc
       obtain ⟨vs,e,us,rest,k1,k2,k3,_,_⟩:=atI I hr hl0
       obtain ⟨c1,c2,c3,p1,p2,p3,_,_⟩:=ash k3 e3
       refine ⟨c2,by rw [hlen]; exact e1,by rw [hlen]; exact e2,e4,p3,fun _=>?_⟩
       obtain ⟨A',n',c',g1,g2⟩:=h1
       rw [e1] at g1
       injection g1 with g1 g3 g4
       obtain ⟨o,g5⟩:=g2 (by omega)
       rw [← g1,q1] at g5
       injection g5 with g5
       injection g5 with g5
       subst g5
       refine ⟨ι i,a' * t'.size,q1,fun j u hj=>?_⟩
       have hj':=(List.getElem?_eq_some_iff.1 hj).1
       rw [ai7 k1,← Array.getElem?_toList,k2,p1,List.append_assoc,List.append_assoc,List.getElem?_append_right (by omega),p2,Nat.add_sub_cancel_left,List.getElem?_append_left hj']
       exact hj
   · cases h
 · cases h
theorem aAO (I:Inv w0 M0 X s w M ι θ) (T:TInv s w M ι θ a) {ty:Option Ty} {Y:Operand} {t:Ty} {l:List t.D} (h:srcV s.S t (s.ev ty Y)=some l) :
 ∃ q c news,a.eval Y=.slice q l.length c∧l.length≤c∧c≤maxLen∧repL M t news l∧(l≠[]→∃ b o,q=some ⟨b,o,none⟩∧∀ (j:Nat) u,news[j]?=some u→w.cell? ⟨b,o+j,none⟩=some u):=by
 obtain ⟨h1,_,h3⟩:=abH T ty Y
 exact aG4 I h1 h3 h
end
end Go.Proofs.Ytgmeimbamfggkaa.Den
