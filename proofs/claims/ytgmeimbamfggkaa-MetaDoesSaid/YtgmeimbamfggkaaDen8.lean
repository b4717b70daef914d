import Derived.Test.YtgmeimbamfggkaaDen7
import Derived.Laws.Tables
import Derived.Laws.CopyRow
namespace Go.Proofs.Ytgmeimbamfggkaa.Den
open Go
section
variable {w0 : World} {M0:Mem} {X:Fr} {s:St} {w:World} {M:Mem} {ι:Nat→Nat} {θ:Nat→Option Nat} {a:Act}
variable {P : Program} {ρ:Type} {r:ρ} {K:St→Option ρ} {N:Act→World→Prop} {Q:Exit→Act→World→Prop} {o:Oper} {Γ:Env}
theorem aFo (hΓ:EnvOk P Γ) (I:Inv w0 M0 X s w M ι θ) (T:TInv s w M ι θ a) (G:Goes w0 M0 X r K N) {n:TypeId} {x:Operand} (ho:o.op=.load n x) {t:Ty} {v:t.D}
 (hx:s.ev none x=.ep t v) (hn:Γ.ty n=some t) (hk:K (s.put o.dst (toTV t v))=some r):o.wp P a w N Q:=by
 obtain ⟨h1,_,_⟩:=abH T none x
 rw [hx] at h1
 obtain ⟨b,p,vs,h1,h2,h3,h4⟩:=h1
 have ht:=hΓ.ty _ _ hn
 obtain ⟨np1,np2⟩:=auR ht
 refine aaP I T G (v:=adq t vs) ?_ hk (ap4 h3 np1 np2) (anj _ _)
 simp only [execOp,ho,h1,Instr.loadAt,Instr.sureAddr,Sem.run_bind,Sem.run_pure,Result.andThen_ok,auP ht h3 I.mem h4]
def aiO (M:Mem) (ι:Nat→Nat) (cs:List TV) (vs:List Value):Prop:=vs.length=cs.length∧∀ (j:Nat) x,cs[j]?=some x→∃ v,vs[j]?=some v∧rv M ι x v
theorem anh {x:TV} {cs:List TV} {vs:List Value} (h:aiO M ι (x :: cs) vs):∃ v r,vs=v :: r∧rv M ι x v∧aiO M ι cs r:=by
 obtain ⟨h1,h2⟩:=h
 cases vs with
 | nil=>simp at h1
 | cons v r =>
   refine ⟨v,r,rfl,?_,by simpa using h1,fun j y hy=>?_⟩
   · obtain ⟨u,k1,k2⟩:=h2 0 x rfl
     simp at k1; subst k1; exact k2
   · obtain ⟨u,k1,k2⟩:=h2 (j+1) y (by simpa using hy)
     exact ⟨u,by simpa using k1,k2⟩
theorem ajz : ∀ (t:Ty) (cs:List TV) (x:t.D) (rest:List TV) (vs:List Value),al5 t cs=some (x,rest)→aiO M ι cs vs →
 ∃ c1 c2,vs=c1++c2∧rep M t c1 x∧aiO M ι rest c2
 | .bool,cs,x,rest,vs,h,hc=>by
   have h:aIL cs=some (x,rest):=h
   unfold aIL at h
   split at h
   · obtain ⟨v,r,rfl,hv,hr⟩:=anh hc
     cases h
     exact ⟨[v],r,rfl,by rw [show v=_ from hv]; rfl,hr⟩
   · cases h
 | .int k,cs,x,rest,vs,h,hc=>by
   have h':intC k cs=some (x,rest):=h
   clear h
   unfold intC at h'
   split at h'
   · rename_i k' n' r'
     by_cases hk:k=k'
     · rw [if_pos hk] at h'
       subst hk
       obtain ⟨v,r,rfl,hv,hr⟩:=anh hc
       have e:=Option.some.inj h'
       have e1:n'=x:=congrArg Prod.fst e
       have e2:r'=rest:=congrArg Prod.snd e
       subst e1 e2
       exact ⟨[v],r,rfl,⟨by rw [hv.1],hv.2⟩,hr⟩
     · rw [if_neg hk] at h'
       cases h'
   · cases h'
 | .str,cs,x,rest,vs,h,hc=>by
   have h:strC cs=some (x,rest):=h
   unfold strC at h
   split at h
   · obtain ⟨v,r,rfl,⟨p,hv,hv2⟩,hr⟩:=anh hc
     cases h
     exact ⟨[v],r,rfl,⟨p,by rw [hv],hv2⟩,hr⟩
   · cases h
 | .sl t,cs,x,rest,vs,h,hc=>by
   have h:slC t cs=some (x,rest):=h
   unfold slC at h
   split at h
   · split at h
     · rename_i hk
       subst hk
       obtain ⟨v,r,rfl,⟨p,c,hv,h1,h2,h3,h4,_⟩,hr⟩:=anh hc
       cases h
       exact ⟨[v],r,rfl,⟨p,c,by rw [hv],h1,h2,h3,h4⟩,hr⟩
     · cases h
   · cases h
 | .unit,cs,x,rest,vs,h,hc=>by
   have h:some ((),cs)=some (x,rest):=h
   cases h
   exact ⟨[],vs,rfl,rfl,hc⟩
 | .pair a b,cs,x,rest,vs,h,hc=>by
   have h:((al5 a cs).bind fun x=>(al5 b x.2).bind fun y=>some ((x.1,y.1),y.2))=some (x,rest):=h
   obtain ⟨⟨y,r1⟩,h1,h⟩:=Option.bind_eq_some_iff.1 h
   obtain ⟨⟨z,r2⟩,h2,h⟩:=Option.bind_eq_some_iff.1 h
   cases h
   obtain ⟨c1,c2,rfl,k1,k2⟩:=ajz a cs y r1 vs h1 hc
   obtain ⟨c3,c4,rfl,k3,k4⟩:=ajz b r1 z r2 c2 h2 k2
   exact ⟨c1++c3,c4,by simp,⟨c1,c3,rfl,k1,k3⟩,k4⟩
 | .st b,cs,x,rest,vs,h,hc=>ajz b cs x rest vs h hc
 | .ex,_,_,_,_,h,_=>by cases h
 | .op _,_,_,_,_,h,_=>by cases h
theorem aiZ : ∀ (t:Ty) (x:t.D) (vs:List Value),rep M t vs x→aiO M ι (cells t x) vs∧∀ y∈cells t x,flat y=true
 | .bool,x,vs,h=>by
   rw [show vs=[.bool x] from h]
   exact ⟨⟨rfl,fun j y hy=>by cases j <;> simp [cells] at hy; subst hy; exact ⟨_,rfl,rfl⟩⟩,by simp [cells,flat]⟩
 | .int k,x,vs,h=>by
   rw [h.1]
   exact ⟨⟨rfl,fun j y hy=>by cases j <;> simp [cells] at hy; subst hy; exact ⟨_,rfl,rfl,h.2⟩⟩,by simp [cells,flat]⟩
 | .str,x,vs,h=>by
   obtain ⟨p,rfl,h2⟩:=h
   exact ⟨⟨rfl,fun j y hy=>by cases j <;> simp [cells] at hy; subst hy; exact ⟨_,rfl,p,rfl,h2⟩⟩,by simp [cells,flat]⟩
 | .sl t,x,vs,h=>by
   obtain ⟨p,c,rfl,h1,h2,h3,h4⟩:=h
   exact ⟨⟨rfl,fun j y hy=>by cases j <;> simp [cells] at hy; subst hy; exact ⟨_,rfl,p,c,rfl,h1,h2,h3,h4,nofun,nofun⟩⟩,by simp [cells,flat]⟩
 | .unit,x,vs,h=>by
   rw [show vs=[] from h]
   exact ⟨⟨rfl,fun j y hy=>by simp [cells] at hy⟩,by simp [cells]⟩
 | .pair a b,x,vs,h=>by
   obtain ⟨c1,c2,rfl,k1,k2⟩:=h
   obtain ⟨⟨l1,e1⟩,f1⟩:=aiZ a x.1 c1 k1
   obtain ⟨⟨l2,e2⟩,f2⟩:=aiZ b x.2 c2 k2
   refine ⟨⟨by simp [cells,l1,l2],fun j y hy=>?_⟩,fun y hy=>?_⟩
   · simp only [cells] at hy
     by_cases hj:j < (cells a x.1).length
     · rw [List.getElem?_append_left hj] at hy
       obtain ⟨v,q1,q2⟩:=e1 j y hy
       exact ⟨v,by rw [List.getElem?_append_left (by omega)]; exact q1,q2⟩
     · rw [List.getElem?_append_right (by omega)] at hy
       obtain ⟨v,q1,q2⟩:=e2 _ y hy
       exact ⟨v,by rw [List.getElem?_append_right (by omega),l1]; exact q1,q2⟩
   · simp only [cells,List.mem_append] at hy
     rcases hy with hy | hy
     · exact f1 y hy
     · exact f2 y hy
 | .st b,x,vs,h=>aiZ b x vs h
 | .op true,x,vs,h=>by
   rw [show vs=[.pointer none] from h]
   exact ⟨⟨rfl,fun j y hy=>by cases j <;> simp [cells] at hy; subst hy; exact ⟨_,rfl,rfl⟩⟩,by simp [cells,flat]⟩
 | .op false,x,vs,h=>by
   obtain ⟨u,rfl,_⟩:=h
   exact ⟨⟨rfl,fun j y hy=>by cases j <;> simp [cells] at hy; subst hy; exact ⟨_,rfl,trivial⟩⟩,by simp [cells,flat]⟩
 | .ex,x,vs,h=>by
   obtain ⟨_,_,rfl,⟨rfl,a1⟩,_,_,rfl,⟨s2,rfl,b1,b2⟩,_,_,rfl,⟨s3,rfl,c1,c2⟩,_,_,rfl,⟨rfl,d1⟩,_,_,rfl,⟨_,_,rfl,⟨rfl,e1⟩,_,_,rfl,⟨rfl,f1⟩,_,_,rfl,⟨s4,rfl,g1,g2⟩,rfl⟩,_,_,rfl,⟨p,c,rfl,h1,h2,h3,h4⟩,rfl⟩:=azy.1 h
   refine ⟨⟨rfl,fun j y hy=>?_⟩,by simp [cells,flat]⟩
   match j,hy with
   | 0,hy=>cases hy; exact ⟨_,rfl,rfl,a1⟩
   | 1,hy=>cases hy; exact ⟨_,rfl,s2,rfl,b1,b2⟩
   | 2,hy=>cases hy; exact ⟨_,rfl,s3,rfl,c1,c2⟩
   | 3,hy=>cases hy; exact ⟨_,rfl,rfl,d1⟩
   | 4,hy=>cases hy; exact ⟨_,rfl,rfl,e1⟩
   | 5,hy=>cases hy; exact ⟨_,rfl,rfl,f1⟩
   | 6,hy=>cases hy; exact ⟨_,rfl,s4,rfl,g1,g2⟩
   | 7,hy=>cases hy; exact ⟨_,rfl,p,c,rfl,h1,h2,h3,h4,nofun,nofun⟩
   | j+8,hy=>simp [cells] at hy
theorem awz : ∀ {zs:List TV} {cs:List Value},rvs M ι zs cs→aiO M ι zs cs
 | [],_,h=>by rw [show _=[] from h]; exact ⟨rfl,fun j x hx=>by simp at hx⟩
 | z :: zs,_,h=>by
   obtain ⟨v,r,rfl,k1,k2⟩:=h
   obtain ⟨l1,e1⟩:=awz k2
   refine ⟨by simp [l1],fun j x hx=>?_⟩
   cases j with
   | zero=>simp at hx; subst hx; exact ⟨v,rfl,k1⟩
   | succ j=>exact e1 j x (by simpa using hx)
theorem axc : ∀ {zs:List TV} {cs:List Value},aiO M ι zs cs→rvs M ι zs cs
 | [],cs,h=>by
   cases cs with
   | nil=>rfl
   | cons _ _=>simp [aiO] at h
 | z :: zs,cs,h=>by
   obtain ⟨v,r,rfl,k1,k2⟩:=anh h
   exact ⟨v,r,rfl,k1,axc k2⟩
theorem aEQ {O:Nat→Bool} {c:Nat}:∀ (l:List TV) (vs:List Value),(∀ x∈l,ara x=true)→tcs w M θ O c l vs
 | [],vs,_=>by cases vs <;> trivial
 | _ :: _,[],_=>trivial
 | x :: l,v :: vs,h=>⟨by
   have:=h x (List.mem_cons_self ..)
   cases x <;> (try trivial) <;> (try (cases this; done))
   rename_i t f nl l
   cases f <;> first | trivial | (cases this; done),aEQ l vs fun y hy=>h y (List.mem_cons_of_mem _ hy)⟩
theorem aAP {S:List Obj}:∀ (l:List TV) (vs:List Value),(∀ (j:Nat) x v,l[j]?=some x→vs[j]?=some v→aaI w S x v)→abE w S l vs
 | [],vs,_=>by cases vs <;> trivial
 | _ :: _,[],_=>trivial
 | x :: l,v :: vs,h=>⟨h 0 x v rfl rfl,aAP l vs fun j y u hy hu=>h (j+1) y u (by simpa using hy) (by simpa using hu)⟩
theorem aaf {α:Type} {b:Bool} {x:Option α} {y:α} (h:must b x=some y):b=true∧x=some y:=by
 unfold must at h
 cases b
 · cases h
 · exact ⟨rfl,h⟩
theorem ah8 {cs:Obj} (h:plain cs=true):hol cs=false∧ahG cs=none:=by
 unfold plain at h
 rw [Bool.and_eq_true,Bool.not_eq_true',Option.isNone_iff_eq_none] at h
 exact h
theorem aEt : ∀ {cs:Obj},cs≠[]→(∀ b r,cs≠.blk b :: r)→plain cs=true
 | [],h,_=>absurd rfl h
 | [x],_,h=>by cases x <;> first | rfl | exact absurd rfl (h _ _)
 | x :: _ :: _,_,h=>by
   cases x with
   | blk b=>exact absurd rfl (h _ _)
   | _=>rfl
theorem azc (I:Inv w0 M0 X s w M ι θ) {i:Nat} {cs:List TV} (h:s.S[i]?=some cs) (hp:plain cs=true):∃ vs e,w.heap[ι i]?=some (.cells vs e (0,0))∧aiO M ι cs (vs.toList.take cs.length):=by
 obtain ⟨p1,p2⟩:=ah8 hp
 obtain ⟨vs,e,h1,h2,h5⟩:=(I.obj i cs h p1).1.cells p2
 refine ⟨vs,e,h1,List.length_take_of_le (by simpa using h2),fun j x hx=>?_⟩
 obtain ⟨v,k1,_,k3,_⟩:=h5 j x hx
 exact ⟨v,by rw [List.getElem?_take_of_lt (List.getElem?_eq_some_iff.1 hx).1]; simpa using k1,k3⟩
theorem ai7 {b:Nat} {vs:Array Value} {e:TypeId} {fr:Nat×Nat} (h:w.heap[b]?=some (.cells vs e fr)) (j:Nat):w.cell? ⟨b,j,none⟩=vs[j]?:=by
 unfold World.cell?
 rw [h]
 rfl
theorem aAu (hΓ:EnvOk P Γ) (I:Inv w0 M0 X s w M ι θ) {n:TypeId} {i p:Nat} {cs:List TV} {v:TV}
 (hs:s.S[i]?=some cs) (hpl:plain cs=true) (hv:axn Γ n (cs.drop p)=some v):∃ u,(loadVar n ⟨ι i,p,none⟩).run P w=.ok u w∧rv M ι v u∧tc w M θ s.O s.c v u∧aaI w s.S v u:=by
 obtain ⟨p1,p2⟩:=ah8 hpl
 obtain ⟨vs,e,h2,h3,h6⟩:=(I.obj i cs hs p1).1.cells p2
 have hc:aiO M ι (cs.drop p) ((vs.toList.take cs.length).drop p):=by
  refine ⟨by simp; omega,fun j y hy=>?_⟩
  rw [List.getElem?_drop] at hy
  obtain ⟨u,k1,_,k3,_⟩:=h6 _ y hy
  exact ⟨u,by rw [List.getElem?_drop,List.getElem?_take_of_lt (List.getElem?_eq_some_iff.1 hy).1]; simpa using k1,k3⟩
 have hcell:∀ (j:Nat) u,((vs.toList.take cs.length).drop p)[j]?=some u→w.cell? ((⟨ι i,p,none⟩:Addr).add j)=some u:=by
  intro j u hj
  rw [agp,ai7 h2]
  rw [List.getElem?_drop] at hj
  have hlt:=(List.getElem?_eq_some_iff.1 hj).1
  rw [List.length_take] at hlt
  rw [List.getElem?_take_of_lt (by omega)] at hj
  simpa using hj
 unfold axn at hv
 split at hv
 · rename_i b hn
   have ht:=hΓ.ty _ _ hn
   split at hv
   · rename_i y rest hof
     cases hv
     obtain ⟨c1,c2,e1,k1,_⟩:=ajz (.st b) _ y rest _ hof hc
     refine ⟨.agg c1.toArray,?_,⟨c1,rfl,k1⟩,trivial,trivial⟩
     have hl:=aat _ _ _ k1
     simp only [loadVar,Sem.run_bind,awo ht,Ty.agg,if_true,aet ht,← hl,Result.andThen_ok]
     rw [run_loadCells_list w _ c1 (fun j u hj=>hcell j u (by rw [e1,List.getElem?_append_left (List.getElem?_eq_some_iff.1 hj).1]; exact hj))]
     rfl
   · cases hb:Nat.ble b.size (cs.drop p).length&&((cs.drop p).take b.size).all ara with
     | false=>rw [hb] at hv; cases hv
     | true =>
       rw [hb] at hv
       simp only [cond_true] at hv
       cases hv
       rw [Bool.and_eq_true] at hb
       have hle:=Nat.le_of_ble_eq_true hb.1
       have hall:∀ z∈(cs.drop p).take b.size,ara z=true:=List.all_eq_true.1 hb.2
       have hc2:aiO M ι ((cs.drop p).take b.size) (((vs.toList.take cs.length).drop p).take b.size):=by
        refine ⟨by rw [List.length_take,List.length_take,hc.1],fun j y hy=>?_⟩
        have hj:j < b.size:=by
           have:=(List.getElem?_eq_some_iff.1 hy).1
           rw [List.length_take] at this; omega
        rw [List.getElem?_take_of_lt hj] at hy ⊢
        exact hc.2 j y hy
       have hl:(((vs.toList.take cs.length).drop p).take b.size).length=b.size:=by rw [hc2.1,List.length_take]; omega
       refine ⟨.agg (((vs.toList.take cs.length).drop p).take b.size).toArray,?_,⟨_,rfl,axc hc2⟩,fun us e=>?_,fun us e=>?_⟩
       · have hsz:(sizeOf n).run P w=.ok (((vs.toList.take cs.length).drop p).take b.size).length w:=by rw [aet ht,hl]; rfl
         simp only [loadVar,Sem.run_bind,awo ht,Ty.agg,if_true,hsz,Result.andThen_ok]
         rw [run_loadCells_list w _ _ (fun j u hj=>hcell j u (by
           have hj':j < b.size:=by
             have:=(List.getElem?_eq_some_iff.1 hj).1
             omega
           rw [List.getElem?_take_of_lt hj'] at hj; exact hj))]
         rfl
       · exact aEQ _ us hall
       · have e:us=((vs.toList.take cs.length).drop p).take b.size:=by simpa using e.symm
         subst e
         refine aAP _ _ fun j x v hx hv=>?_
         have hj':j < b.size:=by
           have:=(List.getElem?_eq_some_iff.1 hv).1
           omega
         rw [List.getElem?_take_of_lt hj',List.getElem?_drop] at hx hv
         obtain ⟨u,k1,_,_,_,k5⟩:=h6 _ x hx
         have:u=v:=by
           rw [List.getElem?_take_of_lt (List.getElem?_eq_some_iff.1 hx).1,Array.getElem?_toList] at hv
           rw [k1] at hv; exact Option.some.inj hv
         exact this ▸ k5
 · split at hv
   · rename_i b m en hn
     obtain ⟨hu,_,hinf,_⟩:=hΓ.ar _ _ _ _ hn
     obtain ⟨inf,hi,hsz,_⟩:=abz hinf
     split at hv
     · rename_i y rest hof
       cases hv
       obtain ⟨c1,c2,e1,k1,_⟩:=ajz (.st b) _ y rest _ hof hc
       refine ⟨.agg c1.toArray,?_,⟨c1,rfl,k1⟩,trivial,trivial⟩
       have hl:=aat _ _ _ k1
       have hagg:(isAgg n).run P w=.ok true w:=by simp [isAgg,run_underlying hu]
       have hsize:(sizeOf n).run P w=.ok c1.length w:=by rw [hl,← hsz]; simp [sizeOf,typeInfo,hi]
       simp only [loadVar,Sem.run_bind,hagg,if_true,hsize,Result.andThen_ok]
       rw [run_loadCells_list w _ c1 (fun j u hj=>hcell j u (by rw [e1,List.getElem?_append_left (List.getElem?_eq_some_iff.1 hj).1]; exact hj))]
       rfl
     · cases hv
   · cases hone:Γ.one n <;> rw [hone] at hv
     · cases hv
     simp only [cond_true] at hv
     obtain ⟨d,inf,hu,hd,hi,hsz⟩:=hΓ.one n hone
     have h0:cs[p]?=some v:=by rw [← hv,List.head?_drop]
     obtain ⟨u,k1,_,k3,k4,k5⟩:=h6 p v h0
     refine ⟨u,?_,k3,k4,k5⟩
     have hagg:(isAgg n).run P w=.ok false w:=by
        unfold isAgg
        simp only [Sem.run_bind,run_underlying hu,Result.andThen_ok]
        cases d <;> simp at hd ⊢
     have hld:(Go.load ⟨ι i,p,none⟩).run P w=.ok u w:=by
        simp only [run_load]
        rw [ai7 h2,k1]
     simp only [Sem.run_bind,Result.andThen_ok,loadVar,hagg,Bool.false_eq_true,if_false,hld]
theorem aDH (hΓ:EnvOk P Γ) (I:Inv w0 M0 X s w M ι θ) (T:TInv s w M ι θ a) (G:Goes w0 M0 X r K N) {n:TypeId} {x:Operand} (ho:o.op=.load n x) {i p:Nat} {cs:List TV} {v:TV}
 (hx:s.ev none x=.ptr i p) (hs:s.S[i]?=some cs) (hp:plain cs=true) (hv:axn Γ n (cs.drop p)=some v) (hk:K (s.put o.dst v)=some r):o.wp P a w N Q:=by
 obtain ⟨h1,_,_⟩:=abH T none x
 rw [hx] at h1
 have h1:a.eval x=.pointer (some ⟨ι i,p,none⟩):=h1
 obtain ⟨u,k1,k2,k3,k4⟩:=aAu (P:=P) hΓ I hs hp hv
 refine ahY I T G (v:=u) ?_ hk k2 k3 k4
 simp only [execOp,ho,h1,Instr.loadAt,Instr.sureAddr,Sem.run_bind,Sem.run_pure,Result.andThen_ok,k1]
end
end Go.Proofs.Ytgmeimbamfggkaa.Den
