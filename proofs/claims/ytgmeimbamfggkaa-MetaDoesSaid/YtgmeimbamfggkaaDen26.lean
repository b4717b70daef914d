import Derived.Test.YtgmeimbamfggkaaDen25
import Derived.RangeFuncRecord
import Derived.RangeFuncIn
namespace Go.Proofs.Ytgmeimbamfggkaa.Den
open Go
def FnOk (P:Program) (g:FuncId) (args:Array Value) (w:World) (R:Value→World→Prop):Prop :=
 (∃ fn,P.funcs[g]?=some fn∧fn.body.isNone=false∧(fn.name == "runtime.NumGoroutine")=false∧Calls P g args w fun e w'=>∃ v,e=.returned v∧R v w') ∨
 ((∀ l,args[0]?≠some (.func (.yield l) #[] #[]))∧∃ v w',(callFunc g args).run P w=.ok (.value v) w'∧R v w')
def YieldOk (P:Program) (args:Array Value) (w:World) (R:Value→World→Prop):Prop :=
 ∃ (l:Nat) (us:Array Value) (L:Loop),args=us.push (.func (.yield l) #[] #[])∧w.heap[l]?=some (.loop L)∧us.size=L.params.size ∧
   RoundIn (FR none) 0 P l L.fn ((L.params.zip us).foldl (fun tmps (t,a)=>tmps.setIfInBounds t a) L.tmps) L.assign L.body w fun e w'=>∃ v,e=.returned v∧R v w'
def CallOk (P:Program) (g:FuncId) (args:Array Value) (w:World) (R:Value→World→Prop):Prop :=
 (g < YB∧FnOk P g args w R)∨(YB≤g∧YieldOk P args w R)
theorem FnOk.mono {P:Program} {g:FuncId} {args:Array Value} {w:World} {R R':Value→World→Prop} (h:FnOk P g args w R) (hm:∀ v w',R v w'→R' v w'):FnOk P g args w R':=by
 rcases h with ⟨fn,h1,h2,h3,h4⟩ | ⟨h0,v,w',h1,h2⟩
 · exact .inl ⟨fn,h1,h2,h3,h4.mono fun e w' ⟨v,k1,k2⟩=>⟨v,k1,hm v w' k2⟩⟩
 · exact .inr ⟨h0,v,w',h1,hm v w' h2⟩
theorem CallOk.mono {P:Program} {g:FuncId} {args:Array Value} {w:World} {R R':Value→World→Prop} (h:CallOk P g args w R) (hm:∀ v w',R v w'→R' v w'):CallOk P g args w R':=by
 rcases h with ⟨h1,h2⟩ | ⟨h1,l,us,L,h2,h3,h4,h5⟩
 · exact .inl ⟨h1,h2.mono hm⟩
 · exact .inr ⟨h1,l,us,L,h2,h3,h4,h5.mono fun e w' ⟨v,k1,k2⟩=>⟨v,k1,hm v w' k2⟩⟩
theorem CallOk.fn {P:Program} {g:FuncId} {args:Array Value} {w:World} {R:Value→World→Prop} (h:CallOk P g args w R) (hg:g < YB):FnOk P g args w R:=by
 rcases h with ⟨_,h⟩ | ⟨h,_⟩
 · exact h
 · exact absurd hg (Nat.not_lt_of_le h)
theorem CallOk.yl {P:Program} {g:FuncId} {args:Array Value} {w:World} {R:Value→World→Prop} (h:CallOk P g args w R) (hg:YB≤g):YieldOk P args w R:=by
 rcases h with ⟨h,_⟩ | ⟨_,h⟩
 · exact absurd h (Nat.not_lt_of_le hg)
 · exact h
theorem FnOk.enter {P:Program} {g:FuncId} {w:World} {R:Value→World→Prop} {args:Array Value} (h:FnOk P g args w R) :
 ((callFunc g args).run P w=.ok (.enter g args) w∧Calls P g args w fun e w'=>∃ v,e=.returned v∧R v w')∨((∀ l,args[0]?≠some (.func (.yield l) #[] #[]))∧∃ v w',(callFunc g args).run P w=.ok (.value v) w'∧R v w'):=by
 rcases h with ⟨fn,h1,h2,h3,h4⟩ | h
 · refine .inl ⟨?_,h4⟩
   simp only [callFunc,Sem.run_bind,run_program,Result.andThen_ok,h1,h2,h3,Bool.false_eq_true,if_false,Sem.run_pure]
 · exact .inr h
theorem FnOk.op {P:Program} {g:FuncId} {w:World} {R:Value→World→Prop} {o:Oper} {a:Act} {f:Operand} {args:Array Operand} {ns:Array TypeId} {caps:Array Value} {N:Act→World→Prop} {Q:Exit→Act→World→Prop} {ro:Option Nat}
 (ho:o.op=.call { callee:=.value f,args:=args,argTypes:=ns }) (hf:a.eval f=.func (.func g) #[] caps) (h:FnOk P g (args.map a.eval++caps) w R) (hm:∀ v w',R v w'→N (a.put o.dst v) w'):o.wpIn (FR ro) 0 P a w N Q:=by
 refine aC2 (fun c hd=>by rw [ho] at hd; cases hd) ?_
 have hx:(execOp a.eval o).run P w=(callFunc g (args.map a.eval++caps)).run P w:=by
  simp [execOp,ho,resolve,Deferred.ofValue,hf,invoke]
 unfold Oper.wp
 rw [hx]
 rcases h.enter with ⟨h1,h4⟩ | ⟨_,v,w',h1,h2⟩
 · rw [h1,Oper.upon_enter]
   refine h4.mono ?_
   rintro e w' ⟨v,rfl,hR⟩
   exact hm v w' hR
 · rw [h1]
   exact hm v w' h2
theorem YieldOk.op {P:Program} {w:World} {R:Value→World→Prop} {o:Oper} {a:Act} {f:Operand} {args:Array Operand} {ns:Array TypeId} {l:Nat} {N:Act→World→Prop} {Q:Exit→Act→World→Prop} {ro:Option Nat}
 (ho:o.op=.call { callee:=.value f,args:=args,argTypes:=ns }) (hf:a.eval f=.func (.yield l) #[] #[]) (h:YieldOk P ((args.map a.eval).push (.func (.yield l) #[] #[])) w R) (hm:∀ v w',R v w'→N (a.put o.dst v) w'):o.wpIn (FR ro) 0 P a w N Q:=by
 obtain ⟨l',us,L,e,h1,h2,h3⟩:=h
 have e:=Array.push_eq_push.1 e
 obtain ⟨e1,rfl⟩:=e
 injection e1 with e1 _ _
 injection e1 with e1
 subst e1
 refine ⟨fun _ _=>trivial,?_⟩
 rw [Oper.semAt_eq _ _ _ (fun c hd=>by rw [ho] at hd; cases hd)]
 have hx:(execOp a.eval o).run P w=(Instr.yield l (args.map a.eval)).run P w:=by
  simp [execOp,ho,resolve,Deferred.ofValue,hf,invoke]
 rw [hx,run_yield h1 h2,Oper.uponIn_round]
 refine ⟨nofun,h3.mono ?_⟩
 rintro e w' ⟨v,rfl,hR⟩
 exact hm v w' hR
structure SpecOk (P:Program) (g:FuncId) (sp:Spec):Prop where
 nat:∀ as os,∃ out:Option (TV×List Obj),∀ (ρ:Type) (K:TV→List Obj→Option ρ),sp.run as os K=out.bind fun p=>K p.1 p.2
 ok:∀ (as:List TV) (os:List Obj) (v:TV) (S:List Obj),sp.run as os (fun v S=>some (v,S))=some (v,S) →
  ∀ (w:World) (M:Mem) (X:Fr) (ι:Nat→Nat) (θ:Nat→Option Nat) (V:List Value),Inv w M X (beg sp os) w M ι θ→rvs M ι as V→tcs w M θ (beg sp os).O (beg sp os).c as V→abE w os as V →
    CallOk P g V.toArray w fun x w'=>∃ M' ι' θ',Inv w M X (fin S sp.toks os.length) w' M' ι' θ'∧rv M' ι' v x∧tc w' M' θ' (fin S sp.toks os.length).O sp.toks v x∧aaI w' S v x
def TabOk (P:Program) (E:Table):Prop:=∀ g xs sp,E.find g xs=some sp→SpecOk P g sp
theorem TabOk.nat {P:Program} {E:Table} (h:TabOk P E):agd E:=fun g xs sp hg=>(h g xs sp hg).nat
section
variable {w0 : World} {M0:Mem} {X:Fr} {s:St} {w:World} {M:Mem} {ι:Nat→Nat} {θ:Nat→Option Nat} {a:Act}
theorem aFV (T:TInv s w M ι θ a) (ty:Nat→Option Ty):∀ (l:List Operand) (k:List TypeId),rvs M ι (s.evs ty l k) (l.map a.eval)∧tcs w M θ s.O s.c (s.evs ty l k) (l.map a.eval)∧abE w s.S (s.evs ty l k) (l.map a.eval)
 | [],_=>⟨rfl,trivial,trivial⟩
 | x :: l,[]=>by
   obtain ⟨h1,h2,h3⟩:=abH T none x
   obtain ⟨k1,k2,k3⟩:=aFV T ty l []
   exact ⟨⟨_,_,rfl,h1,k1⟩,⟨h2,k2⟩,h3,k3⟩
 | x :: l,n :: ns=>by
   obtain ⟨h1,h2,h3⟩:=abH T (ty n) x
   obtain ⟨k1,k2,k3⟩:=aFV T ty l ns
   exact ⟨⟨_,_,rfl,h1,k1⟩,⟨h2,k2⟩,h3,k3⟩
theorem axb : ∀ {l l2:List TV} {v v2:List Value},rvs M ι l v→rvs M ι l2 v2→rvs M ι (l++l2) (v++v2)
 | [],_,_,_,h,h2=>by rw [show _=[] from h]; exact h2
 | x :: l,_,_,_,h,h2=>by
   obtain ⟨v,r,rfl,k1,k2⟩:=h
   exact ⟨v,_,rfl,k1,axb k2 h2⟩
theorem axe {O:Nat→Bool} {c:Nat}:∀ {l l2:List TV} {v v2:List Value},rvs M ι l v→tcs w M θ O c l v→tcs w M θ O c l2 v2→tcs w M θ O c (l++l2) (v++v2)
 | [],_,_,_,h,_,h2=>by rw [show _=[] from h]; exact h2
 | x :: l,_,_,_,h,h1,h2=>by
   obtain ⟨v,r,rfl,k1,k2⟩:=h
   exact ⟨h1.1,axe k2 h1.2 h2⟩
theorem apn {S:List Obj}:∀ {l l2:List TV} {v v2:List Value},rvs M ι l v→abE w S l v→abE w S l2 v2→abE w S (l++l2) (v++v2)
 | [],_,_,_,h,_,h2=>by rw [show _=[] from h]; exact h2
 | x :: l,_,_,_,h,h1,h2=>by
   obtain ⟨v,r,rfl,k1,k2⟩:=h
   exact ⟨h1.1,apn k2 h1.2 h2⟩
mutual
theorem aGM {M1:Mem} {ι1:Nat→Nat} {O:Nat→Bool} {c:Nat} {S:List Obj}:∀ (x:TV) (v:Value),scal x=true→rv M1 ι1 x v→rv M ι x v∧tc w M θ O c x v∧aaI w S x v
 | .bool _,_,_,hv=>⟨hv,trivial,trivial⟩
 | .int _ _,_,_,hv=>⟨hv,trivial,trivial⟩
 | .str _,_,_,hv=>⟨hv,trivial,trivial⟩
 | .tup l,v,h,hv=>by
   obtain ⟨vs,k1,k2⟩:=hv
   obtain ⟨q1,q2,q3⟩:=aEH (O:=O) (c:=c) (S:=S) l vs h k2
   have eq:∀ us:List Value,v=.tuple us.toArray→us=vs:=fun us hu=>by rw [k1] at hu; simpa using hu.symm
   exact ⟨⟨vs,k1,q1⟩,fun us hu=>by rw [eq us hu]; exact q2,fun us hu=>by rw [eq us hu]; exact q3⟩
 | .undef,_,h,_ | .skip,_,h,_ | .sl _ _ _ _,_,h,_ | .st _ _,_,h,_ | .ep _ _,_,h,_ | .ptr _ _,_,h,_ | .nilp,_,h,_ | .fn _ _,_,h,_ | .nilfn,_,h,_ | .ag _,_,h,_ | .ref _ _,_,h,_ | .blk _,_,h,_=>by cases h
theorem aEH {M1:Mem} {ι1:Nat→Nat} {O:Nat→Bool} {c:Nat} {S:List Obj}:∀ (l:List TV) (vs:List Value),scal.go l=true→rvs M1 ι1 l vs→rvs M ι l vs∧tcs w M θ O c l vs∧abE w S l vs
 | [],vs,_,hv=>by
   have:vs=[]:=hv
   subst this
   exact ⟨rfl,trivial,trivial⟩
 | x :: l,_,h,hv=>by
   obtain ⟨v,r,rfl,k1,k2⟩:=hv
   have h:(scal x&&scal.go l)=true:=h
   rw [Bool.and_eq_true] at h
   obtain ⟨a1,a2,a3⟩:=aGM (O:=O) (c:=c) (S:=S) x v h.1 k1
   obtain ⟨b1,b2,b3⟩:=aEH (O:=O) (c:=c) (S:=S) l r h.2 k2
   exact ⟨⟨v,r,rfl,a1,b1⟩,⟨a2,b2⟩,a3,b3⟩
end
theorem aD6 (I:Inv w0 M0 X s w M ι θ):∀ {as as1:List TV} {V:List Value},aHs s.S as=some as1→rvs M ι as V→abE w s.S as V→rvs (allM w) ι as1 V∧abE w [] as1 V
 | [],_,V,h,hv,_=>by cases h; exact ⟨hv,by rw [show V=[] from hv]; trivial⟩
 | x :: as,as1,V,h,hv,hw=>by
   obtain ⟨v,r,rfl,k1,k2⟩:=hv
   obtain ⟨y,h1,h2⟩:=Option.bind_eq_some_iff.1 h
   obtain ⟨ys,h3,rfl⟩:=Option.map_eq_some_iff.1 h2
   obtain ⟨q1,q2⟩:=aD6 I h3 k2 hw.2
   have hx:rv (allM w) ι y v∧aaI w [] y v:=by
     split at h1
     · rename_i rf i
       have main:∀ (t:Ty) (l:List t.D),srcV s.S t (.ref rf i)=some l→rv (allM w) ι (.sl t .sh none l) v:=by
        intro t l hl
        obtain ⟨q,c,news,e1,e2,e3,e4,e5⟩:=aG4 I k1 hw.1 hl
        refine ⟨q,c,e1,e2,e3,fun hq=>?_,fun hne=>?_,nofun,nofun⟩
        · cases rf with
          | asl t' =>
            have hl:(if t'=t then acz s.S t i else none)=some l:=hl
            split at hl
            · rename_i ht
              subst ht
              obtain ⟨A,c',g1,g2,g3,g4,g5,_⟩:=hw.1.2 l (abg hl)
              rw [e1] at g1
              injection g1 with g1 g6 g7
              rw [g7]; exact g5 (g1 ▸ hq)
            · cases hl
          | asv t' a n =>
            have hl:(if t'=t then (acz s.S t i).map fun l=>(l.drop a).take n else none)=some l:=hl
            split at hl
            · rename_i ht
              subst ht
              obtain ⟨l0,hl0,_⟩:=Option.map_eq_some_iff.1 hl
              obtain ⟨A,c',g1,g2,g3,g4,g5,_⟩:=hw.1.2 l0 (abg hl0)
              rw [e1] at g1
              injection g1 with g1 g6 g7
              rw [g7]; exact g5 (g1 ▸ hq)
            · cases hl
          | pel t' j f=>cases hl
          | one t'=>cases hl
          | mp k v=>cases hl
          | yl=>cases hl
        · obtain ⟨b,o,g1,g2⟩:=e5 hne
          rw [g1]
          exact ahI e4 (ayC I) g2 hne
       cases rf with
       | asl t =>
         obtain ⟨l,hl,rfl⟩:=Option.map_eq_some_iff.1 (show (acz s.S t i).map (fun l=>TV.sl t .sh none l)=some y from h1)
         exact ⟨main t l (by show (if t=t then _ else _)=_; rw [if_pos rfl]; exact hl),trivial⟩
       | asv t p m =>
         obtain ⟨l,hl,rfl⟩:=Option.map_eq_some_iff.1 (show (acz s.S t i).map (fun l=>TV.sl t .sh none ((l.drop p).take m))=some y from h1)
         exact ⟨main t _ (by show (if t=t then _ else _)=_; rw [if_pos rfl,hl]; rfl),trivial⟩
       | pel t j f=>cases h1
       | one t =>
         have h1:(match (s.S[i]?:Option Obj) with
           | some cs=>must (plain cs) ((al5 t cs).map fun x=>TV.sl t .sh none [x.1])
           | none=>none)=some y:=h1
         split at h1
         case h_2=>cases h1
         rename_i cs hs
         obtain ⟨hpl,h1⟩:=aaf h1
         obtain ⟨⟨x,rest⟩,hof,rfl⟩:=Option.map_eq_some_iff.1 h1
         obtain ⟨vs,e,g1,g2⟩:=azc I hs hpl
         obtain ⟨c1,c2,hvs,r1,_⟩:=ajz t cs x rest _ hof g2
         have hlen:=aat t c1 x r1
         have hcl:c1.length≤cs.length:=by
           have:=g2.1
           rw [hvs,List.length_append] at this; omega
         obtain ⟨c,m1,m2,m3⟩:=k1
         refine ⟨⟨some ⟨ι i,0,none⟩,c,m1,m2,m3,nofun,fun _=>⟨ι i,0,rfl,fun k z hk=>?_⟩,nofun,nofun⟩,trivial⟩
         have hk0:k=0:=by
           have:=(List.getElem?_eq_some_iff.1 hk).1
           simp at this; exact this
         subst hk0
         have hk:x=z:=by simpa using hk
         subst hk
         refine ⟨c1,hlen,ai6 (ayC I) t c1 x r1,fun j u hj=>?_⟩
         have hj':=(List.getElem?_eq_some_iff.1 hj).1
         show w.cell? ⟨ι i,0+0 * t.size+j,none⟩=some u
         rw [Nat.zero_mul,Nat.zero_add,ai7 g1,← Array.getElem?_toList,← List.getElem?_take_of_lt (show j < cs.length by omega),hvs,List.getElem?_append_left hj']
         exact hj
       | mp kt vt=>cases h1
       | yl=>cases h1
     · have hf:aEW w ι ι s.S [] (fun _=>none):=fun i k h=>by cases h
       obtain ⟨a1,_,a3⟩:=aCH (θ:=θ) (O:=s.O) (c:=s.c) hf x y v h1 k1 hw.1
       exact ⟨auQ (ayC I) ι y v a1,a3⟩
   exact ⟨⟨v,r,rfl,hx.1,q1⟩,hx.2,q2⟩
theorem aEk {M1:Mem} {θ1:Nat→Option Nat} {O1:Nat→Bool} {c1:Nat} {s1:St}:∀ {ks:List NK} {vs vs':List TV} {ps:List Nat} {V:List Value},nkL s1 0 0 ks vs=some (vs',ps)→(ks.flatMap nkQ=[])→rvs M1 ι vs V→abE w [] vs V →
 rvs M1 ι vs' V∧tcs w M1 θ1 O1 c1 vs' V∧abE w [] vs' V
 | [],[],_,_,V,h,_,h1,h2=>by
   cases h
   have:V=[]:=h1
   subst this
   exact ⟨rfl,trivial,trivial⟩
 | [],_ :: _,_,_,_,h,_,_,_=>by cases h
 | _ :: _,[],_,_,_,h,_,_,_=>by cases h
 | k :: ks,v :: vs,vs',ps,V,h,hq,h1,hw=>by
   unfold nkL at h
   split at h
   · rename_i v1 a1 r b e1 e2
     cases h
     rw [List.flatMap_cons,List.append_eq_nil_iff] at hq
     obtain ⟨x,xs,rfl,g1,g2⟩:=h1
     obtain ⟨f1,f2,f3⟩:=aEk (θ1:=θ1) (O1:=O1) (c1:=c1) e2 hq.2 g2 hw.2
     have hx:rv M1 ι v1 x∧tc w M1 θ1 O1 c1 v1 x∧aaI w [] v1 x:=by
        unfold nkTV at e1
        split at e1
        · cases ht:tame 0 v with
          | false=>rw [ht] at e1; cases e1
          | true =>
            rw [ht] at e1
            cases e1
            obtain ⟨t1,t2⟩:=aDN (w:=w) (M:=M1) (θ:=θ1) (O:=O1) (c:=c1) (S:=[]) (S1:=[]) (fun i cs1 h=>by simp at h) v x ht hw.1
            exact ⟨g1,t1,t2⟩
        · rename_i q t f nl l
          simp [nkQ] at hq
        · rename_i q t f nl l
          simp [nkQ] at hq
        · cases e1
          obtain ⟨a,c,k1,k2,k3,k4,k5,k6,k7⟩:=g1
          exact ⟨⟨a,c,k1,k2,k3,k4,k5,nofun,nofun⟩,trivial,trivial⟩
        · cases e1
          obtain ⟨a,c,k1,k2,k3,k4,k5,k6,k7⟩:=g1
          exact ⟨⟨a,c,k1,k2,k3,k4,k5,k6,nofun⟩,trivial,trivial⟩
        · cases e1
          exact ⟨g1,trivial,trivial⟩
        · cases e1
     exact ⟨⟨x,xs,rfl,hx.1,f1⟩,⟨hx.2.1,f2⟩,hx.2.2,f3⟩
   · cases h
mutual
theorem azO {S S1:List Obj}:∀ (x:TV) (v:Value),tvPtrs x=[]→aaI w S x v→aaI w S1 x v
 | .ptr i o,_,h,_=>by cases h
 | .ref r i,_,h,_=>by cases h
 | .fn f l,v,h,k=>fun vs hv=>ao5 l vs h (k vs hv)
 | .tup l,v,h,k=>fun vs hv=>ao5 l vs h (k vs hv)
 | .ag l,v,h,k=>fun vs hv=>ao5 l vs h (k vs hv)
 | .undef,_,_,_=>trivial
 | .skip,_,_,_=>trivial
 | .bool _,_,_,_=>trivial
 | .int _ _,_,_,_=>trivial
 | .str _,_,_,_=>trivial
 | .sl _ _ _ _,_,_,_=>trivial
 | .st _ _,_,_,_=>trivial
 | .ep _ _,_,_,_=>trivial
 | .nilp,_,_,_=>trivial
 | .nilfn,_,_,_=>trivial
 | .blk _,_,_,_=>trivial
theorem ao5 {S S1:List Obj}:∀ (x:List TV) (v:List Value),tvPtrs.go x=[]→abE w S x v→abE w S1 x v
 | [],_,_,_=>trivial
 | _ :: _,[],_,_=>trivial
 | x :: xs,v :: vs,h,k=>by
   have h:tvPtrs x++tvPtrs.go xs=[]:=h
   rw [List.append_eq_nil_iff] at h
   exact ⟨azO x v h.1 k.1,ao5 xs vs h.2 k.2⟩
end
theorem ayp {P:Program} {E:Table} (hE:TabOk P E) {ρ:Type} {r:ρ} {K:St→Option ρ} {dr:Bool} {lo:Nat→Bool} {d:Option Tmp} {g:Nat} {L:List TV} {V:List Value}
 (h:atS E dr lo s d g L K=some r) (I:Inv w0 M0 X s w M ι θ) (T:TInv s w M ι θ a) (hL:rvs M ι L V) (hT:tcs w M θ s.O s.c L V) (hW:abE w s.S L V) :
 CallOk P g V.toArray w fun x w'=>∃ (s':St) (v:TV) (M':Mem) (ι':Nat→Nat) (θ':Nat→Option Nat),K (s'.put d v)=some r∧Inv w0 M0 X s' w' M' ι' θ'∧TInv s' w' M' ι' θ' a ∧
  (rv M' ι' v x∧tc w' M' θ' s'.O s'.c v x∧aaI w' s'.S v x)∧(∀ i,i < s.S.length→ι' i=ι i)∧s'.dl=s.dl:=by
 unfold atS at h
 split at h
 case h_2=>cases h
 rename_i sp hsp
 have hok:=hE g _ sp hsp
 cases hlend:(!dr&&aGe sp.pars L) with
 | true =>
   rw [hlend] at h
   have h:awy s d sp L K=some r:=h
   unfold awy at h
   obtain ⟨as1,h1,h⟩:=Option.bind_eq_some_iff.1 h
   split at h
   case h_2=>cases h
   rename_i as2 h2
   obtain ⟨hq,h⟩:=aaf h
   have hq:sp.qs=[]:=List.isEmpty_iff.1 hq
   have hq2:sp.pars.flatMap nkQ=[]:=by
    have:sp.pars.flatMap nkQ++_=[]:=hq
    exact (List.append_eq_nil_iff.1 this).1
   obtain ⟨out,hout⟩:=hok.nat as2 []
   rw [hout] at h
   cases out with
   | none=>cases h
   | some p =>
     obtain ⟨v,S'⟩:=p
     cases S' with
     | cons _ _=>cases h
     | nil =>
       have h:must (scal v) (K (s.put d v))=some r:=h
       obtain ⟨hv,h⟩:=aaf h
       have hrun:sp.run as2 [] (fun v S=>some (v,S))=some (v,[]):=by rw [hout]; rfl
       obtain ⟨q1,q2⟩:=aD6 I h1 hL hW
       obtain ⟨r1,r2,r3⟩:=aEk (w:=w) (M1:=allM w) (θ1:=fun _=>none) (O1:=(beg sp []).O) (c1:=(beg sp []).c) h2 hq2 q1 q2
       have hO:∀ q,(beg sp []).O q=false:=fun q=>by show sp.qs.any (Nat.beq q)=false; rw [hq]; rfl
       have I0:Inv w (allM w) { X:=fun _=>False,n:=0,ι:=ι,S:=[] } (beg sp []) w (allM w) ι (fun _=>none):=by
        refine ⟨rfl,rfl,rfl,Nat.le_refl _,Mem.le_refl _,fun _ _ _ h=>h,fun _ _ _=>⟨rfl,fun _=>rfl⟩,fun i cs h=>?_,fun i j cs cs' h=>?_,(fun q g h hg=>by cases hg),fun q h=>?_,(fun p q g _ _ hp=>by cases hp),⟨rfl,Nat.zero_le _,fun _ _=>rfl,fun i cs hi=>absurd hi (Nat.not_lt_zero _)⟩,Shp.refl _⟩
        · have h:([]:List Obj)[i]?=some cs:=h
          simp at h
        · have h:([]:List Obj)[i]?=some cs:=h
          simp at h
        · rw [hO q] at h; cases h
       have hcall:=hok.ok as2 [] v [] hrun w (allM w) _ ι (fun _=>none) _ I0 r1 r2 r3
       refine hcall.mono ?_
       rintro x w' ⟨M',ι',θ',J,j1,_,_⟩
       have hk:∀ b,b < w.heap.size→w'.heap[b]?=w.heap[b]?:=fun b hb=>(J.keep b hb (fun h=>h)).1
       have I2:=I.step J.os J.tape J.output J.size J.shp (Mem.le_refl M) (fun b i v hm=>by rw [am9 (hk b (aCx I.mem hm))]; exact I.mem b i v hm) (fun _ h=>h) (Nat.le_refl _) I.tokc (fun b hb _=>⟨hk b hb,fun _=>rfl⟩)
       have T2:=T.step I J.shp (Mem.le_refl M) (fun _ h=>h) (Nat.le_refl _) (fun b hb _=>⟨hk b hb,fun _=>rfl⟩)
       obtain ⟨a1,a2,a3⟩:=aGM (M:=M) (ι:=ι) (w:=w') (θ:=θ) (O:=s.O) (c:=s.c) (S:=s.S) v x hv j1
       exact ⟨s,v,M,ι,θ,h,I2,T2,⟨a1,a2,a3⟩,fun _ _=>rfl,rfl⟩
 | false =>
 rw [hlend] at h
 simp only [cond_false] at h
 obtain ⟨_,h⟩:=aaf h
 generalize hje:(bif dr then [] else aul s.S 64 [] (tvPtrs.go L))=js at h
 unfold asJ at h
 split at h
 case h_2=>cases h
 rename_i as1 os1 h1 h2
 split at h
 case h_2=>cases h
 rename_i as2 ta os2 tb h3 h4
 have h3:=sO_L h3
 have h4:=aKb h4
 cases hb:(apart js&&apart (ta++tb)&&apart sp.qs&&Nat.beq os2.length js.length) with
 | false=>rw [hb] at h; cases h
 | true =>
   rw [hb] at h
   simp only [Bool.and_eq_true,Nat.beq_eq] at hb
   obtain ⟨⟨⟨hj,hab⟩,hq⟩,hl⟩:=hb
   have hjs:∀ (k i:Nat),js[k]?=some i→i < s.S.length:=by
    intro k i hk
    obtain ⟨p1,p2⟩:=asE h2
    have hk':k < os1.length:=by rw [p1]; exact (List.getElem?_eq_some_iff.1 hk).1
    obtain ⟨i',cs,e1,e2,_⟩:=p2 k _ (List.getElem?_eq_getElem hk')
    rw [hk] at e1
    cases e1
    exact (List.getElem?_eq_some_iff.1 e2).1
   obtain ⟨hos,θ0,I0,r0,t0,w00⟩:=aE3 I hL hT hW h1 h2 h3 h4 (apart_spec hj) (apart_spec hab) (apart_spec hq) hl
   obtain ⟨out,hout⟩:=hok.nat as2 os2
   cases dr with
   | false =>
     simp only [cond_true] at h
     rw [hout] at h
     cases out with
     | none=>cases h
     | some p =>
       obtain ⟨v,S'⟩:=p
       have hrun:sp.run as2 os2 (fun v S=>some (v,S))=some (v,S'):=by rw [hout]; rfl
       have hcall:=hok.ok as2 os2 v S' hrun w M _ _ θ0 _ I0 r0 t0 w00
       refine hcall.mono ?_
       rintro x w' ⟨M',ι',θ',J,j1,j2,j3⟩
       rw [hl] at J j2
       obtain ⟨ι2,θ2,I2,T2,hag,hbk⟩:=aHl I T (apart_spec hj) hjs hos J
       obtain ⟨q1,q2,q3⟩:=hbk v x j1 j2 j3
       exact ⟨_,_,M',ι2,θ2,h,I2,T2,⟨q1,q2,q3⟩,hag,rfl⟩
   | true =>
     simp only [cond_true] at h
     split at h
     case h_2=>cases h
     have htok:ta++tb=[]:=by assumption
     rw [hout] at h
     cases out with
     | none=>cases h
     | some p =>
       obtain ⟨v,S'⟩:=p
       have hrun:sp.run as2 os2 (fun v S=>some (v,S))=some (v,S'):=by rw [hout]; rfl
       have hcall:=hok.ok as2 os2 v S' hrun w M _ _ θ0 _ I0 r0 t0 w00
       refine hcall.mono ?_
       rintro x w' ⟨M',ι',θ',J,j1,j2,j3⟩
       have h:K (s.put d (tidy (fun _=>false) v))=some r∧aaI w' [] v x:=by
        cases S' with
        | nil=>exact ⟨h,j3⟩
        | cons S1 S2 =>
          have h:must (tvPtrs v).isEmpty (K (s.put d (tidy (fun _=>false) v)))=some r:=h
          obtain ⟨h1,h2⟩:=aaf h
          exact ⟨h2,azO v x (List.isEmpty_iff.1 h1) j3⟩
       obtain ⟨h,j3⟩:=h
       · have hk:∀ b,b < w.heap.size→w'.heap[b]?=w.heap[b]?∧∀ i,M' b i=M b i:=by
            intro b hb
            refine J.keep b hb ?_
            rintro (⟨k,i,_,e,_⟩ | ⟨q,e,_⟩)
            · simp at e
            · rw [htok] at e; simp at e
         have I2:=I.step J.os J.tape J.output J.size J.shp J.memle J.mem (fun _ h=>h) (Nat.le_refl _) I.tokc (fun b hb _=>hk b hb)
         have T2:=T.step I J.shp J.memle (fun _ h=>h) (Nat.le_refl _) (fun b hb _=>hk b hb)
         obtain ⟨q1,_,q3,q4⟩:=aBO (w:=w') (θ:=θ') (O:=s.O) (c:=s.c) (S:=[]) (θ1:=θ) (O1:=s.O) (c1:=s.c) (L:=fun _=>false) v x j1
         have hExt:Ext [] s.S:=⟨Nat.zero_le _,fun i cs cs1 h=>by simp at h⟩
         exact ⟨s,_,M',ι,θ,h,I2,T2,⟨asi (ι:=ι') (S:=[]) (w:=w') (fun i hi=>absurd hi (Nat.not_lt_zero _)) _ _ (q3 j3) q1,q4 fun _=>rfl,abK (Shp.refl _) hExt _ _ (q3 j3)⟩,fun _ _=>rfl,rfl⟩
theorem aC_ {P:Program} {Γ:Env} {E:Table} (hE:TabOk P E):ait P Γ E:=by
 intro w0 M0 X s w M ι θ a ρ r K N Q o dr lo f args ns ho h I T G ro
 obtain ⟨hf1,_,hf3⟩:=abH T none f
 obtain ⟨a1,a2,a3⟩:=aFV T Γ.ty args.toList ns.toList
 unfold aqO at h
 split at h
 case h_3=>cases h
 · rename_i g caps hfn
   rw [hfn] at hf1 hf3
   obtain ⟨cv,hfv,hcv⟩:=hf1
   have hf3:=hf3 cv hfv
   obtain ⟨hg,h⟩:=aaf h
   have hg:g < YB:=by simpa using hg
   obtain ⟨b1,_,b3,b4⟩:=awn (w:=w) (θ:=θ) (O:=s.O) (c:=s.c) (S:=s.S) (θ1:=θ) (O1:=s.O) (c1:=s.c) (L:=fun _=>false) caps cv hcv
   have hV:(args.toList.map a.eval++cv).toArray=args.map a.eval++cv.toArray:=by apply Array.ext'; simp
   have:=ayp hE h I T (axb a1 b1) (axe a1 a2 (b4 fun _=>rfl)) (apn a1 a3 (b3 hf3))
   rw [hV] at this
   refine (this.fn hg).op ho hfv ?_
   rintro x w' ⟨s',v,M',ι',θ',hk,I',T',⟨q1,q2,q3⟩,_,_⟩
   exact G _ _ _ _ _ _ hk (I'.put _ _) (T'.put _ q1 q2 q3)
 · rename_i i hfn
   cases dr with
   | true=>cases h
   | false =>
     simp only [cond_false] at h
     split at h
     · rename_i q hq
       obtain ⟨hg,h⟩:=aaf h
       have hg:YB≤q.id:=Nat.le_of_ble_eq_true hg
       rw [hfn] at hf1 hf3
       have hf1:a.eval f=.func (.yield (ι i)) #[] #[]:=hf1
       have hV:(args.toList.map a.eval++[Value.func (.yield (ι i)) #[] #[]]).toArray=(args.map a.eval).push (.func (.yield (ι i)) #[] #[]):=by apply Array.ext'; simp
       have b1:rvs M ι [.ref .yl i] [.func (.yield (ι i)) #[] #[]]:=⟨_,[],rfl,rfl,rfl⟩
       have b2:tcs w M θ s.O s.c [.ref .yl i] [.func (.yield (ι i)) #[] #[]]:=⟨trivial,trivial⟩
       have b3:abE w s.S [.ref .yl i] [.func (.yield (ι i)) #[] #[]]:=⟨⟨hf3.1,trivial⟩,trivial⟩
       have:=ayp hE h I T (axb a1 b1) (axe a1 a2 b2) (apn a1 a3 b3)
       rw [hV] at this
       refine (this.yl hg).op ho hf1 ?_
       rintro x w' ⟨s',v,M',ι',θ',hk,I',T',⟨q1,q2,q3⟩,_,_⟩
       exact G _ _ _ _ _ _ hk (I'.put _ _) (T'.put _ q1 q2 q3)
     · cases h
theorem au1 (q:RI) (j:LS) (l:List TV):ahG (.blk (.lp q j) :: l)=some (.lp q j):=by cases l <;> rfl
theorem aBo {P:Program} {Γ:Env} {E:Table} (hE:TabOk P E):aDR P Γ E:=by
 intro w0 M0 X s w M ι θ a ρ r K Q k h g ps assign body G he I T
 unfold exec at he
 split at he
 case h_2=>cases he
 rename_i id keep
 split at he
 case h_2=>cases he
 rename_i f caps hfn
 obtain ⟨hb,he⟩:=aaf he
 rw [Bool.and_eq_true,Bool.and_eq_true] at hb
 have hdl:s.dl=[]:=List.isEmpty_iff.1 hb.1
 have hf:f < YB:=by simpa using hb.2.2
 obtain ⟨hf1,_,hf3⟩:=abH T none g
 rw [hfn] at hf1 hf3
 obtain ⟨cv,hfv,hcv⟩:=hf1
 have hf3:=hf3 cv hfv
 refine wpIn_rangeFunc fun fn _=>?_
 obtain ⟨L,hL⟩:∃ L:Loop,L={ state:=.ready,pending:=none,fn,tmps:=a.tmps,params:=ps,assign,body,defers:=w.heap.size }:=⟨_,rfl⟩
 obtain ⟨w1,hw1⟩:∃ w1,w1=w.alloc (.deferred (some [])):=⟨_,rfl⟩
 obtain ⟨w2,hw2⟩:∃ w2,w2=w1.alloc (.loop L):=⟨_,rfl⟩
 have sz1:w1.heap.size=w.heap.size+1:=by rw [hw1]; exact afu w _
 have old1:∀ b,b < w.heap.size→w1.heap[b]?=w.heap[b]?:=fun b hb=>by rw [hw1]; exact heap_alloc_old w _ hb
 have old2:∀ b,b < w1.heap.size→w2.heap[b]?=w1.heap[b]?:=fun b hb=>by rw [hw2]; exact heap_alloc_old w1 _ hb
 have I1:=I.newObj (w1:=w1) (cs:=[TV.blk .df]) (g:=w.heap.size) (by rw [hw1]; rfl) (by rw [hw1]; rfl) (by rw [hw1]; rfl) (by omega) (Shp.old old1) (fun b hb _=>old1 b hb) (fun _=>ahn I) fun _ =>
  ⟨ah5 I,by show w1.heap[w.heap.size]?=_; rw [hw1]; exact heap_alloc_new w _⟩
 have T1:=T.newObj (w1:=w1) (cs:=[TV.blk .df]) (g:=w.heap.size) I (Shp.old old1) (fun b hb _=>old1 b hb) (fun _=>ahn I)
 have l1:({ s with S:=s.S++[[TV.blk .df]] }:St).S.length=s.S.length+1:=by simp
 have hLw:w2.heap[w1.heap.size]?=some (.loop L):=by rw [hw2]; exact heap_alloc_new w1 _
 have T2:=T1.newObj (w1:=w2) (cs:=TV.blk (.lp ⟨id,ps,assign,body⟩ .rdy) :: au6 s keep) (g:=w1.heap.size) I1 (Shp.old old2) (fun b hb _=>old2 b hb) (fun _=>ahn I1)
 have I2:=I1.newObj (w1:=w2) (cs:=TV.blk (.lp ⟨id,ps,assign,body⟩ .rdy) :: au6 s keep) (g:=w1.heap.size) (by rw [hw2]; rfl) (by rw [hw2]; rfl) (by rw [hw2]; rfl) (by rw [hw2,afu]; omega) (Shp.old old2) (fun b hb _=>old2 b hb) (fun _=>ahn I1) fun _=>by
  refine ⟨ah5 I1,?_⟩
  rw [au1]
  refine ⟨L,hLw,by rw [hL]; rfl,by rw [hL]; rfl,by rw [hL],by rw [hL],by rw [hL],by rw [hL]; show (au6 s keep).length+1=a.tmps.size+1; rw [T.n]; simp [au6],fun t x hx=>?_⟩
  rw [List.getElem?_cons_succ] at hx
  unfold au6 at hx
  rw [List.getElem?_map] at hx
  obtain ⟨t',ht',rfl⟩:=Option.map_eq_some_iff.1 hx
  have ht:t < s.n∧t=t':=by
   by_cases hlt:t < s.n
   · rw [List.getElem?_range hlt] at ht'
     exact ⟨hlt,by simpa using ht'⟩
   · rw [List.getElem?_eq_none (by simpa using hlt)] at ht'; cases ht'
  obtain ⟨hlt,rfl⟩:=ht
  have hv:L.tmps[t]?=some (a.tmps.getD t undef):=by
   rw [hL]
   have:t < a.tmps.size:=by rw [T.n]; exact hlt
   simp [Array.getD_eq_getD_getElem?,this]
  refine ⟨_,hv,?_⟩
  cases keep.any (Nat.beq t) with
  | false=>exact ⟨trivial,trivial,trivial⟩
  | true =>
    simp only [cond_true]
    unfold capV
    cases tame s.S.length (s.T t) with
    | false=>exact ⟨trivial,trivial,trivial⟩
    | true=>exact T2.v t
 have he:atS E false Γ.lo { ({ s with S:=s.S++[[TV.blk .df]] }:St) with S:=({ s with S:=s.S++[[TV.blk .df]] }:St).S++[TV.blk (.lp ⟨id,ps,assign,body⟩ .rdy) :: au6 s keep] } none f (.ref .yl (s.S.length+1) :: tidy.go (fun _=>false) caps) (aHz s.S.length K)=some r:=he
 rw [l1] at I2 T2
 generalize hι2:upd (upd ι s.S.length w.heap.size) (s.S.length+1) w1.heap.size=ι2 at I2 T2
 have ιl:ι2 (s.S.length+1)=w.heap.size+1:=by rw [← hι2,aiL,sz1]
 have ιd:ι2 s.S.length=w.heap.size:=by rw [← hι2,aso (by omega),aiL]
 obtain ⟨g1,_,g3⟩:=abH T2 none g
 have hev:St.ev { ({ s with S:=s.S++[[TV.blk .df]] }:St) with S:=({ s with S:=s.S++[[TV.blk .df]] }:St).S++[TV.blk (.lp ⟨id,ps,assign,body⟩ .rdy) :: au6 s keep] } none g=s.ev none g:=by cases g <;> rfl
 rw [hev,hfn] at g1 g3
 obtain ⟨cv',hfv',hcv'⟩:=g1
 have hcc:cv'=cv:=by rw [hfv] at hfv'; simpa using hfv'.symm
 subst hcc
 have g3:=g3 cv' hfv
 generalize hs2:({ ({ s with S:=s.S++[[TV.blk .df]] }:St) with S:=({ s with S:=s.S++[[TV.blk .df]] }:St).S++[TV.blk (.lp ⟨id,ps,assign,body⟩ .rdy) :: au6 s keep] }:St)=s2 at I2 T2 he g3
 have len2:s2.S.length=s.S.length+2:=by rw [← hs2]; simp
 have dl2:s2.dl=[]:=by rw [← hs2]; exact hdl
 obtain ⟨b1,_,b3,b4⟩:=awn (w:=w2) (θ:=θ) (O:=s2.O) (c:=s2.c) (S:=s2.S) (θ1:=θ) (O1:=s2.O) (c1:=s2.c) (L:=fun _=>false) caps cv' hcv'
 have y1:rv M ι2 (.ref .yl (s.S.length+1)) (.func (.yield (w.heap.size+1)) #[] #[]):=by
  show Value.func _ _ _=Value.func (.yield (ι2 (s.S.length+1))) _ _
  rw [ιl]
 have hc:=ayp (V:=.func (.yield (w.heap.size+1)) #[] #[] :: cv') hE he I2 T2 ⟨_,_,rfl,y1,b1⟩ ⟨trivial,b4 fun _=>rfl⟩ ⟨⟨by omega,trivial⟩,b3 g3⟩
 have hV:(Value.func (.yield (w.heap.size+1)) #[] #[] :: cv').toArray=#[.func (.yield (w.heap.size+1)) #[] #[]]++cv'.toArray:=by apply Array.ext'; simp
 rw [hV] at hc
 rcases (hc.fn hf).enter with ⟨c1,c2⟩ | ⟨c1,_⟩
 case inr=>exact absurd (by simp) (c1 (w.heap.size+1))
 refine ⟨w.heap.size+1,[{ target:=.collected w.heap.size,args:=#[] }],w2,{ target:=.fn (.func f) cv'.toArray,args:=#[.func (.yield (w.heap.size+1)) #[] #[]] },w2,f,
  #[.func (.yield (w.heap.size+1)) #[] #[]]++cv'.toArray,w2,?_,?_,fun _ _=>trivial,?_,nofun,?_⟩
 · rw [hw2,hw1,hL]; exact run_enterLoop_outer _ _ _ _ _
 · simp only [resolve,hfv]
   simp [go_sem]
 · simpa [invoke,go_sem] using c1
 · refine aAS.2 (c2.mono ?_)
   rintro e w3 ⟨v,rfl,s3,v3,M3,ι3,θ3,hk,I3,T3,_,hag,hd3⟩
   have hk:aHz s.S.length K s3=some r:=hk
   have ιl3:ι3 (s.S.length+1)=w.heap.size+1:=(hag _ (by omega)).trans ιl
   have ιd3:ι3 s.S.length=w.heap.size:=(hag _ (by omega)).trans ιd
   have key:∀ (j:LS) (q:RI) (cs:List TV),s3.S[s.S.length+1]?=some (.blk (.lp q j) :: cs)→j.st≠.busy→∃ w4,(Instr.endLoop (w.heap.size+1)).run P w3=.ok j.pd w4 ∧
        Inv w0 M0 X (aGg s3 s.S.length) w4 M3 ι3 θ3∧TInv (aGg s3 s.S.length) w4 M3 ι3 θ3 { a with defers:=[{ target:=.collected w.heap.size,args:=#[] }]++a.defers }:=by
    intro j q cs hs hj
    have hh:hol (.blk (.lp q j) :: cs)=false:=by cases cs <;> rfl
    obtain ⟨⟨_,o1⟩,_⟩:=I3.obj _ _ hs hh
    rw [au1] at o1
    obtain ⟨L3,k1,k2,k3,_⟩:=o1
    rw [ιl3] at k1
    have hrun:(Instr.endLoop (w.heap.size+1)).run P w3=.ok j.pd (w3.putObj (w.heap.size+1) (.loop { L3 with state:=.exhausted })):=(run_endLoop (P:=P) k1 (by rw [k2]; exact hj)).trans (congrArg (fun x=>Result.ok x _) k3)
    have hlt:w.heap.size+1 < w3.heap.size:=(Array.getElem?_eq_some_iff.1 k1).1
    have hold:∀ b,b≠ι3 (s.S.length+1)→(w3.putObj (w.heap.size+1) (.loop { L3 with state:=.exhausted })).heap[b]?=w3.heap[b]?:=fun b hb=>World.putObj_heap_other (by rw [← ιl3]; exact hb)
    have hsh:Shp w3 (w3.putObj (w.heap.size+1) (.loop { L3 with state:=.exhausted })):=by
        intro b c e f hb
        by_cases hbg:b=w.heap.size+1
        · subst hbg; rw [k1] at hb; cases hb
        · exact ⟨c,e,f,(World.putObj_heap_other hbg).trans hb,rfl⟩
    have I4:=I3.setObj (cs':=[]) hs hh (w1:=w3.putObj (w.heap.size+1) (.loop { L3 with state:=.exhausted })) rfl rfl rfl World.putObj_size hold hsh (evo.nil _) (fun h=>by cases h)
    have T4:=T3.setObj (cs':=[]) I3 hs hh (w1:=w3.putObj (w.heap.size+1) (.loop { L3 with state:=.exhausted })) hold hsh (evo.nil _)
    refine ⟨_,hrun,⟨I4.os,I4.tape,I4.output,I4.size,I4.memle,I4.mem,I4.keep,I4.obj,I4.inj,I4.tok,I4.tokc,I4.one,I4.base,I4.shp⟩,⟨T4.n,?_,?_,T4.v⟩⟩
    · have:=T3.d
      rw [hd3,dl2] at this
      show [_]++a.defers=[s.S.length].map _
      rw [this,List.map_cons,ιd3]; rfl
    · intro i hi
      have hi:i∈[s.S.length]:=hi
      rw [List.mem_singleton] at hi
      subst hi
      have:=(List.getElem?_eq_some_iff.1 hs).1
      show _ < (s3.S.set _ _).length
      rw [List.length_set]; omega
   unfold aHz at hk
   split at hk
   · rename_i q cs hs
     obtain ⟨w4,e1,I4,T4⟩:=key .rdy q cs hs nofun
     exact ⟨_,w4,e1,G _ _ _ _ _ _ _ hk I4 T4⟩
   · rename_i q cs hs
     obtain ⟨w4,e1,I4,T4⟩:=key (.done .ret) q cs hs nofun
     exact ⟨_,w4,e1,wpIn_ret (G _ _ _ _ _ _ _ hk I4 T4)⟩
   · rename_i q n cs hs
     obtain ⟨w4,e1,I4,T4⟩:=key (.done (.exit n)) q cs hs nofun
     exact ⟨_,w4,e1,wpIn_exit (G _ _ _ _ _ _ _ hk I4 T4)⟩
   · cases hk
end
end Go.Proofs.Ytgmeimbamfggkaa.Den
