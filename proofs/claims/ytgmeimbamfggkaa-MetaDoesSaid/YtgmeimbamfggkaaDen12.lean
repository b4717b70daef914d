import Derived.Test.YtgmeimbamfggkaaDen11
namespace Go.Proofs.Ytgmeimbamfggkaa.Den
open Go
set_option linter.unusedVariables false
set_option linter.unusedSimpArgs false
section
variable {w0 : World} {M0:Mem} {X:Fr} {s:St} {w:World} {M:Mem} {ι:Nat→Nat} {θ:Nat→Option Nat} {a:Act}
variable {P : Program} {ρ:Type} {r:ρ} {K:St→Option ρ} {N:Act→World→Prop} {Q:Exit→Act→World→Prop} {o:Oper} {Γ:Env}
theorem ahi : ∀ (t:Ty) (vs rest:List Value),adY t vs=some rest→∃ c,vs=c++rest∧aiO M ι (zeroCells t) c∧(∀ y∈zeroCells t,flat y=true)∧∀ v∈c,v.oneCell'=true
 | .unit,vs,rest,h=>by
   have h:some vs=some rest:=h
   cases h
   exact ⟨[],rfl,⟨rfl,fun j x hx=>by simp [zeroCells] at hx⟩,by simp [zeroCells],by simp⟩
 | .pair a b,vs,rest,h=>by
   have h:(adY a vs).bind (adY b)=some rest:=h
   obtain ⟨m,h1,h2⟩:=Option.bind_eq_some_iff.1 h
   obtain ⟨c1,rfl,⟨l1,e1⟩,f1,g1⟩:=ahi a vs m h1
   obtain ⟨c2,rfl,⟨l2,e2⟩,f2,g2⟩:=ahi b m rest h2
   refine ⟨c1++c2,by simp,⟨by simp [zeroCells,l1,l2],fun j y hy=>?_⟩,fun y hy=>?_,fun v hv=>?_⟩
   · simp only [zeroCells] at hy
     by_cases hj:j < (zeroCells a).length
     · rw [List.getElem?_append_left hj] at hy
       obtain ⟨v,q1,q2⟩:=e1 j y hy
       exact ⟨v,by rw [List.getElem?_append_left (by omega)]; exact q1,q2⟩
     · rw [List.getElem?_append_right (by omega)] at hy
       obtain ⟨v,q1,q2⟩:=e2 _ y hy
       exact ⟨v,by rw [List.getElem?_append_right (by omega),l1]; exact q1,q2⟩
   · simp only [zeroCells,List.mem_append] at hy
     rcases hy with hy | hy
     · exact f1 y hy
     · exact f2 y hy
   · rcases List.mem_append.1 hv with hv | hv
     · exact g1 v hv
     · exact g2 v hv
 | .st b,vs,rest,h=>ahi b vs rest h
 | .ex,vs,rest,h=>by
   obtain ⟨c,rfl,k⟩:=ag5 (M:=M) .ex vs rest h
   obtain ⟨k1,k2⟩:=aiZ (ι:=ι) .ex _ c k
   exact ⟨c,rfl,k1,k2,an9 _ _ _ k⟩
 | .op p,vs,rest,h=>by
   obtain ⟨c,rfl,k⟩:=ag5 (M:=M) (.op p) vs rest h
   obtain ⟨k1,k2⟩:=aiZ (ι:=ι) (.op p) _ c k
   exact ⟨c,rfl,k1,k2,an9 _ _ _ k⟩
 | .bool,vs,rest,h=>by
   obtain ⟨c,rfl,k⟩:=ag5 (M:=M) .bool vs rest h
   obtain ⟨k1,k2⟩:=aiZ (ι:=ι) .bool _ c k
   exact ⟨c,rfl,k1,k2,an9 _ _ _ k⟩
 | .int n,vs,rest,h=>by
   obtain ⟨c,rfl,k⟩:=ag5 (M:=M) (.int n) vs rest h
   obtain ⟨k1,k2⟩:=aiZ (ι:=ι) (.int n) _ c k
   exact ⟨c,rfl,k1,k2,an9 _ _ _ k⟩
 | .str,vs,rest,h=>by
   obtain ⟨c,rfl,k⟩:=ag5 (M:=M) .str vs rest h
   obtain ⟨k1,k2⟩:=aiZ (ι:=ι) .str _ c k
   exact ⟨c,rfl,k1,k2,an9 _ _ _ k⟩
 | .sl t,vs,rest,h=>by
   cases vs with
   | nil=>cases h
   | cons v r =>
     have h:(if agc (.sl t) v then some r else none)=some rest:=h
     split at h
     · rename_i hv
       cases h
       have hv':v=.slice none 0 0:=by
        unfold agc at hv
        split at hv <;> simp_all
       subst hv'
       refine ⟨[.slice none 0 0],rfl,⟨rfl,fun j y hy=>?_⟩,by simp [zeroCells,flat],by simp [Value.oneCell']⟩
       cases j <;> simp [zeroCells] at hy
       subst hy
       exact ⟨_,rfl,none,0,rfl,Nat.le_refl _,Nat.zero_le _,fun _=>rfl,fun h=>absurd rfl h,fun b hb=>Option.some.inj hb,fun _=>rfl⟩
     · cases h
theorem aG9 {O:Nat→Bool} {c:Nat}:∀ {as:List TV} {V:List Value},tcs w M θ O c as V→∀ {t:Nat} {x:TV} {v:Value},as[t]?=some x→V[t]?=some v→tc w M θ O c x v
 | [],_,_,t,x,v,hx,_=>by simp at hx
 | _ :: _,[],_,t,x,v,_,hv=>by simp at hv
 | y :: as,u :: V,h,t,x,v,hx,hv=>by
   cases t with
   | zero=>simp at hx hv; subst hx hv; exact h.1
   | succ t=>exact aG9 h.2 (by simpa using hx) (by simpa using hv)
theorem axh {S:List Obj}:∀ {as:List TV} {V:List Value},abE w S as V→∀ {t:Nat} {x:TV} {v:Value},as[t]?=some x→V[t]?=some v→aaI w S x v
 | [],_,_,t,x,v,hx,_=>by simp at hx
 | _ :: _,[],_,t,x,v,_,hv=>by simp at hv
 | y :: as,u :: V,h,t,x,v,hx,hv=>by
   cases t with
   | zero=>simp at hx hv; subst hx hv; exact h.1
   | succ t=>exact axh h.2 (by simpa using hx) (by simpa using hv)
theorem axL (I:Inv w0 M0 X s w M ι θ) (T:TInv s w M ι θ a) (G:Goes w0 M0 X r K N) {vs:List Value} {e:TypeId} {cs:List TV}
 (hrun:(execOp a.eval o).run P w=.ok (.value (.pointer (some ⟨w.heap.size,0,none⟩))) (w.alloc (.cells vs.toArray e)))
 (hb:ahG cs=none) (hf:fits w M ι θ s.O s.c s.S cs vs.toArray)
 (hk:K ({ s with S:=s.S++[cs] }.put o.dst (.ptr s.S.length 0))=some r):o.wp P a w N Q:=by
 unfold Oper.wp
 rw [hrun]
 have I1:=I.alloc (vs:=vs.toArray) (e:=e) hb hf
 have T1:=T.alloc I (.cells vs.toArray e) cs
 refine G _ _ _ _ _ _ hk (I1.put _ _) (T1.put _ ?_ trivial ?_)
 · show Value.pointer (some ⟨w.heap.size,0,none⟩)=Value.pointer (some ⟨upd ι s.S.length w.heap.size s.S.length,0,none⟩)
   unfold upd
   rw [show Nat.beq s.S.length s.S.length=true by rw [Nat.beq_eq]]
   rfl
 · show s.S.length < (s.S++[cs]).length
   simp
theorem azH (I:Inv w0 M0 X s w M ι θ) (T:TInv s w M ι θ a) (G:Goes w0 M0 X r K N) {vs:List Value} {e:TypeId} {cs:List TV}
 (hrun:(execOp a.eval o).run P w=.ok (.value (.pointer (some ⟨w.heap.size,0,none⟩))) (w.alloc (.cells vs.toArray e)))
 (hc:aiO M ι cs vs) (hf:∀ y∈cs,flat y=true) (h1:∀ v∈vs,v.oneCell'=true)
 (hk:K ({ s with S:=s.S++[cs] }.put o.dst (.ptr s.S.length 0))=some r):o.wp P a w N Q :=
 axL I T G hrun (aAV hf) (aB8 hc hf h1) hk
theorem aGU (hΓ:EnvOk P Γ) (I:Inv w0 M0 X s w M ι θ) (T:TInv s w M ι θ a) (G:Goes w0 M0 X r K N) {e:TypeId} (ho:o.op=.alloc e) {t:Ty} (hn:Γ.ty e=some t)
 (hk:K ({ s with S:=s.S++[zeroCells t] }.put o.dst (.ptr s.S.length 0))=some r):o.wp P a w N Q:=by
 obtain ⟨inf,hi,_,_,_,z,hz,hz2,_,_⟩:=abz (afa (hΓ.ty _ _ hn))
 obtain ⟨c,hc,k1,k2,k3⟩:=ahi (M:=M) (ι:=ι) t _ _ hz2
 rw [List.append_nil] at hc
 refine azH I T G (vs:=c) (e:=e) ?_ k1 k2 k3 hk
 have:z.cells=c.toArray:=by rw [← hc]
 simp [execOp,ho,Instr.alloc,zeroValue,typeInfo,hi,hz,newVar,newRow,this,World.alloc,-World.alloc_eq]
theorem aiW {t:Ty} {x:TV} {y:t.D} {v:Value} (h:ofTV t x=some y) (hv:rv M ι x v):∃ cs:List Value,v=adq t cs∧rep M t cs y∧v.cells=cs.toArray:=by
 cases t with
 | bool =>
   have h':aIM x=some y:=h
   clear h
   unfold aIM at h'
   split at h'
   · have e:=Option.some.inj h'
     subst e
     exact ⟨[v],rfl,by rw [show v=_ from hv]; rfl,by rw [show v=_ from hv]; rfl⟩
   · cases h'
 | int k =>
   have h':intV k x=some y:=h
   clear h
   unfold intV at h'
   split at h'
   · rename_i k' n
     by_cases hk:k=k'
     · rw [if_pos hk] at h'
       subst hk
       have e:=Option.some.inj h'
       subst e
       exact ⟨[v],rfl,⟨by rw [hv.1],hv.2⟩,by rw [hv.1]; rfl⟩
     · rw [if_neg hk] at h'; cases h'
   · cases h'
 | str =>
   have h':strV x=some y:=h
   clear h
   unfold strV at h'
   split at h'
   · have e:=Option.some.inj h'
     subst e
     obtain ⟨p,rfl,h2⟩:=hv
     exact ⟨[.string p],rfl,⟨p,rfl,h2⟩,rfl⟩
   · cases h'
 | sl t =>
   have h':slV t x=some y:=h
   clear h
   unfold slV at h'
   split at h'
   · rename_i t' f nl l
     by_cases hk:t'=t
     · subst hk
       rw [dif_pos rfl] at h'
       have e:=Option.some.inj h'
       subst e
       obtain ⟨p,c,rfl,k1,k2,k3,k4,_⟩:=hv
       exact ⟨[.slice p (List.length l) c],rfl,⟨p,c,rfl,k1,k2,k3,k4⟩,rfl⟩
     · rw [dif_neg hk] at h'; cases h'
   · cases h'
 | st b =>
   have h':stV (.st b) x=some y:=h
   clear h
   unfold stV at h'
   split at h'
   · rename_i t' z
     by_cases hk:t'=.st b
     · subst hk
       rw [dif_pos rfl] at h'
       have e:=Option.some.inj h'
       subst e
       obtain ⟨cs,rfl,k⟩:=hv
       exact ⟨cs,rfl,k,rfl⟩
     · rw [dif_neg hk] at h'; cases h'
   · cases h'
 | ex =>
   have h':(stV (.st exB) x).map Ex.re=some y:=h
   clear h
   obtain ⟨z,h1,rfl⟩:=Option.map_eq_some_iff.1 h'
   unfold stV at h1
   split at h1
   · rename_i t' z'
     by_cases hk:t'=.st exB
     · subst hk
       rw [dif_pos rfl] at h1
       have e:=Option.some.inj h1
       subst e
       obtain ⟨cs,rfl,k⟩:=hv
       exact ⟨cs,rfl,azy.2 k,rfl⟩
     · rw [dif_neg hk] at h1; cases h1
   · cases h1
 | op p =>
   cases p with
   | false=>cases h
   | true =>
     have h':nilV x=some y:=h
     clear h
     unfold nilV at h'
     split at h'
     · exact ⟨[.pointer none],by rw [show v=.pointer none from hv]; rfl,rfl,by rw [show v=.pointer none from hv]; rfl⟩
     · cases h'
 | unit=>cases h
 | pair a b=>cases h
theorem aAl {z:TV} {v:Value} (h:ara z=true) (hv:rv M ι z v):v.oneCell'=true:=by
 cases z <;> (try (cases h; done))
 · rw [show v=_ from hv]; rfl
 · rw [hv.1]; rfl
 · obtain ⟨p',k1,_⟩:=hv; rw [k1]; rfl
 · obtain ⟨p',c',k1,_⟩:=hv; rw [k1]; rfl
 · rw [show v=_ from hv]; rfl
 · rw [show v=_ from hv]; rfl
 · rw [show v=_ from hv]; rfl
 · rename_i r i
   cases r <;> (try (cases h; done))
   have hv:v=.map (some (ι i)):=hv
   rw [hv]; rfl
theorem aE4 : ∀ {cs:List TV},(∀ z∈cs,ara z=true)→ahG cs=none
 | [],_=>rfl
 | [x],h=>(aEr fun b e=>by have:=h x (List.mem_cons_self ..); rw [e] at this; cases this).1
 | x :: y :: r,h=>(aER x y r fun q j e=>by have:=h x (List.mem_cons_self ..); rw [e] at this; cases this).1
theorem aD0 (T:TInv s w M ι θ a) {x:Operand} {t:Ty} {cs:List TV} (hy:asw t (s.ev (some t) x)=some cs):∃ us:List Value,(a.eval x).cells=us.toArray∧ahG cs=none∧fits w M ι θ s.O s.c s.S cs us.toArray:=by
 obtain ⟨h1,ht,hw⟩:=abH T (some t) x
 show ∃ us:List Value,(a.eval x).cells=us.toArray∧ahG cs=none∧fits w M ι θ s.O s.c s.S cs us.toArray
 · unfold asw at hy
   split at hy
   · rename_i l hev
     rw [hev] at h1 ht hw
     split at hy
     · rename_i hall
       cases hy
       obtain ⟨us,e1,e2⟩:=h1
       have hc:=awz e2
       have hall:∀ z∈cs,ara z=true:=List.all_eq_true.1 hall
       have ht:=ht us e1
       have hw:=hw us e1
       refine ⟨us,by rw [e1]; rfl,aE4 hall,by simpa using hc.1,fun j z hj=>?_⟩
       obtain ⟨v,k1,k2⟩:=hc.2 j z hj
       exact ⟨v,by simpa using k1,aAl (hall _ (List.mem_of_getElem? hj)) k2,k2,aG9 ht hj k1,axh hw hj k1⟩
     · cases hy
   · rename_i g l hev
     rw [hev] at h1 ht hw
     split at hy
     · cases hy
       have h1':=h1
       obtain ⟨us,e1,e2⟩:=h1
       refine ⟨[a.eval x],by rw [e1]; rfl,rfl,rfl,fun j z hj=>?_⟩
       cases j with
       | zero =>
         simp at hj
         subst hj
         exact ⟨a.eval x,rfl,by rw [e1]; rfl,h1',ht,hw⟩
       | succ j=>simp at hj
     · cases hy
   · obtain ⟨y,hy1,rfl⟩:=Option.map_eq_some_iff.1 hy
     obtain ⟨us,_,k2,k3⟩:=aiW hy1 h1
     obtain ⟨q1,q2⟩:=aiZ (ι:=ι) t y us k2
     exact ⟨us,k3,aAV q2,aB8 q1 q2 (an9 t us y k2)⟩
theorem aJv (hΓ:EnvOk P Γ) (I:Inv w0 M0 X s w M ι θ) (T:TInv s w M ι θ a) (G:Goes w0 M0 X r K N) {e:TypeId} {x:Operand} (ho:o.op=.box e x) {t:Ty} {cs:List TV} (hy:asw t (s.ev (some t) x)=some cs)
 (hk:K ({ s with S:=s.S++[cs] }.put o.dst (.ptr s.S.length 0))=some r):o.wp P a w N Q:=by
 obtain ⟨us,k3,q1,q2⟩:=aD0 T hy
 refine axL I T G (vs:=us) (e:=e) ?_ q1 q2 hk
 simp [execOp,ho,Instr.box,newVar,newRow,k3,World.alloc,-World.alloc_eq]
def fitL (w:World) (M:Mem) (ι:Nat→Nat) (θ:Nat→Option Nat) (s:St):List TV→List Value→Prop
 | [],vs=>vs=[]
 | x :: xs,vs=>∃ v r,vs=v :: r∧v.oneCell'=true∧rv M ι x v∧tc w M θ s.O s.c x v∧aaI w s.S x v∧fitL w M ι θ s xs r
theorem aFZ : ∀ {cs:List TV} {us:List Value},fits w M ι θ s.O s.c s.S cs us.toArray→fitL w M ι θ s cs us
 | [],us,h=>by
   have:us.length=0:=by simpa using h.1
   exact List.eq_nil_of_length_eq_zero this
 | x :: cs,us,h=>by
   obtain ⟨v,k1,k2⟩:=h.2 0 x rfl
   cases us with
   | nil=>simp at k1
   | cons u us =>
     simp at k1
     subst k1
     refine ⟨u,us,rfl,k2.1,k2.2.1,k2.2.2.1,k2.2.2.2,aFZ ⟨by simpa using h.1,fun j y hj=>?_⟩⟩
     obtain ⟨v',q1,q2⟩:=h.2 (j+1) y (by simpa using hj)
     exact ⟨v',by simpa using q1,q2⟩
theorem aF0 : ∀ {cs:List TV} {us:List Value},fitL w M ι θ s cs us→fits w M ι θ s.O s.c s.S cs us.toArray
 | [],us,h=>by
   have h:us=[]:=h
   subst h
   exact ⟨rfl,fun j x hx=>by simp at hx⟩
 | x :: cs,us,h=>by
   obtain ⟨v,r,rfl,k1,k2,k3,k4,k5⟩:=h
   obtain ⟨l,q⟩:=aF0 k5
   refine ⟨by simpa using l,fun j y hj=>?_⟩
   cases j with
   | zero=>simp at hj; subst hj; exact ⟨v,rfl,k1,k2,k3,k4⟩
   | succ j =>
     obtain ⟨u,q1,q2⟩:=q j y (by simpa using hj)
     exact ⟨u,by simpa using q1,q2⟩
theorem aB7 {ι':Nat→Nat} {S':List Obj} (hι:∀ i,i < s.S.length→ι' i=ι i) (hS:Ext s.S S'):∀ {cs:List TV} {us:List Value},fitL w M ι θ s cs us→fitL w M ι' θ { s with S:=S' } cs us
 | [],us,h=>h
 | x :: cs,us,h=>by
   obtain ⟨v,r,rfl,k1,k2,k3,k4,k5⟩:=h
   exact ⟨v,r,rfl,k1,asi hι x v k4 k2,k3,abK (Shp.refl _) hS x v k4,aB7 hι hS k5⟩
theorem aDz {m:Nat}:∀ (cs:List TV) (us:List Value) (j:Nat) (s:St) (ι:Nat→Nat),Inv w0 M0 X s w M ι θ→TInv s w M ι θ a→fitL w M ι θ s cs us →
 ∃ ι',(∀ i,i < s.S.length→ι' i=ι i)∧Inv w0 M0 X { s with S:=s.S++(rowC m j s.S.length cs).2 } w M ι' θ∧TInv { s with S:=s.S++(rowC m j s.S.length cs).2 } w M ι' θ a ∧
   fitL w M ι' θ { s with S:=s.S++(rowC m j s.S.length cs).2 } (rowC m j s.S.length cs).1 us
 | [],us,j,s,ι,I,T,h=>by
   show ∃ ι',_∧Inv w0 M0 X { s with S:=s.S++[] } w M ι' θ∧TInv { s with S:=s.S++[] } w M ι' θ a∧fitL w M ι' θ { s with S:=s.S++[] } [] us
   rw [List.append_nil]
   exact ⟨ι,fun _ _=>rfl,I,T,h⟩
 | x :: cs,us,j,s,ι,I,T,h=>by
   obtain ⟨v,r,rfl,k1,k2,k3,k4,k5⟩:=h
   have same:(rowC m j s.S.length (x :: cs))=(x :: (rowC m (j+1) s.S.length cs).1,(rowC m (j+1) s.S.length cs).2) →
        ∃ ι',(∀ i,i < s.S.length→ι' i=ι i)∧Inv w0 M0 X { s with S:=s.S++(rowC m j s.S.length (x :: cs)).2 } w M ι' θ∧TInv { s with S:=s.S++(rowC m j s.S.length (x :: cs)).2 } w M ι' θ a ∧
          fitL w M ι' θ { s with S:=s.S++(rowC m j s.S.length (x :: cs)).2 } (rowC m j s.S.length (x :: cs)).1 (v :: r):=by
     intro e
     obtain ⟨ι',q1,q2,q3,q4⟩:=aDz cs r (j+1) s ι I T k5
     rw [e]
     have hext:Ext s.S (s.S++(rowC m (j+1) s.S.length cs).2):=⟨by simp,fun i c c1 h1 h2=>by
        rw [List.getElem?_append_left (List.getElem?_eq_some_iff.1 h1).1,h1] at h2
        cases h2; exact evo.refl _⟩
     exact ⟨ι',q1,q2,q3,v,r,rfl,k1,asi q1 x v k4 k2,k3,abK (Shp.refl _) hext x v k4,q4⟩
   cases x with
   | sl t f nl l =>
     cases f with
     | full =>
       cases hb:(l.isEmpty&&Nat.beq (m / 2 ^ j % 2) 1) with
       | false=>exact same (by simp only [rowC,hb,cond_false])
       | true =>
         rw [Bool.and_eq_true] at hb
         have hl:l=[]:=List.isEmpty_iff.1 hb.1
         subst hl
         obtain ⟨p,c,e1,e2,e3,e4,e5,e6,e7⟩:=k2
         have hc:c=0:=e7 rfl
         subst hc
         have hol1:hol [TV.blk (.row t [])]=true:=rfl
         have I1:=I.newObj (w1:=w) (cs:=[TV.blk (.row t [])]) (g:=0) rfl rfl rfl (Nat.le_refl _) (Shp.refl _) (fun _ _ _=>rfl) (fun h=>by rw [hol1] at h; cases h) (fun h=>by rw [hol1] at h; cases h)
         have T1:=T.newObj I (w1:=w) (cs:=[TV.blk (.row t [])]) (g:=0) (Shp.refl _) (fun _ _ _=>rfl) (fun h=>by rw [hol1] at h; cases h)
         have hext1:Ext s.S (s.S++[[TV.blk (.row t [])]]):=Ext.more _ _
         have k5':=aB7 (ι':=upd ι s.S.length 0) (fun i hi=>aso hi) hext1 k5
         have hlen:(s.S++[[TV.blk (.row t [])]]).length=s.S.length+1:=by simp
         obtain ⟨ι',q1,q2,q3,q4⟩:=aDz (m:=m) cs r (j+1) { s with S:=s.S++[[TV.blk (.row t [])]] } _ I1 T1 k5'
         have e:rowC m j s.S.length (.sl t .full nl [] :: cs)=(.ref (.asv t 0 0) s.S.length :: (rowC m (j+1) (s.S.length+1) cs).1,[TV.blk (.row t [])] :: (rowC m (j+1) (s.S.length+1) cs).2):=by
            have:(([]:List t.D).isEmpty&&Nat.beq (m / 2 ^ j % 2) 1)=true:=by rw [hb.2]; rfl
            simp only [rowC,this,cond_true]
         simp only [hlen] at q1 q2 q3 q4
         rw [e]
         simp only
         have hS:s.S++[TV.blk (.row t [])] :: (rowC m (j+1) (s.S.length+1) cs).2=s.S++[[TV.blk (.row t [])]]++(rowC m (j+1) (s.S.length+1) cs).2:=by simp
         rw [hS]
         refine ⟨ι',fun i hi=>(q1 i (by omega)).trans (aso hi),q2,q3,v,r,rfl,k1,⟨p,0,0,e1,fun h=>absurd rfl h⟩,trivial,⟨by simp,fun l' _=>⟨p,0,e1,Nat.le_refl _,by omega,Nat.zero_le _,fun _=>rfl,fun h=>absurd rfl h⟩⟩,q4⟩
     | sh=>exact same rfl
     | own q=>exact same rfl
   | _=>exact same rfl
theorem aJr {m:Nat}:∀ (cs:List TV) (j n:Nat),(∀ b r,cs≠.blk b :: r)→∀ b r,(rowC m j n cs).1≠.blk b :: r
 | [],_,_,_,b,r=>by simp [rowC]
 | x :: cs,j,n,h,b,r=>by
   unfold rowC
   split
   · cases (List.isEmpty _&&Nat.beq (m / 2 ^ j % 2) 1) <;> simp
   · intro e
     injection e with e _
     exact h b cs (by rw [e])
theorem aHW {m:Nat}:∀ (cs:List TV) (j n:Nat),(∀ b,cs≠[.blk b])→∀ b,(rowC m j n cs).1≠[.blk b]
 | [],_,_,_,b=>by simp [rowC]
 | x :: y :: r,j,n,_,b=>by
   have hl:∀ (cs:List TV) (j n:Nat),(rowC m j n cs).1.length=cs.length:=by
     intro cs
     induction cs with
     | nil=>intro j n; rfl
     | cons z zs ih =>
       intro j n
       unfold rowC
       split
       · cases (List.isEmpty _&&Nat.beq (m / 2 ^ j % 2) 1) <;> simp [ih]
       · simp [ih]
   intro e
   have:=hl (x :: y :: r) j n
   rw [e] at this
   simp at this
 | [x],j,n,h,b=>by
   unfold rowC
   split
   · cases (List.isEmpty _&&Nat.beq (m / 2 ^ j % 2) 1) <;> simp
   · intro e
     injection e with e _
     exact h b (by rw [e])
theorem aH1 (hΓ:EnvOk P Γ) (I:Inv w0 M0 X s w M ι θ) (T:TInv s w M ι θ a) (G:Goes w0 M0 X r K N) {e:TypeId} {x:Operand} (ho:o.op=.box e x) {t:Ty} {cs:List TV} (hy:asw t (s.ev (some t) x)=some cs) {m:Nat}
 (hk:boxR s o.dst (rowC m 0 s.S.length cs) K=some r):o.wp P a w N Q:=by
 obtain ⟨us,k3,q1,q2⟩:=aD0 T hy
 obtain ⟨ι',_,I1,T1,h1⟩:=aDz (m:=m) cs us 0 s ι I T (aFZ q2)
 unfold Oper.wp
 have hrun:(execOp a.eval o).run P w=.ok (.value (.pointer (some ⟨w.heap.size,0,none⟩))) (w.alloc (.cells us.toArray e)):=by
  simp [execOp,ho,Instr.box,newVar,newRow,k3,World.alloc,-World.alloc_eq]
 rw [hrun]
 have hb:ahG (rowC m 0 s.S.length cs).1=none:=by
  have hn:=aHW (m:=m) cs 0 s.S.length (fun b e=>by rw [e] at q1; cases q1)
  have hn2:=aJr (m:=m) cs 0 s.S.length (fun b r e=>by
   obtain ⟨v,_,_,k,_⟩:=q2.2 0 (.blk b) (by rw [e]; rfl)
   exact k)
  generalize (rowC m 0 s.S.length cs).1=zs at hn hn2
  match zs,hn with
  | [],_=>rfl
  | [z],hn=>exact (aEr fun b e=>hn b (by rw [e])).1
  | z :: y :: r,hn=>exact (aER z y r fun q j e=>hn2 _ _ (by rw [e])).1
 have I2:=I1.alloc (vs:=us.toArray) (e:=e) hb (aF0 h1)
 have T2:=T1.alloc I1 (.cells us.toArray e) (rowC m 0 s.S.length cs).1
 have hlen:(s.S++(rowC m 0 s.S.length cs).2).length=s.S.length+(rowC m 0 s.S.length cs).2.length:=by simp
 refine G _ _ _ _ _ _ hk (I2.put _ _) (T2.put _ ?_ trivial ?_)
 · show Value.pointer (some ⟨w.heap.size,0,none⟩)=Value.pointer (some ⟨upd ι' (s.S++(rowC m 0 s.S.length cs).2).length w.heap.size (s.S.length+(rowC m 0 s.S.length cs).2.length),0,none⟩)
   rw [← hlen]
   unfold upd
   rw [show Nat.beq _ _=true by rw [Nat.beq_eq]]
   rfl
 · show s.S.length+(rowC m 0 s.S.length cs).2.length < (s.S++(rowC m 0 s.S.length cs).2++[_]).length
   simp
theorem aqs {α:Type}:∀ (l:List α) (p:Nat) (cs l':List α),atK l p cs=some l'→p+cs.length≤l.length∧l'=l.take p++cs++l.drop (p+cs.length)
 | l,0,cs,l',h=>by
   have h:(if cs.length≤l.length then some (cs++l.drop cs.length) else none)=some l':=by
    cases l <;> exact h
   split at h
   · cases h; exact ⟨by omega,by simp⟩
   · cases h
 | x :: l,p+1,cs,l',h=>by
   have h:((atK l p cs).bind fun r=>some (x :: r))=some l':=h
   obtain ⟨m,h1,h2⟩:=Option.bind_eq_some_iff.1 h
   cases h2
   obtain ⟨k1,k2⟩:=aqs l p cs m h1
   refine ⟨by simp; omega,?_⟩
   rw [k2]
   simp [Nat.add_right_comm]
 | [],_+1,_,_,h=>by cases h
theorem aGZ (hΓ:EnvOk P Γ) (I:Inv w0 M0 X s w M ι θ) (T:TInv s w M ι θ a) (G:Goes w0 M0 X r K N) {n:TypeId} {x y:Operand} (ho:o.op=.store n x y) {i p:Nat} {cs vs cs':List TV} {tn:Option Ty}
 (hx:s.ev none x=.ptr i p) (hs:s.S[i]?=some cs) (hp:plain cs=true) (hv:aDa (s.ev tn y)=some vs) (hsp:atK cs p vs=some cs') (hst:asH Γ n (s.ev tn y)=true)
 (hk:K ({ s with S:=s.S.set i cs' }.put o.dst .skip)=some r):o.wp P a w N Q:=by
 obtain ⟨h1,_,_⟩:=abH T none x
 obtain ⟨h2,h2t,h2w⟩:=abH T tn y
 rw [hx] at h1
 have h1:a.eval x=.pointer (some ⟨ι i,p,none⟩):=h1
 obtain ⟨p1,p2⟩:=ah8 hp
 obtain ⟨row,e,g1,g2,g5⟩:=(I.obj i cs hs p1).1.cells p2
 obtain ⟨hlen,hcs'⟩:=aqs _ _ _ _ hsp
 have hval:∃ us:List Value,(a.eval y).cells=us.toArray∧us.length=vs.length∧(∀ v∈us,v.oneCell'=true) ∧
  (∀ (j:Nat) z,vs[j]?=some z→∃ v,us[j]?=some v∧rv M ι z v∧tc w M θ s.O s.c z v∧aaI w s.S z v)∧(sizeOf n).run P w=.ok us.length w:=by
  cases hev:s.ev tn y with
  | st t d =>
    rw [hev] at h2 hv hst
    obtain ⟨us,k1,k2⟩:=h2
    have hv:some (cells t d)=some vs:=hv
    cases hv
    obtain ⟨⟨q1,q2⟩,q3⟩:=aiZ (ι:=ι) t d us k2
    have hsize:(sizeOf n).run P w=.ok t.size w:=by
        unfold asH at hst
        rw [Bool.or_eq_true,decide_eq_true_eq] at hst
        rcases hst with hst | hst
        · exact aet (hΓ.ty _ _ hst) w
        · split at hst
          · rename_i b m en hn
            have hst:t=.st b:=by simpa using hst
            subst hst
            obtain ⟨inf,hi,hsz,_⟩:=abz (hΓ.ar _ _ _ _ hn).2.2.1
            simp [sizeOf,typeInfo,hi,hsz]
          · cases hst
    refine ⟨us,by rw [k1]; rfl,q1,an9 t us d k2,fun j z hz=>?_,?_⟩
    · obtain ⟨v,m1,m2⟩:=q2 j z hz
      have hf:=q3 z (List.mem_of_getElem? hz)
      obtain ⟨f1,f2⟩:=awB (s:=s) (w:=w) (M:=M) (θ:=θ) hf v s.S
      exact ⟨v,m1,m2,f1,f2⟩
    · rw [hsize,aat t us d k2]
  | undef=>rw [hev] at hv; cases hv
  | skip=>rw [hev] at hv; cases hv
  | tup l=>rw [hev] at hv; cases hv
  | ag l =>
    rw [hev] at h2 h2t h2w hv hst
    have hv:(if l.all ara then some l else none)=some vs:=hv
    split at hv
    · rename_i hall
      cases hv
      obtain ⟨us,e1,e2⟩:=h2
      have hc:=awz e2
      have hall:∀ z∈vs,ara z=true:=List.all_eq_true.1 hall
      have ht:=h2t us e1
      have hw:=h2w us e1
      refine ⟨us,by rw [e1]; rfl,hc.1,fun v hv=>?_,fun j z hj=>?_,?_⟩
      · obtain ⟨j,hj⟩:=List.getElem?_of_mem hv
        have hjl:j < vs.length:=by rw [← hc.1]; exact (List.getElem?_eq_some_iff.1 hj).1
        obtain ⟨v',k1,k2⟩:=hc.2 j _ (List.getElem?_eq_getElem hjl)
        rw [hj] at k1
        cases k1
        exact aAl (hall _ (List.getElem_mem hjl)) k2
      · obtain ⟨v,k1,k2⟩:=hc.2 j z hj
        exact ⟨v,k1,k2,aG9 ht hj k1,axh hw hj k1⟩
      · have hst:(match Γ.ty n with | some (.st b)=>Nat.beq b.size vs.length | _=>false)=true:=hst
        split at hst
        · rename_i b hn
          rw [aet (hΓ.ty _ _ hn),hc.1,← Nat.eq_of_beq_eq_true hst]; rfl
        · cases hst
    · cases hv
  | blk l=>rw [hev] at hv; cases hv
  | ref rf i =>
    rw [hev] at h2 h2t h2w hv hst
    cases hv
    have hone:Γ.one n=true:=hst
    obtain ⟨d,inf,hu,hd,hi,hsz⟩:=hΓ.one n hone
    have hc1:(a.eval y).oneCell'=true∧(a.eval y).cells=#[a.eval y]:=by
        have h2:rfv (ι i) rf (a.eval y):=h2
        cases rf with
        | asl t=>obtain ⟨A,m,c,k,_⟩:=h2; rw [k]; exact ⟨rfl,rfl⟩
        | asv t b m=>obtain ⟨A,m,c,k,_⟩:=h2; rw [k]; exact ⟨rfl,rfl⟩
        | pel t j f=>rw [show a.eval y=_ from h2]; exact ⟨rfl,rfl⟩
        | one t=>obtain ⟨c,k,_⟩:=h2; rw [k]; exact ⟨rfl,rfl⟩
        | mp kt vt=>rw [show a.eval y=_ from h2]; exact ⟨rfl,rfl⟩
        | yl=>rw [show a.eval y=_ from h2]; exact ⟨rfl,rfl⟩
    refine ⟨[a.eval y],hc1.2,rfl,by simpa using hc1.1,fun j z hz=>?_,by simp [sizeOf,typeInfo,hi,hsz]⟩
    cases j <;> simp at hz
    subst hz
    exact ⟨_,rfl,h2,h2t,h2w⟩
  | _ =>
    rw [hev] at h2 h2t h2w hv hst
    cases hv
    have hone:Γ.one n=true:=hst
    obtain ⟨d,inf,hu,hd,hi,hsz⟩:=hΓ.one n hone
    have hc1:(a.eval y).oneCell'=true∧(a.eval y).cells=#[a.eval y]:=by
      first
       | (rw [show a.eval y=_ from h2]; exact ⟨rfl,rfl⟩)
       | (rw [h2.1]; exact ⟨rfl,rfl⟩)
       | (obtain ⟨p',k1,_⟩:=h2; rw [k1]; exact ⟨rfl,rfl⟩)
       | (obtain ⟨p',c',k1,_⟩:=h2; rw [k1]; exact ⟨rfl,rfl⟩)
       | (obtain ⟨p',c',vs',k1,_⟩:=h2; rw [k1]; exact ⟨rfl,rfl⟩)
    refine ⟨[a.eval y],hc1.2,rfl,by simpa using hc1.1,fun j z hz=>?_,by simp [sizeOf,typeInfo,hi,hsz]⟩
    cases j <;> simp at hz
    subst hz
    exact ⟨_,rfl,h2,h2t,h2w⟩
 obtain ⟨us,u1,u2,u3,u4,u5⟩:=hval
 have hfit:p+0+us.length≤row.size:=by rw [u2]; omega
 have hrun:=run_storeCells_at (P:=P) (ι i) p e us 0 row w g1 hfit u3
 simp only [Nat.add_zero] at hrun
 have hex:(execOp a.eval o).run P w=.ok .skip (w.setRow (ι i) (row.toList.take p++us++row.toList.drop (p+us.length)).toArray):=by
  have hsz:¬ ((a.eval y).cells.size≠us.length):=by rw [u1]; simp
  simp only [execOp,ho,h1,Instr.storeAt,Instr.sureAddr,Sem.run_bind,Sem.run_pure,Result.andThen_ok,storeVar,u5,if_neg hsz]
  rw [u1]
  simp only [List.toList_toArray] at hrun ⊢
  rw [hrun]
  rfl
 unfold Oper.wp
 rw [hex]
 have hold:∀ b,b≠ι i→(w.setRow (ι i) (row.toList.take p++us++row.toList.drop (p+us.length)).toArray).heap[b]?=w.heap[b]?:=fun b hb=>setRow_other w _ b _ hb
 have hnew:=setRow_heap w (ι i) row (row.toList.take p++us++row.toList.drop (p+us.length)).toArray e (0,0) g1
 have hpl:(row.toList.take p).length=p:=by rw [List.length_take,Array.length_toList]; omega
 have hpc:(cs.take p).length=p:=by rw [List.length_take]; omega
 have hfits:aJQ w M ι θ s.O s.c s.S cs' (row.toList.take p++us++row.toList.drop (p+us.length)).toArray:=by
  constructor
  · rw [hcs']; simp only [List.size_toArray,List.length_append,hpl,hpc,u2,List.length_drop,Array.length_toList]; omega
  · intro j z hz
    rw [hcs',List.append_assoc] at hz
    rw [List.append_assoc]
    by_cases hj:j < p
    · rw [List.getElem?_append_left (by omega),List.getElem?_take_of_lt hj] at hz
      obtain ⟨v,q1,q2⟩:=g5 j z hz
      refine ⟨v,?_,q2⟩
      rw [List.getElem?_toArray,List.getElem?_append_left (by omega),List.getElem?_take_of_lt hj]
      simpa using q1
    · rw [List.getElem?_append_right (by omega),hpc] at hz
      by_cases hj2:j - p < vs.length
      · rw [List.getElem?_append_left hj2] at hz
        obtain ⟨v,q1,q2,q3,q4⟩:=u4 _ z hz
        refine ⟨v,?_,u3 v (List.mem_of_getElem? q1),q2,q3,q4⟩
        rw [List.getElem?_toArray,List.getElem?_append_right (by omega),hpl,List.getElem?_append_left (by omega)]
        exact q1
      · rw [List.getElem?_append_right (by omega),List.getElem?_drop] at hz
        obtain ⟨v,q1,q2⟩:=g5 _ z hz
        refine ⟨v,?_,q2⟩
        rw [List.getElem?_toArray,List.getElem?_append_right (by omega),hpl,List.getElem?_append_right (by omega),List.getElem?_drop,u2]
        simpa using q1
 have hp4:∀ b r,cs'≠.blk b :: r:=by
  rintro b r rfl
  obtain ⟨v,_,_,k,_⟩:=hfits.2 0 (.blk b) rfl
  exact k
 have hp':plain cs'=true:=by
  have hne:cs'≠[]:=by
   rintro rfl
   have:=congrArg List.length hcs'
   simp at this
   cases cs with
   | nil=>simp [Den.hol] at p1
   | cons _ _=>simp at this hlen; omega
  exact aEt hne hp4
 have hshp:Shp w (w.setRow (ι i) (row.toList.take p++us++row.toList.drop (p+us.length)).toArray):=by
  intro b c e' f hb
  by_cases hbi:b=ι i
  · subst hbi
    rw [g1] at hb
    cases hb
    refine ⟨_,_,_,hnew,?_⟩
    simp only [List.size_toArray,List.length_append,hpl,List.length_drop,Array.length_toList]
    omega
  · exact ⟨c,e',f,(hold b hbi).trans hb,rfl⟩
 have he:evo cs cs':=⟨fun t l e=>absurd e (hp4 _ _),fun h=>absurd h (by rw [p1]; simp)⟩
 have I1:=I.store hs hp (w1:=w.setRow (ι i) (row.toList.take p++us++row.toList.drop (p+us.length)).toArray) rfl rfl rfl (by rw [setRow_size]) hold hshp hnew hfits hp'
 have T1:=T.setObj I hs p1 (cs':=cs') hold hshp he
 exact G _ _ _ _ _ _ hk (I1.put _ _) (T1.put _ rfl trivial trivial)
end
end Go.Proofs.Ytgmeimbamfggkaa.Den
