import Derived.Test.YtgmeimbamfggkaaDen13d
import Derived.MapKept
namespace Go.Proofs.Ytgmeimbamfggkaa.Den
open Go
section
variable {w0 : World} {M0:Mem} {X:Fr} {s:St} {w:World} {M:Mem} {ι:Nat→Nat} {θ:Nat→Option Nat} {a:Act}
variable {P : Program} {ρ:Type} {r:ρ} {K:St→Option ρ} {N:Act→World→Prop} {Q:Exit→Act→World→Prop} {o:Oper} {Γ:Env} {E:Table} {dr:Bool}
mutual
theorem aIP (em:Bool):∀ (t:Ty) (n:TypeId) (d:Nat) (cs:List Value) (x:t.D),tyOk P t n=true→t.cmp=true→t.dep < d+1→rep M t cs x→(Instr.checkKey em (d+1) n (adq t cs)).run P w=.ok () w
 | .bool,n,d,cs,x,ht,_,_,h1=>by
   rw [show cs=[.bool x] from h1]
   unfold Instr.checkKey
   simp only [Sem.run_bind,run_underlying (alY ht),Result.andThen_ok]
   rfl
 | .int k,n,d,cs,x,ht,_,_,h1=>by
   rw [h1.1]
   unfold Instr.checkKey
   simp only [Sem.run_bind,run_underlying (aj_ ht),Result.andThen_ok]
   rfl
 | .str,n,d,cs,x,ht,_,_,h1=>by
   obtain ⟨p,rfl,_⟩:=h1
   unfold Instr.checkKey
   simp only [Sem.run_bind,run_underlying (ag4 ht),Result.andThen_ok]
   rfl
 | .sl t,_,_,_,_,_,hc,_,_=>by simp [Ty.cmp] at hc
 | .ex,_,_,_,_,_,hc,_,_=>by simp [Ty.cmp] at hc
 | .op _,_,_,_,_,_,hc,_,_=>by simp [Ty.cmp] at hc
 | .unit,_,_,_,_,ht,_,_,_=>by simp [tyOk] at ht
 | .pair _ _,_,_,_,_,ht,_,_,_=>by simp [tyOk] at ht
 | .st b,n,d,cs,x,ht,hc,hd,h1=>by
   obtain ⟨fs,hu,hf,hso⟩:=ak7 ht
   have hc':b.cmp=true:=by simp [Ty.cmp] at hc; exact hc.1
   obtain ⟨d,rfl⟩:∃ e,d=e+1:=⟨d - 1,by simp [Ty.dep] at hd; omega⟩
   unfold Instr.checkKey
   simp only [Sem.run_bind,run_underlying hu,Result.andThen_ok]
   have:=aIi em b fs.toList 0 d [] cs x hf hc' (by simp [Ty.dep] at hd; omega) h1 rfl
   show Sem.run _ _ _=_
   rw [show adq (.st b) cs=.agg cs.toArray from rfl]
   simp only
   rw [← Array.forIn_toList,Sem.run_bind]
   rw [show cs.toArray=([]++cs).toArray from rfl,this]
   rfl
theorem aIi (em:Bool):∀ (b:Ty) (fs:List Field) (o d:Nat) (p cs:List Value) (x:b.D),abT P b fs o=true→b.cmp=true→b.dep < d+1→rep M b cs x→p.length=o →
 (forIn (m:=Sem) fs PUnit.unit fun (f:Field) (_:PUnit) => 
  if f.name ≠ "_" then (do
        let l ← part f.type (p++cs).toArray f.offset
        Instr.checkKey em (d+1) f.type l
        pure (ForInStep.yield PUnit.unit)) else pure (ForInStep.yield PUnit.unit)).run P w=.ok PUnit.unit w
 | .unit,[],_,_,_,_,_,_,_,_,_,_=>rfl
 | .unit,_ :: _,_,_,_,_,_,h,_,_,_,_=>by simp [abT] at h
 | .pair a b,[],_,_,_,_,_,h,_,_,_,_=>by simp [abT] at h
 | .pair a b,f :: fs,o,d,p,cs,x,h,hc,hd,h1,hp=>by
   simp only [abT,Bool.and_eq_true,decide_eq_true_eq] at h
   obtain ⟨⟨⟨⟨ho,hn⟩,_⟩,ht⟩,hr⟩:=h
   obtain ⟨c1,c2,rfl,k1,k2⟩:=h1
   simp only [Ty.cmp,Bool.and_eq_true] at hc
   have hda:a.dep < d+1:=Nat.lt_of_le_of_lt (Nat.le_max_left _ _) hd
   have hdb:b.dep < d+1:=Nat.lt_of_le_of_lt (Nat.le_max_right _ _) hd
   have e1:=aoa (P:=P) (w:=w) ht (aat a c1 _ k1) p c2
   rw [List.append_assoc,hp] at e1
   have e3:=aIP em a f.type d c1 x.1 ht hc.1 hda k1
   have e4:=aIi em b fs (o+a.size) d (p++c1) c2 x.2 hr hc.2 hdb k2
    (by rw [List.length_append,hp,aat a c1 _ k1])
   rw [List.append_assoc] at e4
   rw [List.forIn_cons]
   simp only [if_pos hn,Sem.run_bind,ho,e1,Result.andThen_ok,e3,Sem.run_pure]
   exact e4
 | .bool,_,_,_,_,_,_,h,_,_,_,_=>by simp [abT] at h
 | .int _,_,_,_,_,_,_,h,_,_,_,_=>by simp [abT] at h
 | .str,_,_,_,_,_,_,h,_,_,_,_=>by simp [abT] at h
 | .sl _,_,_,_,_,_,_,h,_,_,_,_=>by simp [abT] at h
 | .st _,_,_,_,_,_,_,h,_,_,_,_=>by simp [abT] at h
 | .ex,_,_,_,_,_,_,h,_,_,_,_=>by simp [abT] at h
 | .op _,_,_,_,_,_,_,h,_,_,_,_=>by simp [abT] at h
end
theorem au8 : ∀ (t:Ty),t.cmp=true→∀ (x y:t.D),t.decEq x y=true→x=y
 | .bool,_,x,y,h=>(by have h:@Eq Bool x y:=(by simpa [Ty.decEq,beqB] using h); exact h)
 | .int k,_,x,y,h=>(by have h:@Eq Int x y:=(by simpa [Ty.decEq,beqI] using h); exact h)
 | .str,_,x,y,h=>(by have h:@Eq (List Int) x y:=(by simpa [Ty.decEq,beqL] using h); exact h)
 | .sl _,hc,_,_,_=>by simp [Ty.cmp] at hc
 | .ex,hc,_,_,_=>by simp [Ty.cmp] at hc
 | .op _,hc,_,_,_=>by simp [Ty.cmp] at hc
 | .unit,_,x,y,_=>rfl
 | .pair a b,hc,x,y,h=>by
   simp only [Ty.cmp,Bool.and_eq_true] at hc
   simp only [Ty.decEq,Bool.and_eq_true] at h
   exact Prod.ext (au8 a hc.1 _ _ h.1) (au8 b hc.2 _ _ h.2)
 | .st b,hc,x,y,h=>by
   simp only [Ty.cmp,Bool.and_eq_true] at hc
   exact au8 b hc.1 x y h
theorem au3 {p q:ByteArray} (h:aaz p=aaz q):p=q:=by
 have h:=axj.1 h
 obtain ⟨⟨p⟩⟩:=p
 obtain ⟨⟨q⟩⟩:=q
 simp at h
 rw [h]
theorem aBy : ∀ (t:Ty),t.cmp=true→∀ (cs us:List Value) (x:t.D),rep M t cs x→rep M t us x→cs=us
 | .bool,_,cs,us,x,h,k=>(show cs=[.bool x] from h).trans (show us=[.bool x] from k).symm
 | .int _,_,cs,us,x,h,k=>h.1.trans k.1.symm
 | .str,_,cs,us,x,h,k=>by
   obtain ⟨p,rfl,h1,_⟩:=h
   obtain ⟨q,rfl,k1,_⟩:=k
   rw [au3 (h1.symm.trans k1)]
 | .sl _,hc,_,_,_,_,_=>by simp [Ty.cmp] at hc
 | .ex,hc,_,_,_,_,_=>by simp [Ty.cmp] at hc
 | .op _,hc,_,_,_,_,_=>by simp [Ty.cmp] at hc
 | .unit,_,cs,us,_,h,k=>(show cs=[] from h).trans (show us=[] from k).symm
 | .pair a b,hc,cs,us,x,h,k=>by
   simp only [Ty.cmp,Bool.and_eq_true] at hc
   obtain ⟨c1,c2,rfl,h1,h2⟩:=h
   obtain ⟨u1,u2,rfl,k1,k2⟩:=k
   rw [aBy a hc.1 _ _ _ h1 k1,aBy b hc.2 _ _ _ h2 k2]
 | .st b,hc,cs,us,x,h,k=>by
   simp only [Ty.cmp,Bool.and_eq_true] at hc
   exact aBy b hc.1 cs us x h k
theorem aqo : ∀ (t:Ty),t.cmp=true→∀ (cs:List Value) (x:t.D),rep M t cs x→∀ v∈cs,∀ n,Instr.sameBits n v v=true
 | .bool,_,cs,x,h,v,hv,n=>by rw [show cs=[.bool x] from h] at hv; simp at hv; subst hv; cases n <;> exact beq_self_eq_true (α:=Bool) x
 | .int _,_,cs,x,h,v,hv,n=>by
   rw [h.1] at hv; simp at hv; subst hv
   have:(@BEq.beq Int _ x x)=true:=@beq_self_eq_true Int _ _ x
   cases n <;> simp only [Instr.sameBits,beq_self_eq_true,Bool.true_and] <;> exact this
 | .str,_,cs,x,h,v,hv,n=>by
   obtain ⟨p,rfl,_⟩:=h
   simp at hv; subst hv; cases n <;> exact (MapKept.bytes_beq _ _).2 rfl
 | .sl _,hc,_,_,_,_,_,_=>by simp [Ty.cmp] at hc
 | .ex,hc,_,_,_,_,_,_=>by simp [Ty.cmp] at hc
 | .op _,hc,_,_,_,_,_,_=>by simp [Ty.cmp] at hc
 | .unit,_,cs,_,h,v,hv,_=>by rw [show cs=[] from h] at hv; simp at hv
 | .pair a b,hc,cs,x,h,v,hv,n=>by
   simp only [Ty.cmp,Bool.and_eq_true] at hc
   obtain ⟨c1,c2,rfl,h1,h2⟩:=h
   rw [List.mem_append] at hv
   rcases hv with hv | hv
   · exact aqo a hc.1 _ _ h1 v hv n
   · exact aqo b hc.2 _ _ h2 v hv n
 | .st b,hc,cs,x,h,v,hv,n=>by
   simp only [Ty.cmp,Bool.and_eq_true] at hc
   exact aqo b hc.1 cs x h v hv n
theorem axR {α:Type} {p:α×α→Bool}:∀ (l:List α),(∀ v∈l,p (v,v)=true)→(l.zip l).all p=true
 | [],_=>rfl
 | v :: l,h=>by
   rw [List.zip_cons_cons,List.all_cons,h v (.head _),axR l fun u hu=>h u (.tail _ hu)]; rfl
theorem aIb {t:Ty} (hc:t.cmp=true) (hp:∀ a b,t≠.pair a b) (hu:t≠.unit) {cs:List Value} {x:t.D} (h:rep M t cs x):Instr.sameBits 10000 (adq t cs) (adq t cs)=true:=by
 cases t with
 | bool=>rw [show cs=[.bool x] from h]; exact aqo (M:=M) .bool hc [.bool x] x rfl _ (.head _) _
 | int k=>have:=aqo (.int k) hc cs x h; rw [h.1] at this ⊢; exact this _ (.head _) _
 | str=>have:=aqo .str hc cs x h; obtain ⟨p,rfl,_⟩:=h; exact this _ (.head _) _
 | sl t=>simp [Ty.cmp] at hc
 | unit=>exact absurd rfl hu
 | pair a b=>exact absurd rfl (hp a b)
 | ex=>simp [Ty.cmp] at hc
 | op p=>simp [Ty.cmp] at hc
 | st b =>
   have:=aqo (.st b) hc cs x h
   show Instr.sameBits (9999+1) (.agg cs.toArray) (.agg cs.toArray)=true
   simp only [Instr.sameBits,beq_self_eq_true,Bool.true_and]
   exact axR _ fun v hv=>this v hv 9999
theorem aDg {kt vt:Ty} {n:TypeId} (ht:tyOk P kt n=true) (hc:kt.cmp=true) (hd:kt.dep < 9000) {ck:List Value} {y:kt.D} (hy:rep M kt ck y):∀ (l:List (kt.D×vt.D)) (es:List MapEntry) (i:Nat),repM M kt vt es l →
 (ab_ kt l y=none∧(∀ z,setM kt l y z=l++[(y,z)])∧(Instr.findAsking n (adq kt ck) es i).run P w=.ok none w) ∨
 ∃ j e cv z,ab_ kt l y=some z∧(Instr.findAsking n (adq kt ck) es i).run P w=.ok (some (i+j,e.val)) w∧es[j]?=some e∧e.key=adq kt ck∧e.val=adq vt cv∧rep M vt cv z ∧
   ∀ (f:MapEntry→MapEntry) (cz:List Value) (z1:vt.D),(f e).key=adq kt ck→(f e).val=adq vt cz→rep M vt cz z1→repM M kt vt (es.modify j f) (setM kt l y z1)
 | [],es,i,h=>by
   cases show es=[] from h
   exact .inl ⟨rfl,fun _=>rfl,rfl⟩
 | x :: l,es,i,h=>by
   obtain ⟨e,r,k,cv,rfl,h1,h2,h3,h4,h5⟩:=h
   have he:=eqTy (P:=P) (w:=w) kt n 9999 ck k y x.1 ht hc (by omega) hy h2
   rw [← h1] at he
   have he:(Op.equal n (adq kt ck) e.key).run P w=.ok (kt.decEq y x.1) w:=he
   cases hq:kt.decEq y x.1 with
   | true =>
     rw [hq] at he
     have hyx:=au8 kt hc _ _ hq
     have hkk:ck=k:=by rw [← hyx] at h2; exact aBy kt hc _ _ _ hy h2
     refine .inr ⟨0,e,cv,x.2,by simp [ab_,hq],?_,rfl,by rw [h1,hkk],h3,h4,fun f cz z1 f1 f2 f3=>?_⟩
     · simp only [Instr.findAsking,Sem.run_bind,he,Result.andThen_ok,if_true,Sem.run_pure,Nat.add_zero]
     · simp only [setM,hq,cond_true,List.modify_zero_cons]
       exact ⟨f e,r,ck,cz,rfl,f1,hy,f2,f3,h5⟩
   | false =>
     rw [hq] at he
     rcases aDg ht hc hd hy l r (i+1) h5 with ⟨q1,q2,q3⟩ | ⟨j,e',cv',z,q1,q2,q3,q4,q5,q6,q7⟩
     · refine .inl ⟨by simp [ab_,hq,q1],fun z=>by simp [setM,hq,q2],?_⟩
       simp only [Instr.findAsking,Sem.run_bind,he,Result.andThen_ok,Bool.false_eq_true,if_false,q3]
     · refine .inr ⟨j+1,e',cv',z,by simp [ab_,hq,q1],?_,by simpa using q3,q4,q5,q6,fun f cz z1 f1 f2 f3=>?_⟩
       · simp only [Instr.findAsking,Sem.run_bind,he,Result.andThen_ok,Bool.false_eq_true,if_false,q2]
         rw [show i+1+j=i+(j+1) by omega]
       · simp only [setM,hq,cond_false,List.modify_succ_cons]
         exact ⟨e,_,k,cv,rfl,h1,h2,h3,h4,q7 f cz z1 f1 f2 f3⟩
theorem aAJ {kt:Ty} {n:TypeId} {d:TypeDesc} (ht:tyOk P kt n=true) (hc:kt.cmp=true) (hd:P.underlying n=some d) {cs us:List Value} {x y:kt.D} (h:rep M kt cs x) (k:rep M kt us y) {b:Bool} (hs:Instr.sameNow d (adq kt cs) (adq kt us)=some b):b=kt.decEq x y:=by
 cases kt with
 | bool =>
   rw [show cs=[.bool x] from h,show us=[.bool y] from k] at hs
   rw [alY ht] at hd; cases hd
   exact (Option.some.inj hs).symm.trans (by cases x <;> cases y <;> rfl)
 | int k' =>
   rw [h.1,k.1] at hs
   rw [aj_ ht] at hd; cases hd
   have hs:(if k'=k' then some (@BEq.beq Int _ x y) else none)=some b:=hs
   rw [if_pos rfl] at hs
   rw [← Option.some.inj hs]
   simp only [Ty.decEq,beqI]
   rfl
 | str =>
   obtain ⟨p,rfl,rfl,_⟩:=h
   obtain ⟨q,rfl,rfl,_⟩:=k
   rw [ag4 ht] at hd; cases hd
   have hs:some (p == q)=some b:=hs
   rw [← Option.some.inj hs]
   refine Bool.eq_iff_iff.2 ((MapKept.bytes_beq p q).trans ⟨fun h=>by rw [h]; simp [Ty.decEq,beqL],fun h=>au3 (au8 .str rfl _ _ h)⟩)
 | sl t=>simp [Ty.cmp] at hc
 | ex=>simp [Ty.cmp] at hc
 | op p=>simp [Ty.cmp] at hc
 | unit=>simp [tyOk] at ht
 | pair a b=>simp [tyOk] at ht
 | st b =>
   obtain ⟨fs,hu,_⟩:=ak7 ht
   rw [hu] at hd; cases hd
   cases hs
theorem aAq {kt vt:Ty} {n:TypeId} {d:TypeDesc} (ht:tyOk P kt n=true) (hc:kt.cmp=true) (hd:kt.dep < 9000) (hu:P.underlying n=some d) {ck:List Value} {y:kt.D} (hy:rep M kt ck y) :
 ∀ (l:List (kt.D×vt.D)) (es:List MapEntry) (i:Nat),repM M kt vt es l→∀ q,Instr.findNow d (adq kt ck) es i=some q→(Instr.findAsking n (adq kt ck) es i).run P w=.ok q w
 | [],es,i,h,q,hq=>by
   cases show es=[] from h
   cases hq; rfl
 | x :: l,es,i,h,q,hq=>by
   obtain ⟨e,r,k,cv,rfl,h1,h2,h3,h4,h5⟩:=h
   have he:=eqTy (P:=P) (w:=w) kt n 9999 ck k y x.1 ht hc (by omega) hy h2
   rw [← h1] at he
   have he:(Op.equal n (adq kt ck) e.key).run P w=.ok (kt.decEq y x.1) w:=he
   unfold Instr.findNow at hq
   split at hq
   · rename_i hs
     rw [h1] at hs
     rw [← aAJ ht hc hu hy h2 hs] at he
     cases hq
     simp only [Instr.findAsking,Sem.run_bind,he,Result.andThen_ok,if_true,Sem.run_pure]
   · rename_i hs
     rw [h1] at hs
     rw [← aAJ ht hc hu hy h2 hs] at he
     simp only [Instr.findAsking,Sem.run_bind,he,Result.andThen_ok,Bool.false_eq_true,if_false]
     exact aAq ht hc hd hu hy l r (i+1) h5 q hq
   · cases hq
theorem asx {kt vt:Ty} {n:TypeId} (ht:tyOk P kt n=true) (hc:kt.cmp=true) (hd:kt.dep < 9000) {ck:List Value} {y:kt.D} (hy:rep M kt ck y) {l:List (kt.D×vt.D)} {es:List MapEntry} (hm:repM M kt vt es l)
 {q:Option (Nat×Value)} (h:(Instr.findAsking n (adq kt ck) es 0).run P w=.ok q w):(Instr.findKey n (adq kt ck) es).run P w=.ok q w:=by
 obtain ⟨d,hu⟩:∃ d,P.underlying n=some d:=by
  cases kt with
  | bool=>exact ⟨_,alY ht⟩
  | int k'=>exact ⟨_,aj_ ht⟩
  | str=>exact ⟨_,ag4 ht⟩
  | sl t=>simp [Ty.cmp] at hc
  | ex=>simp [Ty.cmp] at hc
  | op p=>simp [Ty.cmp] at hc
  | unit=>simp [tyOk] at ht
  | pair a b=>simp [tyOk] at ht
  | st b=>obtain ⟨fs,hu,_⟩:=ak7 ht; exact ⟨_,hu⟩
 unfold Instr.findKey
 simp only [Sem.run_bind,run_underlying hu,Result.andThen_ok]
 cases hf:Instr.findNow d (adq kt ck) es 0 with
 | none=>exact h
 | some q1 =>
   have:=aAq (w:=w) ht hc hd hu hy l es 0 hm q1 hf
   rw [h] at this
   injection this with this
   subst this
   rfl
theorem aDI (I:Inv w0 M0 X s w M ι θ) (T:TInv s w M ι θ a) (G:Goes w0 M0 X r K N) {n:TypeId} (ho:o.op=.makeMap n none) {kt vt:Ty}
 (hk:K ({ s with S:=s.S++[[TV.blk (.mp kt vt [])]] }.put o.dst (.ref (.mp kt vt) s.S.length))=some r):o.wp P a w N Q:=by
 have hrun:(execOp a.eval o).run P w=.ok (.value (.map (some w.heap.size))) (w.alloc (.map #[] 0)):=by
  simp only [execOp,ho,Option.map_none,Sem.run_bind,show (Instr.makeMap n none).run P w=.ok (.map (some w.heap.size)) (w.alloc (.map #[] 0)) from rfl,Result.andThen_ok,Sem.run_pure]
 have hold:∀ b,b < w.heap.size→(w.alloc (.map #[] 0)).heap[b]?=w.heap[b]?:=fun b hb=>heap_alloc_old w _ hb
 have I1:=I.newObj (w1:=w.alloc (.map #[] 0)) (cs:=[TV.blk (.mp kt vt [])]) (g:=w.heap.size) rfl rfl rfl (by rw [afu]; omega) (Shp.old hold) (fun b hb _=>hold b hb) (fun _=>ahn I) fun _ =>
  ⟨ah5 I,#[],0,heap_alloc_new w _,rfl⟩
 have T1:=T.newObj (w1:=w.alloc (.map #[] 0)) (cs:=[TV.blk (.mp kt vt [])]) (g:=w.heap.size) I (Shp.old hold) (fun b hb _=>hold b hb) (fun _=>ahn I)
 unfold Oper.wp
 rw [hrun]
 refine G _ _ _ _ _ _ hk (I1.put _ _) (T1.put _ ?_ trivial ?_)
 · show Value.map (some w.heap.size)=.map (some (upd ι s.S.length w.heap.size s.S.length))
   rw [aiL]
 · exact ⟨by simp,trivial⟩
theorem aCK {kt vt:Ty} {ck cv:List Value} {y:kt.D} {z:vt.D} {e:MapEntry} (h4:rep M vt cv z) (h1:e.key=adq kt ck) (h3:e.val=adq vt cv) (h2:rep M kt ck y):∀ (l:List (kt.D×vt.D)) (es:List MapEntry),repM M kt vt es l→repM M kt vt (es++[e]) (l++[(y,z)])
 | [],es,h=>by
   cases show es=[] from h
   exact ⟨e,[],ck,cv,rfl,h1,h2,h3,h4,rfl⟩
 | x :: l,es,h=>by
   obtain ⟨e',r,k,c,rfl,k1,k2,k3,k4,k5⟩:=h
   exact ⟨e',r++[e],k,c,rfl,k1,k2,k3,k4,aCK h4 h1 h3 h2 l r k5⟩
theorem aAB {S:List Obj} {kt vt:Ty} {g:Nat} {l:List (kt.D×vt.D)} (h:aub S kt vt g=some l):S[g]?=some [.blk (.mp kt vt l)]:=by
 unfold aub at h
 split at h
 · rename_i k v l' hs
   split at h
   · rename_i hh
     obtain ⟨rfl,rfl⟩:=hh
     cases h
     exact hs
   · cases h
 · cases h
theorem aFp (hΓ:EnvOk P Γ) (I:Inv w0 M0 X s w M ι θ) (T:TInv s w M ι θ a) (G:Goes w0 M0 X r K N) {n:TypeId} {x i:Operand} {ok:Bool} (ho:o.op=.lookup n x i ok) {kt vt k1 v1:Ty} {k e:TypeId} (hn:Γ.mt n=some (kt,vt,k,e)) {g:Nat}
 (hx:s.ev none x=.ref (.mp k1 v1) g) {l:List (kt.D×vt.D)} (hm:aub s.S kt vt g=some l) {y:kt.D} (hy:ofTV kt (s.ev (some kt) i)=some y) (hk:K (s.put o.dst (aI5 vt ok (ab_ kt l y)))=some r):o.wp P a w N Q:=by
 obtain ⟨h1,_,_⟩:=abH T none x
 obtain ⟨h2,_,_⟩:=abH T (some kt) i
 rw [hx] at h1
 have h1:a.eval x=.map (some (ι g)):=h1
 obtain ⟨ck,c1,c2,_⟩:=aiW hy h2
 obtain ⟨hu,ht,hc,hd,hte,_⟩:=hΓ.mt _ _ _ _ _ hn
 obtain ⟨g1,_⟩:=I.obj g _ (aAB hm) rfl
 obtain ⟨_,es,clk,g2,g3⟩:=g1
 have hg:=MapKept.run_getObj_map (P:=P) g2
 have hchk:=aIP (P:=P) (w:=w) es.isEmpty kt k 9999 ck y ht hc (by omega) c2
 obtain ⟨np1,np2⟩:=auR hte
 have fin:∀ (v:Value) (z:vt.D) (cz:List Value),v=adq vt cz→rep M vt cz z→∀ b:Bool,(execOp a.eval o).run P w=.ok (.value (if ok then .tuple #[v,.bool b] else v)) w →
  K (s.put o.dst (bif ok then .tup [toTV vt z,.bool b] else toTV vt z))=some r→o.wp P a w N Q:=by
  rintro v z cz rfl hz b hrun hk
  have h5:=ap4 (ι:=ι) hz np1 np2
  have h6:=awB (s:=s) (w:=w) (M:=M) (θ:=θ) (anj vt z) (adq vt cz)
  cases ok with
  | false=>exact aaP I T G hrun hk h5 (anj _ _)
  | true =>
    refine ahY I T G hrun hk ⟨[adq vt cz,.bool b],rfl,_,_,rfl,h5,_,_,rfl,rfl,rfl⟩ (fun vs hv=>?_) (fun vs hv=>?_)
    · have hv:(#[adq vt cz,.bool b]:Array Value)=vs.toArray:=by injection hv
      have:vs=[adq vt cz,.bool b]:=by have:=congrArg Array.toList hv; simpa using this.symm
      subst this
      exact ⟨(h6 []).1,trivial,trivial⟩
    · have hv:(#[adq vt cz,.bool b]:Array Value)=vs.toArray:=by injection hv
      have:vs=[adq vt cz,.bool b]:=by have:=congrArg Array.toList hv; simpa using this.symm
      subst this
      exact ⟨(h6 _).2,trivial,trivial⟩
 rcases aDg (w:=w) (vt:=vt) ht hc hd c2 l es.toList 0 g3 with ⟨q1,_,q3⟩ | ⟨j,en,cv,z,q1,q2,q3,q4,q5,q6,_⟩
 · have hf:=asx ht hc hd c2 g3 q3
   obtain ⟨inf,hi,_,_,_,zv,hz,hz2,ha1,ha2⟩:=abz (afa hte)
   obtain ⟨cz,hcz,hr⟩:=ag5 (M:=M) vt _ _ hz2
   rw [List.append_nil] at hcz
   have hzv:zv=adq vt cz:=by
    have hlen:=aat vt cz _ hr
    cases hagg:vt.agg with
    | true =>
      obtain ⟨cs,rfl⟩:=ha1 hagg
      have:cs=cz.toArray:=by rw [← hcz]; exact (Array.toArray_toList (xs:=cs)).symm
      rw [this]
      cases vt <;> first | rfl | (simp [Ty.agg] at hagg)
    | false =>
      have hc1:zv.cells=#[zv]:=by cases zv <;> first | rfl | exact absurd rfl (ha2 hagg _)
      rw [hc1] at hcz
      rw [← hcz]
      cases vt <;> first | rfl | (simp [Ty.agg] at hagg) | exact absurd rfl np2 | exact absurd rfl (np1 _ _)
   rw [q1] at hk
   refine fin zv (zero vt) cz hzv hr false ?_ hk
   simp only [execOp,ho,h1,c1,Instr.lookup,Sem.run_bind,run_underlying hu,Result.andThen_ok,hg,Sem.run_pure,hchk,hf,zeroValue,typeInfo,run_program,hi,hz]
 · have hf:=asx ht hc hd c2 g3 q2
   rw [q1] at hk
   refine fin en.val z cv q5 q6 true ?_ hk
   simp only [execOp,ho,h1,c1,Instr.lookup,Sem.run_bind,run_underlying hu,Result.andThen_ok,hg,Sem.run_pure,hchk,hf]
theorem awj (hΓ:EnvOk P Γ) (I:Inv w0 M0 X s w M ι θ) (T:TInv s w M ι θ a) (G:Goes w0 M0 X r K N) {n:TypeId} {x i v:Operand} (ho:o.op=.mapUpdate n x i v∨o.op=.insert n x i v) {kt vt k1 v1:Ty} {k e:TypeId} (hn:Γ.mt n=some (kt,vt,k,e)) {g:Nat}
 (hx:s.ev none x=.ref (.mp k1 v1) g) {l:List (kt.D×vt.D)} (hm:aub s.S kt vt g=some l) {y:kt.D} (hy:ofTV kt (s.ev (some kt) i)=some y) {z:vt.D} (hz:ofTV vt (s.ev (some vt) v)=some z)
 (hk:K ({ s with S:=s.S.set g [.blk (.mp kt vt (setM kt l y z))] }.put o.dst .skip)=some r):o.wp P a w N Q:=by
 obtain ⟨h1,_,_⟩:=abH T none x
 obtain ⟨h2,_,_⟩:=abH T (some kt) i
 obtain ⟨h3,_,_⟩:=abH T (some vt) v
 rw [hx] at h1
 have h1:a.eval x=.map (some (ι g)):=h1
 obtain ⟨ck,c1,c2,_⟩:=aiW hy h2
 obtain ⟨cz,z1,z2,_⟩:=aiW hz h3
 obtain ⟨hu,ht,hc,hd,hte,_⟩:=hΓ.mt _ _ _ _ _ hn
 have hS:=aAB hm
 obtain ⟨g1,_⟩:=I.obj g _ hS rfl
 obtain ⟨g0,es,clk,g2,g3⟩:=g1
 have hg:=MapKept.run_getObj_map (P:=P) g2
 have hchk:=aIP (P:=P) (w:=w) false kt k 9999 ck y ht hc (by omega) c2
 obtain ⟨np1,np2⟩:=auR ht
 have fin:∀ es' clk',repM M kt vt es'.toList (setM kt l y z)→(Instr.mapUpdate n (.map (some (ι g))) (adq kt ck) (adq vt cz)).run P w=.ok () { w with heap:=w.heap.setIfInBounds (ι g) (.map es' clk') }→o.wp P a w N Q:=by
  intro es' clk' hrep hrun
  obtain ⟨n1,n2⟩:=MapKept.heap_set (o':=Go.Obj.map es' clk') g2
  have hsh:Shp w { w with heap:=w.heap.setIfInBounds (ι g) (.map es' clk') }:=by
   intro b c e' f hb
   by_cases hbg:b=ι g
   · subst hbg; rw [g2] at hb; cases hb
   · exact ⟨c,e',f,(n2 b hbg).trans hb,rfl⟩
  have he:evo [TV.blk (.mp kt vt l)] [TV.blk (.mp kt vt (setM kt l y z))]:=⟨fun t1 l1 e1=>(by injection e1 with e1; injection e1 with e1; cases e1),fun h=>h⟩
  have I1:=I.setObj (w1:={ w with heap:=w.heap.setIfInBounds (ι g) (.map es' clk') }) hS rfl rfl rfl rfl (by simp) n2 hsh he fun _=>⟨g0,es',clk',n1,hrep⟩
  have T1:=T.setObj (w1:={ w with heap:=w.heap.setIfInBounds (ι g) (.map es' clk') }) I hS rfl n2 hsh he
  unfold Oper.wp
  have hrun':(execOp a.eval o).run P w=.ok .skip { w with heap:=w.heap.setIfInBounds (ι g) (.map es' clk') }:=by
   rcases ho with ho | ho <;> simp only [execOp,ho,h1,c1,z1,Sem.run_bind,hrun,Result.andThen_ok,Sem.run_pure]
  rw [hrun']
  exact G _ _ _ _ _ _ hk (I1.put _ _) (T1.put _ rfl trivial trivial)
 rcases aDg (w:=w) (vt:=vt) ht hc hd c2 l es.toList 0 g3 with ⟨q1,q2,q3⟩ | ⟨j,en,cv,z0,q1,q2,q3,q4,q5,q6,q7⟩
 · have hf:=asx ht hc hd c2 g3 q3
   refine fin (es.push { key:=adq kt ck,val:=adq vt cz,born:=clk }) (clk+1) ?_ ?_
   · rw [q2,Array.toList_push]
     exact aCK z2 rfl rfl c2 l es.toList g3
   · simp only [Instr.mapUpdate,Sem.run_bind,run_underlying hu,Result.andThen_ok,hg,hchk,hf,MapKept.run_setObj_map _ g2]
 · have hf:=asx ht hc hd c2 g3 q2
   rw [Nat.zero_add] at hf
   have hst:(Instr.keyThatStays en.key (adq kt ck)).run P w=.ok (adq kt ck) w:=by
    rw [q4]
    simp only [Instr.keyThatStays,aIb hc np1 np2 c2,if_true,Sem.run_pure]
   refine fin (es.modify j fun e=>{ e with key:=adq kt ck,val:=adq vt cz }) clk ?_ ?_
   · rw [Array.toList_modify]
     exact q7 _ cz z rfl rfl z2
   · have hj:es[j]?=some en:=by simpa using q3
     simp only [Instr.mapUpdate,Sem.run_bind,run_underlying hu,Result.andThen_ok,hg,hchk,hf,hj,Option.map_some,Option.getD_some,hst,MapKept.run_setObj_map _ g2]
end
end Go.Proofs.Ytgmeimbamfggkaa.Den
