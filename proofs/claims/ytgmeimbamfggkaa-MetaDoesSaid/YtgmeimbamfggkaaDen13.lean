import Derived.Test.YtgmeimbamfggkaaDen12
import Derived.Great.BuildSlice
namespace Go.Proofs.Ytgmeimbamfggkaa.Den
open Go
section
variable {w0 : World} {M0:Mem} {X:Fr} {s:St} {w:World} {M:Mem} {ι:Nat→Nat} {θ:Nat→Option Nat} {a:Act}
variable {P : Program} {ρ:Type} {r:ρ} {K:St→Option ρ} {N:Act→World→Prop} {Q:Exit→Act→World→Prop} {o:Oper} {Γ:Env}
theorem aFW (off:Nat) (us cs:List Value) (h:off+us.length≤cs.length) :
 (us.toArray.zipIdx.foldl (fun cs (x:Value×Nat)=>cs.setIfInBounds (off+x.2) x.1) cs.toArray)=(cs.take off++us++cs.drop (off+us.length)).toArray:=by
 obtain ⟨g1,g2⟩:=Great.foldl_set off us 0 cs.toArray
 rw [← Array.foldl_toList,Array.toList_zipIdx]
 apply Array.ext_getElem?
 intro k
 show ((us.zipIdx 0).foldl _ _)[k]?=_
 rw [g2 k,List.append_assoc,List.getElem?_toArray,List.getElem?_toArray]
 have hl:(cs.take off).length=off:=by rw [List.length_take]; omega
 by_cases h1:k < off
 · rw [if_neg (by omega),List.getElem?_append_left (by omega),List.getElem?_take_of_lt h1]
 · rw [List.getElem?_append_right (by omega),hl]
   by_cases h2:k - off < us.length
   · rw [if_pos (by simp; omega),List.getElem?_append_left h2,Nat.add_zero]
   · rw [if_neg (by omega),List.getElem?_append_right (by omega),List.getElem?_drop]
     congr 1
     omega
theorem au_ (place:Nat→Option (Nat×Nat)) (i off:Nat) (v:Value) (us cs:List Value) (rest:List (Nat×Value)) (hp:place i=some (off,us.length)) (hv:v.cells=us.toArray) (h:off+us.length≤cs.length) :
 Instr.fill place cs.toArray ((i,v) :: rest)=Instr.fill place (cs.take off++us++cs.drop (off+us.length)).toArray rest:=by
 rw [← aFW off us cs h]
 have h1:v.cells.size=us.length:=by rw [hv]; simp
 unfold Instr.fill
 simp only [hp]
 rw [if_neg (by rw [h1]; simp; omega)]
 rw [hv]
 cases rest <;> rfl
theorem aGO (T:TInv s w M ι θ a) {x:Operand}:∀ (b:Ty) (fs:List Field) (p i:Nat) (d d':b.D) (cs:List Value),abT P b fs p=true→rep M b cs d→setD s b i x d=some d' →
 ∃ fd us q inf,fs[i]?=some fd∧fd.offset=p+q∧P.info? fd.type=some inf∧inf.size=us.length∧(a.eval x).cells=us.toArray∧q+us.length≤cs.length ∧
   rep M b (cs.take q++us++cs.drop (q+us.length)) d'
 | .pair t b,[],_,_,_,_,_,h,_,_=>by simp [abT] at h
 | .pair t b,fd :: fs,p,0,d,d',cs,h,hr,hs=>by
   simp only [abT,Bool.and_eq_true,decide_eq_true_eq] at h
   obtain ⟨⟨⟨⟨ho,_⟩,_⟩,ht⟩,_⟩:=h
   obtain ⟨c1,c2,rfl,k1,k2⟩:=hr
   have hs:((ofTV t (s.ev (some t) x)).map fun y=>((y,d.2):t.D×b.D))=some d':=hs
   obtain ⟨y,hy,rfl⟩:=Option.map_eq_some_iff.1 hs
   obtain ⟨us,_,u2,u3⟩:=aiW hy (abH T (some t) x).1
   obtain ⟨inf,hi,hsz,_⟩:=abz (afa ht)
   have l1:=aat t c1 _ k1
   have l2:=aat t us _ u2
   refine ⟨fd,us,0,inf,rfl,by omega,hi,by omega,u3,by rw [List.length_append]; omega,?_⟩
   rw [List.take_zero,List.nil_append,Nat.zero_add,l2,← l1,List.drop_left]
   exact ⟨us,c2,rfl,u2,k2⟩
 | .pair t b,fd :: fs,p,i+1,d,d',cs,h,hr,hs=>by
   simp only [abT,Bool.and_eq_true,decide_eq_true_eq] at h
   obtain ⟨_,hf⟩:=h
   obtain ⟨c1,c2,rfl,k1,k2⟩:=hr
   have hs:((setD s b i x d.2).map fun y=>((d.1,y):t.D×b.D))=some d':=hs
   obtain ⟨y,hy,rfl⟩:=Option.map_eq_some_iff.1 hs
   obtain ⟨fd',us,q,inf,e1,e2,e3,e4,e5,e6,e7⟩:=aGO T b fs (p+t.size) i d.2 y c2 hf k2 hy
   have l1:=aat t c1 _ k1
   refine ⟨fd',us,t.size+q,inf,by simpa using e1,by omega,e3,e4,e5,by rw [List.length_append]; omega,?_⟩
   refine ⟨c1,c2.take q++us++c2.drop (q+us.length),?_,k1,e7⟩
   rw [List.take_append,List.drop_append,l1]
   rw [List.take_of_length_le (by omega),List.drop_of_length_le (by omega)]
   rw [show t.size+q - t.size=q by omega,show t.size+q+us.length - t.size=q+us.length by omega]
   simp
 | .unit,_,_,_,_,_,_,_,_,hs=>by simp [setD] at hs
 | .bool,_,_,_,_,_,_,_,_,hs=>by simp [setD] at hs
 | .int _,_,_,_,_,_,_,_,_,hs=>by simp [setD] at hs
 | .str,_,_,_,_,_,_,_,_,hs=>by simp [setD] at hs
 | .sl _,_,_,_,_,_,_,_,_,hs=>by simp [setD] at hs
 | .st _,_,_,_,_,_,_,_,_,hs=>by simp [setD] at hs
 | .ex,_,_,_,_,_,_,_,_,hs=>by simp [setD] at hs
 | .op _,_,_,_,_,_,_,_,_,hs=>by simp [setD] at hs
theorem azg : ∀ (b:Ty) (fs:List Field) (p:Nat),abT P b fs p=true →
 ∃ places,fs.mapM (fun f=>(P.info? f.type).map fun i=>(f.offset,i.size))=some places∧∀ (i:Nat) fd inf,fs[i]?=some fd→P.info? fd.type=some inf→places[i]?=some (fd.offset,inf.size)
 | .pair t b,[],_,h=>by simp [abT] at h
 | .pair t b,f :: fs,p,h=>by
   simp only [abT,Bool.and_eq_true,decide_eq_true_eq] at h
   obtain ⟨⟨_,ht⟩,hf⟩:=h
   obtain ⟨inf,hi,_⟩:=abz (afa ht)
   obtain ⟨pl,h1,h2⟩:=azg b fs _ hf
   refine ⟨(f.offset,inf.size) :: pl,by simp [List.mapM_cons,hi,h1],fun i fd inf' h3 h4=>?_⟩
   cases i with
   | zero=>simp at h3; subst h3; rw [hi] at h4; cases h4; rfl
   | succ i=>exact h2 i fd inf' (by simpa using h3) h4
 | .unit,[],_,_=>⟨[],rfl,fun _ _ _ h=>by simp at h⟩
 | .unit,_ :: _,_,h=>by simp [abT] at h
 | .bool,_,_,h=>by simp [abT] at h
 | .int _,_,_,h=>by simp [abT] at h
 | .str,_,_,h=>by simp [abT] at h
 | .sl _,_,_,h=>by simp [abT] at h
 | .st _,_,_,h=>by simp [abT] at h
 | .ex,_,_,h=>by simp [abT] at h
 | .op _,_,_,h=>by simp [abT] at h
theorem aBY (T:TInv s w M ι θ a) {b:Ty} {fs:List Field} {places:List (Nat×Nat)} (hf:abT P b fs 0=true)
 (hp:∀ (i:Nat) fd inf,fs[i]?=some fd→P.info? fd.type=some inf→places[i]?=some (fd.offset,inf.size)) :
 ∀ (ps:List (Nat×Operand)) (d d':b.D) (cs:List Value),rep M b cs d→akd s b ps d=some d' →
   ∃ cs',Instr.fill (places.toArray[·]?) cs.toArray (ps.map fun (i,x)=>(i,a.eval x))=some cs'.toArray∧rep M b cs' d'
 | [],d,d',cs,hr,h=>by cases h; exact ⟨cs,rfl,hr⟩
 | (i,x) :: ps,d,d',cs,hr,h=>by
   have h:(setD s b i x d).bind (akd s b ps)=some d':=h
   obtain ⟨m,h1,h2⟩:=Option.bind_eq_some_iff.1 h
   obtain ⟨fd,us,q,inf,e1,e2,e3,e4,e5,e6,e7⟩:=aGO T b fs 0 i d m cs hf hr h1
   obtain ⟨cs',k1,k2⟩:=aBY T hf hp ps m d' _ e7 h2
   refine ⟨cs',?_,k2⟩
   rw [List.map_cons,au_ _ i q (a.eval x) us cs _ ?_ e5 e6]
   · exact k1
   · rw [List.getElem?_toArray,hp i fd inf e1 e3,e2,e4,Nat.zero_add]
theorem aGW (hΓ:EnvOk P Γ) (I:Inv w0 M0 X s w M ι θ) (T:TInv s w M ι θ a) (G:Goes w0 M0 X r K N) {n:TypeId} {ps:Array (Nat×Operand)} (ho:o.op=.build n ps) {b:Ty} {x:b.D}
 (hn:Γ.ty n=some (.st b)) (hb:akd s b ps.toList (zero b)=some x) (hk:K (s.put o.dst (.st (.st b) x))=some r):o.wp P a w N Q:=by
 have ht:=hΓ.ty _ _ hn
 obtain ⟨fs,hu,hf,_⟩:=ak7 ht
 obtain ⟨inf,hi,_,_,_,z,hz,hz2,_,_⟩:=abz (afa ht)
 obtain ⟨c,hc,hr⟩:=ag5 (M:=M) (.st b) _ _ hz2
 rw [List.append_nil] at hc
 obtain ⟨pl,p1,p2⟩:=azg b fs.toList 0 hf
 obtain ⟨cs',k1,k2⟩:=aBY T hf p2 ps.toList (zero b) x c hr hb
 have hz3:z.cells=c.toArray:=by rw [← hc]
 refine aaP I T G (v:=.agg cs'.toArray) ?_ hk ⟨cs',rfl,k2⟩ rfl
 have hbu:P.built n (ps.map fun (i,x)=>(i,a.eval x)).toList=some cs'.toArray:=by
  unfold Program.built
  simp only [hi,hu,hz,p1]
  rw [hz3,Array.toList_map]
  exact k1
 simp only [execOp,ho,Sem.run_bind,run_build w n _ _ hbu,Result.andThen_ok,Sem.run_pure]
theorem aF1 {P:Program}:∀ (b:Ty) (fs:List Field) (p i:Nat) (a:Ty) (q:Nat),abT P b fs p=true→fldT b i=some (a,q) →
 ∃ fd,fs[i]?=some fd∧fd.offset=p+q∧tyOk P a fd.type=true
 | .pair t b,[],_,_,_,_,h,_=>by simp [abT] at h
 | .pair t b,fd :: fs,p,0,a,q,h,hq=>by
   simp only [abT,Bool.and_eq_true,decide_eq_true_eq] at h
   obtain ⟨⟨⟨⟨ho,_⟩,_⟩,ht⟩,_⟩:=h
   cases hq
   exact ⟨fd,rfl,by omega,ht⟩
 | .pair t b,fd :: fs,p,i+1,a,q,h,hq=>by
   simp only [abT,Bool.and_eq_true,decide_eq_true_eq] at h
   obtain ⟨_,hf⟩:=h
   obtain ⟨⟨a',q'⟩,h1,h2⟩:=Option.map_eq_some_iff.1 (show (fldT b i).map (fun p=>(p.1,t.size+p.2))=some (a,q) from hq)
   cases h2
   obtain ⟨fd',e1,e2,e3⟩:=aF1 b fs (p+t.size) i a' q' hf h1
   exact ⟨fd',by simpa using e1,by omega,e3⟩
 | .unit,_,_,_,_,_,_,hq=>by simp [fldT] at hq
 | .bool,_,_,_,_,_,_,hq=>by simp [fldT] at hq
 | .int _,_,_,_,_,_,_,hq=>by simp [fldT] at hq
 | .str,_,_,_,_,_,_,hq=>by simp [fldT] at hq
 | .sl _,_,_,_,_,_,_,hq=>by simp [fldT] at hq
 | .st _,_,_,_,_,_,_,hq=>by simp [fldT] at hq
 | .ex,_,_,_,_,_,_,hq=>by simp [fldT] at hq
 | .op _,_,_,_,_,_,_,hq=>by simp [fldT] at hq
theorem aAT {zs vs zs':List TV} {cs us:List Value} {q:Nat} (h:aiO M ι zs cs) (hu:aiO M ι vs us) (hs:atK zs q vs=some zs') :
 q+us.length≤cs.length∧aiO M ι zs' (cs.take q++us++cs.drop (q+us.length)):=by
 obtain ⟨h1,rfl⟩:=aqs _ _ _ _ hs
 have hl:=h.1
 have hv:=hu.1
 refine ⟨by omega,?_,fun j x hx=>?_⟩
 · simp only [List.length_append,List.length_take,List.length_drop]; omega
 · have hp1:(zs.take q).length=q:=by rw [List.length_take]; omega
   have hp2:(cs.take q).length=q:=by rw [List.length_take]; omega
   rw [List.append_assoc] at hx
   rw [List.append_assoc]
   by_cases hj:j < q
   · rw [List.getElem?_append_left (by omega),List.getElem?_take_of_lt hj] at hx
     rw [List.getElem?_append_left (by omega),List.getElem?_take_of_lt hj]
     exact h.2 j x hx
   · rw [List.getElem?_append_right (by omega),hp1] at hx
     rw [List.getElem?_append_right (by omega),hp2]
     by_cases hj2:j - q < vs.length
     · rw [List.getElem?_append_left hj2] at hx
       rw [List.getElem?_append_left (by omega)]
       exact hu.2 _ x hx
     · rw [List.getElem?_append_right (by omega),List.getElem?_drop] at hx
       rw [List.getElem?_append_right (by omega),List.getElem?_drop,hv]
       exact h.2 _ x hx
theorem aGu {z:TV} (h:opTV z=true) {v v':Value} (hv:rv M ι z v) {S:List Obj} (hw:aaI w S z v):v.cells=#[v]∧tc w M θ s.O s.c z v'∧aaI w S z v':=by
 cases z <;> (try (cases h; done))
 · exact ⟨by rw [show v=_ from hv]; rfl,trivial,hw⟩
 · exact ⟨by rw [show v=_ from hv]; rfl,trivial,trivial⟩
 · rename_i r i
   cases r <;> (try (cases h; done))
   exact ⟨by rw [show v=.map (some (ι i)) from hv]; rfl,trivial,hw.1,trivial⟩
def okz (s:St) (w:World) (M:Mem) (θ:Nat→Option Nat) (z:TV):Prop:=∀ v,tc w M θ s.O s.c z v∧aaI w s.S z v
theorem aEq {z:TV} (h:flat z=true):okz s w M θ z:=fun v=>awB h v s.S
theorem aId (T:TInv s w M ι θ a) {b:Ty} {fs:List Field} {places:List (Nat×Nat)} (hf:abT P b fs 0=true)
 (hp:∀ (i:Nat) fd inf,fs[i]?=some fd→P.info? fd.type=some inf→places[i]?=some (fd.offset,inf.size)) :
 ∀ (ps:List (Nat×Operand)) (zs zs':List TV) (cs:List Value),aiO M ι zs cs→(∀ z∈zs,okz s w M θ z)→agB s b ps zs=some zs' →
   ∃ cs',Instr.fill (places.toArray[·]?) cs.toArray (ps.map fun (i,x)=>(i,a.eval x))=some cs'.toArray∧aiO M ι zs' cs'∧∀ z∈zs',okz s w M θ z
 | [],zs,zs',cs,hr,hz,h=>by cases h; exact ⟨cs,rfl,hr,hz⟩
 | (i,x) :: ps,zs,zs',cs,hr,hz,h=>by
   have go:∀ {t:Ty} {q:Nat} {vs:List TV} {us:List Value} {z1:List TV},fldT b i=some (t,q)→aiO M ι vs us→(∀ z∈vs,okz s w M θ z)→us.length=t.size→(a.eval x).cells=us.toArray →
      atK zs q vs=some z1→agB s b ps z1=some zs' →
      ∃ cs',Instr.fill (places.toArray[·]?) cs.toArray (((i,x) :: ps).map fun (i,x)=>(i,a.eval x))=some cs'.toArray∧aiO M ι zs' cs'∧∀ z∈zs',okz s w M θ z:=by
    intro t q vs us z1 hq q1 q2 l1 u3 h3 h4
    obtain ⟨fd,e1,e2,e3⟩:=aF1 b fs 0 i t q hf hq
    obtain ⟨inf,hi,hsz,_⟩:=abz (afa e3)
    obtain ⟨k1,k2⟩:=aAT hr q1 h3
    have hz1:∀ z∈z1,okz s w M θ z:=by
      obtain ⟨_,rfl⟩:=aqs _ _ _ _ h3
      intro z hm
      rcases List.mem_append.1 hm with hm | hm
      · rcases List.mem_append.1 hm with hm | hm
        · exact hz z (List.mem_of_mem_take hm)
        · exact q2 z hm
      · exact hz z (List.mem_of_mem_drop hm)
    obtain ⟨cs',m1,m2⟩:=aId T hf hp ps z1 zs' _ k2 hz1 h4
    refine ⟨cs',?_,m2⟩
    rw [List.map_cons,au_ _ i q (a.eval x) us cs _ ?_ u3 k1]
    · exact m1
    · rw [List.getElem?_toArray,hp i fd inf e1 hi,e2,hsz,Nat.zero_add,l1]
   unfold agB at h
   split at h
   · rename_i p q hq
     obtain ⟨ho,h2⟩:=aaf h
     obtain ⟨z1,h3,h4⟩:=Option.bind_eq_some_iff.1 h2
     obtain ⟨g1,g2,g3⟩:=abH T none x
     obtain ⟨o1,_⟩:=aGu (θ:=θ) (v':=a.eval x) (s:=s) ho g1 g3
     refine go hq (vs:=[s.ev none x]) (us:=[a.eval x]) ⟨rfl,fun j y hy=>?_⟩ (fun z hz=>?_) rfl o1 h3 h4
     · cases j with
       | zero=>simp at hy; subst hy; exact ⟨_,rfl,g1⟩
       | succ j=>simp at hy
     · simp at hz
       subst hz
       exact fun v'=>(aGu (θ:=θ) (v':=v') (s:=s) ho g1 g3).2
   · rename_i t q _ hq
     obtain ⟨y,h1,h2⟩:=Option.bind_eq_some_iff.1 h
     obtain ⟨z1,h3,h4⟩:=Option.bind_eq_some_iff.1 h2
     obtain ⟨us,_,u2,u3⟩:=aiW h1 (abH T (some t) x).1
     obtain ⟨q1,q2⟩:=aiZ (ι:=ι) t y us u2
     exact go hq q1 (fun z hz=>aEq (q2 z hz)) (aat t us _ u2) u3 h3 h4
   · cases h
theorem aD4 : ∀ (zs:List TV) (cs:List Value),(∀ z∈zs,okz s w M θ z)→tcs w M θ s.O s.c zs cs∧abE w s.S zs cs
 | [],_,_=>⟨trivial,trivial⟩
 | _ :: _,[],_=>⟨trivial,trivial⟩
 | z :: zs,v :: cs,h=>by
   obtain ⟨h1,h2⟩:=h z List.mem_cons_self v
   obtain ⟨k1,k2⟩:=aD4 zs cs fun z hz=>h z (List.mem_cons_of_mem _ hz)
   exact ⟨⟨h1,k1⟩,h2,k2⟩
theorem aDB (hΓ:EnvOk P Γ) (I:Inv w0 M0 X s w M ι θ) (T:TInv s w M ι θ a) (G:Goes w0 M0 X r K N) {n:TypeId} {ps:Array (Nat×Operand)} (ho:o.op=.build n ps) {b:Ty} {zs:List TV}
 (hn:Γ.ty n=some (.st b)) (hb:agB s b ps.toList (zeroCells b)=some zs) (hk:K (s.put o.dst (.ag zs))=some r):o.wp P a w N Q:=by
 have ht:=hΓ.ty _ _ hn
 obtain ⟨fs,hu,hf,_⟩:=ak7 ht
 obtain ⟨inf,hi,_,_,_,z,hz,hz2,_,_⟩:=abz (afa ht)
 obtain ⟨c,hc,hr,hfl,_⟩:=ahi (M:=M) (ι:=ι) (.st b) _ _ hz2
 rw [List.append_nil] at hc
 obtain ⟨pl,p1,p2⟩:=azg b fs.toList 0 hf
 obtain ⟨cs',k1,k2,k3⟩:=aId T hf p2 ps.toList (zeroCells b) zs c hr (fun z hz=>aEq (hfl z hz)) hb
 have hz3:z.cells=c.toArray:=by rw [← hc]
 obtain ⟨f1,f2⟩:=aD4 (s:=s) (w:=w) (M:=M) (θ:=θ) zs cs' k3
 have hex:∀ us:List Value,Value.agg cs'.toArray=.agg us.toArray→us=cs':=fun us h=>by injection h with h; exact (congrArg Array.toList h).symm
 refine ahY I T G (v:=.agg cs'.toArray) ?_ hk ⟨cs',rfl,axc k2⟩ (fun us h=>by rw [hex us h]; exact f1) (fun us h=>by rw [hex us h]; exact f2)
 have hbu:P.built n (ps.map fun (i,x)=>(i,a.eval x)).toList=some cs'.toArray:=by
  unfold Program.built
  simp only [hi,hu,hz,p1]
  rw [hz3,Array.toList_map]
  exact k1
 simp only [execOp,ho,Sem.run_bind,run_build w n _ _ hbu,Result.andThen_ok,Sem.run_pure]
theorem aEA {t:Ty}:∀ (l:List t.D) (cs:List Value) (i:Nat) (us:List Value) (y:t.D),repL M t cs l→i < l.length→rep M t us y →
 i * t.size+us.length≤cs.length∧repL M t (cs.take (i * t.size)++us++cs.drop (i * t.size+us.length)) (l.set i y)
 | [],_,_,_,_,_,hi,_=>by simp at hi
 | x :: l,cs,0,us,y,h,_,hu=>by
   obtain ⟨c1,c2,rfl,h1,h2⟩:=h
   have l1:=aat t c1 _ h1
   have l2:=aat t us _ hu
   rw [Nat.zero_mul,Nat.zero_add,List.take_zero,List.nil_append,l2,← l1,List.drop_left,List.length_append]
   exact ⟨by omega,us,c2,rfl,hu,h2⟩
 | x :: l,cs,i+1,us,y,h,hi,hu=>by
   obtain ⟨c1,c2,rfl,h1,h2⟩:=h
   have l1:=aat t c1 _ h1
   obtain ⟨k1,k2⟩:=aEA l c2 i us y h2 (by simpa using hi) hu
   have e:(i+1) * t.size=c1.length+i * t.size:=by rw [Nat.add_mul,l1]; omega
   rw [e,List.length_append]
   refine ⟨by omega,c1,_,?_,h1,k2⟩
   rw [List.take_append,List.drop_append,List.take_of_length_le (by omega),List.drop_of_length_le (l:=c1) (by omega)]
   rw [show c1.length+i * t.size - c1.length=i * t.size by omega,show c1.length+i * t.size+us.length - c1.length=i * t.size+us.length by omega]
   simp
theorem aB5 (T:TInv s w M ι θ a) {t:Ty}:∀ (ps:List (Nat×Operand)) (l l':List t.D) (cs:List Value),repL M t cs l→aqw s t ps l=some l' →
 l'.length=l.length∧∃ cs',Instr.fill (fun i=>some (i * t.size,t.size)) cs.toArray (ps.map fun (i,x)=>(i,a.eval x))=some cs'.toArray∧repL M t cs' l'
 | [],l,l',cs,hr,h=>by cases h; exact ⟨rfl,cs,rfl,hr⟩
 | (i,x) :: ps,l,l',cs,hr,h=>by
   have h:(bif Nat.blt i l.length then (ofTV t (s.ev (some t) x)).bind fun y=>aqw s t ps (l.set i y) else none)=some l':=h
   cases hlt:Nat.blt i l.length with
   | false=>rw [hlt] at h; cases h
   | true =>
     rw [hlt] at h
     obtain ⟨y,hy,h2⟩:=Option.bind_eq_some_iff.1 h
     have hlt':i < l.length:=by simpa using hlt
     obtain ⟨us,_,u2,u3⟩:=aiW hy (abH T (some t) x).1
     obtain ⟨k1,k2⟩:=aEA l cs i us y hr hlt' u2
     obtain ⟨e1,cs',e2,e3⟩:=aB5 T ps _ l' _ k2 h2
     refine ⟨by rw [e1,List.length_set],cs',?_,e3⟩
     rw [List.map_cons,au_ _ i (i * t.size) (a.eval x) us cs _ (by rw [aat t us _ u2]) u3 k1]
     exact e2
theorem ald {t:Ty} {c:List Value} {x:t.D} (h:rep M t c x):∀ n,repL M t (List.replicate n c).flatten (List.replicate n x)
 | 0=>rfl
 | n+1=>⟨c,_,rfl,h,ald h n⟩
theorem auk (c:List Value) (hc:0 < c.length) (n:Nat):(Array.range (n * c.length)).map (c.toArray[· % c.length]!)=(List.replicate n c).flatten.toArray:=by
 have hl:∀ n,(List.replicate n c).flatten.length=n * c.length:=by intro n; simp
 have key:∀ n k,k < n * c.length→(List.replicate n c).flatten[k]?=c[k % c.length]?:=by
  intro n
  induction n with
  | zero=>intro k hk; omega
  | succ n ih =>
    intro k hk
    rw [List.replicate_succ,List.flatten_cons]
    by_cases h:k < c.length
    · rw [List.getElem?_append_left h,Nat.mod_eq_of_lt h]
    · rw [List.getElem?_append_right (by omega),ih (k - c.length) (by rw [Nat.add_mul] at hk; omega),← Nat.mod_eq_sub_mod (by omega)]
 apply Array.ext_getElem?
 intro k
 have e:(List.replicate n c).flatten.toArray[k]?=(List.replicate n c).flatten[k]?:=by simp
 rw [Array.getElem?_map,e]
 by_cases hk:k < n * c.length
 · rw [key n k hk]
   have hm:k % c.length < c.length:=Nat.mod_lt _ hc
   simp [hk,List.getElem?_eq_getElem hm]
 · rw [List.getElem?_eq_none (by rw [hl]; omega)]
   simp [hk]
theorem azE (hΓ:EnvOk P Γ) (T:TInv s w M ι θ a) {n:TypeId} {len:Nat} {ps:Array (Nat×Operand)} {t:Ty} {l:List t.D}
 (hn:Γ.ty n=some (.sl t)) (hb:aqw s t ps.toList (List.replicate len (zero t))=some l) (hsm:Nat.ble (len * t.size) 16777216=true) :
 ∃ (e:TypeId) (cs':List Value),l.length=len∧repL M t cs' l∧len≤maxLen∧(Instr.buildSlice n len (ps.map fun (i,x)=>(i,a.eval x))).run P w=.ok (.slice (some ⟨w.heap.size,0,none⟩) len len) (w.alloc (.cells cs'.toArray e)):=by
 obtain ⟨e,hu,ht⟩:=agb (hΓ.ty _ _ hn)
 obtain ⟨inf,hi,hsz,_,hpos,z,hz,hz2,_,_⟩:=abz (afa ht)
 obtain ⟨c,hc,hr⟩:=ag5 (M:=M) t _ _ hz2
 rw [List.append_nil] at hc
 have hz3:z.cells=c.toArray:=by rw [← hc]
 have lc:=aat t c _ hr
 have hsm:len * t.size≤16777216:=Nat.le_of_ble_eq_true hsm
 obtain ⟨hl,cs',k1,k2⟩:=aB5 T ps.toList _ l _ (ald hr len) hb
 rw [List.length_replicate] at hl
 have hpow:(2:Nat) ^ 24=16777216:=by decide
 have hrun:(Instr.buildSlice n len (ps.map fun (i,x)=>(i,a.eval x))).run P w=.ok (.slice (some ⟨w.heap.size,0,none⟩) len len) (w.alloc (.cells cs'.toArray e)):=by
  by_cases h0:len=0
  · subst h0
    have hp:ps.toList=[]:=by
        cases hps:ps.toList with
        | nil=>rfl
        | cons p q =>
          rw [hps] at hb
          have hb:(bif Nat.blt p.1 0 then _ else none)=some l:=hb
          rw [show Nat.blt p.1 0=false by cases h:Nat.blt p.1 0 <;> simp_all] at hb
          cases hb
    have hp2:ps=#[]:=Array.toList_eq_nil_iff.1 hp
    subst hp2
    have e:([]:List Value).toArray=cs'.toArray:=Option.some.inj k1
    rw [← e]
    simp [Instr.buildSlice,run_underlying hu,sizeOf,typeInfo,hi,newRow,Instr.fill]
    congr 2
    simp
  · have hlen:0 < len:=by omega
    have hne:¬ len * inf.size=0:=by
        rw [hsz]
        have:=Nat.mul_pos hlen hpos
        omega
    refine run_buildSlice w n e len _ cs'.toArray inf z hu hi hz (by rw [hsz,hpow]; omega) hne ?_
    rw [Array.toList_map,hsz,hz3,List.size_toArray,← lc,auk c (by omega) len,lc]
    exact k1
 have hmax:len≤maxLen:=by
  have:len≤len * t.size:=Nat.le_mul_of_pos_right _ hpos
  unfold maxLen; omega
 exact ⟨e,cs',hl,k2,hmax,hrun⟩
theorem aAd (hΓ:EnvOk P Γ) (I:Inv w0 M0 X s w M ι θ) (T:TInv s w M ι θ a) (G:Goes w0 M0 X r K N) {n:TypeId} {len:Nat} {ps:Array (Nat×Operand)} (ho:o.op=.buildSlice n len ps) {t:Ty} {l:List t.D}
 (hn:Γ.ty n=some (.sl t)) (hb:aqw s t ps.toList (List.replicate len (zero t))=some l) (hsm:Nat.ble (len * t.size) 16777216=true)
 (hk:K (s.put o.dst (.sl t .full (some false) l))=some r):o.wp P a w N Q:=by
 obtain ⟨e,cs',hl,k2,hmax,hrun⟩:=azE hΓ T hn hb hsm
 have hsize:cs'.length=len * t.size:=by rw [acP l cs' k2,hl]
 have hold:∀ b,b < w.heap.size→(w.alloc (.cells cs'.toArray e)).heap[b]?=w.heap[b]?:=fun b hb=>by
  simp only [World.alloc]; rw [Array.getElem?_push_lt hb,Array.getElem?_eq_getElem hb]
 have hnew:(w.alloc (.cells cs'.toArray e)).heap[w.heap.size]?=some (.cells cs'.toArray e (0,0)):=by
  show (w.heap.push _)[w.heap.size]?=_
  simp
 have I1:=I.row (vs:=cs') (w1:=w.alloc (.cells cs'.toArray e)) rfl rfl rfl (by rw [afu]; omega) hold hnew (fun i v h=>by simpa using h)
 have T1:=T.row I (vs:=cs') (w1:=w.alloc (.cells cs'.toArray e)) hold
 have hmle:=aBz I cs'
 unfold Oper.wp
 simp only [execOp,ho,Sem.run_bind,hrun,Result.andThen_ok,Sem.run_pure]
 refine G _ _ _ _ _ _ hk (I1.put _ _) (T1.put _ ?_ trivial trivial)
 refine ⟨some ⟨w.heap.size,0,none⟩,len,by rw [hl],by rw [hl]; exact Nat.le_refl _,hmax,nofun,?_,fun b hb=>Option.some.inj hb,fun _=>hl.symm⟩
 exact ahI (azw hmle l cs' k2) (Mem.le_refl _) (fun i v h=>by rw [Nat.zero_add,asG]; exact h)
end
end Go.Proofs.Ytgmeimbamfggkaa.Den
