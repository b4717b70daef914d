import Derived.Test.YtgmeimbamfggkaaDen13c
namespace Go.Proofs.Ytgmeimbamfggkaa.Den
open Go
section
variable {w0 : World} {M0:Mem} {X:Fr} {s:St} {w:World} {M:Mem} {ι:Nat→Nat} {θ:Nat→Option Nat} {a:Act}
variable {P : Program} {ρ:Type} {r:ρ} {K:St→Option ρ} {N:Act→World→Prop} {Q:Exit→Act→World→Prop} {o:Oper} {Γ:Env} {E:Table} {dr:Bool}
theorem awp {t:Ty} {n:TypeId} (h:tyW P t n=true):tyOk P t n=true∨∃ b m e,t=.st b∧P.underlying n=some (.array m e)∧aiP P (.st b) n=true:=by
 unfold tyW at h
 rw [Bool.or_eq_true] at h
 rcases h with h | h
 · exact .inl h
 · split at h
   · rename_i b m e hu
     exact .inr ⟨b,m,e,rfl,hu,h⟩
   · cases h
theorem aBQ {t:Ty} {n:TypeId} (h:tyW P t n=true):aiP P t n=true:=by
 rcases awp h with h | ⟨b,m,e,rfl,_,h⟩
 · exact afa h
 · exact h
theorem aBR {t:Ty} {n:TypeId} (h:tyW P t n=true) (w:World):(sizeOf n).run P w=.ok t.size w:=by
 obtain ⟨i,hi,hs,_⟩:=abz (aBQ h)
 simp [sizeOf,typeInfo,hi,hs]
theorem aKm {t:Ty} {n:TypeId} (h:tyW P t n=true):(∀ a b,t≠.pair a b)∧t≠.unit:=by
 rcases awp h with h | ⟨b,m,e,rfl,_,_⟩
 · exact auR h
 · exact ⟨nofun,nofun⟩
theorem aJD {t:Ty} {n:TypeId} (h:tyW P t n=true) (w:World):(isAgg n).run P w=.ok t.agg w:=by
 rcases awp h with h | ⟨b,m,e,rfl,hu,_⟩
 · exact awo h w
 · simp [isAgg,run_underlying hu,Ty.agg]
theorem aCM {t:Ty} {n:TypeId} (ht:tyW P t n=true) {cs:List Value} (hl:cs.length=t.size) (pre post:List Value) :
 (part n (pre++cs++post).toArray pre.length).run P w=.ok (adq t cs) w:=by
 rcases awp ht with h | ⟨b,m,e,rfl,hu,_⟩
 · exact aoa h hl pre post
 · unfold part
   simp only [Sem.run_bind,aJD ht,Result.andThen_ok]
   simp only [Ty.agg,if_true,Sem.run_bind,aBR ht,Result.andThen_ok,Sem.run_pure,adq]
   congr 2
   apply Array.ext'
   simp [hl]
theorem aB6 : ∀ (b:Ty) (fs:List Field) (p f:Nat) (v:b.D) (cs:List Value),fldW P b fs p=true→rep M b cs v→∀ (q:TV),adK b f v=some q∨abS b f v=some q →
 ∃ fd t x c1 c2 c3,fs[f]?=some fd∧(adK b f v=some q→q=.ep t x)∧(abS b f v=some q→q=toTV t x)∧cs=c1++c2++c3∧p+c1.length=fd.offset∧tyW P t fd.type=true∧0 < t.size∧rep M t c2 x
 | .pair a b,[],_,_,_,_,h,_,_,_=>by simp [fldW] at h
 | .pair a b,fd :: fs,p,0,v,cs,h,hr,q,hq=>by
   simp only [fldW,Bool.and_eq_true,decide_eq_true_eq] at h
   obtain ⟨⟨⟨⟨ho,_⟩,hs⟩,ht⟩,_⟩:=h
   obtain ⟨c1,c2,rfl,k1,_⟩:=hr
   refine ⟨fd,a,v.1,[],c1,c2,rfl,fun e=>?_,fun e=>?_,rfl,by simp [ho],ht,hs,k1⟩
   · simpa [adK] using e.symm
   · simpa [abS] using e.symm
 | .pair a b,fd :: fs,p,f+1,v,cs,h,hr,q,hq=>by
   simp only [fldW,Bool.and_eq_true,decide_eq_true_eq] at h
   obtain ⟨⟨⟨⟨ho,_⟩,_⟩,ht⟩,hf⟩:=h
   obtain ⟨c1,c2,rfl,k1,k2⟩:=hr
   obtain ⟨fd',t,x,d1,d2,d3,e1,e2,e3,e4,e5,e6⟩:=aB6 b fs (p+a.size) f v.2 c2 hf k2 q hq
   refine ⟨fd',t,x,c1++d1,d2,d3,by simpa using e1,e2,e3,by rw [e4]; simp,?_,e6⟩
   rw [List.length_append,aat a c1 _ k1]; omega
 | .unit,_,_,_,_,_,_,_,_,hq=>by rcases hq with hq | hq <;> simp [adK,abS] at hq
 | .bool,_,_,_,_,_,_,_,_,hq=>by rcases hq with hq | hq <;> simp [adK,abS] at hq
 | .int _,_,_,_,_,_,_,_,_,hq=>by rcases hq with hq | hq <;> simp [adK,abS] at hq
 | .str,_,_,_,_,_,_,_,_,hq=>by rcases hq with hq | hq <;> simp [adK,abS] at hq
 | .sl _,_,_,_,_,_,_,_,_,hq=>by rcases hq with hq | hq <;> simp [adK,abS] at hq
 | .st _,_,_,_,_,_,_,_,_,hq=>by rcases hq with hq | hq <;> simp [adK,abS] at hq
 | .ex,_,_,_,_,_,_,_,_,hq=>by rcases hq with hq | hq <;> simp [adK,abS] at hq
 | .op _,_,_,_,_,_,_,_,_,hq=>by rcases hq with hq | hq <;> simp [adK,abS] at hq
theorem aEI (T:TInv s w M ι θ a) {x:Operand}:∀ (b:Ty) (fs:List Field) (p i:Nat) (d d':b.D) (cs:List Value),fldW P b fs p=true→rep M b cs d→setD s b i x d=some d' →
 ∃ fd us q inf,fs[i]?=some fd∧fd.offset=p+q∧P.info? fd.type=some inf∧inf.size=us.length∧(a.eval x).cells=us.toArray∧q+us.length≤cs.length ∧
   rep M b (cs.take q++us++cs.drop (q+us.length)) d'
 | .pair t b,[],_,_,_,_,_,h,_,_=>by simp [fldW] at h
 | .pair t b,fd :: fs,p,0,d,d',cs,h,hr,hs=>by
   simp only [fldW,Bool.and_eq_true,decide_eq_true_eq] at h
   obtain ⟨⟨⟨⟨ho,_⟩,_⟩,ht⟩,_⟩:=h
   obtain ⟨c1,c2,rfl,k1,k2⟩:=hr
   have hs:((ofTV t (s.ev (some t) x)).map fun y=>((y,d.2):t.D×b.D))=some d':=hs
   obtain ⟨y,hy,rfl⟩:=Option.map_eq_some_iff.1 hs
   obtain ⟨us,_,u2,u3⟩:=aiW hy (abH T (some t) x).1
   obtain ⟨inf,hi,hsz,_⟩:=abz (aBQ ht)
   have l1:=aat t c1 _ k1
   have l2:=aat t us _ u2
   refine ⟨fd,us,0,inf,rfl,by omega,hi,by omega,u3,by rw [List.length_append]; omega,?_⟩
   rw [List.take_zero,List.nil_append,Nat.zero_add,l2,← l1,List.drop_left]
   exact ⟨us,c2,rfl,u2,k2⟩
 | .pair t b,fd :: fs,p,i+1,d,d',cs,h,hr,hs=>by
   simp only [fldW,Bool.and_eq_true,decide_eq_true_eq] at h
   obtain ⟨_,hf⟩:=h
   obtain ⟨c1,c2,rfl,k1,k2⟩:=hr
   have hs:((setD s b i x d.2).map fun y=>((d.1,y):t.D×b.D))=some d':=hs
   obtain ⟨y,hy,rfl⟩:=Option.map_eq_some_iff.1 hs
   obtain ⟨fd',us,q,inf,e1,e2,e3,e4,e5,e6,e7⟩:=aEI T b fs (p+t.size) i d.2 y c2 hf k2 hy
   have l1:=aat t c1 _ k1
   refine ⟨fd',us,t.size+q,inf,by simpa using e1,by omega,e3,e4,e5,by rw [List.length_append]; omega,?_⟩
   refine ⟨c1,c2.take q++us++c2.drop (q+us.length),?_,k1,e7⟩
   rw [List.take_append,List.drop_append,l1]
   rw [List.take_of_length_le (by omega),List.drop_of_length_le (by omega)]
   rw [show t.size+q - t.size=q by omega,show t.size+q+us.length - t.size=q+us.length by omega]
   simp
 | .unit,_,_,_,_,_,_,_,_,hs=>by simp [setD] at hs
 | .bool,_,_,_,_,_,_,_,_,hs=>by simp [setD] at hs
 | .int _,_,_,_,_,_,_,_,_,hs=>by simp [setD] at hs
 | .str,_,_,_,_,_,_,_,_,hs=>by simp [setD] at hs
 | .sl _,_,_,_,_,_,_,_,_,hs=>by simp [setD] at hs
 | .st _,_,_,_,_,_,_,_,_,hs=>by simp [setD] at hs
 | .ex,_,_,_,_,_,_,_,_,hs=>by simp [setD] at hs
 | .op _,_,_,_,_,_,_,_,_,hs=>by simp [setD] at hs
theorem aD5 {P:Program}:∀ (b:Ty) (fs:List Field) (p i:Nat) (a:Ty) (q:Nat),fldW P b fs p=true→fldT b i=some (a,q) →
 ∃ fd,fs[i]?=some fd∧fd.offset=p+q∧tyW P a fd.type=true
 | .pair t b,[],_,_,_,_,h,_=>by simp [fldW] at h
 | .pair t b,fd :: fs,p,0,a,q,h,hq=>by
   simp only [fldW,Bool.and_eq_true,decide_eq_true_eq] at h
   obtain ⟨⟨⟨⟨ho,_⟩,_⟩,ht⟩,_⟩:=h
   cases hq
   exact ⟨fd,rfl,by omega,ht⟩
 | .pair t b,fd :: fs,p,i+1,a,q,h,hq=>by
   simp only [fldW,Bool.and_eq_true,decide_eq_true_eq] at h
   obtain ⟨_,hf⟩:=h
   obtain ⟨⟨a',q'⟩,h1,h2⟩:=Option.map_eq_some_iff.1 (show (fldT b i).map (fun p=>(p.1,t.size+p.2))=some (a,q) from hq)
   cases h2
   obtain ⟨fd',e1,e2,e3⟩:=aD5 b fs (p+t.size) i a' q' hf h1
   exact ⟨fd',by simpa using e1,by omega,e3⟩
 | .unit,_,_,_,_,_,_,hq=>by simp [fldT] at hq
 | .bool,_,_,_,_,_,_,hq=>by simp [fldT] at hq
 | .int _,_,_,_,_,_,_,hq=>by simp [fldT] at hq
 | .str,_,_,_,_,_,_,hq=>by simp [fldT] at hq
 | .sl _,_,_,_,_,_,_,hq=>by simp [fldT] at hq
 | .st _,_,_,_,_,_,_,hq=>by simp [fldT] at hq
 | .ex,_,_,_,_,_,_,hq=>by simp [fldT] at hq
 | .op _,_,_,_,_,_,_,hq=>by simp [fldT] at hq
theorem ayq {t:Ty} {n:TypeId} (h:tyW P t n=true):P.cellsOf n=t.size∧0 < t.size:=by
 obtain ⟨i,hi,hs,_,hp,_⟩:=abz (aBQ h)
 unfold Program.cellsOf
 rw [hi]
 exact ⟨hs,hp⟩
theorem ast {e k:Nat}:∀ (m o i:Nat) (fd:Field),(auW e k o m)[i]?=some fd→fd.type=e∧fd.offset=o+i * k∧i < m
 | 0,_,_,_,h=>by simp [auW] at h
 | m+1,o,0,fd,h=>by
   simp only [auW,List.getElem?_cons_zero,Option.some.injEq] at h
   subst h
   exact ⟨rfl,by simp,by omega⟩
 | m+1,o,i+1,fd,h=>by
   obtain ⟨h1,h2,h3⟩:=ast m (o+k) i fd (by simpa [auW] using h)
   exact ⟨h1,by rw [h2,Nat.succ_mul]; omega,by omega⟩
theorem aFj (hΓ:EnvOk P Γ) (I:Inv w0 M0 X s w M ι θ) (T:TInv s w M ι θ a) (G:Goes w0 M0 X r K N) {e:TypeId} (ho:o.op=.alloc e) {b:Ty} {m en:Nat} (hn:Γ.ar e=some (b,m,en))
 (hk:K ({ s with S:=s.S++[zeroCells (.st b)] }.put o.dst (.ptr s.S.length 0))=some r):o.wp P a w N Q:=by
 obtain ⟨inf,hi,_,_,_,z,hz,hz2,_,_⟩:=abz (hΓ.ar _ _ _ _ hn).2.2.1
 obtain ⟨c,hc,k1,k2,k3⟩:=ahi (M:=M) (ι:=ι) (.st b) _ _ hz2
 rw [List.append_nil] at hc
 refine azH I T G (vs:=c) (e:=e) ?_ k1 k2 k3 hk
 have:z.cells=c.toArray:=by rw [← hc]
 simp [execOp,ho,Instr.alloc,zeroValue,typeInfo,hi,hz,newVar,newRow,this,World.alloc,-World.alloc_eq]
theorem aBX (T:TInv s w M ι θ a) {b:Ty} {fs:List Field} {pl:Nat→Option (Nat×Nat)} (hf:fldW P b fs 0=true)
 (hp:∀ (i:Nat) fd inf,fs[i]?=some fd→P.info? fd.type=some inf→pl i=some (fd.offset,inf.size)) :
 ∀ (ps:List (Nat×Operand)) (d d':b.D) (cs:List Value),rep M b cs d→akd s b ps d=some d' →
   ∃ cs',Instr.fill pl cs.toArray (ps.map fun (i,x)=>(i,a.eval x))=some cs'.toArray∧rep M b cs' d'
 | [],d,d',cs,hr,h=>by cases h; exact ⟨cs,rfl,hr⟩
 | (i,x) :: ps,d,d',cs,hr,h=>by
   have h:(setD s b i x d).bind (akd s b ps)=some d':=h
   obtain ⟨m,h1,h2⟩:=Option.bind_eq_some_iff.1 h
   obtain ⟨fd,us,q,inf,e1,e2,e3,e4,e5,e6,e7⟩:=aEI T b fs 0 i d m cs hf hr h1
   obtain ⟨cs',k1,k2⟩:=aBX T hf hp ps m d' _ e7 h2
   refine ⟨cs',?_,k2⟩
   rw [List.map_cons,au_ _ i q (a.eval x) us cs _ ?_ e5 e6]
   · exact k1
   · rw [hp i fd inf e1 e3,e2,e4,Nat.zero_add]
theorem aFl (hΓ:EnvOk P Γ) (I:Inv w0 M0 X s w M ι θ) (T:TInv s w M ι θ a) (G:Goes w0 M0 X r K N) {n:TypeId} {ps:Array (Nat×Operand)} (ho:o.op=.build n ps) {b:Ty} {m e:Nat} {x:b.D}
 (hn:Γ.ar n=some (b,m,e)) (hb:akd s b ps.toList (zero b)=some x) (hk:K (s.put o.dst (.st (.st b) x))=some r):o.wp P a w N Q:=by
 obtain ⟨hu,hf,hinf,hes⟩:=hΓ.ar _ _ _ _ hn
 obtain ⟨inf,hi,_,_,_,z,hz,hz2,_,_⟩:=abz hinf
 obtain ⟨c,hc,hr⟩:=ag5 (M:=M) (.st b) _ _ hz2
 rw [List.append_nil] at hc
 have hz3:z.cells=c.toArray:=by rw [← hc]
 cases hie:P.info? e with
 | none=>rw [hie] at hes; cases hes
 | some ie =>
   have hsz:P.cellsOf e=ie.size:=by unfold Program.cellsOf; rw [hie]; rfl
   obtain ⟨cs',k1,k2⟩:=aBX T hf (pl:=fun i=>some (i * ie.size,ie.size)) (fun i fd inf' h1 h2=>by
    obtain ⟨q1,q2,_⟩:=ast _ _ _ _ h1
    rw [q1,hie] at h2
    cases h2
    rw [q2,hsz,Nat.zero_add]) ps.toList (zero b) x c hr hb
   refine aaP I T G (v:=.agg cs'.toArray) ?_ hk ⟨cs',rfl,k2⟩ rfl
   have hbu:P.built n (ps.map fun (i,x)=>(i,a.eval x)).toList=some cs'.toArray:=by
    unfold Program.built
    simp only [hi,hu,hz,hie]
    rw [hz3,Array.toList_map]
    exact k1
   simp only [execOp,ho,Sem.run_bind,run_build w n _ _ hbu,Result.andThen_ok,Sem.run_pure]
theorem aFm (hΓ:EnvOk P Γ) (I:Inv w0 M0 X s w M ι θ) (T:TInv s w M ι θ a) (G:Goes w0 M0 X r K N) {n:TypeId} {x y:Operand} (ho:o.op=.index n x y) {b:Ty} {m e p:Nat} {k:IntKind} {v:b.D} {q:TV}
 (hc:s.ev none x=.st (.st b) v) (hy:s.ev none y=.int k (p:Int)) (hn:Γ.ar n=some (b,m,e)) (hq:abS b p v=some q) (hk:K (s.put o.dst q)=some r):o.wp P a w N Q:=by
 obtain ⟨h1,_,_⟩:=abH T none x
 obtain ⟨h2,_,_⟩:=abH T none y
 rw [hc] at h1
 rw [hy] at h2
 obtain ⟨cs,h1,h3⟩:=h1
 obtain ⟨hu,hf,_⟩:=hΓ.ar _ _ _ _ hn
 obtain ⟨fd,t,y',c1,c2,c3,e1,_,e3,e4,e5,e6,e7,e8⟩:=aB6 b (auW e (P.cellsOf e) 0 m) 0 p v cs hf h3 q (.inr hq)
 have e3:=e3 hq
 subst e3
 obtain ⟨g1,g2,g3⟩:=ast _ _ _ _ e1
 obtain ⟨np1,np2⟩:=aKm e6
 have hp:=aCM (P:=P) (w:=w) e6 (aat t c2 y' e8) c1 c3
 have hoff:c1.length=p * t.size:=by
  have:=(ayq e6).1
  rw [g1] at this
  rw [← this]; omega
 have hsz:=aBR e6 w
 rw [g1] at hsz hp
 rw [← e4,hoff] at hp
 refine aaP I T G (v:=adq t c2) ?_ hk (ap4 e8 np1 np2) (anj _ _)
 have hb:0≤(p:Int)∧(p:Int) < (m:Int):=by omega
 simp only [execOp,ho,h1,h2.1,Instr.index,Sem.run_bind,asIntOf,Sem.run_pure,run_underlying hu,Result.andThen_ok,if_pos hb,hsz,Int.toNat_natCast,hp]
theorem aAe (hΓ:EnvOk P Γ) (I:Inv w0 M0 X s w M ι θ) (T:TInv s w M ι θ a) (G:Goes w0 M0 X r K N) {n:TypeId} {x y:Operand} (ho:o.op=.indexAddr n x y) {b t:Ty} {m e p i z d:Nat} {k:IntKind}
 (hc:s.ev none x=.ptr i z) (hy:s.ev none y=.int k (p:Int)) (hn:Γ.ar n=some (b,m,e)) (hq:fldT b p=some (t,d)) (hk:K (s.put o.dst (.ptr i (z+d)))=some r):o.wp P a w N Q:=by
 obtain ⟨h1,_,h3⟩:=abH T none x
 obtain ⟨h2,_,_⟩:=abH T none y
 rw [hc] at h1 h3
 rw [hy] at h2
 have h1:a.eval x=.pointer (some ⟨ι i,z,none⟩):=h1
 obtain ⟨hu,hf,_⟩:=hΓ.ar _ _ _ _ hn
 obtain ⟨fd,e1,e2,e3⟩:=aD5 b (auW e (P.cellsOf e) 0 m) 0 p t d hf hq
 obtain ⟨g1,g2,g3⟩:=ast _ _ _ _ e1
 have hsz:=aBR e3 w
 have hcc:=(ayq e3).1
 rw [g1] at hsz hcc
 have hd:d=p * t.size:=by rw [← hcc]; omega
 have hel:P.elem n=e:=by unfold Program.elem; rw [hu]
 have hal:P.arrayLen n=m:=by unfold Program.arrayLen; rw [hu]
 refine ahY I T G (v:=.pointer (some ⟨ι i,z+d,none⟩)) ?_ hk rfl trivial h3
 have hb:0≤(p:Int)∧(p:Int) < (m:Int):=by omega
 simp only [execOp,ho,h1,h2.1,Sem.run_bind]
 rw [run_indexAt_array w n _ _ _ (by rw [hel,hal]; exact hu),hel,hal,if_pos hb,hsz]
 simp only [Result.andThen_ok,Sem.run_pure,agp,Int.toNat_natCast,hd]
end
end Go.Proofs.Ytgmeimbamfggkaa.Den
