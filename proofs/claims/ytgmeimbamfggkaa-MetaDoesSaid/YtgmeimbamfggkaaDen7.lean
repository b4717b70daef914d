import Derived.Test.YtgmeimbamfggkaaDen6
namespace Go.Proofs.Ytgmeimbamfggkaa.Den
open Go
section
variable {w0 : World} {M0:Mem} {X:Fr} {s:St} {w:World} {M:Mem} {ι:Nat→Nat} {θ:Nat→Option Nat} {a:Act}
variable {P : Program} {ρ:Type} {r:ρ} {K:St→Option ρ} {N:Act→World→Prop} {Q:Exit→Act→World→Prop} {o:Oper} {Γ:Env}
theorem agp (b o j:Nat):(⟨b,o,none⟩:Addr).add j=⟨b,o+j,none⟩:=by unfold Addr.add; split <;> simp_all
theorem ap4 {t:Ty} {cs:List Value} {x:t.D} (h:rep M t cs x) (hp:∀ a b,t≠.pair a b) (hu:t≠.unit):rv M ι (toTV t x) (adq t cs):=by
 cases t with
 | bool=>rw [show cs=[.bool x] from h]; rfl
 | int k=>rw [h.1]; exact ⟨rfl,h.2⟩
 | str=>obtain ⟨p,rfl,h2⟩:=h; exact ⟨p,rfl,h2⟩
 | sl t=>obtain ⟨p,c,rfl,h1,h2,h3,h4⟩:=h; exact ⟨p,c,rfl,h1,h2,h3,h4,nofun,nofun⟩
 | unit=>exact absurd rfl hu
 | pair a b=>exact absurd rfl (hp a b)
 | st b=>exact ⟨cs,rfl,h⟩
 | ex=>exact ⟨cs,rfl,azy.1 h⟩
 | op p =>
   cases p with
   | true=>rw [show cs=[.pointer none] from h]; rfl
   | false=>exact trivial
theorem anj (t:Ty) (x:t.D):flat (toTV t x)=true:=by
 cases t <;> (try rfl)
 rename_i p
 cases p <;> rfl
theorem auR {t:Ty} {n:TypeId} (h:tyOk P t n=true):(∀ a b,t≠.pair a b)∧t≠.unit:=by
 cases t <;> simp [tyOk] at h <;> exact ⟨nofun,nofun⟩
theorem auP {t:Ty} {n:TypeId} (ht:tyOk P t n=true) {b p:Nat} {cs:List Value} {x:t.D} (hr:rep M t cs x) (hm:∀ b i v,M b i=some v→w.cell? ⟨b,i,none⟩=some v)
 (hc:∀ (j:Nat) u,cs[j]?=some u→M b (p+j)=some u):(loadVar n ⟨b,p,none⟩).run P w=.ok (adq t cs) w:=by
 have hl:=aat t cs x hr
 have hcell:∀ (j:Nat) u,cs[j]?=some u→w.cell? ((⟨b,p,none⟩:Addr).add j)=some u:=fun j u hj=>by rw [agp]; exact hm _ _ _ (hc j u hj)
 unfold loadVar
 simp only [Sem.run_bind,awo ht,Result.andThen_ok]
 have one:∀ v,cs=[v]→(Go.load ⟨b,p,none⟩).run P w=.ok v w:=by
  rintro v rfl
  have:=hcell 0 v rfl
  rw [agp] at this
  simp only [run_load]
  simp only [Nat.add_zero] at this
  rw [this]
 cases t with
 | st b' =>
   simp only [Ty.agg,if_true,Sem.run_bind,aet ht,Result.andThen_ok,← hl,run_loadCells_list w _ cs hcell]
   rfl
 | ex =>
   simp only [Ty.agg,if_true,Sem.run_bind,aet ht,Result.andThen_ok,← hl,run_loadCells_list w _ cs hcell]
   rfl
 | op p=>obtain ⟨v,rfl⟩:=List.length_eq_one_iff.1 hl; exact one v rfl
 | bool=>obtain ⟨v,rfl⟩:=List.length_eq_one_iff.1 hl; exact one v rfl
 | int k=>obtain ⟨v,rfl⟩:=List.length_eq_one_iff.1 hl; exact one v rfl
 | str=>obtain ⟨v,rfl⟩:=List.length_eq_one_iff.1 hl; exact one v rfl
 | sl t=>obtain ⟨v,rfl⟩:=List.length_eq_one_iff.1 hl; exact one v rfl
 | unit=>simp [tyOk] at ht
 | pair a b=>simp [tyOk] at ht
theorem aBE (I:Inv w0 M0 X s w M ι θ) (T:TInv s w M ι θ a) (G:Goes w0 M0 X r K N) {x:Operand} (ho:o.op=.move x∨o.op=.assign x) {t:Option Ty}
 (hk:K (s.put o.dst (s.ev t x))=some r):o.wp P a w N Q:=by
 obtain ⟨h1,h2,h3⟩:=abH T t x
 refine ahY I T G (v:=a.eval x) ?_ hk h1 h2 h3
 rcases ho with ho | ho <;> simp [execOp,ho]
theorem aH3 (I:Inv w0 M0 X s w M ι θ) (T:TInv s w M ι θ a) (G:Goes w0 M0 X r K N) {c x y:Operand} (ho:o.op=.pick c x y) {t:Option Ty} {b:Bool}
 (hc:s.ev none c=.bool b) (hk:(bif b then K (s.put o.dst (s.ev t x)) else K (s.put o.dst (s.ev t y)))=some r):o.wp P a w N Q:=by
 have h0:=(abH T none c).1
 rw [hc] at h0
 have h0:a.eval c=.bool b:=h0
 cases b with
 | true =>
   obtain ⟨h1,h2,h3⟩:=abH T t x
   exact ahY I T G (v:=a.eval x) (by simp [execOp,ho,h0,asBool]) hk h1 h2 h3
 | false =>
   obtain ⟨h1,h2,h3⟩:=abH T t y
   exact ahY I T G (v:=a.eval y) (by simp [execOp,ho,h0,asBool]) hk h1 h2 h3
theorem aJx (I:Inv w0 M0 X s w M ι θ) (T:TInv s w M ι θ a) (G:Goes w0 M0 X r K N) {n:TypeId} {x:Operand} (ho:o.op=.unOp .not n x) {b:Bool}
 (hc:s.ev none x=.bool b) (hk:K (s.put o.dst (.bool (!b)))=some r):o.wp P a w N Q:=by
 have h0:=(abH T none x).1
 rw [hc] at h0
 have h0:a.eval x=.bool b:=h0
 exact aaP I T G (v:=.bool (!b)) (by simp [execOp,ho,h0,Op.unary]) hk rfl rfl
theorem aJw (I:Inv w0 M0 X s w M ι θ) (T:TInv s w M ι θ a) (G:Goes w0 M0 X r K N) {n:TypeId} {x:Operand} (ho:o.op=.unOp .neg n x) {k:IntKind} {m:Int}
 (hc:s.ev none x=.int k m) (hk:K (s.put o.dst (.int k (wr k (0 - m))))=some r):o.wp P a w N Q:=by
 have h0:=(abH T none x).1
 rw [hc] at h0
 exact aaP I T G (v:=.int k (wr k (0 - m))) (by simp [execOp,ho,h0.1,Op.unary,Op.intArith,wr]) hk ⟨rfl,ayx _ _⟩ rfl
theorem aJy (I:Inv w0 M0 X s w M ι θ) (T:TInv s w M ι θ a) (G:Goes w0 M0 X r K N) {n:TypeId} {x:Operand} (ho:o.op=.unOp .xor n x) {k:IntKind} {m:Int}
 (hc:s.ev none x=.int k m) (hk:K (s.put o.dst (.int k (Go.bits .xor k (if k.signed then -1 else k.max) m)))=some r):o.wp P a w N Q:=by
 have h0:=(abH T none x).1
 rw [hc] at h0
 exact aaP I T G (v:=.int k (Go.bits .xor k (if k.signed then -1 else k.max) m)) (by simp [execOp,ho,h0.1,Op.unary,intBits_xor]) hk ⟨rfl,avb _ _ _ _⟩ rfl
theorem aDJ (I:Inv w0 M0 X s w M ι θ) (T:TInv s w M ι θ a) (G:Goes w0 M0 X r K N) {x:Operand} (ho:o.op=.nilCheck x)
 (hc:(∃ i p,s.ev none x=.ptr i p)∨(∃ t v,s.ev none x=.ep t v)∨∃ t j f i,s.ev none x=.ref (.pel t j f) i) (hk:K (s.put o.dst (s.ev none x))=some r):o.wp P a w N Q:=by
 obtain ⟨h1,h2,h3⟩:=abH T none x
 refine ahY I T G (v:=a.eval x) ?_ hk h1 h2 h3
 rcases hc with ⟨i,p,hc⟩ | ⟨t,v,hc⟩ | ⟨t,j,f,i,hc⟩
 · rw [hc] at h1
   have h1:a.eval x=.pointer (some ⟨ι i,p,none⟩):=h1
   simp [execOp,ho,h1]
 · rw [hc] at h1
   obtain ⟨b,q,vs,h1,_⟩:=h1
   simp [execOp,ho,h1]
 · rw [hc] at h1
   have h1:a.eval x=.pointer (some ⟨ι i,j * t.size+offF t f,none⟩):=h1
   simp [execOp,ho,h1]
theorem aDD (I:Inv w0 M0 X s w M ι θ) (T:TInv s w M ι θ a) (G:Goes w0 M0 X r K N) {x:Operand} {i:Nat} (ho:o.op=.extract x i) {l:List TV} {v:TV}
 (hc:s.ev none x=.tup l) (hv:l[i]?=some v) (hk:K (s.put o.dst v)=some r):o.wp P a w N Q:=by
 obtain ⟨h1,h2,h3⟩:=abH T none x
 rw [hc] at h1 h2 h3
 obtain ⟨vs,h1,h4⟩:=h1
 have h2:=h2 vs h1
 have h3:=h3 vs h1
 have key:∀ (l:List TV) (vs:List Value) (i:Nat),rvs M ι l vs→tcs w M θ s.O s.c l vs→abE w s.S l vs→l[i]?=some v →
  ∃ u,vs[i]?=some u∧rv M ι v u∧tc w M θ s.O s.c v u∧aaI w s.S v u:=by
  intro l
  induction l with
  | nil=>intro vs i _ _ _ hi; simp at hi
  | cons x l ih =>
    intro vs i hr ht hw hi
    obtain ⟨u,us,rfl,k1,k2⟩:=hr
    obtain ⟨k3,k4⟩:=ht
    obtain ⟨k5,k6⟩:=hw
    cases i with
    | zero=>simp at hi; subst hi; exact ⟨u,rfl,k1,k3,k5⟩
    | succ i=>obtain ⟨u',q⟩:=ih us i k2 k4 k6 (by simpa using hi); exact ⟨u',by simpa using q⟩
 obtain ⟨u,hu,k1,k2,k3⟩:=key l vs i h4 h2 h3 hv
 refine ahY I T G (v:=u) ?_ hk k1 k2 k3
 simp [execOp,ho,h1,Instr.extract,hu]
theorem aGY (I:Inv w0 M0 X s w M ι θ) (T:TInv s w M ι θ a) (G:Goes w0 M0 X r K N) {x:Operand} {n:TypeId} (ho:o.op=.call { callee:=.builtin .len,args:=#[x],argTypes:=#[n] })
 {m:Nat} (hc:(∃ t f nl,∃ l:List t.D,s.ev none x=.sl t f nl l∧l.length=m∧∃ e,P.underlying n=some (.slice e))∨∃ l,s.ev none x=.str l∧l.length=m∧P.underlying n=some .string)
 (hk:K (s.put o.dst (.int .i64 (m:Int)))=some r):o.wp P a w N Q:=by
 obtain ⟨h1,_,_⟩:=abH T none x
 have hin:∀ m:Nat,m≤maxLen→inK .i64 (m:Int)=true:=by
  intro m hm; rw [al0]; unfold maxLen at hm
  have e1:IntKind.i64.min = -9223372036854775808:=by decide
  have e2:IntKind.i64.max=9223372036854775807:=by decide
  omega
 rcases hc with ⟨t,f,nl,l,hc,hm,e,hu⟩ | ⟨l,hc,hm,hu⟩
 · rw [hc] at h1
   obtain ⟨p,c,h1,h2,h3,_⟩:=h1
   subst hm
   refine aaP I T G (v:=.int .i64 (l.length:Int)) ?_ hk ⟨rfl,hin _ (Nat.le_trans h2 h3)⟩ rfl
   simp [execOp,ho,h1,resolve,invoke,builtin,Builtin.len_,run_underlying hu,goInt]
 · rw [hc] at h1
   obtain ⟨p,h1,rfl,h3⟩:=h1
   subst hm
   rw [acj] at hk
   refine aaP I T G (v:=.int .i64 (p.size:Int)) ?_ hk ⟨rfl,hin _ h3⟩ rfl
   simp [execOp,ho,h1,resolve,invoke,builtin,Builtin.len_,run_underlying hu,goInt]
theorem aAU : ∀ (b:Ty) (fs:List Field) (p f:Nat) (v:b.D) (cs:List Value),abT P b fs p=true→rep M b cs v→∀ (q:TV),adK b f v=some q∨abS b f v=some q →
 ∃ fd t x c1 c2 c3,fs[f]?=some fd∧(adK b f v=some q→q=.ep t x)∧(abS b f v=some q→q=toTV t x)∧cs=c1++c2++c3∧p+c1.length=fd.offset∧tyOk P t fd.type=true∧0 < t.size∧rep M t c2 x
 | .pair a b,[],_,_,_,_,h,_,_,_=>by simp [abT] at h
 | .pair a b,fd :: fs,p,0,v,cs,h,hr,q,hq=>by
   simp only [abT,Bool.and_eq_true,decide_eq_true_eq] at h
   obtain ⟨⟨⟨⟨ho,_⟩,hs⟩,ht⟩,_⟩:=h
   obtain ⟨c1,c2,rfl,k1,_⟩:=hr
   refine ⟨fd,a,v.1,[],c1,c2,rfl,fun e=>?_,fun e=>?_,rfl,by simp [ho],ht,hs,k1⟩
   · simpa [adK] using e.symm
   · simpa [abS] using e.symm
 | .pair a b,fd :: fs,p,f+1,v,cs,h,hr,q,hq=>by
   simp only [abT,Bool.and_eq_true,decide_eq_true_eq] at h
   obtain ⟨⟨⟨⟨ho,_⟩,_⟩,ht⟩,hf⟩:=h
   obtain ⟨c1,c2,rfl,k1,k2⟩:=hr
   obtain ⟨fd',t,x,d1,d2,d3,e1,e2,e3,e4,e5,e6⟩:=aAU b fs (p+a.size) f v.2 c2 hf k2 q hq
   refine ⟨fd',t,x,c1++d1,d2,d3,by simpa using e1,e2,e3,by rw [e4]; simp,?_,e6⟩
   rw [List.length_append,aat a c1 _ k1]; omega
 | .unit,_,_,_,_,_,_,_,_,hq=>by rcases hq with hq | hq <;> simp [adK,abS] at hq
 | .bool,_,_,_,_,_,_,_,_,hq=>by rcases hq with hq | hq <;> simp [adK,abS] at hq
 | .int _,_,_,_,_,_,_,_,_,hq=>by rcases hq with hq | hq <;> simp [adK,abS] at hq
 | .str,_,_,_,_,_,_,_,_,hq=>by rcases hq with hq | hq <;> simp [adK,abS] at hq
 | .sl _,_,_,_,_,_,_,_,_,hq=>by rcases hq with hq | hq <;> simp [adK,abS] at hq
 | .st _,_,_,_,_,_,_,_,_,hq=>by rcases hq with hq | hq <;> simp [adK,abS] at hq
 | .ex,_,_,_,_,_,_,_,_,hq=>by rcases hq with hq | hq <;> simp [adK,abS] at hq
 | .op _,_,_,_,_,_,_,_,_,hq=>by rcases hq with hq | hq <;> simp [adK,abS] at hq
theorem apj {fd:Field} {m b p:Nat} (hs:(sizeOf fd.type).run P w=.ok m w) (hm:m≠0):(fieldPlace ⟨b,p,none⟩ fd).run P w=.ok ⟨b,p+fd.offset,none⟩ w:=by
 unfold fieldPlace
 simp only [Sem.run_bind,hs,Result.andThen_ok,if_neg hm,Sem.run_pure,agp]
theorem aDE (hΓ:EnvOk P Γ) (I:Inv w0 M0 X s w M ι θ) (T:TInv s w M ι θ a) (G:Goes w0 M0 X r K N) {n:TypeId} {x:Operand} {f:Nat} (ho:o.op=.fieldAddr n x f) {b:Ty} {v:b.D} {q:TV}
 (hc:s.ev none x=.ep (.st b) v) (hn:Γ.ty n=some (.st b)) (hq:adK b f v=some q) (hk:K (s.put o.dst q)=some r):o.wp P a w N Q:=by
 obtain ⟨h1,_,_⟩:=abH T none x
 rw [hc] at h1
 obtain ⟨b',p,vs,h1,h2,h3,h4⟩:=h1
 obtain ⟨fs,hu,hf,_⟩:=ak7 (hΓ.ty _ _ hn)
 obtain ⟨fd,t,y,c1,c2,c3,e1,e2,_,e4,e5,e6,e7,e8⟩:=aAU b fs.toList 0 f v vs hf h3 q (.inl hq)
 have e2:=e2 hq
 subst e2
 have e1':fs[f]?=some fd:=by rw [← Array.getElem?_toList]; exact e1
 refine aaP I T G (v:=.pointer (some ⟨b',p+fd.offset,none⟩)) ?_ hk ⟨b',p+fd.offset,c2,rfl,aat t c2 y e8,e8,fun j u hj=>?_⟩ rfl
 · simp only [execOp,ho,h1,Instr.fieldAt,Sem.run_bind,run_underlying hu,Result.andThen_ok,e1',Instr.sureAddr,Sem.run_pure,
    apj (P:=P) (w:=w) (aet e6 w) (by omega)]
 · have:=h4 (c1.length+j) u (by
    have hlt:j < c2.length:=(List.getElem?_eq_some_iff.1 hj).1
    rw [e4,List.append_assoc,List.getElem?_append_right (by omega),List.getElem?_append_left (by omega)]
    simpa using hj)
   rw [← this]
   congr 1
   omega
theorem aDF (hΓ:EnvOk P Γ) (I:Inv w0 M0 X s w M ι θ) (T:TInv s w M ι θ a) (G:Goes w0 M0 X r K N) {n:TypeId} {x:Operand} {f:Nat} (ho:o.op=.field n x f) {b:Ty} {v:b.D} {q:TV}
 (hc:s.ev none x=.st (.st b) v) (hn:Γ.ty n=some (.st b)) (hq:abS b f v=some q) (hk:K (s.put o.dst q)=some r):o.wp P a w N Q:=by
 obtain ⟨h1,_,_⟩:=abH T none x
 rw [hc] at h1
 obtain ⟨cs,h1,h3⟩:=h1
 obtain ⟨fs,hu,hf,_⟩:=ak7 (hΓ.ty _ _ hn)
 obtain ⟨fd,t,y,c1,c2,c3,e1,_,e3,e4,e5,e6,e7,e8⟩:=aAU b fs.toList 0 f v cs hf h3 q (.inr hq)
 have e3:=e3 hq
 subst e3
 have e1':fs[f]?=some fd:=by rw [← Array.getElem?_toList]; exact e1
 obtain ⟨np1,np2⟩:=auR e6
 have hp:=aoa (P:=P) (w:=w) e6 (aat t c2 y e8) c1 c3
 rw [← e4,show c1.length=fd.offset by omega] at hp
 refine aaP I T G (v:=adq t c2) ?_ hk (ap4 e8 np1 np2) (anj _ _)
 simp only [execOp,ho,h1,Instr.field,Sem.run_bind,run_underlying hu,Result.andThen_ok,e1',asAgg,Sem.run_pure,hp]
theorem aCT (hΓ:EnvOk P Γ) (I:Inv w0 M0 X s w M ι θ) (T:TInv s w M ι θ a) (G:Goes w0 M0 X r K N) {n:TypeId} {x:Operand} {f i p q:Nat} (ho:o.op=.fieldAddr n x f)
 (hc:s.ev none x=.ptr i p) (hn:Γ.off n f=some q) (hk:K (s.put o.dst (.ptr i (p+q)))=some r):o.wp P a w N Q:=by
 obtain ⟨h1,_,h3⟩:=abH T none x
 rw [hc] at h1 h3
 have h1:a.eval x=.pointer (some ⟨ι i,p,none⟩):=h1
 obtain ⟨fs,fd,inf,hu,hf,hq,hi,hs⟩:=hΓ.off _ _ _ hn
 subst hq
 refine ahY I T G (v:=.pointer (some ⟨ι i,p+fd.offset,none⟩)) ?_ hk rfl trivial h3
 simp only [execOp,ho,h1,Instr.fieldAt,Sem.run_bind,run_underlying hu,Result.andThen_ok,hf,Instr.sureAddr,Sem.run_pure,
  apj (P:=P) (w:=w) (fd:=fd) (m:=inf.size) (by simp [sizeOf,typeInfo,hi]) hs]
theorem aCS (hΓ:EnvOk P Γ) (I:Inv w0 M0 X s w M ι θ) (T:TInv s w M ι θ a) (G:Goes w0 M0 X r K N) {n:TypeId} {x:Operand} {f i j q:Nat} {b:Ty} (ho:o.op=.fieldAddr n x f)
 (hc:s.ev none x=.ref (.pel (.st b) j none) i) (hn:Γ.off n f=some q) (he:offF (.st b) (some f)=q) (hk:K (s.put o.dst (.ref (.pel (.st b) j (some f)) i))=some r):o.wp P a w N Q:=by
 obtain ⟨h1,_,h3⟩:=abH T none x
 rw [hc] at h1 h3
 have h1:a.eval x=.pointer (some ⟨ι i,j * (Ty.st b).size+0,none⟩):=h1
 obtain ⟨fs,fd,inf,hu,hf,hq,hi,hs⟩:=hΓ.off _ _ _ hn
 refine ahY I T G (v:=.pointer (some ⟨ι i,j * (Ty.st b).size+0+fd.offset,none⟩)) ?_ hk ?_ trivial ⟨h3.1,trivial⟩
 · simp only [execOp,ho,h1,Instr.fieldAt,Sem.run_bind,run_underlying hu,Result.andThen_ok,hf,Instr.sureAddr,Sem.run_pure,
    apj (P:=P) (w:=w) (fd:=fd) (m:=inf.size) (by simp [sizeOf,typeInfo,hi]) hs]
 · show Value.pointer _=Value.pointer (some ⟨ι i,j * (Ty.st b).size+offF (.st b) (some f),none⟩)
   rw [he,hq,Nat.add_zero]
theorem aEo {α:Type} {l:List α} {j:Int} {v:α} (h:nth l j=some v):0≤j∧l[j.toNat]?=some v∧j < l.length:=by
 unfold nth at h
 split at h
 · rename_i h0
   have:=(List.getElem?_eq_some_iff.1 h).1
   exact ⟨h0,h,by omega⟩
 · cases h
theorem aBB (hΓ:EnvOk P Γ) (I:Inv w0 M0 X s w M ι θ) (T:TInv s w M ι θ a) (G:Goes w0 M0 X r K N) {n:TypeId} {x y:Operand} (ho:o.op=.indexAddr n x y) {t:Ty} {f:Fl} {nl:Option Bool} {l:List t.D} {k:IntKind} {j:Int} {v:t.D}
 (hx:s.ev none x=.sl t f nl l) (hy:s.ev none y=.int k j) (hn:Γ.ty n=some (.sl t)) (hv:nth l j=some v) (hk:K (s.put o.dst (epTV t v))=some r):o.wp P a w N Q:=by
 obtain ⟨h1,_,_⟩:=abH T none x
 obtain ⟨h2,_,_⟩:=abH T none y
 rw [hx] at h1
 rw [hy] at h2
 obtain ⟨p,c,h1,h3,h4,h5,h6,_⟩:=h1
 obtain ⟨j0,hv,hlt⟩:=aEo hv
 obtain ⟨e,hu,hte⟩:=agb (hΓ.ty _ _ hn)
 obtain ⟨b,q,rfl,h7⟩:=h6 (by rintro rfl; simp at hv)
 obtain ⟨vs,k1,k2,k3⟩:=h7 _ _ hv
 have hep:rv M ι (epTV t v) (.pointer (some ⟨b,q+j.toNat * t.size,none⟩))∧flat (epTV t v)=true:=by
  cases t with
  | ex=>exact ⟨⟨b,_,vs,rfl,k1,azy.1 k2,k3⟩,rfl⟩
  | _=>exact ⟨⟨b,_,vs,rfl,k1,k2,k3⟩,rfl⟩
 refine aaP I T G (v:=.pointer (some ⟨b,q+j.toNat * t.size,none⟩)) ?_ hk hep.1 hep.2
 have hel:P.elem n=e:=by unfold Program.elem; rw [hu]
 simp only [execOp,ho,h1,h2.1,Sem.run_bind]
 rw [run_indexAt_slice w n _ _ _ _ _ (by rw [hel]; exact hu),hel,if_pos ⟨j0,hlt⟩,aet hte]
 simp only [Result.andThen_ok,Sem.run_pure,agp]
theorem aGX (hΓ:EnvOk P Γ) (I:Inv w0 M0 X s w M ι θ) (T:TInv s w M ι θ a) (G:Goes w0 M0 X r K N) {n:TypeId} {x y:Operand} (ho:o.op=.index n x y) {l:List Int} {k:IntKind} {j:Int} {v:Int}
 (hx:s.ev none x=.str l) (hy:s.ev none y=.int k j) (hn:Γ.ty n=some .str) (hv:nth l j=some v) (hk:K (s.put o.dst (.int .u8 v))=some r):o.wp P a w N Q:=by
 obtain ⟨h1,_,_⟩:=abH T none x
 obtain ⟨h2,_,_⟩:=abH T none y
 rw [hx] at h1
 rw [hy] at h2
 obtain ⟨p,h1,rfl,_⟩:=h1
 obtain ⟨j0,hv,hlt⟩:=aEo hv
 have hu:=ag4 (hΓ.ty _ _ hn)
 rw [acj] at hlt
 have hj:j.toNat < p.size:=by omega
 have hb:v=((p[j.toNat]'hj).toNat:Int):=by
  unfold aaz at hv
  rw [List.getElem?_map] at hv
  have:p.data.toList[j.toNat]?=some (p[j.toNat]'hj):=by
   rw [List.getElem?_eq_getElem (by rw [Array.length_toList]; exact hj)]
   rfl
  rw [this] at hv
  exact (Option.some.inj hv).symm
 subst hb
 have hin:inK .u8 ((p[j.toNat]'hj).toNat:Int)=true:=by
  have:=(p[j.toNat]'hj).toNat_lt
  rw [al0]
  have e1:IntKind.u8.min=0:=by decide
  have e2:IntKind.u8.max=255:=by decide
  omega
 refine aaP I T G (v:=.int .u8 ((p[j.toNat]'hj).toNat:Int)) ?_ hk ⟨rfl,hin⟩ rfl
 simp only [execOp,ho,h1,h2.1,Instr.index,Sem.run_bind,asIntOf,Sem.run_pure,Result.andThen_ok,run_underlying hu,if_pos j0]
 rw [show p[j.toNat]?=some (p[j.toNat]'hj) from by simp [hj]]
 rfl
theorem aCW (I:Inv w0 M0 X s w M ι θ) (T:TInv s w M ι θ a) (G:Goes w0 M0 X r K N) {f:FuncId} {caps:Array Operand} (ho:o.op=.makeFunc (.func f) #[] caps)
 (hk:K (s.put o.dst (.fn f (caps.toList.map (s.ev none))))=some r):o.wp P a w N Q:=by
 have key:∀ l:List Operand,rvs M ι (l.map (s.ev none)) (l.map a.eval)∧abE w s.S (l.map (s.ev none)) (l.map a.eval):=by
  intro l
  induction l with
  | nil=>exact ⟨rfl,trivial⟩
  | cons x l ih=>obtain ⟨k1,_,k3⟩:=abH T none x; exact ⟨⟨_,_,rfl,k1,ih.1⟩,k3,ih.2⟩
 obtain ⟨k1,k2⟩:=key caps.toList
 refine ahY I T G (v:=.func (.func f) #[] (caps.map a.eval)) ?_ hk ⟨caps.toList.map a.eval,by congr 1; apply Array.ext'; simp,k1⟩ trivial (fun vs hv=>?_)
 · simp [execOp,ho,Instr.makeFunc]
 · have:vs=caps.toList.map a.eval:=by
    injection hv with _ _ e
    have:=congrArg Array.toList e
    simpa using this.symm
   rw [this]; exact k2
theorem aKc (I:Inv w0 M0 X s w M ι θ) (T:TInv s w M ι θ a) (G:Goes w0 M0 X r K N) {x y:Operand} {ns:Array TypeId} (ho:o.op=.call { callee:=.builtin .min,args:=#[x,y],argTypes:=ns }) {k:IntKind} {p q:Int}
 (hx:s.ev none x=.int k p) (hy:s.ev none y=.int k q) (hk:K (s.put o.dst (.int k (mnI p q)))=some r):o.wp P a w N Q:=by
 obtain ⟨h1,_,_⟩:=abH T none x
 obtain ⟨h2,_,_⟩:=abH T none y
 rw [hx] at h1
 rw [hy] at h2
 refine aaP I T G (v:=.int k (mnI p q)) ?_ hk ⟨rfl,?_⟩ rfl
 · simp [execOp,ho,h1.1,h2.1,resolve,invoke,builtin,Builtin.min_,Builtin.min2,mnI]
 · unfold mnI
   split
   · exact h2.2
   · exact h1.2
theorem aKd (I:Inv w0 M0 X s w M ι θ) (T:TInv s w M ι θ a) (G:Goes w0 M0 X r K N) {x y:Operand} {ns:Array TypeId} (ho:o.op=.call { callee:=.builtin .max,args:=#[x,y],argTypes:=ns }) {k:IntKind} {p q:Int}
 (hx:s.ev none x=.int k p) (hy:s.ev none y=.int k q) (hk:K (s.put o.dst (.int k (mxI p q)))=some r):o.wp P a w N Q:=by
 obtain ⟨h1,_,_⟩:=abH T none x
 obtain ⟨h2,_,_⟩:=abH T none y
 rw [hx] at h1
 rw [hy] at h2
 refine aaP I T G (v:=.int k (mxI p q)) ?_ hk ⟨rfl,?_⟩ rfl
 · simp [execOp,ho,h1.1,h2.1,resolve,invoke,builtin,Builtin.max_,Builtin.max2,mxI]
 · unfold mxI
   split
   · exact h2.2
   · exact h1.2
def bnd (v:Option Value) (d:Nat) (n:Nat):Prop:=(v=none∧n=d)∨∃ k,v=some (.int k (n:Int))
theorem axa (isS:Bool) (len cap:Nat) (lo hi mx:Option Value) (l h m:Nat) (hm:bnd mx cap m) (hh:bnd hi len h) (hl:bnd lo 0 l) (h1:l≤h) (h2:h≤m) (h3:m≤cap)
 (hx:mx≠none→hi≠none):(Instr.sliceBounds isS len cap lo hi mx).run P w=.ok (l,h,m) w:=by
 unfold Instr.sliceBounds
 rcases hm with ⟨rfl,rfl⟩ | ⟨km,rfl⟩ <;> rcases hh with ⟨rfl,rfl⟩ | ⟨kh,rfl⟩ <;> rcases hl with ⟨rfl,rfl⟩ | ⟨kl,rfl⟩ <;>
  first
   | exact absurd rfl (hx (Option.some_ne_none _))
   | (simp only [Sem.run_bind,Sem.run_pure,Result.andThen_ok,run_sliceBound w _ _ _ _ (Int.natCast_nonneg _) (Int.ofNat_le.2 h1),run_sliceBound w _ _ _ _ (Int.natCast_nonneg _) (Int.ofNat_le.2 h2),
    run_sliceBound w _ _ _ _ (Int.natCast_nonneg _) (Int.ofNat_le.2 h3),Int.toNat_natCast])
theorem aIG {t:Ty} {p:Option Addr} {l:List t.D} {i j m:Nat} (h:arr M (rep M t) t.size p l) (hij:i≤j) (hj:j≤l.length) (hm:j≤m) :
 arr M (rep M t) t.size (if m=i then p else p.map (·.add (i * t.size))) ((l.take j).drop i):=by
 intro hne
 have hlt:i < j:=by
  rcases Nat.lt_or_ge i j with h | h
  · exact h
  · exfalso; apply hne; apply List.drop_eq_nil_of_le; rw [List.length_take]; omega
 obtain ⟨b,q,rfl,hi⟩:=h (by rintro rfl; simp at hj; omega)
 rw [if_neg (by omega)]
 refine ⟨b,q+i * t.size,by simp [agp],fun x y hy=>?_⟩
 rw [List.getElem?_drop,List.getElem?_take] at hy
 split at hy
 · obtain ⟨vs,k1,k2,k3⟩:=hi (i+x) y hy
   refine ⟨vs,k1,k2,fun z u hz=>?_⟩
   have:=k3 z u hz
   rw [← this]
   congr 1
   rw [Nat.add_mul]; omega
 · cases hy
theorem au7 {α:Type} {l r:List α} {i j:Int} (h:cut l i j=some r):∃ p q:Nat,i=p∧j=q∧p≤q∧q≤l.length∧r=(l.take q).drop p:=by
 unfold cut at h
 split at h
 · rename_i hc
   refine ⟨i.toNat,j.toNat,by omega,by omega,by omega,by omega,?_⟩
   exact (Option.some.inj h).symm
 · cases h
theorem aqq (hΓ:EnvOk P Γ) (I:Inv w0 M0 X s w M ι θ) (T:TInv s w M ι θ a) (G:Goes w0 M0 X r K N) {n:TypeId} {x:Operand} {lo hi mx:Option Operand} (ho:o.op=.slice n x lo hi mx)
 {t:Ty} {f f':Fl} {nl:Option Bool} {l:List t.D} (hx:s.ev (Γ.ty n) x=.sl t f nl l) (hn:Γ.ty n=some (.sl t)) {i j m:Nat}
 (hl:bnd (lo.map a.eval) 0 i) (hh:bnd (hi.map a.eval) l.length j) (hm:mx=none∨(hi≠none∧m=j∧bnd (mx.map a.eval) 0 m∧mx≠none)) (hij:i≤j) (hj:j≤l.length)
 (hf:f'=.sh∨(f'=.full∧((f=.full∧hi=none∧mx=none)∨mx≠none))∨(∃ q,f'=.own q∧f=.own q∧hi=none∧mx=none))
 (hk:K (s.put o.dst (.sl t f' nl ((l.take j).drop i)))=some r):o.wp P a w N Q:=by
 obtain ⟨h1,ht1,_⟩:=abH T (Γ.ty n) x
 rw [hx] at h1 ht1
 obtain ⟨p,c,h1,h3,h4,h5,h6,h7,h8⟩:=h1
 obtain ⟨e,hu,hte⟩:=agb (hΓ.ty _ _ hn)
 have hlen:((l.take j).drop i).length=j - i:=by rw [List.length_drop,List.length_take]; omega
 have key:∀ m':Nat,bnd (mx.map a.eval) c m'→j≤m'→m'≤c→(mx.map a.eval≠none→hi.map a.eval≠none)→(f'=.full→m'=j)→((∃ q,f'=.own q)→m'=c∧j=l.length∧f'=f)→o.wp P a w N Q:=by
  intro m' hm' h9 h10 h11 h12 h13
  refine ahY I T G (v:=.slice (if m'=i then p else p.map (·.add (i * t.size))) (j - i) (m' - i)) ?_ hk ⟨_,m' - i,by rw [hlen],?_,?_,?_,aIG h6 hij hj h9,?_,?_⟩ ?_ trivial
  · simp only [execOp,ho,h1,Sem.run_bind,Instr.sliceAt,run_underlying hu,Result.andThen_ok,Instr.slice,axa (P:=P) (w:=w) true l.length c _ _ _ i j m' hm' hh hl hij h9 h10 h11,aet hte,Sem.run_pure]
  · rw [hlen]; omega
  · omega
  · intro hnone
    have:p=none:=by
        by_cases hmi:m'=i
        · rw [if_pos hmi] at hnone; exact hnone
        · rw [if_neg hmi] at hnone; simpa using hnone
    have:=h5 this
    omega
  · intro b hb
    rw [← h7 b hb]
    split
    · rfl
    · simp
  · intro hfull
    rw [hlen,h12 hfull]
  · rcases hf with rfl | ⟨rfl,_⟩ | ⟨q0,rfl,_⟩
    · trivial
    · trivial
    · obtain ⟨rfl,rfl,rfl⟩:=h13 ⟨q0,rfl⟩
      refine ⟨ht1.1,fun hq a' n' c' hv=>?_⟩
      injection hv with e1 e2 e3
      subst e1 e2 e3
      rcases ht1.2 hq _ _ _ h1 with k | k | ⟨g,e',cur,p0,k1,k2,k3,k4,k5⟩
      · left; rw [k]; split <;> rfl
      · right; left; omega
      · by_cases hmi:m'=i
        · right; left; omega
        · refine .inr (.inr ⟨g,e',cur,p0+i * t.size,?_,k2,k3,?_,fun z hz=>k5 z ?_⟩)
          · rw [if_neg hmi,k1,Option.map_some,agp]
          · rw [k4,Nat.add_assoc,← Nat.add_mul,show i+(m' - i)=m' by omega]
          · rw [Nat.add_assoc,← Nat.add_mul,show i+(l.length - i)=l.length by omega] at hz
            exact hz
 rcases hm with rfl | ⟨hhi,rfl,hb,hmx⟩
 · refine key c (.inl ⟨rfl,rfl⟩) (by omega) (Nat.le_refl _) (by simp) (fun hfull=>?_) (fun ⟨q0,hq0⟩=>?_)
   rotate_left
   · rcases hf with rfl | ⟨rfl,_⟩ | ⟨q1,h1',h2',h3',_⟩
     · cases hq0
     · cases hq0
     · refine ⟨rfl,?_,h1'.trans h2'.symm⟩
       rcases hh with ⟨_,hj'⟩ | ⟨k,hk'⟩
       · exact hj'
       · rw [h3'] at hk'; cases hk'
   rcases hf with rfl | ⟨_,⟨hff,hhn,_⟩ | hmx⟩ | ⟨_,rfl,_⟩
   · cases hfull
   · rcases hh with ⟨_,hj'⟩ | ⟨k,hk'⟩
     · rw [h8 hff,hj']
     · rw [hhn] at hk'; cases hk'
   · exact absurd rfl hmx
   · cases hfull
 · refine key m ?_ (Nat.le_refl _) (by omega) (by intro _; simpa using hhi) (fun _=>rfl) (fun ⟨q0,hq0⟩=>?_)
   rotate_left
   · rcases hf with rfl | ⟨rfl,_⟩ | ⟨q1,_,_,_,hmx0⟩
     · cases hq0
     · cases hq0
     · exact absurd hmx0 hmx
   rcases hb with ⟨hb,_⟩ | hb
   · exfalso; apply hmx; simpa using hb
   · exact .inr hb
theorem awk (hΓ:EnvOk P Γ) (I:Inv w0 M0 X s w M ι θ) (T:TInv s w M ι θ a) (G:Goes w0 M0 X r K N) {n:TypeId} {x:Operand} {lo hi:Option Operand} (ho:o.op=.slice n x lo hi none)
 {l:List Int} (hx:s.ev (Γ.ty n) x=.str l) (hn:Γ.ty n=some .str) {i j:Nat}
 (hl:bnd (lo.map a.eval) 0 i) (hh:bnd (hi.map a.eval) l.length j) (hij:i≤j) (hj:j≤l.length)
 (hk:K (s.put o.dst (.str ((l.take j).drop i)))=some r):o.wp P a w N Q:=by
 obtain ⟨h1,_,_⟩:=abH T (Γ.ty n) x
 rw [hx] at h1
 obtain ⟨p,h1,rfl,h3⟩:=h1
 have hu:=ag4 (hΓ.ty _ _ hn)
 rw [acj] at hh hj
 refine aaP I T G (v:=.string (p.extract i j)) ?_ hk ⟨p.extract i j,rfl,?_,?_⟩ rfl
 · simp only [execOp,ho,h1,Sem.run_bind,Instr.sliceAt,run_underlying hu,Result.andThen_ok,Instr.slice,Option.map_none,Option.isSome_none,Bool.false_eq_true,if_false,Sem.run_pure,
    axa (P:=P) (w:=w) false p.size p.size _ _ none i j p.size (.inl ⟨rfl,rfl⟩) hh hl hij hj (Nat.le_refl _) (by simp)]
 · unfold aaz
   rw [← List.map_take,← List.map_drop]
   congr 1
   rw [ByteArray.data_extract,Array.toList_extract]
   rw [List.extract_eq_take_drop,List.drop_take]
 · rw [ByteArray.size_extract]; omega
end
end Go.Proofs.Ytgmeimbamfggkaa.Den
