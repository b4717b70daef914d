import Derived.Test.YtgmeimbamfggkaaDen13e
namespace Go.Proofs.Ytgmeimbamfggkaa.Den
open Go
set_option linter.unusedVariables false
set_option linter.unusedSimpArgs false
section
variable {w0 : World} {M0:Mem} {X:Fr} {s:St} {w:World} {M:Mem} {ι:Nat→Nat} {θ:Nat→Option Nat} {a:Act}
variable {P : Program} {ρ:Type} {r:ρ} {K:St→Option ρ} {N:Act→World→Prop} {Q:Exit→Act→World→Prop} {o:Oper} {Γ:Env}
theorem axl : ∀ (b:Ty) (f o:Nat),fieldAt b f o=(fldT b f).map fun p=>(o+p.2,p.1)
 | .pair a b,0,o=>rfl
 | .pair a b,f+1,o=>by
   show fieldAt b f (o+a.size)=((fldT b f).map fun p=>(p.1,a.size+p.2)).map fun p=>(o+p.2,p.1)
   rw [axl b f (o+a.size)]
   cases fldT b f with
   | none=>rfl
   | some p=>show some (o+a.size+p.2,p.1)=some (o+(a.size+p.2),p.1); rw [Nat.add_assoc]
 | .bool,0,_=>rfl
 | .int _,0,_=>rfl
 | .str,0,_=>rfl
 | .sl _,0,_=>rfl
 | .unit,0,_=>rfl
 | .st _,0,_=>rfl
 | .ex,0,_=>rfl
 | .op _,0,_=>rfl
 | .bool,_+1,_=>rfl
 | .int _,_+1,_=>rfl
 | .str,_+1,_=>rfl
 | .sl _,_+1,_=>rfl
 | .unit,_+1,_=>rfl
 | .st _,_+1,_=>rfl
 | .ex,_+1,_=>rfl
 | .op _,_+1,_=>rfl
theorem aEp {b:Ty} {f:Nat} {u:Ty} {q:Nat} (h:fldT b f=some (u,q)):offF (.st b) (some f)=q:=by
 show (match fieldAt b f 0 with | some (o,_)=>o | none=>0)=q
 rw [axl,h]
 exact Nat.zero_add q
theorem ayv : ∀ (b:Ty) (f:Nat) (u:Ty) (q:Nat) (x:b.D) (vs:List Value),fldT b f=some (u,q)→rep M b vs x →
 ∃ (y:u.D) (c1 c2 c3:List Value),abS b f x=some (toTV u y)∧vs=c1++c2++c3∧c1.length=q∧rep M u c2 y ∧
   ∀ (v:TV) (z:b.D),aCP b f v x=some z→∃ y',ofTV u v=some y'∧∀ d2,rep M u d2 y'→rep M b (c1++d2++c3) z
 | .pair a b,0,u,q,x,vs,h,hr=>by
   cases h
   obtain ⟨c1,c2,rfl,k1,k2⟩:=hr
   refine ⟨x.1,[],c1,c2,rfl,rfl,rfl,k1,fun v z hz=>?_⟩
   obtain ⟨y',h1,h2⟩:=Option.map_eq_some_iff.1 (show (ofTV _ v).map (fun y=>(y,x.2))=some z from hz)
   subst h2
   exact ⟨y',h1,fun d2 hd=>⟨d2,c2,by simp,hd,k2⟩⟩
 | .pair a b,f+1,u,q,x,vs,h,hr=>by
   obtain ⟨⟨u',q'⟩,h1,h2⟩:=Option.map_eq_some_iff.1 (show (fldT b f).map (fun p=>(p.1,a.size+p.2))=some (u,q) from h)
   cases h2
   obtain ⟨c1,c2,rfl,k1,k2⟩:=hr
   obtain ⟨y,d1,d2,d3,e1,e2,e3,e4,e5⟩:=ayv b f u' q' x.2 c2 h1 k2
   subst e2
   refine ⟨y,c1++d1,d2,d3,e1,by simp,by rw [List.length_append,aat a c1 _ k1,e3],e4,fun v z hz=>?_⟩
   obtain ⟨z',g1,g2⟩:=Option.map_eq_some_iff.1 (show (aCP b f v x.2).map (fun y=>(x.1,y))=some z from hz)
   subst g2
   obtain ⟨y',m1,m2⟩:=e5 v z' g1
   exact ⟨y',m1,fun n2 hn=>⟨c1,d1++n2++d3,by simp,k1,m2 n2 hn⟩⟩
 | .bool,_,_,_,_,_,h,_=>by simp [fldT] at h
 | .int _,_,_,_,_,_,h,_=>by simp [fldT] at h
 | .str,_,_,_,_,_,h,_=>by simp [fldT] at h
 | .sl _,_,_,_,_,_,h,_=>by simp [fldT] at h
 | .unit,_,_,_,_,_,h,_=>by simp [fldT] at h
 | .st _,_,_,_,_,_,h,_=>by simp [fldT] at h
 | .ex,_,_,_,_,_,h,_=>by simp [fldT] at h
 | .op _,_,_,_,_,_,h,_=>by simp [fldT] at h
theorem aCV (hΓ:EnvOk P Γ) (I:Inv w0 M0 X s w M ι θ) (T:TInv s w M ι θ a) (G:Goes w0 M0 X r K N) {n:TypeId} {x:Operand} (ho:o.op=.load n x) {b:Ty} {i j f:Nat} {l:List (Ty.st b).D} {y:(Ty.st b).D} {z:TV}
 (hx:s.ev none x=.ref (.pel (.st b) j (some f)) i) (hr:s.S[i]?=some [.blk (.row (.st b) l)]) (hn:Γ.ty n=(fldT b f).map Prod.fst) (hy:l[j]?=some y) (hz:abS b f y=some z) (hk:K (s.put o.dst z)=some r):o.wp P a w N Q:=by
 obtain ⟨h1,_,h3⟩:=abH T none x
 rw [hx] at h1
 have h1:a.eval x=.pointer (some ⟨ι i,j * (Ty.st b).size+offF (.st b) (some f),none⟩):=h1
 cases hf:fldT b f with
 | none =>
   exfalso
   obtain ⟨vs,e,us,rest,k1,k2,k3,_,_⟩:=atI I hr (by rintro rfl; simp at hy)
   have:∀ (b:Ty) (f:Nat) (y:b.D),fldT b f=none→abS b f y=none:=by
    intro b
    induction b with
    | pair a b _ ih =>
      intro f y h
      cases f with
      | zero=>cases h
      | succ f=>exact ih f y.2 (Option.map_eq_none_iff.1 (show (fldT b f).map (fun p=>(p.1,a.size+p.2))=none from h))
    | _=>intro f y _; cases f <;> rfl
   rw [this b f y hf] at hz
   cases hz
 | some p =>
 obtain ⟨u,q⟩:=p
 rw [hf] at hn
 have ht:=hΓ.ty _ _ (show Γ.ty n=some u from hn)
 rw [aEp hf] at h1
 have hne:l≠[]:=by rintro rfl; simp at hy
 obtain ⟨vs,e,us,rest,k1,k2,k3,_,_⟩:=atI I hr hne
 obtain ⟨cs,c1,c2,c3⟩:=ayd (t:=.st b) l us j y k3 hy
 obtain ⟨y',d1,d2,d3,e1,e2,e3,e4,_⟩:=ayv b f u q y cs hf c2
 rw [e1] at hz
 cases hz
 obtain ⟨np1,np2⟩:=auR ht
 refine aaP I T G (v:=adq u d2) ?_ hk (ap4 e4 np1 np2) (anj _ _)
 have hcell:∀ (z:Nat) v,d2[z]?=some v→allM w (ι i) (j * (Ty.st b).size+q+z)=some v:=fun z v hz=>by
  show w.cell? _=_
  have:=c3 (q+z) v (by
   rw [e2,List.append_assoc,List.getElem?_append_right (by omega),List.getElem?_append_left (by have:=(List.getElem?_eq_some_iff.1 hz).1; omega)]
   rw [← hz]; congr 1; omega)
  rw [ai7 k1,← Array.getElem?_toList,k2,Nat.add_assoc,List.getElem?_append_left (List.getElem?_eq_some_iff.1 this).1]
  exact this
 simp only [execOp,ho,h1,Instr.loadAt,Instr.sureAddr,Sem.run_bind,Sem.run_pure,Result.andThen_ok,auP (M:=allM w) ht (ai6 (ayC I) u d2 y' e4) (fun b i v h=>h) hcell]
theorem aBF (hΓ:EnvOk P Γ) (I:Inv w0 M0 X s w M ι θ) (T:TInv s w M ι θ a) (G:Goes w0 M0 X r K N) {n:TypeId} {x y:Operand} (ho:o.op=.store n x y) {b:Ty} {i j f:Nat} {l:List (Ty.st b).D} {e z:(Ty.st b).D} {ty:Option Ty}
 (hx:s.ev none x=.ref (.pel (.st b) j (some f)) i) (hr:s.S[i]?=some [.blk (.row (.st b) l)]) (hn:Γ.ty n=(fldT b f).map Prod.fst) (hy:l[j]?=some e) (hz:aCP b f (s.ev ty y) e=some z)
 (hk:K ({ s with S:=s.S.set i [.blk (.row (.st b) (l.set j z))] }.put o.dst .skip)=some r):o.wp P a w N Q:=by
 obtain ⟨h1,_,h3⟩:=abH T none x
 obtain ⟨h2,_,_⟩:=abH T ty y
 rw [hx] at h1
 have h1:a.eval x=.pointer (some ⟨ι i,j * (Ty.st b).size+offF (.st b) (some f),none⟩):=h1
 have hj:j < l.length:=(List.getElem?_eq_some_iff.1 hy).1
 have hne:l≠[]:=by rintro rfl; simp at hy
 obtain ⟨cur,en,us,rest,k1,k2,k3,_,_⟩:=atI I hr hne
 obtain ⟨A,B,C,rfl,g1,g2,g3,g4⟩:=ash k3 (a:=j) (n:=1) (by omega)
 have hone:(l.drop j).take 1=[e]:=by
  rw [List.drop_eq_getElem_cons hj]
  have:l[j]=e:=by rw [List.getElem?_eq_getElem hj] at hy; exact Option.some.inj hy
  simp [this]
 rw [hone] at g2
 obtain ⟨B1,B2,rfl,m1,m2⟩:=g2
 have m2:B2=[]:=m2
 subst m2
 cases hf:fldT b f with
 | none =>
   exfalso
   have:∀ (b:Ty) (f:Nat) (v:TV) (y:b.D),fldT b f=none→aCP b f v y=none:=by
    intro b
    induction b with
    | pair a b _ ih =>
      intro f v y h
      cases f with
      | zero=>cases h
      | succ f =>
        show (aCP b f v y.2).map _=none
        rw [ih f v y.2 (Option.map_eq_none_iff.1 (show (fldT b f).map (fun p=>(p.1,a.size+p.2))=none from h))]; rfl
    | _=>intro f v y _; cases f <;> rfl
   rw [this b f _ e hf] at hz
   cases hz
 | some p =>
 obtain ⟨u,q⟩:=p
 rw [hf] at hn
 have ht:=hΓ.ty _ _ (show Γ.ty n=some u from hn)
 rw [aEp hf] at h1
 obtain ⟨y0,d1,d2,d3,_,e2,e3,e4,e5⟩:=ayv b f u q e B1 hf m1
 subst e2
 obtain ⟨y',m2,m3⟩:=e5 _ z hz
 obtain ⟨cs,_,c2,c3⟩:=aiW m2 h2
 have l2:=aat u d2 _ e4
 have lc:=aat u cs _ c2
 have hcur:cur.toList=(A++d1)++d2++(d3++C++rest):=by rw [k2]; simp
 have hsz:cur.size=(A++d1).length+d2.length+(d3++C++rest).length:=by rw [← Array.length_toList,hcur,List.length_append,List.length_append]
 have hpos:j * (Ty.st b).size+q=(A++d1).length:=by rw [List.length_append,g1,e3]
 have hrun:=run_storeCells_at (P:=P) (ι i) (j * (Ty.st b).size+q) en cs 0 cur w k1 (by rw [hpos]; omega) (an9 u cs y' c2)
 simp only [Nat.add_zero] at hrun
 have hcells:cur.toList.take (j * (Ty.st b).size+q)++cs++cur.toList.drop (j * (Ty.st b).size+q+cs.length)=(A++(d1++cs++d3)++C)++rest:=by
  rw [hpos,hcur,show (A++d1).length+cs.length=((A++d1)++d2).length by rw [List.length_append,List.length_append]; omega]
  rw [List.drop_left,List.append_assoc (A++d1) d2,List.take_left]
  simp
 have hex:(execOp a.eval o).run P w=.ok .skip (w.setRow (ι i) ((A++(d1++cs++d3)++C)++rest).toArray):=by
  have hsz:¬ ((a.eval y).cells.size≠u.size):=by rw [c3]; simp [lc]
  simp only [execOp,ho,h1,Instr.storeAt,Instr.sureAddr,Sem.run_bind,Sem.run_pure,Result.andThen_ok,storeVar,aet ht,if_neg hsz]
  rw [c3]
  simp only at hrun ⊢
  rw [hrun,hcells]
  rfl
 unfold Oper.wp
 rw [hex]
 have hrep:repL M (.st b) (A++(d1++cs++d3)++C) (l.set j z):=by
  rw [aGS hj]
  exact ahX _ _ _ _ (ahX _ _ _ _ g3 ⟨d1++cs++d3,[],by simp,m3 cs c2,rfl⟩) g4
 obtain ⟨I1,T1⟩:=aBA I T hr hne (l':=l.set j z) (cs:=(A++(d1++cs++d3)++C)++rest) (by simp) k1 rfl hrep (by
  rw [hsz]; simp only [List.length_append]; omega)
 exact G _ _ _ _ _ _ hk (I1.put _ _) (T1.put _ rfl trivial trivial)
theorem aCU (hΓ:EnvOk P Γ) (I:Inv w0 M0 X s w M ι θ) (T:TInv s w M ι θ a) (G:Goes w0 M0 X r K N) {n:TypeId} {x y:Operand} (ho:o.op=.indexAddr n x y) {t:Ty} {i:Nat} {k:IntKind}
 (hx:s.ev none x=.ref (.one t) i) (hy:s.ev none y=.int k 0) (hn:Γ.ty n=some (.sl t)) (hk:K (s.put o.dst (.ptr i 0))=some r):o.wp P a w N Q:=by
 obtain ⟨h1,_,h3⟩:=abH T none x
 obtain ⟨h2,_,_⟩:=abH T none y
 rw [hx] at h1 h3
 rw [hy] at h2
 obtain ⟨c,e1,_,_⟩:=h1
 obtain ⟨e,hu,hte⟩:=agb (hΓ.ty _ _ hn)
 refine ahY I T G (v:=.pointer (some ⟨ι i,0,none⟩)) ?_ hk rfl trivial h3.1
 have hel:P.elem n=e:=by unfold Program.elem; rw [hu]
 simp only [execOp,ho,e1,h2.1,Sem.run_bind]
 rw [run_indexAt_slice w n _ _ _ _ _ (by rw [hel]; exact hu),hel,if_pos ⟨Int.le_refl _,by decide⟩,aet hte]
 simp only [Result.andThen_ok,Sem.run_pure,agp,Int.toNat_zero,Nat.zero_mul]
theorem aFn (hΓ:EnvOk P Γ) (I:Inv w0 M0 X s w M ι θ) (T:TInv s w M ι θ a) (G:Goes w0 M0 X r K N) {x:Operand} {n:TypeId} (ho:o.op=.call { callee:=.builtin .len,args:=#[x],argTypes:=#[n] }) {t:Ty} {i:Nat}
 (hx:s.ev none x=.ref (.one t) i) (hn:Γ.ty n=some (.sl t)) (hk:K (s.put o.dst (.int .i64 1))=some r):o.wp P a w N Q:=by
 obtain ⟨h1,_,_⟩:=abH T none x
 rw [hx] at h1
 obtain ⟨c,e1,_,_⟩:=h1
 exact aBC hΓ I T G ho (t:=t) (m:=1) hx ⟨_,c,e1,by decide⟩ hn hk
theorem aGV (hΓ:EnvOk P Γ) (I:Inv w0 M0 X s w M ι θ) (T:TInv s w M ι θ a) (G:Goes w0 M0 X r K N) {X' Y':Operand} {n:TypeId}
 (ho:o.op=.call { callee:=.builtin .append,args:=#[X',Y'],argTypes:=#[n,n] }) {t:Ty} {nl:Option Bool} {z:t.D} {tx ty:Option Ty}
 (hx:s.ev tx X'=.sl t .full nl []) (hy:srcV s.S t (s.ev ty Y')=some [z]) (hn:Γ.ty n=some (.sl t)) (hst:t.isSt=true)
 (hk:K ({ s with S:=s.S++[cells t z] }.put o.dst (.ref (.one t) s.S.length))=some r):o.wp P a w N Q:=by
 obtain ⟨h1,_,_⟩:=abH T tx X'
 rw [hx] at h1
 obtain ⟨A,c,e1,_,_,_,_,_,e6⟩:=h1
 have hc0:c=0:=e6 rfl
 subst hc0
 have e1:a.eval X'=.slice A 0 0:=e1
 obtain ⟨q,c2,news,f1,f2,f3,kn1,kn2⟩:=aAO I T hy
 obtain ⟨e,hu,hte⟩:=agb (hΓ.ty _ _ hn)
 obtain ⟨inf,zz,hi,hsz,hby,hpos,hz,hzs⟩:=awv hte
 have hnl:=acP [z] news kn1
 have hexec:∀ {v:Value} {w1:World},(Builtin.append_ #[n,n] o.type #[a.eval X',a.eval Y']).run P w=.ok v w1→(execOp a.eval o).run P w=.ok (.value v) w1:=by
  intro v w1 h
  simp [execOp,ho,resolve,invoke,builtin,h]
 have f1:a.eval Y'=.slice q 1 c2:=f1
 have hnl:news.length=1 * t.size:=hnl
 obtain ⟨cs,B2,rfl,m1,m2⟩:=kn1
 have m2:B2=[]:=m2
 subst m2
 rw [List.append_nil] at *
 obtain ⟨qb,qo,rfl,hnewsw⟩:=kn2 (List.cons_ne_nil _ _)
 have hnewsw':∀ (j:Nat) u,cs[j]?=some u→w.cell? ((⟨qb,qo,none⟩:Addr).add j)=some u:=fun j u hj=>by rw [agp]; exact hnewsw j u hj
 have hge:=grownCap_ge w 1 0 e
 have hle:=grownCap_le_maxLen w 1 0 e (by decide)
 obtain ⟨hcel,hfl⟩:=aiZ (ι:=upd ι s.S.length w.heap.size) t z cs m1
 have hblk:ahG (cells t z)=none:=aAV hfl
 have fresh:(Builtin.append_ #[n,n] o.type #[a.eval X',a.eval Y']).run P w=.ok (.slice (some ⟨w.heap.size,0,none⟩) 1 (grownCap w 1 0 e)) (w.drew.alloc (.cells (cs.toArray++Builtin.zeroCells zz.cells (grownCap w 1 0 e - 1)) e))→o.wp P a w N Q:=by
  intro hrun
  have hold:∀ b,b < w.heap.size→(w.drew.alloc (.cells (cs.toArray++Builtin.zeroCells zz.cells (grownCap w 1 0 e - 1)) e)).heap[b]?=w.heap[b]?:=fun b hb=>heap_alloc_old w.drew _ hb
  have hnew:(w.drew.alloc (.cells (cs.toArray++Builtin.zeroCells zz.cells (grownCap w 1 0 e - 1)) e)).heap[w.heap.size]?=some (.cells (cs.toArray++Builtin.zeroCells zz.cells (grownCap w 1 0 e - 1)) e (0,0)):=heap_alloc_new w.drew _
  have hsh:=Shp.old hold
  unfold Oper.wp
  rw [hexec hrun]
  have I1:=I.newObj (cs:=cells t z) (g:=w.heap.size) (w1:=w.drew.alloc (.cells (cs.toArray++Builtin.zeroCells zz.cells (grownCap w 1 0 e - 1)) e)) rfl rfl rfl (by rw [afu]; exact Nat.le_succ _) hsh (fun b hb _=>hold b hb) (fun _=>ahn I) (fun _=>⟨ah5 I,by
   rw [hblk]
   refine ⟨_,e,hnew,?_,fun j x hx=>?_⟩
   · rw [Array.size_append,List.size_toArray,hcel.1]; omega
   · obtain ⟨v,k1,k2⟩:=hcel.2 j x hx
     have hf:=hfl x (List.mem_of_getElem? hx)
     have hlt:j < cs.length:=(List.getElem?_eq_some_iff.1 k1).1
     have fo:=awB (s:=s) (w:=w.drew.alloc (.cells (cs.toArray++Builtin.zeroCells zz.cells (grownCap w 1 0 e - 1)) e)) (M:=M) (θ:=θ) hf v (s.S++[cells t z])
     refine ⟨v,?_,an9 t cs z m1 v (List.mem_of_getElem? k1),k2,fo.1,fo.2⟩
     rw [Array.getElem?_append_left (by simpa using hlt)]
     simpa using k1⟩)
  have T1:=T.newObj I (cs:=cells t z) (g:=w.heap.size) hsh (fun b hb _=>hold b hb) (fun _=>ahn I)
  refine G _ _ _ _ _ _ hk (I1.put _ _) (T1.put _ ?_ trivial ?_)
  · exact ⟨grownCap w 1 0 e,by rw [aiL],hge,hle⟩
  · exact ⟨by simp,trivial⟩
 have hb1:1 * inf.bytes≤281474976710656:=by omega
 cases A with
 | none =>
   refine fresh ?_
   rw [e1,f1]
   exact run_append_nil (P:=P) w n o.type e inf zz hu hi hz ⟨qb,qo,none⟩ 1 c2 cs (by rw [hnl,hsz]) hnewsw' (by omega) (by decide) hb1
 | some ad =>
   refine fresh ?_
   rw [e1,f1]
   have hr:=run_append_grow (P:=P) w n o.type e inf zz hu hi hz ad 0 0 [] (by simp) (fun j v hj=>by simp at hj) ⟨qb,qo,none⟩ 1 c2 cs (by rw [hnl,hsz]) hnewsw' (by omega)
    (by decide) (growslice_fits (by omega) (by omega))
   simpa using hr
end
end Go.Proofs.Ytgmeimbamfggkaa.Den
