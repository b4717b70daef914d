import Derived.Test.YtgmeimbamfggkaaDen13
import Derived.Laws.MakeOwn
namespace Go.Proofs.Ytgmeimbamfggkaa.Den
open Go
set_option linter.unusedVariables false
set_option linter.unusedSimpArgs false
section
variable {w0 : World} {M0:Mem} {X:Fr} {s:St} {w:World} {M:Mem} {ι:Nat→Nat} {θ:Nat→Option Nat} {a:Act}
variable {P : Program} {ρ:Type} {r:ρ} {K:St→Option ρ} {N:Act→World→Prop} {Q:Exit→Act→World→Prop} {o:Oper} {Γ:Env}
def isV (r:Rf) (t:Ty) (l:List t.D) (p n:Nat):Prop:=(r=.asl t∧p=0∧n=l.length)∨r=.asv t p n
theorem apl (I:Inv w0 M0 X s w M ι θ) {rf:Rf} {i:Nat} {v:Value} (h1:rv M ι (.ref rf i) v) (h3:aaI w s.S (.ref rf i) v) {t:Ty} {l:List t.D} {p n:Nat} (hr:s.S[i]?=some [.blk (.row t l)]) (hv:isV rf t l p n) :
 ∃ A c,v=.slice A n c∧n≤c∧p+n≤l.length∧c≤maxLen∧(A=none→c=0)∧(c≠0→l≠[]∧A=some ⟨ι i,p * t.size,none⟩ ∧
   ∃ (cur:Array Value) (e:TypeId) (us rest:List Value),w.heap[ι i]?=some (.cells cur e (0,0))∧cur.size=(p+c) * t.size∧cur.toList=us++rest∧repL M t us l∧(∀ k,M (ι i) k=none)∧(X (ι i)∨w0.heap.size≤ι i)):=by
 have hl:lnkS w l t.size p n v:=by
  rcases hv with ⟨rfl,rfl,rfl⟩ | rfl
  · exact h3.2 l hr
  · exact h3.2 l hr
 have hf:∃ A n c,v=.slice A n c∧(c≠0→∃ o,A=some ⟨ι i,o,none⟩):=by
  rcases hv with ⟨rfl,_,_⟩ | rfl
  · exact h1
  · exact h1
 obtain ⟨A,c,e1,e2,e3,e4,e5,e6⟩:=hl
 refine ⟨A,c,e1,e2,e3,e4,e5,fun hc=>?_⟩
 obtain ⟨hne,b,cur,e,fr,q1,q2,q3⟩:=e6 hc
 obtain ⟨A',n',c',g1,g2⟩:=hf
 rw [e1] at g1
 injection g1 with g1 g3 g4
 obtain ⟨o,g5⟩:=g2 (by omega)
 rw [← g1,q1] at g5
 injection g5 with g5
 injection g5 with g5
 subst g5
 obtain ⟨vs,e',us,rest,k1,k2,k3,k4,k5⟩:=atI I hr hne
 rw [q2] at k1
 cases k1
 exact ⟨hne,q1,cur,_,us,rest,q2,q3,k2,k3,k4,k5⟩
theorem azd (t:Ty):offF t none=0:=by cases t <;> rfl
theorem atJ (hΓ:EnvOk P Γ) (I:Inv w0 M0 X s w M ι θ) (T:TInv s w M ι θ a) (G:Goes w0 M0 X r K N) {n:TypeId} {x y:Operand} (ho:o.op=.indexAddr n x y) {t:Ty} {rf:Rf} {i:Nat} {l:List t.D} {p m:Nat} {k:IntKind} {j:Int}
 (hx:s.ev none x=.ref rf i) (hr:s.S[i]?=some [.blk (.row t l)]) (hv:isV rf t l p m) (hy:s.ev none y=.int k j) (hn:Γ.ty n=some (.sl t)) (hj:inI j m=true) (hk:K (s.put o.dst (.ref (.pel t (p+j.toNat) none) i))=some r):o.wp P a w N Q:=by
 obtain ⟨h1,_,h3⟩:=abH T none x
 obtain ⟨h2,_,_⟩:=abH T none y
 rw [hx] at h1 h3
 rw [hy] at h2
 obtain ⟨A,c,e1,e2,e3,e4,e5,e6⟩:=apl I h1 h3 hr hv
 unfold inI at hj
 rw [Bool.and_eq_true,decide_eq_true_eq,decide_eq_true_eq] at hj
 obtain ⟨hne,hA,_⟩:=e6 (by omega)
 subst hA
 obtain ⟨e,hu,hte⟩:=agb (hΓ.ty _ _ hn)
 refine ahY I T G (v:=.pointer (some ⟨ι i,p * t.size+j.toNat * t.size,none⟩)) ?_ hk ?_ trivial ⟨h3.1,trivial⟩
 · have hel:P.elem n=e:=by unfold Program.elem; rw [hu]
   simp only [execOp,ho,e1,h2.1,Sem.run_bind]
   rw [run_indexAt_slice w n _ _ _ _ _ (by rw [hel]; exact hu),hel,if_pos ⟨hj.1,hj.2⟩,aet hte]
   simp only [Result.andThen_ok,Sem.run_pure,agp]
 · show _=Value.pointer (some ⟨ι i,(p+j.toNat) * t.size+offF t none,none⟩)
   rw [azd,Nat.add_zero,Nat.add_mul]
theorem aBC (hΓ:EnvOk P Γ) (I:Inv w0 M0 X s w M ι θ) (T:TInv s w M ι θ a) (G:Goes w0 M0 X r K N) {x:Operand} {n:TypeId} (ho:o.op=.call { callee:=.builtin .len,args:=#[x],argTypes:=#[n] }) {t:Ty} {rf:Rf} {i:Nat} {m:Nat}
 (hx:s.ev none x=.ref rf i) (hv:∃ A c,a.eval x=.slice A m c∧m≤maxLen) (hn:Γ.ty n=some (.sl t)) (hk:K (s.put o.dst (.int .i64 (m:Int)))=some r):o.wp P a w N Q:=by
 obtain ⟨A,c,e1,e2⟩:=hv
 obtain ⟨e,hu,hte⟩:=agb (hΓ.ty _ _ hn)
 refine aaP I T G (v:=.int .i64 (m:Int)) ?_ hk ⟨rfl,?_⟩ rfl
 · simp [execOp,ho,e1,resolve,invoke,builtin,Builtin.len_,run_underlying hu,goInt]
 · rw [al0]; unfold maxLen at e2
   have e1:IntKind.i64.min = -9223372036854775808:=by decide
   have e2:IntKind.i64.max=9223372036854775807:=by decide
   omega
theorem aFq (hΓ:EnvOk P Γ) (I:Inv w0 M0 X s w M ι θ) (T:TInv s w M ι θ a) (G:Goes w0 M0 X r K N) {src dst:TypeId} {x:Operand} (ho:o.op=.convert src dst x) {l:List Int}
 (hx:srcV s.S (.int .u8) (s.ev none x)=some l) (hs:Γ.ty src=some (.sl (.int .u8))) (hd:Γ.ty dst=some .str) (hk:K (s.put o.dst (.str l))=some r):o.wp P a w N Q:=by
 obtain ⟨p,c,cs,h1,h3,h4,k1,k2⟩:=aAO I T hx
 obtain ⟨e,hu,he⟩:=aBP (hΓ.ty _ _ hs)
 have hud:=ag4 (hΓ.ty _ _ hd)
 obtain ⟨rfl,k3⟩:=aDx l cs k1
 have hlen:(l.foldl (fun r n=>r.push (UInt8.ofNat n.toNat)) ByteArray.empty).size=l.length:=by
  have:=congrArg List.length (asy l ByteArray.empty k3)
  rw [acj] at this
  simpa [aaz] using this
 refine aaP I T G (v:=.string (l.foldl (fun r n=>r.push (UInt8.ofNat n.toNat)) ByteArray.empty)) ?_ hk ⟨_,rfl,?_,?_⟩ rfl
 · have hrun:(Conv.bytesToString (.slice p (List.length l) c)).run P w=.ok (.string (l.foldl (fun r n=>r.push (UInt8.ofNat n.toNat)) ByteArray.empty)) w:=by
    cases p with
    | none =>
      have:l=[]:=by
       cases l with
       | nil=>rfl
       | cons n l=>obtain ⟨b,q,hp,_⟩:=k2 (List.cons_ne_nil _ _); cases hp
      subst this
      rfl
    | some ad =>
      have hload:(loadCells ad (List.length l)).run P w=.ok (l.map (Value.int .u8)).toArray w:=by
       cases l with
       | nil=>rfl
       | cons n l =>
         obtain ⟨b,q,hp,hc⟩:=k2 (List.cons_ne_nil _ _)
         cases hp
         have:=run_loadCells_list (P:=P) w ⟨b,q,none⟩ ((n :: l).map (Value.int .u8)) (fun j v hj=>by rw [agp]; exact hc j v hj)
         rwa [List.length_map] at this
      exact run_bytesToString w ad (List.length l) c l hload
   simp only [execOp,ho,h1,convert,Sem.run_bind,run_underlying hu,run_underlying hud,Result.andThen_ok,run_underlying he,Sem.run_pure]
   exact congrArg (fun z=>Result.andThen z fun a w'=>Result.ok (Next.value a) w') hrun
 · rw [asy l _ k3]; rfl
 · have h3':l.length≤c:=h3
   rw [hlen]; omega
def allM (w:World):Mem:=fun b i=>w.cell? ⟨b,i,none⟩
theorem ayC (I:Inv w0 M0 X s w M ι θ):M.le (allM w):=fun b i v h=>I.mem b i v h
theorem aDG (hΓ:EnvOk P Γ) (I:Inv w0 M0 X s w M ι θ) (T:TInv s w M ι θ a) (G:Goes w0 M0 X r K N) {n:TypeId} {x:Operand} (ho:o.op=.load n x) {t:Ty} {i j:Nat} {l:List t.D} {y:t.D}
 (hx:s.ev none x=.ref (.pel t j none) i) (hr:s.S[i]?=some [.blk (.row t l)]) (hn:Γ.ty n=some t) (hy:l[j]?=some y) (hk:K (s.put o.dst (toTV t y))=some r):o.wp P a w N Q:=by
 obtain ⟨h1,_,h3⟩:=abH T none x
 rw [hx] at h1
 have h1:a.eval x=.pointer (some ⟨ι i,j * t.size+offF t none,none⟩):=h1
 rw [azd,Nat.add_zero] at h1
 have hne:l≠[]:=by rintro rfl; simp at hy
 obtain ⟨vs,e,us,rest,k1,k2,k3,_,_⟩:=atI I hr hne
 obtain ⟨cs,c1,c2,c3⟩:=ayd l us j y k3 hy
 have ht:=hΓ.ty _ _ hn
 obtain ⟨np1,np2⟩:=auR ht
 refine aaP I T G (v:=adq t cs) ?_ hk (ap4 c2 np1 np2) (anj _ _)
 have hcell:∀ (z:Nat) u,cs[z]?=some u→allM w (ι i) (j * t.size+z)=some u:=fun z u hz=>by
  show w.cell? _=_
  have:=c3 z u hz
  rw [ai7 k1,← Array.getElem?_toList,k2,List.getElem?_append_left (List.getElem?_eq_some_iff.1 this).1]
  exact this
 simp only [execOp,ho,h1,Instr.loadAt,Instr.sureAddr,Sem.run_bind,Sem.run_pure,Result.andThen_ok,auP (M:=allM w) ht (ai6 (ayC I) t cs y c2) (fun b i v h=>h) hcell]
theorem aGS {α:Type} {l:List α} {j:Nat} {y:α} (h:j < l.length):l.set j y=l.take j++[y]++l.drop (j+1):=by
 rw [List.set_eq_take_append_cons_drop,if_pos h]
 simp
theorem azA {t:Ty} {l ls:List t.D} {cur:Array Value} {us rest ns:List Value} {p:Nat} (h1:cur.toList=us++rest) (h2:repL M t us l) (h3:repL M t ns ls) (hp:p+ls.length≤l.length) :
 p * t.size+ns.length≤cur.size∧∃ us',(cur.toList.take (p * t.size)++ns++cur.toList.drop (p * t.size+ns.length))=us'++rest∧repL M t us' (lay l p ls):=by
 obtain ⟨c1,c2,c3,rfl,k1,k2,k3,k4⟩:=ash h2 hp
 have hns:=acP _ _ h3
 have hc2:=acP _ _ k2
 have hl2:((l.drop p).take ls.length).length=ls.length:=by rw [List.length_take,List.length_drop]; omega
 rw [hl2] at hc2
 refine ⟨?_,c1++ns++c3,?_,?_⟩
 · rw [← Array.length_toList,h1]
   simp only [List.length_append]
   omega
 · rw [h1,← k1,List.append_assoc c1 c2 c3,List.append_assoc c1,List.take_append_of_le_length (Nat.le_refl _),List.take_of_length_le (Nat.le_refl _)]
   rw [List.drop_append,List.drop_eq_nil_of_le (by omega),List.nil_append,List.append_assoc c2,show c1.length+ns.length - c1.length=c2.length by omega,List.drop_append,List.drop_eq_nil_of_le (Nat.le_refl _)]
   simp
 · unfold lay
   exact ahX _ _ _ _ (ahX _ _ _ _ k3 h3) k4
theorem aAt {α:Type} {l:List α} {p:Nat} {us:List α} (h:p+us.length≤l.length):(lay l p us).length=l.length:=by
 unfold lay
 simp only [List.length_append,List.length_take,List.length_drop]
 omega
theorem aBA (I:Inv w0 M0 X s w M ι θ) (T:TInv s w M ι θ a) {t:Ty} {i:Nat} {l l':List t.D} (hr:s.S[i]?=some [.blk (.row t l)]) (hne:l≠[]) (hl:l'.length=l.length) {cur:Array Value} {e:TypeId} {us rest cs:List Value}
 (hg:w.heap[ι i]?=some (.cells cur e (0,0))) (hcs:cs=us++rest) (hrep:repL M t us l') (hsz:cs.length=cur.size) :
 Inv w0 M0 X { s with S:=s.S.set i [.blk (.row t l')] } (w.setRow (ι i) cs.toArray) M ι θ∧TInv { s with S:=s.S.set i [.blk (.row t l')] } (w.setRow (ι i) cs.toArray) M ι θ a:=by
 have hold:∀ b,b≠ι i→(w.setRow (ι i) cs.toArray).heap[b]?=w.heap[b]?:=fun b hb=>setRow_other w _ b _ hb
 have hnew:=setRow_heap w (ι i) cur cs.toArray e (0,0) hg
 have hshp:Shp w (w.setRow (ι i) cs.toArray):=by
  intro b c e' f hb
  by_cases hbi:b=ι i
  · subst hbi
    rw [hg] at hb
    cases hb
    exact ⟨_,_,_,hnew,by simpa using hsz⟩
  · exact ⟨c,e',f,(hold b hbi).trans hb,rfl⟩
 have hne':l'≠[]:=by
  rintro rfl
  apply hne
  exact List.eq_nil_of_length_eq_zero hl.symm
 have he:evo [.blk (.row t l)] [.blk (.row t l')]:=⟨fun t1 l1 e1=>by
  injection e1 with e1
  injection e1 with e1
  injection e1 with e1 e2
  subst e1
  cases e2
  exact ⟨l,rfl,hl.symm⟩,fun h=>absurd h (by rw [ap8 hne]; simp)⟩
 refine ⟨I.setObj hr (ap8 hne) rfl rfl rfl (by rw [setRow_size]) hold hshp he fun _=>⟨(I.obj i _ hr (ap8 hne)).1.none,?_⟩,T.setObj I hr (ap8 hne) hold hshp he⟩
 exact ⟨_,e,us,rest,hnew,by simpa using hcs,hrep⟩
theorem aCX (hΓ:EnvOk P Γ) (I:Inv w0 M0 X s w M ι θ) (T:TInv s w M ι θ a) (G:Goes w0 M0 X r K N) {n:TypeId} {x y:Operand} (ho:o.op=.store n x y) {t:Ty} {i j:Nat} {l:List t.D} {z:t.D} {ty:Option Ty}
 (hx:s.ev none x=.ref (.pel t j none) i) (hr:s.S[i]?=some [.blk (.row t l)]) (hn:Γ.ty n=some t) (hz:ofTV t (s.ev ty y)=some z) (hj:j < l.length)
 (hk:K ({ s with S:=s.S.set i [.blk (.row t (l.set j z))] }.put o.dst .skip)=some r):o.wp P a w N Q:=by
 obtain ⟨h1,_,h3⟩:=abH T none x
 obtain ⟨h2,_,_⟩:=abH T ty y
 rw [hx] at h1
 have h1:a.eval x=.pointer (some ⟨ι i,j * t.size+offF t none,none⟩):=h1
 rw [azd,Nat.add_zero] at h1
 have hne:l≠[]:=by rintro rfl; simp at hj
 obtain ⟨cur,e,us,rest,k1,k2,k3,_,_⟩:=atI I hr hne
 obtain ⟨cs,_,c2,c3⟩:=aiW hz h2
 have hns:repL M t cs [z]:=⟨cs,[],by simp,c2,rfl⟩
 obtain ⟨w1,us',w2,w3⟩:=azA k2 k3 hns (p:=j) (by simp; omega)
 have hset:lay l j [z]=l.set j z:=by
  rw [aGS hj]; rfl
 rw [hset] at w3
 have hrun:=run_storeCells_at (P:=P) (ι i) (j * t.size) e cs 0 cur w k1 (by simpa using w1) (an9 t cs z c2)
 simp only [Nat.add_zero] at hrun
 have hex:(execOp a.eval o).run P w=.ok .skip (w.setRow (ι i) (cur.toList.take (j * t.size)++cs++cur.toList.drop (j * t.size+cs.length)).toArray):=by
  have hsz:¬ ((a.eval y).cells.size≠t.size):=by rw [c3]; simp [aat t cs z c2]
  simp only [execOp,ho,h1,Instr.storeAt,Instr.sureAddr,Sem.run_bind,Sem.run_pure,Result.andThen_ok,storeVar,aet (hΓ.ty _ _ hn),if_neg hsz]
  rw [c3]
  simp only at hrun ⊢
  rw [hrun]
  rfl
 unfold Oper.wp
 rw [hex]
 obtain ⟨I1,T1⟩:=aBA I T hr hne (l':=l.set j z) (by simp) k1 w2 w3 (by
  simp only [List.length_append,List.length_take,List.length_drop,Array.length_toList]
  omega)
 exact G _ _ _ _ _ _ hk (I1.put _ _) (T1.put _ rfl trivial trivial)
theorem aqp (I:Inv w0 M0 X s w M ι θ) (T:TInv s w M ι θ a) {t:Ty} {l:List t.D} {g:Nat} {w1:World} {cur:Array Value} {e:TypeId} {us rest:List Value}
 (hos:w1.os=w.os) (htape:w1.tape=w.tape) (hout:w1.output=w.output) (hsz:w.heap.size≤w1.heap.size) (hsh:Shp w w1)
 (hold:∀ b,b < w.heap.size→(l≠[]→b≠g)→w1.heap[b]?=w.heap[b]?)
 (hg:l≠[]→(∀ (i:Nat) c,s.S[i]?=some c→hol c=false→ι i≠g)∧(∀ q,s.O q=true→θ q≠some g)∧(X g∨w0.heap.size≤g))
 (hnew:l≠[]→w1.heap[g]?=some (.cells cur e (0,0))∧cur.toList=us++rest∧repL M t us l∧∀ k,M g k=none) :
 Inv w0 M0 X { s with S:=s.S++[[TV.blk (.row t l)]] } w1 M (upd ι s.S.length g) θ∧TInv { s with S:=s.S++[[TV.blk (.row t l)]] } w1 M (upd ι s.S.length g) θ a:=by
 have hne:hol [TV.blk (.row t l)]=false→l≠[]:=by
  intro h e
  subst e
  simp [hol] at h
 have hold':∀ b,b < w.heap.size→(hol [TV.blk (.row t l)]=false→b≠g)→w1.heap[b]?=w.heap[b]?:=fun b hb h=>hold b hb fun hl=>h (ap8 hl)
 refine ⟨I.newObj hos htape hout hsz hsh hold' (fun h=>hg (hne h)) fun h=>?_,T.newObj I hsh hold' fun h=>hg (hne h)⟩
 obtain ⟨k1,k2,k3,k4⟩:=hnew (hne h)
 exact ⟨k4,cur,e,us,rest,k1,k2,k3⟩
theorem aDP {z:List Value} (hz:0 < z.length) (n:Nat):madeCells z.toArray (n * z.length)=(List.replicate n z).flatten.toArray:=by
 unfold madeCells
 exact auk z hz n
theorem aBD (hΓ:EnvOk P Γ) (I:Inv w0 M0 X s w M ι θ) (T:TInv s w M ι θ a) (G:Goes w0 M0 X r K N) {n:TypeId} {x y:Operand} (ho:o.op=.makeSlice n x y) {t:Ty} {k k2:IntKind} {m:Int}
 (hn:Γ.ty n=some (.sl t)) (hx:s.ev none x=.int k m) (hy:s.ev none y=.int k2 m) (h0:0≤m) (hm:m.toNat≤LIM)
 (hk:K ({ s with S:=s.S++[[TV.blk (.row t (List.replicate m.toNat (zero t)))]] }.put o.dst (.ref (.asl t) s.S.length))=some r):o.wp P a w N Q:=by
 obtain ⟨h1,_,_⟩:=abH T none x
 obtain ⟨h2,_,_⟩:=abH T none y
 rw [hx] at h1
 rw [hy] at h2
 obtain ⟨e,hu,ht⟩:=agb (hΓ.ty _ _ hn)
 obtain ⟨inf,hi,hsz,hby,hpos,z,hz,hz2,_,_⟩:=abz (afa ht)
 obtain ⟨c,hc,hr⟩:=ag5 (M:=M) t _ _ hz2
 rw [List.append_nil] at hc
 have hz3:z.cells=c.toArray:=by rw [← hc]
 have lc:=aat t c _ hr
 have hmi:m=(m.toNat:Int):=by omega
 have hbytes:m.toNat * inf.bytes≤LIM * 2048:=Nat.mul_le_mul hm hby
 have hbi:(inf.bytes:Int) * m≤281474976710656:=by
  rw [hmi,← Int.natCast_mul,Nat.mul_comm]
  unfold LIM at hbytes; omega
 have hrun:=run_make (P:=P) w n e inf z hu hi hz k k2 m m h0 (Int.le_refl _) hbi (by unfold LIM at hm; omega)
 rw [hsz,hz3,← lc,aDP (by omega)] at hrun
 have hold:∀ b,b < w.heap.size→(w.alloc (.cells (List.replicate m.toNat c).flatten.toArray e)).heap[b]?=w.heap[b]?:=fun b hb=>heap_alloc_old w _ hb
 have hrep:=ald (M:=M) hr m.toNat
 obtain ⟨I1,T1⟩:=aqp I T (t:=t) (l:=List.replicate m.toNat (zero t)) (g:=w.heap.size) (w1:=w.alloc (.cells (List.replicate m.toNat c).flatten.toArray e)) (us:=(List.replicate m.toNat c).flatten) (rest:=[])
  rfl rfl rfl (by rw [afu]; omega) (Shp.old hold) (fun b hb _=>hold b hb) (fun _=>ahn I) fun _=>⟨heap_alloc_new w _,by simp,hrep,ah5 I⟩
 have hlen:=acP _ _ hrep
 rw [List.length_replicate] at hlen
 unfold Oper.wp
 simp only [execOp,ho,h1.1,h2.1,Sem.run_bind,hrun,Result.andThen_ok,Sem.run_pure]
 refine G _ _ _ _ _ _ hk (I1.put _ _) (T1.put _ ?_ trivial ⟨by simp,fun l hl=>?_⟩)
 · simp only [rv,aiL]
   exact ⟨_,_,_,rfl,fun _=>⟨0,rfl⟩⟩
 · have hl:(s.S++[[TV.blk (.row t (List.replicate m.toNat (zero t)))]])[s.S.length]?=some [.blk (.row t l)]:=hl
   simp at hl
   subst hl
   refine ⟨some ⟨w.heap.size,0,none⟩,m.toNat,by rw [List.length_replicate],by simp,by simp,by unfold LIM at hm; unfold maxLen; omega,nofun,fun hc0=>⟨?_,w.heap.size,_,e,(0,0),by simp,heap_alloc_new w _,?_⟩⟩
   · intro h
     have:=congrArg List.length h
     simp at this
     omega
   · simp only [List.size_toArray,Nat.zero_add]; exact hlen
end
end Go.Proofs.Ytgmeimbamfggkaa.Den
