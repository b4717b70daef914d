import Derived.Test.YtgmeimbamfggkaaDen20
namespace Go.Proofs.Ytgmeimbamfggkaa.Den
open Go
section
variable {w : World} {M M':Mem} {ι ι':Nat→Nat} {θ:Nat→Option Nat} {O:Nat→Bool} {c:Nat} {S S1:List Obj}
def aEW (w:World) (ι ι':Nat→Nat) (S S1:List Obj) (f:Nat→Option Nat):Prop:=∀ i k,f i=some k→ι' k=ι i∧k < S1.length∧∀ r v,lnk w S[i]? r v→lnk w S1[k]? r v
mutual
theorem aCH {f:Nat→Option Nat} (hf:aEW w ι ι' S S1 f):∀ (x y:TV) (v:Value),ren f x=some y→rv M ι x v→aaI w S x v →
 rv M ι' y v∧(tc w M θ O c x v→tc w M θ O c y v)∧aaI w S1 y v
 | .ptr i o,y,v,h,hv,_=>by
   have h:((f i).map fun j=>TV.ptr j o)=some y:=h
   obtain ⟨j,hj,rfl⟩:=Option.map_eq_some_iff.1 h
   obtain ⟨h1,h2,_⟩:=hf i j hj
   exact ⟨by rw [show v=_ from hv]; simp only [rv]; rw [h1],fun _=>trivial,h2⟩
 | .fn g l,y,v,h,hv,hw=>by
   have h:((ren.go f l).map fun l=>TV.fn g l)=some y:=h
   obtain ⟨l',hl,rfl⟩:=Option.map_eq_some_iff.1 h
   obtain ⟨vs,k1,k2⟩:=hv
   obtain ⟨q1,_,q3⟩:=azu hf l l' vs hl k2 (hw vs k1)
   refine ⟨⟨vs,k1,q1⟩,fun _=>trivial,fun us hu=>?_⟩
   have:us=vs:=by rw [k1] at hu; simpa using hu.symm
   subst this; exact q3
 | .tup l,y,v,h,hv,hw=>by
   have h:((ren.go f l).map fun l=>TV.tup l)=some y:=h
   obtain ⟨l',hl,rfl⟩:=Option.map_eq_some_iff.1 h
   obtain ⟨vs,k1,k2⟩:=hv
   obtain ⟨q1,q2,q3⟩:=azu hf l l' vs hl k2 (hw vs k1)
   have eq:∀ us:List Value,v=.tuple us.toArray→us=vs:=fun us hu=>by rw [k1] at hu; simpa using hu.symm
   exact ⟨⟨vs,k1,q1⟩,fun ht us hu=>by rw [eq us hu]; exact q2 (ht vs k1),fun us hu=>by rw [eq us hu]; exact q3⟩
 | .ag l,y,v,h,hv,hw=>by
   have h:((ren.go f l).map fun l=>TV.ag l)=some y:=h
   obtain ⟨l',hl,rfl⟩:=Option.map_eq_some_iff.1 h
   obtain ⟨vs,k1,k2⟩:=hv
   obtain ⟨q1,q2,q3⟩:=azu hf l l' vs hl k2 (hw vs k1)
   have eq:∀ us:List Value,v=.agg us.toArray→us=vs:=fun us hu=>by rw [k1] at hu; simpa using hu.symm
   exact ⟨⟨vs,k1,q1⟩,fun ht us hu=>by rw [eq us hu]; exact q2 (ht vs k1),fun us hu=>by rw [eq us hu]; exact q3⟩
 | .ref r i,y,v,h,hv,hw=>by
   have h:((f i).map fun j=>TV.ref r j)=some y:=h
   obtain ⟨j,hj,rfl⟩:=Option.map_eq_some_iff.1 h
   obtain ⟨h1,h2,h3⟩:=hf i j hj
   have hv:rfv (ι i) r v:=hv
   exact ⟨by simp only [rv]; rw [h1]; exact hv,fun _=>trivial,h2,h3 r v hw.2⟩
 | .blk _,_,_,_,hv,_=>absurd hv (fun h=>h)
 | .undef,y,v,h,hv,_=>by cases h; exact ⟨hv,id,trivial⟩
 | .skip,y,v,h,hv,_=>by cases h; exact ⟨hv,id,trivial⟩
 | .bool _,y,v,h,hv,_=>by cases h; exact ⟨hv,id,trivial⟩
 | .int _ _,y,v,h,hv,_=>by cases h; exact ⟨hv,id,trivial⟩
 | .str _,y,v,h,hv,_=>by cases h; exact ⟨hv,id,trivial⟩
 | .sl _ _ _ _,y,v,h,hv,_=>by cases h; exact ⟨hv,id,trivial⟩
 | .st _ _,y,v,h,hv,_=>by cases h; exact ⟨hv,id,trivial⟩
 | .ep _ _,y,v,h,hv,_=>by cases h; exact ⟨hv,id,trivial⟩
 | .nilp,y,v,h,hv,_=>by cases h; exact ⟨hv,id,trivial⟩
 | .nilfn,y,v,h,hv,_=>by cases h; exact ⟨hv,id,trivial⟩
theorem azu {f:Nat→Option Nat} (hf:aEW w ι ι' S S1 f):∀ (x y:List TV) (v:List Value),ren.go f x=some y→rvs M ι x v→abE w S x v →
 rvs M ι' y v∧(tcs w M θ O c x v→tcs w M θ O c y v)∧abE w S1 y v
 | [],y,v,h,hv,_=>by
   cases h
   exact ⟨hv,id,trivial⟩
 | x :: xs,y,v,h,hv,hw=>by
   have h:((ren f x).bind fun v=>(ren.go f xs).map fun r=>v :: r)=some y:=h
   obtain ⟨y1,h1,h2⟩:=Option.bind_eq_some_iff.1 h
   obtain ⟨ys,h3,rfl⟩:=Option.map_eq_some_iff.1 h2
   obtain ⟨v1,vs,rfl,k1,k2⟩:=hv
   obtain ⟨a1,a2,a3⟩:=aCH hf x y1 v1 h1 k1 hw.1
   obtain ⟨b1,b2,b3⟩:=azu hf xs ys vs h3 k2 hw.2
   exact ⟨⟨v1,vs,rfl,a1,b1⟩,fun ht=>⟨a2 ht.1,b2 ht.2⟩,a3,b3⟩
end
theorem aJm {f:Nat→Option Nat} {x y:TV} (h:ren f x=some y) (b:Blk):y=.blk b↔x=.blk b:=by
 cases x with
 | ptr i o=>obtain ⟨j,_,rfl⟩:=Option.map_eq_some_iff.1 (show (f i).map (fun j=>TV.ptr j o)=some y from h); exact ⟨nofun,nofun⟩
 | fn g l=>obtain ⟨j,_,rfl⟩:=Option.map_eq_some_iff.1 (show (ren.go f l).map (fun l=>TV.fn g l)=some y from h); exact ⟨nofun,nofun⟩
 | tup l=>obtain ⟨j,_,rfl⟩:=Option.map_eq_some_iff.1 (show (ren.go f l).map (fun l=>TV.tup l)=some y from h); exact ⟨nofun,nofun⟩
 | ag l=>obtain ⟨j,_,rfl⟩:=Option.map_eq_some_iff.1 (show (ren.go f l).map (fun l=>TV.ag l)=some y from h); exact ⟨nofun,nofun⟩
 | ref r i=>obtain ⟨j,_,rfl⟩:=Option.map_eq_some_iff.1 (show (f i).map (fun j=>TV.ref r j)=some y from h); exact ⟨nofun,nofun⟩
 | _=>cases h; exact Iff.rfl
theorem awf {f:Nat→Option Nat}:∀ {x y:List TV},ren.go f x=some y→y.length=x.length∧∀ (j:Nat) u,y[j]?=some u→∃ z,x[j]?=some z∧ren f z=some u
 | [],y,h=>by cases h; exact ⟨rfl,fun j u h=>by simp at h⟩
 | x :: xs,y,h=>by
   have h:((ren f x).bind fun v=>(ren.go f xs).map fun r=>v :: r)=some y:=h
   obtain ⟨y1,h1,h2⟩:=Option.bind_eq_some_iff.1 h
   obtain ⟨ys,h3,rfl⟩:=Option.map_eq_some_iff.1 h2
   obtain ⟨k1,k2⟩:=awf h3
   refine ⟨by simp [k1],fun j u hu=>?_⟩
   cases j with
   | zero=>simp at hu; subst hu; exact ⟨x,rfl,h1⟩
   | succ j=>obtain ⟨z,e1,e2⟩:=k2 j u (by simpa using hu); exact ⟨z,by simpa using e1,e2⟩
theorem aqn {f:Nat→Option Nat} {x y:List TV} (h:ren.go f x=some y):ahG y=ahG x∧hol y=hol x∧∀ b,y=[.blk b]↔x=[.blk b]:=by
 obtain ⟨h1,h2⟩:=awf h
 refine ayg h1 fun j z u hz hu b=>?_
 obtain ⟨z',e1,e2⟩:=h2 j u hu
 rw [hz] at e1
 cases e1
 exact aJm e2 b
theorem awZ : ∀ {js:List Nat} {i k:Nat},anM js i=some k→js[k]?=some i
 | [],_,_,h=>by cases h
 | a :: r,i,k,h=>by
   have h:(bif Nat.beq a i then some 0 else (anM r i).map (·+1))=some k:=h
   cases hb:Nat.beq a i with
   | true =>
     rw [hb] at h
     rw [Nat.beq_eq] at hb
     cases h
     rw [hb]; rfl
   | false =>
     rw [hb] at h
     obtain ⟨k',h1,rfl⟩:=Option.map_eq_some_iff.1 h
     exact awZ (js:=r) h1
theorem asE {f:Nat→Option Nat} {S:List Obj}:∀ {js:List Nat} {os:List Obj},aCC f S js=some os→os.length=js.length ∧
 ∀ (k:Nat) cs1,os[k]?=some cs1→∃ (i:Nat) (cs:Obj),js[k]?=some i∧S[i]?=some cs∧ren.go f cs=some cs1
 | [],os,h=>by cases h; exact ⟨rfl,fun k cs h=>by simp at h⟩
 | i :: r,os,h=>by
   unfold aCC at h
   split at h
   · rename_i cs hs
     obtain ⟨c1,h1,h2⟩:=Option.bind_eq_some_iff.1 h
     obtain ⟨os',h3,rfl⟩:=Option.map_eq_some_iff.1 h2
     obtain ⟨k1,k2⟩:=asE h3
     refine ⟨by simp [k1],fun k cs1 hk=>?_⟩
     cases k with
     | zero=>simp at hk; subst hk; exact ⟨i,cs,rfl,hs,h1⟩
     | succ k =>
       obtain ⟨i',cs',e1,e2,e3⟩:=k2 k cs1 (by simpa using hk)
       exact ⟨i',cs',by simpa using e1,e2,e3⟩
   · cases h
theorem awY : ∀ {js:List Nat} {i:Nat},anM js i=none→i ∉ js
 | [],_,_=>by simp
 | a :: r,i,h=>by
   have h:(bif Nat.beq a i then some 0 else (anM r i).map (·+1))=none:=h
   cases hb:Nat.beq a i with
   | true=>rw [hb] at h; cases h
   | false =>
     rw [hb] at h
     have hne:i≠a:=fun e=>by rw [e,show Nat.beq a a=true by rw [Nat.beq_eq]] at hb; cases hb
     have hr:anM r i=none:=by simpa using h
     exact fun hm=>(List.mem_cons.1 hm).elim hne (awY hr)
theorem ayu : ∀ {n:Nat} {js:List Nat} {k:Nat},aD3 n js k=true→n≤js.length∧∀ i,i < n→js[i]?=some (k+i)
 | 0,_,_,_=>⟨Nat.zero_le _,fun i hi=>absurd hi (Nat.not_lt_zero _)⟩
 | n+1,[],_,h=>by cases h
 | n+1,a :: r,k,h=>by
   have h:(Nat.beq a k&&aD3 n r (k+1))=true:=h
   rw [Bool.and_eq_true,Nat.beq_eq] at h
   obtain ⟨h1,h2⟩:=ayu h.2
   refine ⟨by simp; omega,fun i hi=>?_⟩
   cases i with
   | zero=>simp [h.1]
   | succ i=>rw [List.getElem?_cons_succ,h2 i (by omega)]; congr 1; omega
end
section
variable {w0 : World} {M0:Mem} {X:Fr} {s s':St} {w:World} {M:Mem} {ι:Nat→Nat} {θ:Nat→Option Nat} {a:Act}
theorem aB_ {f:Nat→Option Nat}:∀ {ks:List (Nat×NK)} {ts:List (Nat×TV)},gatT s f ks=some ts→∀ t,al4 ts t=.undef∨∃ k,aGb s.S f k (s.T t)=some (al4 ts t)
 | [],ts,h,t=>by cases h; exact .inl rfl
 | (u,k) :: r,ts,h,t=>by
   have h:((aGb s.S f k (s.T u)).bind fun v=>(gatT s f r).map fun ts=>(u,v) :: ts)=some ts:=h
   obtain ⟨v,h1,h2⟩:=Option.bind_eq_some_iff.1 h
   obtain ⟨ts',h3,rfl⟩:=Option.map_eq_some_iff.1 h2
   show (bif Nat.beq u t then v else al4 ts' t)=.undef∨∃ k,aGb s.S f k (s.T t)=some (bif Nat.beq u t then v else al4 ts' t)
   cases hb:Nat.beq u t with
   | true=>rw [Nat.beq_eq] at hb; subst hb; exact .inr ⟨k,h1⟩
   | false=>exact aB_ h3 t
def span (cs:Obj):Nat:=match ahG cs with
 | some (.row t l)=>l.length * t.size
 | some _=>0
 | none=>cs.length
open Classical in
noncomputable def gone (M:Mem) (w:World) (S:List Obj) (ι:Nat→Nat) (js:List Nat):Mem:=fun b j =>
 if ∃ (i:Nat) (cs:Obj),S[i]?=some cs∧hol cs=false∧i ∉ js∧ι i=b∧j < span cs then w.cell? ⟨b,j,none⟩ else M b j
theorem aF8 {ks:List (Nat×NK)} (hd:s.dl=[]) (h:aCa ks s=some s') (I:Inv w0 M0 X s w M ι θ) (T:TInv s w M ι θ a):∃ M' ι',Inv w0 M0 X s' w M' ι' θ∧TInv s' w M' ι' θ a:=by
 unfold aCa at h
 generalize aul s.S 64 [] (List.range s.b++aDy s ks)=js at h
 obtain ⟨hb,h⟩:=aaf h
 rw [Bool.and_eq_true] at hb
 have hnd:=apart_spec hb.1
 obtain ⟨fn1,fn2⟩:=ayu hb.2
 obtain ⟨ts,hts,h⟩:=Option.bind_eq_some_iff.1 h
 obtain ⟨S,hS,rfl⟩:=Option.map_eq_some_iff.1 h
 obtain ⟨pl,ps⟩:=asE hS
 have hgt:=aB_ hts
 have away:∀ b,(∀ (i:Nat) cs,s.S[i]?=some cs→hol cs=false→i ∉ js→ι i≠b)→∀ j,gone M w s.S ι js b j=M b j:=by
  intro b hb j
  unfold gone
  rw [if_neg]
  rintro ⟨i,cs,h1,h2,h3,h4,_⟩
  exact hb i _ h1 h2 h3 h4
 have hMle:M.le (gone M w s.S ι js):=by
  intro b j v h
  unfold gone
  rw [if_neg]
  · exact h
  · rintro ⟨i,cs,h1,h2,h3,h4,_⟩
    subst h4
    rw [(I.obj i _ h1 h2).1.none j] at h; cases h
 have live:∀ (k:Nat) cs1,S[k]?=some cs1→∃ (i:Nat) (cs:Obj),js[k]?=some i∧s.S[i]?=some cs∧ren.go (anM js) cs=some cs1∧(ahG cs1=ahG cs∧hol cs1=hol cs∧∀ b,cs1=[.blk b]↔cs=[.blk b]):=by
  intro k cs1 hk
  obtain ⟨i,cs,e1,e2,e3⟩:=ps k cs1 hk
  exact ⟨i,cs,e1,e2,e3,aqn e3⟩
 have hren:aEW w ι (fun k=>ι (js.getD k 0)) s.S S (anM js):=by
  intro i k hk
  have hjk:=awZ hk
  have hkl:=(List.getElem?_eq_some_iff.1 hjk).1
  refine ⟨by show ι (js.getD k 0)=ι i; rw [List.getD_eq_getElem?_getD,hjk]; rfl,by rw [pl]; exact hkl,fun r v hl=>?_⟩
  refine asz (Shp.refl _) (fun cs1 h1=>?_) r v hl
  obtain ⟨i',cs,e1,e2,_,e4⟩:=live k cs1 h1
  rw [hjk] at e1
  cases e1
  exact ⟨cs,e2,ah2 e4⟩
 have tokM:∀ q g,s.O q=true→θ q=some g→∀ j,gone M w s.S ι js g j=M g j:=fun q g hq hg=>away g fun i cs h1 h2 _=>(I.tok q g hq hg).2.2 i cs h1 h2
 have hval:∀ x y v,ren (anM js) x=some y→rv M ι x v→tc w M θ s.O s.c x v→aaI w s.S x v →
  rv (gone M w s.S ι js) (fun k=>ι (js.getD k 0)) y v∧tc w (gone M w s.S ι js) θ s.O s.c y v∧aaI w S y v:=by
  intro x y v hy k1 k2 k3
  obtain ⟨q1,q2,q3⟩:=aCH (θ:=θ) (O:=s.O) (c:=s.c) hren x y v hy k1 k3
  exact ⟨auQ hMle _ _ _ q1,amb (fun _ h=>h) (Nat.le_refl _) (fun q g hq hg=>⟨rfl,tokM q g hq hg⟩) _ _ (q2 k2),q3⟩
 refine ⟨gone M w s.S ι js,fun k=>ι (js.getD k 0),⟨I.os,I.tape,I.output,I.size,Mem.le_trans I.memle hMle,?_,?_,?_,?_,?_,I.tokc,I.one,⟨I.base.1,?_,?_,?_⟩,I.shp⟩,⟨T.n,T.d.trans (by rw [hd]; rfl),(fun i hi=>absurd hi (by simp)),?_⟩⟩
 · intro b j v h
   unfold gone at h
   split at h
   · exact h
   · exact I.mem b j v h
 · intro b hb hx
   obtain ⟨k1,k2⟩:=I.keep b hb hx
   refine ⟨k1,fun j=>(away b (fun i cs h1 h2 _ e=>?_) j).trans (k2 j)⟩
   subst e
   rcases (I.obj i cs h1 h2).2 with h | h
   · exact hx h
   · omega
 · intro k cs1 hk hh
   obtain ⟨i,cs,e1,e2,e3,e4⟩:=live k cs1 hk
   have hhc:hol cs=false:=e4.2.1.symm.trans hh
   obtain ⟨o1,o2⟩:=I.obj i cs e2 hhc
   have hιk:ι (js.getD k 0)=ι i:=by rw [List.getD_eq_getElem?_getD,e1]; rfl
   show objOk w _ _ θ s.O s.c S (ι (js.getD k 0)) cs1∧(X (ι (js.getD k 0))∨_)
   rw [hιk]
   obtain ⟨r1,r2⟩:=awf e3
   refine ⟨o1.map rfl hMle (away _ fun i' cs' h1 h2 h3 e=>?_) e4.1 r1 (fun j x1 hj=>?_),o2⟩
   · have:=I.inj i' i cs' cs h1 e2 h2 hhc e
     subst this
     exact h3 (List.mem_of_getElem? e1)
   · obtain ⟨z,hz,hr⟩:=r2 j x1 hj
     exact ⟨z,hz,fun v k1 k2 k3=>hval z x1 v hr k1 k2 k3⟩
 · intro p q c1 c2 hp hq h1 h2 e
   obtain ⟨i1,d1,e1,e2,_,e4⟩:=live p c1 hp
   obtain ⟨i2,d2,f1,f2,_,f4⟩:=live q c2 hq
   have e:ι (js.getD p 0)=ι (js.getD q 0):=e
   rw [List.getD_eq_getElem?_getD,List.getD_eq_getElem?_getD,e1,f1] at e
   have:=I.inj i1 i2 d1 d2 e2 f2 (e4.2.1.symm.trans h1) (f4.2.1.symm.trans h2) e
   subst this
   obtain ⟨hp',hpe⟩:=List.getElem?_eq_some_iff.1 e1
   obtain ⟨hq',hqe⟩:=List.getElem?_eq_some_iff.1 f1
   exact (List.getElem_inj hnd).1 (hpe.trans hqe.symm)
 · intro q g hq hg
   obtain ⟨h1,h2,h3⟩:=I.tok q g hq hg
   refine ⟨h1,h2,fun k cs1 hk hh=>?_⟩
   obtain ⟨i,cs,e1,e2,_,e4⟩:=live k cs1 hk
   show ι (js.getD k 0)≠g
   rw [List.getD_eq_getElem?_getD,e1]
   exact h3 i cs e2 (e4.2.1.symm.trans hh)
 · show X.n≤S.length
   rw [pl,← I.base.1]; exact fn1
 · intro i hi
   have:=fn2 i (by rw [I.base.1]; exact hi)
   rw [Nat.zero_add] at this
   show ι (js.getD i 0)=X.ι i
   rw [List.getD_eq_getElem?_getD,this]
   exact I.base.2.2.1 i hi
 · intro k cs1 hk hc1
   obtain ⟨i,cs,e1,e2,_,e4⟩:=live k cs1 hc1
   have:=fn2 k (by rw [I.base.1]; exact hk)
   rw [Nat.zero_add,e1] at this
   cases this
   obtain ⟨c0,g1,g2⟩:=I.base.2.2.2 k cs hk e2
   exact ⟨c0,g1,g2.trans (ah2 e4)⟩
 · intro t
   obtain ⟨k1,k2,k3⟩:=T.v t
   show rv _ _ (al4 ts t) _∧tc w _ θ s.O s.c (al4 ts t) _∧aaI w S (al4 ts t) _
   rcases hgt t with h | ⟨kk,h⟩
   · rw [h]; exact ⟨trivial,trivial,trivial⟩
   · generalize hv:al4 ts t=v' at h ⊢
     unfold aGb at h
     split at h
     · rename_i t' i hr
       rw [hr] at k1
       have k1:a.tmps.getD t Go.undef=.pointer (some ⟨ι i,0,none⟩):=k1
       unfold aJS at h
       split at h
       case h_2=>cases h
       rename_i cs hp hs
       obtain ⟨hpl,h⟩:=aaf h
       obtain ⟨⟨x,rest⟩,hof,rfl⟩:=Option.map_eq_some_iff.1 h
       obtain ⟨p1,p2⟩:=ah8 hpl
       obtain ⟨vs,e,g1,g2⟩:=azc I hs hpl
       obtain ⟨c1,c2,hvs,r1,_⟩:=ajz t' cs x rest _ hof g2
       have hlen:=aat t' c1 x r1
       have hcl:c1.length≤cs.length:=by
         have:=g2.1
         rw [hvs,List.length_append] at this; omega
       refine ⟨⟨ι i,0,c1,k1,hlen,ai6 hMle t' c1 x r1,fun j u hj=>?_⟩,trivial,trivial⟩
       have hj':=(List.getElem?_eq_some_iff.1 hj).1
       unfold gone
       rw [Nat.zero_add,if_pos ⟨i,cs,hs,p1,awY hp,rfl,by unfold span; rw [p2]; show j < List.length cs; omega⟩,ai7 g1,← Array.getElem?_toList,← List.getElem?_take_of_lt (show j < cs.length by omega),hvs,List.getElem?_append_left hj']
       exact hj
     unfold aJY at h
     split at h
     · rename_i r i hr
       rw [hr] at k1 k2 k3
       cases hp:anM js i with
       | some j =>
         rw [hp] at h
         cases h
         exact hval (.ref r i) (.ref r j) _ (by show (anM js i).map _=_; rw [hp]; rfl) k1 k2 k3
       | none =>
         rw [hp] at h
         have hnj:=awY hp
         have main:∀ (t':Ty) (l:List t'.D) (p m:Nat),s.S[i]?=some [.blk (.row t' l)]→isV r t' l p m→rv (gone M w s.S ι js) (fun k=>ι (js.getD k 0)) (.sl t' .sh none ((l.drop p).take m)) (a.tmps.getD t Go.undef):=by
            intro t' l p m hrow hV
            obtain ⟨A,c,e1,e2,e3,e4,e5,e6⟩:=apl I k1 k3 hrow hV
            have hlen:((l.drop p).take m).length=m:=by rw [List.length_take,List.length_drop]; omega
            refine ⟨A,c,by rw [hlen]; exact e1,by rw [hlen]; exact e2,e4,e5,fun hne=>?_,nofun,nofun⟩
            have hm:m≠0:=by
             rintro rfl
             exact hne (by simp)
            obtain ⟨hl,hA,cur,e,us,rest,g1,g2,g3,g4,_⟩:=e6 (by omega)
            subst hA
            obtain ⟨c1,c2,c3,q1,q2,q3,_,_⟩:=ash g4 e3
            refine ahI q3 hMle (fun j v hj=>?_) hne
            have hj':=(List.getElem?_eq_some_iff.1 hj).1
            have hul:=acP _ _ g4
            have hc2:=acP _ _ q3
            have hin:p * t'.size+j < l.length * t'.size:=by
             rw [← hul,q1]; simp only [List.length_append]; omega
            unfold gone
            rw [if_pos ⟨i,_,hrow,ap8 hl,hnj,rfl,hin⟩,ai7 g1,← Array.getElem?_toList,g3,q1,List.append_assoc,List.append_assoc,List.getElem?_append_right (by omega),q2,Nat.add_sub_cancel_left,List.getElem?_append_left hj']
            exact hj
         cases r with
         | asl t' =>
           obtain ⟨l,hl,rfl⟩:=Option.map_eq_some_iff.1 (show (acz s.S t' i).map (fun l=>TV.sl t' .sh none l)=some v' from h)
           have:=main t' l 0 l.length (abg hl) (.inl ⟨rfl,rfl,rfl⟩)
           rw [List.drop_zero,List.take_length] at this
           exact ⟨this,trivial,trivial⟩
         | asv t' p m =>
           obtain ⟨l,hl,rfl⟩:=Option.map_eq_some_iff.1 (show (acz s.S t' i).map (fun l=>TV.sl t' .sh none ((l.drop p).take m))=some v' from h)
           exact ⟨main t' l p m (abg hl) (.inr rfl),trivial,trivial⟩
         | pel t' j f=>cases h
         | one t' =>
           have h:(match (s.S[i]?:Option Obj) with
            | some cs=>must (plain cs) ((al5 t' cs).map fun x=>TV.sl t' .sh none [x.1])
            | none=>none)=some v':=h
           split at h
           case h_2=>cases h
           rename_i cs hs
           obtain ⟨hpl,h⟩:=aaf h
           obtain ⟨⟨x,rest⟩,hof,rfl⟩:=Option.map_eq_some_iff.1 h
           obtain ⟨p1,p2⟩:=ah8 hpl
           obtain ⟨vs,e,g1,g2⟩:=azc I hs hpl
           obtain ⟨c1,c2,hvs,r1,_⟩:=ajz t' cs x rest _ hof g2
           have hlen:=aat t' c1 x r1
           have hcl:c1.length≤cs.length:=by
            have:=g2.1
            rw [hvs,List.length_append] at this; omega
           obtain ⟨c,m1,m2,m3⟩:=k1
           refine ⟨⟨some ⟨ι i,0,none⟩,c,m1,m2,m3,nofun,fun _=>⟨ι i,0,rfl,fun k y hk=>?_⟩,nofun,nofun⟩,trivial,trivial⟩
           have hk0:k=0:=by
            have:=(List.getElem?_eq_some_iff.1 hk).1
            simp at this; exact this
           subst hk0
           have hk:x=y:=by simpa using hk
           subst hk
           refine ⟨c1,hlen,ai6 hMle t' c1 x r1,fun j u hj=>?_⟩
           have hj':=(List.getElem?_eq_some_iff.1 hj).1
           unfold gone
           rw [Nat.zero_mul,Nat.zero_add,if_pos ⟨i,cs,hs,p1,hnj,rfl,by unfold span; rw [p2]; show j < List.length cs; omega⟩,ai7 g1,← Array.getElem?_toList,← List.getElem?_take_of_lt (show j < cs.length by omega),hvs,List.getElem?_append_left hj']
           exact hj
         | mp kt vt=>cases h
         | yl=>cases h
     · exact hval _ _ _ h k1 k2 k3
theorem aHD (I:Inv w0 M0 X s w M ι θ) (T:TInv s w M ι θ a) (i:Nat):∃ ι',Inv w0 M0 X (aDp s i) w M ι' θ∧TInv (aDp s i) w M ι' θ a:=by
 unfold aDp
 split
 case h_2=>exact ⟨ι,I,T⟩
 rename_i t l hi
 have hil:i < s.S.length:=(List.getElem?_eq_some_iff.1 hi).1
 generalize hS1:(s.S.map fun cs=>(ren.go (mvF s.S.length i) cs).getD []).set i []++[[TV.blk (.row t l)]]=S1
 have hlen:S1.length=s.S.length+1:=by rw [← hS1]; simp
 have low:∀ (k:Nat) cs1,S1[k]?=some cs1→(k=s.S.length∧cs1=[TV.blk (.row t l)])∨(k < s.S.length∧∃ cs,s.S[k]?=some cs∧(cs1=[]∨(k≠i∧ren.go (mvF s.S.length i) cs=some cs1))):=by
  intro k cs1 h
  rw [← hS1] at h
  by_cases hk:k < s.S.length
  · rw [List.getElem?_append_left (by simpa using hk)] at h
    refine .inr ⟨hk,s.S[k],List.getElem?_eq_getElem hk,?_⟩
    by_cases hki:k=i
    · subst hki
      rw [List.getElem?_set_self (by simpa using hk)] at h
      cases h; exact .inl rfl
    · rw [List.getElem?_set_ne (Ne.symm hki),List.getElem?_map,List.getElem?_eq_getElem hk] at h
      have h:some ((ren.go (mvF s.S.length i) s.S[k]).getD [])=some cs1:=h
      cases hr:ren.go (mvF s.S.length i) s.S[k] with
      | none=>rw [hr] at h; cases h; exact .inl rfl
      | some c=>rw [hr] at h; cases h; exact .inr ⟨hki,rfl⟩
  · have hk':k=s.S.length:=by
        have:=(List.getElem?_eq_some_iff.1 h).1
        simp at this; omega
    subst hk'
    rw [List.getElem?_append_right (by simp)] at h
    simp at h
    exact .inl ⟨rfl,h.symm⟩
 have hnew:S1[s.S.length]?=some [TV.blk (.row t l)]:=by
  rw [← hS1,List.getElem?_append_right (by simp)]
  simp
 have hι:∀ k,k < s.S.length→upd ι s.S.length (ι i) k=ι k:=fun k hk=>aso hk
 have hren:aEW w ι (upd ι s.S.length (ι i)) s.S S1 (mvF s.S.length i):=by
  intro j k h
  unfold mvF at h
  cases hj:Nat.blt j s.S.length with
  | false=>rw [hj] at h; cases h
  | true =>
    rw [hj] at h
    have hj':j < s.S.length:=by simpa using hj
    cases hb:Nat.beq j i with
    | true =>
      rw [hb] at h
      rw [Nat.beq_eq] at hb
      subst hb
      simp only [cond_true] at h
      cases h
      refine ⟨aiL,by omega,fun r v hl=>?_⟩
      rw [hnew]
      rw [hi] at hl
      exact hl
    | false =>
      rw [hb] at h
      simp only [cond_true,cond_false] at h
      cases h
      have hne:j≠i:=fun e=>by rw [← Nat.beq_eq] at e; rw [hb] at e; cases e
      refine ⟨hι j hj',by omega,fun r v hl=>?_⟩
      refine asz (Shp.refl _) (fun cs1 h1=>?_) r v hl
      rcases low j cs1 h1 with ⟨e,_⟩ | ⟨_,cs,e2,e3⟩
      · omega
      · refine ⟨cs,e2,?_⟩
        rcases e3 with rfl | ⟨_,e3⟩
        · exact evo.nil _
        · exact ah2 (aqn e3)
 have hval:∀ x y v,ren (mvF s.S.length i) x=some y→rv M ι x v→tc w M θ s.O s.c x v→aaI w s.S x v →
  rv M (upd ι s.S.length (ι i)) y v∧tc w M θ s.O s.c y v∧aaI w S1 y v:=by
  intro x y v hy k1 k2 k3
  obtain ⟨q1,q2,q3⟩:=aCH (θ:=θ) (O:=s.O) (c:=s.c) hren x y v hy k1 k3
  exact ⟨q1,q2 k2,q3⟩
 have old:∀ (k:Nat) cs1,S1[k]?=some cs1→hol cs1=false→∃ (k0:Nat) (cs:Obj),s.S[k0]?=some cs∧hol cs=false∧upd ι s.S.length (ι i) k=ι k0∧((k=s.S.length∧k0=i)∨(k=k0∧k < s.S.length∧k≠i)):=by
  intro k cs1 h hh
  rcases low k cs1 h with ⟨rfl,rfl⟩ | ⟨hk,cs,e2,e3⟩
  · exact ⟨i,_,hi,hh,aiL,.inl ⟨rfl,rfl⟩⟩
  · rcases e3 with rfl | ⟨hki,e3⟩
    · cases hh
    · exact ⟨k,cs,e2,(aqn e3).2.1.symm.trans hh,hι k hk,.inr ⟨rfl,hk,hki⟩⟩
 refine ⟨upd ι s.S.length (ι i),⟨I.os,I.tape,I.output,I.size,I.memle,I.mem,I.keep,?_,?_,?_,I.tokc,I.one,⟨I.base.1,?_,?_,?_⟩,I.shp⟩,⟨T.n,T.d.trans (List.map_congr_left fun j hj=>by rw [hι j (T.dlt j hj)]),(fun j hj=>by have:=T.dlt j hj; show j < S1.length; omega),?_⟩⟩
 · intro k cs1 h hh
   have h:S1[k]?=some cs1:=h
   rcases low k cs1 h with ⟨rfl,rfl⟩ | ⟨hk,cs,e2,e3⟩
   · obtain ⟨o1,o2⟩:=I.obj i _ hi hh
     show objOk w M _ θ s.O s.c S1 (upd ι s.S.length (ι i) s.S.length) _∧_
     rw [aiL]
     exact ⟨o1.map rfl (Mem.le_refl _) (fun _=>rfl) rfl rfl fun j x1 hj=>⟨x1,hj,fun v hv=>by
        cases j with
        | zero=>simp at hj; subst hj; exact hv.elim
        | succ j=>simp at hj⟩,o2⟩
   · rcases e3 with rfl | ⟨hki,e3⟩
     · cases hh
     · have hbl:=aqn e3
       obtain ⟨o1,o2⟩:=I.obj k cs e2 (hbl.2.1.symm.trans hh)
       obtain ⟨r1,r2⟩:=awf e3
       show objOk w M _ θ s.O s.c S1 (upd ι s.S.length (ι i) k) _∧(X (upd ι s.S.length (ι i) k)∨_≤upd ι s.S.length (ι i) k)
       rw [hι k hk]
       refine ⟨o1.map rfl (Mem.le_refl _) (fun _=>rfl) hbl.1 r1 fun j x1 hj=>?_,o2⟩
       obtain ⟨z,hz,hr⟩:=r2 j x1 hj
       exact ⟨z,hz,fun v k1 k2 k3=>hval z x1 v hr k1 k2 k3⟩
 · intro p q c1 c2 hp hq h1 h2 e
   obtain ⟨p0,d1,e1,f1,g1,g2⟩:=old p c1 hp h1
   obtain ⟨q0,d2,e2,f2,g3,g4⟩:=old q c2 hq h2
   have e:upd ι s.S.length (ι i) p=upd ι s.S.length (ι i) q:=e
   rw [g1,g3] at e
   have:=I.inj p0 q0 d1 d2 e1 e2 f1 f2 e
   omega
 · intro q g hq hg
   obtain ⟨h1,h2,h3⟩:=I.tok q g hq hg
   refine ⟨h1,h2,fun k cs1 hk hh=>?_⟩
   obtain ⟨k0,d,e1,f1,g1,_⟩:=old k cs1 hk hh
   show upd ι s.S.length (ι i) k≠g
   rw [g1]
   exact h3 k0 d e1 f1
 · show X.n≤S1.length
   have:=I.base.2.1
   omega
 · intro k hk
   show upd ι s.S.length (ι i) k=X.ι k
   rw [hι k (Nat.lt_of_lt_of_le hk I.base.2.1)]
   exact I.base.2.2.1 k hk
 · intro k cs1 hk hc1
   rcases low k cs1 hc1 with ⟨rfl,_⟩ | ⟨_,cs,e2,e3⟩
   · have:=I.base.2.1; omega
   · obtain ⟨c0,g1,g2⟩:=I.base.2.2.2 k cs hk e2
     refine ⟨c0,g1,g2.trans ?_⟩
     rcases e3 with rfl | ⟨_,e3⟩
     · exact evo.nil _
     · exact ah2 (aqn e3)
 · intro x
   obtain ⟨k1,k2,k3⟩:=T.v x
   show rv M _ ((ren (mvF s.S.length i) (s.T x)).getD .undef) _∧tc w M θ s.O s.c ((ren (mvF s.S.length i) (s.T x)).getD .undef) _∧aaI w S1 ((ren (mvF s.S.length i) (s.T x)).getD .undef) _
   cases hr:ren (mvF s.S.length i) (s.T x) with
   | none=>exact ⟨trivial,trivial,trivial⟩
   | some y=>exact hval _ y _ hr k1 k2 k3
theorem aEi : ∀ (l:List Nat) {s:St} {ι:Nat→Nat},Inv w0 M0 X s w M ι θ→TInv s w M ι θ a→∃ ι',Inv w0 M0 X (aGm l s) w M ι' θ∧TInv (aGm l s) w M ι' θ a
 | [],s,ι,I,T=>⟨ι,I,T⟩
 | i :: r,s,ι,I,T=>by
   obtain ⟨ι1,I1,T1⟩:=aHD I T i
   exact aEi r I1 T1
end
end Go.Proofs.Ytgmeimbamfggkaa.Den
