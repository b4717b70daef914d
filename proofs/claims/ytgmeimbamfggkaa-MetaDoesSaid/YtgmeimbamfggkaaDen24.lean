import Derived.Test.YtgmeimbamfggkaaDen23
namespace Go.Proofs.Ytgmeimbamfggkaa.Den
open Go
section
variable {s : St} {m c:Nat}
theorem aBi : ∀ {ks:List NK} {vs vs':List TV} {ps:List Nat},nkL s m c ks vs=some (vs',ps)→∀ x∈ks.zip vs,∃ v' ps',nkTV s m c x.1 x.2=some (v',ps')
 | [],vs,_,_,_,x,hx=>by simp at hx
 | k :: ks,[],_,_,_,x,hx=>by simp at hx
 | k :: ks,v :: vs,vs',ps,h,x,hx=>by
   unfold nkL at h
   split at h
   · rename_i v1 a1 r b h1 h2
     rw [List.zip_cons_cons] at hx
     rcases List.mem_cons.1 hx with rfl | hx
     · exact ⟨_,_,h1⟩
     · exact aBi h2 x hx
   · cases h
theorem aCA : ∀ {ks:List (List NK)} {vs vs':List (List TV)} {ps:List Nat},nkLL s m c ks vs=some (vs',ps)→∀ x∈ajA ks vs,∃ v' ps',nkTV s m c x.1 x.2=some (v',ps')
 | [],vs,_,_,_,x,hx=>by simp [ajA] at hx
 | k :: ks,[],_,_,_,x,hx=>by simp [ajA] at hx
 | k :: ks,v :: vs,vs',ps,h,x,hx=>by
   unfold nkLL at h
   split at h
   · rename_i v1 a1 r b h1 h2
     rw [ajA] at hx
     rcases List.mem_append.1 hx with hx | hx
     · exact aBi h1 x hx
     · exact aCA h2 x hx
   · cases h
theorem aJb : ∀ {ks:List NK} {vs vs':List TV} {ps:List Nat},nkL s m c ks vs=some (vs',ps)→∀ q∈ks.flatMap nkQ,∃ x∈ks.zip vs,q∈nkQ x.1
 | [],_,_,_,_,q,hq=>by simp at hq
 | k :: ks,[],_,_,h,_,_=>by cases h
 | k :: ks,v :: vs,vs',ps,h,q,hq=>by
   unfold nkL at h
   split at h
   · rename_i v1 a1 r b h1 h2
     rw [List.zip_cons_cons]
     rw [List.flatMap_cons] at hq
     rcases List.mem_append.1 hq with hq | hq
     · exact ⟨(k,v),List.mem_cons_self ..,hq⟩
     · obtain ⟨x,hx,h⟩:=aJb h2 q hq
       exact ⟨x,List.mem_cons_of_mem _ hx,h⟩
   · cases h
theorem aIv : ∀ {ks:List (List NK)} {vs vs':List (List TV)} {ps:List Nat},nkLL s m c ks vs=some (vs',ps)→∀ q∈ks.flatMap (·.flatMap nkQ),∃ x∈ajA ks vs,q∈nkQ x.1
 | [],_,_,_,_,q,hq=>by simp at hq
 | k :: ks,[],_,_,h,_,_=>by cases h
 | k :: ks,v :: vs,vs',ps,h,q,hq=>by
   unfold nkLL at h
   split at h
   · rename_i v1 a1 r b h1 h2
     rw [List.flatMap_cons] at hq
     rcases List.mem_append.1 hq with hq | hq
     · obtain ⟨x,hx,h⟩:=aJb h1 q hq
       exact ⟨x,List.mem_append_left _ hx,h⟩
     · obtain ⟨x,hx,h⟩:=aIv h2 q hq
       exact ⟨x,List.mem_append_right _ hx,h⟩
   · cases h
theorem aKG {dr:Bool} {k:NK} {v:TV} {z:TV×List Nat} (h:nkTV (sO dr s) m c k v=some z):nkTV s m c k v=some z:=by
 cases dr with
 | false=>exact h
 | true =>
   unfold nkTV at h ⊢
   split at h
   · exact h
   · rename_i q t f nl l
     cases f with
     | full=>exact h
     | sh=>exact h
     | own p=>simp [agy,sO] at h
   · rename_i q t f nl l
     cases f with
     | full=>exact h
     | sh=>exact h
     | own p=>simp [agy,sO] at h
   · exact h
   · exact h
   · exact h
   · cases h
theorem sO_L {dr:Bool}:∀ {ks:List NK} {vs:List TV} {z:List TV×List Nat},nkL (sO dr s) m c ks vs=some z→nkL s m c ks vs=some z
 | [],[],_,h=>h
 | [],_ :: _,_,h=>by cases h
 | _ :: _,[],_,h=>by cases h
 | k :: ks,v :: vs,z,h=>by
   unfold nkL at h ⊢
   split at h
   · rename_i v1 a1 r b h1 h2
     rw [aKG h1,sO_L h2]
     exact h
   · cases h
theorem aKb {dr:Bool}:∀ {ks:List (List NK)} {vs:List (List TV)} {z:List (List TV)×List Nat},nkLL (sO dr s) m c ks vs=some z→nkLL s m c ks vs=some z
 | [],vs,_,h=>by cases vs <;> exact h
 | _ :: _,[],_,h=>by cases h
 | k :: ks,v :: vs,z,h=>by
   unfold nkLL at h ⊢
   split at h
   · rename_i v1 a1 r b h1 h2
     rw [sO_L h1,aKb h2]
     exact h
   · cases h
end
def beg (sp:Spec) (os:List Obj):St:=mkS 0 os.length [] sp.qs.length sp.qs os
def fin (S:List Obj) (toks b:Nat):St:=⟨0,fun _=>.undef,toks,fun q=>Nat.blt q toks,S,b,[]⟩
section
variable {w0 : World} {M0:Mem} {X:Fr} {s:St} {w:World} {M:Mem} {ι:Nat→Nat} {θ:Nat→Option Nat} {a:Act}
theorem aEl {θ':Nat→Option Nat} {O':Nat→Bool} {m c:Nat} {S0 S1:List Obj}:∀ {ks:List NK} {vs vs':List TV} {ps:List Nat} {V:List Value},nkL s m c ks vs=some (vs',ps)→rvs M ι vs V→tcs w M θ s.O s.c vs V→abE w S0 vs V→m=S1.length→Low S0 S1 →
 (∀ x∈ks.zip vs,∀ q∈nkQ x.1,θ' q=(akR x.1 x.2).head?.bind θ)→rvs M ι vs' V∧tcs w M θ' O' c vs' V∧abE w S1 vs' V
 | [],[],_,_,V,h,h1,_,_,_,_,_=>by
   cases h
   have:V=[]:=h1
   subst this
   exact ⟨rfl,trivial,trivial⟩
 | [],_ :: _,_,_,_,h,_,_,_,_,_,_=>by cases h
 | _ :: _,[],_,_,_,h,_,_,_,_,_,_=>by cases h
 | k :: ks,v :: vs,vs',ps,V,h,h1,h2,hw,hm,hS,h3=>by
   unfold nkL at h
   split at h
   · rename_i v1 a1 r b e1 e2
     cases h
     obtain ⟨x,xs,rfl,g1,g2⟩:=h1
     obtain ⟨d1,d2,d3,_⟩:=aDr (θ':=θ') (O':=O') e1 g1 h2.1 hw.1 hm hS (h3 (k,v) (by simp))
     obtain ⟨f1,f2,f3⟩:=aEl (θ':=θ') (O':=O') e2 g2 h2.2 hw.2 hm hS (fun x hx=>h3 x (by rw [List.zip_cons_cons]; exact List.mem_cons_of_mem _ hx))
     exact ⟨⟨x,xs,rfl,d1,f1⟩,⟨d2,f2⟩,d3,f3⟩
   · cases h
def calX (s:St) (ι:Nat→Nat) (θ:Nat→Option Nat) (js ts:List Nat) (g:Nat):Prop :=
 (∃ (k i:Nat) (cs:Obj),js[k]?=some i∧s.S[i]?=some cs∧hol cs=false∧g=ι i)∨∃ q,q∈ts∧s.O q=true∧θ q=some g
theorem aE3 (I:Inv w0 M0 X s w M ι θ) {L:List TV} {V:List Value} (hL:rvs M ι L V) (hT:tcs w M θ s.O s.c L V) (hW:abE w s.S L V) {js:List Nat} {as1 as2:List TV} {os1 os2:List Obj} {ta tb:List Nat} {sp:Spec}
 (h1:ren.go (anM js) L=some as1) (h2:aCC (anM js) s.S js=some os1)
 (h3:nkL s js.length sp.qs.length sp.pars as1=some (as2,ta)) (h4:nkLL s js.length sp.qs.length sp.objs os1=some (os2,tb))
 (hj:js.Nodup) (hab:(ta++tb).Nodup) (hq:sp.qs.Nodup) (hl:os2.length=js.length) :
 (∀ (k i:Nat) cs2,js[k]?=some i→os2[k]?=some cs2→∃ cs,s.S[i]?=some cs∧evo cs cs2) ∧
 ∃ θ',Inv w M { X:=calX s ι θ js (ta++tb),n:=js.length,ι:=fun k=>ι (js.getD k 0),S:=os2 } (beg sp os2) w M (fun k=>ι (js.getD k 0)) θ' ∧
   rvs M (fun k=>ι (js.getD k 0)) as2 V∧tcs w M θ' (beg sp os2).O (beg sp os2).c as2 V∧abE w os2 as2 V:=by
 obtain ⟨p1,p2⟩:=asE h2
 obtain ⟨o1,o2,o3,o4⟩:=ay8 h4
 have hf:aEW w ι (fun k=>ι (js.getD k 0)) s.S os1 (anM js):=by
  intro i k h
  have h:=awZ h
  refine ⟨?_,by rw [p1]; exact (List.getElem?_eq_some_iff.1 h).1,fun r v hl=>asz (Shp.refl _) (fun cs1 h1=>?_) r v hl⟩
  · show ι (js.getD k 0)=ι i
    rw [List.getD_eq_getElem?_getD,h]; rfl
  · obtain ⟨i',cs,e1,e2,e3⟩:=p2 k cs1 h1
    rw [h] at e1
    cases e1
    exact ⟨cs,e2,ah2 (aqn e3)⟩
 have hlow:Low os1 os2:=by
  intro i cs2 hi
  obtain ⟨k,cs1,ps',_,e2,e3,_⟩:=o4 i cs2 hi
  exact ⟨cs1,e2,ah2 (arR e3)⟩
 obtain ⟨r1,r2,r3⟩:=azu (θ:=θ) (O:=s.O) (c:=s.c) hf L as1 V h1 hL hW
 have r2:=r2 hT
 let C:=sp.pars.zip as1++ajA sp.objs os1
 have nodq:(C.flatMap fun x=>nkQ x.1).Nodup:=by
  refine List.Nodup.sublist ?_ hq
  rw [List.flatMap_append]
  exact (aDQ _ _).append (awX _ _)
 have hps:C.flatMap (fun x=>akR x.1 x.2)=ta++tb:=by rw [List.flatMap_append,← aBj h3,o3]
 have each:∀ x∈C,∃ v' ps',nkTV s js.length sp.qs.length x.1 x.2=some (v',ps'):=fun x hx=>by
  rcases List.mem_append.1 hx with hx | hx
  · exact aBi h3 x hx
  · exact aCA h4 x hx
 have live:∀ p∈C.flatMap (fun x=>akR x.1 x.2),s.O p=true:=by
  intro p hp
  obtain ⟨x,hx,hpx⟩:=List.mem_flatMap.1 hp
  obtain ⟨v',ps',hv⟩:=each x hx
  exact (avN hv).1 p (by rw [avO hv]; exact hpx)
 have hθ:∀ x∈C,∀ q∈nkQ x.1,(src C q).bind θ=(akR x.1 x.2).head?.bind θ:=fun x hx q hq=>by rw [aG3 (k:=x.1) (v:=x.2) nodq hx hq]
 have hsome:∀ q g,(src C q).bind θ=some g→∃ p,src C q=some p∧s.O p=true∧θ p=some g:=by
  intro q g h
  obtain ⟨p,h1,h2⟩:=Option.bind_eq_some_iff.1 h
  exact ⟨p,h1,live p (axd h1),h2⟩
 obtain ⟨a1,a2,a3⟩:=aEl (θ':=fun q=>(src C q).bind θ) (O':=(beg sp os2).O) h3 r1 r2 r3 hl.symm hlow (fun x hx=>hθ x (List.mem_append_left _ hx))
 have chain:∀ (i:Nat) cs2,os2[i]?=some cs2→∃ (k:List NK) (cs1:Obj) (ps':List Nat) (j:Nat) (cs:Obj),os1[i]?=some cs1∧nkL s js.length sp.qs.length k cs1=some (cs2,ps')∧(∀ z∈k.zip cs1,z∈ajA sp.objs os1)∧js[i]?=some j∧js.getD i 0=j∧s.S[j]?=some cs∧ren.go (anM js) cs=some cs1 ∧
  (ahG cs2=ahG cs∧hol cs2=hol cs∧∀ b,cs2=[.blk b]↔cs=[.blk b]):=by
  intro i cs2 hi
  obtain ⟨k,cs1,ps',e1,e2,e3,e4⟩:=o4 i cs2 hi
  obtain ⟨j,cs,f1,f2,f3⟩:=p2 i cs1 e2
  have b1:=arR e3
  have b2:=aqn f3
  exact ⟨k,cs1,ps',j,cs,e2,e3,e4,f1,by rw [List.getD_eq_getElem?_getD,f1]; rfl,f2,f3,b1.1.trans b2.1,b1.2.1.trans b2.2.1,fun b=>(b1.2.2 b).trans (b2.2.2 b)⟩
 refine ⟨fun k i cs2 hk h2=>?_,fun q=>(src C q).bind θ,⟨rfl,rfl,rfl,Nat.le_refl _,Mem.le_refl _,I.mem,fun b _ _=>⟨rfl,fun _=>rfl⟩,?_,?_,?_,?_,?_,?_,Shp.refl _⟩,a1,a2,a3⟩
 · obtain ⟨_,_,_,j,cs,_,_,_,f1,_,f2,_,hb⟩:=chain k cs2 h2
   rw [hk] at f1
   cases f1
   exact ⟨cs,f2,ah2 hb⟩
 · intro i cs2 hi hh
   obtain ⟨k,cs1,ps',j,cs,e2,e3,e4,f1,hjd,f2,f3,hb⟩:=chain i cs2 hi
   have hhc:hol cs=false:=hb.2.1.symm.trans hh
   obtain ⟨n1,n2,n3⟩:=avM e3
   obtain ⟨g1,_⟩:=I.obj j cs f2 hhc
   obtain ⟨q1,q2⟩:=awf f3
   show objOk w M _ _ (beg sp os2).O (beg sp os2).c os2 (ι (js.getD i 0)) cs2∧(calX s ι θ js (ta++tb) (ι (js.getD i 0))∨_)
   rw [hjd]
   refine ⟨g1.map rfl (Mem.le_refl _) (fun _=>rfl) hb.1 (n1.trans q1) fun jj x hx=>?_,.inl (.inl ⟨i,j,cs,f1,f2,hhc,rfl⟩)⟩
   obtain ⟨k',v1,ps2,m1,m2,m3,_⟩:=n3 jj x hx
   obtain ⟨v0,z1,z2⟩:=q2 jj v1 m2
   refine ⟨v0,z1,fun v u3 u4 u5=>?_⟩
   obtain ⟨t1,t2,t3⟩:=aCH (θ:=θ) (O:=s.O) (c:=s.c) hf v0 v1 v z2 u3 u5
   have hz:(k',v1)∈k.zip cs1:=List.mem_of_getElem? (i:=jj) (List.getElem?_zip_eq_some.2 ⟨m1,m2⟩)
   obtain ⟨d1,d2,d3,_⟩:=aDr (θ':=fun q=>(src C q).bind θ) (O':=(beg sp os2).O) m3 t1 (t2 u4) t3 hl.symm hlow (hθ (k',v1) (List.mem_append_right _ (e4 _ hz)))
   exact ⟨d1,d2,d3⟩
 · intro i j c1 c2 hi hj' h1 h2 e
   obtain ⟨_,_,_,i1,d1,_,_,_,e1,e2,e3,_,hb1⟩:=chain i c1 hi
   obtain ⟨_,_,_,j1,d2,_,_,_,f1,f2,f3,_,hb2⟩:=chain j c2 hj'
   have e:ι (js.getD i 0)=ι (js.getD j 0):=e
   rw [e2,f2] at e
   have:=I.inj i1 j1 d1 d2 e3 f3 (hb1.2.1.symm.trans h1) (hb2.2.1.symm.trans h2) e
   subst this
   obtain ⟨hp',hpe⟩:=List.getElem?_eq_some_iff.1 e1
   obtain ⟨hq',hqe⟩:=List.getElem?_eq_some_iff.1 f1
   exact (List.getElem_inj hj).1 (hpe.trans hqe.symm)
 · intro q g hq' hg
   obtain ⟨p,k1,k2,k3⟩:=hsome q g hg
   obtain ⟨t1,t2,t3⟩:=I.tok p g k2 k3
   refine ⟨t1,.inl (.inr ⟨p,by rw [← hps]; exact axd k1,k2,k3⟩),fun i c1 hi hh=>?_⟩
   obtain ⟨_,_,_,i1,d1,_,_,_,e1,e2,e3,_,hb1⟩:=chain i c1 hi
   show ι (js.getD i 0)≠g
   rw [e2]
   exact t3 i1 d1 e3 (hb1.2.1.symm.trans hh)
 · intro q hq'
   have hq':sp.qs.any (Nat.beq q)=true:=hq'
   obtain ⟨p,hp,e⟩:=List.any_eq_true.1 hq'
   rw [Nat.beq_eq] at e
   subst e
   show q < sp.qs.length
   have:∃ x∈C,q∈nkQ x.1:=by
    rcases List.mem_append.1 hp with hp | hp
    · obtain ⟨x,hx,h⟩:=aJb h3 q hp
      exact ⟨x,List.mem_append_left _ hx,h⟩
    · obtain ⟨x,hx,h⟩:=aIv h4 q hp
      exact ⟨x,List.mem_append_right _ hx,h⟩
   obtain ⟨x,hx,hqx⟩:=this
   obtain ⟨v',ps',hv⟩:=each x hx
   exact (avN hv).2 q hqx
 · intro p q g _ _ hp hq'
   obtain ⟨p1,k1,k2,k3⟩:=hsome p g hp
   obtain ⟨q1,l1,l2,l3⟩:=hsome q g hq'
   have:=I.one p1 q1 g k2 l2 k3 l3
   subst this
   exact aDL (by rw [hps]; exact hab) k1 l1
 · exact ⟨hl,by show js.length≤os2.length; omega,fun _ _=>rfl,fun i cs _ hi=>⟨cs,hi,evo.refl _⟩⟩
end
end Go.Proofs.Ytgmeimbamfggkaa.Den
