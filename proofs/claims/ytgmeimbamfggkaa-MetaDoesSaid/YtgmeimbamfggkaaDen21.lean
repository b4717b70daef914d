import Derived.Test.YtgmeimbamfggkaaDen20b
namespace Go.Proofs.Ytgmeimbamfggkaa.Den
open Go
theorem aDQ : ∀ (k:List NK) (v:List TV),((k.zip v).flatMap fun x=>nkQ x.1).Sublist (k.flatMap nkQ)
 | [],_=>by simp
 | _ :: _,[]=>by simp
 | k :: ks,v :: vs=>by
   rw [List.zip_cons_cons,List.flatMap_cons,List.flatMap_cons]
   exact (List.Sublist.refl _).append (aDQ ks vs)
theorem awX : ∀ (ks:List (List NK)) (vs:List (List TV)),((ajA ks vs).flatMap fun x=>nkQ x.1).Sublist (ks.flatMap (·.flatMap nkQ))
 | [],_=>by simp [ajA]
 | _ :: _,[]=>by simp [ajA]
 | k :: ks,v :: vs=>by
   rw [ajA,List.flatMap_append,List.flatMap_cons]
   exact (aDQ k v).append (awX ks vs)
section
variable {w0 : World} {M0:Mem} {X:Fr} {s s':St} {w:World} {M:Mem} {ι:Nat→Nat} {θ:Nat→Option Nat} {a:Act}
theorem aHG {W:Norm} (hd:s.dl=[]) (h:aJd W s=some s') (I:Inv w0 M0 X s w M ι θ) (T:TInv s w M ι θ a):∃ θ',Inv w0 M0 X s' w M ι θ'∧TInv s' w M ι θ' a:=by
 unfold aJd at h
 split at h
 case h_2=>cases h
 rename_i ts pa S pb hT hS
 cases hb:(apart (pa++pb)&&apart (W.keep.flatMap (fun p=>nkQ p.2)++W.objs.flatMap (fun l=>l.flatMap nkQ))&&Nat.ble s.b W.objs.length) with
 | false=>rw [hb] at h; cases h
 | true =>
   rw [hb] at h
   cases h
   rw [Bool.and_eq_true,Bool.and_eq_true] at hb
   obtain ⟨⟨hb1,hb2⟩,hb3⟩:=hb
   have hb3:s.b≤W.objs.length:=Nat.le_of_ble_eq_true hb3
   obtain ⟨t1,t2⟩:=aEm hT
   obtain ⟨o1,o2,o3,o4⟩:=ay8 hS
   let CT:=W.keep.map fun p=>(p.2,s.T p.1)
   let CS:=ajA W.objs s.S
   let C:=CT++CS
   have hq1:CT.flatMap (fun x=>nkQ x.1)=W.keep.flatMap (fun p=>nkQ p.2):=by
    show (W.keep.map fun p=>(p.2,s.T p.1)).flatMap _=_
    rw [List.flatMap_map]
   have nodq:(C.flatMap fun x=>nkQ x.1).Nodup:=by
    refine List.Nodup.sublist ?_ (apart_spec hb2)
    rw [List.flatMap_append,hq1]
    exact (List.Sublist.refl _).append (awX _ _)
   have hps:C.flatMap (fun x=>akR x.1 x.2)=pa++pb:=by rw [List.flatMap_append,t1,o3]
   have nodp:(C.flatMap fun x=>akR x.1 x.2).Nodup:=by rw [hps]; exact apart_spec hb1
   have hlow:Low s.S S:=by
    intro i cs1 h1
    obtain ⟨k,cs,ps',_,e2,e3,_⟩:=o4 i cs1 h1
    exact ⟨cs,e2,ah2 (arR e3)⟩
   have val:∀ k v v' ps x,(k,v)∈C→nkTV s W.objs.length W.c k v=some (v',ps)→rv M ι v x→tc w M θ s.O s.c v x→aaI w s.S v x→∀ O':Nat→Bool,
        rv M ι v' x∧tc w M (fun q=>(src C q).bind θ) O' W.c v' x∧aaI w S v' x∧ps=akR k v∧(∀ p∈ps,s.O p=true)∧(∀ q∈nkQ k,q < W.c) :=
    fun k v v' ps x hm hn h1 h2 h3 O'=>aDr hn h1 h2 h3 o1.symm hlow fun q hq=>by rw [aG3 nodq hm hq]
   have mT:∀ t k,(t,k)∈W.keep→(k,s.T t)∈C:=fun t k hm=>List.mem_append_left _ (List.mem_map.2 ⟨(t,k),hm,rfl⟩)
   have qlt:∀ q,(W.keep.flatMap (fun p=>nkQ p.2)++W.objs.flatMap (fun l=>l.flatMap nkQ)).any (Nat.beq q)=true→q∈W.keep.flatMap (fun p=>nkQ p.2)++W.objs.flatMap (fun l=>l.flatMap nkQ):=by
    intro q hq
    obtain ⟨p,hp,e⟩:=List.any_eq_true.1 hq
    rw [Nat.beq_eq] at e
    subst e; exact hp
   have live:∀ p∈C.flatMap (fun x=>akR x.1 x.2),s.O p=true:=by
    rw [hps]
    intro p hp
    rcases List.mem_append.1 hp with hp | hp
    · rw [t1] at hp
      obtain ⟨x,hx,hpx⟩:=List.mem_flatMap.1 hp
      obtain ⟨y,hy,rfl⟩:=List.mem_map.1 hx
      have aux:∀ {ks:List (Nat×NK)} {ts:List (Nat×TV)} {ps:List Nat},nkT s W.objs.length W.c ks=some (ts,ps)→∀ y∈ks,∃ v' ps',nkTV s W.objs.length W.c y.2 (s.T y.1)=some (v',ps'):=by
       intro ks
       induction ks with
       | nil=>intro ts ps _ y hy; simp at hy
       | cons z ks ih =>
         intro ts ps h y hy
         obtain ⟨t0,k0⟩:=z
         unfold nkT at h
         split at h
         · rename_i v1 a1 r b h1 h2
           rcases List.mem_cons.1 hy with rfl | hy
           · exact ⟨_,_,h1⟩
           · exact ih h2 y hy
         · cases h
      obtain ⟨v',ps',hv⟩:=aux hT y hy
      obtain ⟨u1,u2,u3⟩:=T.v y.1
      obtain ⟨_,_,_,e,e2,_⟩:=val _ _ _ _ _ (mT y.1 y.2 hy) hv u1 u2 u3 (fun _=>false)
      exact e2 p (by rw [e]; exact hpx)
    · rw [o3] at hp
      obtain ⟨x,hx,hpx⟩:=List.mem_flatMap.1 hp
      have aux:∀ {ks:List (List NK)} {vs vs':List (List TV)} {ps:List Nat},nkLL s W.objs.length W.c ks vs=some (vs',ps)→∀ x∈ajA ks vs,∃ (i j:Nat) (cs:List TV) (v':TV) (ps':List Nat),vs[i]?=some cs∧cs[j]?=some x.2∧nkTV s W.objs.length W.c x.1 x.2=some (v',ps'):=by
       have aux2:∀ {ks:List NK} {vs vs':List TV} {ps:List Nat},nkL s W.objs.length W.c ks vs=some (vs',ps)→∀ x∈ks.zip vs,∃ (j:Nat) (v':TV) (ps':List Nat),vs[j]?=some x.2∧nkTV s W.objs.length W.c x.1 x.2=some (v',ps'):=by
          intro ks
          induction ks with
          | nil=>intro vs vs' ps _ x hx; simp at hx
          | cons k ks ih =>
            intro vs vs' ps h x hx
            cases vs with
            | nil=>simp at hx
            | cons v vs =>
              unfold nkL at h
              split at h
              · rename_i v1 a1 r b h1 h2
                rw [List.zip_cons_cons] at hx
                rcases List.mem_cons.1 hx with rfl | hx
                · exact ⟨0,_,_,rfl,h1⟩
                · obtain ⟨j,v',ps',e1,e2⟩:=ih h2 x hx
                  exact ⟨j+1,v',ps',by simpa using e1,e2⟩
              · cases h
       intro ks
       induction ks with
       | nil=>intro vs vs' ps _ x hx; simp [ajA] at hx
       | cons k ks ih =>
         intro vs vs' ps h x hx
         cases vs with
         | nil=>simp [ajA] at hx
         | cons v vs =>
           unfold nkLL at h
           split at h
           · rename_i v1 a1 r b h1 h2
             rw [ajA] at hx
             rcases List.mem_append.1 hx with hx | hx
             · obtain ⟨j,v',ps',e1,e2⟩:=aux2 h1 x hx
               exact ⟨0,j,v,v',ps',rfl,e1,e2⟩
             · obtain ⟨i,j,cs,v',ps',e1,e2,e3⟩:=ih h2 x hx
               exact ⟨i+1,j,cs,v',ps',by simpa using e1,e2,e3⟩
           · cases h
      obtain ⟨i,j,cs,v',ps',e1,e2,e3⟩:=aux hS x hx
      exact (avN e3).1 p (by rw [avO e3]; exact hpx)
   have hsome:∀ q g,(src C q).bind θ=some g→∃ p,src C q=some p∧s.O p=true∧θ p=some g:=by
    intro q g h
    obtain ⟨p,h1,h2⟩:=Option.bind_eq_some_iff.1 h
    exact ⟨p,h1,live p (axd h1),h2⟩
   refine ⟨fun q=>(src C q).bind θ,⟨I.os,I.tape,I.output,I.size,I.memle,I.mem,I.keep,?_,?_,?_,?_,?_,⟨I.base.1,by rw [← I.base.1]; show s.b≤S.length; omega,I.base.2.2.1,?_⟩,I.shp⟩,T.n,T.d.trans (by rw [hd]; rfl),(fun i hi=>absurd hi (by simp [mkS])),?_⟩
   · intro i cs' hi hh
     obtain ⟨k,cs,ps',e1,e2,e3,e4⟩:=o4 i cs' hi
     obtain ⟨n1,n2,n3⟩:=avM e3
     have hbl:=arR e3
     obtain ⟨g1,g4⟩:=I.obj i cs e2 (hbl.2.1.symm.trans hh)
     refine ⟨g1.map rfl (Mem.le_refl _) (fun _=>rfl) hbl.1 n1 fun j x hj=>?_,g4⟩
     obtain ⟨k',v',ps2,m1,m2,m3,_⟩:=n3 j x hj
     refine ⟨v',m2,fun v u3 u4 u5=>?_⟩
     have hz:(k',v')∈k.zip cs:=List.mem_of_getElem? (i:=j) (List.getElem?_zip_eq_some.2 ⟨m1,m2⟩)
     obtain ⟨d1,d2,d3,_⟩:=val k' v' x ps2 v (List.mem_append_right _ (e4 _ hz)) m3 u3 u4 u5 (mkS s.n s.b ts W.c (W.keep.flatMap (fun p=>nkQ p.2)++W.objs.flatMap (fun l=>l.flatMap nkQ)) S).O
     exact ⟨d1,d2,d3⟩
   · intro i j c1 c2 hi hj h1 h2 e
     obtain ⟨_,d1,_,_,e2,e3,_⟩:=o4 i c1 hi
     obtain ⟨_,d2,_,_,f2,f3,_⟩:=o4 j c2 hj
     exact I.inj i j d1 d2 e2 f2 ((arR e3).2.1.symm.trans h1) ((arR f3).2.1.symm.trans h2) e
   · intro q g hq hg
     obtain ⟨p,h1,h2,h3⟩:=hsome q g hg
     obtain ⟨k1,k2,k3⟩:=I.tok p g h2 h3
     refine ⟨k1,k2,fun i c1 hi hh=>?_⟩
     obtain ⟨_,d1,_,_,e2,e3,_⟩:=o4 i c1 hi
     exact k3 i d1 e2 ((arR e3).2.1.symm.trans hh)
   · intro q hq
     have hq:=qlt q hq
     rcases List.mem_append.1 hq with hq | hq
     · obtain ⟨y,hy,hyq⟩:=List.mem_flatMap.1 hq
       have aux:∀ {ks:List (Nat×NK)} {ts:List (Nat×TV)} {ps:List Nat},nkT s W.objs.length W.c ks=some (ts,ps)→∀ y∈ks,∃ v' ps',nkTV s W.objs.length W.c y.2 (s.T y.1)=some (v',ps'):=by
        intro ks
        induction ks with
        | nil=>intro ts ps _ y hy; simp at hy
        | cons z ks ih =>
          intro ts ps h y hy
          obtain ⟨t0,k0⟩:=z
          unfold nkT at h
          split at h
          · rename_i v1 a1 r b h1 h2
            rcases List.mem_cons.1 hy with rfl | hy
            · exact ⟨_,_,h1⟩
            · exact ih h2 y hy
          · cases h
       obtain ⟨v',ps',hv⟩:=aux hT y hy
       obtain ⟨u1,u2,u3⟩:=T.v y.1
       obtain ⟨_,_,_,_,_,e⟩:=val _ _ _ _ _ (mT y.1 y.2 hy) hv u1 u2 u3 (fun _=>false)
       exact e q hyq
     · obtain ⟨k,hk,hkq⟩:=List.mem_flatMap.1 hq
       obtain ⟨k1,hk1,hkq⟩:=List.mem_flatMap.1 hkq
       obtain ⟨i,hi⟩:=List.getElem?_of_mem hk
       have hlt:i < S.length:=by rw [o1]; exact (List.getElem?_eq_some_iff.1 hi).1
       obtain ⟨k',cs,ps',e1,e2,e3,e4⟩:=o4 i S[i] (List.getElem?_eq_getElem hlt)
       rw [hi] at e1
       cases e1
       obtain ⟨n1,n2,n3⟩:=avM e3
       obtain ⟨j,hj⟩:=List.getElem?_of_mem hk1
       have hjlt:j < S[i].length:=by rw [n1,← n2]; exact (List.getElem?_eq_some_iff.1 hj).1
       obtain ⟨k'',v',ps2,m1,m2,m3,_⟩:=n3 j S[i][j] (List.getElem?_eq_getElem hjlt)
       rw [hj] at m1
       cases m1
       exact (avN m3).2 q hkq
   · intro p q g hp hq h1 h2
     obtain ⟨p1,a1,a2,a3⟩:=hsome p g h1
     obtain ⟨q1,b1,b2,b3⟩:=hsome q g h2
     have:=I.one p1 q1 g a2 b2 a3 b3
     subst this
     exact aDL nodp a1 b1
   · intro i c1 hi hc1
     obtain ⟨_,d1,_,_,e2,e3,_⟩:=o4 i c1 hc1
     obtain ⟨c0,g1,g2⟩:=I.base.2.2.2 i d1 hi e2
     exact ⟨c0,g1,g2.trans (ah2 (arR e3))⟩
   · intro t
     obtain ⟨u1,u2,u3⟩:=T.v t
     show rv M ι (al4 ts t) _∧tc w M _ _ _ (al4 ts t) _∧aaI w S (al4 ts t) _
     rcases t2 t with h | ⟨k,ps',h1,h2⟩
     · rw [h]; exact ⟨trivial,trivial,trivial⟩
     · obtain ⟨d1,d2,d3,_⟩:=val k _ _ ps' _ (mT t k h1) h2 u1 u2 u3 (mkS s.n s.b ts W.c (W.keep.flatMap (fun p=>nkQ p.2)++W.objs.flatMap (fun l=>l.flatMap nkQ)) S).O
       exact ⟨d1,d2,d3⟩
theorem aHC (s:St) (i:Nat):(aDp s i).dl=s.dl:=by
 unfold aDp
 split <;> rfl
theorem aEh : ∀ (l:List Nat) (s:St),(aGm l s).dl=s.dl
 | [],_=>rfl
 | i :: r,s=>(aEh r (aDp s i)).trans (aHC s i)
theorem aF7 {ks:List (Nat×NK)} {s s':St} (h:aCa ks s=some s'):s'.dl=[]:=by
 unfold aCa at h
 obtain ⟨_,h⟩:=aaf h
 obtain ⟨ts,_,h⟩:=Option.bind_eq_some_iff.1 h
 obtain ⟨S,_,rfl⟩:=Option.map_eq_some_iff.1 h
 rfl
theorem aF6 (I:Inv w0 M0 X s w M ι θ) (T:TInv s w M ι θ a) {p c j:Nat} {cs:Obj} {t:Ty} {l:List t.D} {rf:Rf} {q m:Nat} (hp:s.S[p]?=some cs) (hc:cs[c]?=some (.ref rf j)) (hpl:plain cs=true) (hjp:j≠p)
 (hr:s.S[j]?=some [.blk (.row t l)]) (hv:isV rf t l q m) :
 ∃ M',Inv w0 M0 X { s with S:=(s.S.set j []).set p (cs.set c (.sl t .sh none ((l.drop q).take m))) } w M' ι θ∧TInv { s with S:=(s.S.set j []).set p (cs.set c (.sl t .sh none ((l.drop q).take m))) } w M' ι θ a:=by
 obtain ⟨p1,p2⟩:=ah8 hpl
 obtain ⟨vs,e,h1,h2,h5⟩:=(I.obj p cs hp p1).1.cells p2
 obtain ⟨v,k1,k2,k3,_,k5⟩:=h5 c _ hc
 obtain ⟨A,c',e1,e2,e3,e4,e5,e6⟩:=apl I k3 k5 hr hv
 have hlen:((l.drop q).take m).length=m:=by rw [List.length_take,List.length_drop]; omega
 have hlt:c < cs.length:=(List.getElem?_eq_some_iff.1 hc).1
 have hp':(s.S.set j [])[p]?=some cs:=by rw [List.getElem?_set_ne hjp]; exact hp
 have fin:∀ M1:Mem,Inv w0 M0 X { s with S:=s.S.set j [] } w M1 ι θ→TInv { s with S:=s.S.set j [] } w M1 ι θ a→arr M1 (rep M1 t) t.size A ((l.drop q).take m) →
  ∃ M',Inv w0 M0 X { s with S:=(s.S.set j []).set p (cs.set c (.sl t .sh none ((l.drop q).take m))) } w M' ι θ∧TInv { s with S:=(s.S.set j []).set p (cs.set c (.sl t .sh none ((l.drop q).take m))) } w M' ι θ a:=by
  intro M1 I1 T1 har
  obtain ⟨o1,_⟩:=I1.obj p cs hp' p1
  obtain ⟨vs',en,g1,g2,g5⟩:=o1.cells p2
  have hb:∀ b r,cs.set c (.sl t .sh none ((l.drop q).take m))≠.blk b :: r:=by
   intro b r hcs
   have h0:(cs.set c (.sl t .sh none ((l.drop q).take m)))[0]?=some (.blk b):=by rw [hcs]; rfl
   by_cases hc0:c=0
   · subst hc0
     rw [List.getElem?_set_self hlt] at h0
     cases h0
   · rw [List.getElem?_set_ne hc0] at h0
     obtain ⟨_,_,_,hf,_⟩:=h5 0 _ h0
     exact hf
  have hne:cs.set c (.sl t .sh none ((l.drop q).take m))≠[]:=by
   intro h0
   have:=congrArg List.length h0
   rw [List.length_set] at this
   simp at this
   subst this
   simp at hlt
  obtain ⟨p3,p4⟩:=ah8 (aEt hne hb)
  have he:evo cs (cs.set c (.sl t .sh none ((l.drop q).take m))):=⟨fun t1 l1 h=>absurd h (hb _ _),fun h=>absurd h (by rw [p1]; simp)⟩
  refine ⟨M1,I1.setObj (i:=p) (w1:=w) hp' p1 rfl rfl rfl rfl (fun _ _=>rfl) (Shp.refl _) he (fun _=>⟨o1.none,?_⟩),T1.setObj I1 hp' p1 (w1:=w) (fun _ _=>rfl) (Shp.refl _) he⟩
  rw [p4]
  refine ⟨vs,e,h1,by rw [List.length_set]; exact h2,fun k x hx=>?_⟩
  by_cases hk:k=c
  · subst hk
    rw [List.getElem?_set_self hlt] at hx
    cases hx
    refine ⟨v,k1,k2,⟨A,c',by rw [hlen]; exact e1,by rw [hlen]; exact e2,e4,e5,har,nofun,nofun⟩,trivial,trivial⟩
  · rw [List.getElem?_set_ne (Ne.symm hk)] at hx
    obtain ⟨u,q1,q2,q3,q4,q5⟩:=g5 k x hx
    rw [h1] at g1
    cases g1
    exact ⟨u,q1,q2,q3,q4,abK (Shp.refl _) (Ext.set hp' he) x u q5⟩
 by_cases hl:l=[]
 · subst hl
   have hm:m=0:=by simp at e3; omega
   refine fin M (I.dropObj hr) (T.dropObj hr) fun hn=>absurd ?_ hn
   simp
 · obtain ⟨cur,en,us,rest,g1,g2,g3,_,_⟩:=atI I hr hl
   obtain ⟨M1,m1,m2,I1,T1⟩:=aAI (t:=t) I T hr hl g1 g2 (w1:=w) rfl rfl rfl rfl (fun _ _=>rfl) g1
   refine fin M1 I1 T1 fun hn=>?_
   have hm:m≠0:=by
    rintro rfl
    exact hn (by simp)
   obtain ⟨_,rfl,_⟩:=e6 (by omega)
   obtain ⟨c1,c2,c3,q1,q2,q3,_,_⟩:=ash g3 e3
   refine ahI q3 m1 (fun i u hi=>?_) hn
   refine m2 _ u ?_
   rw [q1,List.append_assoc,List.getElem?_append_right (by omega),q2,Nat.add_sub_cancel_left,List.getElem?_append_left (List.getElem?_eq_some_iff.1 hi).1]
   exact hi
theorem aJT {p:Nat×Nat} (h:fz1 s p=some s') (I:Inv w0 M0 X s w M ι θ) (T:TInv s w M ι θ a):s'.dl=s.dl∧∃ M',Inv w0 M0 X s' w M' ι θ∧TInv s' w M' ι θ a:=by
 unfold fz1 at h
 split at h
 case h_2=>cases h
 rename_i cs hp
 split at h
 · rename_i t j hc
   obtain ⟨hb,h⟩:=aaf h
   rw [Bool.and_eq_true,Bool.not_eq_true'] at hb
   obtain ⟨l,hl,rfl⟩:=Option.map_eq_some_iff.1 h
   have hne:j≠p.1:=fun e=>by have:=hb.2; rw [← Bool.not_eq_true,Nat.beq_eq] at this; exact this e
   have:=aF6 I T hp hc hb.1 hne (abg hl) (.inl ⟨rfl,rfl,rfl⟩)
   rw [List.drop_zero,List.take_length] at this
   exact ⟨rfl,this⟩
 · rename_i t q m j hc
   obtain ⟨hb,h⟩:=aaf h
   rw [Bool.and_eq_true,Bool.not_eq_true'] at hb
   obtain ⟨l,hl,rfl⟩:=Option.map_eq_some_iff.1 h
   have hne:j≠p.1:=fun e=>by have:=hb.2; rw [← Bool.not_eq_true,Nat.beq_eq] at this; exact this e
   exact ⟨rfl,aF6 I T hp hc hb.1 hne (abg hl) (.inr rfl)⟩
 · cases h
theorem aIn : ∀ {l:List (Nat×Nat)} {s s':St} {M:Mem},fzs l s=some s'→Inv w0 M0 X s w M ι θ→TInv s w M ι θ a→s'.dl=s.dl∧∃ M',Inv w0 M0 X s' w M' ι θ∧TInv s' w M' ι θ a
 | [],s,s',M,h,I,T=>by cases h; exact ⟨rfl,M,I,T⟩
 | p :: r,s,s',M,h,I,T=>by
   obtain ⟨s1,h1,h2⟩:=Option.bind_eq_some_iff.1 (show (fz1 s p).bind (fzs r)=some s' from h)
   obtain ⟨d1,M1,I1,T1⟩:=aJT h1 I T
   obtain ⟨d2,M2,I2,T2⟩:=aIn h2 I1 T1
   exact ⟨d2.trans d1,M2,I2,T2⟩
theorem ay_ {W:Norm} (h:norm W s=some s') (I:Inv w0 M0 X s w M ι θ) (T:TInv s w M ι θ a):∃ M' ι' θ',Inv w0 M0 X s' w M' ι' θ'∧TInv s' w M' ι' θ' a:=by
 obtain ⟨hd,h⟩:=aaf h
 have hd:s.dl=[]:=List.isEmpty_iff.1 hd
 obtain ⟨s0,h0,h⟩:=Option.bind_eq_some_iff.1 h
 obtain ⟨d0,M0',If,Tf⟩:=aIn h0 I T
 have hd:s0.dl=[]:=d0.trans hd
 obtain ⟨s1,h1,h2⟩:=Option.bind_eq_some_iff.1 h
 obtain ⟨ι0,I0,T0⟩:=aEi W.mv If Tf
 obtain ⟨M',ι',I1,T1⟩:=aF8 ((aEh _ _).trans hd) h1 I0 T0
 obtain ⟨θ',I2,T2⟩:=aHG (aF7 h1) h2 I1 T1
 exact ⟨M',ι',θ',I2,T2⟩
end
end Go.Proofs.Ytgmeimbamfggkaa.Den
