import Derived.Test.YtgmeimbamfggkaaDen24
namespace Go.Proofs.Ytgmeimbamfggkaa.Den
open Go
def ap7 (js:List Nat) (n i:Nat):Nat:=bif Nat.blt i js.length then js.getD i 0 else n+(i - js.length)
section
variable {w0 : World} {M0:Mem} {X:Fr} {s:St} {w:World} {M:Mem} {ι:Nat→Nat} {θ:Nat→Option Nat} {a:Act}
theorem aHl (I:Inv w0 M0 X s w M ι θ) (T:TInv s w M ι θ a) {js ts:List Nat} {toks:Nat} {S' os2:List Obj} {w':World} {M':Mem} {ι':Nat→Nat} {θ':Nat→Option Nat}
 (hj:js.Nodup) (hjs:∀ (k i:Nat),js[k]?=some i→i < s.S.length)
 (hos:∀ (k i:Nat) cs2,js[k]?=some i→os2[k]?=some cs2→∃ cs,s.S[i]?=some cs∧evo cs cs2)
 (J:Inv w M { X:=calX s ι θ js ts,n:=js.length,ι:=fun k=>ι (js.getD k 0),S:=os2 } (fin S' toks js.length) w' M' ι' θ') :
 ∃ ι2 θ2,Inv w0 M0 X { s with S:=layS s.S js (S'.map (back.go (ap7 js s.S.length) s.c)),O:=fun q=>(s.O q&&!ts.any (Nat.beq q))||(Nat.ble s.c q&&Nat.blt q (s.c+toks)),c:=s.c+toks } w' M' ι2 θ2 ∧
   TInv { s with S:=layS s.S js (S'.map (back.go (ap7 js s.S.length) s.c)),O:=fun q=>(s.O q&&!ts.any (Nat.beq q))||(Nat.ble s.c q&&Nat.blt q (s.c+toks)),c:=s.c+toks } w' M' ι2 θ2 a ∧
   (∀ i,i < s.S.length→ι2 i=ι i) ∧
   ∀ v x,rv M' ι' v x→tc w' M' θ' (fin S' toks js.length).O toks v x→aaI w' S' v x →
     rv M' ι2 (back (ap7 js s.S.length) s.c v) x ∧
     tc w' M' θ2 (fun q=>(s.O q&&!ts.any (Nat.beq q))||(Nat.ble s.c q&&Nat.blt q (s.c+toks))) (s.c+toks) (back (ap7 js s.S.length) s.c v) x ∧
     aaI w' (layS s.S js (S'.map (back.go (ap7 js s.S.length) s.c))) (back (ap7 js s.S.length) s.c v) x:=by
 have hS':js.length≤S'.length:=J.base.2.1
 have hι:∀ (k i:Nat),js[k]?=some i→ι' k=ι i:=fun k i h=>by
  rw [J.base.2.2.1 k (List.getElem?_eq_some_iff.1 h).1]
  show ι (js.getD k 0)=ι i
  rw [List.getD_eq_getElem?_getD,h]; rfl
 have XX:∀ g,calX s ι θ js ts g→X g∨w0.heap.size≤g:=by
  rintro g (⟨k,i,cs,h1,h2,h3,rfl⟩ | ⟨q,_,h2,h3⟩)
  · exact (I.obj i cs h2 h3).2
  · exact (I.tok q g h2 h3).2.1
 have nx1:∀ (i:Nat) cs,s.S[i]?=some cs→hol cs=false→i ∉ js→¬ calX s ι θ js ts (ι i):=by
  rintro i cs hi hh hn (⟨k,j,cs',h1,h2,h3,h4⟩ | ⟨q,_,h2,h3⟩)
  · have:=I.inj i j cs cs' hi h2 hh h3 h4
    subst this
    exact hn (List.mem_of_getElem? h1)
  · exact (I.tok q _ h2 h3).2.2 i cs hi hh rfl
 have nx2:∀ q g,s.O q=true→q ∉ ts→θ q=some g→¬ calX s ι θ js ts g:=by
  rintro q g hq hn hg (⟨k,j,cs,h1,h2,h3,h4⟩ | ⟨p,h1,h2,h3⟩)
  · exact (I.tok q g hq hg).2.2 j cs h2 h3 h4.symm
  · have:=I.one p q g h2 hq h3 hg
    subst this
    exact hn h1
 have live:∀ q,((s.O q&&!ts.any (Nat.beq q))||(Nat.ble s.c q&&Nat.blt q (s.c+toks)))=true→(q < s.c∧s.O q=true∧q ∉ ts)∨(s.c≤q∧q < s.c+toks):=by
  intro q h
  rw [Bool.or_eq_true,Bool.and_eq_true,Bool.and_eq_true] at h
  rcases h with ⟨h1,h2⟩ | ⟨h1,h2⟩
  · refine .inl ⟨I.tokc q h1,h1,fun hm=>?_⟩
    have:ts.any (Nat.beq q)=true:=List.any_eq_true.2 ⟨q,hm,by rw [Nat.beq_eq]⟩
    rw [this] at h2; cases h2
  · exact .inr ⟨Nat.le_of_ble_eq_true h1,by simpa using h2⟩
 let ι2:Nat→Nat:=fun i=>if i < s.S.length then ι i else ι' (js.length+(i - s.S.length))
 let θ2:Nat→Option Nat:=fun q=>if q < s.c then θ q else θ' (q - s.c)
 have ι2o:∀ i,i < s.S.length→ι2 i=ι i:=fun i hi=>if_pos hi
 have ι2n:∀ k,ι2 (s.S.length+k)=ι' (js.length+k):=fun k=>by
  show (if _ then _ else _)=_
  rw [if_neg (by omega),show s.S.length+k - s.S.length=k by omega]
 have θ2o:∀ q,q < s.c→θ2 q=θ q:=fun q hq=>if_pos hq
 have θ2n:∀ q,θ2 (s.c+q)=θ' q:=fun q=>by
  show (if _ then _ else _)=_
  rw [if_neg (by omega),show s.c+q - s.c=q by omega]
 generalize hSn:layS s.S js (S'.map (back.go (ap7 js s.S.length) s.c))=Sn
 obtain ⟨l1,l2,l3,l4⟩:=aCd js s.S (S'.map (back.go (ap7 js s.S.length) s.c)) hj (fun i hi=>by
  obtain ⟨k,hk⟩:=List.getElem?_of_mem hi
  exact hjs k i hk) (by rw [List.length_map]; exact hS')
 rw [hSn] at l1 l2 l3 l4
 rw [List.length_map] at l1
 have new:∀ (i:Nat) c1,Sn[i]?=some c1→(∃ (k:Nat) (cs':Obj),js[k]?=some i∧i < s.S.length∧S'[k]?=some cs'∧c1=back.go (ap7 js s.S.length) s.c cs')∨(i < s.S.length∧i ∉ js∧s.S[i]?=some c1) ∨
  ∃ (k:Nat) (cs':Obj),i=s.S.length+k∧S'[js.length+k]?=some cs'∧c1=back.go (ap7 js s.S.length) s.c cs':=by
  intro i c1 hi
  by_cases hlt:i < s.S.length
  · by_cases hm:i∈js
    · obtain ⟨k,hk⟩:=List.getElem?_of_mem hm
      rw [l2 k i hk,List.getElem?_map] at hi
      obtain ⟨cs',h1,rfl⟩:=Option.map_eq_some_iff.1 hi
      exact .inl ⟨k,cs',hk,hlt,h1,rfl⟩
    · rw [l3 i hlt hm] at hi
      exact .inr (.inl ⟨hlt,hm,hi⟩)
  · obtain ⟨k,rfl⟩:∃ k,i=s.S.length+k:=⟨i - s.S.length,by omega⟩
    rw [l4 k,List.getElem?_map] at hi
    obtain ⟨cs',h1,rfl⟩:=Option.map_eq_some_iff.1 hi
    exact .inr (.inr ⟨k,cs',rfl,h1,rfl⟩)
 have evoJ:∀ (k i:Nat) cs',js[k]?=some i→S'[k]?=some cs'→∃ cs,s.S[i]?=some cs∧evo cs cs':=by
  intro k i cs' hk h1
  obtain ⟨c0,e0,e1⟩:=J.base.2.2.2 k cs' (List.getElem?_eq_some_iff.1 hk).1 h1
  obtain ⟨cs,f0,f1⟩:=hos k i c0 hk e0
  exact ⟨cs,f0,f1.trans e1⟩
 have hext:Ext s.S Sn:=by
  refine ⟨by rw [l1]; omega,fun i cs cs1 h1 h2=>?_⟩
  rcases new i cs1 h2 with ⟨k,cs',hk,_,hk',rfl⟩ | ⟨_,_,h⟩ | ⟨k,_,rfl,_,_⟩
  · obtain ⟨cs0,e0,e1⟩:=evoJ k i cs' hk hk'
    rw [h1] at e0
    cases e0
    exact e1.trans (ah2 (auY cs'))
  · rw [h1] at h; cases h; exact evo.refl _
  · have:=(List.getElem?_eq_some_iff.1 h1).1; omega
 have hF:aFy w' ι' ι2 S' Sn (ap7 js s.S.length):=by
  intro i hi
  have look:∀ j:Nat,(Sn[j]?=(S'.map (back.go (ap7 js s.S.length) s.c))[i]?)→∀ r v,lnk w' S'[i]? r v→lnk w' Sn[j]? r v:=by
   intro j hj' r v hl
   refine asz (Shp.refl _) (fun cs1 h1=>?_) r v hl
   rw [hj',List.getElem?_map] at h1
   obtain ⟨cs',h2,rfl⟩:=Option.map_eq_some_iff.1 h1
   exact ⟨cs',h2,ah2 (auY cs')⟩
  rw [l1]
  unfold ap7
  by_cases hlt:i < js.length
  · have e:js[i]?=some js[i]:=List.getElem?_eq_getElem hlt
    have hd:js.getD i 0=js[i]:=by rw [List.getD_eq_getElem?_getD,e]; rfl
    rw [show Nat.blt i js.length=true by simpa using hlt]
    simp only [cond_true]
    rw [hd,ι2o _ (hjs i _ e),hι i _ e]
    exact ⟨rfl,by have:=hjs i _ e; omega,look _ (l2 i _ e)⟩
  · rw [show Nat.blt i js.length=false by rw [← Bool.not_eq_true]; simpa using hlt]
    simp only [cond_false]
    have:=l4 (i - js.length)
    rw [show js.length+(i - js.length)=i by omega] at this
    rw [ι2n,show js.length+(i - js.length)=i by omega]
    exact ⟨rfl,by omega,look _ this⟩
 have ht:∀ q,q < toks→θ2 (s.c+q)=θ' q∧(((s.O (s.c+q)&&!ts.any (Nat.beq (s.c+q)))||(Nat.ble s.c (s.c+q)&&Nat.blt (s.c+q) (s.c+toks)))=true→(fin S' toks js.length).O q=true):=by
  intro q hq
  exact ⟨θ2n q,fun _=>by show Nat.blt q toks=true; simpa using hq⟩
 have bk:∀ v x,rv M' ι' v x→tc w' M' θ' (fin S' toks js.length).O toks v x→aaI w' S' v x →
        rv M' ι2 (back (ap7 js s.S.length) s.c v) x ∧
        tc w' M' θ2 (fun q=>(s.O q&&!ts.any (Nat.beq q))||(Nat.ble s.c q&&Nat.blt q (s.c+toks))) (s.c+toks) (back (ap7 js s.S.length) s.c v) x ∧
        aaI w' Sn (back (ap7 js s.S.length) s.c v) x:=fun v x h1 h2 h3=>by
  obtain ⟨k1,k2⟩:=aDU (d:=s.c) hF v x h3 h1
  exact ⟨k1,aFD (θ:=θ') (O:=(fin S' toks js.length).O) (c:=toks) ht (Nat.le_refl _) v x h2,k2⟩
 have old:∀ v x,rv M ι v x→tc w M θ s.O s.c v x→aaI w s.S v x →
        rv M' ι2 v x∧tc w' M' θ2 (fun q=>(s.O q&&!ts.any (Nat.beq q))||(Nat.ble s.c q&&Nat.blt q (s.c+toks))) (s.c+toks) v x ∧
        aaI w' Sn v x:=by
  intro v x h1 h2 h3
  refine ⟨asi ι2o v x h3 (auQ J.memle ι v x h1),aIC (by omega) (fun q hq hO=>?_) v x h2,abK J.shp hext v x h3⟩
  rcases live q hO with ⟨_,k2,k3⟩ | ⟨k1,_⟩
  · refine ⟨k2,fun g hg=>⟨(θ2o q hq).trans hg,?_⟩⟩
    exact J.keep g (I.tok q g k2 hg).1 (nx2 q g k2 k3 hg)
  · omega
 have newObj:∀ (k:Nat) cs',S'[k]?=some cs'→hol cs'=false→objOk w' M' ι2 θ2 (fun q=>(s.O q&&!ts.any (Nat.beq q))||(Nat.ble s.c q&&Nat.blt q (s.c+toks))) (s.c+toks) Sn (ι' k) (back.go (ap7 js s.S.length) s.c cs')∧(X (ι' k)∨w0.heap.size≤ι' k):=by
  intro k cs' h1 hh
  obtain ⟨g1,g4⟩:=J.obj k cs' h1 hh
  obtain ⟨q1,q2⟩:=ayl (F:=ap7 js s.S.length) (d:=s.c) cs'
  refine ⟨g1.map rfl (Mem.le_refl _) (fun _=>rfl) (auY cs').1 q1 fun j x hx=>?_,?_⟩
  · obtain ⟨y,k1,rfl⟩:=q2 j x hx
    exact ⟨y,k1,fun v u3 u4 u5=>bk y v u3 u4 u5⟩
  · rcases g4 with g4 | g4
    · exact XX _ g4
    · exact .inr (Nat.le_trans I.size g4)
 have hol':∀ cs':Obj,hol (back.go (ap7 js s.S.length) s.c cs')=hol cs':=fun cs'=>(auY cs').2.1
 have liveOld:∀ (i:Nat) c1,i < s.S.length→Sn[i]?=some c1→hol c1=false→∃ cs,s.S[i]?=some cs∧hol cs=false∧(i∈js→∃ (k:Nat) (cs':Obj),js[k]?=some i∧S'[k]?=some cs'∧hol cs'=false):=by
  intro i c1 hlt hi hh
  rcases new i c1 hi with ⟨k,cs',hk,_,hk',rfl⟩ | ⟨_,hm,h⟩ | ⟨k,_,rfl,_,_⟩
  · obtain ⟨cs,e0,e1⟩:=evoJ k i cs' hk hk'
    rw [hol'] at hh
    refine ⟨cs,e0,?_,fun _=>⟨k,cs',hk,hk',hh⟩⟩
    cases hc:hol cs with
    | false=>rfl
    | true=>rw [e1.2 hc] at hh; cases hh
  · exact ⟨c1,h,hh,fun h'=>absurd h' hm⟩
  · omega
 have liveNew:∀ (k:Nat) c1,Sn[s.S.length+k]?=some c1→hol c1=false→∃ cs',S'[js.length+k]?=some cs'∧hol cs'=false:=by
  intro k c1 hi hh
  rw [l4 k,List.getElem?_map] at hi
  obtain ⟨cs',h1,rfl⟩:=Option.map_eq_some_iff.1 hi
  rw [hol'] at hh
  exact ⟨cs',h1,hh⟩
 refine ⟨ι2,θ2,⟨J.os.trans I.os,J.tape.trans I.tape,J.output.trans I.output,Nat.le_trans I.size J.size,Mem.le_trans I.memle J.memle,J.mem,?_,?_,?_,?_,?_,?_,?_,I.shp.trans J.shp⟩,⟨T.n,T.d.trans (List.map_congr_left fun i hi=>by rw [ι2o i (T.dlt i hi)]),fun i hi=>by have:=T.dlt i hi; show i < Sn.length; rw [l1]; omega,fun t=>?_⟩,ι2o,bk⟩
 · intro b hb hx
   obtain ⟨k1,k2⟩:=I.keep b hb hx
   have hnx:¬ calX s ι θ js ts b:=fun h=>by
    rcases XX b h with h | h
    · exact hx h
    · omega
   obtain ⟨e1,e2⟩:=J.keep b (Nat.lt_of_lt_of_le hb I.size) hnx
   exact ⟨e1.trans k1,fun i=>(e2 i).trans (k2 i)⟩
 · intro i c1 hi hh
   rcases new i c1 hi with ⟨k,cs',hk,hlt,hk',rfl⟩ | ⟨hlt,hm,h⟩ | ⟨k,cs',rfl,hk',rfl⟩
   · have:=newObj k cs' hk' (by rw [← hol']; exact hh)
     rw [hι k i hk,← ι2o i hlt] at this
     exact this
   · obtain ⟨g1,g4⟩:=I.obj i c1 h hh
     obtain ⟨e1,e2⟩:=J.keep (ι i) g1.lt (nx1 i c1 h hh hm)
     show objOk _ _ ι2 θ2 _ _ Sn (ι2 i) c1∧(X (ι2 i)∨w0.heap.size≤ι2 i)
     rw [ι2o i hlt]
     exact ⟨g1.same e1 J.memle e2 old,g4⟩
   · have:=newObj _ cs' hk' (by rw [← hol']; exact hh)
     rw [← ι2n k] at this
     exact this
 · intro i j c1 c2 hi hjj h1 h2 e
   have hi':i < Sn.length:=(List.getElem?_eq_some_iff.1 hi).1
   have hj':j < Sn.length:=(List.getElem?_eq_some_iff.1 hjj).1
   have mixed:∀ (i:Nat) c1 k c2,i < s.S.length→Sn[i]?=some c1→hol c1=false→Sn[s.S.length+k]?=some c2→hol c2=false→ι i=ι' (js.length+k)→False:=by
    intro i c1 k c2 hlt hi hh hk hh2 e
    obtain ⟨cs2,hS2,hh2'⟩:=liveNew k c2 hk hh2
    obtain ⟨cs,hS,hhc,hin⟩:=liveOld i c1 hlt hi hh
    obtain ⟨_,g4⟩:=J.obj (js.length+k) cs2 hS2 hh2'
    by_cases hm:i∈js
    · obtain ⟨k',cs',hk',hkS,hkh⟩:=hin hm
      rw [← hι k' i hk'] at e
      have:=J.inj k' (js.length+k) cs' cs2 hkS hS2 hkh hh2' e
      have:=(List.getElem?_eq_some_iff.1 hk').1
      omega
    · rcases g4 with g4 | g4
      · have g4:calX s ι θ js ts (ι' (js.length+k)):=g4
        rw [← e] at g4; exact nx1 i cs hS hhc hm g4
      · have:=(I.obj i cs hS hhc).1.lt; omega
   by_cases k1:i < s.S.length <;> by_cases k2:j < s.S.length
   · have e:ι2 i=ι2 j:=e
     rw [ι2o i k1,ι2o j k2] at e
     obtain ⟨d1,e1,f1,_⟩:=liveOld i c1 k1 hi h1
     obtain ⟨d2,e2,f2,_⟩:=liveOld j c2 k2 hjj h2
     exact I.inj i j d1 d2 e1 e2 f1 f2 e
   · obtain ⟨k,rfl⟩:∃ k,j=s.S.length+k:=⟨j - s.S.length,by omega⟩
     have e:ι2 i=ι2 (s.S.length+k):=e
     rw [ι2o i k1,ι2n] at e
     exact (mixed i c1 k c2 k1 hi h1 hjj h2 e).elim
   · obtain ⟨k,rfl⟩:∃ k,i=s.S.length+k:=⟨i - s.S.length,by omega⟩
     have e:ι2 (s.S.length+k)=ι2 j:=e
     rw [ι2o j k2,ι2n] at e
     exact (mixed j c2 k c1 k2 hjj h2 hi h1 e.symm).elim
   · obtain ⟨k,rfl⟩:∃ k,i=s.S.length+k:=⟨i - s.S.length,by omega⟩
     obtain ⟨m,rfl⟩:∃ k,j=s.S.length+k:=⟨j - s.S.length,by omega⟩
     have e:ι2 (s.S.length+k)=ι2 (s.S.length+m):=e
     rw [ι2n,ι2n] at e
     obtain ⟨d1,e1,f1⟩:=liveNew k c1 hi h1
     obtain ⟨d2,e2,f2⟩:=liveNew m c2 hjj h2
     have:=J.inj _ _ d1 d2 e1 e2 f1 f2 e
     omega
 · intro q g hq hg
   have hq:=live q hq
   rcases hq with ⟨k1,k2,k3⟩ | ⟨k1,k2⟩
   · have hg:θ q=some g:=(θ2o q k1).symm.trans hg
     obtain ⟨t1,t2,t3⟩:=I.tok q g k2 hg
     refine ⟨Nat.lt_of_lt_of_le t1 J.size,t2,fun i c1 hi hh=>?_⟩
     show ι2 i≠g
     by_cases h1:i < s.S.length
     · obtain ⟨cs,hS,hhc,_⟩:=liveOld i c1 h1 hi hh
       rw [ι2o i h1]; exact t3 i cs hS hhc
     · obtain ⟨k,rfl⟩:∃ k,i=s.S.length+k:=⟨i - s.S.length,by omega⟩
       obtain ⟨cs',hS,hhc⟩:=liveNew k c1 hi hh
       rw [ι2n]
       intro e
       rcases (J.obj _ cs' hS hhc).2 with g4 | g4
       · have g4:calX s ι θ js ts (ι' (js.length+k)):=g4
         rw [e] at g4; exact nx2 q g k2 k3 hg g4
       · omega
   · obtain ⟨p,rfl⟩:∃ p,q=s.c+p:=⟨q - s.c,by omega⟩
     have hg:θ' p=some g:=(θ2n p).symm.trans hg
     obtain ⟨t1,t2,t3⟩:=J.tok p g (by show Nat.blt p toks=true; simp; omega) hg
     refine ⟨t1,?_,fun i c1 hi hh=>?_⟩
     · rcases t2 with t2 | t2
       · exact XX g t2
       · exact .inr (Nat.le_trans I.size t2)
     · show ι2 i≠g
       by_cases h1:i < s.S.length
       · obtain ⟨cs,hS,hhc,hin⟩:=liveOld i c1 h1 hi hh
         rw [ι2o i h1]
         by_cases hm:i∈js
         · obtain ⟨k',cs',hk',hkS,hkh⟩:=hin hm
           rw [← hι k' i hk']
           exact t3 k' cs' hkS hkh
         · intro e
           rcases t2 with t2 | t2
           · have t2:calX s ι θ js ts g:=t2
             rw [← e] at t2; exact nx1 i cs hS hhc hm t2
           · have:=(I.obj i cs hS hhc).1.lt; omega
       · obtain ⟨k,rfl⟩:∃ k,i=s.S.length+k:=⟨i - s.S.length,by omega⟩
         obtain ⟨cs',hS,hhc⟩:=liveNew k c1 hi hh
         rw [ι2n]
         exact t3 _ cs' hS hhc
 · intro q hq
   rcases live q hq with ⟨k1,_⟩ | ⟨_,k2⟩
   · show q < s.c+toks; omega
   · exact k2
 · intro p q g hp hq hpg hqg
   have cross:∀ p q,(p < s.c∧s.O p=true∧p ∉ ts)→(s.c≤q∧q < s.c+toks)→θ2 p=some g→θ2 q=some g→False:=by
    rintro p q ⟨a1,a2,a3⟩ ⟨b1,b2⟩ hpg hqg
    rw [θ2o p a1] at hpg
    obtain ⟨q',rfl⟩:∃ q',q=s.c+q':=⟨q - s.c,by omega⟩
    rw [θ2n] at hqg
    obtain ⟨_,t2,_⟩:=J.tok q' g (by show Nat.blt q' toks=true; simp; omega) hqg
    rcases t2 with t2 | t2
    · exact nx2 p g a2 a3 hpg t2
    · have:=(I.tok p g a2 hpg).1; omega
   rcases live p hp with hp | hp <;> rcases live q hq with hq | hq
   · rw [θ2o p hp.1] at hpg
     rw [θ2o q hq.1] at hqg
     exact I.one p q g hp.2.1 hq.2.1 hpg hqg
   · exact (cross p q hp hq hpg hqg).elim
   · exact (cross q p hq hp hqg hpg).elim
   · obtain ⟨p',rfl⟩:∃ q',p=s.c+q':=⟨p - s.c,by omega⟩
     obtain ⟨q',rfl⟩:∃ q',q=s.c+q':=⟨q - s.c,by omega⟩
     rw [θ2n] at hpg hqg
     have:=J.one p' q' g (by show Nat.blt p' toks=true; simp; omega) (by show Nat.blt q' toks=true; simp; omega) hpg hqg
     rw [this]
 · refine ⟨I.base.1,?_,fun i hi=>?_,fun i c1 hi hc1=>?_⟩
   · show X.n≤Sn.length
     have:=I.base.2.1
     rw [l1]; omega
   · show ι2 i=X.ι i
     rw [ι2o i (Nat.lt_of_lt_of_le hi I.base.2.1)]
     exact I.base.2.2.1 i hi
   · have hil:=Nat.lt_of_lt_of_le hi I.base.2.1
     obtain ⟨c0,e0,e1⟩:=I.base.2.2.2 i _ hi (List.getElem?_eq_getElem hil)
     exact ⟨c0,e0,e1.trans (hext.2 i _ c1 (List.getElem?_eq_getElem hil) hc1)⟩
 · obtain ⟨h1,h2,h3⟩:=T.v t
   exact old _ _ h1 h2 h3
end
end Go.Proofs.Ytgmeimbamfggkaa.Den
