import Derived.Test.YtgmeimbamfggkaaDen8
namespace Go.Proofs.Ytgmeimbamfggkaa.Den
open Go
set_option linter.unusedVariables false
set_option linter.unusedSimpArgs false
section
variable {w0 : World} {M0:Mem} {X:Fr} {s:St} {w:World} {M:Mem} {ι:Nat→Nat} {θ:Nat→Option Nat} {a:Act}
theorem am9 {w w1:World} {b:Nat} (h:w1.heap[b]?=w.heap[b]?) (i:Nat):w1.cell? ⟨b,i,none⟩=w.cell? ⟨b,i,none⟩:=by
 unfold World.cell?
 rw [h]
theorem afu (w:World) (o:Go.Obj):(w.alloc o).heap.size=w.heap.size+1:=by
 show (w.heap.push o).size=_
 simp
def fits (w:World) (M:Mem) (ι:Nat→Nat) (θ:Nat→Option Nat) (O:Nat→Bool) (c:Nat) (S:List Obj) (cs:List TV) (vs:Array Value):Prop :=
 vs.size=cs.length∧∀ (j:Nat) x,cs[j]?=some x→∃ v,vs[j]?=some v∧v.oneCell'=true∧rv M ι x v∧tc w M θ O c x v∧aaI w S x v
def aJQ (w:World) (M:Mem) (ι:Nat→Nat) (θ:Nat→Option Nat) (O:Nat→Bool) (c:Nat) (S:List Obj) (cs:List TV) (vs:Array Value):Prop :=
 cs.length≤vs.size∧∀ (j:Nat) x,cs[j]?=some x→∃ v,vs[j]?=some v∧v.oneCell'=true∧rv M ι x v∧tc w M θ O c x v∧aaI w S x v
theorem aB8 {O:Nat→Bool} {c:Nat} {S:List Obj} {cs:List TV} {vs:List Value} (h:aiO M ι cs vs) (hf:∀ y∈cs,flat y=true) (h1:∀ v∈vs,v.oneCell'=true):fits w M ι θ O c S cs vs.toArray:=by
 refine ⟨by simpa using h.1,fun j x hx=>?_⟩
 obtain ⟨v,k1,k2⟩:=h.2 j x hx
 have hfx:=hf x (List.mem_of_getElem? hx)
 refine ⟨v,by simpa using k1,h1 v (List.mem_of_getElem? k1),k2,?_,?_⟩
 · cases x <;> simp [flat] at hfx <;> (try trivial)
   rename_i t f nl l
   cases f <;> simp at hfx <;> trivial
 · cases x <;> simp [flat] at hfx <;> trivial
theorem aso {α:Type} {f:Nat→α} {n i:Nat} {v:α} (h:i < n):upd f n v i=f i:=by
 unfold upd
 rw [show Nat.beq i n=false by rw [← Bool.not_eq_true,Nat.beq_eq]; omega]
 rfl
theorem aiL {α:Type} {f:Nat→α} {n:Nat} {v:α}:upd f n v n=v:=by
 unfold upd
 rw [show Nat.beq n n=true by rw [Nat.beq_eq]]
 rfl
theorem Inv.newObj (I:Inv w0 M0 X s w M ι θ) {w1:World} {cs:Obj} {g:Nat}
 (hos:w1.os=w.os) (htape:w1.tape=w.tape) (hout:w1.output=w.output) (hsz:w.heap.size≤w1.heap.size) (hsh:Shp w w1)
 (hold:∀ b,b < w.heap.size→(hol cs=false→b≠g)→w1.heap[b]?=w.heap[b]?)
 (hg:hol cs=false→(∀ (i:Nat) c,s.S[i]?=some c→hol c=false→ι i≠g)∧(∀ q,s.O q=true→θ q≠some g)∧(X g∨w0.heap.size≤g))
 (hc:hol cs=false→objOk w1 M (upd ι s.S.length g) θ s.O s.c (s.S++[cs]) g cs) :
 Inv w0 M0 X { s with S:=s.S++[cs] } w1 M (upd ι s.S.length g) θ:=by
 have hι:∀ i,i < s.S.length→upd ι s.S.length g i=ι i:=fun i hi=>aso hi
 have htc:∀ x v,tc w M θ s.O s.c x v→tc w1 M θ s.O s.c x v:=fun x v h=>amb (fun _ h=>h) (Nat.le_refl _) (fun q b hq hb=>⟨hold b (I.tok q b hq hb).1 (fun hh e=>(hg hh).2.1 q hq (e ▸ hb)),fun _=>rfl⟩) x v h
 have split:∀ (i:Nat) c1,(s.S++[cs])[i]?=some c1→(i < s.S.length∧s.S[i]?=some c1)∨(i=s.S.length∧c1=cs):=by
  intro i c1 h
  by_cases hi:i < s.S.length
  · rw [List.getElem?_append_left hi] at h; exact .inl ⟨hi,h⟩
  · have hi':i=s.S.length:=by
        have:=(List.getElem?_eq_some_iff.1 h).1
        simp at this; omega
    subst hi'
    simp at h
    exact .inr ⟨rfl,h.symm⟩
 refine ⟨hos.trans I.os,htape.trans I.tape,hout.trans I.output,Nat.le_trans I.size hsz,I.memle,?_,?_,?_,?_,?_,I.tokc,I.one,?_,I.shp.trans hsh⟩
 · intro b i v h
   rw [am9 (hold b (aCx I.mem h) fun hh e=>by rw [e,(hc hh).none] at h; cases h)]; exact I.mem b i v h
 · intro b hb hx
   obtain ⟨h1,h2⟩:=I.keep b hb hx
   refine ⟨(hold b (Nat.lt_of_lt_of_le hb I.size) fun hh e=>?_).trans h1,h2⟩
   subst e
   rcases (hg hh).2.2 with h | h
   · exact hx h
   · omega
 · intro i cs' hcs hh
   rcases split i cs' hcs with ⟨hi,hcs⟩ | ⟨rfl,rfl⟩
   · obtain ⟨h1,h2⟩:=I.obj i cs' hcs hh
     rw [hι i hi]
     exact ⟨h1.same (hold _ h1.lt fun hh' e=>(hg hh').1 i cs' hcs hh e) (Mem.le_refl _) (fun _=>rfl) fun x v k3 k4 k5=>⟨asi hι x v k5 k3,htc x v k4,abK hsh (Ext.more _ _) x v k5⟩,h2⟩
   · rw [aiL]
     exact ⟨hc hh,(hg hh).2.2⟩
 · intro i j c1 c2 hi hj h1 h2 hij
   rcases split i c1 hi with ⟨hil,hi'⟩ | ⟨e1,e2⟩ <;> rcases split j c2 hj with ⟨hjl,hj'⟩ | ⟨e3,e4⟩
   · rw [hι i hil,hι j hjl] at hij; exact I.inj i j c1 c2 hi' hj' h1 h2 hij
   · rw [e3,hι i hil,aiL] at hij
     rw [e4] at h2
     exact absurd hij ((hg h2).1 i c1 hi' h1)
   · rw [e1,hι j hjl,aiL] at hij
     rw [e2] at h1
     exact absurd hij.symm ((hg h1).1 j c2 hj' h2)
   · omega
 · intro q b hq hb
   obtain ⟨h1,h2,h3⟩:=I.tok q b hq hb
   refine ⟨Nat.lt_of_lt_of_le h1 hsz,h2,fun i c1 hi hh=>?_⟩
   rcases split i c1 hi with ⟨hil,hi⟩ | ⟨rfl,rfl⟩
   · rw [hι i hil]; exact h3 i c1 hi hh
   · rw [aiL]; exact fun e=>(hg hh).2.1 q hq (e ▸ hb)
 · refine ⟨I.base.1,?_,fun i hi=>(hι i (Nat.lt_of_lt_of_le hi I.base.2.1)).trans (I.base.2.2.1 i hi),fun i c1 hi hc1=>?_⟩
   · show X.n≤(s.S++[cs]).length
     have:=I.base.2.1
     simp; omega
   · have hil:=Nat.lt_of_lt_of_le hi I.base.2.1
     have hc1:(s.S++[cs])[i]?=some c1:=hc1
     rw [List.getElem?_append_left hil] at hc1
     exact I.base.2.2.2 i c1 hi hc1
theorem TInv.newObj (T:TInv s w M ι θ a) (I:Inv w0 M0 X s w M ι θ) {w1:World} {g:Nat} {cs:List TV} (hsh:Shp w w1) (hold:∀ b,b < w.heap.size→(hol cs=false→b≠g)→w1.heap[b]?=w.heap[b]?)
 (hg:hol cs=false→(∀ (i:Nat) c,s.S[i]?=some c→hol c=false→ι i≠g)∧(∀ q,s.O q=true→θ q≠some g)∧(X g∨w0.heap.size≤g)) :
 TInv { s with S:=s.S++[cs] } w1 M (upd ι s.S.length g) θ a where
 n:=T.n
 d:=T.d.trans (List.map_congr_left fun i hi=>by rw [aso (T.dlt i hi)])
 dlt:=fun i hi=>by have:=T.dlt i hi; show i < (s.S++[cs]).length; rw [List.length_append]; omega
 v:=fun t=>by
    obtain ⟨h1,h2,h3⟩:=T.v t
    exact ⟨asi (fun i hi=>aso hi) _ _ h3 h1,amb (fun _ h=>h) (Nat.le_refl _) (fun q b hq hb=>⟨hold b (I.tok q b hq hb).1 (fun hh e=>(hg hh).2.1 q hq (e ▸ hb)),fun _=>rfl⟩) _ _ h2,abK hsh (Ext.more _ _) _ _ h3⟩
theorem ahn (I:Inv w0 M0 X s w M ι θ):(∀ (i:Nat) c,s.S[i]?=some c→hol c=false→ι i≠w.heap.size)∧(∀ q,s.O q=true→θ q≠some w.heap.size)∧(X w.heap.size∨w0.heap.size≤w.heap.size) :=
 ⟨fun i c h1 h2=>Nat.ne_of_lt (I.obj i c h1 h2).1.lt,fun q hq e=>Nat.lt_irrefl _ (I.tok q _ hq e).1,.inr I.size⟩
theorem ah5 (I:Inv w0 M0 X s w M ι θ) (k:Nat):M w.heap.size k=none:=by
 cases hm:M w.heap.size k with
 | none=>rfl
 | some v=>exact absurd (aCx I.mem hm) (Nat.lt_irrefl _)
theorem Inv.alloc (I:Inv w0 M0 X s w M ι θ) {vs:Array Value} {e:TypeId} {cs:List TV} (hb:ahG cs=none) (hc:fits w M ι θ s.O s.c s.S cs vs) :
 Inv w0 M0 X { s with S:=s.S++[cs] } (w.alloc (.cells vs e)) M (upd ι s.S.length w.heap.size) θ:=by
 have hold:∀ b,b < w.heap.size→(w.alloc (.cells vs e)).heap[b]?=w.heap[b]?:=fun b hb=>heap_alloc_old w _ hb
 have hι:∀ i,i < s.S.length→upd ι s.S.length w.heap.size i=ι i:=fun i hi=>aso hi
 refine I.newObj rfl rfl rfl (by rw [afu]; omega) (Shp.old hold) (fun b hb _=>hold b hb) (fun _=>ahn I) fun _=>⟨ah5 I,?_⟩
 rw [hb]
 refine ⟨vs,e,heap_alloc_new w _,Nat.le_of_eq hc.1.symm,fun j x hx=>?_⟩
 obtain ⟨v,k1,k2,k3,k4,k5⟩:=hc.2 j x hx
 exact ⟨v,k1,k2,asi hι x v k5 k3,amb (fun _ h=>h) (Nat.le_refl _) (fun q g hq hg=>⟨hold g (I.tok q g hq hg).1,fun _=>rfl⟩) x v k4,abK (Shp.old hold) (Ext.more _ _) x v k5⟩
theorem TInv.alloc (T:TInv s w M ι θ a) (I:Inv w0 M0 X s w M ι θ) (o:Go.Obj) (cs:List TV) :
 TInv { s with S:=s.S++[cs] } (w.alloc o) M (upd ι s.S.length w.heap.size) θ a :=
 T.newObj I (Shp.old fun b hb=>heap_alloc_old w _ hb) (fun b hb _=>heap_alloc_old w _ hb) fun _=>ahn I
theorem Inv.setObj (I:Inv w0 M0 X s w M ι θ) {i:Nat} {cs cs':List TV} (hi:s.S[i]?=some cs) (hh:hol cs=false) {w1:World}
 (hos:w1.os=w.os) (htape:w1.tape=w.tape) (hout:w1.output=w.output) (hsz:w1.heap.size=w.heap.size) (hold:∀ b,b≠ι i→w1.heap[b]?=w.heap[b]?) (hsh:Shp w w1)
 (he:evo cs cs') (hc:hol cs'=false→objOk w1 M ι θ s.O s.c (s.S.set i cs') (ι i) cs') :
 Inv w0 M0 X { s with S:=s.S.set i cs' } w1 M ι θ:=by
 have hil:i < s.S.length:=(List.getElem?_eq_some_iff.1 hi).1
 obtain ⟨g1,g4⟩:=I.obj i cs hi hh
 have hext:Ext s.S (s.S.set i cs'):=Ext.set hi he
 have htc:∀ x v,tc w M θ s.O s.c x v→tc w1 M θ s.O s.c x v:=fun x v h=>amb (fun _ h=>h) (Nat.le_refl _) (fun q g hq hg=>⟨hold g (fun e=>(I.tok q g hq hg).2.2 i cs hi hh e.symm),fun _=>rfl⟩) x v h
 have split:∀ (j:Nat) c1,(s.S.set i cs')[j]?=some c1→(j=i∧c1=cs')∨(j≠i∧s.S[j]?=some c1):=by
  intro j c1 h
  by_cases hj:j=i
  · subst hj
    rw [List.getElem?_set_self hil] at h
    cases h; exact .inl ⟨rfl,rfl⟩
  · rw [List.getElem?_set_ne (Ne.symm hj)] at h; exact .inr ⟨hj,h⟩
 refine ⟨hos.trans I.os,htape.trans I.tape,hout.trans I.output,by rw [hsz]; exact I.size,I.memle,?_,?_,?_,?_,?_,I.tokc,I.one,?_,I.shp.trans hsh⟩
 · intro b j v h
   have hb:b≠ι i:=by rintro rfl; rw [g1.none j] at h; cases h
   rw [am9 (hold b hb)]; exact I.mem b j v h
 · intro b hb hx
   obtain ⟨h1,h2⟩:=I.keep b hb hx
   have hne:b≠ι i:=by
    rintro rfl
    rcases g4 with g4 | g4
    · exact hx g4
    · omega
   exact ⟨(hold b hne).trans h1,h2⟩
 · intro j cs1 hj hh1
   rcases split j cs1 hj with ⟨rfl,rfl⟩ | ⟨hji,hj⟩
   · exact ⟨hc hh1,g4⟩
   · obtain ⟨h1,h4⟩:=I.obj j cs1 hj hh1
     exact ⟨h1.same (hold _ (fun e=>hji (I.inj j i cs1 cs hj hi hh1 hh e))) (Mem.le_refl _) (fun _=>rfl) fun x v k3 k4 k5=>⟨k3,htc x v k4,abK hsh hext x v k5⟩,h4⟩
 · intro p q c1 c2 hp hq h1 h2 e
   have lv:∀ (j:Nat) c1,(s.S.set i cs')[j]?=some c1→hol c1=false→∃ c0,s.S[j]?=some c0∧hol c0=false:=by
    intro j c1 hj h1
    rcases split j c1 hj with ⟨rfl,_⟩ | ⟨_,hj⟩
    · exact ⟨cs,hi,hh⟩
    · exact ⟨c1,hj,h1⟩
   obtain ⟨d1,e1,f1⟩:=lv p c1 hp h1
   obtain ⟨d2,e2,f2⟩:=lv q c2 hq h2
   exact I.inj p q d1 d2 e1 e2 f1 f2 e
 · intro q g hq hg
   obtain ⟨h1,h2,h3⟩:=I.tok q g hq hg
   refine ⟨by rw [hsz]; exact h1,h2,fun k c1 hk h1=>?_⟩
   rcases split k c1 hk with ⟨rfl,_⟩ | ⟨_,hk⟩
   · exact h3 k cs hi hh
   · exact h3 k c1 hk h1
 · refine ⟨I.base.1,by show X.n≤(s.S.set i cs').length; rw [List.length_set]; exact I.base.2.1,I.base.2.2.1,fun k c1 hk hc1=>?_⟩
   rcases split k c1 hc1 with ⟨rfl,rfl⟩ | ⟨_,hc1⟩
   · obtain ⟨c0,e0,e1⟩:=I.base.2.2.2 k cs hk hi
     exact ⟨c0,e0,e1.trans he⟩
   · exact I.base.2.2.2 k c1 hk hc1
theorem TInv.setObj (T:TInv s w M ι θ a) (I:Inv w0 M0 X s w M ι θ) {i:Nat} {cs cs':List TV} (hi:s.S[i]?=some cs) (hh:hol cs=false) {w1:World} (hold:∀ b,b≠ι i→w1.heap[b]?=w.heap[b]?) (hsh:Shp w w1) (he:evo cs cs') :
 TInv { s with S:=s.S.set i cs' } w1 M ι θ a where
 n:=T.n
 d:=T.d
 dlt:=fun i hi=>by show i < (s.S.set _ cs').length; rw [List.length_set]; exact T.dlt i hi
 v:=fun t=>by
    obtain ⟨h1,h2,h3⟩:=T.v t
    exact ⟨h1,amb (fun _ h=>h) (Nat.le_refl _) (fun q g hq hg=>⟨hold g (fun e=>(I.tok q g hq hg).2.2 i cs hi hh e.symm),fun _=>rfl⟩) _ _ h2,abK hsh (Ext.set hi he) _ _ h3⟩
theorem Inv.dropObj (I:Inv w0 M0 X s w M ι θ) {i:Nat} {cs:List TV} (hi:s.S[i]?=some cs):Inv w0 M0 X { s with S:=s.S.set i [] } w M ι θ:=by
 have hil:i < s.S.length:=(List.getElem?_eq_some_iff.1 hi).1
 have hext:Ext s.S (s.S.set i []):=Ext.set hi (evo.nil _)
 have split:∀ (j:Nat) c1,(s.S.set i [])[j]?=some c1→hol c1=false→j≠i∧s.S[j]?=some c1:=by
  intro j c1 h hh
  by_cases hj:j=i
  · subst hj
    rw [List.getElem?_set_self hil] at h
    cases h; cases hh
  · rw [List.getElem?_set_ne (Ne.symm hj)] at h; exact ⟨hj,h⟩
 refine ⟨I.os,I.tape,I.output,I.size,I.memle,I.mem,I.keep,?_,?_,?_,I.tokc,I.one,?_,I.shp⟩
 · intro j cs1 hj hh1
   obtain ⟨hji,hj⟩:=split j cs1 hj hh1
   obtain ⟨h1,h4⟩:=I.obj j cs1 hj hh1
   exact ⟨h1.same rfl (Mem.le_refl _) (fun _=>rfl) fun x v k3 k4 k5=>⟨k3,k4,abK (Shp.refl _) hext x v k5⟩,h4⟩
 · intro p q c1 c2 hp hq h1 h2 e
   exact I.inj p q c1 c2 (split p c1 hp h1).2 (split q c2 hq h2).2 h1 h2 e
 · intro q g hq hg
   obtain ⟨h1,h2,h3⟩:=I.tok q g hq hg
   exact ⟨h1,h2,fun k c1 hk hh=>h3 k c1 (split k c1 hk hh).2 hh⟩
 · refine ⟨I.base.1,by show X.n≤(s.S.set i []).length; rw [List.length_set]; exact I.base.2.1,I.base.2.2.1,fun k c1 hk hc1=>?_⟩
   have hc1:(s.S.set i [])[k]?=some c1:=hc1
   by_cases hki:k=i
   · subst hki
     rw [List.getElem?_set_self hil] at hc1
     cases hc1
     obtain ⟨c0,e0,e1⟩:=I.base.2.2.2 k cs hk hi
     exact ⟨c0,e0,e1.trans (evo.nil _)⟩
   · rw [List.getElem?_set_ne (Ne.symm hki)] at hc1
     exact I.base.2.2.2 k c1 hk hc1
theorem TInv.dropObj (T:TInv s w M ι θ a) {i:Nat} {cs:List TV} (hi:s.S[i]?=some cs):TInv { s with S:=s.S.set i [] } w M ι θ a where
 n:=T.n
 d:=T.d
 dlt:=fun i hi=>by show i < (s.S.set _ []).length; rw [List.length_set]; exact T.dlt i hi
 v:=fun t=>by
    obtain ⟨h1,h2,h3⟩:=T.v t
    exact ⟨h1,h2,abK (Shp.refl _) (Ext.set hi (evo.nil _)) _ _ h3⟩
theorem Inv.store (I:Inv w0 M0 X s w M ι θ) {i:Nat} {cs cs':List TV} (hi:s.S[i]?=some cs) (hp:plain cs=true) {w1:World} {vs':Array Value} {e:TypeId}
 (hos:w1.os=w.os) (htape:w1.tape=w.tape) (hout:w1.output=w.output) (hsz:w1.heap.size=w.heap.size) (hold:∀ b,b≠ι i→w1.heap[b]?=w.heap[b]?) (hsh:Shp w w1)
 (hnew:w1.heap[ι i]?=some (.cells vs' e (0,0))) (hc:aJQ w M ι θ s.O s.c s.S cs' vs') (hp':plain cs'=true) :
 Inv w0 M0 X { s with S:=s.S.set i cs' } w1 M ι θ:=by
 obtain ⟨p1,p2⟩:=ah8 hp
 obtain ⟨p3,p4⟩:=ah8 hp'
 have he:evo cs cs':=⟨fun t l e=>absurd p4 (by rw [e]; simp [ahG]),fun h=>absurd h (by rw [p1]; simp)⟩
 refine I.setObj hi p1 hos htape hout hsz hold hsh he fun _=>⟨(I.obj i cs hi p1).1.none,?_⟩
 rw [p4]
 refine ⟨vs',e,hnew,hc.1,fun k x hx=>?_⟩
 obtain ⟨v,k1,k2,k3,k4,k5⟩:=hc.2 k x hx
 exact ⟨v,k1,k2,k3,amb (fun _ h=>h) (Nat.le_refl _) (fun q g hq hg=>⟨hold g (fun e=>(I.tok q g hq hg).2.2 i cs hi p1 e.symm),fun _=>rfl⟩) x v k4,abK hsh (Ext.set hi he) x v k5⟩
def rowM (M:Mem) (g:Nat) (vs:List Value):Mem:=fun b i=>bif Nat.beq b g then vs[i]? else M b i
theorem asG (M:Mem) (g:Nat) (vs:List Value) (i:Nat):rowM M g vs g i=vs[i]?:=by
 unfold rowM; rw [show Nat.beq g g=true by rw [Nat.beq_eq]]; rfl
theorem am4 (M:Mem) {g b:Nat} (vs:List Value) (i:Nat) (h:b≠g):rowM M g vs b i=M b i:=by
 unfold rowM; rw [show Nat.beq b g=false by rw [← Bool.not_eq_true,Nat.beq_eq]; exact h]; rfl
theorem aBz (I:Inv w0 M0 X s w M ι θ) (vs:List Value):M.le (rowM M w.heap.size vs):=by
 intro b i v h
 rw [am4 M vs i (Nat.ne_of_lt (aCx I.mem h))]; exact h
theorem Inv.row (I:Inv w0 M0 X s w M ι θ) {w1:World} {vs:List Value} {cur:Array Value} {e:TypeId} {fr:Nat×Nat}
 (hos:w1.os=w.os) (htape:w1.tape=w.tape) (hout:w1.output=w.output) (hsz:w.heap.size≤w1.heap.size) (hold:∀ b,b < w.heap.size→w1.heap[b]?=w.heap[b]?)
 (hnew:w1.heap[w.heap.size]?=some (.cells cur e fr)) (hcur:∀ (i:Nat) v,vs[i]?=some v→cur[i]?=some v) :
 Inv w0 M0 X s w1 (rowM M w.heap.size vs) ι θ :=
 I.step hos htape hout hsz (Shp.old hold) (aBz I vs) (fun b i v h=>by
  by_cases hb:b=w.heap.size
  · subst hb
    rw [asG] at h
    rw [ai7 hnew]
    exact hcur i v h
  · rw [am4 M vs i hb] at h
    rw [am9 (hold b (aCx I.mem h))]
    exact I.mem b i v h) (fun _ h=>h) (Nat.le_refl _) I.tokc (fun b hb _=>⟨hold b hb,fun i=>am4 M vs i (Nat.ne_of_lt hb)⟩)
theorem TInv.row (T:TInv s w M ι θ a) (I:Inv w0 M0 X s w M ι θ) {w1:World} {vs:List Value} (hold:∀ b,b < w.heap.size→w1.heap[b]?=w.heap[b]?) :
 TInv s w1 (rowM M w.heap.size vs) ι θ a :=
 T.step I (Shp.old hold) (aBz I vs) (fun _ h=>h) (Nat.le_refl _) (fun b hb _=>⟨hold b hb,fun i=>am4 M vs i (Nat.ne_of_lt hb)⟩)
end
end Go.Proofs.Ytgmeimbamfggkaa.Den
