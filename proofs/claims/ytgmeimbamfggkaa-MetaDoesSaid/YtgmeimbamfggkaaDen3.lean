import Derived.Test.YtgmeimbamfggkaaDen2
import Derived.Calls
import Derived.Laws.Append
import Derived.Laws.AppendOwn
import Derived.Laws.Cells
namespace Go.Proofs.Ytgmeimbamfggkaa.Den
open Go
abbrev Mem := Nat→Nat→Option Value
def Mem.le (M M':Mem):Prop:=∀ b i v,M b i=some v→M' b i=some v
theorem Mem.le_refl (M:Mem):M.le M:=fun _ _ _ h=>h
theorem Mem.le_trans {M N L:Mem} (h:M.le N) (k:N.le L):M.le L:=fun b i v e=>k b i v (h b i v e)
def arr {α:Type} (M:Mem) (R:List Value→α→Prop) (sz:Nat) (a:Option Addr) (l:List α):Prop :=
 l≠[]→∃ b o,a=some ⟨b,o,none⟩∧∀ (i:Nat) x,l[i]?=some x→∃ vs:List Value,vs.length=sz∧R vs x∧∀ (j:Nat) v,vs[j]?=some v→M b (o+i * sz+j)=some v
def repG (M:Mem) (R:List Value→Ex→Prop):(t:Ty)→List Value→t.D→Prop
 | .bool,cs,x=>cs=[.bool x]
 | .int k,cs,n=>cs=[.int k n]∧inK k n=true
 | .str,cs,l=>∃ s:ByteArray,cs=[.string s]∧l=aaz s∧s.size≤maxLen
 | .sl t,cs,l=>∃ a c,cs=[.slice a (List.length l) c]∧List.length l≤c∧c≤maxLen∧(a=none→c=0)∧arr M (repG M R t) t.size a l
 | .unit,cs,_=>cs=[]
 | .pair a b,cs,x=>∃ c1 c2,cs=c1++c2∧repG M R a c1 x.1∧repG M R b c2 x.2
 | .st b,cs,x=>repG M R b cs x
 | .ex,cs,x=>R cs x
 | .op true,cs,_=>cs=[.pointer none]
 | .op false,cs,_=>∃ v:Value,cs=[v]∧v.oneCell'=true
def repE (M:Mem):Nat→List Value→Ex→Prop
 | 0,_,_=>False
 | d+1,cs,x=>repG M (repE M d) (.st exB) cs x.un
def rep (M:Mem) (t:Ty):List Value→t.D→Prop:=repG M (fun cs x=>∃ d,repE M d cs x) t
theorem aDT {α:Type} {M M':Mem} (h:M.le M') {R R':List Value→α→Prop} (hR:∀ vs x,R vs x→R' vs x) {sz:Nat} {a:Option Addr} {l:List α}
 (k:arr M R sz a l):arr M' R' sz a l:=fun hn=>by
 obtain ⟨b,o,ha,hi⟩:=k hn
 refine ⟨b,o,ha,fun i x hx=>?_⟩
 obtain ⟨vs,h1,h2,h3⟩:=hi i x hx
 exact ⟨vs,h1,hR _ _ h2,fun j v hj=>h _ _ _ (h3 j v hj)⟩
theorem alT {M M':Mem} (h:M.le M') {R R':List Value→Ex→Prop} (hR:∀ cs x,R cs x→R' cs x):∀ (t:Ty) (cs:List Value) (x:t.D),repG M R t cs x→repG M' R' t cs x
 | .bool,_,_,k=>k
 | .int _,_,_,k=>k
 | .str,_,_,k=>k
 | .sl t,_,_,k=>by
   obtain ⟨a,c,h1,h2,h3,h4,h5⟩:=k
   exact ⟨a,c,h1,h2,h3,h4,aDT h (fun vs x=>alT h hR t vs x) h5⟩
 | .unit,_,_,k=>k
 | .pair a b,_,_,k=>by
   obtain ⟨c1,c2,h1,h2,h3⟩:=k
   exact ⟨c1,c2,h1,alT h hR a _ _ h2,alT h hR b _ _ h3⟩
 | .st b,cs,x,k=>alT h hR b cs x k
 | .ex,cs,x,k=>hR cs x k
 | .op true,_,_,k=>k
 | .op false,_,_,k=>k
theorem aCI {M M':Mem} (h:M.le M'):∀ (d:Nat) (cs:List Value) (x:Ex),repE M d cs x→repE M' d cs x
 | 0,_,_,k=>k
 | d+1,cs,x,k=>alT h (aCI h d) (.st exB) cs x.un k
theorem ai6 {M M':Mem} (h:M.le M') (t:Ty) (cs:List Value) (x:t.D) (k:rep M t cs x):rep M' t cs x :=
 alT h (fun cs x ⟨d,k⟩=>⟨d,aCI h d cs x k⟩) t cs x k
theorem an8 {M:Mem} {R:List Value→Ex→Prop} (hR:∀ cs x,R cs x→cs.length=8):∀ (t:Ty) (cs:List Value) (x:t.D),repG M R t cs x→cs.length=t.size
 | .bool,_,_,k=>by rw [show _=[_] from k]; rfl
 | .int _,_,_,k=>by rw [k.1]; rfl
 | .str,_,_,k=>by obtain ⟨s,h,_⟩:=k; rw [h]; rfl
 | .sl _,_,_,k=>by obtain ⟨a,c,h,_⟩:=k; rw [h]; rfl
 | .unit,_,_,k=>by rw [show _=[] from k]; rfl
 | .pair a b,_,_,k=>by
   obtain ⟨c1,c2,h1,h2,h3⟩:=k
   rw [h1,List.length_append,an8 hR a _ _ h2,an8 hR b _ _ h3]; rfl
 | .st b,cs,x,k=>an8 hR b cs x k
 | .ex,cs,x,k=>hR cs x k
 | .op true,_,_,k=>by rw [show _=[_] from k]; rfl
 | .op false,_,_,k=>by obtain ⟨v,h,_⟩:=k; rw [h]; rfl
theorem azv {M:Mem}:∀ (d:Nat) (cs:List Value) (x:Ex),repE M d cs x→cs.length=8
 | 0,_,_,k=>k.elim
 | d+1,cs,x,k=>an8 (azv d) (.st exB) cs x.un k
theorem aat {M:Mem} (t:Ty) (cs:List Value) (x:t.D) (k:rep M t cs x):cs.length=t.size :=
 an8 (fun cs x ⟨d,k⟩=>azv d cs x k) t cs x k
theorem awg {M:Mem} {R:List Value→Ex→Prop} (hR:∀ cs x,R cs x→∀ v∈cs,v.oneCell'=true):∀ (t:Ty) (cs:List Value) (x:t.D),repG M R t cs x→∀ v∈cs,v.oneCell'=true
 | .bool,_,_,k,v,hv=>by rw [show _=[_] from k] at hv; simp at hv; subst hv; rfl
 | .int _,_,_,k,v,hv=>by rw [k.1] at hv; simp at hv; subst hv; rfl
 | .str,_,_,k,v,hv=>by obtain ⟨s,h,_⟩:=k; rw [h] at hv; simp at hv; subst hv; rfl
 | .sl _,_,_,k,v,hv=>by obtain ⟨a,c,h,_⟩:=k; rw [h] at hv; simp at hv; subst hv; rfl
 | .unit,_,_,k,v,hv=>by rw [show _=[] from k] at hv; simp at hv
 | .pair a b,_,_,k,v,hv=>by
   obtain ⟨c1,c2,h1,h2,h3⟩:=k
   rw [h1,List.mem_append] at hv
   rcases hv with hv | hv
   · exact awg hR a _ _ h2 v hv
   · exact awg hR b _ _ h3 v hv
 | .st b,cs,x,k,v,hv=>awg hR b cs x k v hv
 | .ex,cs,x,k,v,hv=>hR cs x k v hv
 | .op true,_,_,k,v,hv=>by rw [show _=[_] from k] at hv; simp at hv; subst hv; rfl
 | .op false,_,_,k,v,hv=>by
   obtain ⟨u,h,h1⟩:=k
   rw [h] at hv; simp at hv; subst hv; exact h1
theorem aEz {M:Mem}:∀ (d:Nat) (cs:List Value) (x:Ex),repE M d cs x→∀ v∈cs,v.oneCell'=true
 | 0,_,_,k=>k.elim
 | d+1,cs,x,k=>awg (aEz d) (.st exB) cs x.un k
theorem an9 {M:Mem} (t:Ty) (cs:List Value) (x:t.D) (k:rep M t cs x):∀ v∈cs,v.oneCell'=true :=
 awg (fun cs x ⟨d,k⟩=>aEz d cs x k) t cs x k
theorem aGC {M:Mem}:∀ (d:Nat) (cs:List Value) (x:Ex),repE M d cs x→repE M (d+1) cs x
 | 0,_,_,k=>k.elim
 | d+1,cs,x,k=>alT (Mem.le_refl M) (aGC d) (.st exB) cs x.un k
theorem aJn {M:Mem} {d e:Nat} (h:d≤e) {cs:List Value} {x:Ex} (k:repE M d cs x):repE M e cs x:=by
 induction h with
 | refl=>exact k
 | step _ ih=>exact aGC _ _ _ ih
theorem aDZ {α:Type}:∀ (l:List α) (Q:Nat→Nat→α→Prop),(∀ d e i x,d≤e→Q d i x→Q e i x)→(∀ (i:Nat) x,l[i]?=some x→∃ d,Q d i x)→∃ D,∀ (i:Nat) x,l[i]?=some x→Q D i x
 | [],_,_,_=>⟨0,fun i x h=>by simp at h⟩
 | a :: l,Q,hm,h=>by
   obtain ⟨d0,h0⟩:=h 0 a rfl
   obtain ⟨D,hD⟩:=aDZ l (fun d i x=>Q d (i+1) x) (fun d e i x=>hm d e (i+1) x) (fun i x hi=>h (i+1) x (by simpa using hi))
   refine ⟨Nat.max d0 D,fun i x hi=>?_⟩
   cases i with
   | zero=>simp at hi; subst hi; exact hm _ _ _ _ (Nat.le_max_left _ _) h0
   | succ i=>exact hm _ _ _ _ (Nat.le_max_right _ _) (hD i x (by simpa using hi))
theorem azy {M:Mem} {cs:List Value} {x:Ex}:rep M .ex cs x↔rep M (.st exB) cs x.un:=by
 constructor
 · rintro ⟨d,k⟩
   cases d with
   | zero=>exact k.elim
   | succ d=>exact alT (Mem.le_refl M) (fun cs x k=>⟨d,k⟩) (.st exB) cs x.un k
 · intro k
   obtain ⟨c1,r1,e1,k1,c2,r2,e2,k2,c3,r3,e3,k3,c4,r4,e4,k4,c5,r5,e5,k5,c6,r6,e6,⟨a,c,q1,q2,q3,q4,q5⟩,k7⟩:=k
   have hb:∃ D,arr M (repE M D) 8 a x.un.2.2.2.2.2.1:=by
    by_cases hn:x.un.2.2.2.2.2.1=[]
    · exact ⟨0,fun h=>absurd hn h⟩
    · obtain ⟨b,o,ha,hi⟩:=q5 hn
      obtain ⟨D,hD⟩:=aDZ x.un.2.2.2.2.2.1 (fun d i y=>∃ vs:List Value,vs.length=8∧repE M d vs y∧∀ (j:Nat) v,vs[j]?=some v→M b (o+i * 8+j)=some v)
         (fun d e i y hde ⟨vs,g1,g2,g3⟩=>⟨vs,g1,aJn hde g2,g3⟩)
         (fun i y hy=>by
           obtain ⟨vs,g1,⟨d,g2⟩,g3⟩:=hi i y hy
           exact ⟨d,vs,g1,g2,g3⟩)
      exact ⟨D,fun _=>⟨b,o,ha,hD⟩⟩
   obtain ⟨D,hD⟩:=hb
   refine ⟨D+1,c1,r1,e1,k1,c2,r2,e2,k2,c3,r3,e3,k3,c4,r4,e4,k4,c5,r5,e5,?_,c6,r6,e6,⟨a,c,q1,q2,q3,q4,hD⟩,k7⟩
   exact k5
def rfv (g:Nat):Rf→Value→Prop
 | .asl _,v=>∃ A n c,v=.slice A n c∧(c≠0→∃ o,A=some ⟨g,o,none⟩)
 | .asv _ _ _,v=>∃ A n c,v=.slice A n c∧(c≠0→∃ o,A=some ⟨g,o,none⟩)
 | .pel t j f,v=>v=.pointer (some ⟨g,j * t.size+offF t f,none⟩)
 | .one _,v=>∃ c,v=.slice (some ⟨g,0,none⟩) 1 c∧1≤c∧c≤maxLen
 | .mp _ _,v=>v=.map (some g)
 | .yl,v=>v=.func (.yield g) #[] #[]
mutual
def rv (M:Mem) (ι:Nat→Nat):TV→Value→Prop
 | .undef,_=>True
 | .skip,v=>v=Go.undef
 | .bool b,v=>v=.bool b
 | .int k n,v=>v=.int k n∧inK k n=true
 | .str l,v=>∃ s:ByteArray,v=.string s∧l=aaz s∧s.size≤maxLen
 | .sl t f nl l,v=>∃ a c,v=.slice a (List.length l) c∧List.length l≤c∧c≤maxLen∧(a=none→c=0)∧arr M (rep M t) t.size a l ∧
  (∀ b,nl=some b→a.isNone=b)∧(f=.full→c=List.length l)
 | .st t x,v=>∃ cs:List Value,v=.agg cs.toArray∧rep M t cs x
 | .ep t x,v=>∃ b o,∃ vs:List Value,v=.pointer (some ⟨b,o,none⟩)∧vs.length=t.size∧rep M t vs x∧∀ (j:Nat) u,vs[j]?=some u→M b (o+j)=some u
 | .ptr i o,v=>v=.pointer (some ⟨ι i,o,none⟩)
 | .nilp,v=>v=.pointer none
 | .fn f caps,v=>∃ vs:List Value,v=.func (.func f) #[] vs.toArray∧rvs M ι caps vs
 | .nilfn,v=>v=.nilFunc
 | .tup l,v=>∃ vs:List Value,v=.tuple vs.toArray∧rvs M ι l vs
 | .ag l,v=>∃ vs:List Value,v=.agg vs.toArray∧rvs M ι l vs
 | .ref r i,v=>rfv (ι i) r v
 | .blk _,_=>False
def rvs (M:Mem) (ι:Nat→Nat):List TV→List Value→Prop
 | [],vs=>vs=[]
 | x :: xs,vs=>∃ v r,vs=v :: r∧rv M ι x v∧rvs M ι xs r
end
mutual
theorem auQ {M M':Mem} (h:M.le M') (ι:Nat→Nat):∀ (x:TV) (v:Value),rv M ι x v→rv M' ι x v
 | .undef,_,_=>trivial
 | .skip,_,k=>k
 | .bool _,_,k=>k
 | .int _ _,_,k=>k
 | .str _,_,k=>k
 | .sl t _ _ _,_,k=>by
   obtain ⟨a,c,h1,h2,h3,h4,h5,h6⟩:=k
   exact ⟨a,c,h1,h2,h3,h4,aDT h (fun vs x=>ai6 h t vs x) h5,h6⟩
 | .st t x,_,k=>by
   obtain ⟨cs,h1,h2⟩:=k
   exact ⟨cs,h1,ai6 h t _ _ h2⟩
 | .ep t x,_,k=>by
   obtain ⟨b,o,vs,h1,h2,h3,h4⟩:=k
   exact ⟨b,o,vs,h1,h2,ai6 h t _ _ h3,fun j u hj=>h _ _ _ (h4 j u hj)⟩
 | .ptr _ _,_,k=>k
 | .nilp,_,k=>k
 | .fn _ caps,_,k=>by
   obtain ⟨vs,h1,h2⟩:=k
   exact ⟨vs,h1,aye h ι caps vs h2⟩
 | .nilfn,_,k=>k
 | .tup l,_,k=>by
   obtain ⟨vs,h1,h2⟩:=k
   exact ⟨vs,h1,aye h ι l vs h2⟩
 | .ag l,_,k=>by
   obtain ⟨vs,h1,h2⟩:=k
   exact ⟨vs,h1,aye h ι l vs h2⟩
 | .ref _ _,_,k=>k
 | .blk _,_,k=>k
theorem aye {M M':Mem} (h:M.le M') (ι:Nat→Nat):∀ (x:List TV) (v:List Value),rvs M ι x v→rvs M' ι x v
 | [],_,k=>k
 | x :: xs,_,k=>by
   obtain ⟨v,r,h1,h2,h3⟩:=k
   exact ⟨v,r,h1,auQ h ι x v h2,aye h ι xs r h3⟩
end
def lnkS (w:World) {α:Type} (l:List α) (sz a n:Nat) (v:Value):Prop :=
 ∃ A c,v=.slice A n c∧n≤c∧a+n≤l.length∧c≤maxLen∧(A=none→c=0) ∧
   (c≠0→l≠[]∧∃ b cur e fr,A=some ⟨b,a * sz,none⟩∧w.heap[b]?=some (.cells cur e fr)∧cur.size=(a+c) * sz)
def lnk (w:World) (o:Option Obj):Rf→Value→Prop
 | .asl t,v=>∀ l:List t.D,o=some [.blk (.row t l)]→lnkS w l t.size 0 l.length v
 | .asv t a n,v=>∀ l:List t.D,o=some [.blk (.row t l)]→lnkS w l t.size a n v
 | .pel _ _ _,_=>True
 | .one _,_=>True
 | .mp _ _,_=>True
 | .yl,_=>True
mutual
def aaI (w:World) (S:List Obj):TV→Value→Prop
 | .ptr i _,_=>i < S.length
 | .fn f l,v=>∀ vs:List Value,v=.func (.func f) #[] vs.toArray→abE w S l vs
 | .tup l,v=>∀ vs:List Value,v=.tuple vs.toArray→abE w S l vs
 | .ag l,v=>∀ vs:List Value,v=.agg vs.toArray→abE w S l vs
 | .ref r i,v=>i < S.length∧lnk w S[i]? r v
 | _,_=>True
def abE (w:World) (S:List Obj):List TV→List Value→Prop
 | x :: xs,v :: vs=>aaI w S x v∧abE w S xs vs
 | _,_=>True
end
def Shp (w w1:World):Prop:=∀ (b:Nat) (c:Array Value) e f,w.heap[b]?=some (.cells c e f)→∃ (c1:Array Value) (e1:TypeId) (f1:Nat×Nat),w1.heap[b]?=some (.cells c1 e1 f1)∧c1.size=c.size
theorem Shp.refl (w:World):Shp w w:=fun _ c e f h=>⟨c,e,f,h,rfl⟩
theorem Shp.trans {w w1 w2:World} (h:Shp w w1) (k:Shp w1 w2):Shp w w2:=fun b c e f hb=>by
 obtain ⟨c1,e1,f1,h1,h2⟩:=h b c e f hb
 obtain ⟨c2,e2,f2,h3,h4⟩:=k b c1 e1 f1 h1
 exact ⟨c2,e2,f2,h3,h4.trans h2⟩
theorem Shp.old {w w1:World} (h:∀ b,b < w.heap.size→w1.heap[b]?=w.heap[b]?):Shp w w1:=fun b c e f hb =>
 ⟨c,e,f,(h b (Array.getElem?_eq_some_iff.1 hb).1).trans hb,rfl⟩
def evo (cs cs1:Obj):Prop:=(∀ (t:Ty) (l:List t.D),cs1=[.blk (.row t l)]→∃ l0:List t.D,cs=[.blk (.row t l0)]∧l0.length=l.length)∧(hol cs=true→hol cs1=true)
theorem evo.refl (cs:Obj):evo cs cs:=⟨fun _ l h=>⟨l,h,rfl⟩,id⟩
theorem evo.trans {a b c:Obj} (h:evo a b) (k:evo b c):evo a c:=⟨fun t l e=>by
 obtain ⟨l1,e1,n1⟩:=k.1 t l e
 obtain ⟨l0,e0,n0⟩:=h.1 t l1 e1
 exact ⟨l0,e0,n0.trans n1⟩,fun hh=>k.2 (h.2 hh)⟩
theorem evo.nil (cs:Obj):evo cs []:=⟨fun _ _ h=>absurd h (by simp),fun _=>rfl⟩
def Ext (S S1:List Obj):Prop:=S.length≤S1.length∧∀ (i:Nat) cs cs1,S[i]?=some cs→S1[i]?=some cs1→evo cs cs1
theorem Ext.refl (S:List Obj):Ext S S:=⟨Nat.le_refl _,fun i cs cs1 h k=>by rw [h] at k; cases k; exact evo.refl _⟩
theorem Ext.trans {S S1 S2:List Obj} (h:Ext S S1) (k:Ext S1 S2):Ext S S2:=⟨Nat.le_trans h.1 k.1,fun i cs cs2 h1 h2=>by
 have hi:i < S1.length:=Nat.lt_of_lt_of_le (List.getElem?_eq_some_iff.1 h1).1 h.1
 exact (h.2 i cs _ h1 (List.getElem?_eq_getElem hi)).trans (k.2 i _ cs2 (List.getElem?_eq_getElem hi) h2)⟩
theorem Ext.more (S:List Obj) (cs:Obj):Ext S (S++[cs]):=⟨by simp,fun i c c1 h k=>by
 rw [List.getElem?_append_left (List.getElem?_eq_some_iff.1 h).1,h] at k
 cases k; exact evo.refl _⟩
theorem Ext.set {S:List Obj} {i:Nat} {cs cs1:Obj} (h:S[i]?=some cs) (k:evo cs cs1):Ext S (S.set i cs1):=⟨by simp,fun j c c1 h1 h2=>by
 by_cases hj:j=i
 · subst hj
   rw [List.getElem?_set_self (List.getElem?_eq_some_iff.1 h).1] at h2
   rw [h] at h1
   cases h1; cases h2; exact k
 · rw [List.getElem?_set_ne (Ne.symm hj),h1] at h2
   cases h2; exact evo.refl _⟩
theorem aCg {w w1:World} (hw:Shp w w1) {α:Type} {l l1:List α} (hl:l.length=l1.length) {sz a n:Nat} {v:Value} (h:lnkS w l sz a n v):lnkS w1 l1 sz a n v:=by
 obtain ⟨A,c,h1,h2,h3,h4,h5,h6⟩:=h
 refine ⟨A,c,h1,h2,by omega,h4,h5,fun hc=>?_⟩
 obtain ⟨hne,b,cur,e,fr,k1,k2,k3⟩:=h6 hc
 obtain ⟨c1,e1,f1,k4,k5⟩:=hw b cur e fr k2
 refine ⟨fun e=>hne (List.eq_nil_of_length_eq_zero (by rw [hl,e]; rfl)),b,c1,e1,f1,k1,k4,k5.trans k3⟩
theorem asz {w w1:World} (hw:Shp w w1) {o o1:Option Obj} (hS:∀ cs1,o1=some cs1→∃ cs,o=some cs∧evo cs cs1):∀ (r:Rf) (v:Value),lnk w o r v→lnk w1 o1 r v
 | .asl t,v,h=>fun l hl=>by
   obtain ⟨cs,hcs,he⟩:=hS _ hl
   obtain ⟨l0,e0,n0⟩:=he.1 t l rfl
   subst e0
   have:=h l0 hcs
   rw [n0] at this
   exact aCg hw n0 this
 | .asv t a n,v,h=>fun l hl=>by
   obtain ⟨cs,hcs,he⟩:=hS _ hl
   obtain ⟨l0,e0,n0⟩:=he.1 t l rfl
   subst e0
   exact aCg hw n0 (h l0 hcs)
 | .pel _ _ _,_,_=>trivial
 | .one _,_,_=>trivial
 | .mp _ _,_,_=>trivial
 | .yl,_,_=>trivial
theorem Ext.at {S S1:List Obj} (h:Ext S S1) {i:Nat} (hi:i < S.length):∀ cs1,S1[i]?=some cs1→∃ cs,S[i]?=some cs∧evo cs cs1 :=
 fun cs1 h1=>⟨S[i],List.getElem?_eq_getElem hi,h.2 i _ cs1 (List.getElem?_eq_getElem hi) h1⟩
mutual
theorem abK {w w1:World} (hw:Shp w w1) {S S1:List Obj} (hS:Ext S S1):∀ (x:TV) (v:Value),aaI w S x v→aaI w1 S1 x v
 | .undef,_,_=>trivial
 | .skip,_,_=>trivial
 | .bool _,_,_=>trivial
 | .int _ _,_,_=>trivial
 | .str _,_,_=>trivial
 | .sl _ _ _ _,_,_=>trivial
 | .st _ _,_,_=>trivial
 | .ep _ _,_,_=>trivial
 | .ptr _ _,_,k=>Nat.lt_of_lt_of_le k hS.1
 | .nilp,_,_=>trivial
 | .fn _ l,_,k=>fun vs h=>ao6 hw hS l vs (k vs h)
 | .nilfn,_,_=>trivial
 | .tup l,_,k=>fun vs h=>ao6 hw hS l vs (k vs h)
 | .ag l,_,k=>fun vs h=>ao6 hw hS l vs (k vs h)
 | .ref r _,v,k=>⟨Nat.lt_of_lt_of_le k.1 hS.1,asz hw (hS.at k.1) r v k.2⟩
 | .blk _,_,_=>trivial
theorem ao6 {w w1:World} (hw:Shp w w1) {S S1:List Obj} (hS:Ext S S1):∀ (x:List TV) (v:List Value),abE w S x v→abE w1 S1 x v
 | [],_,_=>trivial
 | _ :: _,[],_=>trivial
 | x :: xs,v :: vs,k=>⟨abK hw hS x v k.1,ao6 hw hS xs vs k.2⟩
end
mutual
theorem asi {M:Mem} {ι ι':Nat→Nat} {w:World} {S:List Obj} (h:∀ i,i < S.length→ι' i=ι i):∀ (x:TV) (v:Value),aaI w S x v→rv M ι x v→rv M ι' x v
 | .undef,_,_,_=>trivial
 | .skip,_,_,k=>k
 | .bool _,_,_,k=>k
 | .int _ _,_,_,k=>k
 | .str _,_,_,k=>k
 | .sl _ _ _ _,_,_,k=>k
 | .st _ _,_,_,k=>k
 | .ep _ _,_,_,k=>k
 | .ptr i _,_,q,k=>by rw [show _=_ from k]; simp only [rv]; rw [h i q]
 | .nilp,_,_,k=>k
 | .fn _ caps,_,q,k=>by
   obtain ⟨vs,h1,h2⟩:=k
   exact ⟨vs,h1,ayf h caps vs (q vs h1) h2⟩
 | .nilfn,_,_,k=>k
 | .tup l,_,q,k=>by
   obtain ⟨vs,h1,h2⟩:=k
   exact ⟨vs,h1,ayf h l vs (q vs h1) h2⟩
 | .ag l,_,q,k=>by
   obtain ⟨vs,h1,h2⟩:=k
   exact ⟨vs,h1,ayf h l vs (q vs h1) h2⟩
 | .ref r i,v,q,k=>by
   have k:rfv (ι i) r v:=k
   show rfv (ι' i) r v
   rw [h i q.1]; exact k
 | .blk _,_,_,k=>k
theorem ayf {M:Mem} {ι ι':Nat→Nat} {w:World} {S:List Obj} (h:∀ i,i < S.length→ι' i=ι i):∀ (x:List TV) (v:List Value),abE w S x v→rvs M ι x v→rvs M ι' x v
 | [],_,_,k=>k
 | x :: xs,_,q,k=>by
   obtain ⟨v,r,rfl,h2,h3⟩:=k
   exact ⟨v,r,rfl,asi h x v q.1 h2,ayf h xs r q.2 h3⟩
end
def claim (w:World) (M:Mem) (θ:Nat→Option Nat) (q sz:Nat) (v:Value):Prop :=
 ∀ a n c,v=.slice a n c→a=none∨c=n ∨
   ∃ g e cur p,a=some ⟨g,p,none⟩∧θ q=some g∧w.heap[g]?=some (.cells cur e (0,0))∧cur.size=p+c * sz∧∀ i,p+n * sz≤i→M g i=none
mutual
def tc (w:World) (M:Mem) (θ:Nat→Option Nat) (O:Nat→Bool) (c:Nat):TV→Value→Prop
 | .sl t (.own q) _ _,v=>q < c∧(O q=true→claim w M θ q t.size v)
 | .tup l,v=>∀ vs:List Value,v=.tuple vs.toArray→tcs w M θ O c l vs
 | .ag l,v=>∀ vs:List Value,v=.agg vs.toArray→tcs w M θ O c l vs
 | _,_=>True
def tcs (w:World) (M:Mem) (θ:Nat→Option Nat) (O:Nat→Bool) (c:Nat):List TV→List Value→Prop
 | x :: xs,v :: vs=>tc w M θ O c x v∧tcs w M θ O c xs vs
 | _,_=>True
end
end Go.Proofs.Ytgmeimbamfggkaa.Den
