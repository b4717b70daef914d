import Derived.Test.YtgmeimbamfggkaaDen3
namespace Go.Proofs.Ytgmeimbamfggkaa.Den
open Go
set_option linter.unusedVariables false
set_option linter.unusedSimpArgs false
def adq (t:Ty) (cs:List Value):Value :=
 match t with
 | .st _=>.agg cs.toArray
 | .ex=>.agg cs.toArray
 | _=>cs.headD Go.undef
section
variable {M : Mem}
def repL (M:Mem) (t:Ty):List Value→List t.D→Prop
 | cs,[]=>cs=[]
 | cs,x :: l=>∃ c1 c2,cs=c1++c2∧rep M t c1 x∧repL M t c2 l
theorem acP {t:Ty}:∀ (l:List t.D) (cs:List Value),repL M t cs l→cs.length=l.length * t.size
 | [],cs,h=>by rw [show cs=[] from h]; simp
 | x :: l,cs,h=>by
   obtain ⟨c1,c2,rfl,h1,h2⟩:=h
   rw [List.length_append,aat t c1 x h1,acP l c2 h2,List.length_cons,Nat.add_mul]; omega
theorem azw {M M':Mem} (h:M.le M') {t:Ty}:∀ (l:List t.D) (cs:List Value),repL M t cs l→repL M' t cs l
 | [],_,k=>k
 | x :: l,cs,k=>by
   obtain ⟨c1,c2,e,h1,h2⟩:=k
   exact ⟨c1,c2,e,ai6 h t c1 x h1,azw h l c2 h2⟩
theorem ahX {t:Ty}:∀ (l l2:List t.D) (cs c2:List Value),repL M t cs l→repL M t c2 l2→repL M t (cs++c2) (l++l2)
 | [],l2,cs,c2,h,h2=>by rw [show cs=[] from h]; exact h2
 | x :: l,l2,cs,c2,h,h2=>by
   obtain ⟨d1,d2,rfl,k1,k2⟩:=h
   exact ⟨d1,d2++c2,by simp,k1,ahX l l2 d2 c2 k2 h2⟩
theorem awh {t:Ty}:∀ (l:List t.D) (cs:List Value),repL M t cs l→∀ v∈cs,v.oneCell'=true
 | [],cs,h,v,hv=>by rw [show cs=[] from h] at hv; simp at hv
 | x :: l,cs,h,v,hv=>by
   obtain ⟨c1,c2,rfl,h1,h2⟩:=h
   rcases List.mem_append.1 hv with hv | hv
   · exact an9 t c1 x h1 v hv
   · exact awh l c2 h2 v hv
theorem ayd {t:Ty}:∀ (l:List t.D) (cs:List Value) (i:Nat) (x:t.D),repL M t cs l→l[i]?=some x →
 ∃ vs:List Value,vs.length=t.size∧rep M t vs x∧∀ (j:Nat) v,vs[j]?=some v→cs[i * t.size+j]?=some v
 | [],_,_,_,_,hi=>by simp at hi
 | y :: l,cs,0,x,h,hi=>by
   obtain ⟨c1,c2,rfl,h1,h2⟩:=h
   simp at hi
   subst hi
   refine ⟨c1,aat t c1 y h1,h1,fun j v hj=>?_⟩
   rw [Nat.zero_mul,Nat.zero_add,List.getElem?_append_left (List.getElem?_eq_some_iff.1 hj).1]; exact hj
 | y :: l,cs,i+1,x,h,hi=>by
   obtain ⟨c1,c2,rfl,h1,h2⟩:=h
   obtain ⟨vs,k1,k2,k3⟩:=ayd l c2 i x h2 (by simpa using hi)
   refine ⟨vs,k1,k2,fun j v hj=>?_⟩
   have hl:=aat t c1 y h1
   rw [Nat.add_mul,Nat.one_mul,List.getElem?_append_right (by omega),hl]
   rw [show i * t.size+t.size+j - t.size=i * t.size+j by omega]
   exact k3 j v hj
end
def repM (M:Mem) (kt vt:Ty):List MapEntry→List (kt.D×vt.D)→Prop
 | es,[]=>es=[]
 | es,x :: l=>∃ e r ck cv,es=e :: r∧e.key=adq kt ck∧rep M kt ck x.1∧e.val=adq vt cv∧rep M vt cv x.2∧repM M kt vt r l
theorem aCJ {M M':Mem} (h:M.le M') {kt vt:Ty}:∀ (l:List (kt.D×vt.D)) (es:List MapEntry),repM M kt vt es l→repM M' kt vt es l
 | [],_,k=>k
 | x :: l,es,k=>by
   obtain ⟨e,r,ck,cv,h0,h1,h2,h3,h4,h5⟩:=k
   exact ⟨e,r,ck,cv,h0,h1,ai6 h kt ck x.1 h2,h3,ai6 h vt cv x.2 h4,aCJ h l r h5⟩
def objOk (w:World) (M:Mem) (ι:Nat→Nat) (θ:Nat→Option Nat) (O:Nat→Bool) (c:Nat) (S:List Obj) (g:Nat) (cs:Obj):Prop :=
 (∀ k,M g k=none)∧match ahG cs with
    | some (.row t l)=>∃ (vs:Array Value) (e:TypeId) (us rest:List Value),w.heap[g]?=some (.cells vs e (0,0))∧vs.toList=us++rest∧repL M t us l
    | some (.mp kt vt l)=>∃ (es:Array MapEntry) (clk:Nat),w.heap[g]?=some (.map es clk)∧repM M kt vt es.toList l
    | some (.lp r j)=>∃ L:Loop,w.heap[g]?=some (.loop L)∧L.state=j.st∧L.pending=j.pd∧L.params=r.ps∧L.assign=r.assign∧L.body=r.body∧cs.length=L.tmps.size+1 ∧
      ∀ (t:Nat) x,cs[t+1]?=some x→∃ v,L.tmps[t]?=some v∧rv M ι x v∧tc w M θ O c x v∧aaI w S x v
    | some .df=>w.heap[g]?=some (.deferred (some []))
    | none=>∃ (vs:Array Value) (e:TypeId),w.heap[g]?=some (.cells vs e (0,0))∧cs.length≤vs.size ∧
      ∀ (j:Nat) x,cs[j]?=some x→∃ v,vs[j]?=some v∧v.oneCell'=true∧rv M ι x v∧tc w M θ O c x v∧aaI w S x v
theorem objOk.map {w w1:World} {M M1:Mem} {ι ι1:Nat→Nat} {θ θ1:Nat→Option Nat} {O O1:Nat→Bool} {c c1:Nat} {S S1:List Obj} {g:Nat} {cs cs1:Obj} (h:objOk w M ι θ O c S g cs)
 (hh:w1.heap[g]?=w.heap[g]?) (hM:M.le M1) (hm:∀ k,M1 g k=M g k) (hb:ahG cs1=ahG cs) (hl:cs1.length=cs.length)
 (hx:∀ (j:Nat) x1,cs1[j]?=some x1→∃ x,cs[j]?=some x∧∀ v,rv M ι x v→tc w M θ O c x v→aaI w S x v→rv M1 ι1 x1 v∧tc w1 M1 θ1 O1 c1 x1 v∧aaI w1 S1 x1 v):objOk w1 M1 ι1 θ1 O1 c1 S1 g cs1:=by
 obtain ⟨h1,h2⟩:=h
 refine ⟨fun k=>(hm k).trans (h1 k),?_⟩
 rw [hb,hh]
 cases hbl:ahG cs with
 | none =>
   rw [hbl] at h2
   obtain ⟨vs,e,k1,k2,k3⟩:=h2
   refine ⟨vs,e,k1,by omega,fun j x1 hj=>?_⟩
   obtain ⟨x,hx1,hx2⟩:=hx j x1 hj
   obtain ⟨v,q1,q2,q3,q4,q5⟩:=k3 j x hx1
   exact ⟨v,q1,q2,hx2 v q3 q4 q5⟩
 | some b =>
   rw [hbl] at h2
   cases b with
   | row t l =>
     obtain ⟨vs,e,us,rest,k1,k2,k3⟩:=h2
     exact ⟨vs,e,us,rest,k1,k2,azw hM l us k3⟩
   | mp kt vt l =>
     obtain ⟨es,clk,k1,k2⟩:=h2
     exact ⟨es,clk,k1,aCJ hM l _ k2⟩
   | lp r j =>
     obtain ⟨L,k1,k2,k3,k4,k5,k6,k7,k8⟩:=h2
     refine ⟨L,k1,k2,k3,k4,k5,k6,hl.trans k7,fun t x1 ht=>?_⟩
     obtain ⟨x,hx1,hx2⟩:=hx (t+1) x1 ht
     obtain ⟨v,q1,q3,q4,q5⟩:=k8 t x hx1
     exact ⟨v,q1,hx2 v q3 q4 q5⟩
   | df=>exact h2
theorem objOk.same {w w1:World} {M M1:Mem} {ι ι1:Nat→Nat} {θ θ1:Nat→Option Nat} {O O1:Nat→Bool} {c c1:Nat} {S S1:List Obj} {g:Nat} {cs:Obj} (h:objOk w M ι θ O c S g cs)
 (hh:w1.heap[g]?=w.heap[g]?) (hM:M.le M1) (hm:∀ k,M1 g k=M g k)
 (hx:∀ x v,rv M ι x v→tc w M θ O c x v→aaI w S x v→rv M1 ι1 x v∧tc w1 M1 θ1 O1 c1 x v∧aaI w1 S1 x v):objOk w1 M1 ι1 θ1 O1 c1 S1 g cs :=
 h.map hh hM hm rfl rfl fun _ x1 hj=>⟨x1,hj,fun v=>hx x1 v⟩
theorem objOk.lt {w:World} {M:Mem} {ι:Nat→Nat} {θ:Nat→Option Nat} {O:Nat→Bool} {c:Nat} {S:List Obj} {g:Nat} {cs:Obj} (h:objOk w M ι θ O c S g cs):g < w.heap.size:=by
 have key:∀ o,w.heap[g]?=some o→g < w.heap.size:=fun o ho=>(Array.getElem?_eq_some_iff.1 ho).1
 obtain ⟨_,h2⟩:=h
 split at h2
 · obtain ⟨vs,e,us,rest,k1,_⟩:=h2; exact key _ k1
 · obtain ⟨es,clk,k1,_⟩:=h2; exact key _ k1
 · obtain ⟨L,k1,_⟩:=h2; exact key _ k1
 · exact key _ h2
 · obtain ⟨vs,e,k1,_⟩:=h2; exact key _ k1
theorem objOk.cells {w:World} {M:Mem} {ι:Nat→Nat} {θ:Nat→Option Nat} {O:Nat→Bool} {c:Nat} {S:List Obj} {g:Nat} {cs:Obj} (h:objOk w M ι θ O c S g cs) (hb:ahG cs=none) :
 ∃ (vs:Array Value) (e:TypeId),w.heap[g]?=some (.cells vs e (0,0))∧cs.length≤vs.size ∧
   ∀ (j:Nat) x,cs[j]?=some x→∃ v,vs[j]?=some v∧v.oneCell'=true∧rv M ι x v∧tc w M θ O c x v∧aaI w S x v:=by
 obtain ⟨_,h2⟩:=h
 rw [hb] at h2
 exact h2
theorem objOk.none {w:World} {M:Mem} {ι:Nat→Nat} {θ:Nat→Option Nat} {O:Nat→Bool} {c:Nat} {S:List Obj} {g:Nat} {cs:Obj} (h:objOk w M ι θ O c S g cs):∀ k,M g k=none:=h.1
theorem aEr {x:TV} (h:∀ b,x≠.blk b):ahG [x]=none∧hol [x]=false:=by
 cases x <;> first | exact ⟨rfl,rfl⟩ | exact absurd rfl (h _)
theorem aER (x y:TV) (r:List TV) (h:∀ q j,x≠.blk (.lp q j)):ahG (x :: y :: r)=none∧hol (x :: y :: r)=false:=by
 cases x with
 | blk b=>cases b with
   | row t l=>cases l <;> exact ⟨rfl,rfl⟩
   | mp kt vt l=>exact ⟨rfl,rfl⟩
   | lp q j=>exact absurd rfl (h q j)
   | df=>exact ⟨rfl,rfl⟩
 | _=>exact ⟨rfl,rfl⟩
theorem ayg : ∀ {cs cs':Obj},cs'.length=cs.length→(∀ (j:Nat) x x',cs[j]?=some x→cs'[j]?=some x'→∀ b,x'=.blk b↔x=.blk b)→ahG cs'=ahG cs∧hol cs'=hol cs∧∀ b,cs'=[.blk b]↔cs=[.blk b]
 | [],[],_,_=>⟨rfl,rfl,fun b=>Iff.rfl⟩
 | [x],[x'],_,h=>by
   have h0:=h 0 x x' rfl rfl
   by_cases hx:∃ b,x=.blk b
   · obtain ⟨b,rfl⟩:=hx
     rw [(h0 b).2 rfl]
     exact ⟨rfl,rfl,fun b=>Iff.rfl⟩
   · have n1:∀ b,x≠.blk b:=fun b e=>hx ⟨b,e⟩
     have n2:∀ b,x'≠.blk b:=fun b e=>hx ⟨b,(h0 b).1 e⟩
     obtain ⟨p1,p2⟩:=aEr n1
     obtain ⟨q1,q2⟩:=aEr n2
     refine ⟨q1.trans p1.symm,q2.trans p2.symm,fun b=>⟨fun e=>?_,fun e=>?_⟩⟩
     · injection e with e; exact absurd e (n2 b)
     · injection e with e; exact absurd e (n1 b)
 | x :: y :: r,x' :: y' :: r',_,h=>by
   have h0:=h 0 x x' rfl rfl
   by_cases hx:∃ q j,x=.blk (.lp q j)
   · obtain ⟨q,j,rfl⟩:=hx
     rw [(h0 _).2 rfl]
     exact ⟨rfl,rfl,fun b=>⟨fun e=>by simp at e,fun e=>by simp at e⟩⟩
   · obtain ⟨p1,p2⟩:=aER x y r fun q j e=>hx ⟨q,j,e⟩
     obtain ⟨q1,q2⟩:=aER x' y' r' fun q j e=>hx ⟨q,j,(h0 _).1 e⟩
     exact ⟨q1.trans p1.symm,q2.trans p2.symm,fun b=>⟨fun e=>by simp at e,fun e=>by simp at e⟩⟩
 | [],_ :: _,h,_=>by simp at h
 | [x],[],h,_=>by simp at h
 | [x],_ :: _ :: _,h,_=>by simp at h
 | x :: y :: r,[],h,_=>by simp at h
 | x :: y :: r,[_],h,_=>by simp at h
theorem ah2 {cs cs':Obj} (h:ahG cs'=ahG cs∧hol cs'=hol cs∧∀ b,cs'=[.blk b]↔cs=[.blk b]):evo cs cs' :=
 ⟨fun t l e=>⟨l,(h.2.2 _).1 e,rfl⟩,fun e=>h.2.1.trans e⟩
structure Fr where
 X:Nat→Prop
 n:Nat
 ι:Nat→Nat
 S:List Obj
instance : CoeFun Fr fun _=>Nat→Prop:=⟨Fr.X⟩
structure Inv (w0:World) (M0:Mem) (X:Fr) (s:St) (w:World) (M:Mem) (ι:Nat→Nat) (θ:Nat→Option Nat):Prop where
 os:w.os=w0.os
 tape:w.tape=w0.tape
 output:w.output=w0.output
 size:w0.heap.size≤w.heap.size
 memle:M0.le M
 mem:∀ b i v,M b i=some v→w.cell? ⟨b,i,none⟩=some v
 keep:∀ b,b < w0.heap.size→¬ X b→w.heap[b]?=w0.heap[b]?∧∀ i,M b i=M0 b i
 obj:∀ (i:Nat) cs,s.S[i]?=some cs→hol cs=false→objOk w M ι θ s.O s.c s.S (ι i) cs∧(X (ι i)∨w0.heap.size≤ι i)
 inj:∀ (i j:Nat) cs cs',s.S[i]?=some cs→s.S[j]?=some cs'→hol cs=false→hol cs'=false→ι i=ι j→i=j
 tok:∀ q g,s.O q=true→θ q=some g→g < w.heap.size∧(X g∨w0.heap.size≤g)∧∀ (i:Nat) cs,s.S[i]?=some cs→hol cs=false→ι i≠g
 tokc:∀ q,s.O q=true→q < s.c
 one:∀ p q g,s.O p=true→s.O q=true→θ p=some g→θ q=some g→p=q
 base:s.b=X.n∧X.n≤s.S.length∧(∀ i,i < X.n→ι i=X.ι i)∧∀ (i:Nat) cs,i < X.n→s.S[i]?=some cs→∃ cs0,X.S[i]?=some cs0∧evo cs0 cs
 shp:Shp w0 w
structure TInv (s:St) (w:World) (M:Mem) (ι:Nat→Nat) (θ:Nat→Option Nat) (a:Act):Prop where
 n:a.tmps.size=s.n
 d:a.defers=s.dl.map fun i=>{ target:=.collected (ι i),args:=#[] }
 dlt:∀ i∈s.dl,i < s.S.length
 v:∀ t,rv M ι (s.T t) (a.tmps.getD t Go.undef)∧tc w M θ s.O s.c (s.T t) (a.tmps.getD t Go.undef)∧aaI w s.S (s.T t) (a.tmps.getD t Go.undef)
theorem aCx {w:World} {M:Mem} (hm:∀ b i v,M b i=some v→w.cell? ⟨b,i,none⟩=some v) {b i:Nat} {v:Value} (h:M b i=some v):b < w.heap.size :=
 World.block_lt_of_cell? w _ (hm b i v h)
mutual
theorem amb {w w1:World} {M M1:Mem} {θ:Nat→Option Nat} {O O1:Nat→Bool} {c c1:Nat} (hO:∀ q,O1 q=true→O q=true) (hc:c≤c1)
 (hk:∀ q g,O1 q=true→θ q=some g→w1.heap[g]?=w.heap[g]?∧∀ i,M1 g i=M g i):∀ (x:TV) (v:Value),tc w M θ O c x v→tc w1 M1 θ O1 c1 x v
 | .sl t (.own q) _ _,v,h=>by
   refine ⟨Nat.lt_of_lt_of_le h.1 hc,fun hq a n cc hv=>?_⟩
   rcases h.2 (hO q hq) a n cc hv with h1 | h1 | ⟨g,e,cur,p0,h1,h2,h3,h4,h5⟩
   · exact .inl h1
   · exact .inr (.inl h1)
   · obtain ⟨k1,k2⟩:=hk q g hq h2
     exact .inr (.inr ⟨g,e,cur,p0,h1,h2,k1.trans h3,h4,fun i hi=>(k2 i).trans (h5 i hi)⟩)
 | .sl _ .sh _ _,_,_=>trivial
 | .sl _ .full _ _,_,_=>trivial
 | .tup l,v,h=>fun vs hv=>aBK hO hc hk l vs (h vs hv)
 | .ag l,v,h=>fun vs hv=>aBK hO hc hk l vs (h vs hv)
 | .ref _ _,_,_=>trivial
 | .blk _,_,_=>trivial
 | .undef,_,_=>trivial
 | .skip,_,_=>trivial
 | .bool _,_,_=>trivial
 | .int _ _,_,_=>trivial
 | .str _,_,_=>trivial
 | .st _ _,_,_=>trivial
 | .ep _ _,_,_=>trivial
 | .ptr _ _,_,_=>trivial
 | .nilp,_,_=>trivial
 | .fn _ _,_,_=>trivial
 | .nilfn,_,_=>trivial
theorem aBK {w w1:World} {M M1:Mem} {θ:Nat→Option Nat} {O O1:Nat→Bool} {c c1:Nat} (hO:∀ q,O1 q=true→O q=true) (hc:c≤c1)
 (hk:∀ q g,O1 q=true→θ q=some g→w1.heap[g]?=w.heap[g]?∧∀ i,M1 g i=M g i):∀ (x:List TV) (v:List Value),tcs w M θ O c x v→tcs w1 M1 θ O1 c1 x v
 | [],[],_=>trivial
 | [],_ :: _,_=>trivial
 | _ :: _,[],_=>trivial
 | x :: xs,v :: vs,h=>⟨amb hO hc hk x v h.1,aBK hO hc hk xs vs h.2⟩
end
mutual
theorem aDO {w:World} {M:Mem} {θ:Nat→Option Nat} {O:Nat→Bool} {c:Nat} (g:Option Nat):∀ (x:TV) (v:Value),tc w M θ O c x v→tc w M (upd θ c g) (upd O c true) (c+1) x v
 | .sl t (.own q) _ _,v,h=>by
   have hne:Nat.beq q c=false:=by
    cases hb:Nat.beq q c with
    | false=>rfl
    | true=>have:=Nat.eq_of_beq_eq_true hb; have:=h.1; omega
   refine ⟨Nat.lt_succ_of_lt h.1,fun hq=>?_⟩
   have hq':O q=true:=by simpa [upd,hne] using hq
   intro a n cc hv
   rcases h.2 hq' a n cc hv with h1 | h1 | ⟨g,e,cur,p0,h1,h2,h3,h4,h5⟩
   · exact .inl h1
   · exact .inr (.inl h1)
   · exact .inr (.inr ⟨g,e,cur,p0,h1,by simpa [upd,hne] using h2,h3,h4,h5⟩)
 | .sl _ .sh _ _,_,_=>trivial
 | .sl _ .full _ _,_,_=>trivial
 | .tup l,v,h=>fun vs hv=>aBJ g l vs (h vs hv)
 | .ag l,v,h=>fun vs hv=>aBJ g l vs (h vs hv)
 | .ref _ _,_,_=>trivial
 | .blk _,_,_=>trivial
 | .undef,_,_=>trivial
 | .skip,_,_=>trivial
 | .bool _,_,_=>trivial
 | .int _ _,_,_=>trivial
 | .str _,_,_=>trivial
 | .st _ _,_,_=>trivial
 | .ep _ _,_,_=>trivial
 | .ptr _ _,_,_=>trivial
 | .nilp,_,_=>trivial
 | .fn _ _,_,_=>trivial
 | .nilfn,_,_=>trivial
theorem aBJ {w:World} {M:Mem} {θ:Nat→Option Nat} {O:Nat→Bool} {c:Nat} (g:Option Nat):∀ (x:List TV) (v:List Value),tcs w M θ O c x v→tcs w M (upd θ c g) (upd O c true) (c+1) x v
 | [],[],_=>trivial
 | [],_ :: _,_=>trivial
 | _ :: _,[],_=>trivial
 | x :: xs,v :: vs,h=>⟨aDO g x v h.1,aBJ g xs vs h.2⟩
end
section
variable {w0 : World} {M0:Mem} {X:Fr} {s:St} {w:World} {M:Mem} {ι:Nat→Nat} {θ:Nat→Option Nat} {a:Act}
theorem Inv.step (h:Inv w0 M0 X s w M ι θ) {w1:World} {M1:Mem} {O1:Nat→Bool} {c1:Nat}
 (hos:w1.os=w.os) (htape:w1.tape=w.tape) (hout:w1.output=w.output) (hsz:w.heap.size≤w1.heap.size) (hsh:Shp w w1)
 (hM:M.le M1) (hmem:∀ b i v,M1 b i=some v→w1.cell? ⟨b,i,none⟩=some v)
 (hO:∀ q,O1 q=true→s.O q=true) (hc:s.c≤c1) (hoc:∀ q,O1 q=true→q < c1)
 (hk:∀ b,b < w.heap.size→(∀ q,s.O q=true→O1 q=false→θ q=some b→False)→w1.heap[b]?=w.heap[b]?∧∀ i,M1 b i=M b i) :
 Inv w0 M0 X { s with O:=O1,c:=c1 } w1 M1 ι θ where
 os:=hos.trans h.os
 tape:=htape.trans h.tape
 output:=hout.trans h.output
 size:=Nat.le_trans h.size hsz
 memle:=Mem.le_trans h.memle hM
 mem:=hmem
 keep:=fun b hb hx=>by
  obtain ⟨k1,k2⟩:=h.keep b hb hx
  obtain ⟨e1,e2⟩:=hk b (Nat.lt_of_lt_of_le hb h.size) (fun q hq _ hθ=>by
   rcases (h.tok q b hq hθ).2.1 with hX | hlt
   · exact hx hX
   · omega)
  exact ⟨e1.trans k1,fun i=>(e2 i).trans (k2 i)⟩
 obj:=fun i cs hcs hh=>by
  obtain ⟨h1,h4⟩:=h.obj i cs hcs hh
  obtain ⟨e1,e2⟩:=hk (ι i) h1.lt (fun q hq _ hθ=>(h.tok q _ hq hθ).2.2 i cs hcs hh rfl)
  refine ⟨h1.same e1 hM e2 fun x v k3 k4 k5=>⟨auQ hM ι x v k3,amb hO hc ?_ x v k4,abK hsh (Ext.refl _) x v k5⟩,h4⟩
  intro q g hq hθ
  exact hk g (h.tok q g (hO q hq) hθ).1 (fun p hp hp1 hpθ=>by
      have:=h.one p q g hp (hO q hq) hpθ hθ
      subst this
      rw [hq] at hp1
      exact Bool.noConfusion hp1)
 inj:=h.inj
 tok:=fun q g hq hθ=>by
  obtain ⟨k1,k2,k3⟩:=h.tok q g (hO q hq) hθ
  exact ⟨Nat.lt_of_lt_of_le k1 hsz,k2,k3⟩
 tokc:=hoc
 one:=fun p q g hp hq=>h.one p q g (hO p hp) (hO q hq)
 base:=h.base
 shp:=h.shp.trans hsh
theorem TInv.step (t:TInv s w M ι θ a) (h:Inv w0 M0 X s w M ι θ) {w1:World} {M1:Mem} {O1:Nat→Bool} {c1:Nat} (hsh:Shp w w1)
 (hM:M.le M1) (hO:∀ q,O1 q=true→s.O q=true) (hc:s.c≤c1)
 (hk:∀ b,b < w.heap.size→(∀ q,s.O q=true→O1 q=false→θ q=some b→False)→w1.heap[b]?=w.heap[b]?∧∀ i,M1 b i=M b i) :
 TInv { s with O:=O1,c:=c1 } w1 M1 ι θ a where
 n:=t.n
 d:=t.d
 dlt:=t.dlt
 v:=fun x=>by
    obtain ⟨h1,h2,h3⟩:=t.v x
    refine ⟨auQ hM ι _ _ h1,amb hO hc ?_ _ _ h2,abK hsh (Ext.refl _) _ _ h3⟩
    intro q g hq hθ
    exact hk g (h.tok q g (hO q hq) hθ).1 (fun p hp hp1 hpθ=>by
     have:=h.one p q g hp (hO q hq) hpθ hθ
     subst this
     rw [hq] at hp1
     exact Bool.noConfusion hp1)
theorem Inv.more (h:Inv w0 M0 X s w M ι θ) (g:Option Nat)
 (hg:∀ b,g=some b→b < w.heap.size∧(X b∨w0.heap.size≤b)∧(∀ (i:Nat) cs,s.S[i]?=some cs→hol cs=false→ι i≠b)∧∀ q,s.O q=true→θ q≠some b) :
 Inv w0 M0 X s.more w M ι (upd θ s.c g) where
 base:=h.base
 shp:=h.shp
 os:=h.os
 tape:=h.tape
 output:=h.output
 size:=h.size
 memle:=h.memle
 mem:=h.mem
 keep:=h.keep
 obj:=fun i cs hcs hh=>by
  obtain ⟨h1,h4⟩:=h.obj i cs hcs hh
  exact ⟨h1.same rfl (Mem.le_refl _) (fun _=>rfl) fun x v k3 k4 k5=>⟨k3,aDO g x v k4,k5⟩,h4⟩
 inj:=h.inj
 tok:=fun q b hq hθ=>by
  simp only [St.more,upd] at hq hθ
  cases hb:Nat.beq q s.c with
  | true =>
    rw [hb] at hθ
    simp only [cond_true] at hθ
    obtain ⟨h1,h2,h3,_⟩:=hg b hθ
    exact ⟨h1,h2,h3⟩
  | false =>
    rw [hb] at hq hθ
    simp only [cond_false] at hq hθ
    exact h.tok q b hq hθ
 tokc:=fun q hq=>by
  simp only [St.more,upd] at hq ⊢
  cases hb:Nat.beq q s.c with
  | true=>have:=Nat.eq_of_beq_eq_true hb; omega
  | false =>
    rw [hb] at hq
    have:=h.tokc q hq
    omega
 one:=fun p q b hp hq hpθ hqθ=>by
  simp only [St.more,upd] at hp hq hpθ hqθ
  cases hb:Nat.beq p s.c with
  | true =>
    have e1:=Nat.eq_of_beq_eq_true hb
    rw [hb] at hpθ
    cases hb':Nat.beq q s.c with
    | true=>have e2:=Nat.eq_of_beq_eq_true hb'; omega
    | false =>
      rw [hb'] at hq hqθ
      exact absurd hqθ ((hg b hpθ).2.2.2 q hq)
  | false =>
    rw [hb] at hp hpθ
    cases hb':Nat.beq q s.c with
    | true =>
      rw [hb'] at hqθ
      exact absurd hpθ ((hg b hqθ).2.2.2 p hp)
    | false =>
      rw [hb'] at hq hqθ
      exact h.one p q b hp hq hpθ hqθ
theorem TInv.more (t:TInv s w M ι θ a) (g:Option Nat):TInv s.more w M ι (upd θ s.c g) a where
 n:=t.n
 d:=t.d
 dlt:=t.dlt
 v:=fun x=>by
    obtain ⟨h1,h2,h3⟩:=t.v x
    exact ⟨h1,aDO g _ _ h2,h3⟩
theorem aHt (A:Array Value) (d t:Nat) (v:Value) (hd:d < A.size):(A.setIfInBounds d v).getD t Go.undef=bif Nat.beq t d then v else A.getD t Go.undef:=by
 cases hb:Nat.beq t d with
 | true =>
   have e:=Nat.eq_of_beq_eq_true hb
   subst e
   simp [Array.getD,hd]
 | false =>
   have hne:d≠t:=by rintro rfl; simp at hb
   simp [Array.getD_eq_getD_getElem?,Array.getElem?_setIfInBounds_ne hne]
theorem aIw {s:St} {d:Nat} {x:TV} (h:d < s.n):s.put (some d) x={ s with T:=upd s.T d x }:=by
 have hb:Nat.blt d s.n=true:=by rw [Nat.blt_eq]; exact h
 show (bif Nat.blt d s.n then { s with T:=upd s.T d x } else s)=_
 rw [hb]
 rfl
theorem aGw {s:St} {d:Nat} {x:TV} (h:¬ d < s.n):s.put (some d) x=s:=by
 have hb:Nat.blt d s.n=false:=by rw [← Bool.not_eq_true,Nat.blt_eq]; exact h
 show (bif Nat.blt d s.n then { s with T:=upd s.T d x } else s)=_
 rw [hb]
 rfl
theorem TInv.put (t:TInv s w M ι θ a) (d:Option Tmp) {x:TV} {v:Value} (h1:rv M ι x v) (h2:tc w M θ s.O s.c x v) (h3:aaI w s.S x v) :
 TInv (s.put d x) w M ι θ (a.put d v):=by
 cases d with
 | none=>exact t
 | some d =>
   by_cases hd:d < s.n
   · rw [aIw hd]
     have hd':d < a.tmps.size:=by rw [t.n]; exact hd
     refine ⟨by simpa [Act.put] using t.n,t.d,t.dlt,fun x'=>?_⟩
     rw [show (a.put (some d) v).tmps=a.tmps.setIfInBounds d v from rfl,aHt _ _ _ _ hd']
     simp only [upd]
     cases Nat.beq x' d with
     | true=>exact ⟨h1,h2,h3⟩
     | false=>exact t.v x'
   · rw [aGw hd]
     have e:a.put (some d) v=a:=by
        have hd':¬ d < a.tmps.size:=by rw [t.n]; exact hd
        simp [Act.put,Array.setIfInBounds,hd']
     rw [e]
     exact t
theorem Inv.put (h:Inv w0 M0 X s w M ι θ) (d:Option Tmp) (x:TV):Inv w0 M0 X (s.put d x) w M ι θ:=by
 cases d with
 | none=>exact h
 | some d =>
   by_cases hd:d < s.n
   · rw [aIw hd]
     exact ⟨h.os,h.tape,h.output,h.size,h.memle,h.mem,h.keep,h.obj,h.inj,h.tok,h.tokc,h.one,h.base,h.shp⟩
   · rw [aGw hd]
     exact h
end
end Go.Proofs.Ytgmeimbamfggkaa.Den
