import Derived.Test.YtgmeimbamfggkaaDen31
import Derived.ChangeSlices
import Derived.ChangeArms
namespace Go.Proofs.Ytgmeimbamfggkaa.Den
open Go
def wfS (l:List Int):Prop:=List.length l≤maxLen∧∀ x:Int,List.Mem x l→(Lit.int .u8 x).wf=true
def wfG (W:Ex→Prop):(t:Ty)→t.D→Prop
 | .int k,n=>(Lit.int k n).wf=true
 | .str,l=>List.length l≤maxLen∧∀ x:Int,List.Mem x l→(Lit.int .u8 x).wf=true
 | .sl t,l=>List.length l≤maxLen∧∀ x:t.D,List.Mem x l→wfG W t x
 | .st b,x=>wfG W b x
 | .pair a b,x=>wfG W a x.1∧wfG W b x.2
 | .ex,x=>W x
 | _,_=>True
mutual
def wfE : Ex→Prop
 | .mk a b c d e f=>(Lit.int .i64 a).wf=true∧wfS b∧wfS c∧(Lit.int .i64 d).wf=true∧((Lit.int .i64 e.1).wf=true∧(Lit.int .i64 e.2.1).wf=true∧wfS e.2.2.1)∧List.length f≤maxLen∧wfEs f
def wfEs : List Ex→Prop
 | []=>True
 | x :: l=>wfE x∧wfEs l
end
def wfD (t:Ty) (x:t.D):Prop:=wfG wfE t x
theorem aEU : ∀ {l:List Ex},wfEs l↔∀ x,List.Mem x l→wfE x
 | []=>⟨fun _ x h=>(by cases h),fun _=>by unfold wfEs; trivial⟩
 | x :: l=>by
   unfold wfEs
   rw [aEU (l:=l)]
   constructor
   · rintro ⟨h1,h2⟩ y hy
     cases hy with
     | head=>exact h1
     | tail _ h=>exact h2 y h
   · intro h
     exact ⟨h x (.head _),fun y hy=>h y (.tail _ hy)⟩
theorem aKo {x:Ex}:wfE x↔wfD (.st exB) x.un:=by
 cases x with
 | mk a b c d e f =>
   unfold wfE
   rw [aEU]
   constructor
   · rintro ⟨h1,h2,h3,h4,⟨h5,h6,h7⟩,h8,h9⟩
     exact ⟨h1,h2,h3,h4,⟨h5,h6,h7,trivial⟩,⟨h8,h9⟩,trivial⟩
   · rintro ⟨h1,h2,h3,h4,⟨h5,h6,h7,_⟩,⟨h8,h9⟩,_⟩
     exact ⟨h1,h2,h3,h4,⟨h5,h6,h7⟩,h8,h9⟩
theorem aHk {s:ByteArray} {x:Int} (h:x∈aaz s):(Lit.int .u8 x).wf=true:=by
 unfold aaz at h
 obtain ⟨y,hy,rfl⟩:=List.mem_map.1 h
 have:=y.toNat_lt
 simp [Lit.wf,IntKind.min,IntKind.max,IntKind.signed,IntKind.bits]
 omega
theorem aFJ (s:ByteArray):(aaz s).length=s.size:=by
 unfold aaz; simp
theorem aw_ {M:Mem} {R:List Value→Ex→Prop} {W:Ex→Prop} (hR:∀ cs x,R cs x→W x):∀ (t:Ty) (cs:List Value) (y:t.D),repG M R t cs y→wfG W t y
 | .bool,_,_,_=>trivial
 | .int k,_,_,h=>h.2
 | .str,_,_,h=>by
   obtain ⟨s,_,rfl,h2⟩:=h
   exact ⟨by show List.length (aaz s)≤maxLen; rw [aFJ]; exact h2,fun x hx=>aHk hx⟩
 | .sl t,_,l,h=>by
   obtain ⟨a,c,_,h1,h2,_,h4⟩:=h
   refine ⟨Nat.le_trans h1 h2,fun x hx=>?_⟩
   have hx:@Membership.mem t.D (List t.D) _ l x:=hx
   obtain ⟨b,o,_,h5⟩:=h4 (fun e=>by rw [e] at hx; cases hx)
   obtain ⟨i,hi⟩:=List.getElem?_of_mem hx
   obtain ⟨vs,_,k2,_⟩:=h5 i x hi
   exact aw_ hR t vs x k2
 | .unit,_,_,_=>trivial
 | .pair a b,_,_,h=>by
   obtain ⟨c1,c2,_,h1,h2⟩:=h
   exact ⟨aw_ hR a _ _ h1,aw_ hR b _ _ h2⟩
 | .st b,cs,x,h=>aw_ hR b cs x h
 | .ex,cs,x,h=>hR cs x h
 | .op _,_,_,_=>trivial
theorem aGD {M:Mem}:∀ (d:Nat) (cs:List Value) (x:Ex),repE M d cs x→wfE x
 | 0,_,_,h=>h.elim
 | d+1,cs,x,h=>aKo.2 (aw_ (aGD d) (.st exB) cs x.un h)
theorem aJ9 {M:Mem} (t:Ty) (cs:List Value) (y:t.D) (h:rep M t cs y):wfD t y :=
 aw_ (fun cs x ⟨d,h⟩=>aGD d cs x h) t cs y h
theorem atT {α:Type} {Q:Nat→α→Prop}:∀ (n:Nat),(∀ i,i < n→∃ y,Q i y)→∃ l:List α,l.length=n∧∀ (i:Nat) x,l[i]?=some x→Q i x
 | 0,_=>⟨[],rfl,fun i x h=>by simp at h⟩
 | n+1,h=>by
   obtain ⟨l,h1,h2⟩:=atT n fun i hi=>h i (by omega)
   obtain ⟨y,hy⟩:=h n (by omega)
   refine ⟨l++[y],by simp [h1],fun i x hx=>?_⟩
   by_cases hi:i < n
   · rw [List.getElem?_append_left (by omega)] at hx; exact h2 i x hx
   · rw [List.getElem?_append_right (by omega)] at hx
     have:i - l.length=0:=by
      have:=(List.getElem?_eq_some_iff.1 hx).1
      simp at this; omega
     rw [this] at hx
     simp at hx
     subst hx
     rw [show i=n by omega]; exact hy
section
variable {H : Type} {enc:TypeId×Value→H} {P:Program} {w:World} {base:Nat} {spare:Nat→Bool} {held:Bool}
theorem aju {t:Ty} {n:TypeId} (h:tyOk P t n=true):P.cellsOf n=t.size∧0 < t.size:=by
 obtain ⟨i,hi,hs,_,hp,_⟩:=abz (afa h)
 unfold Program.cellsOf
 rw [hi]
 exact ⟨hs,hp⟩
def Ty.noOp : Ty→Bool
 | .op _=>false
 | .sl t=>t.noOp
 | .pair a b=>a.noOp&&b.noOp
 | .st b=>b.noOp
 | _=>true
mutual
theorem aCB (F:Nat) (hF:∀ fuel,fuel < F→∀ (n:TypeId) (cs:List Value) (x:DataW H×List MemPlace),tyOk P .ex n=true→DataW.trod enc P w base spare held fuel n cs=some x→∃ y:Ex,rep (snap w) .ex cs y):∀ (t:Ty) (n:TypeId) (fuel:Nat) (cs:List Value) (x:DataW H×List MemPlace),fuel < F→t.noOp=true→tyOk P t n=true→DataW.trod enc P w base spare held fuel n cs=some x→∃ y:t.D,rep (snap w) t cs y
 | .ex,n,fuel,cs,x,hlt,_,ht,h=>hF fuel hlt n cs x ht h
 | .op _,_,_,_,_,_,hn,_,_=>by cases hn
 | .bool,n,fuel,cs,x,_,_,ht,h=>by
   obtain ⟨b,rfl,_⟩:=DataW.trod_bool (alY ht) h
   exact ⟨b,rfl⟩
 | .int k,n,fuel,cs,x,_,_,ht,h=>by
   obtain ⟨m,rfl,_,hw⟩:=DataW.trod_int (aj_ ht) h
   exact ⟨m,rfl,hw⟩
 | .str,n,fuel,cs,x,_,_,ht,h=>by
   obtain ⟨s,rfl,_,hs⟩:=DataW.trod_string (ag4 ht) h
   exact ⟨aaz s,s,rfl,rfl,hs⟩
 | .sl t,n,fuel,cs,x,hlt,hn,ht,h=>by
   obtain ⟨e,hu,he⟩:=agb ht
   obtain ⟨hc,hpos⟩:=aju he
   rcases DataW.trod_slice hu h with ⟨rfl,_⟩ | ⟨a,len,cap,elems,rest,m,hfm,rfl,_,_,hl,hm,hlen,hel,_,_⟩
   · exact ⟨[],none,0,rfl,Nat.le_refl _,Nat.zero_le _,fun _=>rfl,fun h=>absurd rfl h⟩
   · have each:∀ i,i < len→∃ y:t.D,∃ vs:List Value,w.cells? base (a.add (i * t.size)) t.size=some vs∧rep (snap w) t vs y:=by
       intro i hi
       have h1:=hel i hi
       rw [hc,List.getElem?_eq_getElem (show i < elems.length by omega),Option.bind_eq_some_iff] at h1
       obtain ⟨vs,h2,h3⟩:=h1
       obtain ⟨y,hy⟩:=aCB F hF t e m vs _ (by omega) hn he h3
       exact ⟨y,vs,h2,hy⟩
     obtain ⟨l,l1,l2⟩:=atT len each
     refine ⟨l,some a,cap,by rw [show List.length l=len from l1],by rw [show List.length l=len from l1]; exact hl,hm,nofun,fun hne=>?_⟩
     have hpl:0 < l.length:=by
       cases l with
       | nil=>exact absurd rfl hne
       | cons _ _=>simp
     obtain ⟨vs0,k1,k2⟩:=l2 0 l[0] (List.getElem?_eq_getElem hpl)
     obtain ⟨_,q1,q2⟩:=World.cells?_some k1
     have hsp:a.spot=none:=by
       have:=q2 0 hpos
       rw [List.getElem?_eq_getElem (show 0 < vs0.length by omega),Nat.zero_mul] at this
       unfold Addr.add World.cell? at this
       rw [if_pos rfl,if_pos rfl] at this
       split at this
       · cases hs:a.spot with
         | none=>rfl
         | some s=>simp [hs] at this
       · cases this
     obtain ⟨b,p,sp⟩:=a
     simp only at hsp
     subst hsp
     refine ⟨b,p,rfl,fun i y hi=>?_⟩
     obtain ⟨vs,e1,e2⟩:=l2 i y hi
     obtain ⟨_,r1,r2⟩:=World.cells?_some e1
     refine ⟨vs,r1,e2,fun j v hj=>?_⟩
     have hlt:j < t.size:=by rw [← r1]; exact (List.getElem?_eq_some_iff.1 hj).1
     have:=r2 j hlt
     rw [hj,agp,agp] at this
     exact this
 | .st b,n,fuel,cs,x,hlt,hn,ht,h=>by
   obtain ⟨fs,hu,hf,_⟩:=ak7 ht
   obtain ⟨xs,m,hfm,_,hl,hx,hi⟩:=DataW.trod_struct hu h
   have hsz:cs.length=(Ty.st b).size:=by rw [hl]; exact (aju ht).1
   obtain ⟨y,hy⟩:=azf F hF b fs.toList 0 cs m (by omega) hn hf (by rw [hsz]; show b.size=_; omega) (fun i f hif=>by
    have hif:fs[i]?=some f:=by simpa using hif
    have:=hi i f hif
    rw [List.getElem?_eq_getElem (show i < xs.length by rw [hx]; exact (Array.getElem?_eq_some_iff.1 hif).1)] at this
    exact ⟨_,this⟩)
   rw [List.drop_zero] at hy
   exact ⟨y,hy⟩
 | .unit,_,_,_,_,_,_,ht,_=>by simp [tyOk] at ht
 | .pair _ _,_,_,_,_,_,_,ht,_=>by simp [tyOk] at ht
theorem azf (F:Nat) (hF:∀ fuel,fuel < F→∀ (n:TypeId) (cs:List Value) (x:DataW H×List MemPlace),tyOk P .ex n=true→DataW.trod enc P w base spare held fuel n cs=some x→∃ y:Ex,rep (snap w) .ex cs y):∀ (b:Ty) (fs:List Field) (p:Nat) (cs:List Value) (m:Nat),m < F→b.noOp=true→abT P b fs p=true→cs.length=p+b.size →
 (∀ (i:Nat) (f:Field),fs[i]?=some f→∃ x:DataW H×List MemPlace,DataW.trod enc P w base spare held m f.type ((cs.drop f.offset).take (P.cellsOf f.type))=some x)→∃ y:b.D,rep (snap w) b (cs.drop p) y
 | .unit,[],p,cs,m,_,_,_,hl,_=>⟨(),by show cs.drop p=[]; exact List.drop_of_length_le (by rw [hl]; show p+0≤p; omega)⟩
 | .unit,_ :: _,_,_,_,_,_,h,_,_=>by simp [abT] at h
 | .pair a b,[],_,_,_,_,_,h,_,_=>by simp [abT] at h
 | .pair a b,f :: fs,p,cs,m,hlt,hn,h,hl,hi=>by
   have hn:(a.noOp&&b.noOp)=true:=hn
   rw [Bool.and_eq_true] at hn
   simp only [abT,Bool.and_eq_true,decide_eq_true_eq] at h
   obtain ⟨⟨⟨⟨ho,_⟩,_⟩,ht⟩,hf⟩:=h
   have hl:cs.length=p+(a.size+b.size):=hl
   obtain ⟨x,hx⟩:=hi 0 f rfl
   rw [ho,(aju ht).1] at hx
   obtain ⟨y,hy⟩:=aCB F hF a f.type m _ x hlt hn.1 ht hx
   obtain ⟨z,hz⟩:=azf F hF b fs (p+a.size) cs m hlt hn.2 hf (by omega) fun i g hg=>hi (i+1) g (by simpa using hg)
   refine ⟨(y,z),_,_,?_,hy,hz⟩
   rw [← List.drop_drop]
   exact (List.take_append_drop a.size (cs.drop p)).symm
 | .bool,_,_,_,_,_,_,h,_,_=>by simp [abT] at h
 | .int _,_,_,_,_,_,_,h,_,_=>by simp [abT] at h
 | .str,_,_,_,_,_,_,h,_,_=>by simp [abT] at h
 | .sl _,_,_,_,_,_,_,h,_,_=>by simp [abT] at h
 | .st _,_,_,_,_,_,_,h,_,_=>by simp [abT] at h
 | .ex,_,_,_,_,_,_,h,_,_=>by simp [abT] at h
 | .op _,_,_,_,_,_,_,h,_,_=>by simp [abT] at h
end
theorem aHK : ∀ (fuel:Nat) (n:TypeId) (cs:List Value) (x:DataW H×List MemPlace),tyOk P .ex n=true→DataW.trod enc P w base spare held fuel n cs=some x→∃ y:Ex,rep (snap w) .ex cs y
 | fuel,n,cs,x,ht,h=>by
   have ht2:=aCZ ht
   obtain ⟨fs,hu,hf,_⟩:=ak7 ht2
   obtain ⟨xs,m,hfm,_,hl,hx,hi⟩:=DataW.trod_struct hu h
   have hsz:cs.length=(Ty.st exB).size:=by rw [hl]; exact (aju ht2).1
   obtain ⟨y,hy⟩:=azf (m+1) (fun fuel' hlt n cs x ht h=>aHK fuel' n cs x ht h) exB fs.toList 0 cs m (by omega) rfl hf (by rw [hsz]; show exB.size=_; omega) (fun i f hif=>by
    have hif:fs[i]?=some f:=by simpa using hif
    have:=hi i f hif
    rw [List.getElem?_eq_getElem (show i < xs.length by rw [hx]; exact (Array.getElem?_eq_some_iff.1 hif).1)] at this
    exact ⟨_,this⟩)
   rw [List.drop_zero] at hy
   exact ⟨Ex.re y,azy.2 hy⟩
termination_by fuel=>fuel
decreasing_by omega
end
end Go.Proofs.Ytgmeimbamfggkaa.Den
