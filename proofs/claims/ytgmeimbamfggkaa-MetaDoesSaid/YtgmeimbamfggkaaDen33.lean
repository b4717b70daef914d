import Derived.Test.YtgmeimbamfggkaaDen30
import Derived.Lib.Bytealg
import Derived.Laws.Externs
namespace Go.Proofs.Ytgmeimbamfggkaa.Den
open Go
set_option linter.unusedVariables false
set_option linter.unusedSimpArgs false
def cmpL : List Int→List Int→Int
 | [],[]=>0
 | [],_ :: _ => -1
 | _ :: _,[]=>1
 | a :: x,b :: y=>if a < b then -1 else if b < a then 1 else cmpL x y
theorem aAo : ∀ (a b:List UInt8),cmpL (a.map fun b=>(b.toNat:Int)) (b.map fun b=>(b.toNat:Int))=Lib.compareBytes a b
 | [],[]=>rfl
 | [],_ :: _=>rfl
 | _ :: _,[]=>rfl
 | a :: x,b :: y=>by
   have h1:((a.toNat:Int) < (b.toNat:Int))↔a < b:=by rw [UInt8.lt_iff_toNat_lt]; omega
   have h2:((b.toNat:Int) < (a.toNat:Int))↔b < a:=by rw [UInt8.lt_iff_toNat_lt]; omega
   show (if (a.toNat:Int) < b.toNat then -1 else if (b.toNat:Int) < a.toNat then 1 else cmpL (x.map _) (y.map _))=_
   rw [aAo x y]
   simp only [h1,h2]
   rfl
def toB (l:List Int):List UInt8:=l.map fun n=>UInt8.ofNat n.toNat
theorem aCL {P:Program} {w:World}:∀ (l:List Int) (b o:Nat) (acc:ByteArray),(∀ (j:Nat) x,l[j]?=some x→w.cell? ⟨b,o+j,none⟩=some (.int .u8 x)) →
 (Extern.Bytes.loadBytes ⟨b,o,none⟩ l.length acc).run P w=.ok ⟨acc.data++(toB l).toArray⟩ w
 | [],b,o,acc,_=>by simp [Extern.Bytes.loadBytes,toB]
 | x :: l,b,o,acc,h=>by
   have h0:w.cell? ⟨b,o,none⟩=some (.int .u8 x):=by simpa using h 0 x rfl
   have ih:=aCL (P:=P) l b (o+1) (acc.push x.toNat.toUInt8) (fun j y hy=>by
     have:=h (j+1) y (by simpa using hy)
     rwa [show o+(j+1)=o+1+j by omega] at this)
   simp only [List.length_cons,Extern.Bytes.loadBytes,Sem.run_bind,run_load,h0,Result.andThen_ok,agp]
   rw [ih]
   congr 1
   apply ByteArray.ext
   simp [ByteArray.push,toB]
def isB (x:TV) (l:List Int):Prop:=(∃ f nl,x=.sl (.int .u8) f nl l)∨x=.str l
theorem aAk : ∀ (l:List Int),(∀ x∈l,inK .u8 x=true)→l=(toB l).map fun b=>(b.toNat:Int)
 | [],_=>rfl
 | x :: l,h=>by
   have hx:=h x (List.mem_cons_self ..)
   rw [al0] at hx
   have h1:(0:Int)≤x:=hx.1
   have h2:x≤255:=hx.2
   show x :: l=((UInt8.ofNat x.toNat).toNat:Int) :: (toB l).map _
   rw [← aAk l fun y hy=>h y (List.mem_cons_of_mem _ hy)]
   congr 1
   rw [UInt8.toNat_ofNat']
   omega
theorem azF {P:Program} {w:World} {M:Mem} {ι:Nat→Nat} (hm:∀ b i v,M b i=some v→w.cell? ⟨b,i,none⟩=some v) {x:TV} {l:List Int} (hx:isB x l) {v:Value} (h:rv M ι x v) :
 ∃ s:ByteArray,(Extern.Bytes.bytesOf v).run P w=.ok s w∧l=aaz s:=by
 rcases hx with ⟨f,nl,rfl⟩ | rfl
 · obtain ⟨a,c,rfl,h1,h2,h3,h4,_⟩:=h
   cases a with
   | none =>
     have hc:=h3 rfl
     have hl:l=[]:=List.eq_nil_of_length_eq_zero (by have h1:l.length≤c:=h1; omega)
     subst hl
     exact ⟨.empty,rfl,rfl⟩
   | some ad =>
     by_cases hl:l=[]
     · subst hl
       exact ⟨.empty,rfl,rfl⟩
     · obtain ⟨b,o,e,hi⟩:=h4 hl
       cases e
       have hcell:∀ (i:Nat) y,l[i]?=some y→inK .u8 y=true∧w.cell? ⟨b,o+i,none⟩=some (.int .u8 y):=by
        intro i y hy
        obtain ⟨vs,k1,k2,k3⟩:=hi i y hy
        obtain ⟨rfl,k4⟩:vs=[.int .u8 y]∧inK .u8 y=true:=k2
        refine ⟨k4,?_⟩
        have:=hm _ _ _ (k3 0 _ rfl)
        simpa [Ty.size] using this
       refine ⟨_,aCL l b o .empty fun j y hy=>(hcell j y hy).2,?_⟩
       have hall:∀ y∈l,inK .u8 y=true:=fun y hy=>by
        obtain ⟨i,hi⟩:=List.getElem?_of_mem hy
        exact (hcell i y hi).1
       refine (aAk l hall).trans ?_
       show _=((ByteArray.empty.data++(toB l).toArray).toList).map _
       have:(ByteArray.empty.data++(toB l).toArray).toList=toB l:=by
        show ((#[]:Array UInt8)++(toB l).toArray).toList=_
        simp
       rw [this]
 · obtain ⟨s,rfl,rfl,_⟩:=h
   exact ⟨s,rfl,rfl⟩
theorem aDA {P:Program} {w:World} {x y:Value} {s t:ByteArray} (hx:(Extern.Bytes.bytesOf x).run P w=.ok s w) (hy:(Extern.Bytes.bytesOf y).run P w=.ok t w) :
 (Extern.BytealgCompare.compare #[x,y]).run P w=.ok (.int .i64 (cmpL (aaz s) (aaz t))) w:=by
 change Sem.run P (do pure (goInt (Extern.BytealgCompare.cmp (← Extern.Bytes.bytesOf x) (← Extern.Bytes.bytesOf y)))) w=_
 simp only [Sem.run_bind,hx,hy,Sem.run_pure,Result.andThen_ok]
 rw [Lib.cmp_eq,← aAo]
 rfl
theorem aD1 : ∀ (a b:List Int),inK .i64 (cmpL a b)=true
 | [],[]=>rfl
 | [],_ :: _=>rfl
 | _ :: _,[]=>rfl
 | a :: x,b :: y=>by
   unfold cmpL
   split
   · rfl
   · split
     · rfl
     · exact aD1 x y
theorem aJM {P:Program} {g:FuncId} {fn:Func} (hf:P.funcs[g]?=some fn) (hname:(fn.name == "runtime.NumGoroutine")=false) (hb:fn.body.isNone=true) (hn:Extern.findNext fn=none)
 (he:Extern.find fn=some Extern.BytealgCompare.compare) {p q:Pt (List Int)} (hp:∀ l,isB (p.enc l) l) (hq:∀ l,isB (q.enc l) l) {f:List Int×List Int×Unit→Unit→Option (Int×Unit)} (hF:∀ x o,f x o=some (cmpL x.1 x.2.1,()))
 {pars:List NK} (hs:pars.flatMap nkQ=[]) {sel:List TV→Bool} (hg:g < YB:=by decide) :
 SpecOk P g (mkSp (.cons p (.cons q .nil)) .nil (Pt.int .i64) .nil f pars [] 0 sel):=by
 refine ⟨fun xs os=>?_,fun xs os v S hrun w M X ι θ V I hV hT hW=>?_⟩
 · show ∃ out':Option (TV×List Obj),∀ (ρ:Type) (K:TV→List Obj→Option ρ),(((Ps.cons p (.cons q .nil)).dec xs).bind fun a=>(Os.nil.dec os).bind fun b=>(f a b).bind fun r=>K ((Pt.int .i64).enc r.1) (Os.nil.enc r.2))=_
   cases (Ps.cons p (.cons q .nil)).dec xs with
   | none=>exact ⟨none,fun ρ K=>rfl⟩
   | some a =>
     cases Os.nil.dec os with
     | none=>exact ⟨none,fun ρ K=>rfl⟩
     | some b =>
       refine ⟨(f a b).map fun r=>((Pt.int .i64).enc r.1,Os.nil.enc r.2),fun ρ K=>?_⟩
       show ((f a b).bind fun r=>K ((Pt.int .i64).enc r.1) (Os.nil.enc r.2))=_
       cases f a b <;> rfl
 · have hrun:(((Ps.cons p (.cons q .nil)).dec xs).bind fun a=>(Os.nil.dec os).bind fun b=>(f a b).bind fun r=>some ((Pt.int .i64).enc r.1,Os.nil.enc r.2))=some (v,S):=hrun
   obtain ⟨a,h1,h2⟩:=Option.bind_eq_some_iff.1 hrun
   obtain ⟨b,h3,h4⟩:=Option.bind_eq_some_iff.1 h2
   obtain ⟨r,h5,h6⟩:=Option.bind_eq_some_iff.1 h4
   rw [hF] at h5
   cases h5
   cases h6
   have h1:=(Ps.cons p (.cons q .nil)).ok _ _ h1
   have h3:=Os.nil.ok _ _ h3
   subst h1 h3
   obtain ⟨x,_,rfl,k1,y,_,rfl,k2,rfl⟩:=hV
   have hm:=I.mem
   obtain ⟨s,r1,e1⟩:=azF (P:=P) hm (hp a.1) k1
   obtain ⟨t,r2,e2⟩:=azF (P:=P) hm (hq a.2.1) k2
   have hr:=aDA r1 r2
   rw [← e1,← e2] at hr
   refine .inl ⟨hg,.inr ⟨fun l e=>?_,.int .i64 (cmpL a.1 a.2.1),w,?_,M,ι,θ,⟨I.os,I.tape,I.output,I.size,I.memle,I.mem,I.keep,fun i cs h=>?_,fun i j cs cs' h=>?_,fun q g h=>?_,fun q h=>?_,fun p q g h=>?_,⟨I.base.1,I.base.2.1,I.base.2.2.1,fun i cs _ h=>?_⟩,I.shp⟩,⟨rfl,aD1 _ _⟩,trivial,trivial⟩⟩
   · have e:some x=some _:=e
     cases e
     rcases hp a.1 with ⟨_,_,e⟩ | e
     · rw [e] at k1; obtain ⟨_,_,e,_⟩:=k1; cases e
     · rw [e] at k1; obtain ⟨_,e,_⟩:=k1; cases e
   · rw [run_callFunc_extern hf hname hb hn he,hr]; rfl
   · exact absurd (show ([]:List Obj)[i]?=some cs from h) (by simp)
   · exact absurd (show ([]:List Obj)[i]?=some cs from h) (by simp)
   · exact absurd (show Nat.blt q 0=true from h) (by simp)
   · exact absurd (show Nat.blt q 0=true from h) (by simp)
   · exact absurd (show Nat.blt p 0=true from h) (by simp)
   · exact absurd (show ([]:List Obj)[i]?=some cs from h) (by simp)
def aJV (i:Nat) (as:List TV):Bool:=match as[i]? with
 | some (.sl _ _ _ _)=>true
 | _=>false
theorem adJ {ρ:Type} (k:Nat) (x:Option ρ):jmp (k+1) x=x:=rfl
theorem aIo (l:List Int):isB ((Pt.sl (.int .u8)).enc l) l:=.inl ⟨_,_,rfl⟩
end Go.Proofs.Ytgmeimbamfggkaa.Den
