import Derived.Test.YtgmeimbamfggkaaDen29
import Derived.Below
namespace Go.Proofs.Ytgmeimbamfggkaa.Den
open Go Go.RowKit
def snap (W:World):Mem:=fun b i=>W.cell? ⟨b,i,none⟩
theorem law_calls {P:Program} {g:FuncId} {fn:Func} {c:Code} {sp:Spec} (h:SpecOk P g sp) (hf:P.funcs[g]?=some fn) (hb:fn.body=some c) (hname:(fn.name == "runtime.NumGoroutine")=false)
 (hq:sp.qs=[]) {xs:List TV} {V:List Value} {v:TV} {x:Value} {W:World} (hv:∀ (M:Mem) (ι:Nat→Nat) (y:Value),rv M ι v y→y=x) (hr:sp.run xs [] (fun v S=>some (v,S))=some (v,[]))
 (hV:rvs (snap W) id xs V) (hT:tcs W (snap W) (fun _=>none) (fun _=>false) 0 xs V) (hW:abE W [] xs V)
 (hg:g < YB:=by decide):Calls P g V.toArray W fun e W'=>e=.returned x∧Below W.heap.size W W':=by
 have I:Inv W (snap W) { X:=fun _=>False,n:=0,ι:=id,S:=[] } (beg sp []) W (snap W) id (fun _=>none):=by
  refine ⟨rfl,rfl,rfl,Nat.le_refl _,Mem.le_refl _,fun _ _ _ h=>h,fun _ _ _=>⟨rfl,fun _=>rfl⟩,fun i cs h=>?_,fun i j cs cs' h=>?_,(fun q g h hg=>by cases hg),fun q h=>?_,(fun p q g _ _ hp=>by cases hp),⟨rfl,Nat.zero_le _,fun _ _=>rfl,fun i cs hi=>absurd hi (Nat.not_lt_zero _)⟩,Shp.refl _⟩
  · have h:([]:List Obj)[i]?=some cs:=h
    simp at h
  · have h:([]:List Obj)[i]?=some cs:=h
    simp at h
  · have h:sp.qs.any (Nat.beq q)=true:=h
    rw [hq] at h; cases h
 have hT':tcs W (snap W) (fun _=>none) (beg sp []).O (beg sp []).c xs V:=aBI (by show 0≤_; omega) (fun q hq=>absurd hq (Nat.not_lt_zero _)) xs V hT
 have hcall:=h.ok xs [] v [] hr W (snap W) _ id (fun _=>none) V I hV hT' hW
 have key:∀ y W',(∃ M' ι' θ',Inv W (snap W) { X:=fun _=>False,n:=0,ι:=id,S:=[] } (fin [] sp.toks 0) W' M' ι' θ'∧rv M' ι' v y∧tc W' M' θ' (fin [] sp.toks 0).O sp.toks v y∧aaI W' [] v y)→y=x∧Below W.heap.size W W':=by
  rintro y W' ⟨M',ι',θ',J,j1,_,_⟩
  exact ⟨hv _ _ _ j1,J.os,J.tape,J.output,J.size,fun k hk=>(J.keep k hk (fun h=>h)).1⟩
 rcases hcall.fn hg with ⟨fn',h1,h2,h3,h4⟩ | ⟨_,y,W',h1,_⟩
 · refine h4.mono ?_
   rintro e W' ⟨y,rfl,hy⟩
   obtain ⟨rfl,hB⟩:=key y W' hy
   exact ⟨rfl,hB⟩
 · exfalso
   have hbody:fn.body.isNone=false:=by rw [hb]; rfl
   have:(callFunc g V.toArray).run P W=.ok (.enter g V.toArray) W:=by
    simp only [callFunc,Sem.run_bind,run_program,Result.andThen_ok,hf,hbody,hname,Bool.false_eq_true,if_false,Sem.run_pure]
   rw [this] at h1
   injection h1 with e1
   cases e1
theorem rv_true (M:Mem) (ι:Nat→Nat) (y:Value) (h:rv M ι (.bool true) y):y=.bool true:=h
end Go.Proofs.Ytgmeimbamfggkaa.Den
