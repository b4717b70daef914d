import Derived.Test.YtgmeimbamfggkaaDen36
namespace Go.Proofs.Ytgmeimbamfggkaa.Den
open Go
structure RJ where
 ps:Array Tmp
 assign:Code
 body:Code
def rjOf : Code→RJ
 | .rangeFunc _ ps a b=>⟨ps,a,b⟩
 | _=>⟨#[],.skip,.skip⟩
def Pt.yl (i:Nat):Pt Unit where
 enc _:=.ref .yl i
 dec v:=match v with
    | .ref .yl j=>bif Nat.beq i j then some () else none
    | _=>none
 ok v a h:=by
    split at h
    · rename_i j
      cases hb:Nat.beq i j with
      | false=>rw [hb] at h; cases h
      | true=>rw [Nat.beq_eq] at hb; rw [hb]
    · cases h
def Pt.cb (b:Bool):Pt Unit where
 enc _:=.bool b
 dec v:=match v with
    | .bool c=>bif beqB b c then some () else none
    | _=>none
 ok v a h:=by
    split at h
    · rename_i c
      cases b <;> cases c <;> first | rfl | cases h
    · cases h
def Pt.und : Pt Unit where
 enc _:=.undef
 dec v:=match v with
    | .undef=>some ()
    | _=>none
 ok v a h:=by
    split at h
    · rfl
    · cases h
def Pt.one (t:Ty) (i:Nat):Pt Unit where
 enc _:=.ref (.one t) i
 dec v:=match v with
    | .ref (.one t') j=>if t'=t then (if i=j then some () else none) else none
    | _=>none
 ok v a h:=by
    split at h
    · split at h
      · rename_i e; subst e
        split at h
        · rename_i e; subst e; rfl
        · cases h
      · cases h
    · cases h
def Pt.pel (t:Ty) (i:Nat):Pt Nat where
 enc x:=.ref (.pel t x none) i
 dec v:=match v with
    | .ref (.pel t' n none) j=>if t'=t then (if i=j then some n else none) else none
    | _=>none
 ok v a h:=by
    split at h
    · split at h
      · rename_i e; subst e
        split at h
        · rename_i e; subst e; cases h; rfl
        · cases h
      · cases h
    · cases h
def Pt.s1 (t:Ty):Pt t.D where
 enc x:=.sl t .sh (some false) [x]
 dec v:=match v with
    | .sl t' .sh (some false) [x]=>if h:t'=t then some (h ▸ x) else none
    | _=>none
 ok v a h:=by
    split at h
    · split at h
      · rename_i e; subst e; cases h; rfl
      · cases h
    · cases h
def aJU (i:Nat) (as:List TV):Bool:=match as[i]? with
 | some (.sl _ _ (some false) [_])=>true
 | _=>false
def Pt.lpr (id:Nat):Pt RJ where
 enc r:=.blk (.lp ⟨id,r.ps,r.assign,r.body⟩ .rdy)
 dec v:=match v with
    | .blk (.lp q .rdy)=>bif Nat.beq q.id id then some ⟨q.ps,q.assign,q.body⟩ else none
    | _=>none
 ok v a h:=by
    split at h
    · rename_i q
      cases hb:Nat.beq q.id id with
      | false=>rw [hb] at h; cases h
      | true=>rw [hb] at h; rw [Nat.beq_eq] at hb; cases h; rw [← hb]
    · cases h
def Pt.lpd (id:Nat):Pt RJ where
 enc r:=.blk (.lp ⟨id,r.ps,r.assign,r.body⟩ (.done .ret))
 dec v:=match v with
    | .blk (.lp q (.done .ret))=>bif Nat.beq q.id id then some ⟨q.ps,q.assign,q.body⟩ else none
    | _=>none
 ok v a h:=by
    split at h
    · rename_i q
      cases hb:Nat.beq q.id id with
      | false=>rw [hb] at h; cases h
      | true=>rw [hb] at h; rw [Nat.beq_eq] at hb; cases h; rw [← hb]
    · cases h
theorem aI8 {P:Program} {Γ:Env} {E:Table} (hΓ:EnvOk P Γ) (hE:TabOk P E) {g:FuncId}
 {A B Z:Type} {inp:Ps A} {ino:Os B} {o:Ou Z} {f:A→B→Option Z} {pars:List NK} {objs:List (List NK)} {toks:Nat} {sel:List TV→Bool} {k:Nat} {h1 h2:Hint} {W:List Norm} {qs:List Nat}
 (hq:(aBg inp ino o f pars objs toks sel).qs=qs)
 (hx:∀ a b,f a b=rndK Γ E k h1 h2 toks W qs (inp.enc a) (ino.enc b) o.dec) (hg:YB≤g:=by decide):SpecOk P g (aBg inp ino o f pars objs toks sel):=by
 subst hq
 refine aJ_ hΓ hE hg (fun xs os=>aJ3 xs os) (fun xs os v S hrun=>?_)
 have hrun:((inp.dec xs).bind fun a=>(ino.dec os).bind fun b=>(f a b).bind fun z=>o.elim z fun v S=>some (v,S))=some (v,S):=hrun
 obtain ⟨a,e1,e2⟩:=Option.bind_eq_some_iff.1 hrun
 obtain ⟨b,e3,e4⟩:=Option.bind_eq_some_iff.1 e2
 obtain ⟨z,e5,e6⟩:=Option.bind_eq_some_iff.1 e4
 rw [o.el] at e6
 have e6:o.enc z=(v,S):=Option.some.inj e6
 rw [hx,← inp.ok _ _ e1,← ino.ok _ _ e3] at e5
 refine ⟨k,h1,h2,W,Z,z,o.dec,e5,fun v' S' hv=>?_⟩
 have:=o.ok v' S' z hv
 rw [e6] at this
 exact ⟨congrArg Prod.fst this,congrArg Prod.snd this⟩
end Go.Proofs.Ytgmeimbamfggkaa.Den
