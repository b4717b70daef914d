import Derived.Test.YtgmeimbamfggkaaDen28
namespace Go.Proofs.Ytgmeimbamfggkaa.Den
open Go
structure Pt (A:Type) where
 enc:A→TV
 dec:TV→Option A
 ok:∀ v a,dec v=some a→v=enc a
def Pt.int (k:IntKind):Pt Int where
 enc n:=.int k n
 dec v:=match v with
    | .int k' n=>if k=k' then some n else none
    | _=>none
 ok v a h:=by
    split at h
    · split at h
      · rename_i e; subst e; cases h; rfl
      · cases h
    · cases h
def Pt.bool : Pt Bool where
 enc b:=.bool b
 dec v:=match v with
    | .bool b=>some b
    | _=>none
 ok v a h:=by
    split at h
    · cases h; rfl
    · cases h
def Pt.str : Pt (List Int) where
 enc s:=.str s
 dec v:=match v with
    | .str s=>some s
    | _=>none
 ok v a h:=by
    split at h
    · cases h; rfl
    · cases h
def Pt.sl (t:Ty):Pt (List t.D) where
 enc l:=.sl t .sh none l
 dec v:=match v with
    | .sl t' .sh none l=>if h:t'=t then some (h ▸ l) else none
    | _=>none
 ok v a h:=by
    split at h
    · split at h
      · rename_i e; subst e; cases h; rfl
      · cases h
    · cases h
def Pt.slN (t:Ty):Pt (Bool×List t.D) where
 enc l:=.sl t .sh (some l.1) l.2
 dec v:=match v with
    | .sl t' .sh (some b) l=>if h:t'=t then some (b,h ▸ l) else none
    | _=>none
 ok v a h:=by
    split at h
    · split at h
      · rename_i e; subst e; cases h; rfl
      · cases h
    · cases h
def Pt.full (t:Ty):Pt (List t.D) where
 enc l:=.sl t .full none l
 dec v:=match v with
    | .sl t' .full none l=>if h:t'=t then some (h ▸ l) else none
    | _=>none
 ok v a h:=by
    split at h
    · split at h
      · rename_i e; subst e; cases h; rfl
      · cases h
    · cases h
def Pt.own (q:Nat) (t:Ty):Pt (List t.D) where
 enc l:=.sl t (.own q) none l
 dec v:=match v with
    | .sl t' (.own q') none l=>if h:t'=t then (if q=q' then some (h ▸ l) else none) else none
    | _=>none
 ok v a h:=by
    split at h
    · split at h
      · rename_i e; subst e
        split at h
        · rename_i e; subst e; cases h; rfl
        · cases h
      · cases h
    · cases h
def Pt.st (t:Ty):Pt t.D where
 enc x:=.st t x
 dec v:=match v with
    | .st t' x=>if h:t'=t then some (h ▸ x) else none
    | _=>none
 ok v a h:=by
    split at h
    · split at h
      · rename_i e; subst e; cases h; rfl
      · cases h
    · cases h
def Pt.ptr (i o:Nat):Pt Unit where
 enc _:=.ptr i o
 dec v:=match v with
    | .ptr i' o'=>bif Nat.beq i i'&&Nat.beq o o' then some () else none
    | _=>none
 ok v a h:=by
    split at h
    · rename_i i' o'
      cases hb:(Nat.beq i i'&&Nat.beq o o') with
      | false=>rw [hb] at h; cases h
      | true =>
        rw [Bool.and_eq_true,Nat.beq_eq,Nat.beq_eq] at hb
        rw [hb.1,hb.2]
    · cases h
def Pt.ownN (q:Nat) (t:Ty):Pt (Bool×List t.D) where
 enc l:=.sl t (.own q) (some l.1) l.2
 dec v:=match v with
    | .sl t' (.own q') (some b) l=>if h:t'=t then (if q=q' then some (b,h ▸ l) else none) else none
    | _=>none
 ok v a h:=by
    split at h
    · split at h
      · rename_i e; subst e
        split at h
        · rename_i e; subst e; cases h; rfl
        · cases h
      · cases h
    · cases h
def Pt.nilp : Pt Unit where
 enc _:=.nilp
 dec v:=match v with
    | .nilp=>some ()
    | _=>none
 ok v a h:=by
    split at h
    · rfl
    · cases h
def Pt.asl (t:Ty) (i:Nat):Pt Unit where
 enc _:=.ref (.asl t) i
 dec v:=match v with
    | .ref (.asl t') j=>if t'=t then (if i=j then some () else none) else none
    | _=>none
 ok v a h:=by
    split at h
    · split at h
      · rename_i e; subst e
        split at h
        · rename_i e; subst e; rfl
        · cases h
      · cases h
    · cases h
def Pt.asv (t:Ty) (i:Nat):Pt (Nat×Nat) where
 enc x:=.ref (.asv t x.1 x.2) i
 dec v:=match v with
    | .ref (.asv t' a n) j=>if t'=t then (if i=j then some (a,n) else none) else none
    | _=>none
 ok v a h:=by
    split at h
    · split at h
      · rename_i e; subst e
        split at h
        · rename_i e; subst e; cases h; rfl
        · cases h
      · cases h
    · cases h
def Pt.asv0 (t:Ty) (i:Nat):Pt Nat where
 enc x:=.ref (.asv t 0 x) i
 dec v:=match v with
    | .ref (.asv t' 0 n) j=>if t'=t then (if i=j then some n else none) else none
    | _=>none
 ok v a h:=by
    split at h
    · split at h
      · rename_i e; subst e
        split at h
        · rename_i e; subst e; cases h; rfl
        · cases h
      · cases h
    · cases h
def Pt.row (t:Ty):Pt (List t.D) where
 enc l:=.blk (.row t l)
 dec v:=match v with
    | .blk (.row t' l)=>if h:t'=t then some (h ▸ l) else none
    | _=>none
 ok v a h:=by
    split at h
    · split at h
      · rename_i e; subst e; cases h; rfl
      · cases h
    · cases h
def Pt.mp (kt vt:Ty) (i:Nat):Pt Unit where
 enc _:=.ref (.mp kt vt) i
 dec v:=match v with
    | .ref (.mp k u) j=>if k=kt∧u=vt then (if i=j then some () else none) else none
    | _=>none
 ok v a h:=by
    split at h
    · split at h
      · rename_i e
        obtain ⟨rfl,rfl⟩:=e
        split at h
        · rename_i e; subst e; rfl
        · cases h
      · cases h
    · cases h
def Pt.mpo (kt vt:Ty):Pt (List (kt.D×vt.D)) where
 enc l:=.blk (.mp kt vt l)
 dec v:=match v with
    | .blk (.mp k u l)=>if h:k=kt∧u=vt then some (h.1 ▸ h.2 ▸ l) else none
    | _=>none
 ok v a h:=by
    split at h
    · split at h
      · rename_i e
        obtain ⟨rfl,rfl⟩:=e
        cases h; rfl
      · cases h
    · cases h
def eqLB {α:Type} (f:α→α→Bool):List α→List α→Bool
 | [],[]=>true
 | a :: x,b :: y=>f a b&&eqLB f x y
 | _,_=>false
theorem aDf {α:Type} {f:α→α→Bool} (h:∀ a b,f a b=true→a=b):∀ (x y:List α),eqLB f x y=true→x=y
 | [],[],_=>rfl
 | a :: x,b :: y,k=>by
   simp only [eqLB,Bool.and_eq_true] at k
   rw [h a b k.1,aDf h x y k.2]
 | [],_ :: _,k=>by simp [eqLB] at k
 | _ :: _,[],k=>by simp [eqLB] at k
def Ty.eqD : (t:Ty)→(x y:t.D)→Bool
 | .bool,x,y=>beqB x y
 | .int _,x,y=>beqI x y
 | .str,x,y=>eqLB beqI x y
 | .sl t,x,y=>eqLB t.eqD x y
 | .unit,_,_=>true
 | .pair a b,x,y=>a.eqD x.1 y.1&&b.eqD x.2 y.2
 | .st b,x,y=>b.eqD x y
 | .ex,_,_=>false
 | .op _,_,_=>true
theorem Ty.eqD_eq : ∀ (t:Ty) (x y:t.D),t.eqD x y=true→x=y
 | .bool,x,y,h=>by have h:@Eq Bool x y:=(by simpa [Ty.eqD,beqB] using h); exact h
 | .int _,x,y,h=>by have h:@Eq Int x y:=(by simpa [Ty.eqD,beqI] using h); exact h
 | .str,x,y,h=>aDf (fun a b h=>by simpa [beqI] using h) x y h
 | .sl t,x,y,h=>aDf t.eqD_eq x y h
 | .unit,_,_,_=>rfl
 | .pair a b,x,y,h=>by
   simp only [Ty.eqD,Bool.and_eq_true] at h
   exact Prod.ext (a.eqD_eq _ _ h.1) (b.eqD_eq _ _ h.2)
 | .st b,x,y,h=>b.eqD_eq x y h
 | .ex,_,_,h=>by cases h
 | .op _,_,_,_=>rfl
def Pt.cst (t:Ty) (x0:t.D):Pt Unit where
 enc _:=.st t x0
 dec v:=match v with
    | .st t' x=>if h:t'=t then (bif t.eqD (h ▸ x) x0 then some () else none) else none
    | _=>none
 ok v a h:=by
    split at h
    · split at h
      · rename_i x e
        subst e
        cases hb:Ty.eqD _ x x0 with
        | false=>rw [show (bif Ty.eqD _ x x0 then some () else none)=none by rw [hb]; rfl] at h; cases h
        | true=>rw [Ty.eqD_eq _ _ _ hb]
      · cases h
    · cases h
structure Ps (A:Type) where
 enc:A→List TV
 dec:List TV→Option A
 ok:∀ v a,dec v=some a→v=enc a
def Ps.nil : Ps Unit where
 enc _:=[]
 dec v:=match v with
    | []=>some ()
    | _=>none
 ok v a h:=by
    split at h
    · rfl
    · cases h
def Ps.cons {A B:Type} (p:Pt A) (q:Ps B):Ps (A×B) where
 enc x:=p.enc x.1 :: q.enc x.2
 dec v:=match v with
    | x :: r=>(p.dec x).bind fun a=>(q.dec r).bind fun b=>some (a,b)
    | []=>none
 ok v a h:=by
    split at h
    · obtain ⟨x,h1,h2⟩:=Option.bind_eq_some_iff.1 h
      obtain ⟨y,h3,h4⟩:=Option.bind_eq_some_iff.1 h2
      cases h4
      rw [p.ok _ _ h1,q.ok _ _ h3]
    · cases h
def Pt.tup {A:Type} (q:Ps A):Pt A where
 enc a:=.tup (q.enc a)
 dec v:=match v with
    | .tup l=>q.dec l
    | _=>none
 ok v a h:=by
    split at h
    · rw [q.ok _ _ h]
    · cases h
def Pt.fn {A:Type} (g:FuncId) (q:Ps A):Pt A where
 enc a:=.fn g (q.enc a)
 dec v:=match v with
    | .fn g' l=>if g=g' then q.dec l else none
    | _=>none
 ok v a h:=by
    split at h
    · split at h
      · rename_i e; subst e; rw [q.ok _ _ h]
      · cases h
    · cases h
def Pt.ag {A:Type} (q:Ps A):Pt A where
 enc a:=.ag (q.enc a)
 dec v:=match v with
    | .ag l=>q.dec l
    | _=>none
 ok v a h:=by
    split at h
    · rw [q.ok _ _ h]
    · cases h
structure Os (A:Type) where
 enc:A→List Obj
 dec:List Obj→Option A
 ok:∀ v a,dec v=some a→v=enc a
def Os.nil : Os Unit where
 enc _:=[]
 dec v:=match v with
    | []=>some ()
    | _=>none
 ok v a h:=by
    split at h
    · rfl
    · cases h
def Os.cons {A B:Type} (p:Ps A) (q:Os B):Os (A×B) where
 enc x:=p.enc x.1 :: q.enc x.2
 dec v:=match v with
    | x :: r=>(p.dec x).bind fun a=>(q.dec r).bind fun b=>some (a,b)
    | []=>none
 ok v a h:=by
    split at h
    · obtain ⟨x,h1,h2⟩:=Option.bind_eq_some_iff.1 h
      obtain ⟨y,h3,h4⟩:=Option.bind_eq_some_iff.1 h2
      cases h4
      rw [p.ok _ _ h1,q.ok _ _ h3]
    · cases h
def acJ (i:Nat) (as:List TV):Bool:=match as[i]? with
 | some .nilp=>true
 | _=>false
def ake (i:Nat) (as:List TV):Bool:=match as[i]? with
 | some (.ref _ _)=>true
 | _=>false
def atV (i g:Nat) (as:List TV):Bool:=match as[i]? with
 | some (.fn f _)=>Nat.beq f g
 | _=>false
def mkSp {A B R C:Type} (inp:Ps A) (ino:Os B) (out:Pt R) (ouo:Os C) (f:A→B→Option (R×C)) (pars:List NK) (objs:List (List NK)) (toks:Nat) (sel:List TV→Bool):Spec :=
 { run:=fun xs os K=>(inp.dec xs).bind fun a=>(ino.dec os).bind fun b=>(f a b).bind fun r=>K (out.enc r.1) (ouo.enc r.2)
   pars:=pars,objs:=objs,toks:=toks,sel:=sel }
def rd {R C:Type} (out:Pt R) (ouo:Os C):TV→List Obj→Option (R×C):=fun v S=>(out.dec v).bind fun r=>(ouo.dec S).bind fun c=>some (r,c)
theorem abd {P:Program} {Γ:Env} {E:Table} (hΓ:EnvOk P Γ) (hE:TabOk P E) {g:FuncId} {fn:Func} {c:Code} {res:List ResultVar} {nt:Nat} (hf:P.funcs[g]?=some fn) (hb:fn.body=some c) (hname:(fn.name == "runtime.NumGoroutine")=false)
 (hr:fn.results.toList=res) (hn:fn.ntmps=nt) {A B R C:Type} {inp:Ps A} {ino:Os B} {out:Pt R} {ouo:Os C} {f:A→B→Option (R×C)} {pars:List NK} {objs:List (List NK)} {toks:Nat} {sel:List TV→Bool} {k:Nat} {h:Hint} {W:List Norm} {qs:List Nat}
 (hq:(mkSp inp ino out ouo f pars objs toks sel).qs=qs)
 (hx:∀ a b,f a b=fnK Γ E k h c nt res toks W qs (inp.enc a) (ino.enc b) (rd out ouo)) (hg:g < YB:=by decide):SpecOk P g (mkSp inp ino out ouo f pars objs toks sel):=by
 subst hr hn hq
 refine aG2 hΓ hE hf hb hname hg (fun xs os=>?_) (fun xs os v S hrun=>?_)
 · show ∃ out':Option (TV×List Obj),∀ (ρ:Type) (K:TV→List Obj→Option ρ),((inp.dec xs).bind fun a=>(ino.dec os).bind fun b=>(f a b).bind fun r=>K (out.enc r.1) (ouo.enc r.2))=_
   cases inp.dec xs with
   | none=>exact ⟨none,fun ρ K=>rfl⟩
   | some a =>
     cases ino.dec os with
     | none=>exact ⟨none,fun ρ K=>rfl⟩
     | some b =>
       refine ⟨(f a b).map fun r=>(out.enc r.1,ouo.enc r.2),fun ρ K=>?_⟩
       show ((f a b).bind fun r=>K (out.enc r.1) (ouo.enc r.2))=_
       cases f a b <;> rfl
 · have hrun:((inp.dec xs).bind fun a=>(ino.dec os).bind fun b=>(f a b).bind fun r=>some (out.enc r.1,ouo.enc r.2))=some (v,S):=hrun
   obtain ⟨a,h1,h2⟩:=Option.bind_eq_some_iff.1 hrun
   obtain ⟨b,h3,h4⟩:=Option.bind_eq_some_iff.1 h2
   obtain ⟨r,h5,h6⟩:=Option.bind_eq_some_iff.1 h4
   cases h6
   rw [hx,← inp.ok _ _ h1,← ino.ok _ _ h3] at h5
   refine ⟨k,h,W,R×C,r,rd out ouo,h5,fun v' S' hv=>?_⟩
   obtain ⟨r1,k1,k2⟩:=Option.bind_eq_some_iff.1 hv
   obtain ⟨c1,k3,k4⟩:=Option.bind_eq_some_iff.1 k2
   cases k4
   exact ⟨out.ok _ _ k1,ouo.ok _ _ k3⟩
def sm {A B ρ:Type} (z:A ⊕ B) (f:A→ρ) (g:B→ρ):ρ:=match z with
 | .inl x=>f x
 | .inr y=>g y
structure Ou (Z:Type) where
 elim:{ρ:Type}→Z→(TV→List Obj→Option ρ)→Option ρ
 dec:TV→List Obj→Option Z
 enc:Z→TV×List Obj
 ok:∀ v S z,dec v S=some z→(v,S)=enc z
 el:∀ {ρ:Type} z (K:TV→List Obj→Option ρ),elim z K=K (enc z).1 (enc z).2
def Ou.one {R C:Type} (out:Pt R) (ouo:Os C):Ou (R×C) where
 elim z K:=K (out.enc z.1) (ouo.enc z.2)
 dec v S:=(out.dec v).bind fun r=>(ouo.dec S).bind fun c=>some (r,c)
 enc z:=(out.enc z.1,ouo.enc z.2)
 ok v S z h:=by
    obtain ⟨r,h1,h2⟩:=Option.bind_eq_some_iff.1 h
    obtain ⟨c,h3,h4⟩:=Option.bind_eq_some_iff.1 h2
    cases h4
    rw [out.ok _ _ h1,ouo.ok _ _ h3]
 el _ _:=rfl
def Ou.or {A B:Type} (p:Ou A) (q:Ou B):Ou (A ⊕ B) where
 elim z K:=sm z (fun x=>p.elim x K) (fun y=>q.elim y K)
 dec v S:=match p.dec v S with
    | some x=>some (.inl x)
    | none=>(q.dec v S).map .inr
 enc z:=sm z p.enc q.enc
 ok v S z h:=by
    split at h
    · rename_i x hx; cases h; exact p.ok _ _ _ hx
    · obtain ⟨y,hy,rfl⟩:=Option.map_eq_some_iff.1 h
      exact q.ok _ _ _ hy
 el z K:=by
    cases z with
    | inl x=>exact p.el x K
    | inr y=>exact q.el y K
def aBg {A B Z:Type} (inp:Ps A) (ino:Os B) (o:Ou Z) (f:A→B→Option Z) (pars:List NK) (objs:List (List NK)) (toks:Nat) (sel:List TV→Bool):Spec :=
 { run:=fun xs os K=>(inp.dec xs).bind fun a=>(ino.dec os).bind fun b=>(f a b).bind fun z=>o.elim z K
   pars:=pars,objs:=objs,toks:=toks,sel:=sel }
theorem aJ3 {A B Z:Type} {inp:Ps A} {ino:Os B} {o:Ou Z} {f:A→B→Option Z} (xs:List TV) (os:List Obj):∃ out':Option (TV×List Obj),∀ (ρ:Type) (K:TV→List Obj→Option ρ),
 ((inp.dec xs).bind fun a=>(ino.dec os).bind fun b=>(f a b).bind fun z=>o.elim z K)=out'.bind fun p=>K p.1 p.2:=by
 cases inp.dec xs with
 | none=>exact ⟨none,fun ρ K=>rfl⟩
 | some a =>
   cases ino.dec os with
   | none=>exact ⟨none,fun ρ K=>rfl⟩
   | some b =>
     refine ⟨(f a b).map o.enc,fun ρ K=>?_⟩
     show ((f a b).bind fun z=>o.elim z K)=_
     cases f a b with
     | none=>rfl
     | some z=>exact o.el z K
theorem aEg {P:Program} {Γ:Env} {E:Table} (hΓ:EnvOk P Γ) (hE:TabOk P E) {g:FuncId} {fn:Func} {c:Code} {res:List ResultVar} {nt:Nat} (hf:P.funcs[g]?=some fn) (hb:fn.body=some c) (hname:(fn.name == "runtime.NumGoroutine")=false)
 (hr:fn.results.toList=res) (hn:fn.ntmps=nt) {A B Z:Type} {inp:Ps A} {ino:Os B} {o:Ou Z} {f:A→B→Option Z} {pars:List NK} {objs:List (List NK)} {toks:Nat} {sel:List TV→Bool} {k:Nat} {h:Hint} {W:List Norm} {qs:List Nat}
 (hq:(aBg inp ino o f pars objs toks sel).qs=qs)
 (hx:∀ a b,f a b=fnK Γ E k h c nt res toks W qs (inp.enc a) (ino.enc b) o.dec) (hg:g < YB:=by decide):SpecOk P g (aBg inp ino o f pars objs toks sel):=by
 subst hr hn hq
 refine aG2 hΓ hE hf hb hname hg (fun xs os=>aJ3 xs os) (fun xs os v S hrun=>?_)
 have hrun:((inp.dec xs).bind fun a=>(ino.dec os).bind fun b=>(f a b).bind fun z=>o.elim z fun v S=>some (v,S))=some (v,S):=hrun
 obtain ⟨a,h1,h2⟩:=Option.bind_eq_some_iff.1 hrun
 obtain ⟨b,h3,h4⟩:=Option.bind_eq_some_iff.1 h2
 obtain ⟨z,h5,h6⟩:=Option.bind_eq_some_iff.1 h4
 rw [o.el] at h6
 have h6:o.enc z=(v,S):=Option.some.inj h6
 rw [hx,← inp.ok _ _ h1,← ino.ok _ _ h3] at h5
 refine ⟨k,h,W,Z,z,o.dec,h5,fun v' S' hv=>?_⟩
 have:=o.ok v' S' z hv
 rw [h6] at this
 exact ⟨congrArg Prod.fst this,congrArg Prod.snd this⟩
theorem TabOk.nil {P:Program}:TabOk P []:=fun g xs sp h=>by cases h
theorem TabOk.cons {P:Program} {g:Nat} {sp:Spec} {E:Table} (h:SpecOk P g sp) (hE:TabOk P E):TabOk P ((g,sp) :: E):=by
 intro g' xs sp' h'
 have h':(bif Nat.beq g g'&&sp.sel xs then some sp else E.find g' xs)=some sp':=h'
 cases hb:(Nat.beq g g'&&sp.sel xs) with
 | true =>
   rw [hb] at h'
   rw [Bool.and_eq_true,Nat.beq_eq] at hb
   cases h'
   obtain ⟨rfl,_⟩:=hb
   exact h
 | false=>rw [hb] at h'; exact hE g' xs sp' h'
def lft : Code→Code
 | .seq a _=>a
 | .cond _ a _=>a
 | .block _ a=>a
 | .scope a=>a
 | .loop a=>a
 | c=>c
def rgt : Code→Code
 | .seq _ b=>b
 | .cond _ _ b=>b
 | c=>c
noncomputable def bodyOf (f:Func):Code:=f.body.getD .skip
end Go.Proofs.Ytgmeimbamfggkaa.Den
