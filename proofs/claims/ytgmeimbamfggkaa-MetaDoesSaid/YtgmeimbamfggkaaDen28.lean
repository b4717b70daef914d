import Derived.Test.YtgmeimbamfggkaaDen27
namespace Go.Proofs.Ytgmeimbamfggkaa.Den
open Go
def aHy : List (Nat×Nat×Nat)→Nat→Nat→Option Nat
 | [],_,_=>none
 | (a,b,q) :: r,n,f=>bif Nat.beq a n&&Nat.beq b f then some q else aHy r n f
def aIB (tys:List (Nat×Ty)) (ones isps:List Nat) (offs:List (Nat×Nat×Nat)):Env :=
 { ty:=look tys,one:=fun n=>ones.any (Nat.beq n),isp:=fun n=>isps.any (Nat.beq n),off:=aHy offs,rw:=true,row:=fun _=>0,rr:=true,le:=fun _=>false,lo:=fun _=>false,ar:=fun _=>none,mt:=fun _=>none }
def aqI (Γ:Env) (rows:List (Nat×Nat)):Env:={ Γ with row:=fun t=>(look rows t).getD 0 }
theorem EnvOk.rows {P:Program} {Γ:Env} (h:EnvOk P Γ) (rows:List (Nat×Nat)):EnvOk P (aqI Γ rows):=⟨h.ty,h.eq,h.one,h.isp,h.mixed,h.off,h.ar,h.mt⟩
def oneB (P:Program) (n:Nat):Bool :=
 match P.underlying n with
 | some d=>(match d with | .struct _ | .array _ _=>false | _=>true)&&(match P.info? n with | some i=>Nat.beq i.size 1 | none=>false)
 | none=>false
def ispB (P:Program) (n:Nat):Bool:=match P.underlying n with
 | some (.pointer m)=>Nat.beq m (P.pointee n)
 | _=>false
def offB (P:Program) (n f q:Nat):Bool:=match P.underlying n with
 | some (.struct fs)=>match fs[f]? with
   | some fd=>Nat.beq fd.offset q&&(match P.info? fd.type with | some i=>!Nat.beq i.size 0 | none=>false)
   | none=>false
 | _=>false
def eqB (P:Program) (p:Nat×Ty):Bool:=match p.2 with
 | .st _=>!P.eqGuardType P.depth p.1
 | _=>true
def envB (P:Program) (tys:List (Nat×Ty)) (ones isps:List Nat) (offs:List (Nat×Nat×Nat)):Bool :=
 tys.all (fun p=>tyOk P p.2 p.1)&&tys.all (eqB P)&&ones.all (oneB P)&&isps.all (ispB P)&&offs.all (fun p=>offB P p.1 p.2.1 p.2.2)&&P.follows .mixedOrders
theorem avD {α:Type}:∀ {l:List (Nat×α)} {n:Nat} {v:α},look l n=some v→(n,v)∈l
 | [],_,_,h=>by cases h
 | (a,x) :: r,n,v,h=>by
   have h:(bif Nat.beq a n then some x else look r n)=some v:=h
   cases hb:Nat.beq a n with
   | true =>
     rw [hb] at h
     rw [Nat.beq_eq] at hb
     cases h
     subst hb
     exact List.mem_cons_self ..
   | false=>rw [hb] at h; exact List.mem_cons_of_mem _ (avD h)
theorem aCu : ∀ {l:List (Nat×Nat×Nat)} {n f q:Nat},aHy l n f=some q→(n,f,q)∈l
 | [],_,_,_,h=>by cases h
 | (a,b,x) :: r,n,f,q,h=>by
   have h:(bif Nat.beq a n&&Nat.beq b f then some x else aHy r n f)=some q:=h
   cases hb:(Nat.beq a n&&Nat.beq b f) with
   | true =>
     rw [hb] at h
     rw [Bool.and_eq_true,Nat.beq_eq,Nat.beq_eq] at hb
     cases h
     obtain ⟨rfl,rfl⟩:=hb
     exact List.mem_cons_self ..
   | false=>rw [hb] at h; exact List.mem_cons_of_mem _ (aCu h)
theorem aFz {l:List Nat} {n:Nat} (h:l.any (Nat.beq n)=true):n∈l:=by
 obtain ⟨p,hp,e⟩:=List.any_eq_true.1 h
 rw [Nat.beq_eq] at e
 subst e; exact hp
theorem aJO {P:Program} {tys:List (Nat×Ty)} {ones isps:List Nat} {offs:List (Nat×Nat×Nat)} (h:envB P tys ones isps offs=true):EnvOk P (aIB tys ones isps offs):=by
 unfold envB at h
 simp only [Bool.and_eq_true,List.all_eq_true] at h
 obtain ⟨⟨⟨⟨⟨h1,h2⟩,h3⟩,h4⟩,h5⟩,h6⟩:=h
 refine ⟨fun n t hn=>h1 (n,t) (avD hn),fun n b hn=>?_,fun n hn=>?_,fun n hn=>?_,h6,fun n f q hn=>?_,fun n b m e hn=>(by cases hn),fun n kt vt k e hn=>by cases hn⟩
 · have:=h2 (n,.st b) (avD hn)
   simpa [eqB] using this
 · have:=h3 n (aFz hn)
   unfold oneB at this
   split at this
   · rename_i d hd
     rw [Bool.and_eq_true] at this
     obtain ⟨k1,k2⟩:=this
     split at k2
     · rename_i i hi
       exact ⟨d,i,hd,k1,hi,by simpa using k2⟩
     · cases k2
   · cases this
 · have:=h4 n (aFz hn)
   unfold ispB at this
   split at this
   · rename_i m hm
     rw [Nat.beq_eq] at this
     rw [← this]; exact hm
   · cases this
 · have:=h5 (n,f,q) (aCu hn)
   unfold offB at this
   simp only at this
   split at this
   · rename_i fs hfs
     split at this
     · rename_i fd hfd
       rw [Bool.and_eq_true] at this
       obtain ⟨k1,k2⟩:=this
       split at k2
       · rename_i i hi
         exact ⟨fs,fd,i,hfs,hfd,by simpa using k1,hi,fun e=>by rw [e] at k2; cases k2⟩
       · cases k2
     · cases this
   · cases this
def aIg (Γ:Env) (ars:List (Nat×(Ty×Nat×Nat))):Env:={ Γ with ar:=look ars }
def arsB (P:Program) (ars:List (Nat×(Ty×Nat×Nat))):Bool:=ars.all fun x =>
 (match P.underlying x.1 with | some (.array m e)=>Nat.beq m x.2.2.1&&Nat.beq e x.2.2.2 | _=>false)&&(fldW P x.2.1 (auW x.2.2.2 (P.cellsOf x.2.2.2) 0 x.2.2.1) 0&&(aiP P (.st x.2.1) x.1&&(P.info? x.2.2.2).isSome))
theorem EnvOk.ars {P:Program} {Γ:Env} (h:EnvOk P Γ) {ars:List (Nat×(Ty×Nat×Nat))} (ha:arsB P ars=true):EnvOk P (aIg Γ ars):=by
 refine ⟨h.ty,h.eq,h.one,h.isp,h.mixed,h.off,fun n b m e hn=>?_,h.mt⟩
 have:=List.all_eq_true.1 ha (n,b,m,e) (avD hn)
 simp only [Bool.and_eq_true] at this
 obtain ⟨k1,k2,k3,k4⟩:=this
 refine ⟨?_,k2,k3,k4⟩
 split at k1
 · rename_i m' e' hu
   rw [Bool.and_eq_true,Nat.beq_eq,Nat.beq_eq] at k1
   obtain ⟨rfl,rfl⟩:=k1
   exact hu
 · cases k1
def aIr (Γ:Env) (ms:List (Nat×(Ty×Ty×Nat×Nat))):Env:={ Γ with mt:=look ms }
def mapB (P:Program) (ms:List (Nat×(Ty×Ty×Nat×Nat))):Bool:=ms.all fun x =>
 (match P.underlying x.1 with | some (.map k e)=>Nat.beq k x.2.2.2.1&&Nat.beq e x.2.2.2.2 | _=>false)&&(tyOk P x.2.1 x.2.2.2.1&&(x.2.1.cmp&&(Nat.blt x.2.1.dep 9000&&(tyOk P x.2.2.1 x.2.2.2.2&&!P.eqGuardType P.depth x.2.2.2.1))))
theorem EnvOk.maps {P:Program} {Γ:Env} (h:EnvOk P Γ) {ms:List (Nat×(Ty×Ty×Nat×Nat))} (ha:mapB P ms=true):EnvOk P (aIr Γ ms):=by
 refine ⟨h.ty,h.eq,h.one,h.isp,h.mixed,h.off,h.ar,fun n kt vt k e hn=>?_⟩
 have:=List.all_eq_true.1 ha (n,kt,vt,k,e) (avD hn)
 simp only [Bool.and_eq_true] at this
 obtain ⟨k1,k2,k3,k4,k5,k6⟩:=this
 refine ⟨?_,k2,k3,by simpa using k4,k5,by simpa using k6⟩
 split at k1
 · rename_i m' e' hu
   rw [Bool.and_eq_true,Nat.beq_eq,Nat.beq_eq] at k1
   obtain ⟨rfl,rfl⟩:=k1
   exact hu
 · cases k1
end Go.Proofs.Ytgmeimbamfggkaa.Den
