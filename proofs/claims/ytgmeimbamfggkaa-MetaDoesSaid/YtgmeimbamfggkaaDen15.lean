import Derived.Test.YtgmeimbamfggkaaDen2
namespace Go.Proofs.Ytgmeimbamfggkaa.Den
open Go
set_option linter.unusedVariables false
set_option linter.unusedSimpArgs false
structure Eff where
 v:TV
 S:List Obj
 O:Nat→Bool
 c:Nat
def Eff.on (e:Eff) (s:St) (d:Option Tmp):St:={ s with S:=e.S,O:=e.O,c:=e.c }.put d e.v
def agd (E:Table):Prop:=∀ g xs sp,E.find g xs=some sp→∀ as os,∃ out:Option (TV×List Obj),∀ (ρ:Type) (K:TV→List Obj→Option ρ),sp.run as os K=out.bind fun p=>K p.1 p.2
section
variable {Γ : Env} {E:Table} {dr:Bool} {o:Oper}
abbrev AgX (o:Oper) (s s2:St):Prop:=∀ x∈o.op.operands,∀ t,s2.ev t x=s.ev t x
def s1 : St:=⟨1,fun _=>.undef,0,fun _=>false,[],0,[]⟩
theorem aDX (tx:Option Ty) (ip:Bool) (op:BinOp) (x y:TV) (s:St) (d:Option Tmp) {ρ:Type} (K:St→Option ρ) :
 binK tx ip s d op x y K=(binK tx ip s1 (some 0) op x y fun s=>some (s.T 0)).bind fun v=>K (s.put d v):=by
 unfold binK
 split
 · split
   · rw [Option.bind_assoc]; rfl
   · rw [Option.bind_assoc]; rfl
   · split
     · rw [Option.bind_assoc]; rfl
     · rfl
   · split
     · rw [Option.bind_assoc]; rfl
     · rfl
   · split
     · cases aFB _ _ _ _ <;> rfl
     · rfl
 · split
   · unfold lim
     split
     · rfl
     · rfl
   · cases aG8 _ _ _ <;> rfl
 · split
   · split <;> rfl
   · rfl
 · split
   · split
     · split <;> rfl
     · rfl
   · rfl
 · split
   · split <;> rfl
   · rfl
 · cases ip
   · rfl
   · simp only [cond_true]
     split <;> rfl
 · cases ip
   · rfl
   · simp only [cond_true]
     split <;> rfl
 · cases ip
   · rfl
   · simp only [cond_true]
     split <;> rfl
 · rfl
theorem aAN (tn:Option Ty) (x:TV) (lo hi mx:Option TV) (s:St) (d:Option Tmp) {ρ:Type} (K:St→Option ρ) :
 awl tn s d x lo hi mx K=(awl tn s1 (some 0) x lo hi mx fun s=>some (s.T 0)).bind fun v=>K (s.put d v):=by
 unfold awl
 split
 · split
   · split
     · rw [Option.bind_assoc]; rfl
     · rw [Option.bind_assoc]; rfl
     · unfold must
       cases beqI _ _
       · rfl
       · simp only [cond_true]; rw [Option.bind_assoc]; rfl
     · rfl
   · rfl
 · split
   · split
     · rw [Option.bind_assoc]; rfl
     · rw [Option.bind_assoc]; rfl
     · rfl
   · rfl
 · rfl
theorem aAK {s s2:St} {x:Operand} (h:∀ t,s2.ev t x=s.ev t x):∀ (b:Ty) (i:Nat) (d:b.D),setD s2 b i x d=setD s b i x d
 | .pair a _,0,d=>by simp only [setD,h]
 | .pair a b,i+1,d=>by simp only [setD,aAK h b i d.2]
 | .unit,_,_=>by simp only [setD]
 | .ex,_,_=>by simp only [setD]
 | .op _,_,_=>by simp only [setD]
 | .bool,_,_=>by simp only [setD]
 | .int _,_,_=>by simp only [setD]
 | .str,_,_=>by simp only [setD]
 | .sl _,_,_=>by simp only [setD]
 | .st _,_,_=>by simp only [setD]
theorem aq7 {s s2:St} (b:Ty):∀ (ps:List (Nat×Operand)) (d:b.D),(∀ p∈ps,∀ t,s2.ev t p.2=s.ev t p.2)→akd s2 b ps d=akd s b ps d
 | [],_,_=>rfl
 | (i,x) :: ps,d,h=>by
   simp only [akd]
   rw [aAK (h (i,x) (List.mem_cons_self ..))]
   congr 1
   funext d
   exact aq7 b ps d fun p hp=>h p (List.mem_cons_of_mem _ hp)
theorem axk {s s2:St} (t:Ty):∀ (ps:List (Nat×Operand)) (l:List t.D),(∀ p∈ps,∀ t,s2.ev t p.2=s.ev t p.2)→aqw s2 t ps l=aqw s t ps l
 | [],_,_=>rfl
 | (i,x) :: ps,l,h=>by
   simp only [aqw]
   rw [h (i,x) (List.mem_cons_self ..)]
   congr 2
   funext y
   exact axk t ps _ fun p hp=>h p (List.mem_cons_of_mem _ hp)
theorem apr {s s2:St} (ty:Nat→Option Ty):∀ (l:List Operand) (k:List TypeId),(∀ x∈l,∀ t,s2.ev t x=s.ev t x)→s2.evs ty l k=s.evs ty l k
 | [],_,_=>rfl
 | x :: l,[],h=>by simp only [St.evs,h x (List.mem_cons_self ..),apr ty l [] fun y hy=>h y (List.mem_cons_of_mem _ hy)]
 | x :: l,n :: k,h=>by simp only [St.evs,h x (List.mem_cons_self ..),apr ty l k fun y hy=>h y (List.mem_cons_of_mem _ hy)]
def NatE (s:St) (d:Option Tmp) (F:St→∀ (ρ:Type),(St→Option ρ)→Option ρ):Prop :=
 ∃ oe:Option Eff,∀ s2,s2.S=s.S→s2.O=s.O→s2.c=s.c→∀ (ρ:Type) (K:St→Option ρ),F s2 ρ K=oe.bind fun e=>K (e.on s2 d)
theorem aC7 (s:St) (d:Option Tmp) (n m:Nat) (x y:TV):NatE s d fun s2 _ K=>afj Γ s2 d n m x y K:=by
 cases x with
 | sl t f nl l =>
   by_cases hnm:n=m∧Γ.ty n=some (.sl t)
   · cases hy:srcV s.S t y with
     | none=>exact ⟨none,fun s2 hS hO hc ρ K=>by simp only [afj,if_pos hnm,hS,hy]; rfl⟩
     | some l2 =>
       cases hd:d.elim 0 Γ.row with
       | zero =>
         cases hs:agy s f with
         | false=>exact ⟨none,fun s2 hS hO hc ρ K=>by
             have hs2:agy s2 f=false:=by rw [← hs]; cases f <;> simp [agy,hO]
             simp only [afj,if_pos hnm,hS,hy,hd,Option.bind_some,appK,hs2]; rfl⟩
         | true =>
           by_cases hlim:l.length+l2.length≤LIM
           · refine ⟨some ⟨.sl t (.own s.c) (nl.map fun b=>b&&l2.isEmpty) (l++l2),s.S,(s.eat f).more.O,s.c+1⟩,fun s2 hS hO hc ρ K=>?_⟩
             have hs2:agy s2 f=true:=by rw [← hs]; cases f <;> simp [agy,hO]
             simp only [afj,if_pos hnm,hS,hy,hd,Option.bind_some,appK,hs2,cond_true,lim,if_pos hlim]
             show K _=K _
             congr 1
             unfold Eff.on
             cases f <;> simp only [St.eat,St.more,St.kill,hO,hc,hS]
           · exact ⟨none,fun s2 hS hO hc ρ K=>by
               have hs2:agy s2 f=true:=by rw [← hs]; cases f <;> simp [agy,hO]
               simp only [afj,if_pos hnm,hS,hy,hd,Option.bind_some,appK,hs2,cond_true,lim,if_neg hlim]; rfl⟩
       | succ k =>
         cases f with
         | sh=>exact ⟨none,fun s2 hS hO hc ρ K=>by simp only [afj,if_pos hnm,hS,hy,hd,Option.bind_some]; rfl⟩
         | own q=>exact ⟨none,fun s2 hS hO hc ρ K=>by simp only [afj,if_pos hnm,hS,hy,hd,Option.bind_some]; rfl⟩
         | full =>
           have e0:∀ (s2:St) (ρ:Type) (K:St→Option ρ),s2.S=s.S→afj Γ s2 d n m (.sl t .full nl l) y K=(bif Nat.beq (k+1) 4 then must Γ.rw (aBU s2 d t l l2 K) else must Γ.ra (appN (k+1) s2 d t l l2 K)):=fun s2 ρ K hS=>by
             simp only [afj,if_pos hnm,hS,hy,hd,Option.bind_some]
           cases hb4:Nat.beq (k+1) 4 with
           | true =>
             have e1:∀ (s2:St) (ρ:Type) (K:St→Option ρ),s2.S=s.S→afj Γ s2 d n m (.sl t .full nl l) y K=must Γ.rw (aBU s2 d t l l2 K):=fun s2 ρ K hS=>by rw [e0 s2 ρ K hS,hb4]; rfl
             cases hrw:Γ.rw with
             | false=>exact ⟨none,fun s2 hS hO hc ρ K=>by refine (e1 s2 ρ K hS).trans ?_; rw [hrw]; rfl⟩
             | true =>
             cases l with
             | cons _ _=>exact ⟨none,fun s2 hS hO hc ρ K=>by refine (e1 s2 ρ K hS).trans ?_; rw [hrw]; rfl⟩
             | nil =>
               cases l2 with
               | nil=>exact ⟨none,fun s2 hS hO hc ρ K=>by refine (e1 s2 ρ K hS).trans ?_; rw [hrw]; rfl⟩
               | cons x l2 =>
                 cases l2 with
                 | cons _ _=>exact ⟨none,fun s2 hS hO hc ρ K=>by refine (e1 s2 ρ K hS).trans ?_; rw [hrw]; rfl⟩
                 | nil =>
                   cases hst:t.isSt with
                   | false=>exact ⟨none,fun s2 hS hO hc ρ K=>by refine (e1 s2 ρ K hS).trans ?_; rw [hrw]; simp only [aBU,hst]; rfl⟩
                   | true=>exact ⟨some ⟨.ref (.one t) s.S.length,s.S++[cells t x],s.O,s.c⟩,fun s2 hS hO hc ρ K=>by
                       refine (e1 s2 ρ K hS).trans ?_; rw [hrw]
                       simp only [aBU,hst,must,cond_true,hS]
                       rw [hO,hc]; show K _=K _; unfold Eff.on; rfl⟩
           | false =>
           have e2:∀ (s2:St) (ρ:Type) (K:St→Option ρ),s2.S=s.S→afj Γ s2 d n m (.sl t .full nl l) y K=must Γ.ra (appN (k+1) s2 d t l l2 K):=fun s2 ρ K hS=>by rw [e0 s2 ρ K hS,hb4]; rfl
           cases hrw:Γ.ra with
           | false=>exact ⟨none,fun s2 hS hO hc ρ K=>by refine (e2 s2 ρ K hS).trans ?_; rw [hrw]; rfl⟩
           | true =>
           cases hl:l.isEmpty with
           | false=>exact ⟨none,fun s2 hS hO hc ρ K=>by refine (e2 s2 ρ K hS).trans ?_; rw [hrw]; simp only [appN,hl]; rfl⟩
           | true =>
             by_cases hlim:l2.length≤LIM
             · cases k with
               | zero=>exact ⟨some ⟨.ref (.asl t) s.S.length,s.S++[[TV.blk (.row t l2)]],s.O,s.c⟩,fun s2 hS hO hc ρ K=>by
                refine (e2 s2 ρ K hS).trans ?_; rw [hrw]
                simp only [hS,appN,hl,must,cond_true,lim,if_pos hlim]
                rw [hO,hc]; show K _=K _; unfold Eff.on; rfl⟩
               | succ k=>exact ⟨some ⟨.ref (.asv t 0 l2.length) s.S.length,s.S++[[TV.blk (.row t l2)]],s.O,s.c⟩,fun s2 hS hO hc ρ K=>by
                refine (e2 s2 ρ K hS).trans ?_; rw [hrw]
                simp only [hS,appN,hl,must,cond_true,lim,if_pos hlim]
                rw [hO,hc]; show K _=K _; unfold Eff.on; rfl⟩
             · exact ⟨none,fun s2 hS hO hc ρ K=>by
                refine (e2 s2 ρ K hS).trans ?_; rw [hrw]
                simp only [appN,hl,must,cond_true,lim,if_neg hlim]; rfl⟩
   · exact ⟨none,fun s2 hS hO hc ρ K=>by simp only [afj,if_neg hnm]; rfl⟩
 | ref r i =>
   cases hn:Γ.ty n with
   | none=>exact ⟨none,fun s2 hS hO hc ρ K=>by simp only [afj,hn]; rfl⟩
   | some tt =>
     cases tt with
     | sl t =>
       by_cases hnm:n=m
       · cases hrw:(Γ.ra&&!Γ.lo i) with
         | false=>exact ⟨none,fun s2 hS hO hc ρ K=>by simp only [afj,hn,if_pos hnm,hrw]; rfl⟩
         | true =>
         cases hy:srcV s.S t y with
         | none=>exact ⟨none,fun s2 hS hO hc ρ K=>by simp only [afj,hn,if_pos hnm,hS,hy,hrw]; rfl⟩
         | some l2 =>
           have key:NatE s d fun s2 _ K=>appR s2 d t (.ref r i) l2 K:=by
             cases r with
             | asl t' =>
               by_cases ht:t'=t
               · cases hr:acz s.S t i with
                 | none=>exact ⟨none,fun s2 hS hO hc ρ K=>by simp only [appR,if_pos ht,hS,hr]; rfl⟩
                 | some l =>
                   by_cases hlim:l.length+l2.length≤LIM
                   · exact ⟨some ⟨.ref (.asl t) s.S.length,s.S.set i []++[[TV.blk (.row t (l++l2))]],s.O,s.c⟩,fun s2 hS hO hc ρ K=>by
                       simp only [appR,if_pos ht,hS,hr,Option.bind_some,lim,if_pos hlim]
                       rw [hO,hc]; show K _=K _; unfold Eff.on; rfl⟩
                   · exact ⟨none,fun s2 hS hO hc ρ K=>by simp only [appR,if_pos ht,hS,hr,Option.bind_some,lim,if_neg hlim]; rfl⟩
               · exact ⟨none,fun s2 hS hO hc ρ K=>by simp only [appR,if_neg ht]; rfl⟩
             | asv t' a k =>
               cases a with
               | zero =>
                 by_cases ht:t'=t
                 · cases hr:acz s.S t i with
                   | none=>exact ⟨none,fun s2 hS hO hc ρ K=>by simp only [appR,if_pos ht,hS,hr]; rfl⟩
                   | some l =>
                     by_cases hlim:k+l2.length≤LIM
                     · exact ⟨some ⟨.ref (.asv t 0 (k+l2.length)) s.S.length,s.S.set i []++[[TV.blk (.row t (apc l k l2))]],s.O,s.c⟩,fun s2 hS hO hc ρ K=>by
                         simp only [appR,if_pos ht,hS,hr,Option.bind_some,lim,if_pos hlim]
                         rw [hO,hc]; show K _=K _; unfold Eff.on; rfl⟩
                     · exact ⟨none,fun s2 hS hO hc ρ K=>by simp only [appR,if_pos ht,hS,hr,Option.bind_some,lim,if_neg hlim]; rfl⟩
                 · exact ⟨none,fun s2 hS hO hc ρ K=>by simp only [appR,if_neg ht]; rfl⟩
               | succ a=>exact ⟨none,fun s2 hS hO hc ρ K=>rfl⟩
             | pel t' j f=>exact ⟨none,fun s2 hS hO hc ρ K=>rfl⟩
             | one t'=>exact ⟨none,fun s2 hS hO hc ρ K=>rfl⟩
             | mp k v=>exact ⟨none,fun s2 hS hO hc ρ K=>rfl⟩
             | yl=>exact ⟨none,fun s2 hS hO hc ρ K=>rfl⟩
           obtain ⟨oe,h⟩:=key
           exact ⟨oe,fun s2 hS hO hc ρ K=>by simp only [afj,hn,if_pos hnm,hS,hy,hrw,must,cond_true,Option.bind_some]; exact h s2 hS hO hc ρ K⟩
       · exact ⟨none,fun s2 hS hO hc ρ K=>by simp only [afj,hn,if_neg hnm]; rfl⟩
     | _=>exact ⟨none,fun s2 hS hO hc ρ K=>by simp only [afj,hn]; rfl⟩
 | _=>exact ⟨none,fun s2 hS hO hc ρ K=>rfl⟩
theorem aE6 (s:St) (d:Option Tmp) (n:Nat) (x:TV):NatE s d fun s2 _ K=>ani Γ s2 d n x K:=by
 cases x with
 | ref r i =>
   cases hn:Γ.ty n with
   | none=>cases r <;> exact ⟨none,fun s2 hS hO hc ρ K=>by simp only [ani,hn]; rfl⟩
   | some tt =>
     cases tt with
     | sl t' =>
       cases hq:Γ.lo i with
       | true=>cases r <;> exact ⟨none,fun s2 hS hO hc ρ K=>by simp only [ani,hn,hq]; rfl⟩
       | false =>
       cases r with
       | asl t =>
         by_cases ht:t'=t
         · cases hr:acz s.S t i with
           | none=>exact ⟨none,fun s2 hS hO hc ρ K=>by simp only [ani,hn,hq,Bool.not_false,must,cond_true,if_pos ht,hS,hr]; rfl⟩
           | some l=>exact ⟨some ⟨.tup [],s.S.set i [TV.blk (.row t (lay l 0 (List.replicate l.length (zero t))))],s.O,s.c⟩,fun s2 hS hO hc ρ K=>by
                 simp only [ani,hn,hq,Bool.not_false,must,cond_true,if_pos ht,hS,hr,Option.bind_some]
                 rw [hO,hc]; show K _=K _; unfold Eff.on; rfl⟩
         · exact ⟨none,fun s2 hS hO hc ρ K=>by simp only [ani,hn,hq,Bool.not_false,must,cond_true,if_neg ht]; rfl⟩
       | asv t a k =>
         by_cases ht:t'=t
         · cases hr:acz s.S t i with
           | none=>exact ⟨none,fun s2 hS hO hc ρ K=>by simp only [ani,hn,hq,Bool.not_false,must,cond_true,if_pos ht,hS,hr]; rfl⟩
           | some l=>exact ⟨some ⟨.tup [],s.S.set i [TV.blk (.row t (lay l a (List.replicate k (zero t))))],s.O,s.c⟩,fun s2 hS hO hc ρ K=>by
                 simp only [ani,hn,hq,Bool.not_false,must,cond_true,if_pos ht,hS,hr,Option.bind_some]
                 rw [hO,hc]; show K _=K _; unfold Eff.on; rfl⟩
         · exact ⟨none,fun s2 hS hO hc ρ K=>by simp only [ani,hn,hq,Bool.not_false,must,cond_true,if_neg ht]; rfl⟩
       | _=>exact ⟨none,fun s2 hS hO hc ρ K=>by simp only [ani,hn]; rfl⟩
     | _=>cases r <;> exact ⟨none,fun s2 hS hO hc ρ K=>by simp only [ani,hn]; rfl⟩
 | _=>exact ⟨none,fun s2 hS hO hc ρ K=>by simp only [ani]; rfl⟩
theorem aFO (s:St) (d:Option Tmp) (n m:Nat) (x y:TV):NatE s d fun s2 _ K=>atU Γ s2 d n m x y K:=by
 cases x with
 | ref r i =>
   cases hn:Γ.ty n with
   | none=>cases r <;> exact ⟨none,fun s2 hS hO hc ρ K=>by simp only [atU,hn]; rfl⟩
   | some tt =>
     cases tt with
     | sl t' =>
       cases hq:Γ.lo i with
       | true=>cases r <;> exact ⟨none,fun s2 hS hO hc ρ K=>by simp only [atU,hn,hq]; rfl⟩
       | false =>
       cases r with
       | asl t =>
         by_cases ht:t'=t∧n=m
         · cases hr:acz s.S t i with
           | none=>exact ⟨none,fun s2 hS hO hc ρ K=>by simp only [atU,hn,hq,Bool.not_false,must,cond_true,if_pos ht,hS,hr]; rfl⟩
           | some l =>
             cases hy:srcV s.S t y with
             | none=>exact ⟨none,fun s2 hS hO hc ρ K=>by simp only [atU,hn,hq,Bool.not_false,must,cond_true,if_pos ht,hS,hr,hy]; rfl⟩
             | some l2=>exact ⟨some ⟨.int .i64 (Nat.min l2.length l.length:Nat),s.S.set i [TV.blk (.row t (lay l 0 (l2.take (Nat.min l2.length l.length))))],s.O,s.c⟩,fun s2 hS hO hc ρ K=>by
                 simp only [atU,hn,hq,Bool.not_false,must,cond_true,if_pos ht,hS,hr,hy,Option.bind_some]
                 rw [hO,hc]; show K _=K _; unfold Eff.on; rfl⟩
         · exact ⟨none,fun s2 hS hO hc ρ K=>by simp only [atU,hn,hq,Bool.not_false,must,cond_true,if_neg ht]; rfl⟩
       | asv t a k =>
         by_cases ht:t'=t∧n=m
         · cases hr:acz s.S t i with
           | none=>exact ⟨none,fun s2 hS hO hc ρ K=>by simp only [atU,hn,hq,Bool.not_false,must,cond_true,if_pos ht,hS,hr]; rfl⟩
           | some l =>
             cases hy:srcV s.S t y with
             | none=>exact ⟨none,fun s2 hS hO hc ρ K=>by simp only [atU,hn,hq,Bool.not_false,must,cond_true,if_pos ht,hS,hr,hy]; rfl⟩
             | some l2=>exact ⟨some ⟨.int .i64 (Nat.min l2.length k:Nat),s.S.set i [TV.blk (.row t (lay l a (l2.take (Nat.min l2.length k))))],s.O,s.c⟩,fun s2 hS hO hc ρ K=>by
                 simp only [atU,hn,hq,Bool.not_false,must,cond_true,if_pos ht,hS,hr,hy,Option.bind_some]
                 rw [hO,hc]; show K _=K _; unfold Eff.on; rfl⟩
         · exact ⟨none,fun s2 hS hO hc ρ K=>by simp only [atU,hn,hq,Bool.not_false,must,cond_true,if_neg ht]; rfl⟩
       | pel t j f=>exact ⟨none,fun s2 hS hO hc ρ K=>rfl⟩
       | one t=>exact ⟨none,fun s2 hS hO hc ρ K=>rfl⟩
       | mp k v=>exact ⟨none,fun s2 hS hO hc ρ K=>rfl⟩
       | yl=>exact ⟨none,fun s2 hS hO hc ρ K=>rfl⟩
     | _=>cases r <;> exact ⟨none,fun s2 hS hO hc ρ K=>by simp only [atU,hn]; rfl⟩
 | _=>exact ⟨none,fun s2 hS hO hc ρ K=>rfl⟩
theorem aFv (s:St) (d:Option Tmp) (t:Ty) (j i:Nat) (y:TV):NatE s d fun s2 _ K=>axJ s2 d t j i y K:=by
 cases hr:acz s.S t i with
 | none=>exact ⟨none,fun s2 hS hO hc ρ K=>by simp only [axJ,hS,hr]; rfl⟩
 | some l =>
   cases hy:ofTV t y with
   | none=>exact ⟨none,fun s2 hS hO hc ρ K=>by simp only [axJ,hS,hr,hy]; rfl⟩
   | some z =>
     cases hb:Nat.blt j l.length with
     | false=>exact ⟨none,fun s2 hS hO hc ρ K=>by simp only [axJ,hS,hr,hy,Option.bind_some,hb]; rfl⟩
     | true=>exact ⟨some ⟨.skip,s.S.set i [TV.blk (.row t (l.set j z))],s.O,s.c⟩,fun s2 hS hO hc ρ K=>by
      simp only [axJ,hS,hr,hy,Option.bind_some,hb,must,cond_true]
      rw [hO,hc]; show K _=K _; unfold Eff.on; rfl⟩
theorem aFu (s:St) (d:Option Tmp) (b:Ty) (f j i:Nat) (y:TV):NatE s d fun s2 _ K=>axI s2 d b f j i y K:=by
 cases hr:acz s.S (.st b) i with
 | none=>exact ⟨none,fun s2 hS hO hc ρ K=>by simp only [axI,hS,hr]; rfl⟩
 | some l =>
   cases hy:l[j]? with
   | none=>exact ⟨none,fun s2 hS hO hc ρ K=>by simp only [axI,hS,hr,Option.bind_some,hy]; rfl⟩
   | some x =>
     cases hz:aCP b f y x with
     | none=>exact ⟨none,fun s2 hS hO hc ρ K=>by simp only [axI,hS,hr,Option.bind_some,hy,hz]; rfl⟩
     | some z=>exact ⟨some ⟨.skip,s.S.set i [TV.blk (.row (.st b) (l.set j z))],s.O,s.c⟩,fun s2 hS hO hc ρ K=>by
      simp only [axI,hS,hr,Option.bind_some,hy,hz]
      rw [hO,hc]; show K _=K _; unfold Eff.on; rfl⟩
theorem aE2 (hE:agd E) {g:Nat} {xs:List TV} {sp:Spec} (hg:E.find g xs=some sp) (as:List TV) (d:Option Tmp):∃ ov:Option TV,∀ (s:St) (ρ:Type) (K:St→Option ρ),
 asJ true s d sp as [] K=ov.bind fun v=>K (s.put d v):=by
 have hp:∀ s:St,aCC (anM []) s.S []=some []:=fun _=>rfl
 cases h1:ren.go (anM []) as with
 | none=>exact ⟨none,fun s ρ K=>by simp only [asJ,h1]; rfl⟩
 | some as1 =>
   cases h2:nkL (sO true s1) 0 sp.qs.length sp.pars as1 with
   | none =>
     refine ⟨none,fun s ρ K=>?_⟩
     simp only [asJ,h1,hp,List.length_nil]
     rw [show nkL (sO true s) 0 sp.qs.length sp.pars as1=none from h2]
     rfl
   | some p =>
     obtain ⟨as2,a⟩:=p
     cases h3:nkLL (sO true s1) 0 sp.qs.length sp.objs [] with
     | none =>
       refine ⟨none,fun s ρ K=>?_⟩
       simp only [asJ,h1,hp,List.length_nil]
       rw [show nkL (sO true s) 0 sp.qs.length sp.pars as1=some (as2,a) from h2,show nkLL (sO true s) 0 sp.qs.length sp.objs []=none from h3]
       rfl
     | some q =>
       obtain ⟨os2,b⟩:=q
       obtain ⟨out,ho⟩:=hE g xs sp hg as2 os2
       have key:∀ (s:St) (ρ:Type) (K:St→Option ρ),asJ true s d sp as [] K =
            bif apart []&&apart (a++b)&&apart sp.qs&&Nat.beq os2.length 0 then
             match a++b,([]:List Nat) with
             | [],[]=>sp.run as2 os2 fun v S=>match S with
               | []=>K (s.put d (tidy (fun _=>false) v))
               | _=>must (tvPtrs v).isEmpty (K (s.put d (tidy (fun _=>false) v)))
             | _,_=>none
            else none:=by
        intro s ρ K
        simp only [asJ,h1,hp,List.length_nil]
        rw [show nkL (sO true s) 0 sp.qs.length sp.pars as1=some (as2,a) from h2,show nkLL (sO true s) 0 sp.qs.length sp.objs []=some (os2,b) from h3]
        rfl
       cases hb:(apart []&&apart (a++b)&&apart sp.qs&&Nat.beq os2.length 0) with
       | false=>exact ⟨none,fun s ρ K=>by rw [key,hb]; rfl⟩
       | true =>
         cases hab:a++b with
         | cons x l=>exact ⟨none,fun s ρ K=>by rw [key,hb,hab]; rfl⟩
         | nil =>
           refine ⟨out.bind fun p=>match p.2 with
            | []=>some (tidy (fun _=>false) p.1)
            | _=>must (tvPtrs p.1).isEmpty (some (tidy (fun _=>false) p.1)),fun s ρ K=>?_⟩
           rw [key,hb,hab]
           simp only [cond_true]
           rw [ho]
           cases out with
           | none=>rfl
           | some p =>
             obtain ⟨v,S⟩:=p
             cases S with
             | nil=>rfl
             | cons a b =>
               show must (tvPtrs v).isEmpty (K (s.put d (tidy (fun _=>false) v)))=(must (tvPtrs v).isEmpty (some (tidy (fun _=>false) v))).bind _
               cases (tvPtrs v).isEmpty <;> rfl
theorem aBZ (hE:agd E) {g:Nat} {xs:List TV} {sp:Spec} (hg:E.find g xs=some sp) (as:List TV) (s:St) (d:Option Tmp):NatE s d fun s2 _ K=>awy s2 d sp as K:=by
 have hs:∀ s2,sO true s2=sO true s:=fun _=>rfl
 cases h1:aHs s.S as with
 | none=>exact ⟨none,fun s2 hS hO hc ρ K=>by simp only [awy,hS,h1]; rfl⟩
 | some as1 =>
   cases h2:nkL (sO true s) 0 0 sp.pars as1 with
   | none=>exact ⟨none,fun s2 hS hO hc ρ K=>by simp only [awy,hS,h1,Option.bind_some,hs s2,h2]; rfl⟩
   | some p =>
     obtain ⟨as2,ps⟩:=p
     cases ps with
     | cons q ps=>exact ⟨none,fun s2 hS hO hc ρ K=>by simp only [awy,hS,h1,Option.bind_some,hs s2,h2]; rfl⟩
     | nil =>
       cases hq:sp.qs.isEmpty with
       | false=>exact ⟨none,fun s2 hS hO hc ρ K=>by simp only [awy,hS,h1,Option.bind_some,hs s2,h2,hq]; rfl⟩
       | true =>
         obtain ⟨out,ho⟩:=hE g xs sp hg as2 []
         cases out with
         | none=>exact ⟨none,fun s2 hS hO hc ρ K=>by
          simp only [awy,hS,h1,Option.bind_some,hs s2,h2,hq,must,cond_true]
          rw [ho]; rfl⟩
         | some p =>
           obtain ⟨v,S'⟩:=p
           cases S' with
           | cons o S'=>exact ⟨none,fun s2 hS hO hc ρ K=>by
                simp only [awy,hS,h1,Option.bind_some,hs s2,h2,hq,must,cond_true]
                rw [ho]; rfl⟩
           | nil =>
             cases hv:scal v with
             | false=>exact ⟨none,fun s2 hS hO hc ρ K=>by
                 simp only [awy,hS,h1,Option.bind_some,hs s2,h2,hq,must,cond_true]
                 rw [ho]
                 simp only [Option.bind_some,hv]; rfl⟩
             | true=>exact ⟨some ⟨v,s.S,s.O,s.c⟩,fun s2 hS hO hc ρ K=>by
                 simp only [awy,hS,h1,Option.bind_some,hs s2,h2,hq,must,cond_true]
                 rw [ho]
                 simp only [Option.bind_some,hv,cond_true]
                 congr 1
                 unfold Eff.on
                 rw [← hS,← hO,← hc]⟩
theorem aC9 (hE:agd E) {g:Nat} {xs:List TV} {sp:Spec} (hg:E.find g xs=some sp) (as:List TV) (js:List Nat) (s:St):∃ oe:Option Eff,∀ (s2:St),s2.S=s.S→s2.O=s.O→s2.c=s.c →
 ∀ (d:Option Tmp) (ρ:Type) (K:St→Option ρ),asJ false s2 d sp as js K=oe.bind fun e=>K (e.on s2 d):=by
 have hms:∀ (s2:St),s2.O=s.O→∀ f,agy s2 f=agy s f:=by
  intro s2 h f; cases f <;> simp [agy,h]
 have hnk:∀ (s2:St),s2.O=s.O→∀ m c k v,nkTV s2 m c k v=nkTV s m c k v:=by
  intro s2 h m c k v; unfold nkTV; simp only [hms s2 h]
 have hnl:∀ (s2:St),s2.O=s.O→∀ m c ks vs,nkL s2 m c ks vs=nkL s m c ks vs:=by
  intro s2 h m c ks
  induction ks with
  | nil=>intro vs; cases vs <;> rfl
  | cons k ks ih=>intro vs; cases vs with
    | nil=>rfl
    | cons v vs=>simp only [nkL,hnk s2 h,ih]
 have hnll:∀ (s2:St),s2.O=s.O→∀ m c ks vs,nkLL s2 m c ks vs=nkLL s m c ks vs:=by
  intro s2 h m c ks
  induction ks with
  | nil=>intro vs; rfl
  | cons k ks ih=>intro vs; cases vs with
    | nil=>rfl
    | cons v vs=>simp only [nkLL,hnl s2 h,ih]
 cases h1:ren.go (anM js) as with
 | none=>exact ⟨none,fun s2 _ _ _ d ρ K=>by simp only [asJ,h1]; rfl⟩
 | some as1 =>
   cases h0:aCC (anM js) s.S js with
   | none=>exact ⟨none,fun s2 hS _ _ d ρ K=>by simp only [asJ,h1,hS,h0]; rfl⟩
   | some os1 =>
     cases h2:nkL s js.length sp.qs.length sp.pars as1 with
     | none=>exact ⟨none,fun s2 hS hO _ d ρ K=>by simp only [asJ,h1,hS,h0,sO,hnl s2 hO,h2]; rfl⟩
     | some p =>
       obtain ⟨as2,a⟩:=p
       cases h3:nkLL s js.length sp.qs.length sp.objs os1 with
       | none=>exact ⟨none,fun s2 hS hO _ d ρ K=>by simp only [asJ,h1,hS,h0,sO,hnl s2 hO,hnll s2 hO,h2,h3]; rfl⟩
       | some q =>
         obtain ⟨os2,b⟩:=q
         obtain ⟨out,ho⟩:=hE g xs sp hg as2 os2
         cases hb:(apart js&&apart (a++b)&&apart sp.qs&&Nat.beq os2.length js.length) with
         | false=>exact ⟨none,fun s2 hS hO _ d ρ K=>by simp only [asJ,h1,hS,h0,sO,hnl s2 hO,hnll s2 hO,h2,h3,hb]; rfl⟩
         | true =>
           refine ⟨out.map fun p=>⟨back (fun i=>bif Nat.blt i js.length then js.getD i 0 else s.S.length+(i - js.length)) s.c p.1,
            layS s.S js (p.2.map (back.go (fun i=>bif Nat.blt i js.length then js.getD i 0 else s.S.length+(i - js.length)) s.c)),
            fun q=>(s.O q&&!(a++b).any (Nat.beq q))||(Nat.ble s.c q&&Nat.blt q (s.c+sp.toks)),s.c+sp.toks⟩,fun s2 hS hO hc d ρ K=>?_⟩
           simp only [asJ,h1,hS,h0,sO,hnl s2 hO,hnll s2 hO,h2,h3,hb,cond_true]
           rw [ho,hO,hc]
           cases out <;> rfl
end
end Go.Proofs.Ytgmeimbamfggkaa.Den
