import Derived.Test.YtgmeimbamfggkaaDen16
namespace Go.Proofs.Ytgmeimbamfggkaa.Den
open Go
set_option linter.unusedVariables false
set_option linter.unusedSimpArgs false
section
variable {Γ : Env} {E:Table} {dr:Bool} {o:Oper} {ops:Array Oper}
structure OpE (Γ:Env) (E:Table) (dr:Bool) (o:Oper) (s:St) (oe:Option Eff):Prop where
 run:∀ s2,AgX o s s2→s2.S=s.S→s2.O=s.O→s2.c=s.c→∀ (ρ:Type) (K:St→Option ρ),opK Γ E dr o s2 K=oe.bind fun e=>K (e.on s2 o.dst)
 c0:clsO Γ dr o=0→(∀ s2,AgX o s s2→(∀ i,Γ.lo i=true→s2.S[i]?=s.S[i]?)→∀ (ρ:Type) (K:St→Option ρ),opK Γ E dr o s2 K=(oe.map Eff.v).bind fun v=>K (s2.put o.dst v))∧∀ e,oe=some e→e.S=s.S∧e.O=s.O∧e.c=s.c
 c1:clsO Γ dr o=1→∀ e,oe=some e→(e.S=s.S∧e.O=s.O∧e.c=s.c) ∧
  ∀ s2,AgX o s s2→(∀ (p:Nat) cs,s.S[p]?=some cs→s2.S[p]?=some cs)→∀ (ρ:Type) (K:St→Option ρ),opK Γ E dr o s2 K=K (s2.put o.dst e.v)
 c2:clsO Γ dr o=2→∀ e,oe=some e→(∀ (p:Nat) cs,s.S[p]?=some cs→e.S[p]?=some cs)∧e.O=s.O∧e.c=s.c
theorem anL {e:Eff} {s2:St} {d:Option Tmp} (h1:e.S=s2.S) (h2:e.O=s2.O) (h3:e.c=s2.c):e.on s2 d=s2.put d e.v:=by
 unfold Eff.on; rw [h1,h2,h3]
theorem aca {α:Type} {x:Option α}:must true x=x:=rfl
theorem Rd.opE {s:St} (h:Rd Γ E dr o s) (hcl:clsO Γ dr o=1):∃ oe,OpE Γ E dr o s oe:=by
 rcases h with ⟨ov,h⟩ | ⟨t,i,g,h⟩ | ⟨i,g,h⟩
 · cases ov with
   | none=>exact ⟨none,fun s2 ha _ _ _ ρ K=>h s2 ha ρ K,fun h=>by omega,fun _ e he=>(by cases he),fun h=>by omega⟩
   | some v =>
     refine ⟨some ⟨v,s.S,s.O,s.c⟩,fun s2 ha hS hO hc ρ K=>?_,fun h=>by omega,fun _ e he=>?_,fun h=>by omega⟩
     · rw [h s2 ha]
       show K _=K _
       rw [anL (s2:=s2) hS.symm hO.symm hc.symm]
     · cases he
       exact ⟨⟨rfl,rfl,rfl⟩,fun s2 ha _ ρ K=>h s2 ha ρ K⟩
 · cases hr:acz s.S t i with
   | none=>exact ⟨none,fun s2 ha hS _ _ ρ K=>by rw [h s2 ha,hS,hr]; rfl,fun h=>by omega,fun _ e he=>(by cases he),fun h=>by omega⟩
   | some l =>
     cases hg:g l with
     | none=>exact ⟨none,fun s2 ha hS _ _ ρ K=>by rw [h s2 ha,hS,hr,Option.bind_some,hg]; rfl,fun h=>by omega,fun _ e he=>(by cases he),fun h=>by omega⟩
     | some v =>
       refine ⟨some ⟨v,s.S,s.O,s.c⟩,fun s2 ha hS hO hc ρ K=>?_,fun h=>by omega,fun _ e he=>?_,fun h=>by omega⟩
       · rw [h s2 ha,hS,hr,Option.bind_some,hg]
         show K _=K _
         rw [anL (s2:=s2) hS.symm hO.symm hc.symm]
       · cases he
         refine ⟨⟨rfl,rfl,rfl⟩,fun s2 ha hS ρ K=>?_⟩
         have hr2:acz s2.S t i=some l:=by
          have h1:s.S[i]?=some [.blk (.row t l)]:=by
           unfold acz at hr
           split at hr
           · rename_i t' l' hs
             by_cases ht:t'=t
             · subst ht
               rw [dif_pos rfl] at hr
               cases hr
               exact hs
             · rw [dif_neg ht] at hr; cases hr
           · cases hr
          unfold acz
          rw [hS i _ h1]
          simp
         rw [h s2 ha,hr2,Option.bind_some,hg]
         rfl
 · cases hr:s.S[i]? with
   | none=>exact ⟨none,fun s2 ha hS _ _ ρ K=>by rw [h s2 ha,hS,hr]; rfl,fun h=>by omega,fun _ e he=>(by cases he),fun h=>by omega⟩
   | some l =>
     cases hg:g l with
     | none=>exact ⟨none,fun s2 ha hS _ _ ρ K=>by rw [h s2 ha,hS,hr,Option.bind_some,hg]; rfl,fun h=>by omega,fun _ e he=>(by cases he),fun h=>by omega⟩
     | some v =>
       refine ⟨some ⟨v,s.S,s.O,s.c⟩,fun s2 ha hS hO hc ρ K=>?_,fun h=>by omega,fun _ e he=>?_,fun h=>by omega⟩
       · rw [h s2 ha,hS,hr,Option.bind_some,hg]
         show K _=K _
         rw [anL (s2:=s2) hS.symm hO.symm hc.symm]
       · cases he
         refine ⟨⟨rfl,rfl,rfl⟩,fun s2 ha hS ρ K=>?_⟩
         rw [h s2 ha,hS i _ hr,Option.bind_some,hg]
         rfl
theorem aB0 {lo:Nat→Bool} (hE:agd E) (s:St) (d:Option Tmp) (g:Nat) (L:List TV) :
 ∃ oe:Option Eff,∀ s2:St,s2.S=s.S→s2.O=s.O→s2.c=s.c→∀ (ρ:Type) (K:St→Option ρ),atS E false lo s2 d g L K=oe.bind fun e=>K (e.on s2 d):=by
 cases hg:E.find g L with
 | none=>exact ⟨none,fun s2 hS hO hc ρ K=>by simp only [atS,hg]; rfl⟩
 | some sp =>
   cases hl:aGe sp.pars L with
   | true =>
     obtain ⟨oe,hoe⟩:=aBZ hE hg L s d
     refine ⟨oe,fun s2 hS hO hc ρ K=>?_⟩
     simp only [atS,hg,hl,Bool.not_false,Bool.and_self,cond_true]
     exact hoe s2 hS hO hc ρ K
   | false =>
     cases hq:((aul s.S 64 [] (tvPtrs.go L)).all fun i=>!lo i) with
     | false =>
       refine ⟨none,fun s2 hS hO hc ρ K=>?_⟩
       simp only [atS,hg,hl,Bool.and_false,cond_false,hS,hq]; rfl
     | true =>
       obtain ⟨oe,hoe⟩:=aC9 hE hg L (aul s.S 64 [] (tvPtrs.go L)) s
       refine ⟨oe,fun s2 hS hO hc ρ K=>?_⟩
       simp only [atS,hg,hl,Bool.and_false,cond_false,hS,hq,Bool.or_true,aca]
       exact hoe s2 hS hO hc d ρ K
theorem opE (hE:agd E) (hrw:Γ.rw=false) (s:St):∃ oe,OpE Γ E dr o s oe:=by
 by_cases h0:clsO Γ dr o=0
 · obtain ⟨ov,hov⟩:=op0 (Γ:=Γ) hE hrw h0 s
   refine ⟨ov.map fun v=>⟨v,s.S,s.O,s.c⟩,fun s2 h hS hO hc ρ K=>?_,fun _=>⟨fun s2 h hS ρ K=>?_,fun e he=>?_⟩,fun h=>by omega,fun h=>by omega⟩
   · rw [hov s2 h fun i _=>by rw [hS]]
     cases ov with
     | none=>rfl
     | some v =>
       show K _=K _
       rw [anL (s2:=s2) hS.symm hO.symm hc.symm]
   · rw [hov s2 h hS]
     cases ov <;> rfl
   · cases ov <;> cases he
     exact ⟨rfl,rfl,rfl⟩
 · cases ho:o.op
   case binOp op xt x y yt =>
    have hc:clsO Γ dr o=bif Γ.rr&&avc y then 1 else 0:=by unfold clsO; rw [ho]
    cases hrr:(Γ.rr&&avc y) with
    | false=>rw [hrr] at hc; exact absurd hc h0
    | true=>rw [hrr] at hc; exact (aIy hrw ho s).opE hc
   case slice n x lo hi mx =>
    have hc:clsO Γ dr o=bif Γ.rr then 1 else 0:=by unfold clsO; rw [ho]
    cases hrr:Γ.rr with
    | false=>rw [hrr] at hc; exact absurd hc h0
    | true=>rw [hrr] at hc; exact (aEx hrr ho s).opE hc
   case indexAddr n x y =>
    have hc:clsO Γ dr o=bif Γ.rr then 1 else 0:=by unfold clsO; rw [ho]
    cases hrr:Γ.rr with
    | false=>rw [hrr] at hc; exact absurd hc h0
    | true=>rw [hrr] at hc; exact (aEw hrr ho s).opE hc
   case load n x =>
    have hle:o.dst.elim false Γ.le=false:=by
        cases hle:o.dst.elim false Γ.le with
        | false=>rfl
        | true=>exact absurd (show clsO Γ dr o=0 by unfold clsO; rw [ho]; simp only [hle]; rfl) h0
    have hcl:clsO Γ dr o=1:=by unfold clsO; rw [ho]; simp only [hle]; rfl
    cases hx:s.ev none x with
    | ep t v =>
      by_cases hn:Γ.ty n=some t
      · have key:∀ s2,AgX o s s2→∀ (ρ:Type) (K:St→Option ρ),opK Γ E dr o s2 K=K (s2.put o.dst (toTV t v)):=by
            intro s2 h ρ K
            simp only [opK,ho,h x (by simp [ho,Op.operands]),hx,hle,Bool.not_false,Bool.true_or,aca,if_pos hn]
        refine ⟨some ⟨toTV t v,s.S,s.O,s.c⟩,fun s2 h hS hO hc ρ K=>?_,fun h=>by omega,fun _ e he=>?_,fun h=>by omega⟩
        · rw [key s2 h]
          show K _=K _
          rw [anL (s2:=s2) hS.symm hO.symm hc.symm]
        · cases he
          exact ⟨⟨rfl,rfl,rfl⟩,fun s2 h _ ρ K=>key s2 h ρ K⟩
      · refine ⟨none,fun s2 h hS hO hc ρ K=>?_,fun h=>by omega,fun _ e he=>(by cases he),fun h=>by omega⟩
        simp only [opK,ho,h x (by simp [ho,Op.operands]),hx,hle,Bool.not_false,Bool.true_or,aca,if_neg hn]; rfl
    | ptr i p =>
      cases hs:s.S[i]? with
      | none =>
        refine ⟨none,fun s2 h hS hO hc ρ K=>?_,fun h=>by omega,fun _ e he=>(by cases he),fun h=>by omega⟩
        simp only [opK,ho,h x (by simp [ho,Op.operands]),hx,hle,Bool.not_false,Bool.true_or,aca,hS,hs]; rfl
      | some cs =>
        cases hp:plain cs with
        | false =>
          refine ⟨none,fun s2 h hS hO hc ρ K=>?_,fun h=>by omega,fun _ e he=>(by cases he),fun h=>by omega⟩
          simp only [opK,ho,h x (by simp [ho,Op.operands]),hx,hle,Bool.not_false,Bool.true_or,aca,hS,hs,hp]; rfl
        | true =>
        cases hv:axn Γ n (cs.drop p) with
        | none =>
          refine ⟨none,fun s2 h hS hO hc ρ K=>?_,fun h=>by omega,fun _ e he=>(by cases he),fun h=>by omega⟩
          simp only [opK,ho,h x (by simp [ho,Op.operands]),hx,hle,Bool.not_false,Bool.true_or,aca,hS,hs,hp,must,cond_true,hv]; rfl
        | some v =>
          refine ⟨some ⟨v,s.S,s.O,s.c⟩,fun s2 h hS hO hc ρ K=>?_,fun h=>by omega,fun _ e he=>?_,fun h=>by omega⟩
          · simp only [opK,ho,h x (by simp [ho,Op.operands]),hx,hle,Bool.not_false,Bool.true_or,aca,hS,hs,hp,must,cond_true,hv,kTV]
            show K _=K _
            rw [anL (s2:=s2) hS.symm hO.symm hc.symm]
          · cases he
            refine ⟨⟨rfl,rfl,rfl⟩,fun s2 h hS ρ K=>?_⟩
            simp only [opK,ho,h x (by simp [ho,Op.operands]),hx,hle,Bool.not_false,Bool.true_or,aca,hS i cs hs,hp,must,cond_true,hv,kTV]
    | ref r i =>
      have nn:(∀ s2,AgX o s s2→s2.S=s.S→∀ (ρ:Type) (K:St→Option ρ),opK Γ E dr o s2 K=none)→∃ oe,OpE Γ E dr o s oe:=fun hn =>
         ⟨none,fun s2 h hS hO hc ρ K=>hn s2 h hS ρ K,fun h=>by omega,fun _ e he=>(by cases he),fun h=>by omega⟩
      cases r with
      | pel t j f =>
        cases f with
        | some f =>
          cases t with
          | st b =>
            by_cases hn:Γ.ty n=(fldT b f).map Prod.fst
            · cases hr:acz s.S (.st b) i with
              | none=>exact nn fun s2 h hS ρ K=>by simp only [opK,ho,h x (by simp [ho,Op.operands]),hx,hle,Bool.not_false,Bool.true_or,aca,if_pos hn,hS,hr]; rfl
              | some l =>
                cases hj:l[j]? with
                | none=>exact nn fun s2 h hS ρ K=>by simp only [opK,ho,h x (by simp [ho,Op.operands]),hx,hle,Bool.not_false,Bool.true_or,aca,if_pos hn,hS,hr,Option.bind_some,hj]; rfl
                | some y =>
                  cases hz:abS b f y with
                  | none=>exact nn fun s2 h hS ρ K=>by simp only [opK,ho,h x (by simp [ho,Op.operands]),hx,hle,Bool.not_false,Bool.true_or,aca,if_pos hn,hS,hr,Option.bind_some,hj,hz]; rfl
                  | some z =>
                    refine ⟨some ⟨z,s.S,s.O,s.c⟩,fun s2 h hS hO hc ρ K=>?_,fun h=>by omega,fun _ e he=>?_,fun h=>by omega⟩
                    · simp only [opK,ho,h x (by simp [ho,Op.operands]),hx,hle,Bool.not_false,Bool.true_or,aca,if_pos hn,hS,hr,Option.bind_some,hj,hz,kTV]
                      show K _=K _
                      rw [anL (s2:=s2) hS.symm hO.symm hc.symm]
                    · cases he
                      refine ⟨⟨rfl,rfl,rfl⟩,fun s2 h hS ρ K=>?_⟩
                      have hr2:acz s2.S (.st b) i=some l:=by
                        have h1:s.S[i]?=some [.blk (.row (.st b) l)]:=by
                         unfold acz at hr
                         split at hr
                         · rename_i t' l' hs
                           by_cases ht:t'=.st b
                           · subst ht
                             rw [dif_pos rfl] at hr
                             cases hr
                             exact hs
                           · rw [dif_neg ht] at hr; cases hr
                         · cases hr
                        unfold acz
                        rw [hS i _ h1]
                        simp
                      simp only [opK,ho,h x (by simp [ho,Op.operands]),hx,hle,Bool.not_false,Bool.true_or,aca,if_pos hn,hr2,Option.bind_some,hj,hz,kTV]
            · exact nn fun s2 h hS ρ K=>by simp only [opK,ho,h x (by simp [ho,Op.operands]),hx,hle,Bool.not_false,Bool.true_or,aca,if_neg hn]
          | _=>exact nn fun s2 h hS ρ K=>by simp only [opK,ho,h x (by simp [ho,Op.operands]),hx]
        | none =>
          by_cases hn:Γ.ty n=some t
          · cases hr:acz s.S t i with
            | none=>exact nn fun s2 h hS ρ K=>by simp only [opK,ho,h x (by simp [ho,Op.operands]),hx,hle,Bool.not_false,Bool.true_or,aca,if_pos hn,hS,hr]; rfl
            | some l =>
              cases hj:l[j]? with
              | none=>exact nn fun s2 h hS ρ K=>by simp only [opK,ho,h x (by simp [ho,Op.operands]),hx,hle,Bool.not_false,Bool.true_or,aca,if_pos hn,hS,hr,Option.bind_some,hj]; rfl
              | some y =>
                refine ⟨some ⟨toTV t y,s.S,s.O,s.c⟩,fun s2 h hS hO hc ρ K=>?_,fun h=>by omega,fun _ e he=>?_,fun h=>by omega⟩
                · simp only [opK,ho,h x (by simp [ho,Op.operands]),hx,hle,Bool.not_false,Bool.true_or,aca,if_pos hn,hS,hr,Option.bind_some,hj]
                  show K _=K _
                  rw [anL (s2:=s2) hS.symm hO.symm hc.symm]
                · cases he
                  refine ⟨⟨rfl,rfl,rfl⟩,fun s2 h hS ρ K=>?_⟩
                  have hr2:acz s2.S t i=some l:=by
                    have h1:s.S[i]?=some [.blk (.row t l)]:=by
                     unfold acz at hr
                     split at hr
                     · rename_i t' l' hs
                       by_cases ht:t'=t
                       · subst ht
                         rw [dif_pos rfl] at hr
                         cases hr
                         exact hs
                       · rw [dif_neg ht] at hr; cases hr
                     · cases hr
                    unfold acz
                    rw [hS i _ h1]
                    simp
                  simp only [opK,ho,h x (by simp [ho,Op.operands]),hx,hle,Bool.not_false,Bool.true_or,aca,if_pos hn,hr2,Option.bind_some,hj]
          · exact nn fun s2 h hS ρ K=>by simp only [opK,ho,h x (by simp [ho,Op.operands]),hx,hle,Bool.not_false,Bool.true_or,aca,if_neg hn]
      | _=>exact nn fun s2 h hS ρ K=>by simp only [opK,ho,h x (by simp [ho,Op.operands]),hx]
    | _ =>
      refine ⟨none,fun s2 h hS hO hc ρ K=>?_,fun h=>by omega,fun _ e he=>(by cases he),fun h=>by omega⟩
      simp only [opK,ho,h x (by simp [ho,Op.operands]),hx]; rfl
   case alloc e =>
    have hcl:clsO Γ dr o=2:=by unfold clsO; rw [ho]; rfl
    cases ht:Γ.ty e with
    | none =>
      cases har:Γ.ar e with
      | none =>
        refine ⟨none,fun s2 h hS hO hc ρ K=>?_,fun h=>by omega,fun h=>by omega,fun _ e he=>by cases he⟩
        simp only [opK,ho,ht,har]; rfl
      | some bm =>
        obtain ⟨b,m,en⟩:=bm
        refine ⟨some ⟨.ptr s.S.length 0,s.S++[zeroCells (.st b)],s.O,s.c⟩,fun s2 h hS hO hc ρ K=>?_,fun h=>by omega,fun h=>by omega,fun _ e he=>?_⟩
        · simp only [opK,ho,ht,har]
          rw [hS,hO,hc]; show K _=K _; unfold Eff.on; rfl
        · cases he
          exact ⟨fun p cs hp=>by show (s.S++_)[p]?=_; rw [List.getElem?_append_left (List.getElem?_eq_some_iff.1 hp).1]; exact hp,rfl,rfl⟩
    | some t =>
      refine ⟨some ⟨.ptr s.S.length 0,s.S++[zeroCells t],s.O,s.c⟩,fun s2 h hS hO hc ρ K=>?_,fun h=>by omega,fun h=>by omega,fun _ e he=>?_⟩
      · simp only [opK,ho,ht]
        rw [hS,hO,hc]; show K _=K _; unfold Eff.on; rfl
      · cases he
        exact ⟨fun p cs hp=>by show (s.S++_)[p]?=_; rw [List.getElem?_append_left (List.getElem?_eq_some_iff.1 hp).1]; exact hp,rfl,rfl⟩
   case box e x =>
    have hcl:clsO Γ dr o=2:=by unfold clsO; rw [ho]; rfl
    cases ht:Γ.ty e with
    | none =>
      refine ⟨none,fun s2 h hS hO hc ρ K=>?_,fun h=>by omega,fun h=>by omega,fun _ e he=>by cases he⟩
      simp only [opK,ho,ht]; rfl
    | some t =>
      cases hy:asw t (s.ev (some t) x) with
      | none =>
        refine ⟨none,fun s2 h hS hO hc ρ K=>?_,fun h=>by omega,fun h=>by omega,fun _ e he=>by cases he⟩
        simp only [opK,ho,ht,h x (by simp [ho,Op.operands]),hy]; rfl
      | some y =>
        cases hbr:Nat.blt 15 (o.dst.elim 0 Γ.row) with
        | true =>
          refine ⟨none,fun s2 h hS hO hc ρ K=>?_,fun h=>by omega,fun h=>by omega,fun _ e he=>by cases he⟩
          simp only [opK,ho,ht,h x (by simp [ho,Op.operands]),hy,hbr,hrw]; rfl
        | false =>
        refine ⟨some ⟨.ptr s.S.length 0,s.S++[y],s.O,s.c⟩,fun s2 h hS hO hc ρ K=>?_,fun h=>by omega,fun h=>by omega,fun _ e he=>?_⟩
        · simp only [opK,ho,ht,h x (by simp [ho,Op.operands]),hy,hbr,cond_false]
          rw [hS,hO,hc]; show K _=K _; unfold Eff.on; rfl
        · cases he
          exact ⟨fun p cs hp=>by show (s.S++_)[p]?=_; rw [List.getElem?_append_left (List.getElem?_eq_some_iff.1 hp).1]; exact hp,rfl,rfl⟩
   case makeSlice n x y =>
    have hcl:clsO Γ dr o=2:=by unfold clsO; rw [ho]; rfl
    have nn:(∀ s2,AgX o s s2→s2.S=s.S→∀ (ρ:Type) (K:St→Option ρ),opK Γ E dr o s2 K=none)→∃ oe,OpE Γ E dr o s oe:=fun hn =>
        ⟨none,fun s2 h hS hO hc ρ K=>hn s2 h hS ρ K,fun h=>by omega,fun h=>by omega,fun _ e he=>(by cases he)⟩
    cases ht:Γ.ty n with
    | none=>exact nn fun s2 h hS ρ K=>by simp only [opK,ho,ht]
    | some tt =>
      cases tt with
      | sl t =>
        cases hx:s.ev none x with
        | int k p =>
          cases hy:s.ev none y with
          | int k2 q =>
            cases hb:(decide (0≤p)&&beqI p q) with
            | false=>exact nn fun s2 h hS ρ K=>by simp only [opK,ho,ht,h x (by simp [ho,Op.operands]),h y (by simp [ho,Op.operands]),hx,hy,aGh,hb]; rfl
            | true =>
              by_cases hlim:p.toNat≤LIM
              · refine ⟨some ⟨.ref (.asl t) s.S.length,s.S++[[TV.blk (.row t (List.replicate p.toNat (zero t)))]],s.O,s.c⟩,fun s2 h hS hO hc ρ K=>?_,fun h=>by omega,fun h=>by omega,fun _ e he=>?_⟩
                · simp only [opK,ho,ht,h x (by simp [ho,Op.operands]),h y (by simp [ho,Op.operands]),hx,hy,aGh,hb,must,cond_true,lim,if_pos hlim]
                  rw [hS,hO,hc]; show K _=K _; unfold Eff.on; rfl
                · cases he
                  exact ⟨fun p cs hp=>by show (s.S++_)[p]?=_; rw [List.getElem?_append_left (List.getElem?_eq_some_iff.1 hp).1]; exact hp,rfl,rfl⟩
              · exact nn fun s2 h hS ρ K=>by simp only [opK,ho,ht,h x (by simp [ho,Op.operands]),h y (by simp [ho,Op.operands]),hx,hy,aGh,hb,must,cond_true,lim,if_neg hlim]
          | _=>exact nn fun s2 h hS ρ K=>by simp only [opK,ho,ht,h x (by simp [ho,Op.operands]),h y (by simp [ho,Op.operands]),hx,hy]
        | _=>exact nn fun s2 h hS ρ K=>by simp only [opK,ho,ht,h x (by simp [ho,Op.operands]),hx]
      | _=>exact nn fun s2 h hS ρ K=>by simp only [opK,ho,ht]
   case store n x y =>
    have hcl:clsO Γ dr o=3:=by unfold clsO; rw [ho]; rfl
    have mk:∀ oe:Option Eff,(∀ s2,AgX o s s2→s2.S=s.S→s2.O=s.O→s2.c=s.c→∀ (ρ:Type) (K:St→Option ρ),opK Γ E dr o s2 K=oe.bind fun e=>K (e.on s2 o.dst))→∃ oe,OpE Γ E dr o s oe :=
        fun oe h=>⟨oe,h,fun h=>by omega,fun h=>by omega,fun h=>by omega⟩
    cases hx:s.ev none x with
    | ptr i p =>
      cases hs:s.S[i]? with
      | none=>exact mk none fun s2 h hS hO hc ρ K=>by simp only [opK,ho,h x (by simp [ho,Op.operands]),h y (by simp [ho,Op.operands]),hx,hS,hs]; rfl
      | some cs =>
        cases hv:aDa (s.ev (Γ.ty n) y) with
        | none=>exact mk none fun s2 h hS hO hc ρ K=>by simp only [opK,ho,h x (by simp [ho,Op.operands]),h y (by simp [ho,Op.operands]),hx,hS,hs,hv]; rfl
        | some vs =>
          cases hsp:atK cs p vs with
          | none=>exact mk none fun s2 h hS hO hc ρ K=>by simp only [opK,ho,h x (by simp [ho,Op.operands]),h y (by simp [ho,Op.operands]),hx,hS,hs,hv,hsp]; rfl
          | some cs' =>
            cases hst:(!Γ.lo i&&(plain cs&&asH Γ n (s.ev (Γ.ty n) y))) with
            | false=>exact mk none fun s2 h hS hO hc ρ K=>by simp only [opK,ho,h x (by simp [ho,Op.operands]),h y (by simp [ho,Op.operands]),hx,hS,hs,hv,hsp,hst]; rfl
            | true =>
              exact mk (some ⟨.skip,s.S.set i cs',s.O,s.c⟩) fun s2 h hS hO hc ρ K=>by
                simp only [opK,ho,h x (by simp [ho,Op.operands]),h y (by simp [ho,Op.operands]),hx,hS,hs,hv,hsp,hst,cond_true]
                rw [hO,hc]; show K _=K _; unfold Eff.on; rfl
    | ref r i =>
      cases r with
      | pel t j f =>
        cases f with
        | some f =>
          cases t with
          | st b =>
            cases hq:Γ.lo i with
            | true=>exact mk none fun s2 h hS hO hc ρ K=>by simp only [opK,ho,h x (by simp [ho,Op.operands]),hx,hq]; rfl
            | false =>
            by_cases hn:Γ.ty n=(fldT b f).map Prod.fst
            · obtain ⟨oe,hoe⟩:=aFu s o.dst b f j i (s.ev (Γ.ty n) y)
              exact mk oe fun s2 h hS hO hc ρ K=>by
                simp only [opK,ho,h x (by simp [ho,Op.operands]),h y (by simp [ho,Op.operands]),hx,hq,Bool.not_false,aca,if_pos hn]
                exact hoe s2 hS hO hc ρ K
            · exact mk none fun s2 h hS hO hc ρ K=>by simp only [opK,ho,h x (by simp [ho,Op.operands]),hx,hq,Bool.not_false,aca,if_neg hn]; rfl
          | _=>exact mk none fun s2 h hS hO hc ρ K=>by simp only [opK,ho,h x (by simp [ho,Op.operands]),hx]; rfl
        | none =>
          cases hq:Γ.lo i with
          | true=>exact mk none fun s2 h hS hO hc ρ K=>by simp only [opK,ho,h x (by simp [ho,Op.operands]),hx,hq]; rfl
          | false =>
          by_cases hn:Γ.ty n=some t
          · obtain ⟨oe,hoe⟩:=aFv s o.dst t j i (s.ev (Γ.ty n) y)
            exact mk oe fun s2 h hS hO hc ρ K=>by
              simp only [opK,ho,h x (by simp [ho,Op.operands]),h y (by simp [ho,Op.operands]),hx,hq,Bool.not_false,aca,if_pos hn]
              exact hoe s2 hS hO hc ρ K
          · exact mk none fun s2 h hS hO hc ρ K=>by simp only [opK,ho,h x (by simp [ho,Op.operands]),hx,hq,Bool.not_false,aca,if_neg hn]; rfl
      | _=>exact mk none fun s2 h hS hO hc ρ K=>by simp only [opK,ho,h x (by simp [ho,Op.operands]),hx]; rfl
    | _=>exact mk none fun s2 h hS hO hc ρ K=>by simp only [opK,ho,h x (by simp [ho,Op.operands]),h y (by simp [ho,Op.operands]),hx]; rfl
   case lookup n x i ok =>
    have hc:clsO Γ dr o=1:=by unfold clsO; rw [ho]; rfl
    exact (aCE ho s).opE hc
   case makeMap n hint =>
    have hcl:clsO Γ dr o=3:=by unfold clsO; rw [ho]; rfl
    have mk:∀ oe:Option Eff,(∀ s2,AgX o s s2→s2.S=s.S→s2.O=s.O→s2.c=s.c→∀ (ρ:Type) (K:St→Option ρ),opK Γ E dr o s2 K=oe.bind fun e=>K (e.on s2 o.dst))→∃ oe,OpE Γ E dr o s oe :=
        fun oe h=>⟨oe,h,fun h=>by omega,fun h=>by omega,fun h=>by omega⟩
    cases hint with
    | some _=>exact mk none fun s2 h hS hO hc ρ K=>by simp only [opK,ho]; rfl
    | none =>
      cases hn:Γ.mt n with
      | none=>exact mk none fun s2 h hS hO hc ρ K=>by simp only [opK,ho,hn]; rfl
      | some q =>
        obtain ⟨kt,vt,k,e⟩:=q
        exact mk (some ⟨.ref (.mp kt vt) s.S.length,s.S++[[TV.blk (.mp kt vt [])]],s.O,s.c⟩) fun s2 h hS hO hc ρ K=>by
            simp only [opK,ho,hn]
            rw [hS,hO,hc]; show K _=K _; unfold Eff.on; rfl
   case mapUpdate n x i v =>
    have hcl:clsO Γ dr o=3:=by unfold clsO; rw [ho]; rfl
    have mk:∀ oe:Option Eff,(∀ s2,AgX o s s2→s2.S=s.S→s2.O=s.O→s2.c=s.c→∀ (ρ:Type) (K:St→Option ρ),opK Γ E dr o s2 K=oe.bind fun e=>K (e.on s2 o.dst))→∃ oe,OpE Γ E dr o s oe :=
        fun oe h=>⟨oe,h,fun h=>by omega,fun h=>by omega,fun h=>by omega⟩
    cases hn:Γ.mt n with
    | none=>exact mk none fun s2 h hS hO hc ρ K=>by simp only [opK,ho,hn]; rfl
    | some q =>
      obtain ⟨kt,vt,k,e⟩:=q
      cases hx:s.ev none x with
      | ref r g =>
        cases r with
        | mp k1 v1 =>
          cases hq:Γ.lo g with
          | true=>exact mk none fun s2 h hS hO hc ρ K=>by simp only [opK,ho,hn,h x (by simp [ho,Op.operands]),hx,hq]; rfl
          | false =>
          refine mk ((aub s.S kt vt g).bind fun l=>(ofTV kt (s.ev (some kt) i)).bind fun y=>(ofTV vt (s.ev (some vt) v)).map fun z=>⟨.skip,s.S.set g [.blk (.mp kt vt (setM kt l y z))],s.O,s.c⟩) fun s2 h hS hO hc ρ K=>?_
          simp only [opK,ho,hn,h x (by simp [ho,Op.operands]),h i (by simp [ho,Op.operands]),h v (by simp [ho,Op.operands]),hx,hq,Bool.not_false,aca]
          rw [hS,hO,hc]
          cases aub s.S kt vt g <;> (try rfl)
          simp only [Option.bind_some]
          cases ofTV kt (s.ev (some kt) i) <;> (try rfl)
          simp only [Option.bind_some]
          cases ofTV vt (s.ev (some vt) v) <;> (try rfl)
        | _=>exact mk none fun s2 h hS hO hc ρ K=>by simp only [opK,ho,hn,h x (by simp [ho,Op.operands]),hx]; rfl
      | _=>exact mk none fun s2 h hS hO hc ρ K=>by simp only [opK,ho,hn,h x (by simp [ho,Op.operands]),hx]; rfl
   case insert n x i v =>
    have hcl:clsO Γ dr o=3:=by unfold clsO; rw [ho]; rfl
    have mk:∀ oe:Option Eff,(∀ s2,AgX o s s2→s2.S=s.S→s2.O=s.O→s2.c=s.c→∀ (ρ:Type) (K:St→Option ρ),opK Γ E dr o s2 K=oe.bind fun e=>K (e.on s2 o.dst))→∃ oe,OpE Γ E dr o s oe :=
        fun oe h=>⟨oe,h,fun h=>by omega,fun h=>by omega,fun h=>by omega⟩
    cases hn:Γ.mt n with
    | none=>exact mk none fun s2 h hS hO hc ρ K=>by simp only [opK,ho,hn]; rfl
    | some q =>
      obtain ⟨kt,vt,k,e⟩:=q
      cases hx:s.ev none x with
      | ref r g =>
        cases r with
        | mp k1 v1 =>
          cases hq:Γ.lo g with
          | true=>exact mk none fun s2 h hS hO hc ρ K=>by simp only [opK,ho,hn,h x (by simp [ho,Op.operands]),hx,hq]; rfl
          | false =>
          refine mk ((aub s.S kt vt g).bind fun l=>(ofTV kt (s.ev (some kt) i)).bind fun y=>(ofTV vt (s.ev (some vt) v)).map fun z=>⟨.skip,s.S.set g [.blk (.mp kt vt (setM kt l y z))],s.O,s.c⟩) fun s2 h hS hO hc ρ K=>?_
          simp only [opK,ho,hn,h x (by simp [ho,Op.operands]),h i (by simp [ho,Op.operands]),h v (by simp [ho,Op.operands]),hx,hq,Bool.not_false,aca]
          rw [hS,hO,hc]
          cases aub s.S kt vt g <;> (try rfl)
          simp only [Option.bind_some]
          cases ofTV kt (s.ev (some kt) i) <;> (try rfl)
          simp only [Option.bind_some]
          cases ofTV vt (s.ev (some vt) v) <;> (try rfl)
        | _=>exact mk none fun s2 h hS hO hc ρ K=>by simp only [opK,ho,hn,h x (by simp [ho,Op.operands]),hx]; rfl
      | _=>exact mk none fun s2 h hS hO hc ρ K=>by simp only [opK,ho,hn,h x (by simp [ho,Op.operands]),hx]; rfl
   case call c =>
    obtain ⟨callee,args,ns⟩:=c
    have mk:clsO Γ dr o=3→∀ oe:Option Eff,(∀ s2,AgX o s s2→s2.S=s.S→s2.O=s.O→s2.c=s.c→∀ (ρ:Type) (K:St→Option ρ),opK Γ E dr o s2 K=oe.bind fun e=>K (e.on s2 o.dst))→∃ oe,OpE Γ E dr o s oe :=
        fun hcl oe h=>⟨oe,h,fun h=>by omega,fun h=>by omega,fun h=>by omega⟩
    cases callee with
    | invoke r m=>exact mk (by unfold clsO; rw [ho]; rfl) none fun s2 h hS hO hc ρ K=>by simp only [opK,ho]; rfl
    | value f =>
      cases dr with
      | true=>unfold clsO at h0; rw [ho] at h0; exact absurd rfl h0
      | false =>
        have hcl:clsO Γ false o=3:=by unfold clsO; rw [ho]; rfl
        cases hf:s.ev none f with
        | fn g caps =>
          cases hyb:Nat.blt g YB with
          | false =>
            refine mk hcl none fun s2 h hS hO hc ρ K=>?_
            have h1:=h f (by simp [ho,Op.operands,Call.operands])
            simp only [opK,ho,aqO,h1,hf,hyb]; rfl
          | true =>
            obtain ⟨oe,hoe⟩:=aB0 (lo:=Γ.lo) hE s o.dst g (s.evs Γ.ty args.toList ns.toList++tidy.go (fun _=>false) caps)
            refine mk hcl oe fun s2 h hS hO hc ρ K=>?_
            have h1:=h f (by simp [ho,Op.operands,Call.operands])
            have h2:s2.evs Γ.ty args.toList ns.toList=s.evs Γ.ty args.toList ns.toList:=apr _ _ _ fun x hx=>h x (by simp [ho,Op.operands,Call.operands,Array.mem_toList_iff.1 hx])
            simp only [opK,ho,aqO,h1,hf,h2,hyb,aca]
            exact hoe s2 hS hO hc ρ K
        | ref r i =>
          cases r with
          | yl =>
            cases hr:aIq s.S i with
            | none =>
              refine mk hcl none fun s2 h hS hO hc ρ K=>?_
              have h1:=h f (by simp [ho,Op.operands,Call.operands])
              simp only [opK,ho,aqO,h1,hf,hS,hr]; rfl
            | some r =>
              cases hyb:Nat.ble YB r.id with
              | false =>
                refine mk hcl none fun s2 h hS hO hc ρ K=>?_
                have h1:=h f (by simp [ho,Op.operands,Call.operands])
                simp only [opK,ho,aqO,h1,hf,hS,hr,hyb]; rfl
              | true =>
                obtain ⟨oe,hoe⟩:=aB0 (lo:=Γ.lo) hE s o.dst r.id (s.evs Γ.ty args.toList ns.toList++[.ref .yl i])
                refine mk hcl oe fun s2 h hS hO hc ρ K=>?_
                have h1:=h f (by simp [ho,Op.operands,Call.operands])
                have h2:s2.evs Γ.ty args.toList ns.toList=s.evs Γ.ty args.toList ns.toList:=apr _ _ _ fun x hx=>h x (by simp [ho,Op.operands,Call.operands,Array.mem_toList_iff.1 hx])
                simp only [opK,ho,aqO,h1,hf,h2,hS,hr,hyb,aca]
                exact hoe s2 hS hO hc ρ K
          | _ =>
            refine mk hcl none fun s2 h hS hO hc ρ K=>?_
            have h1:=h f (by simp [ho,Op.operands,Call.operands])
            simp only [opK,ho,aqO,h1,hf]; rfl
        | _ =>
          refine mk hcl none fun s2 h hS hO hc ρ K=>?_
          have h1:=h f (by simp [ho,Op.operands,Call.operands])
          simp only [opK,ho,aqO,h1,hf]; rfl
    | builtin b =>
      cases b
      case append =>
         have hcl:clsO Γ dr o=3:=by unfold clsO; rw [ho]; rfl
         have h1:∀ s2,AgX o s s2→∀ x∈args.toList,∀ t,s2.ev t x=s.ev t x:=fun s2 h x hx=>h x (by simp [ho,Op.operands,Call.operands,Array.mem_toList_iff.1 hx])
         rcases hl:args.toList with _ | ⟨x,_ | ⟨y,_ | ⟨z,l⟩⟩⟩
         · exact mk hcl none fun s2 h hS hO hc ρ K=>by simp only [opK,ho,hl]; rfl
         · exact mk hcl none fun s2 h hS hO hc ρ K=>by simp only [opK,ho,hl]; rfl
         · rcases hn:ns.toList with _ | ⟨n,_ | ⟨m,_ | ⟨k,l'⟩⟩⟩
           · exact mk hcl none fun s2 h hS hO hc ρ K=>by simp only [opK,ho,hl,hn]; rfl
           · exact mk hcl none fun s2 h hS hO hc ρ K=>by simp only [opK,ho,hl,hn]; rfl
           · have e1:∀ s2,AgX o s s2→∀ t,s2.ev t x=s.ev t x:=fun s2 h=>h1 s2 h x (by rw [hl]; simp)
             have e2:∀ s2,AgX o s s2→∀ t,s2.ev t y=s.ev t y:=fun s2 h=>h1 s2 h y (by rw [hl]; simp)
             obtain ⟨oe,hoe⟩:=aC7 (Γ:=Γ) s o.dst n m (s.ev (Γ.ty n) x) (s.ev (Γ.ty m) y)
             exact mk hcl oe fun s2 h hS hO hc ρ K=>by
              simp only [opK,ho,hl,hn,e1 s2 h,e2 s2 h]
              exact hoe s2 hS hO hc ρ K
           · exact mk hcl none fun s2 h hS hO hc ρ K=>by simp only [opK,ho,hl,hn]; rfl
         · exact mk hcl none fun s2 h hS hO hc ρ K=>by simp only [opK,ho,hl]; rfl
      case clear =>
         have hcl:clsO Γ dr o=3:=by unfold clsO; rw [ho]; rfl
         have h1:∀ s2,AgX o s s2→∀ x∈args.toList,∀ t,s2.ev t x=s.ev t x:=fun s2 h x hx=>h x (by simp [ho,Op.operands,Call.operands,Array.mem_toList_iff.1 hx])
         rcases hl:args.toList with _ | ⟨x,_ | ⟨y,l⟩⟩
         · exact mk hcl none fun s2 h hS hO hc ρ K=>by simp only [opK,ho,hl]; rfl
         · rcases hn:ns.toList with _ | ⟨n,_ | ⟨m,l'⟩⟩
           · exact mk hcl none fun s2 h hS hO hc ρ K=>by simp only [opK,ho,hl,hn]; rfl
           · have e1:∀ s2,AgX o s s2→∀ t,s2.ev t x=s.ev t x:=fun s2 h=>h1 s2 h x (by rw [hl]; simp)
             obtain ⟨oe,hoe⟩:=aE6 (Γ:=Γ) s o.dst n (s.ev none x)
             exact mk hcl oe fun s2 h hS hO hc ρ K=>by
              simp only [opK,ho,hl,hn,e1 s2 h]
              exact hoe s2 hS hO hc ρ K
           · exact mk hcl none fun s2 h hS hO hc ρ K=>by simp only [opK,ho,hl,hn]; rfl
         · exact mk hcl none fun s2 h hS hO hc ρ K=>by simp only [opK,ho,hl]; rfl
      case copy =>
         have hcl:clsO Γ dr o=3:=by unfold clsO; rw [ho]; rfl
         have h1:∀ s2,AgX o s s2→∀ x∈args.toList,∀ t,s2.ev t x=s.ev t x:=fun s2 h x hx=>h x (by simp [ho,Op.operands,Call.operands,Array.mem_toList_iff.1 hx])
         rcases hl:args.toList with _ | ⟨x,_ | ⟨y,_ | ⟨z,l⟩⟩⟩
         · exact mk hcl none fun s2 h hS hO hc ρ K=>by simp only [opK,ho,hl]; rfl
         · exact mk hcl none fun s2 h hS hO hc ρ K=>by simp only [opK,ho,hl]; rfl
         · rcases hn:ns.toList with _ | ⟨n,_ | ⟨m,_ | ⟨k,l'⟩⟩⟩
           · exact mk hcl none fun s2 h hS hO hc ρ K=>by simp only [opK,ho,hl,hn]; rfl
           · exact mk hcl none fun s2 h hS hO hc ρ K=>by simp only [opK,ho,hl,hn]; rfl
           · have e1:∀ s2,AgX o s s2→∀ t,s2.ev t x=s.ev t x:=fun s2 h=>h1 s2 h x (by rw [hl]; simp)
             have e2:∀ s2,AgX o s s2→∀ t,s2.ev t y=s.ev t y:=fun s2 h=>h1 s2 h y (by rw [hl]; simp)
             obtain ⟨oe,hoe⟩:=aFO (Γ:=Γ) s o.dst n m (s.ev none x) (s.ev (Γ.ty m) y)
             exact mk hcl oe fun s2 h hS hO hc ρ K=>by
              simp only [opK,ho,hl,hn,e1 s2 h,e2 s2 h]
              exact hoe s2 hS hO hc ρ K
           · exact mk hcl none fun s2 h hS hO hc ρ K=>by simp only [opK,ho,hl,hn]; rfl
         · exact mk hcl none fun s2 h hS hO hc ρ K=>by simp only [opK,ho,hl]; rfl
      case len =>
         have hc:clsO Γ dr o=bif Γ.rr then 1 else 0:=by unfold clsO; rw [ho]
         cases hrr:Γ.rr with
         | false=>rw [hrr] at hc; exact absurd hc h0
         | true=>rw [hrr] at hc; exact (aIx hrr ho s).opE hc
      all_goals first
         | (unfold clsO at h0; rw [ho] at h0; exact absurd rfl h0)
         | exact mk (by unfold clsO; rw [ho]; rfl) none fun s2 h hS hO hc ρ K=>by simp only [opK,ho]; rfl
   all_goals first
    | (unfold clsO at h0; rw [ho] at h0; exact absurd rfl h0)
    | exact ⟨none,(fun s2 h hS hO hc ρ K=>by simp only [opK,ho]; rfl),(fun h=>absurd h h0),(fun _ e he=>by cases he),(fun _ e he=>by cases he)⟩
theorem aCc : ∀ (js:List Nat) (S S':List Obj) (i:Nat),i < S.length→i ∉ js→(layS S js S')[i]?=S[i]?
 | [],S,S',i,h,_=>by
   have e:layS S [] S'=S++S':=by cases S' <;> rfl
   rw [e,List.getElem?_append_left h]
 | _ :: _,S,[],i,_,_=>rfl
 | j :: r,S,o :: os,i,h,hn=>by
   show (layS (S.set j o) r os)[i]?=_
   rw [aCc r (S.set j o) os i (by rw [List.length_set]; exact h) fun hm=>hn (List.mem_cons_of_mem _ hm)]
   rw [List.getElem?_set_ne fun e=>hn (by rw [e]; exact List.mem_cons_self ..)]
theorem akx {s:St} {d:Option Tmp} {v:TV}:(s.put d v).S=s.S:=by
 cases d with
 | none=>rfl
 | some d=>unfold St.put; cases hb:Nat.blt d s.n <;> simp only [hb] <;> rfl
theorem ale {S:List Obj} {i j:Nat} {x:Obj} (h:i≠j):(S.set i x)[j]?=S[j]?:=List.getElem?_set_ne h
theorem anK {α:Type} {b:Bool} {x:Option α} {y:α} (h:must b x=some y):b=true∧x=some y:=by
 unfold must at h
 cases b
 · cases h
 · exact ⟨rfl,h⟩
theorem aJH {s:St} {d:Option Tmp} {t:Ty} {f:Fl} {nl:Option Bool} {l l2:List t.D} {S':List Obj} (h:appK s d t f nl l l2 (fun s'=>some s'.S)=some S'):S'=s.S:=by
 unfold appK at h
 cases hm:agy s f with
 | false=>rw [hm] at h; cases h
 | true =>
   rw [hm] at h
   simp only [cond_true] at h
   unfold lim at h
   split at h
   · cases h
     rw [akx]
     cases f <;> rfl
   · cases h
theorem ayo (hE:agd E) {lo:Nat→Bool} {s:St} {d:Option Tmp} {g:Nat} {L:List TV} {S':List Obj} {i:Nat} (hi:lo i=true) (hlt:i < s.S.length)
 (hrun:atS E false lo s d g L (fun s'=>some s'.S)=some S'):S'[i]?=s.S[i]?:=by
 unfold atS at hrun
 split at hrun
 case h_2=>cases hrun
 rename_i sp hsp
 cases hl:aGe sp.pars L with
 | true =>
   rw [hl] at hrun
   simp only [Bool.not_false,Bool.and_self,cond_true] at hrun
   obtain ⟨oe,hoe⟩:=aBZ hE hsp L s d
   unfold awy at hrun
   obtain ⟨as1,_,hrun⟩:=Option.bind_eq_some_iff.1 hrun
   split at hrun
   case h_2=>cases hrun
   rename_i as2 _
   obtain ⟨_,hrun⟩:=anK hrun
   obtain ⟨out,hout⟩:=hE _ _ sp hsp as2 []
   rw [hout] at hrun
   cases out with
   | none=>cases hrun
   | some p =>
     obtain ⟨v,S2⟩:=p
     cases S2 with
     | cons _ _=>cases hrun
     | nil =>
       obtain ⟨_,hrun⟩:=anK (show must (scal v) (some (s.put d v).S)=some S' from hrun)
       cases hrun
       rw [akx]
 | false =>
   rw [hl] at hrun
   simp only [Bool.and_false,cond_false,Bool.false_or] at hrun
   obtain ⟨hq,hrun⟩:=anK hrun
   have hnj:i ∉ aul s.S 64 [] (tvPtrs.go L):=fun hm=>by
    have:=List.all_eq_true.1 hq i hm
    rw [hi] at this; cases this
   generalize aul s.S 64 [] (tvPtrs.go L)=js at hrun hnj
   unfold asJ at hrun
   split at hrun
   case h_2=>cases hrun
   split at hrun
   case h_2=>cases hrun
   rename_i as2 ta os2 tb _ _
   cases hb:(apart js&&apart (ta++tb)&&apart sp.qs&&Nat.beq os2.length js.length) with
   | false=>rw [hb] at hrun; cases hrun
   | true =>
     rw [hb] at hrun
     simp only [cond_true] at hrun
     obtain ⟨out,hout⟩:=hE _ _ sp hsp as2 os2
     rw [hout] at hrun
     cases out with
     | none=>cases hrun
     | some p =>
       simp only [Option.bind_some] at hrun
       cases hrun
       rw [akx]
       exact aCc _ _ _ i hlt hnj
theorem aHJ (hE:agd E) (hrw:Γ.rw=false) {s:St} (hlo:∀ i,Γ.lo i=true→i < s.S.length) {e:Eff} (J:OpE Γ E dr o s (some e)):∀ i,Γ.lo i=true→e.S[i]?=s.S[i]?:=by
 by_cases h0:clsO Γ dr o=0
 · intro i _; rw [((J.c0 h0).2 e rfl).1]
 by_cases h1:clsO Γ dr o=1
 · intro i _; rw [((J.c1 h1 e rfl).1).1]
 by_cases h2:clsO Γ dr o=2
 · intro i hi
   have hk:=(J.c2 h2 e rfl).1 i _ (List.getElem?_eq_getElem (hlo i hi))
   rw [hk,List.getElem?_eq_getElem (hlo i hi)]
 have hrun:=J.run s (fun _ _ _=>rfl) rfl rfl rfl (List Obj) (fun s'=>some s'.S)
 have hS:(e.on s o.dst).S=e.S:=akx
 have hrun:opK Γ E dr o s (fun s'=>some s'.S)=some e.S:=hrun.trans (congrArg some hS)
 generalize e.S=S' at hrun
 intro i hi
 have hne:∀ {j:Nat},Γ.lo j=false→j≠i:=fun hj e=>by rw [e,hi] at hj; cases hj
 unfold clsO at h0 h1 h2
 cases ho:o.op <;> rw [ho] at h0 h1 h2 <;> simp only [cls] at h0 h1 h2 <;> (try (exact (h0 trivial).elim)) <;> (try (exact (h1 trivial).elim)) <;> (try (exact (h2 trivial).elim)) <;> (try (simp only [opK,ho] at hrun; cases hrun; done))
 case load n x=>cases h:o.dst.elim false Γ.le <;> rw [h] at h0 h1 <;> first | (simp at h0; done) | (simp at h1; done)
 case binOp op xt x y yt=>cases h:(Γ.rr&&avc y) <;> rw [h] at h0 h1 <;> first | (simp at h0; done) | (simp at h1; done)
 case slice n x lo hi mx=>cases h:Γ.rr <;> rw [h] at h0 h1 <;> first | (simp at h0; done) | (simp at h1; done)
 case indexAddr n x y=>cases h:Γ.rr <;> rw [h] at h0 h1 <;> first | (simp at h0; done) | (simp at h1; done)
 case makeMap n hint =>
  cases hint with
  | some _=>simp only [opK,ho] at hrun; cases hrun
  | none =>
    simp only [opK,ho] at hrun
    split at hrun
    · cases hrun
      rw [akx,List.getElem?_append_left (hlo i hi)]
    · cases hrun
 case mapUpdate n x j v =>
  simp only [opK,ho] at hrun
  split at hrun
  · rename_i g _ _
    cases hq:Γ.lo g with
    | true=>rw [hq] at hrun; cases hrun
    | false =>
      rw [hq] at hrun
      simp only [Bool.not_false,aca] at hrun
      obtain ⟨l,_,hrun⟩:=Option.bind_eq_some_iff.1 hrun
      obtain ⟨y,_,hrun⟩:=Option.bind_eq_some_iff.1 hrun
      obtain ⟨z,_,hrun⟩:=Option.bind_eq_some_iff.1 hrun
      cases hrun
      rw [akx,ale (hne hq)]
  · cases hrun
 case insert n x j v =>
  simp only [opK,ho] at hrun
  split at hrun
  · rename_i g _ _
    cases hq:Γ.lo g with
    | true=>rw [hq] at hrun; cases hrun
    | false =>
      rw [hq] at hrun
      simp only [Bool.not_false,aca] at hrun
      obtain ⟨l,_,hrun⟩:=Option.bind_eq_some_iff.1 hrun
      obtain ⟨y,_,hrun⟩:=Option.bind_eq_some_iff.1 hrun
      obtain ⟨z,_,hrun⟩:=Option.bind_eq_some_iff.1 hrun
      cases hrun
      rw [akx,ale (hne hq)]
  · cases hrun
 case store n x y =>
  simp only [opK,ho] at hrun
  split at hrun
  · rename_i t j k hx
    cases hq:Γ.lo k with
    | true=>rw [hq] at hrun; cases hrun
    | false =>
      rw [hq] at hrun
      simp only [Bool.not_false,aca] at hrun
      split at hrun
      · unfold axJ at hrun
        obtain ⟨l,_,hrun⟩:=Option.bind_eq_some_iff.1 hrun
        obtain ⟨z,_,hrun⟩:=Option.bind_eq_some_iff.1 hrun
        obtain ⟨_,hrun⟩:=anK hrun
        cases hrun
        rw [akx,ale (hne hq)]
      · cases hrun
  · rename_i b j f k hx
    cases hq:Γ.lo k with
    | true=>rw [hq] at hrun; cases hrun
    | false =>
      rw [hq] at hrun
      simp only [Bool.not_false,aca] at hrun
      split at hrun
      · unfold axI at hrun
        obtain ⟨l,_,hrun⟩:=Option.bind_eq_some_iff.1 hrun
        obtain ⟨y,_,hrun⟩:=Option.bind_eq_some_iff.1 hrun
        obtain ⟨z,_,hrun⟩:=Option.bind_eq_some_iff.1 hrun
        cases hrun
        rw [akx,ale (hne hq)]
      · cases hrun
  · rename_i k p hx
    split at hrun
    · split at hrun
      · cases hq:Γ.lo k with
        | true=>rw [hq] at hrun; cases hrun
        | false =>
          rw [hq] at hrun
          simp only [Bool.not_false,Bool.true_and] at hrun
          cases hst:(plain _&&asH Γ n (s.ev (Γ.ty n) y)) with
          | false=>rw [hst] at hrun; cases hrun
          | true =>
            rw [hst] at hrun
            cases hrun
            rw [akx,ale (hne hq)]
      · cases hrun
    · cases hrun
  · cases hrun
 case call c =>
  obtain ⟨callee,args,ns⟩:=c
  cases callee with
  | invoke r m=>simp only [opK,ho] at hrun; cases hrun
  | value f =>
    cases dr with
    | true=>simp at h0
    | false =>
      simp only [opK,ho] at hrun
      unfold aqO at hrun
      split at hrun
      · obtain ⟨_,hrun⟩:=anK hrun
        exact ayo hE hi (hlo i hi) hrun
      · simp only [cond_false] at hrun
        split at hrun
        · obtain ⟨_,hrun⟩:=anK hrun
          exact ayo hE hi (hlo i hi) hrun
        · cases hrun
      · cases hrun
  | builtin b =>
    cases b <;> simp only [cls] at h0 h1 h2 <;> (try (exact (h0 trivial).elim)) <;> (try (simp only [opK,ho] at hrun; cases hrun; done))
    case len=>cases h:Γ.rr <;> rw [h] at h0 h1 <;> first | (simp at h0; done) | (simp at h1; done)
    case append =>
        simp only [opK,ho] at hrun
        split at hrun
        case h_2=>cases hrun
        unfold afj at hrun
        split at hrun
        · rename_i t f nl l hx
          split at hrun
          · obtain ⟨l2,_,hrun⟩:=Option.bind_eq_some_iff.1 hrun
            split at hrun
            · rw [aJH hrun]
            · cases hb4:Nat.beq (o.dst.elim 0 Γ.row) 4 with
              | true =>
                rw [hb4] at hrun
                obtain ⟨_,hrun⟩:=anK hrun
                unfold aBU at hrun
                split at hrun
                · obtain ⟨_,hrun⟩:=anK hrun
                  cases hrun
                  rw [akx,List.getElem?_append_left (hlo i hi)]
                · cases hrun
              | false =>
              rw [hb4] at hrun
              obtain ⟨_,hrun⟩:=anK hrun
              unfold appN at hrun
              obtain ⟨_,hrun⟩:=anK hrun
              unfold lim at hrun
              split at hrun
              · split at hrun <;> (cases hrun; rw [akx,List.getElem?_append_left (hlo i hi)])
              · cases hrun
            · cases hrun
          · cases hrun
        · rename_i rf j _
          split at hrun
          · split at hrun
            · obtain ⟨hq,hrun⟩:=anK hrun
              rw [Bool.and_eq_true,Bool.not_eq_true'] at hq
              obtain ⟨l2,_,hrun⟩:=Option.bind_eq_some_iff.1 hrun
              have key:∀ (os:List Obj),(s.S.set j []++os)[i]?=s.S[i]?:=fun os=>by
               rw [List.getElem?_append_left (by rw [List.length_set]; exact hlo i hi),ale (hne hq.2)]
              cases rf with
              | asl t' =>
                simp only [appR] at hrun
                split at hrun
                · obtain ⟨l,_,hrun⟩:=Option.bind_eq_some_iff.1 hrun
                  unfold lim at hrun
                  split at hrun
                  · cases hrun
                    rw [akx]; exact key _
                  · cases hrun
                · cases hrun
              | asv t' p m =>
                cases p with
                | zero =>
                  simp only [appR] at hrun
                  split at hrun
                  · obtain ⟨l,_,hrun⟩:=Option.bind_eq_some_iff.1 hrun
                    unfold lim at hrun
                    split at hrun
                    · cases hrun
                      rw [akx]; exact key _
                    · cases hrun
                  · cases hrun
                | succ p=>cases hrun
              | pel _ _ _=>cases hrun
              | one _=>cases hrun
              | mp _ _=>cases hrun
              | yl=>cases hrun
            · cases hrun
          · cases hrun
        · cases hrun
    case clear =>
        simp only [opK,ho] at hrun
        split at hrun
        case h_2=>cases hrun
        unfold ani at hrun
        split at hrun
        · rename_i t k t' _ _
          cases hq:Γ.lo k with
          | true=>rw [hq] at hrun; cases hrun
          | false =>
            rw [hq] at hrun
            simp only [Bool.not_false,aca] at hrun
            split at hrun
            · obtain ⟨l,_,hrun⟩:=Option.bind_eq_some_iff.1 hrun
              cases hrun
              rw [akx,ale (hne hq)]
            · cases hrun
        · rename_i t p m k t' _ _
          cases hq:Γ.lo k with
          | true=>rw [hq] at hrun; cases hrun
          | false =>
            rw [hq] at hrun
            simp only [Bool.not_false,aca] at hrun
            split at hrun
            · obtain ⟨l,_,hrun⟩:=Option.bind_eq_some_iff.1 hrun
              cases hrun
              rw [akx,ale (hne hq)]
            · cases hrun
        · cases hrun
    case copy =>
        simp only [opK,ho] at hrun
        split at hrun
        case h_2=>cases hrun
        unfold atU at hrun
        split at hrun
        · rename_i t k t' _ _
          cases hq:Γ.lo k with
          | true=>rw [hq] at hrun; cases hrun
          | false =>
            rw [hq] at hrun
            simp only [Bool.not_false,aca] at hrun
            split at hrun
            · obtain ⟨l,_,hrun⟩:=Option.bind_eq_some_iff.1 hrun
              obtain ⟨l2,_,hrun⟩:=Option.bind_eq_some_iff.1 hrun
              cases hrun
              rw [akx,ale (hne hq)]
            · cases hrun
        · rename_i t p m k t' _ _
          cases hq:Γ.lo k with
          | true=>rw [hq] at hrun; cases hrun
          | false =>
            rw [hq] at hrun
            simp only [Bool.not_false,aca] at hrun
            split at hrun
            · obtain ⟨l,_,hrun⟩:=Option.bind_eq_some_iff.1 hrun
              obtain ⟨l2,_,hrun⟩:=Option.bind_eq_some_iff.1 hrun
              cases hrun
              rw [akx,ale (hne hq)]
            · cases hrun
        · cases hrun
end
end Go.Proofs.Ytgmeimbamfggkaa.Den
