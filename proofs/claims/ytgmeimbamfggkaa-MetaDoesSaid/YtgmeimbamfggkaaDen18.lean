import Derived.Test.YtgmeimbamfggkaaDen17
namespace Go.Proofs.Ytgmeimbamfggkaa.Den
open Go
set_option linter.unusedVariables false
set_option linter.unusedSimpArgs false
section
variable {Γ : Env} {E:Table} {dr:Bool} {ops:Array Oper}
def Ag (ops:Array Oper) (o:Oper) (s s2:St):Prop:=s2.n=s.n∧∀ t∈o.looksAt ops,s2.T t=s.T t
theorem Ag.x {o:Oper} {s s2:St} (h:Ag ops o s s2):AgX o s s2:=by
 intro x hx t
 cases x with
 | tmp d=>exact h.2 d (List.mem_append_left _ (List.mem_filterMap.2 ⟨.tmp d,Array.mem_toList_iff.2 hx,rfl⟩))
 | _=>rfl
theorem Ag.g {o:Oper} {s s2:St} (h:Ag ops o s s2) {j:Nat} {want:Bool} {t:Tmp} (hg:o.guard=some (j,want)) (ht:(ops[j]?).bind (·.dst)=some t):s2.T t=s.T t :=
 h.2 t (List.mem_append_right _ (by simp [hg,ht]))
theorem aij {s:St} {t:Nat} {v:TV} (h:s.T t=v):({ s with T:=upd s.T t v }:St)=s:=by
 have:upd s.T t v=s.T:=by
  funext i
  unfold upd
  cases hb:Nat.beq i t with
  | false=>rfl
  | true=>rw [Nat.beq_eq] at hb; subst hb; exact h.symm
 rw [this]
structure Stp (Γ:Env) (E:Table) (dr:Bool) (ops:Array Oper) (o:Oper) (s:St) (oe:Option Eff):Prop where
 run:∀ s2,Ag ops o s s2→s2.S=s.S→s2.O=s.O→s2.c=s.c→∀ (ρ:Type) (K:St→Option ρ),ads Γ E dr ops.toList o s2 K=oe.bind fun e=>K (e.on s2 o.dst)
 c0:clsO Γ dr o=0→(∀ s2,Ag ops o s s2→(∀ i,Γ.lo i=true→s2.S[i]?=s.S[i]?)→∀ (ρ:Type) (K:St→Option ρ),ads Γ E dr ops.toList o s2 K=(oe.map Eff.v).bind fun v=>K (s2.put o.dst v))∧∀ e,oe=some e→e.S=s.S∧e.O=s.O∧e.c=s.c
 c1:clsO Γ dr o=1→∀ e,oe=some e→(e.S=s.S∧e.O=s.O∧e.c=s.c) ∧
  ∀ s2,Ag ops o s s2→(∀ (p:Nat) cs,s.S[p]?=some cs→s2.S[p]?=some cs)→∀ (ρ:Type) (K:St→Option ρ),ads Γ E dr ops.toList o s2 K=K (s2.put o.dst e.v)
 c2:clsO Γ dr o=2→∀ e,oe=some e→(∀ (p:Nat) cs,s.S[p]?=some cs→e.S[p]?=some cs)∧e.O=s.O∧e.c=s.c
 kp:(∀ i,Γ.lo i=true→i < s.S.length)→∀ e,oe=some e→∀ i,Γ.lo i=true→e.S[i]?=s.S[i]?
theorem Stp.skip {o:Oper} {s:St} (h:∀ s2,Ag ops o s s2→∀ (ρ:Type) (K:St→Option ρ),ads Γ E dr ops.toList o s2 K=K (s2.put o.dst .skip)) :
 Stp Γ E dr ops o s (some ⟨.skip,s.S,s.O,s.c⟩) :=
 ⟨fun s2 ha hS hO hc ρ K=>by rw [h s2 ha]; show K _=K _; rw [anL (s2:=s2) hS.symm hO.symm hc.symm],
  fun _=>⟨fun s2 ha _ ρ K=>h s2 ha ρ K,fun e he=>by cases he; exact ⟨rfl,rfl,rfl⟩⟩,
  fun _ e he=>by cases he; exact ⟨⟨rfl,rfl,rfl⟩,fun s2 ha _ ρ K=>h s2 ha ρ K⟩,
  fun _ e he=>by cases he; exact ⟨fun _ _ h=>h,rfl,rfl⟩,
  fun _ e he=>by cases he; exact fun _ _=>rfl⟩
theorem Stp.stop {o:Oper} {s:St} (h:∀ s2,Ag ops o s s2→∀ (ρ:Type) (K:St→Option ρ),ads Γ E dr ops.toList o s2 K=none):Stp Γ E dr ops o s none :=
 ⟨fun s2 ha _ _ _ ρ K=>h s2 ha ρ K,fun _=>⟨fun s2 ha _ ρ K=>h s2 ha ρ K,fun e he=>by cases he⟩,fun _ e he=>(by cases he),fun _ e he=>(by cases he),fun _ e he=>(by cases he)⟩
theorem Stp.op (hE:agd E) (hrw:Γ.rw=false) {o:Oper} {s:St} {oe:Option Eff} (H:OpE Γ E dr o s oe) (h:∀ s2,Ag ops o s s2→∀ (ρ:Type) (K:St→Option ρ),ads Γ E dr ops.toList o s2 K=opK Γ E dr o s2 K):Stp Γ E dr ops o s oe :=
 ⟨fun s2 ha hS hO hc ρ K=>by rw [h s2 ha]; exact H.run s2 ha.x hS hO hc ρ K,
  fun hc=>⟨fun s2 ha hS ρ K=>by rw [h s2 ha]; exact (H.c0 hc).1 s2 ha.x hS ρ K,(H.c0 hc).2⟩,
  fun hc e he=>⟨(H.c1 hc e he).1,fun s2 ha hS ρ K=>by rw [h s2 ha]; exact (H.c1 hc e he).2 s2 ha.x hS ρ K⟩,
  H.c2,
  fun hlo e he=>by subst he; exact aHJ hE hrw hlo H⟩
theorem axK (hE:agd E) (hrw:Γ.rw=false) (o:Oper) (s:St):∃ oe,Stp Γ E dr ops o s oe:=by
 obtain ⟨oe,H⟩:=opE (Γ:=Γ) (dr:=dr) (o:=o) hE hrw s
 cases hg:o.guard with
 | none=>exact ⟨oe,.op hE hrw H fun s2 ha ρ K=>by simp only [ads,hg]⟩
 | some p =>
   obtain ⟨j,want⟩:=p
   cases ht:(ops[j]?).bind (·.dst) with
   | none=>exact ⟨none,.stop fun s2 ha ρ K=>by simp only [ads,hg,Array.getElem?_toList,ht]⟩
   | some t =>
     cases hv:s.T t with
     | bool b =>
       have hu:∀ s2,Ag ops o s s2→s2.T t=.bool b:=fun s2 ha=>(ha.g hg ht).trans hv
       cases b <;> cases want
       · exact ⟨oe,.op hE hrw H fun s2 ha ρ K=>by simp only [ads,hg,Array.getElem?_toList,ht,hu s2 ha,cond_false,aij (hu s2 ha)]⟩
       · exact ⟨_,.skip fun s2 ha ρ K=>by simp only [ads,hg,Array.getElem?_toList,ht,hu s2 ha,cond_false,cond_true,aij (hu s2 ha)]⟩
       · exact ⟨_,.skip fun s2 ha ρ K=>by simp only [ads,hg,Array.getElem?_toList,ht,hu s2 ha,cond_false,cond_true,aij (hu s2 ha)]⟩
       · exact ⟨oe,.op hE hrw H fun s2 ha ρ K=>by simp only [ads,hg,Array.getElem?_toList,ht,hu s2 ha,cond_true,aij (hu s2 ha)]⟩
     | skip =>
       have hu:∀ s2,Ag ops o s s2→s2.T t=.skip:=fun s2 ha=>(ha.g hg ht).trans hv
       exact ⟨_,.skip fun s2 ha ρ K=>by simp only [ads,hg,Array.getElem?_toList,ht,hu s2 ha]⟩
     | _=>exact ⟨none,.stop fun s2 ha ρ K=>by simp only [ads,hg,Array.getElem?_toList,ht,(ha.g hg ht).trans hv]⟩
theorem anN {s:St} {d:Option Tmp} {v:TV} {t:Nat} (h:d≠some t):(s.put d v).T t=s.T t:=by
 cases d with
 | none=>rfl
 | some d =>
   unfold St.put
   cases hb:Nat.blt d s.n with
   | false=>simp only [hb,cond_false]
   | true =>
     simp only [cond_true,hb]
     unfold upd
     rw [show Nat.beq t d=false by rw [← Bool.not_eq_true,Nat.beq_eq]; intro e; exact h (by rw [e])]
     rfl
theorem aGv {s:St} {d:Option Tmp} {v:TV}:(s.put d v).n=s.n:=by
 cases d with
 | none=>rfl
 | some d=>unfold St.put; cases hb:Nat.blt d s.n <;> simp only [hb] <;> rfl
theorem azh {s:St} {d:Option Tmp} {v:TV}:(s.put d v).S=s.S∧(s.put d v).O=s.O∧(s.put d v).c=s.c:=by
 cases d with
 | none=>exact ⟨rfl,rfl,rfl⟩
 | some d=>unfold St.put; cases hb:Nat.blt d s.n <;> simp only [hb] <;> exact ⟨rfl,rfl,rfl⟩
theorem on_n {e:Eff} {s:St} {d:Option Tmp}:(e.on s d).n=s.n:=aGv
theorem awW {e:Eff} {s:St} {d:Option Tmp} {t:Nat} (h:d≠some t):(e.on s d).T t=s.T t:=anN h
theorem on_S {e:Eff} {s:St} {d:Option Tmp}:(e.on s d).S=e.S:=azh.1
theorem aBn {e:Eff} {s:St} {d d2:Option Tmp} {v:TV} (h:∀ t,d=some t→d2≠some t):(e.on s d).put d2 v=e.on (s.put d2 v) d:=by
 unfold Eff.on
 cases d with
 | none=>cases d2 with
   | none=>rfl
   | some d2=>unfold St.put; cases hb:Nat.blt d2 s.n <;> simp only [hb] <;> rfl
 | some d=>cases d2 with
   | none=>rfl
   | some d2 =>
     have hne:d2≠d:=fun e=>h d rfl (by rw [e])
     cases h1:Nat.blt d s.n <;> cases h2:Nat.blt d2 s.n <;> simp only [St.put,h1,h2,cond_true,cond_false]
     congr 1
     funext i
     unfold upd
     cases h3:Nat.beq i d <;> cases h4:Nat.beq i d2 <;> try rfl
     rw [Nat.beq_eq] at h3 h4
     exact absurd (h4.symm.trans h3) hne
theorem ra_f (h:Γ.rw=false) (k:Γ.rr=false):Γ.ra=false:=by unfold Env.ra; rw [h,k]; rfl
theorem aKt {s:St} {f:Fl} {d:Option Tmp} {v:TV}:(((s.eat f).more).put d v).S=s.S:=by
 rw [azh.1]; cases f <;> rfl
theorem aAQ (hrw:Γ.ra=false) {o:Oper} (ha:appO o.op=true) {s:St} {ρ:Type} {K K':St→Option ρ} (h:∀ s':St,s'.S=s.S→K s'=K' s'):opK Γ E dr o s K=opK Γ E dr o s K':=by
 cases ho:o.op
 case call c =>
  obtain ⟨callee,args,ns⟩:=c
  cases callee
  case builtin b =>
   cases b
   case append =>
        simp only [opK,ho]
        split
        · unfold afj
          split
          · split
            · congr 1
              funext l2
              split
              · unfold appK
                rw [h _ aKt]
              · have hrw':Γ.rw=false:=by
                 unfold Env.ra at hrw
                 cases hw:Γ.rw with
                 | false=>rfl
                 | true=>rw [hw] at hrw; cases hrw
                rw [hrw,hrw']
                cases Nat.beq (o.dst.elim 0 Γ.row) 4 <;> rfl
              · rfl
            · rfl
          · split
            · split
              · rw [hrw]; simp only [Bool.false_and]; rfl
              · rfl
            · rfl
          · rfl
        · rfl
   all_goals (rw [ho] at ha; cases ha)
  all_goals (rw [ho] at ha; cases ha)
 all_goals (rw [ho] at ha; cases ha)
theorem aH5 (hrw:Γ.ra=false) {o:Oper} (ha:appO o.op=true) {s:St} {ρ:Type} {K K':St→Option ρ} (h:∀ s':St,s'.S=s.S→K s'=K' s'):ads Γ E dr ops.toList o s K=ads Γ E dr ops.toList o s K':=by
 cases hg:o.guard with
 | none=>simp only [ads,hg]; exact aAQ hrw ha h
 | some p =>
   obtain ⟨j,want⟩:=p
   cases ht:(ops[j]?).bind (·.dst) with
   | none=>simp only [ads,hg,Array.getElem?_toList,ht]
   | some t =>
     cases hv:s.T t with
     | bool b =>
       cases b <;> cases want
       · simp only [ads,hg,Array.getElem?_toList,ht,hv,cond_false]; exact aAQ hrw ha fun s' hs=>h s' hs
       · simp only [ads,hg,Array.getElem?_toList,ht,hv,cond_false,cond_true]; exact h _ azh.1
       · simp only [ads,hg,Array.getElem?_toList,ht,hv,cond_false,cond_true]; exact h _ azh.1
       · simp only [ads,hg,Array.getElem?_toList,ht,hv,cond_true]; exact aAQ hrw ha fun s' hs=>h s' hs
     | skip=>simp only [ads,hg,Array.getElem?_toList,ht,hv]; exact h _ azh.1
     | _=>simp only [ads,hg,Array.getElem?_toList,ht,hv]
theorem aDS (hE:agd E) (hrw:Γ.ra=false) {o:Oper} (ha:appO o.op=true) {s:St} {e:Eff} (J:Stp Γ E dr ops o s (some e)):e.S=s.S:=by
 have h1:=J.run s ⟨rfl,fun _ _=>rfl⟩ rfl rfl rfl (List Obj) (fun s'=>some s'.S)
 have h2:=J.run s ⟨rfl,fun _ _=>rfl⟩ rfl rfl rfl (List Obj) (fun _=>some s.S)
 rw [aH5 hrw ha (K':=fun _=>some s.S) fun s' hs=>by rw [hs]] at h1
 rw [h1] at h2
 have h2:some (e.on s o.dst).S=some s.S:=h2
 rw [on_S] at h2
 exact Option.some.inj h2
theorem aJk (n:TypeId) (x:Operand) {o:Oper} (ho:o.op=.load n x) (hle:o.dst.elim false Γ.le=false) (s:St):∃ ov:Option TV,∀ s2,AgX o s s2→s2.S=s.S→∀ (ρ:Type) (K:St→Option ρ),opK Γ E dr o s2 K=ov.bind fun v=>K (s2.put o.dst v):=by
 have nn:(∀ s2,AgX o s s2→s2.S=s.S→∀ (ρ:Type) (K:St→Option ρ),opK Γ E dr o s2 K=none)→∃ ov:Option TV,∀ s2,AgX o s s2→s2.S=s.S→∀ (ρ:Type) (K:St→Option ρ),opK Γ E dr o s2 K=ov.bind fun v=>K (s2.put o.dst v) :=
  fun h=>⟨none,h⟩
 cases hx:s.ev none x with
 | ep t v =>
   by_cases hn:Γ.ty n=some t
   · exact ⟨some (toTV t v),fun s2 h _ ρ K=>by simp only [opK,ho,h x (by simp [ho,Op.operands]),hx,if_pos hn]; rfl⟩
   · exact nn fun s2 h _ ρ K=>by simp only [opK,ho,h x (by simp [ho,Op.operands]),hx,if_neg hn]
 | ptr i p =>
   cases hs:s.S[i]? with
   | none=>exact nn fun s2 h hS ρ K=>by simp only [opK,ho,h x (by simp [ho,Op.operands]),hx,hle,Bool.not_false,Bool.true_or,aca,hS,hs]
   | some cs =>
     cases hp:plain cs with
     | false=>exact nn fun s2 h hS ρ K=>by simp only [opK,ho,h x (by simp [ho,Op.operands]),hx,hle,Bool.not_false,Bool.true_or,aca,hS,hs,hp]; rfl
     | true =>
       cases hv:axn Γ n (cs.drop p) with
       | none=>exact nn fun s2 h hS ρ K=>by simp only [opK,ho,h x (by simp [ho,Op.operands]),hx,hle,Bool.not_false,Bool.true_or,aca,hS,hs,hp,hv]; rfl
       | some v=>exact ⟨some v,fun s2 h hS ρ K=>by simp only [opK,ho,h x (by simp [ho,Op.operands]),hx,hle,Bool.not_false,Bool.true_or,aca,hS,hs,hp,hv]; rfl⟩
 | ref r i =>
   cases r with
   | pel t j f =>
     cases f with
     | some f =>
       cases t with
       | st b =>
         by_cases hn:Γ.ty n=(fldT b f).map Prod.fst
         · cases hr:acz s.S (.st b) i with
           | none=>exact nn fun s2 h hS ρ K=>by simp only [opK,ho,h x (by simp [ho,Op.operands]),hx,hle,Bool.not_false,Bool.true_or,aca,if_pos hn,hS,hr]; rfl
           | some l =>
             cases hj:l[j]? with
             | none=>exact nn fun s2 h hS ρ K=>by simp only [opK,ho,h x (by simp [ho,Op.operands]),hx,hle,Bool.not_false,Bool.true_or,aca,if_pos hn,hS,hr,Option.bind_some,hj]; rfl
             | some y =>
               cases hz:abS b f y with
               | none=>exact nn fun s2 h hS ρ K=>by simp only [opK,ho,h x (by simp [ho,Op.operands]),hx,hle,Bool.not_false,Bool.true_or,aca,if_pos hn,hS,hr,Option.bind_some,hj,hz]; rfl
               | some z=>exact ⟨some z,fun s2 h hS ρ K=>by simp only [opK,ho,h x (by simp [ho,Op.operands]),hx,hle,Bool.not_false,Bool.true_or,aca,if_pos hn,hS,hr,Option.bind_some,hj,hz]; rfl⟩
         · exact nn fun s2 h hS ρ K=>by simp only [opK,ho,h x (by simp [ho,Op.operands]),hx,hle,Bool.not_false,Bool.true_or,aca,if_neg hn]
       | _=>exact nn fun s2 h hS ρ K=>by simp only [opK,ho,h x (by simp [ho,Op.operands]),hx]
     | none =>
       by_cases hn:Γ.ty n=some t
       · cases hr:acz s.S t i with
         | none=>exact nn fun s2 h hS ρ K=>by simp only [opK,ho,h x (by simp [ho,Op.operands]),hx,hle,Bool.not_false,Bool.true_or,aca,if_pos hn,hS,hr]; rfl
         | some l =>
           cases hj:l[j]? with
           | none=>exact nn fun s2 h hS ρ K=>by simp only [opK,ho,h x (by simp [ho,Op.operands]),hx,hle,Bool.not_false,Bool.true_or,aca,if_pos hn,hS,hr,Option.bind_some,hj]; rfl
           | some y=>exact ⟨some (toTV t y),fun s2 h hS ρ K=>by simp only [opK,ho,h x (by simp [ho,Op.operands]),hx,hle,Bool.not_false,Bool.true_or,aca,if_pos hn,hS,hr,Option.bind_some,hj]⟩
       · exact nn fun s2 h hS ρ K=>by simp only [opK,ho,h x (by simp [ho,Op.operands]),hx,hle,Bool.not_false,Bool.true_or,aca,if_neg hn]
   | _=>exact nn fun s2 h hS ρ K=>by simp only [opK,ho,h x (by simp [ho,Op.operands]),hx]
 | _=>exact nn fun s2 h hS ρ K=>by simp only [opK,ho,h x (by simp [ho,Op.operands]),hx]
theorem aGf (hrw:Γ.rw=false) {o:Oper} (hc:clsO Γ dr o=1) (s:St):∃ ov:Option TV,∀ s2,AgX o s s2→s2.S=s.S→∀ (ρ:Type) (K:St→Option ρ),opK Γ E dr o s2 K=ov.bind fun v=>K (s2.put o.dst v):=by
 unfold clsO at hc
 cases ho:o.op <;> rw [ho] at hc <;> (try (cases hc; done))
 case load n x =>
  refine aJk n x ho ?_ s
  cases h:o.dst.elim false Γ.le with
  | false=>rfl
  | true=>simp [h] at hc
 case binOp op xt x y yt=>exact (aIy hrw ho s).free
 case slice n x lo hi mx =>
  refine (aEx ?_ ho s).free
  cases h:Γ.rr with
  | true=>rfl
  | false=>simp [h] at hc
 case indexAddr n x y =>
  refine (aEw ?_ ho s).free
  cases h:Γ.rr with
  | true=>rfl
  | false=>simp [h] at hc
 case lookup n x i ok=>exact (aCE ho s).free
 case call c =>
  obtain ⟨callee,args,ns⟩:=c
  cases callee
  case builtin b =>
   cases b <;> (try (cases hc; done))
   refine (aIx ?_ ho s).free
   cases h:Γ.rr with
   | true=>rfl
   | false=>simp [h] at hc
  case value f=>cases dr <;> cases hc
  all_goals cases hc
theorem aG7 (hrw:Γ.rw=false) {o:Oper} (hc:clsO Γ dr o=1) (s:St):∃ ov:Option TV,∀ s2,Ag ops o s s2→s2.S=s.S→∀ (ρ:Type) (K:St→Option ρ),ads Γ E dr ops.toList o s2 K=ov.bind fun v=>K (s2.put o.dst v):=by
 obtain ⟨ov,H⟩:=aGf (Γ:=Γ) (E:=E) (dr:=dr) hrw hc s
 cases hg:o.guard with
 | none=>exact ⟨ov,fun s2 ha hS ρ K=>by simp only [ads,hg]; exact H s2 ha.x hS ρ K⟩
 | some p =>
   obtain ⟨j,want⟩:=p
   cases ht:(ops[j]?).bind (·.dst) with
   | none=>exact ⟨none,fun s2 ha _ ρ K=>by simp only [ads,hg,Array.getElem?_toList,ht]; rfl⟩
   | some t =>
     cases hv:s.T t with
     | bool b =>
       have hu:∀ s2,Ag ops o s s2→s2.T t=.bool b:=fun s2 ha=>(ha.g hg ht).trans hv
       cases b <;> cases want
       · exact ⟨ov,fun s2 ha hS ρ K=>by simp only [ads,hg,Array.getElem?_toList,ht,hu s2 ha,cond_false,aij (hu s2 ha)]; exact H s2 ha.x hS ρ K⟩
       · exact ⟨some .skip,fun s2 ha hS ρ K=>by simp only [ads,hg,Array.getElem?_toList,ht,hu s2 ha,cond_false,cond_true,aij (hu s2 ha)]; rfl⟩
       · exact ⟨some .skip,fun s2 ha hS ρ K=>by simp only [ads,hg,Array.getElem?_toList,ht,hu s2 ha,cond_false,cond_true,aij (hu s2 ha)]; rfl⟩
       · exact ⟨ov,fun s2 ha hS ρ K=>by simp only [ads,hg,Array.getElem?_toList,ht,hu s2 ha,cond_true,aij (hu s2 ha)]; exact H s2 ha.x hS ρ K⟩
     | skip =>
       have hu:∀ s2,Ag ops o s s2→s2.T t=.skip:=fun s2 ha=>(ha.g hg ht).trans hv
       exact ⟨some .skip,fun s2 ha hS ρ K=>by simp only [ads,hg,Array.getElem?_toList,ht,hu s2 ha]; rfl⟩
     | _=>exact ⟨none,fun s2 ha hS ρ K=>by simp only [ads,hg,Array.getElem?_toList,ht,(ha.g hg ht).trans hv]; rfl⟩
theorem aEe {S S1:List Obj} {i:Nat} (h:S1[i]?=S[i]?) (hi:i < S.length):i < S1.length:=by
 rw [List.getElem?_eq_getElem hi] at h
 exact (List.getElem?_eq_some_iff.1 h).1
theorem swap (hE:agd E) (hrw:Γ.rw=false) {oj oi:Oper} (h:comm Γ dr ops oj oi=true) {s:St} (hlo:∀ i,Γ.lo i=true→i < s.S.length) {ρ:Type} {r:ρ} {K:St→Option ρ}
 (hr:ads Γ E dr ops.toList oj s (fun s=>ads Γ E dr ops.toList oi s K)=some r):ads Γ E dr ops.toList oi s (fun s=>ads Γ E dr ops.toList oj s K)=some r:=by
 unfold comm at h
 rw [Bool.and_eq_true] at h
 obtain ⟨hap,hcl⟩:=h
 obtain ⟨a1,a2,a3⟩:=Oper.apart_spec hap
 obtain ⟨oej,J⟩:=axK (Γ:=Γ) (dr:=dr) (ops:=ops) hE hrw oj s
 obtain ⟨oei,I⟩:=axK (Γ:=Γ) (dr:=dr) (ops:=ops) hE hrw oi s
 have rf:∀ o,Ag ops o s s:=fun o=>⟨rfl,fun _ _=>rfl⟩
 have agi:∀ s2:St,s2.n=s.n→(∀ t,oj.dst≠some t→s2.T t=s.T t)→Ag ops oi s s2:=fun s2 hn ht=>⟨hn,fun t hm=>ht t fun e=>a1 t e hm⟩
 have agj:∀ s2:St,s2.n=s.n→(∀ t,oi.dst≠some t→s2.T t=s.T t)→Ag ops oj s s2:=fun s2 hn ht=>⟨hn,fun t hm=>ht t fun e=>a3 t e hm⟩
 rw [J.run s (rf _) rfl rfl rfl] at hr
 cases oej with
 | none=>cases hr
 | some ej =>
   have hr:ads Γ E dr ops.toList oi (ej.on s oj.dst) K=some r:=hr
   have lightJ:(clsO Γ dr oj=0∨(clsO Γ dr oj=1∧(clsO Γ dr oi≤2∨(appO oi.op=true∧Γ.rr=false))))→ads Γ E dr ops.toList oi s (fun s=>ads Γ E dr ops.toList oj s K)=some r:=by
    intro hc
    have hsame:ej.S=s.S∧ej.O=s.O∧ej.c=s.c:=by
        rcases hc with hc | ⟨hc,_⟩
        · exact (J.c0 hc).2 ej rfl
        · exact (J.c1 hc ej rfl).1
    have hej:ej.on s oj.dst=s.put oj.dst ej.v:=anL hsame.1 hsame.2.1 hsame.2.2
    rw [hej] at hr
    obtain ⟨p1,p2,p3⟩:=azh (s:=s) (d:=oj.dst) (v:=ej.v)
    rw [I.run _ (agi _ aGv fun t ht=>anN ht) p1 p2 p3] at hr
    rw [I.run s (rf _) rfl rfl rfl]
    cases oei with
    | none=>cases hr
    | some ei =>
      have hr:K (ei.on (s.put oj.dst ej.v) oi.dst)=some r:=hr
      show ads Γ E dr ops.toList oj (ei.on s oi.dst) K=some r
      have hag:=agj (ei.on s oi.dst) on_n fun t ht=>awW ht
      have hfin:K ((ei.on s oi.dst).put oj.dst ej.v)=some r:=by
       rw [aBn fun t ht=>fun e=>a2 t e ht]; exact hr
      rcases hc with hc | ⟨hc,hci⟩
      · rw [(J.c0 hc).1 _ hag fun i hi=>by rw [on_S]; exact I.kp hlo ei rfl i hi]; exact hfin
      · rw [(J.c1 hc ej rfl).2 _ hag ?_]
        · exact hfin
        · intro p cs hp
          rw [on_S]
          rcases hci with hci | hci
          case inr=>rw [aDS hE (ra_f hrw hci.2) hci.1 I]; exact hp
          have:clsO Γ dr oi=0∨clsO Γ dr oi=1∨clsO Γ dr oi=2:=by omega
          rcases this with h0 | h0 | h0
          · rw [((I.c0 h0).2 ei rfl).1]; exact hp
          · rw [((I.c1 h0 ei rfl).1).1]; exact hp
          · exact (I.c2 h0 ei rfl).1 p cs hp
   simp only [Bool.or_eq_true,Bool.and_eq_true,Nat.beq_eq,Bool.not_eq_true'] at hcl
   rcases hcl with ((hcl | hcl) | ⟨hcl,hcl2⟩) | ⟨hcl,hcl2⟩
   · exact lightJ (.inl hcl)
   · -- the second only reckons
     have hag:=agi (ej.on s oj.dst) on_n fun t ht=>awW ht
     rw [(I.c0 hcl).1 _ hag fun i hi=>by rw [on_S]; exact J.kp hlo ej rfl i hi] at hr
     rw [(I.c0 hcl).1 s (rf _) fun _ _=>rfl]
     cases oei with
     | none=>cases hr
     | some ei =>
       have hr:K ((ej.on s oj.dst).put oi.dst ei.v)=some r:=hr
       show ads Γ E dr ops.toList oj (s.put oi.dst ei.v) K=some r
       obtain ⟨p1,p2,p3⟩:=azh (s:=s) (d:=oi.dst) (v:=ei.v)
       rw [J.run _ (agj _ aGv fun t ht=>anN ht) p1 p2 p3]
       show K (ej.on (s.put oi.dst ei.v) oj.dst)=some r
       rw [← aBn fun t ht=>a2 t ht]
       exact hr
   · exact lightJ (.inr ⟨hcl,hcl2.imp Nat.le_of_ble_eq_true id⟩)
   · -- an append,then a look
     obtain ⟨ov,F⟩:=aG7 (Γ:=Γ) (E:=E) (ops:=ops) hrw hcl2 s
     have hS:=aDS hE (ra_f hrw hcl.2) hcl.1 J
     rw [F (ej.on s oj.dst) (agi _ on_n fun t ht=>awW ht) (by rw [on_S]; exact hS)] at hr
     rw [F s (rf _) rfl]
     cases ov with
     | none=>cases hr
     | some v =>
       have hr:K ((ej.on s oj.dst).put oi.dst v)=some r:=hr
       show ads Γ E dr ops.toList oj (s.put oi.dst v) K=some r
       obtain ⟨p1,p2,p3⟩:=azh (s:=s) (d:=oi.dst) (v:=v)
       rw [J.run _ (agj _ aGv fun t ht=>anN ht) p1 p2 p3]
       show K (ej.on (s.put oi.dst v) oj.dst)=some r
       rw [← aBn fun t ht=>a2 t ht]
       exact hr
theorem first (hE:agd E) (hrw:Γ.rw=false) {oi:Oper} {post:List Oper} {ρ:Type} {r:ρ} {K:St→Option ρ}:∀ (pre:List Oper) (s:St),(∀ i,Γ.lo i=true→i < s.S.length)→(∀ oj∈pre,comm Γ dr ops oj oi=true) →
 opsK Γ E dr ops.toList (pre++oi :: post) s K=some r→ads Γ E dr ops.toList oi s (fun s=>opsK Γ E dr ops.toList (pre++post) s K)=some r
 | [],s,_,_,h=>h
 | oj :: pre,s,hlo,hc,h=>by
   have h:ads Γ E dr ops.toList oj s (fun s=>opsK Γ E dr ops.toList (pre++oi :: post) s K)=some r:=h
   refine swap hE hrw (hc oj (List.mem_cons_self ..)) hlo ?_
   obtain ⟨oe,J⟩:=axK (Γ:=Γ) (dr:=dr) (ops:=ops) hE hrw oj s
   rw [J.run s ⟨rfl,fun _ _=>rfl⟩ rfl rfl rfl] at h ⊢
   cases oe with
   | none=>cases h
   | some e=>exact first hE hrw pre _ (fun i hi=>by rw [on_S]; exact aEe (J.kp hlo e rfl i hi) (hlo i hi)) (fun o ho=>hc o (List.mem_cons_of_mem _ ho)) h
theorem aJ2 {o:Oper} (h:isMv o=true):o.guard=none∧∃ x,o.op=.move x:=by
 unfold isMv at h
 rw [Bool.and_eq_true,Option.isNone_iff_eq_none] at h
 refine ⟨h.1,?_⟩
 have h2:=h.2
 split at h2
 · rename_i x hx; exact ⟨x,hx⟩
 · cases h2
theorem aIu {o:Oper} (h:isMv o=true):∃ F:St→TV,∀ (rr:Bool) (le lo:List Nat) (dr:Bool) (l:List Oper) (s:St) (ρ:Type) (K:St→Option ρ),ads (Γ.drawn rr le lo) E dr l o s K=K (s.put o.dst (F s)):=by
 obtain ⟨hg,x,hx⟩:=aJ2 h
 exact ⟨fun s=>s.ev (Γ.ty o.type) x,fun rr le lo dr l s ρ K=>by simp only [ads,hg,opK,hx,kTV]; rfl⟩
theorem aIt {o:Oper} (h:isMv o=true):clsO Γ dr o=0:=by
 obtain ⟨_,x,hx⟩:=aJ2 h
 simp only [clsO,hx,cls]
theorem aEd {lo:List Nat} {s:St} {d:Option Tmp} {v:TV}:loOk lo (s.put d v)=loOk lo s:=by
 unfold loOk; rw [azh.1]
theorem aCh {rr:Bool} {le lo:List Nat} {s:St} (h:loOk lo s=true):∀ i,(Γ.drawn rr le lo).lo i=true→i < s.S.length:=by
 intro i hi
 have hi:lo.any (Nat.beq i)=true:=hi
 obtain ⟨j,hj,hij⟩:=List.any_eq_true.1 hi
 rw [Nat.beq_eq] at hij
 subst hij
 simpa using List.all_eq_true.1 h i hj
theorem aI2 {lo:List Nat} {s s2:St} (h:loOk lo s=true) (k:∀ i,lo.any (Nat.beq i)=true→s2.S[i]?=s.S[i]?):loOk lo s2=true:=by
 refine List.all_eq_true.2 fun i hi=>?_
 have h1:i < s.S.length:=by simpa using List.all_eq_true.1 h i hi
 have h2:=k i (List.any_eq_true.2 ⟨i,hi,by rw [Nat.beq_eq]⟩)
 have:=aEe h2 h1
 simpa using this
variable {bs le lo:List Nat} {rr:Bool}
theorem aEN (hE:agd E) {p:Nat×Oper} {s:St} (hlo:loOk lo s=true) {ρ:Type} {r:ρ} {K:St→Option ρ} (h:stpB Γ E bs le lo rr dr ops.toList p s K=some r) :
 ∃ s',loOk lo s'=true∧K s'=some r∧∀ (ρ:Type) (K:St→Option ρ),stpB Γ E bs le lo rr dr ops.toList p s K=K s':=by
 unfold stpB at h ⊢
 cases hb:aAX bs p.1 with
 | true =>
   rw [hb] at h
   simp only [cond_true] at h ⊢
   obtain ⟨oe,J⟩:=axK (Γ:=Γ.bar) (dr:=false) (ops:=ops) hE rfl p.2 s
   rw [J.run s ⟨rfl,fun _ _=>rfl⟩ rfl rfl rfl] at h
   cases oe with
   | none=>cases h
   | some e =>
     have h:must (loOk lo (e.on s p.2.dst)) (K (e.on s p.2.dst))=some r:=h
     have hm:loOk lo (e.on s p.2.dst)=true:=by
        cases hc:loOk lo (e.on s p.2.dst) with
        | true=>rfl
        | false=>rw [hc] at h; cases h
     rw [hm] at h
     refine ⟨e.on s p.2.dst,hm,h,fun ρ K=>?_⟩
     rw [J.run s ⟨rfl,fun _ _=>rfl⟩ rfl rfl rfl]
     show must (loOk lo (e.on s p.2.dst)) (K (e.on s p.2.dst))=K _
     rw [hm]; rfl
 | false =>
   rw [hb] at h
   simp only [cond_false] at h ⊢
   obtain ⟨oe,J⟩:=axK (Γ:=Γ.drawn rr le lo) (dr:=dr) (ops:=ops) hE rfl p.2 s
   rw [J.run s ⟨rfl,fun _ _=>rfl⟩ rfl rfl rfl] at h
   cases oe with
   | none=>cases h
   | some e =>
     exact ⟨e.on s p.2.dst,aI2 hlo fun i hi=>by rw [on_S]; exact J.kp (aCh hlo) e rfl i hi,h,fun ρ K=>by rw [J.run s ⟨rfl,fun _ _=>rfl⟩ rfl rfl rfl]; rfl⟩
theorem aHi {mv o:Oper} (h:isMv mv=true) (ha:Oper.apart ops mv o=true):comm Γ dr ops mv o=true:=by
 unfold comm
 rw [ha,aIt h]; rfl
theorem aFE {mv o:Oper} (h:isMv mv=true) (ha:Oper.apart ops o mv=true):comm Γ dr ops o mv=true:=by
 unfold comm
 rw [ha,aIt h]
 simp
theorem aIh (i:Nat) (s:St):Γ.bar.lo i=true→i < s.S.length:=fun h=>by cases h
theorem aKH (hE:agd E) {p q:Nat×Oper} (h:aE8 (Γ.drawn rr le lo) dr ops bs p q=true) {s:St} (hlo:loOk lo s=true) {ρ:Type} {r:ρ} {K:St→Option ρ}
 (hr:stpB Γ E bs le lo rr dr ops.toList p s (fun s=>stpB Γ E bs le lo rr dr ops.toList q s K)=some r):stpB Γ E bs le lo rr dr ops.toList q s (fun s=>stpB Γ E bs le lo rr dr ops.toList p s K)=some r:=by
 unfold aE8 at h
 simp only [Bool.or_eq_true,Bool.and_eq_true,Bool.not_eq_true'] at h
 rcases h with (⟨⟨h1,h2⟩,h3⟩ | ⟨⟨⟨h1,h2⟩,h3⟩,h4⟩) | ⟨⟨⟨h1,h2⟩,h3⟩,h4⟩
 · unfold stpB at hr ⊢
   simp only [h1,h2,cond_false] at hr ⊢
   exact swap hE rfl h3 (aCh hlo) hr
 · obtain ⟨F,hF⟩:=aIu (Γ:=Γ) (E:=E) h1
   unfold stpB at hr ⊢
   simp only [h2,h3,cond_false,cond_true] at hr ⊢
   rw [hF] at hr
   have hr:ads Γ.bar E false ops.toList p.2 s (fun s=>ads Γ.bar E false ops.toList q.2 s fun s=>must (loOk lo s) (K s))=some r:=by
    unfold Env.bar; rw [hF]; exact hr
   have:=swap (Γ:=Γ.bar) hE rfl (aHi h1 h4) (fun i hi=>aIh i s hi) hr
   rw [← this]
   congr 1
   funext s2
   unfold Env.bar
   rw [hF,hF,aEd]
 · obtain ⟨F,hF⟩:=aIu (Γ:=Γ) (E:=E) h2
   unfold stpB at hr ⊢
   simp only [h1,h3,cond_false,cond_true] at hr ⊢
   have hr:ads Γ.bar E false ops.toList p.2 s (fun s=>ads Γ.bar E false ops.toList q.2 s fun s=>must (loOk lo s) (K s))=some r:=by
    rw [← hr]
    congr 1
    funext s2
    unfold Env.bar
    rw [hF,hF,aEd]
   have:=swap (Γ:=Γ.bar) hE rfl (aFE h2 h4) (fun i hi=>aIh i s hi) hr
   rw [← this]
   unfold Env.bar
   rw [hF,hF]
theorem aIm (hE:agd E) {q:Nat×Oper} {post:List (Nat×Oper)} {ρ:Type} {r:ρ} {K:St→Option ρ}:∀ (pre:List (Nat×Oper)) (s:St),loOk lo s=true→(∀ p∈pre,aE8 (Γ.drawn rr le lo) dr ops bs p q=true) →
 opsB Γ E bs le lo rr dr ops.toList (pre++q :: post) s K=some r→stpB Γ E bs le lo rr dr ops.toList q s (fun s=>opsB Γ E bs le lo rr dr ops.toList (pre++post) s K)=some r
 | [],s,_,_,h=>h
 | p :: pre,s,hlo,hc,h=>by
   have h:stpB Γ E bs le lo rr dr ops.toList p s (fun s=>opsB Γ E bs le lo rr dr ops.toList (pre++q :: post) s K)=some r:=h
   refine aKH hE (hc p (List.mem_cons_self ..)) hlo ?_
   obtain ⟨s',h1,h2,h3⟩:=aEN hE hlo h
   rw [h3]
   exact aIm hE pre s' h1 (fun o ho=>hc o (List.mem_cons_of_mem _ ho)) h2
end
end Go.Proofs.Ytgmeimbamfggkaa.Den
