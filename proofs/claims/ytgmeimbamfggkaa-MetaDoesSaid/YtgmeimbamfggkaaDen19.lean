import Derived.Test.YtgmeimbamfggkaaDen14
import Derived.Test.YtgmeimbamfggkaaDen18
namespace Go.Proofs.Ytgmeimbamfggkaa.Den
open Go
set_option linter.unusedVariables false
set_option linter.unusedSimpArgs false
def ait (P:Program) (Γ:Env) (E:Table):Prop :=
 ∀ (w0:World) (M0:Mem) (X:Fr) (s:St) (w:World) (M:Mem) (ι:Nat→Nat) (θ:Nat→Option Nat) (a:Act) (ρ:Type) (r:ρ) (K:St→Option ρ) (N:Act→World→Prop) (Q:Exit→Act→World→Prop)
   (o:Oper) (dr:Bool) (lo:Nat→Bool) (f:Operand) (args:Array Operand) (ns:Array TypeId),o.op=.call { callee:=.value f,args:=args,argTypes:=ns } →
   aqO E dr lo s o.dst (s.ev none f) (s.evs Γ.ty args.toList ns.toList) K=some r→Inv w0 M0 X s w M ι θ→TInv s w M ι θ a→Goes w0 M0 X r K N→∀ ro,o.wpIn (FR ro) 0 P a w N Q
section
variable {w0 : World} {M0:Mem} {X:Fr} {s:St} {w:World} {M:Mem} {ι:Nat→Nat} {θ:Nat→Option Nat} {a:Act}
variable {P : Program} {ρ:Type} {r:ρ} {K:St→Option ρ} {N:Act→World→Prop} {Q:Exit→Act→World→Prop} {o:Oper} {Γ:Env} {E:Table} {dr:Bool} {ops:Array Oper} {ro:Option Nat}
theorem aC3 (T:TInv s w M ι θ a) {j:Nat} {t:Tmp} {b:Bool} (ht:(ops[j]?).bind (·.dst)=some t) (hv:s.T t=.bool b):yielded ops a.tmps j=some b:=by
 have h:=(T.v t).1
 rw [hv] at h
 have h:a.tmps.getD t Go.undef=.bool b:=h
 unfold yielded
 rw [ht]
 simp only [Option.bind_some]
 cases hx:a.tmps[t]? with
 | none=>simp [Array.getD_eq_getD_getElem?,hx,Go.undef] at h
 | some v =>
   have h:v=.bool b:=by simpa [Array.getD_eq_getD_getElem?,hx] using h
   rw [h]
theorem aC4 (T:TInv s w M ι θ a) {j:Nat} {t:Tmp} (ht:(ops[j]?).bind (·.dst)=some t) (hv:s.T t=.skip):yielded ops a.tmps j=none:=by
 have h:=(T.v t).1
 rw [hv] at h
 have h:a.tmps.getD t Go.undef=Go.undef:=h
 unfold yielded
 rw [ht]
 simp only [Option.bind_some]
 cases hx:a.tmps[t]? with
 | none=>rfl
 | some v =>
   have h:v=Go.undef:=by simpa [Array.getD_eq_getD_getElem?,hx] using h
   rw [h]; rfl
theorem azG (I:Inv w0 M0 X s w M ι θ) (T:TInv s w M ι θ a) (G:Goes w0 M0 X r K N) (hk:K (s.put o.dst .skip)=some r):N (a.put o.dst Go.undef) w :=
 G _ _ _ _ _ _ hk (I.put _ _) (T.put _ rfl trivial trivial)
theorem asj (hΓ:EnvOk P Γ) (hC:ait P Γ E) (I:Inv w0 M0 X s w M ι θ) (T:TInv s w M ι θ a) (G:Goes w0 M0 X r K N)
 (h:ads Γ E dr ops.toList o s K=some r):if Region.wanted o (yielded ops a.tmps) then o.wpIn (FR ro) 0 P a w N Q else N (a.put o.dst Go.undef) w:=by
 have main:opK Γ E dr o s K=some r→o.wpIn (FR ro) 0 P a w N Q:=fun h=>aJg ro hΓ I T G (fun f args ns ho hk=>hC _ _ _ _ _ _ _ _ _ _ _ _ _ _ _ _ _ _ _ _ ho hk I T G _) h
 unfold ads at h
 cases hg:o.guard with
 | none =>
   rw [hg] at h
   simp only [Region.wanted,hg,if_true]
   exact main h
 | some p =>
   obtain ⟨j,want⟩:=p
   rw [hg] at h
   simp only [Array.getElem?_toList] at h
   simp only [Region.wanted,hg]
   cases ht:(ops[j]?).bind (·.dst) with
   | none=>rw [ht] at h; cases h
   | some t =>
     rw [ht] at h
     simp only at h
     cases hv:s.T t with
     | bool b =>
       rw [hv] at h
       rw [aC3 T ht hv]
       simp only [aij hv] at h
       cases b <;> cases want
       · rw [if_pos (by rfl)]
         rw [aij hv] at h
         exact main h
       · rw [if_neg (by simp)]
         rw [aij hv] at h
         exact azG I T G h
       · rw [if_neg (by simp)]
         rw [aij hv] at h
         exact azG I T G h
       · rw [if_pos (by rfl)]
         rw [aij hv] at h
         exact main h
     | skip =>
       rw [hv] at h
       rw [aC4 T ht hv,if_neg (by simp)]
       exact azG I T G h
     | _=>rw [hv] at h; cases h
theorem akZ : ∀ (i:Nat) (l:List Oper),(num i l).map Prod.snd=l
 | _,[]=>rfl
 | i,o :: r=>by simp [num,akZ (i+1) r]
theorem aGs : ∀ (i:Nat) (l:List Oper),(num i l).map Prod.fst=List.range' i l.length
 | _,[]=>rfl
 | i,o :: r=>by simp [num,aGs (i+1) r,List.range'_succ]
theorem aza : ∀ (i:Nat) (l:List Oper) p,p∈num i l→i≤p.1∧l[p.1 - i]?=some p.2
 | _,[],p,h=>by simp [num] at h
 | i,o :: r,p,h=>by
   rcases List.mem_cons.1 h with rfl | h
   · simp
   · obtain ⟨h1,h2⟩:=aza (i+1) r p h
     refine ⟨by omega,?_⟩
     rw [show p.1 - i=(p.1 - (i+1))+1 by omega,List.getElem?_cons_succ]
     exact h2
theorem asD : ∀ (i:Nat) (l:List Oper),(num i l).Pairwise fun p q=>p.1 < q.1
 | _,[]=>.nil
 | i,o :: r=>.cons (fun p hp=>(aza (i+1) r p hp).1) (asD (i+1) r)
theorem aDs (l:List Oper) {k:Nat} {o:Oper} (h:l[k]?=some o):∀ i,(i+k,o)∈num i l:=by
 induction l generalizing k with
 | nil=>simp at h
 | cons x l ih =>
   intro i
   cases k with
   | zero=>simp at h; subst h; exact List.mem_cons_self ..
   | succ k =>
     have:=ih (k:=k) (by simpa using h) (i+1)
     rw [show i+(k+1)=i+1+k by omega]
     exact List.mem_cons_of_mem _ this
theorem aEa (hΓ:EnvOk P Γ) (hC:ait P Γ E) (G:∀ s w M ι θ a,K s=some r→Inv w0 M0 X s w M ι θ→TInv s w M ι θ a→Q .normal a w):∀ (il:List (Nat×Oper)) s w M ι θ a,
 (∀ p∈il,ops[p.1]?=some p.2)→Inv w0 M0 X s w M ι θ→TInv s w M ι θ a→opsK Γ E dr ops.toList (il.map Prod.snd) s K=some r→wpOpsIn (FR ro) 0 P ops Q (il.map Prod.fst) a w
 | [],s,w,M,ι,θ,a,_,I,T,h=>G _ _ _ _ _ _ h I T
 | p :: il,s,w,M,ι,θ,a,hm,I,T,h=>by
   have hp:=hm p (List.mem_cons_self ..)
   have h:ads Γ E dr ops.toList p.2 s (fun s=>opsK Γ E dr ops.toList (il.map Prod.snd) s K)=some r:=h
   have:=asj (ro:=ro) (Q:=Q) (N:=wpOpsIn (FR ro) 0 P ops Q (il.map Prod.fst)) hΓ hC I T (fun s w M ι θ a hk I T=>aEa hΓ hC G il s w M ι θ a (fun q hq=>hm q (List.mem_cons_of_mem _ hq)) I T hk) h
   simp only [List.map_cons,wpOpsIn,hp]
   split
   · rename_i hw; rw [if_pos hw] at this; exact this
   · rename_i hw; rw [if_neg hw] at this; exact ⟨fun _ _=>trivial,this⟩
inductive Anc (ops:Array Oper):Nat→Nat→Prop
 | edge {p q:Nat} {o:Oper} {e:Edge}:ops[q]?=some o→e∈o.after→Region.binds .any e=true→e.on=p→Anc ops p q
 | step {p x q:Nat} {o:Oper} {e:Edge}:Anc ops p x→ops[q]?=some o→e∈o.after→Region.binds .any e=true→e.on=x→Anc ops p q
def Rel (Γ:Env) (dr:Bool) (ops:Array Oper) (p q:Nat×Oper):Prop:=Anc ops p.1 q.1∨comm Γ dr ops p.2 q.2=true
theorem au0 (m i:Nat):bit m i=m.testBit i:=by
 rw [Nat.testBit_eq_decide_div_mod_eq]
 unfold bit
 rw [Bool.eq_iff_iff,Nat.beq_eq,decide_eq_true_iff]
theorem aFI {a b i:Nat} (h:bit (Nat.lor a b) i=true):bit a i=true∨bit b i=true:=by
 rw [au0] at h
 have h:(a ||| b).testBit i=true:=h
 rw [Nat.testBit_or,Bool.or_eq_true] at h
 rw [au0,au0]; exact h
theorem aIK {j i:Nat} (h:bit (2 ^ j) i=true):i=j:=by
 rw [au0,Nat.testBit_two_pow] at h
 have h:j=i:=by simpa using h
 exact h.symm
theorem aDY {i:Nat}:bit 0 i=false:=by rw [au0]; simp
theorem aJZ {prev:List (Nat×Oper×Nat)} (hp:∀ p∈prev,∀ x,bit p.2.2 x=true→Anc ops x p.1):∀ {j x:Nat},bit (lkA prev j) x=true→Anc ops x j:=by
 induction prev with
 | nil =>
   intro j x h
   have h:bit 0 x=true:=h
   rw [aDY] at h; cases h
 | cons p r ih =>
   obtain ⟨i,o,l⟩:=p
   intro j x h
   have h:bit (bif Nat.beq i j then l else lkA r j) x=true:=h
   cases hb:Nat.beq i j with
   | true =>
     rw [hb] at h
     rw [Nat.beq_eq] at hb
     subst hb
     exact hp _ (List.mem_cons_self ..) x h
   | false=>rw [hb] at h; exact ih (fun p hp'=>hp p (List.mem_cons_of_mem _ hp')) h
theorem ass {prev:List (Nat×Oper×Nat)} (hp:∀ p∈prev,∀ x,bit p.2.2 x=true→Anc ops x p.1) {o:Oper} {i:Nat} (ho:ops[i]?=some o) {x:Nat} (h:bit (azQ prev o) x=true):Anc ops x i:=by
 have key:∀ (l:List Edge),(∀ e∈l,e∈o.after)→bit (ancE prev l) x=true→Anc ops x i:=by
  intro l
  induction l with
  | nil =>
    intro _ h
    have h:bit 0 x=true:=h
    rw [aDY] at h; cases h
  | cons e r ih =>
    intro hl h
    have h:bit (bif Region.binds .any e then Nat.lor (Nat.lor (2 ^ e.on) (lkA prev e.on)) (ancE prev r) else ancE prev r) x=true:=h
    have hr:=fun h=>ih (fun e he=>hl e (List.mem_cons_of_mem _ he)) h
    cases hb:Region.binds .any e with
    | false=>rw [hb] at h; exact hr h
    | true =>
      rw [hb] at h
      have hm:=hl e (List.mem_cons_self ..)
      rcases aFI h with h | h
      · rcases aFI h with h | h
        · exact .edge ho hm hb (aIK h).symm
        · exact .step (aJZ hp h) ho hm hb rfl
      · exact hr h
 exact key _ (fun e he=>Array.mem_toList_iff.1 he) h
theorem aze : ∀ (l:List Oper) (prev:List (Nat×Oper×Nat)) (i:Nat),(∀ p∈prev,∀ x,bit p.2.2 x=true→Anc ops x p.1)→(∀ (k:Nat) o,l[k]?=some o→ops[i+k]?=some o)→apR Γ dr ops prev i l=true →
 (num i l).Pairwise (Rel Γ dr ops)∧(∀ p∈prev,∀ q∈num i l,Rel Γ dr ops (p.1,p.2.1) q)∧∀ q∈num i l,∀ e∈q.2.after,Region.binds .any e=true→e.on < q.1
 | [],prev,i,_,_,_=>⟨.nil,fun _ _ q hq=>by simp [num] at hq,fun q hq=>by simp [num] at hq⟩
 | o :: r,prev,i,hp,hops,h=>by
   simp only [apR,Bool.and_eq_true] at h
   obtain ⟨h1,h2,h3⟩:=h
   have ho:ops[i]?=some o:=by have:=hops 0 o rfl; simpa using this
   have hp':∀ p∈(i,o,azQ prev o) :: prev,∀ x,bit p.2.2 x=true→Anc ops x p.1:=fun p hpm x hx=>by
     rcases List.mem_cons.1 hpm with rfl | hpm
     · exact ass hp ho hx
     · exact hp p hpm x hx
   obtain ⟨k1,k2,k3⟩:=aze r _ _ hp' (fun k o' hk=>by
     have:=hops (k+1) o' (by simpa using hk)
     rwa [show i+(k+1)=i+1+k by omega] at this) h3
   refine ⟨.cons (fun q hq=>k2 (i,o,azQ prev o) (List.mem_cons_self ..) q hq) k1,fun p hpm q hq=>?_,fun q hq e he hb=>?_⟩
   · rcases List.mem_cons.1 hq with rfl | hq
     · have:=List.all_eq_true.1 h1 p hpm
       rw [Bool.or_eq_true] at this
       rcases this with this | this
       · exact .inl (ass hp ho this)
       · exact .inr this
     · exact k2 p (List.mem_cons_of_mem _ hpm) q hq
   · rcases List.mem_cons.1 hq with rfl | hq
     · have:=List.all_eq_true.1 h2 e (Array.mem_toList_iff.2 he)
       simp only [Bool.or_eq_true,Bool.not_eq_true',hb,Bool.true_eq_false,false_or] at this
       simpa using this
     · exact k3 q hq e he hb
theorem aEX {listed:Array Bool} (hcl:∀ (i:Nat) o,ops[i]?=some o→listed.getD i true=true→∀ e∈o.after,Region.binds .any e=true→listed.getD e.on true=true) :
 ∀ {x i:Nat},Anc ops x i→listed.getD i true=true→listed.getD x true=true:=by
 intro x i h
 induction h with
 | edge ho he hb e=>intro hi; rw [← e]; exact hcl _ _ ho hi _ he hb
 | step _ ho he hb e ih=>intro hi; exact ih (by rw [← e]; exact hcl _ _ ho hi _ he hb)
theorem ayi {listed:Array Bool} (hcl:∀ (i:Nat) o,ops[i]?=some o→listed.getD i true=true→∀ e∈o.after,Region.binds .any e=true→listed.getD e.on true=true)
 {x i:Nat} {o:Oper} (ho:ops[i]?=some o) (hr:∀ e∈o.after,Region.binds .any e=true→listed.getD e.on true=true) (h:Anc ops x i):listed.getD x true=true:=by
 cases h with
 | edge ho' he hb e =>
   rw [ho] at ho'
   cases ho'
   rw [← e]; exact hr _ he hb
 | step h ho' he hb e =>
   rw [ho] at ho'
   cases ho'
   exact aEX hcl h (by rw [← e]; exact hr _ he hb)
theorem aC6 (hΓ:EnvOk P Γ) (hC:ait P Γ E) (hE:agd E) (hrw:Γ.rw=false) (G:∀ s w M ι θ a,K s=some r→Inv w0 M0 X s w M ι θ→TInv s w M ι θ a→Q .normal a w):∀ (n:Nat) (il:List (Nat×Oper)) (listed:Array Bool) s w M ι θ a,
 il.length=n→listed.size=ops.size→(∀ p∈il,ops[p.1]?=some p.2)→(∀ i,listed.getD i true=false↔∃ o,(i,o)∈il)→il.Pairwise (Rel Γ dr ops)→il.Pairwise (fun p q=>p.1 < q.1) →
 (∀ q∈il,∀ e∈q.2.after,Region.binds .any e=true→e.on < q.1) →
 (∀ (i:Nat) o,ops[i]?=some o→listed.getD i true=true→∀ e∈o.after,Region.binds .any e=true→listed.getD e.on true=true)→(∀ i,Γ.lo i=true→i < s.S.length)→Inv w0 M0 X s w M ι θ→TInv s w M ι θ a→opsK Γ E dr ops.toList (il.map Prod.snd) s K=some r→wpAnyIn (FR ro) 0 P .any ops Q n listed a w:=by
 intro n
 induction n with
 | zero =>
   intro il listed s w M ι θ a hn hsz hm hl _ _ _ _ _ I T h
   have:il=[]:=List.eq_nil_of_length_eq_zero hn
   subst this
   refine ⟨?_,G _ _ _ _ _ _ h I T⟩
   cases hr:Region.ready .any ops listed with
   | nil=>rfl
   | cons j js =>
     have:j∈Region.ready .any ops listed:=by rw [hr]; exact List.mem_cons_self ..
     obtain ⟨o,ho⟩:=(hl j).1 (mem_ready.1 this).1
     simp at ho
 | succ n ih =>
   intro il listed s w M ι θ a hn hsz hm hl hp hs he hcl hlo I T h
   have hlt:∀ p∈il,p.1 < ops.size:=fun p hp=>(Array.getElem?_eq_some_iff.1 (hm p hp)).1
   refine ⟨fun h0=>?_,fun i hi=>?_⟩
   · cases il with
     | nil=>simp at hn
     | cons p il =>
       exfalso
       have:p.1∈Region.ready .any ops listed:=by
        refine mem_ready.2 ⟨(hl p.1).2 ⟨p.2,List.mem_cons_self ..⟩,p.2,hm p (List.mem_cons_self ..),fun e hem hb=>?_⟩
        have h1:=he p (List.mem_cons_self ..) e hem hb
        have h2:=hlt p (List.mem_cons_self ..)
        have h3:e.on < listed.size:=by omega
        cases hc:listed.getD e.on true with
        | true=>simpa [h3] using hc
        | false =>
          obtain ⟨o,ho⟩:=(hl e.on).1 hc
          rcases List.mem_cons.1 ho with ho | ho
          · rw [← ho] at h1; exact absurd h1 (Nat.lt_irrefl _)
          · have:=List.rel_of_pairwise_cons hs ho
            simp at this; omega
       rw [h0] at this; cases this
   · obtain ⟨hun,o,ho,hall⟩:=mem_ready.1 hi
     obtain ⟨o',ho'⟩:=(hl i).1 hun
     have hoo:=hm _ ho'
     have:o'=o:=by rw [ho] at hoo; exact (Option.some.inj hoo).symm
     subst this
     obtain ⟨pre,post,rfl⟩:=List.append_of_mem ho'
     rw [List.map_append,List.map_cons] at h
     have hready:∀ e∈o'.after,Region.binds .any e=true→listed.getD e.on true=true:=fun e he hb=>by
        have h1:=hall e he hb
        have h3:e.on < listed.size∨¬ e.on < listed.size:=Nat.lt_or_ge _ _ |>.imp id Nat.not_lt.2
        rcases h3 with h3 | h3
        · simpa [h3] using h1
        · simp [h3]
     have hcomm:∀ oj∈pre.map Prod.snd,comm Γ dr ops oj o'=true:=by
        intro oj hoj
        obtain ⟨q,hq,rfl⟩:=List.mem_map.1 hoj
        have hrel:=(List.pairwise_append.1 hp).2.2 q hq (i,o') (List.mem_cons_self ..)
        rcases hrel with hrel | hrel
        · exfalso
          have h1:=ayi hcl ho hready hrel
          have h2:=(hl q.1).2 ⟨q.2,List.mem_append_left _ hq⟩
          rw [h1] at h2; cases h2
        · exact hrel
     have h2:=first hE hrw (pre.map Prod.snd) s hlo hcomm h
     have hp':(pre++post).Pairwise (Rel Γ dr ops):=hp.sublist (List.Sublist.append_left (List.sublist_cons_self ..) _)
     have hs':(pre++post).Pairwise (fun p q=>p.1 < q.1):=hs.sublist (List.Sublist.append_left (List.sublist_cons_self ..) _)
     have hsub:∀ p,p∈pre++post→p∈pre++(i,o') :: post:=fun p hp=>by
        rcases List.mem_append.1 hp with hp | hp
        · exact List.mem_append_left _ hp
        · exact List.mem_append_right _ (List.mem_cons_of_mem _ hp)
     have hnot:∀ o,(i,o) ∉ pre++post:=by
        intro o hmem
        rcases List.mem_append.1 hmem with hmem | hmem
        · have:=(List.pairwise_append.1 hs).2.2 _ hmem (i,o') (List.mem_cons_self ..)
          exact absurd this (Nat.lt_irrefl _)
        · have:=List.rel_of_pairwise_cons (List.pairwise_append.1 hs).2.1 hmem
          exact absurd this (Nat.lt_irrefl _)
     have hl':∀ k,(listed.setIfInBounds i true).getD k true=false↔∃ o,(k,o)∈pre++post:=by
        intro k
        by_cases hk:i=k
        · subst hk
          constructor
          · intro h
            have h3:i < listed.size:=by rw [hsz]; exact hlt _ ho'
            simp [h3] at h
          · rintro ⟨o,ho⟩; exact absurd ho (hnot o)
        · rw [getD_set_ne true hk,hl k]
          constructor
          · rintro ⟨o,ho⟩
            rcases List.mem_append.1 ho with ho | ho
            · exact ⟨o,List.mem_append_left _ ho⟩
            · rcases List.mem_cons.1 ho with ho | ho
              · exact absurd (congrArg Prod.fst ho).symm hk
              · exact ⟨o,List.mem_append_right _ ho⟩
          · rintro ⟨o,ho⟩; exact ⟨o,hsub _ ho⟩
     have hcl':∀ (k:Nat) o,ops[k]?=some o→(listed.setIfInBounds i true).getD k true=true→∀ e∈o.after,Region.binds .any e=true→(listed.setIfInBounds i true).getD e.on true=true:=by
        intro k o hk hlk e hem hb
        have up:∀ x,listed.getD x true=true→(listed.setIfInBounds i true).getD x true=true:=by
         intro x hx
         by_cases hxi:i=x
         · subst hxi
           by_cases h3:i < listed.size
           · simp [h3]
           · simp [h3]
         · rw [getD_set_ne true hxi]; exact hx
        by_cases hki:i=k
        · subst hki
          rw [ho] at hk
          cases hk
          exact up _ (hready e hem hb)
        · rw [getD_set_ne true hki] at hlk
          exact up _ (hcl k o hk hlk e hem hb)
     obtain ⟨oe,J⟩:=axK (Γ:=Γ) (dr:=dr) (ops:=ops) hE hrw o' s
     rw [J.run s ⟨rfl,fun _ _=>rfl⟩ rfl rfl rfl] at h2
     cases oe with
     | none=>cases h2
     | some e =>
     classical
     have h3:ads Γ E dr ops.toList o' s (fun s2=>if s2=e.on s o'.dst then opsK Γ E dr ops.toList ((pre++post).map Prod.snd) s2 K else none)=some r:=by
        rw [J.run s ⟨rfl,fun _ _=>rfl⟩ rfl rfl rfl]
        show (if e.on s o'.dst=e.on s o'.dst then _ else _)=_
        rw [if_pos rfl,List.map_append]; exact h2
     have:=asj (ro:=ro) (Q:=Q) (N:=wpAnyIn (FR ro) 0 P .any ops Q n (listed.setIfInBounds i true)) hΓ hC I T (fun s2 w M ι θ a hk I T=>by
        split at hk
        · rename_i e2
          refine ih (pre++post) (listed.setIfInBounds i true) s2 w M ι θ a (by simp at hn ⊢; omega) (by simp [hsz]) (fun p hp=>hm p (hsub p hp)) hl' hp' hs' (fun q hq=>he q (hsub q hq)) hcl' (fun k hk=>?_) I T hk
          rw [e2,on_S]
          exact aEe (J.kp hlo e rfl k hk) (hlo k hk)
        · cases hk) h3
     simp only [wpOpIn,ho]
     split
     · rename_i hw; rw [if_pos hw] at this; exact this
     · rename_i hw; rw [if_neg hw] at this; exact ⟨fun _ _=>trivial,this⟩
def RelY (Γ:Env) (dr:Bool) (ops:Array Oper) (x y:Nat) (p q:Nat×Oper):Prop:=Rel Γ dr ops p q∨(p.1=x∧q.1=y)
theorem axE {x y:Nat}:∀ (l:List Oper) (prev:List (Nat×Oper×Nat)) (i:Nat),(∀ p∈prev,∀ x,bit p.2.2 x=true→Anc ops x p.1)→(∀ (k:Nat) o,l[k]?=some o→ops[i+k]?=some o)→awV Γ dr ops x y prev i l=true →
 (num i l).Pairwise (RelY Γ dr ops x y)∧(∀ p∈prev,∀ q∈num i l,RelY Γ dr ops x y (p.1,p.2.1) q)∧∀ q∈num i l,∀ e∈q.2.after,Region.binds .any e=true→e.on < q.1
 | [],prev,i,_,_,_=>⟨.nil,fun _ _ q hq=>by simp [num] at hq,fun q hq=>by simp [num] at hq⟩
 | o :: r,prev,i,hp,hops,h=>by
   simp only [awV,Bool.and_eq_true] at h
   obtain ⟨h1,h2,h3⟩:=h
   have ho:ops[i]?=some o:=by have:=hops 0 o rfl; simpa using this
   have hp':∀ p∈(i,o,azQ prev o) :: prev,∀ x,bit p.2.2 x=true→Anc ops x p.1:=fun p hpm x hx=>by
     rcases List.mem_cons.1 hpm with rfl | hpm
     · exact ass hp ho hx
     · exact hp p hpm x hx
   obtain ⟨k1,k2,k3⟩:=axE r _ _ hp' (fun k o' hk=>by
     have:=hops (k+1) o' (by simpa using hk)
     rwa [show i+(k+1)=i+1+k by omega] at this) h3
   refine ⟨.cons (fun q hq=>k2 (i,o,azQ prev o) (List.mem_cons_self ..) q hq) k1,fun p hpm q hq=>?_,fun q hq e he hb=>?_⟩
   · rcases List.mem_cons.1 hq with rfl | hq
     · have:=List.all_eq_true.1 h1 p hpm
       rw [Bool.or_eq_true,Bool.or_eq_true,Bool.and_eq_true,Nat.beq_eq,Nat.beq_eq] at this
       rcases this with this | this | this
       · exact .inl (.inl (ass hp ho this))
       · exact .inl (.inr this)
       · exact .inr this
     · exact k2 p (List.mem_cons_of_mem _ hpm) q hq
   · rcases List.mem_cons.1 hq with rfl | hq
     · have:=List.all_eq_true.1 h2 e (Array.mem_toList_iff.2 he)
       simp only [Bool.or_eq_true,Bool.not_eq_true',hb,Bool.true_eq_false,false_or] at this
       simpa using this
     · exact k3 q hq e he hb
theorem ap6 {listed:Array Bool} {i:Nat} {o':Oper} {pre post:List (Nat×Oper)} (ho:ops[i]?=some o') (hsz:listed.size=ops.size)
 (hl:∀ k,listed.getD k true=false↔∃ o,(k,o)∈pre++(i,o') :: post) (hs:(pre++(i,o') :: post).Pairwise (fun p q=>p.1 < q.1))
 (hcl:∀ (i:Nat) o,ops[i]?=some o→listed.getD i true=true→∀ e∈o.after,Region.binds .any e=true→listed.getD e.on true=true)
 (hready:∀ e∈o'.after,Region.binds .any e=true→listed.getD e.on true=true) :
 (∀ k,(listed.setIfInBounds i true).getD k true=false↔∃ o,(k,o)∈pre++post) ∧
 (∀ (k:Nat) o,ops[k]?=some o→(listed.setIfInBounds i true).getD k true=true→∀ e∈o.after,Region.binds .any e=true→(listed.setIfInBounds i true).getD e.on true=true):=by
 have hsub:∀ p,p∈pre++post→p∈pre++(i,o') :: post:=fun p hp=>by
  rcases List.mem_append.1 hp with hp | hp
  · exact List.mem_append_left _ hp
  · exact List.mem_append_right _ (List.mem_cons_of_mem _ hp)
 have hnot:∀ o,(i,o) ∉ pre++post:=by
  intro o hmem
  rcases List.mem_append.1 hmem with hmem | hmem
  · have:=(List.pairwise_append.1 hs).2.2 _ hmem (i,o') (List.mem_cons_self ..)
    exact absurd this (Nat.lt_irrefl _)
  · have:=List.rel_of_pairwise_cons (List.pairwise_append.1 hs).2.1 hmem
    exact absurd this (Nat.lt_irrefl _)
 constructor
 · intro k
   by_cases hk:i=k
   · subst hk
     constructor
     · intro h
       have h3:i < listed.size:=by rw [hsz]; exact (Array.getElem?_eq_some_iff.1 ho).1
       simp [h3] at h
     · rintro ⟨o,ho⟩; exact absurd ho (hnot o)
   · rw [getD_set_ne true hk,hl k]
     constructor
     · rintro ⟨o,ho⟩
       rcases List.mem_append.1 ho with ho | ho
       · exact ⟨o,List.mem_append_left _ ho⟩
       · rcases List.mem_cons.1 ho with ho | ho
         · exact absurd (congrArg Prod.fst ho).symm hk
         · exact ⟨o,List.mem_append_right _ ho⟩
     · rintro ⟨o,ho⟩; exact ⟨o,hsub _ ho⟩
 · intro k o hk hlk e hem hb
   have up:∀ x,listed.getD x true=true→(listed.setIfInBounds i true).getD x true=true:=by
    intro x hx
    by_cases hxi:i=x
    · subst hxi
      by_cases h3:i < listed.size
      · simp [h3]
      · simp [h3]
    · rw [getD_set_ne true hxi]; exact hx
   by_cases hki:i=k
   · subst hki
     rw [ho] at hk
     cases hk
     exact up _ (hready e hem hb)
   · rw [getD_set_ne true hki] at hlk
     exact up _ (hcl k o hk hlk e hem hb)
theorem asm (hΓ:EnvOk P Γ) (hC:ait P Γ E) (I:Inv w0 M0 X s w M ι θ) (T:TInv s w M ι θ a) {i:Nat} {o':Oper} (ho:ops[i]?=some o') {e:Eff} (J:Stp Γ E dr ops o' s (some e)) {N:Act→World→Prop}
 (G:∀ w M ι θ a,Inv w0 M0 X (e.on s o'.dst) w M ι θ→TInv (e.on s o'.dst) w M ι θ a→N a w):wpOpIn (FR ro) 0 P ops Q i N a w:=by
 classical
 have h3:ads Γ E dr ops.toList o' s (fun s2=>if s2=e.on s o'.dst then some () else none)=some ():=by
  rw [J.run s ⟨rfl,fun _ _=>rfl⟩ rfl rfl rfl]
  show (if e.on s o'.dst=e.on s o'.dst then _ else _)=_
  rw [if_pos rfl]
 have:=asj (ro:=ro) (Q:=Q) (N:=N) hΓ hC I T (fun s2 w M ι θ a hk I T=>by
  split at hk
  · rename_i e2
    subst e2
    exact G w M ι θ a I T
  · cases hk) h3
 simp only [wpOpIn,ho]
 split
 · rename_i hw; rw [if_pos hw] at this; exact this
 · rename_i hw; rw [if_neg hw] at this; exact ⟨fun _ _=>trivial,this⟩
theorem aHf (hΓ:EnvOk P Γ) (hC:ait P Γ E) (hE:agd E) (hrw:Γ.rw=false) (G:∀ s w M ι θ a,K s=some r→Inv w0 M0 X s w M ι θ→TInv s w M ι θ a→Q .normal a w) {x y:Nat} (hxy:x < y) {A1 A2:Oper}:∀ (n:Nat) (u m v:List (Nat×Oper)) (listed:Array Bool) s w M ι θ a,
 (u++(x,A1) :: (m++(y,A2) :: v)).length=n→listed.size=ops.size→(∀ p∈u++(x,A1) :: (m++(y,A2) :: v),ops[p.1]?=some p.2)→(∀ i,listed.getD i true=false↔∃ o,(i,o)∈u++(x,A1) :: (m++(y,A2) :: v)) →
 (u++(x,A1) :: (m++(y,A2) :: v)).Pairwise (RelY Γ dr ops x y)→(u++(x,A1) :: (m++(y,A2) :: v)).Pairwise (fun p q=>p.1 < q.1) →
 (∀ q∈u++(x,A1) :: (m++(y,A2) :: v),∀ e∈q.2.after,Region.binds .any e=true→e.on < q.1)→(∀ q∈m,comm Γ dr ops A2 q.2=true) →
 (∀ (i:Nat) o,ops[i]?=some o→listed.getD i true=true→∀ e∈o.after,Region.binds .any e=true→listed.getD e.on true=true)→(∀ i,Γ.lo i=true→i < s.S.length)→Inv w0 M0 X s w M ι θ→TInv s w M ι θ a →
 opsK Γ E dr ops.toList (u.map Prod.snd++A1 :: (m.map Prod.snd++A2 :: v.map Prod.snd)) s K=some r→opsK Γ E dr ops.toList (u.map Prod.snd++A2 :: A1 :: (m.map Prod.snd++v.map Prod.snd)) s K=some r→wpAnyIn (FR ro) 0 P .any ops Q n listed a w:=by
 intro n
 induction n with
 | zero=>intro u m v listed s w M ι θ a hn; simp at hn
 | succ n ih =>
   intro u m v listed s w M ι θ a hn hsz hm hl hp hs he hmid hcl hlo I T h1 h2
   have hlt:∀ p∈u++(x,A1) :: (m++(y,A2) :: v),p.1 < ops.size:=fun p hp=>(Array.getElem?_eq_some_iff.1 (hm p hp)).1
   have hx:∀ p∈u,p.1 < x:=fun p hp=>(List.pairwise_append.1 hs).2.2 p hp (x,A1) (List.mem_cons_self ..)
   have hs2:=List.pairwise_cons.1 (List.pairwise_append.1 hs).2.1
   have hmx:∀ q∈m,x < q.1:=fun q hq=>hs2.1 q (List.mem_append_left _ hq)
   have hmy:∀ q∈m,q.1 < y:=fun q hq=>(List.pairwise_append.1 hs2.2).2.2 q hq (y,A2) (List.mem_cons_self ..)
   have hv:∀ q∈v,y < q.1:=fun q hq=>(List.pairwise_cons.1 (List.pairwise_append.1 hs2.2).2.1).1 q hq
   have relUV:∀ p q,RelY Γ dr ops x y p q→(p.1≠x∨q.1≠y)→Rel Γ dr ops p q:=fun p q h hn=>h.elim id fun h=>absurd h.1 (hn.elim id fun hq=>absurd h.2 hq)
   refine ⟨fun h0=>?_,fun i hi=>?_⟩
   · exfalso
     obtain ⟨p,il,hil⟩:∃ p il,u++(x,A1) :: (m++(y,A2) :: v)=p :: il:=by cases u with
        | nil=>exact ⟨_,_,rfl⟩
        | cons p u=>exact ⟨_,_,rfl⟩
     rw [hil] at hl hm hs he hlt
     have:p.1∈Region.ready .any ops listed:=by
        refine mem_ready.2 ⟨(hl p.1).2 ⟨p.2,List.mem_cons_self ..⟩,p.2,hm p (List.mem_cons_self ..),fun e hem hb=>?_⟩
        have h1:=he p (List.mem_cons_self ..) e hem hb
        have h2:=hlt p (List.mem_cons_self ..)
        have h3:e.on < listed.size:=by omega
        cases hc:listed.getD e.on true with
        | true=>simpa [h3] using hc
        | false =>
          obtain ⟨o,ho⟩:=(hl e.on).1 hc
          rcases List.mem_cons.1 ho with ho | ho
          · rw [← ho] at h1; exact absurd h1 (Nat.lt_irrefl _)
          · have:=List.rel_of_pairwise_cons hs ho
            simp at this; omega
     rw [h0] at this; cases this
   · obtain ⟨hun,o,ho,hall⟩:=mem_ready.1 hi
     obtain ⟨o',ho'⟩:=(hl i).1 hun
     have hoo:=hm _ ho'
     have:o'=o:=by rw [ho] at hoo; exact (Option.some.inj hoo).symm
     subst this
     have hready:∀ e∈o'.after,Region.binds .any e=true→listed.getD e.on true=true:=fun e he hb=>by
        have h1:=hall e he hb
        have h3:e.on < listed.size∨¬ e.on < listed.size:=Nat.lt_or_ge _ _ |>.imp id Nat.not_lt.2
        rcases h3 with h3 | h3
        · simpa [h3] using h1
        · simp [h3]
     have commOf:∀ q∈u++(x,A1) :: (m++(y,A2) :: v),Rel Γ dr ops q (i,o')→comm Γ dr ops q.2 o'=true:=fun q hq hrel=>by
        rcases hrel with hrel | hrel
        · exfalso
          have h1:=ayi hcl ho hready hrel
          have h2:=(hl q.1).2 ⟨q.2,hq⟩
          rw [h1] at h2; cases h2
        · exact hrel
     obtain ⟨oe,J⟩:=axK (Γ:=Γ) (dr:=dr) (ops:=ops) hE hrw o' s
     have lo':∀ e,oe=some e→∀ k,Γ.lo k=true→k < (e.on s o'.dst).S.length:=fun e he k hk=>by
        rw [on_S]; exact aEe (J.kp hlo e he k hk) (hlo k hk)
     rcases List.mem_append.1 ho' with hu | hu
     · -- ahead of both
       obtain ⟨pre,post,rfl⟩:=List.append_of_mem hu
       have hilx:(pre++(i,o') :: post)++(x,A1) :: (m++(y,A2) :: v)=pre++(i,o') :: (post++(x,A1) :: (m++(y,A2) :: v)):=by simp
       have hcomm:∀ oj∈pre.map Prod.snd,comm Γ dr ops oj o'=true:=by
        intro oj hoj
        obtain ⟨q,hq,rfl⟩:=List.mem_map.1 hoj
        refine commOf q (by simp [hq]) (relUV _ _ ?_ (.inl (Nat.ne_of_lt (hx q (by simp [hq])))))
        rw [hilx] at hp
        exact (List.pairwise_append.1 hp).2.2 q hq (i,o') (List.mem_cons_self ..)
       have g1:=first hE hrw (pre.map Prod.snd) s hlo hcomm (post:=post.map Prod.snd++A1 :: (m.map Prod.snd++A2 :: v.map Prod.snd)) (oi:=o') (K:=K) (r:=r) (by rw [← h1]; simp)
       have g2:=first hE hrw (pre.map Prod.snd) s hlo hcomm (post:=post.map Prod.snd++A2 :: A1 :: (m.map Prod.snd++v.map Prod.snd)) (oi:=o') (K:=K) (r:=r) (by rw [← h2]; simp)
       rw [J.run s ⟨rfl,fun _ _=>rfl⟩ rfl rfl rfl] at g1 g2
       cases oe with
       | none=>cases g1
       | some e =>
       have hsubl:(pre++post++(x,A1) :: (m++(y,A2) :: v)).Sublist ((pre++(i,o') :: post)++(x,A1) :: (m++(y,A2) :: v)):=(List.Sublist.append_left (List.sublist_cons_self ..) _).append_right _
       obtain ⟨s1,s2⟩:=ap6 (pre:=pre) (post:=post++(x,A1) :: (m++(y,A2) :: v)) ho hsz (by rw [← hilx]; exact hl) (by rw [← hilx]; exact hs) hcl hready
       have hsub:=hsubl.subset
       refine asm hΓ hC I T ho J (fun w M ι θ a I T=>?_)
       refine ih (pre++post) m v (listed.setIfInBounds i true) _ w M ι θ a (by simp at hn ⊢; omega) (by simp [hsz]) (fun p hp=>hm p (hsub hp)) (by rw [List.append_assoc]; exact s1) (hp.sublist hsubl) (hs.sublist hsubl) (fun q hq=>he q (hsub hq)) hmid s2 (lo' e rfl) I T ?_ ?_
       · rw [← g1]; simp
       · rw [← g2]; simp
     · rcases List.mem_cons.1 hu with hu | hu
       · -- the first of both
         cases hu
         have hcomm:∀ oj∈u.map Prod.snd,comm Γ dr ops oj A1=true:=by
            intro oj hoj
            obtain ⟨q,hq,rfl⟩:=List.mem_map.1 hoj
            exact commOf q (by simp [hq]) (relUV _ _ ((List.pairwise_append.1 hp).2.2 q hq (x,A1) (List.mem_cons_self ..)) (.inl (Nat.ne_of_lt (hx q hq))))
         have g1:=first hE hrw (u.map Prod.snd) s hlo hcomm h1
         rw [J.run s ⟨rfl,fun _ _=>rfl⟩ rfl rfl rfl] at g1
         cases oe with
         | none=>cases g1
         | some e =>
         have hsubl:(u++(m++(y,A2) :: v)).Sublist (u++(x,A1) :: (m++(y,A2) :: v)):=List.Sublist.append_left (List.sublist_cons_self ..) _
         obtain ⟨s1,s2⟩:=ap6 (pre:=u) (post:=m++(y,A2) :: v) ho hsz hl hs hcl hready
         refine asm hΓ hC I T ho J (fun w M ι θ a I T=>?_)
         refine aC6 (dr:=dr) hΓ hC hE hrw G n (u++(m++(y,A2) :: v)) (listed.setIfInBounds x true) _ w M ι θ a (by simp at hn ⊢; omega) (by simp [hsz]) (fun p hp=>hm p (hsubl.subset hp)) s1 ?_ (hs.sublist hsubl) (fun q hq=>he q (hsubl.subset hq)) s2 (lo' e rfl) I T (by rw [← g1]; simp)
         refine ((hp.sublist hsubl).and (hs.sublist hsubl)).imp_of_mem fun {p q} hp' hq' hr=>relUV _ _ hr.1 (.inl ?_)
         rcases List.mem_append.1 hp' with hp' | hp'
         · exact Nat.ne_of_lt (hx p hp')
         · rcases List.mem_append.1 hp' with hp' | hp'
           · have:=hmx p hp'; omega
           · rcases List.mem_cons.1 hp' with rfl | hp'
             · show y≠x; omega
             · have:=hv p hp'; omega
       · rcases List.mem_append.1 hu with hu | hu
         · -- between both
           obtain ⟨pre,post,rfl⟩:=List.append_of_mem hu
           have hiy:i < y:=hmy (i,o') hu
           have hilx:u++(x,A1) :: ((pre++(i,o') :: post)++(y,A2) :: v)=(u++(x,A1) :: pre)++(i,o') :: (post++(y,A2) :: v):=by simp
           have hrel:∀ q∈u++(x,A1) :: pre,comm Γ dr ops q.2 o'=true:=by
             intro q hq
             refine commOf q ?_ (relUV _ _ ?_ (.inr (by show i≠y; omega)))
             · rw [hilx]; exact List.mem_append_left _ hq
             · rw [hilx] at hp
               exact (List.pairwise_append.1 hp).2.2 q hq (i,o') (List.mem_cons_self ..)
           have hcomm:∀ oj∈u.map Prod.snd++A1 :: pre.map Prod.snd,comm Γ dr ops oj o'=true:=by
             intro oj hoj
             have:oj∈(u++(x,A1) :: pre).map Prod.snd:=by simpa using hoj
             obtain ⟨q,hq,rfl⟩:=List.mem_map.1 this
             exact hrel q hq
           have hcomm2:∀ oj∈u.map Prod.snd++A2 :: A1 :: pre.map Prod.snd,comm Γ dr ops oj o'=true:=by
             intro oj hoj
             simp only [List.mem_append,List.mem_cons] at hoj
             rcases hoj with h | rfl | h | h
             · exact hcomm oj (by simp only [List.mem_append,List.mem_cons]; exact .inl h)
             · exact hmid (i,o') (by simp)
             · exact hcomm oj (by simp only [List.mem_append,List.mem_cons]; exact .inr (.inl h))
             · exact hcomm oj (by simp only [List.mem_append,List.mem_cons]; exact .inr (.inr h))
           have g1:=first hE hrw (u.map Prod.snd++A1 :: pre.map Prod.snd) s hlo hcomm (post:=post.map Prod.snd++A2 :: v.map Prod.snd) (oi:=o') (K:=K) (r:=r) (by rw [← h1]; simp)
           have g2:=first hE hrw (u.map Prod.snd++A2 :: A1 :: pre.map Prod.snd) s hlo hcomm2 (post:=post.map Prod.snd++v.map Prod.snd) (oi:=o') (K:=K) (r:=r) (by rw [← h2]; simp)
           rw [J.run s ⟨rfl,fun _ _=>rfl⟩ rfl rfl rfl] at g1 g2
           cases oe with
           | none=>cases g1
           | some e =>
           have hsubl:(u++(x,A1) :: ((pre++post)++(y,A2) :: v)).Sublist (u++(x,A1) :: ((pre++(i,o') :: post)++(y,A2) :: v)) :=
             List.Sublist.append_left ((List.Sublist.append_right (List.Sublist.append_left (List.sublist_cons_self ..) _) _).cons_cons _) _
           obtain ⟨s1,s2⟩:=ap6 (pre:=u++(x,A1) :: pre) (post:=post++(y,A2) :: v) ho hsz (by rw [← hilx]; exact hl) (by rw [← hilx]; exact hs) hcl hready
           have hsub:=hsubl.subset
           refine asm hΓ hC I T ho J (fun w M ι θ a I T=>?_)
           refine ih u (pre++post) v (listed.setIfInBounds i true) _ w M ι θ a (by simp at hn ⊢; omega) (by simp [hsz]) (fun p hp=>hm p (hsub hp)) ?_ (hp.sublist hsubl) (hs.sublist hsubl) (fun q hq=>he q (hsub hq)) (fun q hq=>hmid q (by
             rcases List.mem_append.1 hq with h | h
             · exact List.mem_append_left _ h
             · exact List.mem_append_right _ (List.mem_cons_of_mem _ h))) s2 (lo' e rfl) I T ?_ ?_
           · have:u++(x,A1) :: ((pre++post)++(y,A2) :: v)=u++(x,A1) :: pre++(post++(y,A2) :: v):=by simp
             rw [this]; exact s1
           · rw [← g1]; simp
           · rw [← g2]; simp
         · rcases List.mem_cons.1 hu with hu | hu
           · -- the second of both
             cases hu
             have hcomm:∀ oj∈u.map Prod.snd,comm Γ dr ops oj A2=true:=by
                intro oj hoj
                obtain ⟨q,hq,rfl⟩:=List.mem_map.1 hoj
                exact commOf q (by simp [hq]) (relUV _ _ ((List.pairwise_append.1 hp).2.2 q hq (y,A2) (by simp)) (.inl (Nat.ne_of_lt (hx q hq))))
             have g1:=first hE hrw (u.map Prod.snd) s hlo hcomm h2
             rw [J.run s ⟨rfl,fun _ _=>rfl⟩ rfl rfl rfl] at g1
             cases oe with
             | none=>cases g1
             | some e =>
             have hilx:u++(x,A1) :: (m++(y,A2) :: v)=(u++(x,A1) :: m)++(y,A2) :: v:=by simp
             have hsubl:(u++(x,A1) :: m++v).Sublist (u++(x,A1) :: (m++(y,A2) :: v)):=by rw [hilx]; exact List.Sublist.append_left (List.sublist_cons_self ..) _
             obtain ⟨s1,s2⟩:=ap6 (pre:=u++(x,A1) :: m) (post:=v) ho hsz (by rw [← hilx]; exact hl) (by rw [← hilx]; exact hs) hcl hready
             refine asm hΓ hC I T ho J (fun w M ι θ a I T=>?_)
             refine aC6 (dr:=dr) hΓ hC hE hrw G n (u++(x,A1) :: m++v) (listed.setIfInBounds y true) _ w M ι θ a (by simp at hn ⊢; omega) (by simp [hsz]) (fun p hp=>hm p (hsubl.subset hp)) s1 ?_ (hs.sublist hsubl) (fun q hq=>he q (hsubl.subset hq)) s2 (lo' e rfl) I T (by rw [← g1]; simp)
             refine ((hp.sublist hsubl).and (hs.sublist hsubl)).imp_of_mem fun {p q} hp' hq' hr=>relUV _ _ hr.1 (.inr ?_)
             rcases List.mem_append.1 hq' with hq' | hq'
             · rcases List.mem_append.1 hq' with hq' | hq'
               · have:=hx q hq'; omega
               · rcases List.mem_cons.1 hq' with rfl | hq'
                 · show x≠y; omega
                 · have:=hmy q hq'; omega
             · have:=hv q hq'; omega
           · -- behind both
             obtain ⟨pre,post,rfl⟩:=List.append_of_mem hu
             have hyi:y < i:=hv (i,o') (by simp)
             have hilx:u++(x,A1) :: (m++(y,A2) :: (pre++(i,o') :: post))=(u++(x,A1) :: (m++(y,A2) :: pre))++(i,o') :: post:=by simp
             have hrel:∀ q∈u++(x,A1) :: (m++(y,A2) :: pre),comm Γ dr ops q.2 o'=true:=by
                intro q hq
                refine commOf q ?_ (relUV _ _ ?_ (.inr (by show i≠y; omega)))
                · rw [hilx]; exact List.mem_append_left _ hq
                · rw [hilx] at hp
                  exact (List.pairwise_append.1 hp).2.2 q hq (i,o') (List.mem_cons_self ..)
             have hcomm:∀ oj∈u.map Prod.snd++A1 :: (m.map Prod.snd++A2 :: pre.map Prod.snd),comm Γ dr ops oj o'=true:=by
                intro oj hoj
                have:oj∈(u++(x,A1) :: (m++(y,A2) :: pre)).map Prod.snd:=by simpa using hoj
                obtain ⟨q,hq,rfl⟩:=List.mem_map.1 this
                exact hrel q hq
             have hcomm2:∀ oj∈u.map Prod.snd++A2 :: A1 :: (m.map Prod.snd++pre.map Prod.snd),comm Γ dr ops oj o'=true:=by
                intro oj hoj
                refine hcomm oj ?_
                simp only [List.mem_append,List.mem_cons] at hoj ⊢
                rcases hoj with h | h | h | h | h
                · exact .inl h
                · exact .inr (.inr (.inr (.inl h)))
                · exact .inr (.inl h)
                · exact .inr (.inr (.inl h))
                · exact .inr (.inr (.inr (.inr h)))
             have g1:=first hE hrw (u.map Prod.snd++A1 :: (m.map Prod.snd++A2 :: pre.map Prod.snd)) s hlo hcomm (post:=post.map Prod.snd) (oi:=o') (K:=K) (r:=r) (by rw [← h1]; simp)
             have g2:=first hE hrw (u.map Prod.snd++A2 :: A1 :: (m.map Prod.snd++pre.map Prod.snd)) s hlo hcomm2 (post:=post.map Prod.snd) (oi:=o') (K:=K) (r:=r) (by rw [← h2]; simp)
             rw [J.run s ⟨rfl,fun _ _=>rfl⟩ rfl rfl rfl] at g1 g2
             cases oe with
             | none=>cases g1
             | some e =>
             have hsubl:(u++(x,A1) :: (m++(y,A2) :: (pre++post))).Sublist (u++(x,A1) :: (m++(y,A2) :: (pre++(i,o') :: post))) :=
                List.Sublist.append_left ((List.Sublist.append_left ((List.Sublist.append_left (List.sublist_cons_self ..) _).cons_cons _) _).cons_cons _) _
             obtain ⟨s1,s2⟩:=ap6 (pre:=u++(x,A1) :: (m++(y,A2) :: pre)) (post:=post) ho hsz (by rw [← hilx]; exact hl) (by rw [← hilx]; exact hs) hcl hready
             have hsub:=hsubl.subset
             refine asm hΓ hC I T ho J (fun w M ι θ a I T=>?_)
             refine ih u m (pre++post) (listed.setIfInBounds i true) _ w M ι θ a (by simp at hn ⊢; omega) (by simp [hsz]) (fun p hp=>hm p (hsub hp)) ?_ (hp.sublist hsubl) (hs.sublist hsubl) (fun q hq=>he q (hsub hq)) hmid s2 (lo' e rfl) I T ?_ ?_
             · have:u++(x,A1) :: (m++(y,A2) :: (pre++post))=u++(x,A1) :: (m++(y,A2) :: pre)++post:=by simp
               rw [this]; exact s1
             · rw [← g1]; simp
             · rw [← g2]; simp
theorem EnvOk.still (h:EnvOk P Γ):EnvOk P Γ.still:=⟨h.ty,h.eq,h.one,h.isp,h.mixed,h.off,h.ar,h.mt⟩
theorem EnvOk.drawn (h:EnvOk P Γ) (rr:Bool) (le lo:List Nat):EnvOk P (Γ.drawn rr le lo):=⟨h.ty,h.eq,h.one,h.isp,h.mixed,h.off,h.ar,h.mt⟩
theorem Inv.drawn (I:Inv w0 M0 X s w M ι θ) (n:Nat):Inv w0 M0 X s { w with drawn:=n } M ι θ :=
 I.step rfl rfl rfl (Nat.le_refl _) (Shp.refl _) (Mem.le_refl _) I.mem (fun _ h=>h) (Nat.le_refl _) I.tokc (fun _ _ _=>⟨rfl,fun _=>rfl⟩)
theorem TInv.drawn (T:TInv s w M ι θ a) (I:Inv w0 M0 X s w M ι θ) (n:Nat):TInv s { w with drawn:=n } M ι θ a :=
 T.step I (Shp.refl _) (Mem.le_refl _) (fun _ h=>h) (Nat.le_refl _) (fun _ _ _=>⟨rfl,fun _=>rfl⟩)
theorem ap1 (hΓ:EnvOk P Γ) (hC:ait P Γ E) (hE:agd E) (I:Inv w0 M0 X s w M ι θ) (T:TInv s w M ι θ a) {id:Nat} {draw:Bool}
 (G:∀ s w M ι θ a,K s=some r→Inv w0 M0 X s w M ι θ→TInv s w M ι θ a→Q .normal a w) (hok:draw=true→apR Γ dr ops [] 0 ops.toList=true) (hrw:draw=true→Γ.rw=false) (hlo:draw=true→∀ i,Γ.lo i=true→i < s.S.length)
 (h:opsK Γ E dr ops.toList ops.toList s K=some r):(Code.region id ops draw).wpIn (FR ro) 0 P Q a w:=by
 have hm:∀ p∈num 0 ops.toList,ops[p.1]?=some p.2:=fun p hp=>by
  have:=(aza 0 ops.toList p hp).2
  rw [Nat.sub_zero,Array.getElem?_toList] at this
  exact this
 cases draw with
 | false =>
   refine wpIn_region ?_
   have:=aEa (ro:=ro) (ops:=ops) (Q:=Q) hΓ hC G (num 0 ops.toList) s w M ι θ a hm I T (by rw [akZ]; exact h)
   rw [aGs] at this
   rw [List.range_eq_range']
   simpa using this
 | true =>
   obtain ⟨k1,_,k3⟩:=aze ops.toList [] 0 (fun p hp=>by cases hp) (fun k o hk=>by rw [Nat.zero_add]; simpa using hk) (hok rfl)
   refine wpIn_region_any hΓ.mixed ?_
   refine aC6 (dr:=dr) hΓ hC hE (hrw rfl) G ops.size (num 0 ops.toList) _ s _ M ι θ a ?_ (by simp) hm ?_ k1 (asD 0 _) k3 (fun i o hi hl=>?_) (hlo rfl) (I.drawn _) (T.drawn I _) (by rw [akZ]; exact h)
   · have:=congrArg List.length (akZ 0 ops.toList)
     simpa using this
   · intro i
     constructor
     · intro hi
       have hlt:i < ops.size:=by
        rcases Nat.lt_or_ge i ops.size with h | h
        · exact h
        · simp [Nat.not_lt.2 h] at hi
       refine ⟨ops[i],?_⟩
       have:=aDs ops.toList (k:=i) (o:=ops[i]) (by simp [hlt]) 0
       rwa [Nat.zero_add] at this
     · rintro ⟨o,ho⟩
       have:=(Array.getElem?_eq_some_iff.1 (hm _ ho)).1
       simp [this]
   · have:=(Array.getElem?_eq_some_iff.1 hi).1
     simp [this] at hl
theorem aFg (hΓ:EnvOk P Γ) (hC:ait P Γ E) (hE:agd E) (I:Inv w0 M0 X s w M ι θ) (T:TInv s w M ι θ a) {id:Nat} {draw:Bool}
 (G:∀ s w M ι θ a,K s=some r→Inv w0 M0 X s w M ι θ→TInv s w M ι θ a→Q .normal a w)
 (h:regK Γ E ops draw s K=some r):(Code.region id ops draw).wpIn (FR ro) 0 P Q a w:=by
 unfold regK at h
 cases draw with
 | false=>exact ap1 hΓ hC hE I T G (fun h=>by cases h) (fun h=>by cases h) (fun h=>by cases h) h
 | true =>
   simp only [cond_true] at h
   cases h1:apR Γ.still false ops [] 0 ops.toList with
   | true=>rw [h1] at h; exact ap1 hΓ.still hC hE I T G (fun _=>h1) (fun _=>rfl) (fun _ i hi=>by cases hi) h
   | false =>
     rw [h1] at h
     cases h2:apR Γ.still true ops [] 0 ops.toList with
     | true=>rw [h2] at h; exact ap1 hΓ.still hC hE I T G (fun _=>h2) (fun _=>rfl) (fun _ i hi=>by cases hi) h
     | false=>rw [h2] at h; cases h
theorem aIS {α:Type} {x y:Nat} (hxy:x < y) {l:List α} (hy:y < l.length):∃ u a m b v,l=u++a :: (m++b :: v)∧u.length=x∧m.length=y - (x+1)∧m=(l.take y).drop (x+1)∧mvAt x y l=u++b :: a :: (m++v)∧l[y]?=some b:=by
 have e1:l.take x++l.drop x=l:=List.take_append_drop x l
 have hx:x < l.length:=by omega
 have e2:l.drop x=l[x] :: l.drop (x+1):=List.drop_eq_getElem_cons hx
 have e3:l.drop y=l[y] :: l.drop (y+1):=List.drop_eq_getElem_cons hy
 have e4:l.drop (x+1)=(l.take y).drop (x+1)++l.drop y:=by
  have h:=List.take_append_drop y l
  have h2:(l.take y++l.drop y).drop (x+1)=(l.take y).drop (x+1)++l.drop y:=by
   rw [List.drop_append,List.length_take,show x+1 - min y l.length=0 by omega]; rfl
  rw [h] at h2; exact h2
 refine ⟨l.take x,l[x],(l.take y).drop (x+1),l[y],l.drop (y+1),?_,by rw [List.length_take]; omega,by rw [List.length_drop,List.length_take]; omega,rfl,?_,List.getElem?_eq_getElem hy⟩
 · rw [← e3,← e4,← e2,e1]
 · unfold mvAt
   have e5:(l.take y).drop x=l[x] :: (l.take y).drop (x+1):=by
    rw [List.drop_eq_getElem_cons (by rw [List.length_take]; omega)]
    simp
   have e6:(l.drop y).take 1=[l[y]]:=by rw [e3]; rfl
   rw [e6,e5]
   simp
theorem awT : ∀ (i:Nat) (l m:List Oper),num i (l++m)=num i l++num (i+l.length) m
 | i,[],m=>by simp [num]
 | i,o :: l,m=>by simp [num,awT (i+1) l m]; congr 1; omega
theorem aDw (hΓ:EnvOk P Γ) (hC:ait P Γ E) (hE:agd E) (I:Inv w0 M0 X s w M ι θ) (T:TInv s w M ι θ a) {id x y:Nat}
 (G:∀ s w M ι θ a,K s=some r→Inv w0 M0 X s w M ι θ→TInv s w M ι θ a→Q .normal a w) (hok:awV Γ dr ops x y [] 0 ops.toList=true) (hxy:x < y) (hmid:aGl Γ dr ops x y=true) (hrw:Γ.rw=false) (hlo:∀ i,Γ.lo i=true→i < s.S.length)
 (h1:opsK Γ E dr ops.toList ops.toList s K=some r) (h2:opsK Γ E dr ops.toList (mvAt x y ops.toList) s K=some r):(Code.region id ops true).wpIn (FR ro) 0 P Q a w:=by
 have hm:∀ p∈num 0 ops.toList,ops[p.1]?=some p.2:=fun p hp=>by
  have:=(aza 0 ops.toList p hp).2
  rw [Nat.sub_zero,Array.getElem?_toList] at this
  exact this
 obtain ⟨k1,_,k3⟩:=axE ops.toList [] 0 (fun p hp=>by cases hp) (fun k o hk=>by rw [Nat.zero_add]; simpa using hk) hok
 have hl:∀ i,(Array.replicate ops.size false).getD i true=false↔∃ o,(i,o)∈num 0 ops.toList:=by
  intro i
  constructor
  · intro hi
    have hlt:i < ops.size:=by
        rcases Nat.lt_or_ge i ops.size with h | h
        · exact h
        · simp [Nat.not_lt.2 h] at hi
    refine ⟨ops[i],?_⟩
    have:=aDs ops.toList (k:=i) (o:=ops[i]) (by simp [hlt]) 0
    rwa [Nat.zero_add] at this
  · rintro ⟨o,ho⟩
    have:=(Array.getElem?_eq_some_iff.1 (hm _ ho)).1
    simp [this]
 have hcl:∀ (i:Nat) o,ops[i]?=some o→(Array.replicate ops.size false).getD i true=true→∀ e∈o.after,Region.binds .any e=true→(Array.replicate ops.size false).getD e.on true=true:=fun i o hi hl=>by
  have:=(Array.getElem?_eq_some_iff.1 hi).1
  simp [this] at hl
 have hlen:(num 0 ops.toList).length=ops.size:=by
  have:=congrArg List.length (akZ 0 ops.toList)
  simpa using this
 refine wpIn_region_any hΓ.mixed ?_
 have hyl:y < ops.toList.length:=by
  unfold aGl at hmid
  split at hmid
  · rename_i o ho
    have:=(Array.getElem?_eq_some_iff.1 ho).1
    simpa using this
  · cases hmid
 obtain ⟨u,A1,m,A2,v,e1,e2,e3,e4,e5,e6⟩:=aIS hxy hyl
 have hmid2:∀ q∈m,comm Γ dr ops A2 q=true:=by
  unfold aGl at hmid
  rw [Array.getElem?_toList] at e6
  rw [e6] at hmid
  rw [e4]
  exact List.all_eq_true.1 hmid
 have hn:num 0 ops.toList=num 0 u++(x,A1) :: (num (x+1) m++(y,A2) :: num (y+1) v):=by
  rw [e1,awT]
  simp only [num,awT,Nat.zero_add,e2,e3,show x+1+(y - (x+1))=y by omega]
 rw [hn] at hm hl k1 k3 hlen
 have hs:=asD 0 ops.toList
 rw [hn] at hs
 refine aHf (dr:=dr) hΓ hC hE hrw G hxy ops.size (num 0 u) (num (x+1) m) (num (y+1) v) _ s _ M ι θ a hlen (by simp) hm hl k1 hs k3 (fun q hq=>?_) hcl hlo (I.drawn _) (T.drawn I _) ?_ ?_
 · refine hmid2 q.2 ?_
   have:=List.mem_map_of_mem (f:=Prod.snd) hq
   rwa [akZ] at this
 · rw [akZ,akZ,akZ,← e1]; exact h1
 · rw [akZ,akZ,akZ,← e5]; exact h2
def RelB (Γ:Env) (dr:Bool) (ops:Array Oper) (bs:List Nat) (p q:Nat×Oper):Prop:=Anc ops p.1 q.1∨aE8 Γ dr ops bs p q=true
theorem axD {bs:List Nat}:∀ (l:List Oper) (prev:List (Nat×Oper×Nat)) (i:Nat),(∀ p∈prev,∀ x,bit p.2.2 x=true→Anc ops x p.1)→(∀ (k:Nat) o,l[k]?=some o→ops[i+k]?=some o)→awU Γ dr ops bs prev i l=true →
 (num i l).Pairwise (RelB Γ dr ops bs)∧(∀ p∈prev,∀ q∈num i l,RelB Γ dr ops bs (p.1,p.2.1) q)∧∀ q∈num i l,∀ e∈q.2.after,Region.binds .any e=true→e.on < q.1
 | [],prev,i,_,_,_=>⟨.nil,fun _ _ q hq=>by simp [num] at hq,fun q hq=>by simp [num] at hq⟩
 | o :: r,prev,i,hp,hops,h=>by
   simp only [awU,Bool.and_eq_true] at h
   obtain ⟨h1,h2,h3⟩:=h
   have ho:ops[i]?=some o:=by have:=hops 0 o rfl; simpa using this
   have hp':∀ p∈(i,o,azQ prev o) :: prev,∀ x,bit p.2.2 x=true→Anc ops x p.1:=fun p hpm x hx=>by
     rcases List.mem_cons.1 hpm with rfl | hpm
     · exact ass hp ho hx
     · exact hp p hpm x hx
   obtain ⟨k1,k2,k3⟩:=axD r _ _ hp' (fun k o' hk=>by
     have:=hops (k+1) o' (by simpa using hk)
     rwa [show i+(k+1)=i+1+k by omega] at this) h3
   refine ⟨.cons (fun q hq=>k2 (i,o,azQ prev o) (List.mem_cons_self ..) q hq) k1,fun p hpm q hq=>?_,fun q hq e he hb=>?_⟩
   · rcases List.mem_cons.1 hq with rfl | hq
     · have:=List.all_eq_true.1 h1 p hpm
       rw [Bool.or_eq_true] at this
       rcases this with this | this
       · exact .inl (ass hp ho this)
       · exact .inr this
     · exact k2 p (List.mem_cons_of_mem _ hpm) q hq
   · rcases List.mem_cons.1 hq with rfl | hq
     · have:=List.all_eq_true.1 h2 e (Array.mem_toList_iff.2 he)
       simp only [Bool.or_eq_true,Bool.not_eq_true',hb,Bool.true_eq_false,false_or] at this
       simpa using this
     · exact k3 q hq e he hb
theorem aHe {bs le lo:List Nat} {rr:Bool} (hΓ:EnvOk P Γ) (hC:ait P Γ.bar E) (hC2:ait P (Γ.drawn rr le lo) E) (hE:agd E) (G:∀ s w M ι θ a,K s=some r→Inv w0 M0 X s w M ι θ→TInv s w M ι θ a→Q .normal a w):∀ (n:Nat) (il:List (Nat×Oper)) (listed:Array Bool) s w M ι θ a,
 il.length=n→listed.size=ops.size→(∀ p∈il,ops[p.1]?=some p.2)→(∀ i,listed.getD i true=false↔∃ o,(i,o)∈il)→il.Pairwise (RelB (Γ.drawn rr le lo) dr ops bs)→il.Pairwise (fun p q=>p.1 < q.1) →
 (∀ q∈il,∀ e∈q.2.after,Region.binds .any e=true→e.on < q.1) →
 (∀ (i:Nat) o,ops[i]?=some o→listed.getD i true=true→∀ e∈o.after,Region.binds .any e=true→listed.getD e.on true=true)→loOk lo s=true→Inv w0 M0 X s w M ι θ→TInv s w M ι θ a→opsB Γ E bs le lo rr dr ops.toList il s K=some r→wpAnyIn (FR ro) 0 P .any ops Q n listed a w:=by
 intro n
 induction n with
 | zero =>
   intro il listed s w M ι θ a hn hsz hm hl _ _ _ _ _ I T h
   have:il=[]:=List.eq_nil_of_length_eq_zero hn
   subst this
   refine ⟨?_,G _ _ _ _ _ _ h I T⟩
   cases hr:Region.ready .any ops listed with
   | nil=>rfl
   | cons j js =>
     have:j∈Region.ready .any ops listed:=by rw [hr]; exact List.mem_cons_self ..
     obtain ⟨o,ho⟩:=(hl j).1 (mem_ready.1 this).1
     simp at ho
 | succ n ih =>
   intro il listed s w M ι θ a hn hsz hm hl hp hs he hcl hlo I T h
   have hlt:∀ p∈il,p.1 < ops.size:=fun p hp=>(Array.getElem?_eq_some_iff.1 (hm p hp)).1
   refine ⟨fun h0=>?_,fun i hi=>?_⟩
   · cases il with
     | nil=>simp at hn
     | cons p il =>
       exfalso
       have:p.1∈Region.ready .any ops listed:=by
        refine mem_ready.2 ⟨(hl p.1).2 ⟨p.2,List.mem_cons_self ..⟩,p.2,hm p (List.mem_cons_self ..),fun e hem hb=>?_⟩
        have h1:=he p (List.mem_cons_self ..) e hem hb
        have h2:=hlt p (List.mem_cons_self ..)
        have h3:e.on < listed.size:=by omega
        cases hc:listed.getD e.on true with
        | true=>simpa [h3] using hc
        | false =>
          obtain ⟨o,ho⟩:=(hl e.on).1 hc
          rcases List.mem_cons.1 ho with ho | ho
          · rw [← ho] at h1; exact absurd h1 (Nat.lt_irrefl _)
          · have:=List.rel_of_pairwise_cons hs ho
            simp at this; omega
       rw [h0] at this; cases this
   · obtain ⟨hun,o,ho,hall⟩:=mem_ready.1 hi
     obtain ⟨o',ho'⟩:=(hl i).1 hun
     have hoo:=hm _ ho'
     have:o'=o:=by rw [ho] at hoo; exact (Option.some.inj hoo).symm
     subst this
     obtain ⟨pre,post,rfl⟩:=List.append_of_mem ho'
     have hready:∀ e∈o'.after,Region.binds .any e=true→listed.getD e.on true=true:=fun e he hb=>by
        have h1:=hall e he hb
        have h3:e.on < listed.size∨¬ e.on < listed.size:=Nat.lt_or_ge _ _ |>.imp id Nat.not_lt.2
        rcases h3 with h3 | h3
        · simpa [h3] using h1
        · simp [h3]
     have hcomm:∀ q∈pre,aE8 (Γ.drawn rr le lo) dr ops bs q (i,o')=true:=by
        intro q hq
        have hrel:=(List.pairwise_append.1 hp).2.2 q hq (i,o') (List.mem_cons_self ..)
        rcases hrel with hrel | hrel
        · exfalso
          have h1:=ayi hcl ho hready hrel
          have h2:=(hl q.1).2 ⟨q.2,List.mem_append_left _ hq⟩
          rw [h1] at h2; cases h2
        · exact hrel
     have h2:=aIm hE pre s hlo hcomm h
     have hp':(pre++post).Pairwise (RelB (Γ.drawn rr le lo) dr ops bs):=hp.sublist (List.Sublist.append_left (List.sublist_cons_self ..) _)
     have hs':(pre++post).Pairwise (fun p q=>p.1 < q.1):=hs.sublist (List.Sublist.append_left (List.sublist_cons_self ..) _)
     have hsub:∀ p,p∈pre++post→p∈pre++(i,o') :: post:=fun p hp=>by
        rcases List.mem_append.1 hp with hp | hp
        · exact List.mem_append_left _ hp
        · exact List.mem_append_right _ (List.mem_cons_of_mem _ hp)
     obtain ⟨hl',hcl'⟩:=ap6 (ops:=ops) ho hsz hl hs hcl hready
     obtain ⟨s',g1,g2,g3⟩:=aEN hE hlo h2
     classical
     have h3:stpB Γ E bs le lo rr dr ops.toList (i,o') s (fun s2=>if s2=s' then opsB Γ E bs le lo rr dr ops.toList (pre++post) s2 K else none)=some r:=by
        rw [g3,if_pos rfl]; exact g2
     have go:∀ s2 w M ι θ a,(if s2=s' then opsB Γ E bs le lo rr dr ops.toList (pre++post) s2 K else none)=some r→Inv w0 M0 X s2 w M ι θ→TInv s2 w M ι θ a→wpAnyIn (FR ro) 0 P .any ops Q n (listed.setIfInBounds i true) a w:=by
        intro s2 w M ι θ a hk I T
        split at hk
        · rename_i e2
          subst e2
          exact ih (pre++post) (listed.setIfInBounds i true) s2 w M ι θ a (by simp at hn ⊢; omega) (by simp [hsz]) (fun p hp=>hm p (hsub p hp)) hl' hp' hs' (fun q hq=>he q (hsub q hq)) hcl' g1 I T hk
        · cases hk
     have:if Region.wanted o' (yielded ops a.tmps) then o'.wpIn (FR ro) 0 P a w (wpAnyIn (FR ro) 0 P .any ops Q n (listed.setIfInBounds i true)) Q else wpAnyIn (FR ro) 0 P .any ops Q n (listed.setIfInBounds i true) (a.put o'.dst Go.undef) w:=by
        unfold stpB at h3
        cases hb:aAX bs i with
        | true =>
          simp only [hb,cond_true] at h3
          exact asj (ro:=ro) (Q:=Q) (N:=wpAnyIn (FR ro) 0 P .any ops Q n (listed.setIfInBounds i true)) (hΓ.drawn true [] []) hC I T (fun s2 w M ι θ a hk I T=>go s2 w M ι θ a (aaf hk).2 I T) h3
        | false =>
          simp only [hb,cond_false] at h3
          exact asj (ro:=ro) (Q:=Q) (N:=wpAnyIn (FR ro) 0 P .any ops Q n (listed.setIfInBounds i true)) (hΓ.drawn rr le lo) hC2 I T go h3
     simp only [wpOpIn,ho]
     split
     · rename_i hw; rw [if_pos hw] at this; exact this
     · rename_i hw; rw [if_neg hw] at this; exact ⟨fun _ _=>trivial,this⟩
theorem aDv {bs le lo:List Nat} {rr:Bool} (hΓ:EnvOk P Γ) (hC:ait P Γ.bar E) (hC2:ait P (Γ.drawn rr le lo) E) (hE:agd E) (I:Inv w0 M0 X s w M ι θ) (T:TInv s w M ι θ a) {id:Nat}
 (G:∀ s w M ι θ a,K s=some r→Inv w0 M0 X s w M ι θ→TInv s w M ι θ a→Q .normal a w) (hok:awU (Γ.drawn rr le lo) dr ops bs [] 0 ops.toList=true) (hlo:loOk lo s=true)
 (h:opsB Γ E bs le lo rr dr ops.toList (num 0 ops.toList) s K=some r):(Code.region id ops true).wpIn (FR ro) 0 P Q a w:=by
 have hm:∀ p∈num 0 ops.toList,ops[p.1]?=some p.2:=fun p hp=>by
  have:=(aza 0 ops.toList p hp).2
  rw [Nat.sub_zero,Array.getElem?_toList] at this
  exact this
 obtain ⟨k1,_,k3⟩:=axD ops.toList [] 0 (fun p hp=>by cases hp) (fun k o hk=>by rw [Nat.zero_add]; simpa using hk) hok
 refine wpIn_region_any hΓ.mixed ?_
 refine aHe (dr:=dr) hΓ hC hC2 hE G ops.size (num 0 ops.toList) _ s _ M ι θ a ?_ (by simp) hm ?_ k1 (asD 0 _) k3 (fun i o hi hl=>?_) hlo (I.drawn _) (T.drawn I _) h
 · have:=congrArg List.length (akZ 0 ops.toList)
   simpa using this
 · intro i
   constructor
   · intro hi
     have hlt:i < ops.size:=by
        rcases Nat.lt_or_ge i ops.size with h | h
        · exact h
        · simp [Nat.not_lt.2 h] at hi
     refine ⟨ops[i],?_⟩
     have:=aDs ops.toList (k:=i) (o:=ops[i]) (by simp [hlt]) 0
     rwa [Nat.zero_add] at this
   · rintro ⟨o,ho⟩
     have:=(Array.getElem?_eq_some_iff.1 (hm _ ho)).1
     simp [this]
 · have:=(Array.getElem?_eq_some_iff.1 hi).1
   simp [this] at hl
theorem aEy (hΓ:EnvOk P Γ) (hC:ait P Γ E) (hE:agd E) (I:Inv w0 M0 X s w M ι θ) (T:TInv s w M ι θ a) {id:Nat} {draw:Bool} {hh:Hint}
 (G:∀ s w M ι θ a,K s=some r→Inv w0 M0 X s w M ι θ→TInv s w M ι θ a→Q .normal a w)
 (h:regH Γ E hh ops draw s K=some r):(Code.region id ops draw).wpIn (FR ro) 0 P Q a w:=by
 unfold regH at h
 split at h
 · rename_i le lo rr dr
   obtain ⟨hd,h⟩:=aaf h
   subst hd
   unfold drwK at h
   cases h1:(apR (Γ.drawn rr le lo) dr ops [] 0 ops.toList&&lo.all (fun i=>Nat.blt i s.S.length)) with
   | false=>rw [h1] at h; cases h
   | true =>
     rw [h1] at h
     rw [Bool.and_eq_true] at h1
     refine ap1 (hΓ.drawn rr le lo) hC hE I T G (fun _=>h1.1) (fun _=>rfl) (fun _ i hi=>?_) h
     have hi:lo.any (Nat.beq i)=true:=hi
     obtain ⟨j,hj,hij⟩:=List.any_eq_true.1 hi
     rw [Nat.beq_eq] at hij
     subst hij
     simpa using List.all_eq_true.1 h1.2 i hj
 · rename_i x y le lo rr dr
   obtain ⟨hd,h⟩:=aaf h
   subst hd
   unfold drwY at h
   cases h1:((awV (Γ.drawn rr le lo) dr ops x y [] 0 ops.toList&&(Nat.blt x y&&aGl (Γ.drawn rr le lo) dr ops x y))&&lo.all (fun i=>Nat.blt i s.S.length)) with
   | false=>rw [h1] at h; cases h
   | true =>
     rw [h1] at h
     rw [Bool.and_eq_true,Bool.and_eq_true,Bool.and_eq_true] at h1
     obtain ⟨g1,g2⟩:=asn h
     refine aDw (hΓ.drawn rr le lo) hC hE I T G h1.1.1 (by simpa using h1.1.2.1) h1.1.2.2 rfl (fun i hi=>?_) g1 g2
     have hi:lo.any (Nat.beq i)=true:=hi
     obtain ⟨j,hj,hij⟩:=List.any_eq_true.1 hi
     rw [Nat.beq_eq] at hij
     subst hij
     simpa using List.all_eq_true.1 h1.2 i hj
 · rename_i bs le lo rr dr
   obtain ⟨hd,h⟩:=aaf h
   subst hd
   unfold drwB at h
   cases h1:(awU (Γ.drawn rr le lo) dr ops bs [] 0 ops.toList&&loOk lo s) with
   | false=>rw [h1] at h; cases h
   | true =>
     rw [h1] at h
     rw [Bool.and_eq_true] at h1
     exact aDv hΓ hC hC hE I T G h1.1 h1.2 h
 · exact aFg hΓ hC hE I T G h
end
end Go.Proofs.Ytgmeimbamfggkaa.Den
