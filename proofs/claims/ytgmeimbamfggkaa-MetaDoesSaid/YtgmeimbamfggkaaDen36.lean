import Derived.Test.YtgmeimbamfggkaaDen35
namespace Go.Proofs.Ytgmeimbamfggkaa.Den
open Go
def aGx : List Tmp→List TV→St→St
 | p :: ps,u :: us,s=>aGx ps us (s.put (some p) u)
 | _,_,s=>s
def aIN (i:Nat) (s:St):Option St:=match (s.S[i]?:Option Obj) with
 | some (.blk (.lp q .rdy) :: cs)=>some { s with S:=s.S.set i (.blk (.lp q .busy) :: cs) }
 | _=>none
def endS (i:Nat) (j:LS) (s:St):Option St:=match (s.S[i]?:Option Obj) with
 | some (.blk (.lp q .busy) :: cs)=>some { s with S:=s.S.set i (.blk (.lp q j) :: cs) }
 | _=>none
def lsOf : Exit→Option LS
 | .normal=>some .rdy
 | .ret=>some (.done .ret)
 | .exit n=>some (.done (.exit n))
 | _=>none
def rndE (i toks:Nat) (W:List Norm) {ρ:Type} (K:TV→List Obj→Option ρ):Exit→St→Option ρ:=fun e s =>
 match lsOf e with
 | some j=>(endS i j s).bind fun s=>match ay9 W s with
   | some s=>must (Nat.ble s.c toks) (K (.bool j.pd.isNone) (s.S.map (tidy.go s.O)))
   | none=>none
 | none=>none
noncomputable def rndB (Γ:Env) (E:Table) (k:Nat) (h:Hint) (i:Nat) (body:Code) (toks:Nat) (W:List Norm) {ρ:Type} (K:TV→List Obj→Option ρ):Exit→St→Option ρ:=fun e s =>
 match e with
 | .normal=>(aIN i s).bind fun s=>exec Γ E k h body s (rndE i toks W K)
 | _=>none
noncomputable def rndK (Γ:Env) (E:Table) (k:Nat) (h1 h2:Hint) (toks:Nat) (W:List Norm) (qs:List Nat) {ρ:Type} (as:List TV) (os:List Obj) (K:TV→List Obj→Option ρ):Option ρ :=
 match as.getLast? with
 | some (.ref .yl i)=>match (os[i]?:Option Obj) with
   | some (.blk (.lp q .rdy) :: caps)=>must (noRF q.assign&&noRF q.body&&Nat.beq as.length (q.ps.size+1))
    (exec Γ E k h1 q.assign (aGx q.ps.toList as { mkS caps.length os.length (nums 0 caps) qs.length qs os with }) (rndB Γ E k h2 i q.body toks W K))
   | _=>none
 | _=>none
section
variable {w0 : World} {M0:Mem} {X:Fr} {s:St} {w:World} {M:Mem} {ι:Nat→Nat} {θ:Nat→Option Nat} {a:Act} {Γ:Env} {P:Program}
theorem aEv : ∀ (ps:List Tmp) (us:List TV) (U:List Value) {s:St} {a:Act},Inv w0 M0 X s w M ι θ→TInv s w M ι θ a→(∃ us2 U2,rvs M ι (us++us2) (U++U2)∧tcs w M θ s.O s.c (us++us2) (U++U2)∧abE w s.S (us++us2) (U++U2))→us.length=U.length→ps.length≤us.length →
 Inv w0 M0 X (aGx ps us s) w M ι θ∧TInv (aGx ps us s) w M ι θ { a with tmps:=(ps.zip U).foldl (fun t x=>t.setIfInBounds x.1 x.2) a.tmps }
 | [],us,U,s,a,I,T,_,_,_=>by
   have e:aGx [] us s=s:=by cases us <;> rfl
   rw [e]
   exact ⟨I,T⟩
 | p :: ps,[],U,s,a,I,T,_,_,h=>by simp at h
 | p :: ps,u :: us,[],s,a,I,T,_,h,_=>by simp at h
 | p :: ps,u :: us,v :: U,s,a,I,T,⟨us2,U2,h1,h2,h3⟩,h4,h5=>by
   obtain ⟨v',r,e,k1,k2⟩:=h1
   have e:v=v'∧U++U2=r:=by simpa using e
   obtain ⟨rfl,rfl⟩:=e
   obtain ⟨p1,p2,p3⟩:=azh (s:=s) (d:=some p) (v:=u)
   exact aEv ps us U (I.put (some p) u) (T.put (some p) k1 h2.1 h3.1) ⟨us2,U2,k2,by rw [p2,p3]; exact h2.2,by rw [p1]; exact h3.2⟩ (by simpa using h4) (by simpa using h5)
theorem aCN : ∀ {l l2:List TV} {V:List Value},rvs M ι (l++l2) V→∃ v v2,V=v++v2∧rvs M ι l v∧rvs M ι l2 v2
 | [],l2,V,h=>⟨[],V,rfl,rfl,h⟩
 | x :: l,l2,V,h=>by
   obtain ⟨v,r,rfl,k1,k2⟩:=h
   obtain ⟨v1,v2,rfl,q1,q2⟩:=aCN k2
   exact ⟨v :: v1,v2,rfl,⟨v,v1,rfl,k1,q1⟩,q2⟩
theorem aGK : ∀ {l:List TV} {V:List Value},rvs M ι l V→l.length=V.length
 | [],V,h=>by rw [show V=[] from h]; rfl
 | x :: l,V,h=>by
   obtain ⟨v,r,rfl,_,k2⟩:=h
   simp [aGK k2]
theorem aEV {α β:Type}:∀ (p:List α) (u v:List β),p.length≤u.length→p.zip (u++v)=p.zip u
 | [],_,_,_=>rfl
 | _ :: _,[],_,h=>by simp at h
 | x :: p,y :: u,v,h=>by
   have:=aEV p u v (by simpa using h)
   simp [this]
theorem aEJ (I:Inv w0 M0 X s w M ι θ) (T:TInv s w M ι θ a) {i:Nat} {q:RI} {j j':LS} {cs:List TV} (hs:s.S[i]?=some (.blk (.lp q j) :: cs)) :
 ∃ L:Loop,w.heap[ι i]?=some (.loop L)∧L.state=j.st∧L.pending=j.pd∧∀ L':Loop,L'.state=j'.st→L'.pending=j'.pd→L'.params=L.params→L'.assign=L.assign→L'.body=L.body→L'.tmps=L.tmps →
   Inv w0 M0 X { s with S:=s.S.set i (.blk (.lp q j') :: cs) } (w.putObj (ι i) (.loop L')) M ι θ∧TInv { s with S:=s.S.set i (.blk (.lp q j') :: cs) } (w.putObj (ι i) (.loop L')) M ι θ a:=by
 have hh:∀ (j:LS),hol (.blk (.lp q j) :: cs)=false:=fun j=>by cases cs <;> rfl
 obtain ⟨⟨h0,o1⟩,_⟩:=I.obj i _ hs (hh j)
 rw [au1] at o1
 obtain ⟨L,k1,k2,k3,k4,k5,k6,k7,k8⟩:=o1
 refine ⟨L,k1,k2,k3,fun L' e1 e2 e3 e4 e5 e6=>?_⟩
 have hlt:=(Array.getElem?_eq_some_iff.1 k1).1
 have hold:∀ b,b≠ι i→(w.putObj (ι i) (.loop L')).heap[b]?=w.heap[b]?:=fun b hb=>World.putObj_heap_other hb
 have hsh:Shp w (w.putObj (ι i) (.loop L')):=by
  intro b c e f hb
  by_cases hbg:b=ι i
  · subst hbg; rw [k1] at hb; cases hb
  · exact ⟨c,e,f,(World.putObj_heap_other hbg).trans hb,rfl⟩
 have he:evo (.blk (.lp q j) :: cs) (.blk (.lp q j') :: cs):=⟨fun t l e=>(by injection e with e; injection e with e; cases e),fun h=>by rw [hh j] at h; cases h⟩
 refine ⟨I.setObj hs (hh j) rfl rfl rfl World.putObj_size hold hsh he fun _=>⟨h0,?_⟩,T.setObj I hs (hh j) hold hsh he⟩
 rw [au1]
 refine ⟨L',World.putObj_heap_same hlt,e1,e2,e3.trans k4,e4.trans k5,e5.trans k6,by rw [e6]; exact k7,fun t x hx=>?_⟩
 obtain ⟨v,q1,q2,q3,q4⟩:=k8 t x hx
 refine ⟨v,by rw [e6]; exact q1,q2,amb (fun _ h=>h) (Nat.le_refl _) (fun p g hp hg=>⟨hold g (fun e=>(I.tok p g hp hg).2.2 i _ hs (hh j) e.symm),fun _=>rfl⟩) x v q3,abK hsh (Ext.set hs he) x v q4⟩
theorem aGP (I:Inv w0 M0 X s w M ι θ) {i:Nat} {q:RI} {j:LS} {cs:List TV} (hs:s.S[i]?=some (.blk (.lp q j) :: cs)) :
 ∃ L:Loop,w.heap[ι i]?=some (.loop L)∧L.state=j.st∧L.pending=j.pd∧L.params=q.ps∧L.assign=q.assign∧L.body=q.body∧cs.length=L.tmps.size ∧
   ∀ (t:Nat) x,cs[t]?=some x→∃ v,L.tmps[t]?=some v∧rv M ι x v∧tc w M θ s.O s.c x v∧aaI w s.S x v:=by
 obtain ⟨⟨h0,o1⟩,_⟩:=I.obj i _ hs (by cases cs <;> rfl)
 rw [au1] at o1
 obtain ⟨L,k1,k2,k3,k4,k5,k6,k7,k8⟩:=o1
 exact ⟨L,k1,k2,k3,k4,k5,k6,by simpa using k7,fun t x hx=>k8 t x (by simpa using hx)⟩
theorem aJ_ {E:Table} (hΓ:EnvOk P Γ) (hE:TabOk P E) {g:FuncId} (hg:YB≤g) {sp:Spec}
 (hnat:∀ as os,∃ out:Option (TV×List Obj),∀ (ρ:Type) (K:TV→List Obj→Option ρ),sp.run as os K=out.bind fun p=>K p.1 p.2)
 (hrun:∀ as os v S,sp.run as os (fun v S=>some (v,S))=some (v,S)→∃ (k:Nat) (h1 h2:Hint) (W:List Norm) (ρ:Type) (r:ρ) (D:TV→List Obj→Option ρ),
  rndK Γ E k h1 h2 sp.toks W sp.qs as os D=some r∧∀ v' S',D v' S'=some r→v'=v∧S'=S):SpecOk P g sp:=by
 refine ⟨hnat,fun as os v S h w M X ι θ V I hV hT hW=>.inr ⟨hg,?_⟩⟩
 obtain ⟨k,h1,h2,W,ρ,r,D,h,hD⟩:=hrun as os v S h
 unfold rndK at h
 split at h
 case h_2=>cases h
 rename_i i hl
 split at h
 case h_2=>cases h
 rename_i q caps hs
 obtain ⟨hb,h⟩:=aaf h
 rw [Bool.and_eq_true,Bool.and_eq_true,Nat.beq_eq] at hb
 obtain ⟨⟨n1,n2⟩,hlen⟩:=hb
 obtain ⟨us,rfl⟩:=List.getLast?_eq_some_iff.1 hl
 have hlen:us.length=q.ps.size:=by simpa using hlen
 obtain ⟨U,V2,rfl,hU,y,_,rfl,hy,rfl⟩:=aCN hV
 have hy:y=.func (.yield (ι i)) #[] #[]:=hy
 subst hy
 have il:i < os.length:=(List.getElem?_eq_some_iff.1 hs).1
 obtain ⟨L,k1,k2,k3,k4,k5,k6,k7,k8⟩:=aGP I hs
 have hUl:=aGK hU
 refine ⟨ι i,U.toArray,L,by apply Array.ext'; simp,k1,by rw [k4]; simp; omega,?_⟩
 rw [k5,k6,k4]
 have I':Inv w M X (mkS caps.length os.length (nums 0 caps) sp.qs.length sp.qs os) w M ι θ:=⟨I.os,I.tape,I.output,I.size,I.memle,I.mem,I.keep,I.obj,I.inj,I.tok,I.tokc,I.one,I.base,I.shp⟩
 have T':TInv (mkS caps.length os.length (nums 0 caps) sp.qs.length sp.qs os) w M ι θ { tmps:=L.tmps,defers:=[] }:=by
  refine ⟨k7.symm,rfl,fun i hi=>absurd hi (by simp [mkS]),fun t=>?_⟩
  show rv M ι (al4 (nums 0 caps) t) _∧tc w M θ _ _ (al4 (nums 0 caps) t) _∧aaI w os (al4 (nums 0 caps) t) _
  rw [azb,if_pos (Nat.zero_le _),Nat.sub_zero]
  cases hx:caps[t]? with
  | none=>exact ⟨trivial,trivial,trivial⟩
  | some x =>
    obtain ⟨u,hu,hr⟩:=k8 t x hx
    have hg:L.tmps.getD t undef=u:=by
        rw [Array.getD_eq_getD_getElem?,hu]; rfl
    rw [hg]
    exact hr
 obtain ⟨I2,T2⟩:=aEv q.ps.toList (us++[.ref .yl i]) (U++[.func (.yield (ι i)) #[] #[]]) I' T' ⟨[],[],by rw [List.append_nil,List.append_nil]; exact hV,by rw [List.append_nil,List.append_nil]; exact hT,by rw [List.append_nil,List.append_nil]; exact hW⟩ (by simp [hUl]) (by simp [hlen])
 have hz:((q.ps.zip U.toArray).foldl (fun tmps (t,a)=>tmps.setIfInBounds t a) L.tmps)=(q.ps.toList.zip (U++[.func (.yield (ι i)) #[] #[]])).foldl (fun t x=>t.setIfInBounds x.1 x.2) L.tmps:=by
  rw [← Array.foldl_toList,Array.toList_zip]
  have e:q.ps.toList.zip (U++[.func (.yield (ι i)) #[] #[]])=q.ps.toList.zip U:=by
   exact aEV _ _ _ (by rw [Array.length_toList]; omega)
  rw [e]
 rw [hz]
 refine roundIn_of_wpIn (F:=FR none) trivial ?_
 have at_i:∀ {s1:St} {w1:World} {M1:Mem} {ι1:Nat→Nat} {θ1:Nat→Option Nat},Inv w M X s1 w1 M1 ι1 θ1→ι1 i=ι i:=by
  intro s1 w1 M1 ι1 θ1 I1
  have hn:i < X.n:=by rw [← I.base.1]; exact il
  rw [I1.base.2.2.1 i hn,I.base.2.2.1 i hn]
 refine ah3 (r:=r) (ro:=some (ι i)) hΓ (aC_ hE) hE.nat (aBo hE) q.assign h1 _ _ _ w M ι θ _ (.inr n1) ?_ h I2 T2
 intro e s1 w1 M1 ι1 θ1 a1 h I1 T1
 cases e with
 | normal =>
   obtain ⟨s2,hb,h⟩:=Option.bind_eq_some_iff.1 (show ((aIN i s1).bind fun s=>exec Γ E k h2 q.body s (rndE i sp.toks W D))=some r from h)
   unfold aIN at hb
   split at hb
   case h_2=>cases hb
   rename_i q1 cs hs1
   cases hb
   obtain ⟨L1,l1,l2,l3,l4⟩:=aEJ (j':=.busy) I1 T1 hs1
   obtain ⟨I3,T3⟩:=l4 { L1 with state:=.busy } rfl l3 rfl rfl rfl rfl
   rw [at_i I1] at l1 I3 T3
   refine ⟨_,run_beginRound l1 l2,?_⟩
   refine ah3 (r:=r) (ro:=some (ι i)) hΓ (aC_ hE) hE.nat (aBo hE) q.body h2 _ _ _ _ M1 ι1 θ1 a1 (.inr n2) ?_ h I3 T3
   intro e s4 w4 M4 ι4 θ4 a4 h I4 T4
   have key:∀ j:LS,lsOf e=some j→∃ w',(Instr.endRound (ι i) j.pd).run P w4=.ok (.bool j.pd.isNone) w'∧∃ M' ι' θ',Inv w M X (fin S sp.toks os.length) w' M' ι' θ'∧rv M' ι' v (.bool j.pd.isNone)∧tc w' M' θ' (fin S sp.toks os.length).O sp.toks v (.bool j.pd.isNone)∧aaI w' S v (.bool j.pd.isNone):=by
    intro j hj
    unfold rndE at h
    rw [hj] at h
    obtain ⟨s5,hb,h⟩:=Option.bind_eq_some_iff.1 (show ((endS i j s4).bind fun s=>match ay9 W s with
        | some s=>must (Nat.ble s.c sp.toks) (D (.bool j.pd.isNone) (s.S.map (tidy.go s.O)))
        | none=>none)=some r from h)
    unfold endS at hb
    split at hb
    case h_2=>cases hb
    rename_i q2 cs2 hs4
    cases hb
    obtain ⟨L4,m1,m2,m3,m4⟩:=aEJ (j':=j) I4 T4 hs4
    obtain ⟨I5,T5⟩:=m4 { L4 with state:=if j.pd.isNone then .ready else .done,pending:=j.pd } (by
        cases e <;> cases hj <;> rfl) rfl rfl rfl rfl rfl
    rw [at_i I4] at m1 I5 T5
    refine ⟨_,run_endRound j.pd m1,?_⟩
    cases hn:ay9 W _ with
    | none=>rw [hn] at h; cases h
    | some s6 =>
      rw [hn] at h
      obtain ⟨M6,ι6,θ6,I6,T6⟩:=ayc hn I5 T5
      obtain ⟨hc,h⟩:=aaf h
      have hc:s6.c≤sp.toks:=Nat.le_of_ble_eq_true hc
      obtain ⟨e1,e2⟩:=hD _ _ h
      subst e1 e2
      exact ⟨M6,ι6,_,aFY I6 hc (I.base.1),rfl,trivial,trivial⟩
   cases e with
   | normal =>
     obtain ⟨w',q1,q2⟩:=key .rdy rfl
     exact ⟨_,w',q1,_,rfl,q2⟩
   | ret =>
     obtain ⟨w',q1,q2⟩:=key (.done .ret) rfl
     exact ⟨_,w',q1,_,rfl,q2⟩
   | exit n =>
     obtain ⟨w',q1,q2⟩:=key (.done (.exit n)) rfl
     exact ⟨_,w',q1,_,rfl,q2⟩
   | _=>cases h
 | _=>cases h
end
end Go.Proofs.Ytgmeimbamfggkaa.Den
