import Derived.Test.YtgmeimbamfggkaaDen26
namespace Go.Proofs.Ytgmeimbamfggkaa.Den
open Go
def nums : Nat→List TV→List (Nat×TV)
 | _,[]=>[]
 | i,v :: r=>(i,v) :: nums (i+1) r
def aGE (Γ:Env) (s:St):ResultVar→Option TV
 | .tmp t=>some (s.T t)
 | .cell a n=>match s.T a with
   | .ptr i p=>match (s.S[i]?:Option Obj) with
     | some cs=>must (plain cs) (axn Γ n (cs.drop p))
     | none=>none
   | _=>none
def aHQ (Γ:Env) (s:St):List ResultVar→Option (List TV)
 | []=>some []
 | r :: rs=>(aGE Γ s r).bind fun v=>(aHQ Γ s rs).map fun vs=>v :: vs
def resV (Γ:Env) (s:St) (rs:List ResultVar):Option TV :=
 match rs with
 | [r]=>aGE Γ s r
 | rs=>(aHQ Γ s rs).map fun vs=>.tup vs
def ay9 : List Norm→St→Option St
 | [],_=>none
 | W :: r,s=>match norm W s with
   | some s=>some s
   | none=>ay9 r s
def aGT (s:St):Option St:=match s.dl with
 | []=>some s
 | [i]=>match s.S[i]? with
   | some [.blk .df]=>some { s with S:=s.S.set i [],dl:=[] }
   | _=>none
 | _=>none
def retK (Γ:Env) (res:List ResultVar) (toks:Nat) (W:List Norm) {ρ:Type} (K:TV→List Obj→Option ρ):Exit→St→Option ρ:=fun e s =>
 match e with
 | .normal=>match (aGT s).bind (ay9 W) with
   | some s=>must (Nat.ble s.c toks) ((resV Γ s res).bind fun v=>K (tidy s.O v) (s.S.map (tidy.go s.O)))
   | none=>none
 | .ret=>match (aGT s).bind (ay9 W) with
   | some s=>must (Nat.ble s.c toks) ((resV Γ s res).bind fun v=>K (tidy s.O v) (s.S.map (tidy.go s.O)))
   | none=>none
 | _=>none
noncomputable def fnK (Γ:Env) (E:Table) (k:Nat) (h:Hint) (body:Code) (nt:Nat) (res:List ResultVar) (toks:Nat) (W:List Norm) (qs:List Nat) {ρ:Type} (as:List TV) (os:List Obj) (K:TV→List Obj→Option ρ):Option ρ :=
 must (Nat.ble as.length nt) (exec Γ E k h body (mkS nt os.length (nums 0 as) qs.length qs os) (retK Γ res toks W K))
section
variable {w0 : World} {M0:Mem} {X:Fr} {s:St} {w:World} {M:Mem} {ι:Nat→Nat} {θ:Nat→Option Nat} {a:Act} {Γ:Env} {P:Program}
theorem azb : ∀ (i:Nat) (as:List TV) (t:Nat),al4 (nums i as) t=if i≤t then (as[t - i]?).getD .undef else .undef
 | i,[],t=>by
   show TV.undef=_
   split <;> simp
 | i,v :: r,t=>by
   show (bif Nat.beq i t then v else al4 (nums (i+1) r) t)=_
   by_cases h:i=t
   · subst h
     rw [show Nat.beq i i=true by rw [Nat.beq_eq]]
     simp
   · rw [show Nat.beq i t=false by rw [← Bool.not_eq_true,Nat.beq_eq]; exact h]
     simp only [cond_false]
     rw [azb (i+1) r t]
     by_cases h2:i+1≤t
     · rw [if_pos h2,if_pos (by omega),show t - i=(t - (i+1))+1 by omega,List.getElem?_cons_succ]
     · rw [if_neg h2,if_neg (by omega)]
theorem aGJ : ∀ {as:List TV} {V:List Value},rvs M ι as V→as.length=V.length∧∀ (t:Nat) x,as[t]?=some x→∃ v,V[t]?=some v∧rv M ι x v
 | [],V,h=>by rw [show V=[] from h]; exact ⟨rfl,fun t x hx=>by simp at hx⟩
 | x :: as,V,h=>by
   obtain ⟨v,r,rfl,k1,k2⟩:=h
   obtain ⟨l,q⟩:=aGJ k2
   refine ⟨by simp [l],fun t y hy=>?_⟩
   cases t with
   | zero=>simp at hy; subst hy; exact ⟨v,rfl,k1⟩
   | succ t=>obtain ⟨u,e1,e2⟩:=q t y (by simpa using hy); exact ⟨u,by simpa using e1,e2⟩
theorem aG_ {O:Nat→Bool} {c:Nat}:∀ {as:List TV} {V:List Value},tcs w M θ O c as V→∀ (t:Nat) x v,as[t]?=some x→V[t]?=some v→tc w M θ O c x v
 | [],_,_,t,x,v,hx,_=>by simp at hx
 | _ :: _,[],_,t,x,v,_,hv=>by simp at hv
 | y :: as,u :: V,h,t,x,v,hx,hv=>by
   cases t with
   | zero=>simp at hx hv; subst hx hv; exact h.1
   | succ t=>exact aG_ h.2 t x v (by simpa using hx) (by simpa using hv)
theorem azP {S:List Obj}:∀ {as:List TV} {V:List Value},abE w S as V→∀ (t:Nat) x v,as[t]?=some x→V[t]?=some v→aaI w S x v
 | [],_,_,t,x,v,hx,_=>by simp at hx
 | _ :: _,[],_,t,x,v,_,hv=>by simp at hv
 | y :: as,u :: V,h,t,x,v,hx,hv=>by
   cases t with
   | zero=>simp at hx hv; subst hx hv; exact h.1
   | succ t=>exact azP h.2 t x v (by simpa using hx) (by simpa using hv)
mutual
theorem aBL {O:Nat→Bool} {c toks:Nat} (hc:c≤toks):∀ (x:TV) (v:Value),tc w M θ O c x v→tc w M (fun q=>bif O q then θ q else none) (fun q=>Nat.blt q toks) toks (tidy O x) v
 | .sl t (.own q) nl l,v,h=>by
   show tc w M _ _ toks (bif O q then _ else _) v
   cases hq:O q with
   | false=>trivial
   | true =>
     refine ⟨by have:=h.1; omega,fun _ a n cc e=>?_⟩
     rcases h.2 hq a n cc e with h | h | ⟨g,e',cur,p0,k1,k2,k3⟩
     · exact .inl h
     · exact .inr (.inl h)
     · exact .inr (.inr ⟨g,e',cur,p0,k1,by simp only [hq,cond_true]; exact k2,k3⟩)
 | .sl t .sh nl l,v,_=>trivial
 | .sl t .full nl l,v,_=>trivial
 | .tup l,v,h=>fun vs hv=>azJ hc l vs (h vs hv)
 | .ag l,v,h=>fun vs hv=>azJ hc l vs (h vs hv)
 | .ref _ _,v,_=>trivial
 | .blk _,v,_=>trivial
 | .fn _ _,v,_=>trivial
 | .ptr _ _,v,_=>trivial
 | .undef,v,_=>trivial
 | .skip,v,_=>trivial
 | .bool _,v,_=>trivial
 | .int _ _,v,_=>trivial
 | .str _,v,_=>trivial
 | .st _ _,v,_=>trivial
 | .ep _ _,v,_=>trivial
 | .nilp,v,_=>trivial
 | .nilfn,v,_=>trivial
theorem azJ {O:Nat→Bool} {c toks:Nat} (hc:c≤toks):∀ (x:List TV) (v:List Value),tcs w M θ O c x v→tcs w M (fun q=>bif O q then θ q else none) (fun q=>Nat.blt q toks) toks (tidy.go O x) v
 | [],v,_=>by cases v <;> trivial
 | x :: xs,[],_=>trivial
 | x :: xs,v :: vs,h=>⟨aBL hc x v h.1,azJ hc xs vs h.2⟩
end
theorem aBM {O:Nat→Bool}:∀ (l:List TV) (j:Nat) x,(tidy.go O l)[j]?=some x→∃ y,l[j]?=some y∧x=tidy O y
 | [],j,x,h=>absurd h (by show ([]:List TV)[j]?≠_; simp)
 | z :: l,j,x,h=>by
   have h:(tidy O z :: tidy.go O l)[j]?=some x:=h
   cases j with
   | zero=>simp at h; exact ⟨z,rfl,h.symm⟩
   | succ j =>
     obtain ⟨y,k1,k2⟩:=aBM l j x (by simpa using h)
     exact ⟨y,by simpa using k1,k2⟩
theorem aBN {O:Nat→Bool}:∀ (l:List TV),(tidy.go O l).length=l.length
 | []=>rfl
 | z :: l=>by show (_ :: tidy.go O l).length=_; simp [aBN l]
theorem aH9 {O:Nat→Bool} (x:TV) (b:Blk):tidy O x=.blk b↔x=.blk b:=by
 cases x with
 | sl t f nl l =>
   cases f with
   | own q =>
     show (bif O q then _ else _)=_↔_
     cases O q <;> exact ⟨nofun,nofun⟩
   | _=>exact ⟨nofun,nofun⟩
 | blk b'=>exact Iff.rfl
 | _=>exact ⟨nofun,nofun⟩
theorem awm {O:Nat→Bool} (l:List TV):ahG (tidy.go O l)=ahG l∧hol (tidy.go O l)=hol l∧∀ b,tidy.go O l=[.blk b]↔l=[.blk b]:=by
 refine ayg (aBN l) fun j z u hz hu b=>?_
 obtain ⟨y,e1,rfl⟩:=aBM l j u hu
 rw [hz] at e1
 cases e1
 exact aH9 z b
theorem aCY {O:Nat→Bool} (S:List Obj):Ext S (S.map (tidy.go O)):=by
 refine ⟨by simp,fun i cs cs1 h1 h2=>?_⟩
 rw [List.getElem?_map,h1] at h2
 cases h2
 exact ah2 (awm cs)
theorem aFY (I:Inv w0 M0 X s w M ι θ) {toks:Nat} (hc:s.c≤toks) {b:Nat} (hb:b=X.n):Inv w0 M0 X (fin (s.S.map (tidy.go s.O)) toks b) w M ι (fun q=>bif s.O q then θ q else none):=by
 have hsome:∀ q g,(bif s.O q then θ q else none)=some g→s.O q=true∧θ q=some g:=by
  intro q g h
  cases ho:s.O q with
  | true=>rw [ho] at h; exact ⟨rfl,h⟩
  | false=>rw [ho] at h; cases h
 have hl:(s.S.map (tidy.go s.O)).length=s.S.length:=by simp
 have low:∀ (i:Nat) cs,(s.S.map (tidy.go s.O))[i]?=some cs→∃ cs',s.S[i]?=some cs'∧cs=tidy.go s.O cs'∧hol cs=hol cs':=by
  intro i cs hi
  rw [List.getElem?_map] at hi
  obtain ⟨cs',h1,rfl⟩:=Option.map_eq_some_iff.1 hi
  exact ⟨cs',h1,rfl,(awm cs').2.1⟩
 refine ⟨I.os,I.tape,I.output,I.size,I.memle,I.mem,I.keep,?_,?_,?_,?_,?_,⟨hb,by show X.n≤(s.S.map (tidy.go s.O)).length; rw [hl]; exact I.base.2.1,I.base.2.2.1,?_⟩,I.shp⟩
 · intro i cs hi hh
   obtain ⟨cs',h1,rfl,h2⟩:=low i cs hi
   obtain ⟨g1,g4⟩:=I.obj i cs' h1 (h2.symm.trans hh)
   refine ⟨g1.map rfl (Mem.le_refl _) (fun _=>rfl) (awm cs').1 (aBN cs') fun j x hx=>?_,g4⟩
   obtain ⟨y,k1,rfl⟩:=aBM cs' j x hx
   refine ⟨y,k1,fun v u3 u4 u5=>?_⟩
   obtain ⟨q1,_,q3,_⟩:=aBO (w:=w) (θ:=θ) (O:=s.O) (c:=s.c) (S:=s.S) (θ1:=θ) (O1:=s.O) (c1:=s.c) (L:=s.O) y v u3
   exact ⟨q1,aBL hc y v u4,abK (Shp.refl _) (aCY _) _ _ (q3 u5)⟩
 · intro i j c1 c2 hi hj h1 h2 e
   obtain ⟨d1,e1,_,f1⟩:=low i c1 hi
   obtain ⟨d2,e2,_,f2⟩:=low j c2 hj
   exact I.inj i j d1 d2 e1 e2 (f1.symm.trans h1) (f2.symm.trans h2) e
 · intro q g _ hg
   obtain ⟨h1,h2⟩:=hsome q g hg
   obtain ⟨t1,t2,t3⟩:=I.tok q g h1 h2
   refine ⟨t1,t2,fun i c1 hi hh=>?_⟩
   obtain ⟨d1,e1,_,f1⟩:=low i c1 hi
   exact t3 i d1 e1 (f1.symm.trans hh)
 · intro q hq
   have hq:Nat.blt q toks=true:=hq
   show q < toks
   simpa using hq
 · intro p q g _ _ hp hq
   obtain ⟨h1,h2⟩:=hsome p g hp
   obtain ⟨h3,h4⟩:=hsome q g hq
   exact I.one p q g h1 h3 h2 h4
 · intro i c1 hi hc1
   obtain ⟨d1,e1,rfl,_⟩:=low i c1 hc1
   obtain ⟨c0,g1,g2⟩:=I.base.2.2.2 i d1 hi e1
   exact ⟨c0,g1,g2.trans (ah2 (awm d1))⟩
def aAH (tmps:Array Value):ResultVar→Sem Value
 | .tmp t=>pure (tmps.getD t undef)
 | .cell a t=>do loadVar t (← asAddr (tmps.getD a undef))
theorem aEB (hΓ:EnvOk P Γ) (I:Inv w0 M0 X s w M ι θ) (T:TInv s w M ι θ a) {rs:ResultVar} {v:TV} (h:aGE Γ s rs=some v) :
 ∃ x,(aAH a.tmps rs).run P w=.ok x w∧rv M ι v x∧tc w M θ s.O s.c v x∧aaI w s.S v x:=by
 cases rs with
 | tmp t =>
   have h:some (s.T t)=some v:=h
   cases h
   exact ⟨_,rfl,T.v t⟩
 | cell b n =>
   unfold aGE at h
   simp only at h
   split at h
   case h_2=>cases h
   rename_i i p hb
   split at h
   case h_2=>cases h
   rename_i cs hs
   have hp:=(T.v b).1
   rw [hb] at hp
   have hp:a.tmps.getD b undef=.pointer (some ⟨ι i,p,none⟩):=hp
   obtain ⟨hpl,h⟩:=aaf h
   obtain ⟨u,k1,k2⟩:=aAu hΓ I hs hpl h
   refine ⟨u,?_,k2⟩
   simp only [aAH,hp,asAddr,Sem.run_bind,Sem.run_pure,Result.andThen_ok,k1]
theorem aEC (hΓ:EnvOk P Γ) (I:Inv w0 M0 X s w M ι θ) (T:TInv s w M ι θ a):∀ {rs:List ResultVar} {vs:List TV},aHQ Γ s rs=some vs →
 ∃ xs:List Value,(rs.mapM (aAH a.tmps)).run P w=.ok xs w∧rvs M ι vs xs∧tcs w M θ s.O s.c vs xs∧abE w s.S vs xs∧xs.length=rs.length
 | [],vs,h=>by cases h; exact ⟨[],rfl,rfl,trivial,trivial,rfl⟩
 | r :: rs,vs,h=>by
   have h:((aGE Γ s r).bind fun v=>(aHQ Γ s rs).map fun vs=>v :: vs)=some vs:=h
   obtain ⟨v,h1,h2⟩:=Option.bind_eq_some_iff.1 h
   obtain ⟨vs',h3,rfl⟩:=Option.map_eq_some_iff.1 h2
   obtain ⟨x,k1,k2,k3,k4⟩:=aEB hΓ I T h1
   obtain ⟨xs,q1,q2,q3,q4,q5⟩:=aEC hΓ I T h3
   refine ⟨x :: xs,?_,⟨x,xs,rfl,k2,q2⟩,⟨k3,q3⟩,⟨k4,q4⟩,by simp [q5]⟩
   simp [List.mapM_cons,k1,q1]
theorem aJo (hΓ:EnvOk P Γ) (I:Inv w0 M0 X s w M ι θ) (T:TInv s w M ι θ a) {fn:Func} {v:TV} (h:resV Γ s fn.results.toList=some v) :
 ∃ x,(results fn a.tmps).run P w=.ok x w∧rv M ι v x∧tc w M θ s.O s.c v x∧aaI w s.S v x:=by
 have hr:∀ xs:List Value,(fn.results.toList.mapM (aAH a.tmps)).run P w=.ok xs w→(results fn a.tmps).run P w=.ok (if h:xs.toArray.size=1 then xs.toArray[0] else .tuple xs.toArray) w:=by
  intro xs hxs
  have hfun:results fn a.tmps=(fn.results.mapM (aAH a.tmps) >>= fun vs=>pure (if h:vs.size=1 then vs[0] else .tuple vs)):=by
   unfold results
   exact congrArg (fun f:ResultVar→Sem Value=>(fn.results.mapM f >>= fun vs=>pure (if h:vs.size=1 then vs[0] else .tuple vs))) (funext fun x=>by cases x <;> rfl)
  have:(fn.results.mapM (aAH a.tmps)).run P w=.ok xs.toArray w:=by
   rw [Array.mapM_eq_mapM_toList]
   simp [hxs]
  rw [hfun,Sem.run_bind,this]
  rfl
 unfold resV at h
 split at h
 · rename_i r hres
   obtain ⟨x,k1,k2⟩:=aEB hΓ I T h
   refine ⟨x,?_,k2⟩
   have:=hr [x] (by rw [hres]; simp [k1])
   simpa using this
 · rename_i hne
   obtain ⟨vs,h1,rfl⟩:=Option.map_eq_some_iff.1 h
   obtain ⟨xs,q1,q2,q3,q4,q5⟩:=aEC hΓ I T h1
   have hx:=hr xs q1
   have hlen:¬ xs.toArray.size=1:=by
    rw [List.size_toArray,q5]
    intro e
    obtain ⟨r,hr⟩:=List.length_eq_one_iff.1 e
    exact hne r hr
   rw [dif_neg hlen] at hx
   refine ⟨_,hx,⟨xs,rfl,q2⟩,fun us hu=>?_,fun us hu=>?_⟩
   · have:us=xs:=by simpa using hu.symm
     subst this
     exact q3
   · have:us=xs:=by simpa using hu.symm
     subst this
     exact q4
theorem ayc : ∀ {W:List Norm} {s s':St},ay9 W s=some s'→Inv w0 M0 X s w M ι θ→TInv s w M ι θ a→∃ M' ι' θ',Inv w0 M0 X s' w M' ι' θ'∧TInv s' w M' ι' θ' a
 | [],_,_,h,_,_=>by cases h
 | W :: r,s,s',h,I,T=>by
   have h:(match norm W s with | some s=>some s | none=>ay9 r s)=some s':=h
   cases hn:norm W s with
   | some s1=>rw [hn] at h; cases h; exact ay_ hn I T
   | none=>rw [hn] at h; exact ayc h I T
theorem aG2 {E:Table} (hΓ:EnvOk P Γ) (hE:TabOk P E) {g:FuncId} {fn:Func} {c:Code} (hf:P.funcs[g]?=some fn) (hb:fn.body=some c) (hname:(fn.name == "runtime.NumGoroutine")=false) {sp:Spec} (hg:g < YB)
 (hnat:∀ as os,∃ out:Option (TV×List Obj),∀ (ρ:Type) (K:TV→List Obj→Option ρ),sp.run as os K=out.bind fun p=>K p.1 p.2)
 (hrun:∀ as os v S,sp.run as os (fun v S=>some (v,S))=some (v,S)→∃ (k:Nat) (h:Hint) (W:List Norm) (ρ:Type) (r:ρ) (D:TV→List Obj→Option ρ),
  fnK Γ E k h c fn.ntmps fn.results.toList sp.toks W sp.qs as os D=some r∧∀ v' S',D v' S'=some r→v'=v∧S'=S):SpecOk P g sp:=by
 refine ⟨hnat,fun as os v S h w M X ι θ V I hV hT hW=>.inl ⟨hg,.inl ⟨fn,hf,by rw [hb]; rfl,hname,?_⟩⟩⟩
 obtain ⟨k,hint,W,ρ,r,D,h,hD⟩:=hrun as os v S h
 obtain ⟨hle,h⟩:=aaf h
 have hle:as.length≤fn.ntmps:=Nat.le_of_ble_eq_true hle
 obtain ⟨vl,vget⟩:=aGJ hV
 have I':Inv w M X (mkS fn.ntmps os.length (nums 0 as) sp.qs.length sp.qs os) w M ι θ:=⟨I.os,I.tape,I.output,I.size,I.memle,I.mem,I.keep,I.obj,I.inj,I.tok,I.tokc,I.one,I.base,I.shp⟩
 have hsz:(V.toArray++Array.replicate (fn.ntmps - V.toArray.size) undef).size=fn.ntmps:=by simp; omega
 have T':TInv (mkS fn.ntmps os.length (nums 0 as) sp.qs.length sp.qs os) w M ι θ { tmps:=V.toArray++Array.replicate (fn.ntmps - V.toArray.size) undef,defers:=[] }:=by
  refine ⟨hsz,rfl,fun i hi=>absurd hi (by simp [mkS]),fun t=>?_⟩
  show rv M ι (al4 (nums 0 as) t) _∧tc w M θ _ _ (al4 (nums 0 as) t) _∧aaI w os (al4 (nums 0 as) t) _
  rw [azb,if_pos (Nat.zero_le _),Nat.sub_zero]
  cases hx:as[t]? with
  | none=>exact ⟨trivial,trivial,trivial⟩
  | some x =>
    obtain ⟨u,hu,hr⟩:=vget t x hx
    have hg:(V.toArray++Array.replicate (fn.ntmps - V.toArray.size) undef).getD t undef=u:=by
        have hlt:t < V.toArray.size:=by simpa using (List.getElem?_eq_some_iff.1 hu).1
        rw [Array.getD_eq_getD_getElem?,Array.getElem?_append_left hlt]
        simp [hu]
    rw [hg]
    exact ⟨hr,aG_ hT t x u hx hu,azP hW t x u hx hu⟩
 refine aAS.1 (callsIn_of_wp_marks (F:=FR none) (n:=0) hf hb trivial ?_)
 refine ah3 (r:=r) (ro:=none) hΓ (aC_ hE) hE.nat (aBo hE) c hint _ _ _ w M ι θ _ (.inl rfl) ?_ h I' T'
 have out:∀ (s:St) (w1:World) (M1:Mem) (ι1:Nat→Nat) (θ1:Nat→Option Nat)(a1:Act),must (Nat.ble s.c sp.toks) ((resV Γ s fn.results.toList).bind fun v=>D (tidy s.O v) (s.S.map (tidy.go s.O)))=some r →
  Inv w M X s w1 M1 ι1 θ1→TInv s w1 M1 ι1 θ1 a1→∃ x,(results fn a1.tmps).run P w1=.ok x w1∧∃ y,Ending.returned x=.returned y∧∃ M' ι' θ',Inv w M X (fin S sp.toks os.length) w1 M' ι' θ'∧rv M' ι' v y∧tc w1 M' θ' (fin S sp.toks os.length).O sp.toks v y∧aaI w1 S v y:=by
  intro s1 w1 M1 ι1 θ1 a1 h I1 T1
  obtain ⟨hc,h⟩:=aaf h
  have hc:s1.c≤sp.toks:=Nat.le_of_ble_eq_true hc
  obtain ⟨v0,h1,h2⟩:=Option.bind_eq_some_iff.1 h
  obtain ⟨e1,e2⟩:=hD _ _ h2
  subst e1 e2
  obtain ⟨x,k1,k2,k3,k4⟩:=aJo hΓ I1 T1 h1
  obtain ⟨q1,_,q3,_⟩:=aBO (w:=w1) (θ:=θ1) (O:=s1.O) (c:=s1.c) (S:=s1.S) (θ1:=θ1) (O1:=s1.O) (c1:=s1.c) (L:=s1.O) v0 x k2
  exact ⟨x,k1,x,rfl,M1,ι1,_,aFY I1 hc (I.base.1),q1,aBL hc v0 x k3,abK (Shp.refl _) (aCY _) _ _ (q3 k4)⟩
 have out2:∀ (s:St) (w1:World) (M1:Mem) (ι1:Nat→Nat) (θ1:Nat→Option Nat)(a1:Act),(match (aGT s).bind (ay9 W) with
  | some s=>must (Nat.ble s.c sp.toks) ((resV Γ s fn.results.toList).bind fun v=>D (tidy s.O v) (s.S.map (tidy.go s.O)))
  | none=>none)=some r→Inv w M X s w1 M1 ι1 θ1→TInv s w1 M1 ι1 θ1 a1→LeavesInM (FR none) 0 P fn a1.tmps (fun e w'=>∃ y,e=.returned y∧∃ M' ι' θ',Inv w M X (fin S sp.toks os.length) w' M' ι' θ'∧rv M' ι' v y∧tc w' M' θ' (fin S sp.toks os.length).O sp.toks v y∧aaI w' S v y) a1.defers .returning w1:=by
  intro s1 w1 M1 ι1 θ1 a1 h I1 T1
  cases hsh:aGT s1 with
  | none=>rw [hsh] at h; cases h
  | some s2 =>
    rw [hsh] at h
    replace h:(match ay9 W s2 with
        | some s=>must (Nat.ble s.c sp.toks) ((resV Γ s fn.results.toList).bind fun v=>D (tidy s.O v) (s.S.map (tidy.go s.O)))
        | none=>none)=some r:=h
    cases hn:ay9 W s2 with
    | none=>rw [hn] at h; cases h
    | some s3 =>
      rw [hn] at h
      replace h:must (Nat.ble s3.c sp.toks) ((resV Γ s3 fn.results.toList).bind fun v=>D (tidy s3.O v) (s3.S.map (tidy.go s3.O)))=some r:=h
      unfold aGT at hsh
      split at hsh
      · rename_i hd
        cases hsh
        obtain ⟨M3,ι3,θ3,I3,T3⟩:=ayc hn I1 T1
        have e:=T1.d
        rw [hd] at e
        rw [show a1.defers=[] from e]
        exact out s3 w1 M3 ι3 θ3 a1 h I3 T3
      · rename_i i hd
        split at hsh
        · rename_i hs
          cases hsh
          have e:=T1.d
          rw [hd] at e
          rw [show a1.defers=[{ target:=.collected (ι1 i),args:=#[] }] from e]
          obtain ⟨⟨_,o1⟩,_⟩:=I1.obj i _ hs rfl
          have o1:w1.heap[ι1 i]?=some (.deferred (some [])):=o1
          have hold:∀ b,b≠ι1 i→(w1.putObj (ι1 i) (.deferred none)).heap[b]?=w1.heap[b]?:=fun b hb=>World.putObj_heap_other hb
          have hshp:Shp w1 (w1.putObj (ι1 i) (.deferred none)):=by
            intro b c e f hb
            by_cases hbg:b=ι1 i
            · subst hbg; rw [o1] at hb; cases hb
            · exact ⟨c,e,f,(World.putObj_heap_other hbg).trans hb,rfl⟩
          have I2:=I1.setObj (cs':=[]) hs rfl (w1:=w1.putObj (ι1 i) (.deferred none)) rfl rfl rfl World.putObj_size hold hshp (evo.nil _) (fun h=>by cases h)
          have T2:=T1.setObj (cs':=[]) I1 hs rfl (w1:=w1.putObj (ι1 i) (.deferred none)) hold hshp (evo.nil _)
          have I2:Inv w M X { s1 with S:=s1.S.set i [],dl:=[] } (w1.putObj (ι1 i) (.deferred none)) M1 ι1 θ1:=⟨I2.os,I2.tape,I2.output,I2.size,I2.memle,I2.mem,I2.keep,I2.obj,I2.inj,I2.tok,I2.tokc,I2.one,I2.base,I2.shp⟩
          have T2:TInv { s1 with S:=s1.S.set i [],dl:=[] } (w1.putObj (ι1 i) (.deferred none)) M1 ι1 θ1 { a1 with defers:=[] }:=⟨T2.n,rfl,fun i hi=>absurd hi (by simp),T2.v⟩
          obtain ⟨M3,ι3,θ3,I3,T3⟩:=ayc hn I2 T2
          exact ⟨nofun,.inl ⟨ι1 i,_,rfl,run_takeDeferred o1,out s3 _ M3 ι3 θ3 { a1 with defers:=[] } h I3 T3⟩⟩
        · cases hsh
      · cases hsh
 intro e s1 w1 M1 ι1 θ1 a1 h I1 T1
 cases e with
 | normal=>exact out2 s1 w1 M1 ι1 θ1 a1 h I1 T1
 | ret=>exact out2 s1 w1 M1 ι1 θ1 a1 h I1 T1
 | _=>cases h
end
end Go.Proofs.Ytgmeimbamfggkaa.Den
