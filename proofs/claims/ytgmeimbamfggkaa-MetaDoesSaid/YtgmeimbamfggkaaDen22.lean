import Derived.Test.YtgmeimbamfggkaaDen21
import Derived.LoopN
import Derived.Scope
namespace Go.Proofs.Ytgmeimbamfggkaa.Den
open Go
def Told (w0:World) (M0:Mem) (X:Fr) {ρ:Type} (r:ρ) (K:Exit→St→Option ρ) (Q:Exit→Act→World→Prop):Prop :=
 ∀ e s w M ι θ a,K e s=some r→Inv w0 M0 X s w M ι θ→TInv s w M ι θ a→Q e a w
section
variable {w0 : World} {M0:Mem} {X:Fr} {s:St} {w:World} {M:Mem} {ι:Nat→Nat} {θ:Nat→Option Nat} {a:Act}
variable {P : Program} {ρ:Type} {r:ρ} {Γ:Env} {E:Table} {dr:Bool} {ops:Array Oper} {ro:Option Nat}
theorem aKz {s:St} {d:Option Tmp} {v:TV}:(s.put d v).b=s.b:=by
 cases d with
 | none=>rfl
 | some d=>unfold St.put; cases hb:Nat.blt d s.n <;> simp only [hb] <;> rfl
theorem aJ6 {s:St} {d:Option Tmp} {v:TV}:(s.put d v).dl=s.dl:=by
 cases d with
 | none=>rfl
 | some d=>unfold St.put; cases hb:Nat.blt d s.n <;> simp only [hb] <;> rfl
theorem Told.nrm {K:Exit→St→Option ρ} {Q:Exit→Act→World→Prop} (G:Told w0 M0 X r K Q) (W:Norm):Told w0 M0 X r (nrmK W K) Q:=by
 intro e s w M ι θ a h I T
 unfold nrmK at h
 cases e with
 | normal =>
   simp only at h
   cases hn:norm W s with
   | none=>rw [hn] at h; cases h
   | some s' =>
     rw [hn] at h
     obtain ⟨M',ι',θ',I',T'⟩:=ay_ hn I T
     exact G _ _ _ _ _ _ _ h I' T'
 | _=>exact G _ _ _ _ _ _ _ h I T
theorem Told.jmp {K:Exit→St→Option ρ} {Q:Exit→Act→World→Prop} (G:Told w0 M0 X r K Q) (k:Nat):Told w0 M0 X r (jmpK k K) Q:=by
 intro e s w M ι θ a h I T
 cases e with
 | normal =>
   cases k with
   | zero=>cases h
   | succ k=>exact G _ _ _ _ _ _ _ h I T
 | _=>exact G _ _ _ _ _ _ _ h I T
theorem aCf (hE:agd E) (hrw:Γ.rw=false):∀ (l:List Oper) (s:St),(∀ o∈l,clsO Γ dr o≤1)→∀ {ρ:Type} {r:ρ} {K:St→Option ρ},opsK Γ E dr ops.toList l s K=some r →
 ∃ sf,K sf=some r∧(∀ (ρ:Type) (K:St→Option ρ),opsK Γ E dr ops.toList l s K=K sf)∧sf.S=s.S∧sf.O=s.O∧sf.c=s.c∧sf.n=s.n∧sf.b=s.b∧sf.dl=s.dl∧∀ t,some t ∉ l.map Oper.dst→sf.T t=s.T t
 | [],s,_,ρ,r,K,h=>⟨s,h,fun _ _=>rfl,rfl,rfl,rfl,rfl,rfl,rfl,fun _ _=>rfl⟩
 | o :: l,s,hc,ρ,r,K,h=>by
   have h:ads Γ E dr ops.toList o s (fun s=>opsK Γ E dr ops.toList l s K)=some r:=h
   obtain ⟨oe,J⟩:=axK (Γ:=Γ) (dr:=dr) (ops:=ops) hE hrw o s
   have hrun:=J.run s ⟨rfl,fun _ _=>rfl⟩ rfl rfl rfl
   rw [hrun] at h
   cases oe with
   | none=>cases h
   | some e =>
     have hsame:e.S=s.S∧e.O=s.O∧e.c=s.c:=by
        have:=hc o (List.mem_cons_self ..)
        have:clsO Γ dr o=0∨clsO Γ dr o=1:=by omega
        rcases this with h0 | h0
        · exact (J.c0 h0).2 e rfl
        · exact (J.c1 h0 e rfl).1
     obtain ⟨sf,k1,k2,k3,k4,k5,k6,kb,kd,k7⟩:=aCf hE hrw l (e.on s o.dst) (fun o ho=>hc o (List.mem_cons_of_mem _ ho)) h
     have hon:e.on s o.dst=s.put o.dst e.v:=anL hsame.1 hsame.2.1 hsame.2.2
     obtain ⟨p1,p2,p3⟩:=azh (s:=s) (d:=o.dst) (v:=e.v)
     rw [hon] at k3 k4 k5 k6 kb kd k7
     refine ⟨sf,k1,fun ρ K=>?_,k3.trans p1,k4.trans p2,k5.trans p3,k6.trans aGv,kb.trans aKz,kd.trans aJ6,fun t ht=>?_⟩
     · show ads Γ E dr ops.toList o s (fun s=>opsK Γ E dr ops.toList l s K)=K sf
       rw [hrun]
       exact k2 ρ K
     · rw [List.map_cons,List.mem_cons] at ht
       rw [k7 t fun h=>ht (.inr h)]
       exact anN fun h=>ht (.inl h.symm)
theorem aIp : ∀ (ds:List (Option Tmp)) (T:Nat→TV) (t:Nat),kill ds T t=.undef∨(some t ∉ ds∧kill ds T t=T t)
 | [],T,t=>.inr ⟨by simp,rfl⟩
 | d :: ds,T,t=>by
   show kill ds _ t=.undef∨(some t ∉ d :: ds∧kill ds _ t=T t)
   rcases aIp ds (match d with | some d=>upd T d .undef | none=>T) t with h | ⟨h1,h2⟩
   · exact .inl h
   · cases d with
     | none=>exact .inr ⟨by simp [h1],h2⟩
     | some d =>
       have h2:kill ds (upd T d .undef) t=upd T d .undef t:=h2
       show kill ds (upd T d .undef) t=.undef∨_
       rw [h2]
       unfold upd
       cases hb:Nat.beq t d with
       | true=>exact .inl rfl
       | false =>
         refine .inr ⟨?_,?_⟩
         · have:t≠d:=by intro e; rw [← Nat.beq_eq] at e; rw [hb] at e; cases e
           simp [h1,this]
         · rfl
theorem aDM {b:Frame} {k:List Item} {cs:List Frame} {c:Code}:step P (lone (b.atR a (.code (.scope c) :: k)) cs w)=.next (lone (b.atR a (.code c :: .inScope c :: k)) cs w) :=
 step_lone_go (by simp [stepG,stepG.exec,Frame.atR])
theorem aBG {b:Frame} {k:List Item} {cs:List Frame} {c:Code}:step P (lone (b.atR a (.inScope c :: k)) cs w)=.next (lone (b.atR a k) cs w) :=
 step_lone_go (by simp [stepG,stepG.exec,Frame.atR])
theorem auV {F:Fence} {n:Nat} {Q:Exit→Act→World→Prop} {c:Code} (h:c.wpIn F n P (Exit.noGoto Q) a w):(Code.scope c).wpIn F n P Q a w:=by
 intro b k cs hro hb hr
 obtain ⟨e,a₁,w₁,hq,harr⟩:=h b (.inScope c :: k) cs hro hb hr
 have s1:StepsIn (Machine.fenced P F) P (lone (b.atR a (.code (.scope c) :: k)) cs w) (lone (b.atR a (.code c :: .inScope c :: k)) cs w):=.one (fenced_calm hb hr rfl) aDM
 cases e with
 | normal=>exact ⟨.normal,a₁,w₁,hq,.of_steps s1 (StepsIn.trans harr (.one (fenced_calm hb hr rfl) aBG))⟩
 | exit id=>exact ⟨.exit id,a₁,w₁,hq,.of_steps s1 ⟨fun k' hk=>harr.1 k' (by simp [exitTo,hk]),fun h1 h2=>by
  obtain ⟨k1,q1,q2⟩:=harr.2 h1 (by simpa [exitTo] using h2)
  exact ⟨k1,q1,q2⟩⟩⟩
 | goto l=>exact hq.elim
 | ret=>exact ⟨_,a₁,w₁,hq,.of_steps s1 harr⟩
 | panic ch=>exact ⟨_,a₁,w₁,hq,.of_steps s1 harr⟩
 | outgrown=>exact ⟨_,a₁,w₁,hq,.of_steps s1 harr⟩
theorem aJ7 (hΓ:EnvOk P Γ) (hC:ait P Γ E) (hE:agd E) (hrw:Γ.rw=false) (hlo:∀ i,Γ.lo i=true→i < s.S.length) {Q:Exit→Act→World→Prop} {id:Nat} {draw:Bool} {t:Nat} {b:Bool}
 (I:Inv w0 M0 X s w M ι θ) (T:TInv s w M ι θ a) (hl:∀ o∈ops.toList,clsO Γ true o≤1) (hok:draw=true→apR Γ true ops [] 0 ops.toList=true)
 (h:opsK Γ E (ρ:=Bool) true ops.toList ops.toList s (fun s=>match s.T t with | .bool b=>some b | _=>none)=some b)
 (G:∀ w M ι θ a,Inv w0 M0 X ({ s with T:=kill (ops.toList.map Oper.dst) s.T }.put (some t) (.bool b)) w M ι θ→TInv ({ s with T:=kill (ops.toList.map Oper.dst) s.T }.put (some t) (.bool b)) w M ι θ a→Q .normal a w) :
 (Code.region id ops draw).wpIn (FR ro) 0 P Q a w:=by
 obtain ⟨sf,k1,k2,k3,k4,k5,k6,kb,kd,k7⟩:=aCf hE hrw ops.toList s hl h
 classical
 refine ap1 (dr:=true) (K:=fun s2=>if s2=sf then some () else none) (r:=()) hΓ hC hE I T (fun s2 w M ι θ a hk I T=>?_) hok (fun _=>hrw) (fun _=>hlo) (by rw [k2]; simp)
 have hs:s2=sf:=by
  split at hk
  · assumption
  · cases hk
 subst hs
 have hb:s2.T t=.bool b:=by
  split at k1
  · rename_i b' hb; rw [hb]; cases k1; rfl
  · cases k1
 obtain ⟨n2,T2,c2,O2,S2,b2,d2⟩:=s2
 simp only at k3 k4 k5 k6 kb kd k7 hb
 subst k3 k4 k5 k6 kb kd
 have I2:Inv w0 M0 X { s with T:=kill (ops.toList.map Oper.dst) s.T } w M ι θ:=⟨I.os,I.tape,I.output,I.size,I.memle,I.mem,I.keep,I.obj,I.inj,I.tok,I.tokc,I.one,I.base,I.shp⟩
 have T2':TInv { s with T:=kill (ops.toList.map Oper.dst) s.T } w M ι θ a:=by
  refine ⟨T.n,T.d,T.dlt,fun u=>?_⟩
  show rv M ι (kill _ s.T u) _∧tc w M θ s.O s.c (kill _ s.T u) _∧aaI w s.S (kill _ s.T u) _
  rcases aIp (ops.toList.map Oper.dst) s.T u with h | ⟨h1,h2⟩
  · rw [h]; exact ⟨trivial,trivial,trivial⟩
  · rw [h2,← k7 u h1]; exact T.v u
 refine G w M ι θ a (I2.put _ _) ?_
 have hval:=(T.v t).1
 simp only at hval
 rw [hb] at hval
 have hval:a.tmps.getD t Go.undef=.bool b:=hval
 unfold St.put
 simp only
 cases hlt:Nat.blt t s.n with
 | false=>exact T2'
 | true =>
   refine ⟨T2'.n,T2'.d,T2'.dlt,fun u=>?_⟩
   show rv M ι (upd (kill _ s.T) t (.bool b) u) _∧tc w M θ s.O s.c (upd (kill _ s.T) t (.bool b) u) _∧aaI w s.S (upd (kill _ s.T) t (.bool b) u) _
   unfold upd
   cases hu:Nat.beq u t with
   | true =>
     rw [Nat.beq_eq] at hu
     subst hu
     exact ⟨hval,trivial,trivial⟩
   | false=>exact T2'.v u
def noRF : Code→Bool
 | .seq a b=>noRF a&&noRF b
 | .cond _ a b=>noRF a&&noRF b
 | .block _ c=>noRF c
 | .scope c=>noRF c
 | .loop c=>noRF c
 | .rangeFunc _ _ _ _=>false
 | _=>true
def aDR (P:Program) (Γ:Env) (E:Table):Prop :=
 ∀ (w0:World) (M0:Mem) (X:Fr) (s:St) (w:World) (M:Mem) (ι:Nat→Nat) (θ:Nat→Option Nat) (a:Act) (ρ:Type) (r:ρ) (K:Exit→St→Option ρ) (Q:Exit→Act→World→Prop)
   (k:Nat) (h:Hint) (g:Operand) (ps:Array Tmp) (assign body:Code),
   Told w0 M0 X r K Q→exec Γ E k h (.rangeFunc g ps assign body) s K=some r→Inv w0 M0 X s w M ι θ→TInv s w M ι θ a→(Code.rangeFunc g ps assign body).wpIn (FR none) 0 P Q a w
theorem ah3 (hΓ:EnvOk P Γ) (hC:ait P Γ E) (hE:agd E) (hG:aDR P Γ E) {k:Nat}:∀ (c:Code) (h:Hint) (s:St) (K:Exit→St→Option ρ) (Q:Exit→Act→World→Prop) (w:World) (M:Mem) (ι:Nat→Nat) (θ:Nat→Option Nat) (a:Act),
 (ro=none∨noRF c=true)→Told w0 M0 X r K Q→exec Γ E k h c s K=some r→Inv w0 M0 X s w M ι θ→TInv s w M ι θ a→c.wpIn (FR ro) 0 P Q a w
 | .skip,h,s,K,Q,w,M,ι,θ,a,hr,G,he,I,T=>wpIn_skip (G _ _ _ _ _ _ _ he I T)
 | .label l,h,s,K,Q,w,M,ι,θ,a,hr,G,he,I,T=>wpIn_label (G _ _ _ _ _ _ _ he I T)
 | .exit id,h,s,K,Q,w,M,ι,θ,a,hr,G,he,I,T=>wpIn_exit (G _ _ _ _ _ _ _ he I T)
 | .ret,h,s,K,Q,w,M,ι,θ,a,hr,G,he,I,T=>wpIn_ret (G _ _ _ _ _ _ _ he I T)
 | .seq x y,h,s,K,Q,w,M,ι,θ,a,hr,G,he,I,T=>by
   refine wpIn_seq (ah3 hΓ hC hE hG x h.l s (seqK (exec Γ E k h.r y) K) _ w M ι θ a (hr.imp id fun h=>(Bool.and_eq_true _ _ ▸ h:noRF x=true∧noRF y=true).1) ?_ he I T)
   intro e s w M ι θ a he I T
   cases e with
   | normal=>exact ah3 hΓ hC hE hG y h.r s K Q w M ι θ a (hr.imp id fun h=>(Bool.and_eq_true _ _ ▸ h:noRF x=true∧noRF y=true).2) G he I T
   | _=>exact G _ _ _ _ _ _ _ he I T
 | .block id c,h,s,K,Q,w,M,ι,θ,a,hr,G,he,I,T=>by
   refine wpIn_block (ah3 hΓ hC hE hG c h s (blkK id K) _ w M ι θ a hr ?_ he I T)
   intro e s w M ι θ a he I T
   cases e with
   | exit i =>
     show if i=id then _ else _
     have he:(bif Nat.beq i id then K .normal s else K (.exit i) s)=some r:=he
     by_cases hi:i=id
     · rw [if_pos hi]
       rw [show Nat.beq i id=true by rw [Nat.beq_eq]; exact hi] at he
       exact G _ _ _ _ _ _ _ he I T
     · rw [if_neg hi]
       rw [show Nat.beq i id=false by rw [← Bool.not_eq_true,Nat.beq_eq]; exact hi] at he
       exact G _ _ _ _ _ _ _ he I T
   | _=>exact G _ _ _ _ _ _ _ he I T
 | .scope c,h,s,K,Q,w,M,ι,θ,a,hr,G,he,I,T=>by
   refine auV (ah3 hΓ hC hE hG c h s (aGN K) _ w M ι θ a hr ?_ he I T)
   intro e s w M ι θ a he I T
   cases e with
   | goto l=>cases he
   | _=>exact G _ _ _ _ _ _ _ he I T
 | .cond c x y,h,s,K,Q,w,M,ι,θ,a,hr,G,he,I,T=>by
   have hev:=(abH T none c).1
   have hx:ro=none∨noRF x=true:=hr.imp id fun h=>(Bool.and_eq_true _ _ ▸ h:noRF x=true∧noRF y=true).1
   have hy:ro=none∨noRF y=true:=hr.imp id fun h=>(Bool.and_eq_true _ _ ▸ h:noRF x=true∧noRF y=true).2
   unfold exec at he
   split at he
   · rename_i b hb
     rw [hb] at hev
     have hev:a.eval c=.bool b:=hev
     split at he
     · rename_i W h1 h2
       cases b with
       | true=>exact wpIn_cond_true hev (ah3 hΓ hC hE hG x h1 s _ Q w M ι θ a hx ((G.jmp k).nrm W) he I T)
       | false=>exact wpIn_cond_false hev (ah3 hΓ hC hE hG y h2 s _ Q w M ι θ a hy ((G.jmp k).nrm W) he I T)
     · cases b with
       | true=>exact wpIn_cond_true hev (ah3 hΓ hC hE hG x _ s _ Q w M ι θ a hx G he I T)
       | false=>exact wpIn_cond_false hev (ah3 hΓ hC hE hG y _ s _ Q w M ι θ a hy G he I T)
   · cases he
 | .loop c,h,s,K,Q,w,M,ι,θ,a,hr,G,he,I,T=>by
   unfold exec at he
   split at he
   · rename_i W h'
     split at he
     · rename_i s1 hn
       obtain ⟨M1,ι1,θ1,I1,T1⟩:=ay_ hn I T
       refine wpIn_loop_rounds k ?_
       have key:∀ (n:Nat) (s:St) (w:World) (M:Mem) (ι:Nat→Nat) (θ:Nat→Option Nat) (a:Act),iter (exec Γ E k h' c) W K n s=some r→Inv w0 M0 X s w M ι θ→TInv s w M ι θ a→Code.roundsIn (FR ro) 0 P c Q n a w:=by
         intro n
         induction n with
         | zero=>intro s w M ι θ a he _ _; cases he
         | succ n ih =>
           intro s w M ι θ a he I T
           rw [roundsIn_succ]
           refine ah3 hΓ hC hE hG c h' s _ _ w M ι θ a hr ?_ he I T
           intro e s w M ι θ a he I T
           unfold amU at he
           cases e with
           | normal =>
             simp only at he
             split at he
             · rename_i s2 hn
               obtain ⟨M2,ι2,θ2,I2,T2⟩:=ay_ hn I T
               exact ih _ _ _ _ _ _ he I2 T2
             · cases he
           | _=>exact G _ _ _ _ _ _ _ he I T
       exact key k s1 w M1 ι1 θ1 a he I1 T1
     · cases he
   · rename_i m h'
     refine wpIn_loop_rounds m ?_
     have key:∀ (n:Nat) (s:St) (w:World) (M:Mem) (ι:Nat→Nat) (θ:Nat→Option Nat) (a:Act),aI0 (exec Γ E k h' c) K n s=some r→Inv w0 M0 X s w M ι θ→TInv s w M ι θ a→Code.roundsIn (FR ro) 0 P c Q n a w:=by
        intro n
        induction n with
        | zero=>intro s w M ι θ a he _ _; cases he
        | succ n ih =>
          intro s w M ι θ a he I T
          rw [roundsIn_succ]
          refine ah3 hΓ hC hE hG c h' s _ _ w M ι θ a hr ?_ he I T
          intro e s w M ι θ a he I T
          cases e with
          | normal=>exact ih _ _ _ _ _ _ he I T
          | _=>exact G _ _ _ _ _ _ _ he I T
     exact key m s w M ι θ a he I T
   · cases he
 | .rangeFunc g ps assign body,h,s,K,Q,w,M,ι,θ,a,hr,G,he,I,T=>by
   rcases hr with rfl | hr
   · exact hG _ _ _ _ _ _ _ _ _ _ _ _ _ _ _ _ _ _ _ G he I T
   · cases hr
 | .region id ops draw,h,s,K,Q,w,M,ι,θ,a,hr,G,he,I,T=>by
   unfold exec at he
   split at he
   · rename_i t
     cases hb:(ops.toList.all (fun o:Oper=>Nat.ble (clsO Γ.still true o) 1)&&(!draw||apR Γ.still true ops [] 0 ops.toList)) with
     | false=>rw [hb] at he; cases he
     | true =>
       rw [hb] at he
       rw [Bool.and_eq_true] at hb
       obtain ⟨b,h1,h2⟩:=Option.bind_eq_some_iff.1 he
       refine aJ7 hΓ.still hC hE rfl (fun i hi=>by cases hi) I T (fun o ho=>Nat.le_of_ble_eq_true (List.all_eq_true.1 hb.1 o ho)) (fun hd=>?_) h1 fun w M ι θ a I T=>G _ _ _ _ _ _ _ h2 I T
       have:=hb.2
       rw [hd] at this
       simpa using this
   · split at he
     · rename_i hn
       obtain ⟨M1,ι1,θ1,I1,T1⟩:=ay_ hn I T
       exact aEy hΓ hC hE I1 T1 (fun s w M ι θ a hk I T=>G _ _ _ _ _ _ _ hk I T) he
     · cases he
   · exact aEy hΓ hC hE I T (fun s w M ι θ a hk I T=>G _ _ _ _ _ _ _ hk I T) he
end
end Go.Proofs.Ytgmeimbamfggkaa.Den
