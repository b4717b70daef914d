import Derived.Test.YtgmeimbamfggkaaDen13f
import Derived.OrdersIn
import Derived.LoopNIn
namespace Go.Proofs.Ytgmeimbamfggkaa.Den
open Go
section
variable {w0 : World} {M0:Mem} {X:Fr} {s:St} {w:World} {M:Mem} {ι:Nat→Nat} {θ:Nat→Option Nat} {a:Act}
variable {P : Program} {ρ:Type} {r:ρ} {K:St→Option ρ} {N:Act→World→Prop} {Q:Exit→Act→World→Prop} {o:Oper} {Γ:Env} {E:Table} {dr:Bool}
theorem aDC (hΓ:EnvOk P Γ) (I:Inv w0 M0 X s w M ι θ) (T:TInv s w M ι θ a) (G:Goes w0 M0 X r K N) {src dst:TypeId} {x:Operand} (ho:o.op=.convert src dst x)
 (h:kTV K s o.dst (aB3 (s.ev none x) (Γ.ty src) (Γ.ty dst))=some r):o.wp P a w N Q:=by
 obtain ⟨y,hy,hk⟩:=aoq h
 unfold aB3 at hy
 have h1:=(abH T none x).1
 split at hy
 · rename_i k0 n k hx hd
   split at hy
   · rename_i k1 hs
     cases hy
     rw [hx] at h1
     have hu:=aj_ (hΓ.ty _ _ hs)
     have hu2:=aj_ (hΓ.ty _ _ hd)
     refine aaP I T G (v:=.int k (k.wrap n)) ?_ hk ⟨rfl,ayx k n⟩ rfl
     simp [execOp,ho,h1.1,convert,run_underlying hu,run_underlying hu2,Conv.intToInt]
   · cases hy
 · rename_i l hx hd
   split at hy
   · rename_i hs
     cases hy
     rw [hx] at h1
     have hu:=ag4 (hΓ.ty _ _ hs)
     have hu2:=ag4 (hΓ.ty _ _ hd)
     obtain ⟨p,h1,h2⟩:=h1
     refine aaP I T G (v:=.string p) ?_ hk ⟨p,rfl,h2⟩ rfl
     simp [execOp,ho,h1,convert,run_underlying hu,run_underlying hu2]
   · cases hy
 · rename_i l hx hd
   split at hy
   · rename_i hs
     cases hy
     exact aDK hΓ I T G ho hx hs hd hk
   · cases hy
 · rename_i f nl l hx hd
   split at hy
   · rename_i hs
     cases hy
     exact aG0 hΓ I T G ho hx hs hd hk
   · cases hy
 · cases hy
theorem aym (T:TInv s w M ι θ a) {x:Option Operand} {v:Option TV} {k:IntKind} {m:Int} {p d:Nat} (hx:x.map (s.ev none)=v) (hv:v=some (.int k m)) (hm:m=(p:Int)):bnd (x.map a.eval) d p:=by
 subst hv
 cases x with
 | none=>simp at hx
 | some x =>
   have hx:s.ev none x=.int k m:=Option.some.inj hx
   have h1:=(abH T none x).1
   rw [hx] at h1
   exact .inr ⟨k,by rw [Option.map_some,h1.1,hm]⟩
theorem au2 (T:TInv s w M ι θ a) {x:Option Operand} {k:IntKind} {m:Int} {p:Nat} (hx:(x.map (s.ev none)).getD (.int .i64 0)=.int k m) (hm:m=(p:Int)):bnd (x.map a.eval) 0 p:=by
 cases x with
 | none =>
   refine .inl ⟨rfl,?_⟩
   have hx:TV.int .i64 0=.int k m:=hx
   injection hx with _ h2
   omega
 | some x=>exact aym T rfl (congrArg some hx) hm
theorem aBh (hΓ:EnvOk P Γ) (I:Inv w0 M0 X s w M ι θ) (T:TInv s w M ι θ a) (G:Goes w0 M0 X r K N) {op:BinOp} {xt yt:TypeId} {X' Y':Operand} (ho:o.op=.binOp op xt X' Y' yt) {t:Ty} (htx:Γ.ty xt=some (.sl t))
 {p q:Option Addr} {n c n' c':Nat} (hx:a.eval X'=.slice p n c) (hy:a.eval Y'=.slice q n' c') (hq:q=none) :
 (op=.eql→K (s.put o.dst (.bool p.isNone))=some r→o.wp P a w N Q)∧(op=.neq→K (s.put o.dst (.bool (!p.isNone)))=some r→o.wp P a w N Q):=by
 subst hq
 obtain ⟨e,hu,_⟩:=agb (hΓ.ty _ _ htx)
 have hg:(eqGuard op xt X' Y' (a.eval X') (a.eval Y')).run P w=.ok () w:=by rw [hx,eqGuard_at_slice]; rfl
 constructor
 · rintro rfl h
   refine aaP I T G (adW ho hg (v:=.bool p.isNone) ?_) h rfl rfl
   rw [hx,hy]
   simp only [binOp,Op.equal,Op.maxDepth,Sem.run_bind,Lib.run_equalIn_slice_nil w 9999 xt e p _ _ _ _ hu]
   rfl
 · rintro rfl h
   refine aaP I T G (adW ho hg (v:=.bool (!p.isNone)) ?_) h rfl rfl
   rw [hx,hy]
   exact run_neq_slice_nil_any w xt e p _ _ _ _ hu
theorem aHE (hΓ:EnvOk P Γ) (I:Inv w0 M0 X s w M ι θ) (T:TInv s w M ι θ a) (G:Goes w0 M0 X r K N) {op:BinOp} {xt yt:TypeId} {X' Y':Operand} (ho:o.op=.binOp op xt X' Y' yt) {b:Bool} {z:TV}
 (hz:nilQ b (s.ev (Γ.ty xt) X') (s.ev (Γ.ty yt) Y')=some z) (h:nilK Γ s o.dst (Γ.ty xt) op z K=some r):o.wp P a w N Q:=by
 obtain ⟨hx,_,hw⟩:=abH T (Γ.ty xt) X'
 obtain ⟨hy,_,_⟩:=abH T (Γ.ty yt) Y'
 generalize s.ev (Γ.ty xt) X'=x at hx hw hz
 generalize s.ev (Γ.ty yt) Y'=y at hy hz
 unfold nilQ at hz
 split at hz
 · rename_i t f l t'
   cases b with
   | false=>cases hz
   | true =>
     cases hz
     obtain ⟨_,h⟩:=aaf (show must Γ.rw _=some r from h)
     split at h
     case isFalse=>cases h
     rename_i htx
     obtain ⟨p,c,hx,h3,h4,h5,h6,h7,h8⟩:=hx
     obtain ⟨q,c',hy,_,_,_,_,hnl',_⟩:=hy
     have hq:q=none:=by simpa using hnl' true rfl
     obtain ⟨k1,k2⟩:=aBh (K:=K) (N:=N) (Q:=Q) hΓ I T G ho htx hx hy hq
     have hp:l.isEmpty=false→p.isNone=false:=by
        intro hl
        cases p with
        | some _=>rfl
        | none =>
          have:=h5 rfl
          have hl0:l.length≠0:=by
            intro e
            rw [List.eq_nil_of_length_eq_zero e] at hl; cases hl
          omega
     split at h
     · refine k1 rfl ?_
       cases hl:l.isEmpty with
       | false=>rw [hl] at h; rw [hp hl]; exact h
       | true =>
         rw [hl] at h
         obtain ⟨e1,e2⟩:=asn h
         cases hpn:p.isNone
         · exact e2
         · exact e1
     · refine k2 rfl ?_
       cases hl:l.isEmpty with
       | false=>rw [hl] at h; rw [hp hl]; exact h
       | true =>
         rw [hl] at h
         obtain ⟨e1,e2⟩:=asn h
         cases hpn:p.isNone
         · exact e2
         · exact e1
     · cases h
 · rename_i t i t'
   cases b with
   | false=>cases hz
   | true =>
     cases hz
     obtain ⟨_,h⟩:=aaf (show must Γ.rr _=some r from h)
     split at h
     case isFalse=>cases h
     rename_i htx
     obtain ⟨l,hr,h⟩:=Option.bind_eq_some_iff.1 h
     obtain ⟨hl,h⟩:=aaf h
     obtain ⟨A,c,hx,h3,h4,h5,h6,h7⟩:=hw.2 l (abg hr)
     obtain ⟨q,c',hy,_,_,_,_,hnl',_⟩:=hy
     have hq:q=none:=by simpa using hnl' true rfl
     obtain ⟨k1,k2⟩:=aBh (K:=K) (N:=N) (Q:=Q) hΓ I T G ho htx hx hy hq
     have hp:A.isNone=false:=by
        cases A with
        | some _=>rfl
        | none =>
          have:=h6 rfl
          have hl0:l.length≠0:=by
            intro e
            rw [List.eq_nil_of_length_eq_zero e] at hl; cases hl
          omega
     rw [hp] at k1 k2
     split at h
     · exact k1 rfl h
     · exact k2 rfl h
     · cases h
 · rename_i t p n i t'
   cases b with
   | false=>cases hz
   | true =>
     cases hz
     obtain ⟨_,h⟩:=aaf (show must Γ.rw _=some r from h)
     split at h
     case isFalse=>cases h
     rename_i htx
     obtain ⟨l,hr,h⟩:=Option.bind_eq_some_iff.1 h
     obtain ⟨A,c,hx,h3,h4,h5,h6,h7⟩:=hw.2 l (abg hr)
     obtain ⟨q,c',hy,_,_,_,_,hnl',_⟩:=hy
     have hq:q=none:=by simpa using hnl' true rfl
     obtain ⟨k1,k2⟩:=aBh (K:=K) (N:=N) (Q:=Q) hΓ I T G ho htx hx hy hq
     have hp:Nat.beq n 0=false→A.isNone=false:=by
        intro hn
        cases A with
        | some _=>rfl
        | none =>
          have:=h6 rfl
          have hn0:n=0:=by omega
          subst hn0; cases hn
     split at h
     · refine k1 rfl ?_
       cases hl:Nat.beq n 0 with
       | false=>rw [hl] at h; rw [hp hl]; exact h
       | true =>
         rw [hl] at h
         obtain ⟨e1,e2⟩:=asn h
         cases hpn:A.isNone
         · exact e2
         · exact e1
     · refine k2 rfl ?_
       cases hl:Nat.beq n 0 with
       | false=>rw [hl] at h; rw [hp hl]; exact h
       | true =>
         rw [hl] at h
         obtain ⟨e1,e2⟩:=asn h
         cases hpn:A.isNone
         · exact e2
         · exact e1
     · cases h
 · cases hz
theorem aFr (hΓ:EnvOk P Γ) (I:Inv w0 M0 X s w M ι θ) (T:TInv s w M ι θ a) (G:Goes w0 M0 X r K N) {n:TypeId} {x:Operand} {lo hi mx:Option Operand} (ho:o.op=.slice n x lo hi mx)
 (h:awl (Γ.ty n) s o.dst (s.ev (Γ.ty n) x) (lo.map (s.ev none)) (hi.map (s.ev none)) (mx.map (s.ev none)) K=some r):o.wp P a w N Q:=by
 unfold awl at h
 split at h
 · rename_i t f nl l k m hx hl
   split at h
   · rename_i hn
     split at h
     · rename_i hh hm
       obtain ⟨z,hz,hk⟩:=Option.bind_eq_some_iff.1 h
       obtain ⟨p,q,e1,e2,e3,e4,rfl⟩:=au7 hz
       have e2:q=l.length:=by omega
       have hi0:hi=none:=by cases hi <;> simp_all
       have mx0:mx=none:=by cases mx <;> simp_all
       subst hi0 mx0
       refine aqq hΓ I T G ho hx hn (m:=0) (au2 T hl e1) (.inl ⟨rfl,e2⟩) (.inl rfl) e3 e4 ?_ hk
       cases f with
       | sh=>exact .inl rfl
       | full=>exact .inr (.inl ⟨rfl,.inl ⟨rfl,rfl,rfl⟩⟩)
       | own q0=>exact .inr (.inr ⟨q0,rfl,rfl,rfl,rfl⟩)
     · rename_i k2 m2 hh hm
       obtain ⟨z,hz,hk⟩:=Option.bind_eq_some_iff.1 h
       obtain ⟨p,q,e1,e2,e3,e4,rfl⟩:=au7 hz
       have mx0:mx=none:=by cases mx <;> simp_all
       subst mx0
       exact aqq hΓ I T G ho hx hn (m:=0) (au2 T hl e1) (aym T hh rfl e2) (.inl rfl) e3 e4 (.inl rfl) hk
     · rename_i k2 m2 k3 m3 hh hm
       cases hb:beqI m2 m3 with
       | false=>rw [hb] at h; cases h
       | true =>
         rw [hb] at h
         have hb:m2=m3:=by simpa [beqI] using hb
         subst hb
         obtain ⟨z,hz,hk⟩:=Option.bind_eq_some_iff.1 h
         obtain ⟨p,q,e1,e2,e3,e4,rfl⟩:=au7 hz
         have mx0:mx≠none:=by intro h; simp [h] at hm
         have hi0:hi≠none:=by intro h; simp [h] at hh
         exact aqq hΓ I T G ho hx hn (m:=q) (au2 T hl e1) (aym T hh rfl e2) (.inr ⟨hi0,rfl,aym T hm rfl e2,mx0⟩) e3 e4 (.inr (.inl ⟨rfl,.inr mx0⟩)) hk
     · cases h
   · cases h
 · rename_i l k m hx hl
   split at h
   · rename_i hn
     split at h
     · rename_i hh hm
       obtain ⟨z,hz,hk⟩:=Option.bind_eq_some_iff.1 h
       obtain ⟨p,q,e1,e2,e3,e4,rfl⟩:=au7 hz
       have e2:q=l.length:=by omega
       have hi0:hi=none:=by cases hi <;> simp_all
       have mx0:mx=none:=by cases mx <;> simp_all
       subst hi0 mx0
       exact awk hΓ I T G ho hx hn (au2 T hl e1) (.inl ⟨rfl,e2⟩) e3 e4 hk
     · rename_i k2 m2 hh hm
       obtain ⟨z,hz,hk⟩:=Option.bind_eq_some_iff.1 h
       obtain ⟨p,q,e1,e2,e3,e4,rfl⟩:=au7 hz
       have mx0:mx=none:=by cases mx <;> simp_all
       subst mx0
       exact awk hΓ I T G ho hx hn (au2 T hl e1) (aym T hh rfl e2) e3 e4 hk
     · cases h
   · cases h
 · cases h
theorem ayb {p q:Int} {n:Nat} (h:inC p q n=true):0≤p∧p≤q∧q≤n:=by
 unfold inC at h
 rw [Bool.and_eq_true,Bool.and_eq_true,decide_eq_true_eq,decide_eq_true_eq,decide_eq_true_eq] at h
 exact ⟨h.1.1,h.1.2,h.2⟩
theorem aFt (hΓ:EnvOk P Γ) (I:Inv w0 M0 X s w M ι θ) (T:TInv s w M ι θ a) (G:Goes w0 M0 X r K N) {n:TypeId} {x:Operand} {lo hi mx:Option Operand} (ho:o.op=.slice n x lo hi mx) {t:Ty} {rf:Rf} {i:Nat}
 (hx:s.ev (Γ.ty n) x=.ref rf i) (hn:Γ.ty n=some (.sl t)) (h:aqJ s o.dst t rf i ((lo.map (s.ev none)).getD (.int .i64 0)) (hi.map (s.ev none)) (mx.map (s.ev none)) K=some r):o.wp P a w N Q:=by
 unfold aqJ at h
 split at h
 · rename_i t' k p hl
   split at h
   · rename_i ht
     subst ht
     obtain ⟨l,hr,h⟩:=Option.bind_eq_some_iff.1 h
     have hr:=abg hr
     split at h
     · rename_i hh hm
       obtain ⟨hc,hK⟩:=aaf h
       obtain ⟨c1,c2,c3⟩:=ayb hc
       have hi0:hi=none:=by cases hi <;> simp_all
       have mx0:mx=none:=by cases mx <;> simp_all
       subst hi0 mx0
       exact ao3 hΓ I T G ho hx hr (.inl ⟨rfl,rfl,rfl⟩) hn (au2 T hl (by omega:p=(p.toNat:Int))) (.inl ⟨rfl,rfl⟩) (by omega) (Nat.le_refl _) (by rw [Nat.zero_add]; exact hK)
     · rename_i k2 q hh hm
       obtain ⟨hc,hK⟩:=aaf h
       obtain ⟨c1,c2,c3⟩:=ayb hc
       have mx0:mx=none:=by cases mx <;> simp_all
       subst mx0
       exact ao3 hΓ I T G ho hx hr (.inl ⟨rfl,rfl,rfl⟩) hn (au2 T hl (by omega:p=(p.toNat:Int))) (aym T hh rfl (by omega:q=(q.toNat:Int))) (by omega) (by omega) (by rw [Nat.zero_add]; exact hK)
     · cases h
   · cases h
 · rename_i t' d m k p hl
   split at h
   · rename_i ht
     subst ht
     obtain ⟨l,hr,h⟩:=Option.bind_eq_some_iff.1 h
     have hr:=abg hr
     split at h
     · rename_i hh hm
       obtain ⟨hc,hK⟩:=aaf h
       obtain ⟨c1,c2,c3⟩:=ayb hc
       have hi0:hi=none:=by cases hi <;> simp_all
       have mx0:mx=none:=by cases mx <;> simp_all
       subst hi0 mx0
       exact ao3 hΓ I T G ho hx hr (.inr rfl) hn (au2 T hl (by omega:p=(p.toNat:Int))) (.inl ⟨rfl,rfl⟩) (by omega) (Nat.le_refl _) hK
     · rename_i k2 q hh hm
       obtain ⟨hc,hK⟩:=aaf h
       obtain ⟨c1,c2,c3⟩:=ayb hc
       have mx0:mx=none:=by cases mx <;> simp_all
       subst mx0
       exact ao3 hΓ I T G ho hx hr (.inr rfl) hn (au2 T hl (by omega:p=(p.toNat:Int))) (aym T hh rfl (by omega:q=(q.toNat:Int))) (by omega) (by omega) hK
     · cases h
   · cases h
 · cases h
theorem ac4 {α:Type} {xs:Array α} {l:List α} (h:xs.toList=l):xs=l.toArray:=by rw [← h]
theorem aHI (hΓ:EnvOk P Γ) (I:Inv w0 M0 X s w M ι θ) (T:TInv s w M ι θ a) (G:Goes w0 M0 X r K N)
 (hcall:∀ f args ns,o.op=.call { callee:=.value f,args:=args,argTypes:=ns } →
  aqO E dr Γ.lo s o.dst (s.ev none f) (s.evs Γ.ty args.toList ns.toList) K=some r→o.wp P a w N Q)
 (h:opK Γ E dr o s K=some r):o.wp P a w N Q:=by
 unfold opK at h
 split at h
 · rename_i x ho; exact aBE I T G (.inl ho) h
 · rename_i x ho
   split at h
   · exact aBE I T G (.inr ho) h
   · obtain ⟨_,h⟩:=aaf h
     unfold rowK at h
     split at h
     · rename_i t nl l hx
       obtain ⟨hl,h⟩:=aaf h
       have hl:l=[]:=List.isEmpty_iff.1 hl
       subst hl
       split at h
       · exact aAM I T G ho hx (.inl ⟨rfl,rfl,rfl⟩) h
       · exact aAM I T G ho hx (.inr rfl) h
     · exact aBE I T G (.inr ho) h
 · rename_i c x y ho
   split at h
   · rename_i b hb; exact aH3 I T G ho hb h
   · cases h
 · rename_i op xt x y yt ho
   split at h
   · rename_i z hz
     exact aHE hΓ I T G ho hz h
   · exact aHj hΓ I T G ho (abH T _ x).1 (abH T _ y).1 h
 · rename_i n x ho
   split at h
   · rename_i b hb; exact aJx I T G ho hb h
   · cases h
 · rename_i n x ho
   split at h
   · rename_i k m hb; exact aJw I T G ho hb h
   · cases h
 · rename_i n x ho
   split at h
   · rename_i k m hb; exact aJy I T G ho hb h
   · cases h
 · rename_i src dst x ho
   cases hr:aHw (s.ev none x) with
   | false=>rw [hr] at h; exact aDC hΓ I T G ho h
   | true =>
     rw [hr] at h
     have h:(match Γ.ty src,Γ.ty dst with
        | some (.sl (.int .u8)),some .str=>must Γ.rw ((srcV s.S (.int .u8) (s.ev none x)).bind fun l=>K (s.put o.dst (.str l)))
        | some (.sl (.int .u8)),some (.sl _)=>must Γ.rw (aI6 s o.dst (Nat.beq src dst) (s.ev none x) K)
        | _,_=>none)=some r:=h
     split at h
     · rename_i hs hd
       obtain ⟨_,h⟩:=aaf h
       obtain ⟨l,hl,hk⟩:=Option.bind_eq_some_iff.1 h
       exact aFq hΓ I T G ho hl hs hd hk
     · rename_i hs hd
       obtain ⟨_,h⟩:=aaf h
       unfold aI6 at h
       split at h
       · rename_i i hx
         obtain ⟨l,hl,h⟩:=Option.bind_eq_some_iff.1 h
         obtain ⟨hb,hk⟩:=aaf h
         rw [Bool.and_eq_true,Nat.beq_eq] at hb
         obtain ⟨rfl,hne⟩:=hb
         exact aH2 hΓ I T G ho hx (abg hl) (fun e=>by rw [e] at hne; cases hne) hs hk
       · cases h
     · cases h
 · rename_i e ho
   split at h
   · rename_i t ht; exact aGU hΓ I T G ho ht h
   · split at h
     · rename_i b m en hn; exact aFj hΓ I T G ho hn h
     · cases h
 · rename_i e x ho
   split at h
   · rename_i t ht
     split at h
     · rename_i y hy
       cases hr:Nat.blt 15 (o.dst.elim 0 Γ.row) with
       | true =>
         rw [hr] at h
         obtain ⟨_,h⟩:=aaf h
         exact aH1 hΓ I T G ho hy h
       | false =>
         rw [hr] at h
         exact aJv hΓ I T G ho hy h
     · cases h
   · cases h
 · rename_i n ps ho
   split at h
   · rename_i b hb
     cases hm:Nat.beq (o.dst.elim 0 Γ.row) 3 with
     | true =>
       rw [hm] at h
       obtain ⟨_,h⟩:=aaf h
       split at h
       · rename_i zs hz; exact aDB hΓ I T G ho hb hz h
       · cases h
     | false =>
       rw [hm] at h
       simp only [cond_false] at h
       split at h
       · rename_i x hx; exact aGW hΓ I T G ho hb hx h
       · cases h
   · split at h
     · rename_i b m en hn
       split at h
       · rename_i x hx; exact aFl hΓ I T G ho hn hx h
       · cases h
     · cases h
 · rename_i n len ps ho
   split at h
   · rename_i t ht
     split at h
     · rename_i l hl
       cases hb:Nat.ble (len * t.size) 16777216 with
       | false=>rw [hb] at h; cases h
       | true =>
         rw [hb] at h
         simp only [cond_true] at h
         split at h
         · exact aAd hΓ I T G ho ht hl hb h
         · obtain ⟨_,hk⟩:=aaf h
           exact aCQ hΓ I T G ho ht hl hb hk
     · cases h
   · cases h
 · rename_i n x ho
   split at h
   · rename_i t v hx
     split at h
     · rename_i hn; exact aFo hΓ I T G ho hx hn h
     · cases h
   · rename_i i p hx
     obtain ⟨_,h⟩:=aaf h
     split at h
     · rename_i cs hs
       obtain ⟨hp,h⟩:=aaf h
       obtain ⟨v,hv,hk⟩:=aoq h
       exact aDH hΓ I T G ho hx hs hp hv hk
     · cases h
   · rename_i t j i hx
     obtain ⟨_,h⟩:=aaf h
     split at h
     · rename_i hn
       obtain ⟨l,hl,h⟩:=Option.bind_eq_some_iff.1 h
       obtain ⟨y,hy,hk⟩:=Option.bind_eq_some_iff.1 h
       exact aDG hΓ I T G ho hx (abg hl) hn hy hk
     · cases h
   · rename_i b j f i hx
     obtain ⟨_,h⟩:=aaf h
     split at h
     · rename_i hn
       obtain ⟨l,hl,h⟩:=Option.bind_eq_some_iff.1 h
       obtain ⟨y,hy,h⟩:=Option.bind_eq_some_iff.1 h
       obtain ⟨z,hz,hk⟩:=aoq h
       exact aCV hΓ I T G ho hx (abg hl) hn hy hz hk
     · cases h
   · cases h
 · rename_i n x y ho
   split at h
   · rename_i t j i hx
     obtain ⟨_,h⟩:=aaf h
     split at h
     · rename_i hn
       unfold axJ at h
       obtain ⟨l,hl,h⟩:=Option.bind_eq_some_iff.1 h
       obtain ⟨z,hz,h⟩:=Option.bind_eq_some_iff.1 h
       obtain ⟨hj,hk⟩:=aaf h
       exact aCX hΓ I T G ho hx (abg hl) hn hz (by simpa using hj) hk
     · cases h
   · rename_i b j f i hx
     obtain ⟨_,h⟩:=aaf h
     split at h
     · rename_i hn
       unfold axI at h
       obtain ⟨l,hl,h⟩:=Option.bind_eq_some_iff.1 h
       obtain ⟨y,hy,h⟩:=Option.bind_eq_some_iff.1 h
       obtain ⟨z,hz,hk⟩:=Option.bind_eq_some_iff.1 h
       exact aBF hΓ I T G ho hx (abg hl) hn hy hz hk
     · cases h
   · rename_i i p hx
     split at h
     · rename_i cs vs hs hv
       split at h
       · rename_i cs' hsp
         cases hst:(!Γ.lo i&&(plain cs&&asH Γ n (s.ev (Γ.ty n) y))) with
         | false=>rw [hst] at h; cases h
         | true =>
           rw [hst] at h
           rw [Bool.and_eq_true,Bool.and_eq_true] at hst
           exact aGZ hΓ I T G ho hx hs hst.2.1 hv hsp hst.2.2 h
       · cases h
     · cases h
   · cases h
 · rename_i x ho
   split at h
   · rename_i i p hx; exact aDJ I T G ho (.inl ⟨i,p,hx⟩) (by rw [hx]; exact h)
   · rename_i t v hx; exact aDJ I T G ho (.inr (.inl ⟨t,v,hx⟩)) (by rw [hx]; exact h)
   · rename_i t j f i hx; exact aDJ I T G ho (.inr (.inr ⟨t,j,f,i,hx⟩)) (by rw [hx]; exact h)
   · cases h
 · rename_i n x f ho
   split at h
   · rename_i i p hx
     split at h
     · rename_i q hq; exact aCT hΓ I T G ho hx hq h
     · cases h
   · rename_i b v hx
     split at h
     · rename_i hn
       obtain ⟨q,hq,hk⟩:=aoq h
       exact aDE hΓ I T G ho hx hn hq hk
     · cases h
   · rename_i b j i hx
     split at h
     · rename_i q hq
       obtain ⟨he,hk⟩:=aaf h
       rw [Nat.beq_eq] at he
       exact aCS hΓ I T G ho hx hq he hk
     · cases h
   · cases h
 · rename_i n x f ho
   split at h
   · rename_i b v hx
     split at h
     · rename_i hn
       obtain ⟨q,hq,hk⟩:=aoq h
       exact aDF hΓ I T G ho hx hn hq hk
     · cases h
   · cases h
 · rename_i n x y ho
   split at h
   · rename_i t f nl l k j hx hy
     split at h
     · rename_i hn
       obtain ⟨v,hv,hk⟩:=Option.bind_eq_some_iff.1 h
       exact aBB hΓ I T G ho hx hy hn hv hk
     · cases h
   · rename_i t i k j hx hy
     obtain ⟨_,h⟩:=aaf h
     split at h
     · rename_i hn
       obtain ⟨l,hl,h⟩:=Option.bind_eq_some_iff.1 h
       obtain ⟨hj,hk⟩:=aaf h
       exact atJ hΓ I T G ho hx (abg hl) (p:=0) (.inl ⟨rfl,rfl,rfl⟩) hy hn hj (by rw [Nat.zero_add]; exact hk)
     · cases h
   · rename_i t p m i k j hx hy
     obtain ⟨_,h⟩:=aaf h
     split at h
     · rename_i hn
       obtain ⟨l,hl,h⟩:=Option.bind_eq_some_iff.1 h
       obtain ⟨hj,hk⟩:=aaf h
       exact atJ hΓ I T G ho hx (abg hl) (.inr rfl) hy hn hj hk
     · cases h
   · rename_i i z k j hx hy
     split at h
     · rename_i b m en hn
       obtain ⟨p,rfl,_,_,h⟩:=ayj h
       split at h
       · rename_i t d hq; exact aAe hΓ I T G ho hx hy hn hq h
       · cases h
     · cases h
   · rename_i t i k j hx hy
     split at h
     · rename_i hn
       obtain ⟨hj,hk⟩:=aaf h
       have hj:j=0:=by simpa [beqI] using hj
       subst hj
       exact aCU hΓ I T G ho hx hy hn hk
     · cases h
   · cases h
 · rename_i n ho
   split at h
   · rename_i kt vt k e hn; exact aDI I T G ho h
   · cases h
 · rename_i n x i ok ho
   split at h
   · rename_i kt vt k e k1 v1 g hn hx
     obtain ⟨l,hl,h⟩:=Option.bind_eq_some_iff.1 h
     obtain ⟨y,hy,h⟩:=Option.bind_eq_some_iff.1 h
     exact aFp hΓ I T G ho hn hx hl hy h
   · cases h
 · rename_i n x i v ho
   split at h
   · rename_i kt vt k e k1 v1 g hn hx
     obtain ⟨_,h⟩:=aaf h
     obtain ⟨l,hl,h⟩:=Option.bind_eq_some_iff.1 h
     obtain ⟨y,hy,h⟩:=Option.bind_eq_some_iff.1 h
     obtain ⟨z,hz,h⟩:=Option.bind_eq_some_iff.1 h
     exact awj hΓ I T G (.inl ho) hn hx hl hy hz h
   · cases h
 · rename_i n x i v ho
   split at h
   · rename_i kt vt k e k1 v1 g hn hx
     obtain ⟨_,h⟩:=aaf h
     obtain ⟨l,hl,h⟩:=Option.bind_eq_some_iff.1 h
     obtain ⟨y,hy,h⟩:=Option.bind_eq_some_iff.1 h
     obtain ⟨z,hz,h⟩:=Option.bind_eq_some_iff.1 h
     exact awj hΓ I T G (.inr ho) hn hx hl hy hz h
   · cases h
 · rename_i n x y ho
   split at h
   · rename_i t k p k' q hn hx hy
     unfold aGh at h
     obtain ⟨hb,hK⟩:=aaf h
     rw [Bool.and_eq_true,decide_eq_true_eq] at hb
     have hpq:p=q:=by have:=hb.2; simpa [beqI] using this
     subst hpq
     unfold lim at hK
     split at hK
     · rename_i hl
       exact aBD hΓ I T G ho hn hx hy hb.1 hl hK
     · cases hK
   · cases h
 · rename_i n x y ho
   split at h
   · rename_i l k j hx hy
     split at h
     · rename_i hn
       obtain ⟨v,hv,hk⟩:=Option.bind_eq_some_iff.1 h
       exact aGX hΓ I T G ho hx hy hn hv hk
     · cases h
   · rename_i b v k j hx hy
     split at h
     · rename_i b' m en hn
       split at h
       · rename_i hbb
         subst hbb
         obtain ⟨p,rfl,_,_,h⟩:=ayj h
         obtain ⟨q,hq,hk⟩:=aoq h
         exact aFm hΓ I T G ho hx hy hn hq hk
       · cases h
     · cases h
   · cases h
 · rename_i n x lo hi mx ho
   split at h
   · rename_i rf i hx
     split at h
     · rename_i t hn
       obtain ⟨_,h⟩:=aaf h
       exact aFt hΓ I T G ho hx hn h
     · cases h
   · exact aFr hΓ I T G ho h
 · rename_i f first caps ho
   split at h
   · rename_i hf
     have hf:first=#[]:=ac4 hf
     subst hf
     exact aCW I T G ho h
   · cases h
 · rename_i x i ho
   split at h
   · rename_i l hx
     split at h
     · rename_i v hv; exact aDD I T G ho hx hv h
     · cases h
   · cases h
 · rename_i args ns ho
   split at h
   · rename_i x n h1 h2
     have h1:=ac4 h1
     have h2:=ac4 h2
     subst h1 h2
     split at h
     · rename_i t f nl l hx
       split at h
       · rename_i hn
         obtain ⟨e,he,_⟩:=agb (hΓ.ty _ _ hn)
         exact aGY I T G ho (.inl ⟨t,f,nl,l,hx,rfl,e,he⟩) h
       · cases h
     · rename_i l hx
       split at h
       · rename_i hn
         exact aGY I T G ho (.inr ⟨l,hx,rfl,ag4 (hΓ.ty _ _ hn)⟩) h
       · cases h
     · rename_i t i hx
       obtain ⟨_,h⟩:=aaf h
       split at h
       · rename_i hn
         obtain ⟨l,hl,hk⟩:=Option.bind_eq_some_iff.1 h
         obtain ⟨h1,_,h3⟩:=abH T none x
         rw [hx] at h1 h3
         obtain ⟨A,c,e1,e2,e3,e4,_⟩:=apl I h1 h3 (abg hl) (.inl ⟨rfl,rfl,rfl⟩)
         exact aBC hΓ I T G ho hx ⟨A,c,e1,Nat.le_trans e2 e4⟩ hn hk
       · cases h
     · rename_i t p m i hx
       obtain ⟨_,h⟩:=aaf h
       split at h
       · rename_i hn
         obtain ⟨l,hl,hk⟩:=Option.bind_eq_some_iff.1 h
         obtain ⟨h1,_,h3⟩:=abH T none x
         rw [hx] at h1 h3
         obtain ⟨A,c,e1,e2,e3,e4,_⟩:=apl I h1 h3 (abg hl) (.inr rfl)
         exact aBC hΓ I T G ho hx ⟨A,c,e1,Nat.le_trans e2 e4⟩ hn hk
       · cases h
     · rename_i t i hx
       split at h
       · rename_i hn
         exact aFn hΓ I T G ho hx hn h
       · cases h
     · cases h
   · cases h
 · rename_i args ns ho
   split at h
   · rename_i x y n m h1 h2
     have h1:=ac4 h1
     have h2:=ac4 h2
     subst h1 h2
     unfold afj at h
     split at h
     · rename_i t f nl l hx
       split at h
       · rename_i hn
         obtain ⟨rfl,hn⟩:=hn
         obtain ⟨l2,hy,h⟩:=Option.bind_eq_some_iff.1 h
         cases hd:o.dst.elim 0 Γ.row with
         | zero =>
           rw [hd] at h
           have h:appK s o.dst t f nl l l2 K=some r:=h
           unfold appK at h
           cases hs:agy s f with
           | false=>rw [hs] at h; cases h
           | true =>
             rw [hs] at h
             have h:lim _ _=some r:=h
             unfold lim at h
             split at h
             · rename_i hl
               exact aFk hΓ I T G ho hx hy hn hs hl h
             · cases h
         | succ k =>
           rw [hd] at h
           cases f with
           | sh=>cases h
           | own q=>cases h
           | full =>
             have h:(bif Nat.beq (k+1) 4 then must Γ.rw (aBU s o.dst t l l2 K) else must Γ.ra (appN (k+1) s o.dst t l l2 K))=some r:=h
             cases hb4:Nat.beq (k+1) 4 with
             | true =>
               rw [hb4] at h
               obtain ⟨_,h⟩:=aaf h
               unfold aBU at h
               split at h
               · obtain ⟨hst,h⟩:=aaf h
                 exact aGV hΓ I T G ho hx hy hn hst h
               · cases h
             | false =>
             rw [hb4] at h
             obtain ⟨_,h⟩:=aaf h
             unfold appN at h
             obtain ⟨hl0,h⟩:=aaf h
             have hl0:l=[]:=List.isEmpty_iff.1 hl0
             subst hl0
             unfold lim at h
             split at h
             · rename_i hl
               split at h
               · exact aEK hΓ I T G ho hx hy hn hl (.inl ⟨rfl,rfl,rfl⟩) h
               · exact aEK hΓ I T G ho hx hy hn hl (.inr rfl) h
             · cases h
       · cases h
     · rename_i rf i hx
       split at h
       · rename_i t hn
         split at h
         · rename_i hnm
           subst hnm
           obtain ⟨_,h⟩:=aaf h
           obtain ⟨l2,hy,h⟩:=Option.bind_eq_some_iff.1 h
           unfold appR at h
           split at h
           · rename_i t' i' e
             cases e
             split at h
             · rename_i ht
               subst ht
               obtain ⟨l,hr,h⟩:=Option.bind_eq_some_iff.1 h
               unfold lim at h
               split at h
               · rename_i hl
                 exact aAL hΓ I T G ho hx (abg hr) (.inl ⟨rfl,rfl,rfl⟩) hy hn hl (aIF l l2).symm (.inl ⟨rfl,rfl,by simp⟩) h
               · cases h
             · cases h
           · rename_i t' m i' e
             cases e
             split at h
             · rename_i ht
               subst ht
               obtain ⟨l,hr,h⟩:=Option.bind_eq_some_iff.1 h
               unfold lim at h
               split at h
               · rename_i hl
                 exact aAL hΓ I T G ho hx (abg hr) (.inr rfl) hy hn hl rfl (.inr rfl) h
               · cases h
             · cases h
           · cases h
         · cases h
       · cases h
     · cases h
   · cases h
 · rename_i args ns ho
   split at h
   · rename_i x y n m h1 h2
     have h1:=ac4 h1
     have h2:=ac4 h2
     subst h1 h2
     unfold atU at h
     split at h
     · rename_i t i t' hx hn
       obtain ⟨_,h⟩:=aaf h
       split at h
       · rename_i ht
         obtain ⟨rfl,rfl⟩:=ht
         obtain ⟨l,hr,h⟩:=Option.bind_eq_some_iff.1 h
         obtain ⟨l2,hy,hk⟩:=Option.bind_eq_some_iff.1 h
         exact aEL hΓ I T G ho hx (abg hr) (.inl ⟨rfl,rfl,rfl⟩) hy hn hk
       · cases h
     · rename_i t p k i t' hx hn
       obtain ⟨_,h⟩:=aaf h
       split at h
       · rename_i ht
         obtain ⟨rfl,rfl⟩:=ht
         obtain ⟨l,hr,h⟩:=Option.bind_eq_some_iff.1 h
         obtain ⟨l2,hy,hk⟩:=Option.bind_eq_some_iff.1 h
         exact aEL hΓ I T G ho hx (abg hr) (.inr rfl) hy hn hk
       · cases h
     · cases h
   · cases h
 · rename_i args ns ho
   split at h
   · rename_i x n h1 h2
     have h1:=ac4 h1
     have h2:=ac4 h2
     subst h1 h2
     unfold ani at h
     split at h
     · rename_i t i t' hx hn
       obtain ⟨_,h⟩:=aaf h
       split at h
       · rename_i ht
         subst ht
         obtain ⟨l,hr,hk⟩:=Option.bind_eq_some_iff.1 h
         exact aCR hΓ I T G ho hx (abg hr) (.inl ⟨rfl,rfl,rfl⟩) hn hk
       · cases h
     · rename_i t p k i t' hx hn
       obtain ⟨_,h⟩:=aaf h
       split at h
       · rename_i ht
         subst ht
         obtain ⟨l,hr,hk⟩:=Option.bind_eq_some_iff.1 h
         exact aCR hΓ I T G ho hx (abg hr) (.inr rfl) hn hk
       · cases h
     · cases h
   · cases h
 · rename_i args ns ho
   split at h
   · rename_i x y h1
     have h1:=ac4 h1
     subst h1
     split at h
     · rename_i k p k' q hx hy
       split at h
       · rename_i hk; subst hk; exact aKc I T G ho hx hy h
       · cases h
     · cases h
   · cases h
 · rename_i args ns ho
   split at h
   · rename_i x y h1
     have h1:=ac4 h1
     subst h1
     split at h
     · rename_i k p k' q hx hy
       split at h
       · rename_i hk; subst hk; exact aKd I T G ho hx hy h
       · cases h
     · cases h
   · cases h
 · rename_i f args ns ho; exact hcall f args ns ho h
 · cases h
def FR (ro:Option Nat):Fence:={ Fence.wide with round:=ro }
theorem aAS {ro:Option Nat} {n:Nat} {g:FuncId} {args:Array Value} {w:World} {R:Ending→World→Prop}:CallsIn (FR ro) n P g args w R↔Calls P g args w R :=
 (show CallsIn (FR ro) n P g args w R↔CallsIn Fence.wide n P g args w R from Iff.rfl).trans callsIn_wide
theorem aJs {ro:Option Nat} {n:Nat} {row:String} {args:Array Value} {w:World} {R:Value→World→Prop} (h:Rows P row args w R):RowsIn (FR ro) n P row args w R :=
 fun c cs _=>let ⟨v,w',r,s⟩:=h c cs; ⟨v,w',r,(stepsIn_wide.2 s:StepsIn (Machine.fenced P Fence.wide) P _ _)⟩
theorem aC2 {ro:Option Nat} (hd:∀ c,o.op≠.defer c) (h:o.wp P a w N Q):o.wpIn (FR ro) 0 P a w N Q:=by
 refine ⟨fun _ _=>trivial,?_⟩
 rw [Oper.semAt_eq _ _ _ hd]
 unfold Oper.wp at h
 generalize (execOp a.eval o).run P w=r at h
 cases r with
 | ok x w' =>
   cases x <;> simp only [Oper.upon,Oper.uponIn] at h ⊢ <;>
    first
        | exact h
        | exact ⟨nofun,aAS.2 h⟩
        | exact ⟨nofun,aJs h⟩
        | exact h.elim
 | halt x w'=>cases x <;> simp only [Oper.upon,Oper.uponIn] at h ⊢ <;> exact h
theorem aJg (ro:Option Nat) (hΓ:EnvOk P Γ) (I:Inv w0 M0 X s w M ι θ) (T:TInv s w M ι θ a) (G:Goes w0 M0 X r K N)
 (hcall:∀ f args ns,o.op=.call { callee:=.value f,args:=args,argTypes:=ns } →
  aqO E dr Γ.lo s o.dst (s.ev none f) (s.evs Γ.ty args.toList ns.toList) K=some r→o.wpIn (FR ro) 0 P a w N Q)
 (h:opK Γ E dr o s K=some r):o.wpIn (FR ro) 0 P a w N Q:=by
 by_cases hc:∃ f args ns,o.op=.call { callee:=.value f,args:=args,argTypes:=ns }
 · obtain ⟨f,args,ns,ho⟩:=hc
   refine hcall f args ns ho ?_
   simp only [opK,ho] at h
   exact h
 · refine aC2 (fun c hd=>?_) (aHI hΓ I T G (fun f args ns ho _=>absurd ⟨f,args,ns,ho⟩ hc) h)
   simp only [opK,hd] at h
   cases h
end
end Go.Proofs.Ytgmeimbamfggkaa.Den
