import Derived.Test.YtgmeimbamfggkaaDen10b
namespace Go.Proofs.Ytgmeimbamfggkaa.Den
open Go
set_option linter.unusedVariables false
set_option linter.unusedSimpArgs false
section
variable {w0 : World} {M0:Mem} {X:Fr} {s:St} {w:World} {M:Mem} {ι:Nat→Nat} {θ:Nat→Option Nat} {a:Act}
variable {P : Program} {ρ:Type} {r:ρ} {K:St→Option ρ} {N:Act→World→Prop} {Q:Exit→Act→World→Prop} {o:Oper} {Γ:Env}
theorem an_ (t ty e:TypeId) (i:TypeInfo) (ht:P.underlying t=some (.slice e)) (hi:P.info? e=some i) (p q:Option Addr) (n c c2:Nat) (h:n≤c) :
 (Builtin.append_ #[t,t] ty #[.slice p n c,.slice q 0 c2]).run P w=.ok (.slice p n c) w:=by
 have h0:∀ b:Addr,(loadCells b 0).run P w=.ok #[] w:=fun b=>rfl
 cases p <;> cases q <;> simp [Builtin.append_,run_underlying ht,sizeOf,typeInfo,hi,Builtin.lenOf,h,Builtin.firstCells,h0,storeCells]
theorem ap3 (t ty e e':TypeId) (i:TypeInfo) (ht:P.underlying t=some (.slice e)) (hi:P.info? e=some i)
 (g p0 sLen sCap:Nat) (cur:Array Value) (hg:w.heap[g]?=some (.cells cur e' (0,0)))
 (b:Addr) (m c:Nat) (news:List Value) (hl:news.length=m * i.size) (hnews:∀ (j:Nat) u,news[j]?=some u→w.cell? (b.add j)=some u) (h1:∀ u∈news,u.oneCell'=true)
 (hroom:sLen+m≤sCap) (hfit:p0+sLen * i.size+news.length≤cur.size) :
 (Builtin.append_ #[t,t] ty #[.slice (some ⟨g,p0,none⟩) sLen sCap,.slice (some b) m c]).run P w =
  .ok (.slice (some ⟨g,p0,none⟩) (sLen+m) sCap) (w.setRow g (cur.toList.take (p0+sLen * i.size)++news++cur.toList.drop (p0+sLen * i.size+news.length)).toArray):=by
 have hf:=run_firstCells_some (P:=P) w i.size m b m c news hl hnews
 have hst:=run_storeCells_at (P:=P) g (p0+sLen * i.size) e' news 0 cur w hg (by simpa using hfit) h1
 simp only [Nat.add_zero] at hst
 simp [Builtin.append_,run_underlying ht,sizeOf,typeInfo,hi,Builtin.lenOf,hroom,hf,Addr.add_lit,agp,hst]
theorem ax_ (t ty e e':TypeId) (i:TypeInfo) (ht:P.underlying t=some (.slice e)) (hi:P.info? e=some i)
 (g sLen sCap:Nat) (cur:Array Value) (hg:w.heap[g]?=some (.cells cur e' (0,0)))
 (b:Addr) (m c:Nat) (news:List Value) (hl:news.length=m * i.size) (hnews:∀ (j:Nat) u,news[j]?=some u→w.cell? (b.add j)=some u) (h1:∀ u∈news,u.oneCell'=true)
 (hroom:sLen+m≤sCap) (hfit:sLen * i.size+news.length≤cur.size) :
 (Builtin.append_ #[t,t] ty #[.slice (some ⟨g,0,none⟩) sLen sCap,.slice (some b) m c]).run P w =
  .ok (.slice (some ⟨g,0,none⟩) (sLen+m) sCap) (w.setRow g (cur.toList.take (sLen * i.size)++news++cur.toList.drop (sLen * i.size+news.length)).toArray):=by
 have:=ap3 (P:=P) (w:=w) t ty e e' i ht hi g 0 sLen sCap cur hg b m c news hl hnews h1 hroom (by rw [Nat.zero_add]; exact hfit)
 rw [Nat.zero_add] at this
 exact this
def putM (M:Mem) (g p:Nat) (vs:List Value):Mem:=fun b i=>bif Nat.beq b g&&Nat.ble p i&&Nat.blt i (p+vs.length) then vs[i - p]? else M b i
theorem aEu (M:Mem) (g p:Nat) (vs:List Value) (i:Nat) (h1:p≤i) (h2:i < p+vs.length):putM M g p vs g i=vs[i - p]?:=by
 unfold putM
 rw [show Nat.beq g g=true by rw [Nat.beq_eq],show Nat.ble p i=true by rw [Nat.ble_eq]; exact h1,show Nat.blt i (p+vs.length)=true by rw [Nat.blt_eq]; exact h2]
 rfl
theorem asF (M:Mem) (g p:Nat) (vs:List Value) (b i:Nat) (h:b≠g∨i < p∨p+vs.length≤i):putM M g p vs b i=M b i:=by
 unfold putM
 have:(Nat.beq b g&&Nat.ble p i&&Nat.blt i (p+vs.length))=false:=by
  rw [← Bool.not_eq_true,Bool.and_eq_true,Bool.and_eq_true,Nat.beq_eq,Nat.ble_eq,Nat.blt_eq]
  omega
 rw [this]; rfl
theorem aB4 {s:St} {q:Nat} (f:Fl) (h:(s.eat f).O q=true):s.O q=true:=by
 cases f with
 | own p =>
   simp only [St.eat,St.kill,upd] at h
   cases hb:Nat.beq q p <;> rw [hb] at h
   · exact h
   · cases h
 | sh=>exact h
 | full=>exact h
theorem aIV (s:St) (f:Fl):(s.eat f).c=s.c:=by cases f <;> rfl
theorem aKw (s:St) (f:Fl):(s.eat f).S=s.S:=by cases f <;> rfl
theorem aFS (s:St) (f:Fl):s.eat f={ s with O:=(s.eat f).O,c:=s.c }:=by cases f <;> rfl
theorem Inv.eat (I:Inv w0 M0 X s w M ι θ) (f:Fl):Inv w0 M0 X (s.eat f) w M ι θ:=by
 rw [aFS]
 exact I.step rfl rfl rfl (Nat.le_refl _) (Shp.refl _) (Mem.le_refl _) I.mem (fun q h=>aB4 f h) (Nat.le_refl _) (fun q h=>I.tokc q (aB4 f h)) (fun b _ _=>⟨rfl,fun _=>rfl⟩)
theorem TInv.eat (T:TInv s w M ι θ a) (I:Inv w0 M0 X s w M ι θ) (f:Fl):TInv (s.eat f) w M ι θ a:=by
 rw [aFS]
 exact T.step I (Shp.refl _) (Mem.le_refl _) (fun q h=>aB4 f h) (Nat.le_refl _) (fun b _ _=>⟨rfl,fun _=>rfl⟩)
theorem axi : ∀ (t:Ty) (v:Value),agc t v=true→rep M t [v] (zero t)
 | .bool,v,hv=>by
   cases v <;> simp [agc] at hv
   subst hv; rfl
 | .int k,v,hv=>by
   cases v <;> simp [agc] at hv
   obtain ⟨rfl,rfl⟩:=hv
   exact ⟨rfl,al0.2 (ayy _)⟩
 | .str,v,hv=>by
   cases v <;> simp [agc] at hv
   rename_i p
   have hp:p.size=0:=by
    show p.data.size=0
    rw [hv]; rfl
   refine ⟨p,rfl,?_,by omega⟩
   have:(aaz p).length=0:=by rw [acj]; exact hp
   exact (List.eq_nil_of_length_eq_zero this).symm
 | .sl t,v,hv=>by
   have hv':v=.slice none 0 0:=by
    unfold agc at hv
    split at hv <;> simp_all
   subst hv'
   exact ⟨none,0,rfl,Nat.le_refl _,Nat.zero_le _,fun _=>rfl,fun h=>absurd rfl h⟩
 | .op true,v,hv=>by
   have hv':v=.pointer none:=by
    unfold agc at hv
    split at hv <;> simp_all
   subst hv'
   exact rfl
 | .op false,v,hv=>by
   refine ⟨v,rfl,?_⟩
   unfold agc at hv
   split at hv <;> simp_all [Value.oneCell']
 | .unit,v,hv=>by cases v <;> simp [agc] at hv
 | .pair a b,v,hv=>by cases v <;> simp [agc] at hv
 | .st b,v,hv=>by cases v <;> simp [agc] at hv
 | .ex,v,hv=>by cases v <;> simp [agc] at hv
theorem ak8 {t:Ty} {r r':List Value} (h:vz t r=some r'):∃ v,r=v :: r'∧agc t v=true:=by
 cases r with
 | nil=>cases h
 | cons v r =>
   have h:(if agc t v then some r else none)=some r':=h
   split at h
   · rename_i hv; cases h; exact ⟨v,rfl,hv⟩
   · cases h
theorem aC5 {vs rest:List Value} (h:adY .ex vs=some rest):∃ c,vs=c++rest∧rep M .ex c (zero .ex):=by
 have h:((vz (.int .i64) vs).bind fun r=>(vz .str r).bind fun r=>(vz .str r).bind fun r=>(vz (.int .i64) r).bind fun r=>((vz (.int .i64) r).bind fun r=>(vz (.int .i64) r).bind fun r=>(vz .str r).bind fun r=>some r).bind fun r=>(vz (.sl .ex) r).bind fun r=>some r)=some rest:=h
 obtain ⟨r1,h1,h⟩:=Option.bind_eq_some_iff.1 h
 obtain ⟨r2,h2,h⟩:=Option.bind_eq_some_iff.1 h
 obtain ⟨r3,h3,h⟩:=Option.bind_eq_some_iff.1 h
 obtain ⟨r4,h4,h⟩:=Option.bind_eq_some_iff.1 h
 obtain ⟨r5,h5,h⟩:=Option.bind_eq_some_iff.1 h
 obtain ⟨r6,h6,h⟩:=Option.bind_eq_some_iff.1 h
 cases h
 obtain ⟨q1,g1,g⟩:=Option.bind_eq_some_iff.1 h5
 obtain ⟨q2,g2,g⟩:=Option.bind_eq_some_iff.1 g
 obtain ⟨q3,g3,g⟩:=Option.bind_eq_some_iff.1 g
 cases g
 obtain ⟨v1,rfl,z1⟩:=ak8 h1
 obtain ⟨v2,rfl,z2⟩:=ak8 h2
 obtain ⟨v3,rfl,z3⟩:=ak8 h3
 obtain ⟨v4,rfl,z4⟩:=ak8 h4
 obtain ⟨v5,rfl,z5⟩:=ak8 g1
 obtain ⟨v6,rfl,z6⟩:=ak8 g2
 obtain ⟨v7,rfl,z7⟩:=ak8 g3
 obtain ⟨v8,rfl,z8⟩:=ak8 h6
 refine ⟨[v1,v2,v3,v4,v5,v6,v7,v8],rfl,azy.2 ?_⟩
 exact ⟨[v1],_,rfl,axi (M:=M) (.int .i64) v1 z1,[v2],_,rfl,axi (M:=M) .str v2 z2,[v3],_,rfl,axi (M:=M) .str v3 z3,[v4],_,rfl,axi (M:=M) (.int .i64) v4 z4,
  [v5,v6,v7],[v8],rfl,⟨[v5],_,rfl,axi (M:=M) (.int .i64) v5 z5,[v6],_,rfl,axi (M:=M) (.int .i64) v6 z6,[v7],[],rfl,axi (M:=M) .str v7 z7,rfl⟩,[v8],[],rfl,axi (M:=M) (.sl .ex) v8 z8,rfl⟩
theorem ag5 : ∀ (t:Ty) (vs rest:List Value),adY t vs=some rest→∃ c,vs=c++rest∧rep M t c (zero t)
 | .unit,vs,rest,h=>by
   have h:some vs=some rest:=h
   cases h
   exact ⟨[],rfl,rfl⟩
 | .pair a b,vs,rest,h=>by
   have h:(adY a vs).bind (adY b)=some rest:=h
   obtain ⟨m,h1,h2⟩:=Option.bind_eq_some_iff.1 h
   obtain ⟨c1,rfl,k1⟩:=ag5 a vs m h1
   obtain ⟨c2,rfl,k2⟩:=ag5 b m rest h2
   exact ⟨c1++c2,by simp,c1,c2,rfl,k1,k2⟩
 | .st b,vs,rest,h=>ag5 b vs rest h
 | .ex,vs,rest,h=>aC5 h
 | .bool,vs,rest,h=>by
   have h:vz .bool vs=some rest:=by cases vs <;> exact h
   obtain ⟨v,rfl,hv⟩:=ak8 h
   exact ⟨[v],rfl,axi .bool v hv⟩
 | .int k,vs,rest,h=>by
   have h:vz (.int k) vs=some rest:=by cases vs <;> exact h
   obtain ⟨v,rfl,hv⟩:=ak8 h
   exact ⟨[v],rfl,axi (.int k) v hv⟩
 | .str,vs,rest,h=>by
   have h:vz .str vs=some rest:=by cases vs <;> exact h
   obtain ⟨v,rfl,hv⟩:=ak8 h
   exact ⟨[v],rfl,axi .str v hv⟩
 | .sl t,vs,rest,h=>by
   have h:vz (.sl t) vs=some rest:=by cases vs <;> exact h
   obtain ⟨v,rfl,hv⟩:=ak8 h
   exact ⟨[v],rfl,axi (.sl t) v hv⟩
 | .op p,vs,rest,h=>by
   have h:vz (.op p) vs=some rest:=by cases vs <;> exact h
   obtain ⟨v,rfl,hv⟩:=ak8 h
   exact ⟨[v],rfl,axi (.op p) v hv⟩
theorem aFk (hΓ:EnvOk P Γ) (I:Inv w0 M0 X s w M ι θ) (T:TInv s w M ι θ a) (G:Goes w0 M0 X r K N) {X' Y':Operand} {n:TypeId}
 (ho:o.op=.call { callee:=.builtin .append,args:=#[X',Y'],argTypes:=#[n,n] }) {t:Ty} {f:Fl} {nl:Option Bool} {l l2:List t.D} {tx ty:Option Ty}
 (hx:s.ev tx X'=.sl t f nl l) (hy:srcV s.S t (s.ev ty Y')=some l2) (hn:Γ.ty n=some (.sl t)) (hs:agy s f=true) (hl:l.length+l2.length≤LIM)
 (hk:K (((s.eat f).more).put o.dst (.sl t (.own s.c) (nl.map fun b=>b&&l2.isEmpty) (l++l2)))=some r):o.wp P a w N Q:=by
 obtain ⟨h1,hc1,_⟩:=abH T tx X'
 rw [hx] at h1 hc1
 obtain ⟨p,c,h1,hnc,hcm,hp0,hpa,hpn,hpf⟩:=h1
 obtain ⟨q,c2,news,h2,hnc2,hcm2,kn1,kn2⟩:=aAO I T hy
 obtain ⟨e,hu,hte⟩:=agb (hΓ.ty _ _ hn)
 obtain ⟨inf,hi,hsz,hby,hpos,z,hz,hz2,hz3,hz4⟩:=abz (afa hte)
 have hzs:z.cells.size=inf.size:=by
  rw [hsz]
  have:∀ (t:Ty) (vs rest:List Value),adY t vs=some rest→vs.length=t.size+rest.length:=by
   intro t
   induction t with
   | unit=>intro vs rest h; simp [adY] at h; subst h; simp [Ty.size]
   | pair x y hx hy =>
     intro vs rest h
     simp only [adY] at h
     obtain ⟨m,k1,k2⟩:=Option.bind_eq_some_iff.1 h
     have:=hx _ _ k1; have:=hy _ _ k2; simp only [Ty.size]; omega
   | st b hb=>intro vs rest h; exact hb _ _ h
   | bool=>intro vs rest h; cases vs <;> simp [adY] at h; rw [← h.2]; simp [Ty.size]; omega
   | int k=>intro vs rest h; cases vs <;> simp [adY] at h; rw [← h.2]; simp [Ty.size]; omega
   | str=>intro vs rest h; cases vs <;> simp [adY] at h; rw [← h.2]; simp [Ty.size]; omega
   | sl t _=>intro vs rest h; cases vs <;> simp [adY] at h; rw [← h.2]; simp [Ty.size]; omega
   | op p=>intro vs rest h; cases vs <;> simp [adY] at h; rw [← h.2]; simp [Ty.size]; omega
   | ex =>
     intro vs rest h
     obtain ⟨c,rfl,hc⟩:=aC5 (M:=M) h
     have:=aat .ex c _ hc
     rw [List.length_append,this]
  have:=this t z.cells.toList [] hz2
  simpa using this
 obtain ⟨olds,ko1,ko2⟩:=ayk hpa
 have hol:=acP l olds ko1
 have hnl:=acP l2 news kn1
 have hexec:∀ {v:Value} {w1:World},(Builtin.append_ #[n,n] o.type #[a.eval X',a.eval Y']).run P w=.ok v w1→(execOp a.eval o).run P w=.ok (.value v) w1:=by
  intro v w1 h
  simp [execOp,ho,resolve,invoke,builtin,h]
 have hlen:List.length (l++l2)=l.length+l2.length:=List.length_append
 have hbytes:(l.length+l2.length) * inf.bytes≤140737488355328:=by
  have:(l.length+l2.length) * inf.bytes≤LIM * 2048:=Nat.mul_le_mul hl hby
  unfold LIM at this; omega
 have hmax:l.length+l2.length≤maxLen:=by unfold LIM at hl; unfold maxLen; omega
 have hsc:s.c=(s.eat f).c:=(aIV s f).symm
 have fin:∀ (v:Value) (w1:World) (M1:Mem) (g:Option Nat),(Builtin.append_ #[n,n] o.type #[a.eval X',a.eval Y']).run P w=.ok v w1 →
  Inv w0 M0 X (s.eat f) w1 M1 ι θ→TInv (s.eat f) w1 M1 ι θ a →
  (∀ b,g=some b→b < w1.heap.size∧(X b∨w0.heap.size≤b)∧(∀ (i:Nat) cs,s.S[i]?=some cs→Den.hol cs=false→ι i≠b)∧∀ q,(s.eat f).O q=true→θ q≠some b) →
  rv M1 ι (.sl t (.own s.c) (nl.map fun b=>b&&l2.isEmpty) (l++l2)) v →
  claim w1 M1 (upd θ s.c g) s.c t.size v→o.wp P a w N Q:=by
  intro v w1 M1 g hrun I1 T1 hg hrv hcl
  unfold Oper.wp
  rw [hexec hrun]
  have I2:=I1.more g (by rw [aKw]; exact hg)
  have T2:=T1.more g
  rw [aIV] at I2 T2
  refine G _ _ _ _ _ _ hk (I2.put _ _) (T2.put _ hrv ⟨?_,fun _=>hcl⟩ trivial)
  show s.c < (s.eat f).c+1
  rw [aIV]; omega
 have nlEq:∀ (pp:Option Addr) (b:Bool),(∀ b,nl=some b→p.isNone=b)→(nl.map fun b=>b&&l2.isEmpty)=some b→(p.isNone&&l2.isEmpty)=b:=by
  intro _ b h hb
  cases nl with
  | none=>cases hb
  | some b'=>rw [h b' rfl]; exact Option.some.inj hb
 have hown:∀ (b:Nat) (q0:Nat),f=.own q0→θ q0=some b→b < w.heap.size∧(X b∨w0.heap.size≤b)∧(∀ (i:Nat) cs,s.S[i]?=some cs→Den.hol cs=false→ι i≠b)∧∀ q,(s.eat f).O q=true→θ q≠some b:=by
  intro b q0 hf hθ
  subst hf
  have hq0:s.O q0=true:=hs
  obtain ⟨k1,k2,k3⟩:=I.tok q0 b hq0 hθ
  refine ⟨k1,k2,k3,fun q hq hqθ=>?_⟩
  have:=I.one q q0 b (aB4 _ hq) hq0 hqθ hθ
  subst this
  simp only [St.eat,St.kill,upd] at hq
  rw [show Nat.beq q q=true by rw [Nat.beq_eq]] at hq
  cases hq
 have hupd:∀ g,upd θ s.c g s.c=g:=by
  intro g; unfold upd; rw [show Nat.beq s.c s.c=true by rw [Nat.beq_eq]]; rfl
 by_cases hl2:l2.length=0
 · have e2:l2=[]:=List.eq_nil_of_length_eq_zero hl2
   subst e2
   have hrun:(Builtin.append_ #[n,n] o.type #[a.eval X',a.eval Y']).run P w=.ok (.slice p l.length c) w:=by
    rw [h1,h2]; exact an_ n o.type e inf hu hi p q l.length c c2 hnc
   refine fin _ w M (match f with | .own q0=>θ q0 | _=>none) hrun (I.eat f) (T.eat I f) ?_ ?_ ?_
   · intro b hb
     cases f with
     | own q0=>exact hown b q0 rfl hb
     | sh=>cases hb
     | full=>cases hb
   · refine ⟨p,c,by simp,by simpa using hnc,hcm,hp0,by simpa using hpa,fun b hb=>?_,nofun⟩
     have:=nlEq p b hpn hb
     simpa using this
   · intro a' n' c' hv
     injection hv with e1 e2 e3
     subst e1 e2 e3
     cases f with
     | own q0 =>
       rcases hc1.2 hs _ _ _ h1 with k | k | ⟨g,e',cur,p0,k1,k2,k3,k4,k5⟩
       · exact .inl k
       · exact .inr (.inl k)
       · exact .inr (.inr ⟨g,e',cur,p0,k1,by rw [hupd]; exact k2,k3,k4,k5⟩)
     | sh=>cases hs
     | full=>exact .inr (.inl (hpf rfl))
 · have hne:l2≠[]:=by rintro rfl; simp at hl2
   obtain ⟨qb,qo,rfl,hnews⟩:=kn2 hne
   have hnewsw:∀ (j:Nat) u,news[j]?=some u→w.cell? ((⟨qb,qo,none⟩:Addr).add j)=some u:=fun j u hj=>by rw [agp]; exact hnews j u hj
   have hisE:l2.isEmpty=false:=by cases l2 with | nil=>exact absurd rfl hne | cons _ _=>rfl
   have fresh:∀ (cap:Nat) (zs:Array Value),zs.size=(cap - (l.length+l2.length)) * inf.size→l.length+l2.length≤cap→cap≤maxLen →
        (Builtin.append_ #[n,n] o.type #[a.eval X',a.eval Y']).run P w=.ok (.slice (some ⟨w.heap.size,0,none⟩) (l.length+l2.length) cap) (w.drew.alloc (.cells (olds.toArray++news.toArray++zs) e))→o.wp P a w N Q:=by
    intro cap zs hzsz hcap hcapm hrun
    have hold:∀ b,b < w.heap.size→(w.drew.alloc (.cells (olds.toArray++news.toArray++zs) e)).heap[b]?=w.heap[b]?:=fun b hb=>heap_alloc_old w.drew _ hb
    have hnew:(w.drew.alloc (.cells (olds.toArray++news.toArray++zs) e)).heap[w.heap.size]?=some (.cells (olds.toArray++news.toArray++zs) e (0,0)):=heap_alloc_new w.drew _
    have hcur:∀ (i:Nat) v,(olds++news)[i]?=some v→(olds.toArray++news.toArray++zs)[i]?=some v:=by
        intro i v h
        have hi:i < (olds++news).length:=(List.getElem?_eq_some_iff.1 h).1
        rw [Array.getElem?_append_left (by simpa using hi)]
        simpa using h
    have hsz':w.heap.size≤(w.drew.alloc (.cells (olds.toArray++news.toArray++zs) e)).heap.size:=by rw [afu]; exact Nat.le_succ _
    have I1:=(I.eat f).row (vs:=olds++news) (w1:=w.drew.alloc (.cells (olds.toArray++news.toArray++zs) e)) rfl rfl rfl hsz' hold hnew hcur
    have T1:=(T.eat I f).row (I.eat f) (vs:=olds++news) (w1:=w.drew.alloc (.cells (olds.toArray++news.toArray++zs) e)) hold
    refine fin _ _ _ (some w.heap.size) hrun I1 T1 ?_ ?_ ?_
    · intro b hb
      cases hb
      refine ⟨by rw [afu]; exact Nat.lt_succ_self _,.inr I.size,fun i cs hi hh=>?_,fun q' hq' hθ'=>?_⟩
      · have:=(I.obj i cs hi hh).1.lt; omega
      · have:=(I.tok q' _ (aB4 f hq') hθ').1; omega
    · refine ⟨some ⟨w.heap.size,0,none⟩,cap,by rw [hlen],by rw [hlen]; exact hcap,hcapm,nofun,?_,fun b hb=>?_,nofun⟩
      · exact ahI (ahX l l2 olds news ko1 kn1) (aBz I _) (fun i v h=>by rw [Nat.zero_add,asG]; exact h)
      · have:=nlEq p b hpn hb
        rw [hisE,Bool.and_false] at this
        exact this
    · intro a' n' c' hv
      injection hv with e1 e2 e3
      subst e1 e2 e3
      refine .inr (.inr ⟨w.heap.size,e,_,0,rfl,hupd _,hnew,?_,fun i hi=>?_⟩)
      all_goals (try rw [Nat.zero_add] at hi)
      · rw [Nat.zero_add]
        simp only [Array.size_append,List.size_toArray,hol,hnl,hzsz,hsz,← Nat.add_mul]
        congr 1; omega
      · rw [asG]
        apply List.getElem?_eq_none
        rw [List.length_append,hol,hnl,← Nat.add_mul]; exact hi
   have hgeN:∀ old,l.length+l2.length≤grownCap w (l.length+l2.length) old e:=fun old=>grownCap_ge w _ old e
   have hleN:∀ old,grownCap w (l.length+l2.length) old e≤maxLen:=fun old=>grownCap_le_maxLen w _ old e hmax
   cases p with
   | none =>
     have hc0:=hp0 rfl
     have hl0:l.length=0:=by
        have:l.length≤c:=hnc
        omega
     have e1:l=[]:=List.eq_nil_of_length_eq_zero hl0
     subst e1
     have eo:olds=[]:=ko1
     subst eo
     subst hc0
     refine fresh (grownCap w l2.length 0 e) (Builtin.zeroCells z.cells (grownCap w l2.length 0 e - l2.length)) ?_ ?_ ?_ ?_
     · rw [size_zeroCells,hzs]; simp
     · have:=hgeN 0; simpa using this
     · have:=hleN 0; simpa using this
     · rw [h1,h2]
       have hr:=run_append_nil (P:=P) w n o.type e inf z hu hi hz ⟨qb,qo,none⟩ l2.length c2 news (by rw [hnl,hsz]) hnewsw (by omega) (by unfold maxLen at hmax; simp at hmax; omega) (by simp at hbytes; omega)
       simpa using hr
   | some ad =>
     by_cases hroom:l.length+l2.length≤c
     · cases f with
       | sh=>cases hs
       | full=>exfalso; have:=hpf rfl; have:c=l.length:=this; omega
       | own q0 =>
         rcases hc1.2 hs _ _ _ h1 with k | k | ⟨g,e',cur,p0,k1,k2,k3,k4,k5⟩
         · cases k
         · exfalso; have:c=l.length:=k; omega
         · cases k1
           have hfit:p0+l.length * inf.size+news.length≤cur.size:=by
             have:=Nat.mul_le_mul_right t.size hroom
             rw [Nat.add_mul] at this
             rw [hnl,k4,hsz]; omega
           have hrun:=ap3 (P:=P) (w:=w) n o.type e e' inf hu hi g p0 l.length c cur k3 ⟨qb,qo,none⟩ l2.length c2 news (by rw [hnl,hsz]) hnewsw (awh l2 news kn1) hroom hfit
           rw [hsz] at hrun hfit
           have hq0:s.O q0=true:=hs
           have hMle:M.le (putM M g (p0+l.length * t.size) news):=by
             intro b i v h
             rw [asF M g _ news b i ?_]
             · exact h
             · by_cases hb:b=g
               · subst hb
                 refine .inr (.inl ?_)
                 rcases Nat.lt_or_ge i (p0+l.length * t.size) with h' | h'
                 · exact h'
                 · rw [k5 i h'] at h; cases h
               · exact .inl hb
           have hnewrow:=setRow_heap w g cur ((cur.toList.take (p0+l.length * t.size)++news++cur.toList.drop (p0+l.length * t.size+news.length)).toArray) e' (0,0) k3
           have hrowlen:(cur.toList.take (p0+l.length * t.size)).length=p0+l.length * t.size:=by
             rw [List.length_take,Array.length_toList]
             exact Nat.min_eq_left (Nat.le_trans (Nat.le_add_right _ _) hfit)
           have hmem1:∀ b i v,putM M g (p0+l.length * t.size) news b i=some v→(w.setRow g ((cur.toList.take (p0+l.length * t.size)++news++cur.toList.drop (p0+l.length * t.size+news.length)).toArray)).cell? ⟨b,i,none⟩=some v:=by
             intro b i v h
             by_cases hb:b=g
             · subst hb
               rw [ai7 hnewrow]
               by_cases h1':p0+l.length * t.size≤i
               · by_cases h2':i < p0+l.length * t.size+news.length
                 · rw [aEu M b _ news i h1' h2'] at h
                   rw [List.getElem?_toArray,List.append_assoc,List.getElem?_append_right (by rw [hrowlen]; exact h1'),hrowlen,List.getElem?_append_left (by omega)]
                   exact h
                 · rw [asF M b _ news b i (.inr (.inr (by omega))),k5 i h1'] at h
                   cases h
               · rw [asF M b _ news b i (.inr (.inl (by omega)))] at h
                 have:=I.mem b i v h
                 rw [ai7 k3] at this
                 rw [List.getElem?_toArray,List.append_assoc,List.getElem?_append_left (by rw [hrowlen]; omega),List.getElem?_take_of_lt (by omega)]
                 simpa using this
             · rw [asF M g _ news b i (.inl hb)] at h
               rw [am9 (setRow_other w g b _ hb)]
               exact I.mem b i v h
           have hk1:∀ b,b < w.heap.size→(∀ q,s.O q=true→(s.eat (.own q0)).O q=false→θ q=some b→False) →
               (w.setRow g ((cur.toList.take (p0+l.length * t.size)++news++cur.toList.drop (p0+l.length * t.size+news.length)).toArray)).heap[b]?=w.heap[b]?∧∀ i,putM M g (p0+l.length * t.size) news b i=M b i:=by
             intro b _ hb
             have hne:b≠g:=by
               rintro rfl
               refine hb q0 hq0 ?_ k2
               simp only [St.eat,St.kill,upd]
               rw [show Nat.beq q0 q0=true by rw [Nat.beq_eq]]; rfl
             exact ⟨setRow_other w g b _ hne,fun i=>asF M g _ news b i (.inl hne)⟩
           have hshp:Shp w (w.setRow g ((cur.toList.take (p0+l.length * t.size)++news++cur.toList.drop (p0+l.length * t.size+news.length)).toArray)):=by
             intro b c e f hb
             by_cases hbg:b=g
             · subst hbg
               rw [k3] at hb
               cases hb
               refine ⟨_,_,_,hnewrow,?_⟩
               simp only [List.size_toArray,List.length_append,hrowlen,List.length_drop,Array.length_toList]
               omega
             · exact ⟨c,e,f,(setRow_other w g b _ hbg).trans hb,rfl⟩
           have I1:=I.step (w1:=w.setRow g ((cur.toList.take (p0+l.length * t.size)++news++cur.toList.drop (p0+l.length * t.size+news.length)).toArray)) (M1:=putM M g (p0+l.length * t.size) news) (O1:=(s.eat (.own q0)).O) (c1:=s.c)
             rfl rfl rfl (by rw [setRow_size]; exact Nat.le_refl _) hshp hMle hmem1 (fun q h=>aB4 _ h) (Nat.le_refl _) (fun q h=>I.tokc q (aB4 _ h)) hk1
           have T1:=T.step (w1:=w.setRow g ((cur.toList.take (p0+l.length * t.size)++news++cur.toList.drop (p0+l.length * t.size+news.length)).toArray)) (M1:=putM M g (p0+l.length * t.size) news) (O1:=(s.eat (.own q0)).O) (c1:=s.c)
             I hshp hMle (fun q h=>aB4 _ h) (Nat.le_refl _) hk1
           rw [← aFS] at I1 T1
           obtain ⟨b1,b2,b3,b4⟩:=hown g q0 rfl k2
           refine fin _ _ _ (some g) (by rw [h1,h2]; exact hrun) I1 T1 ?_ ?_ ?_
           · intro b hb
             cases hb
             exact ⟨by rw [setRow_size]; exact b1,b2,b3,b4⟩
           · refine ⟨some ⟨g,p0,none⟩,c,by rw [hlen],by rw [hlen]; exact hroom,hcm,nofun,?_,fun b hb=>?_,nofun⟩
             · refine ahI (ahX l l2 olds news ko1 kn1) hMle (fun i v h=>?_)
               by_cases hil:i < olds.length
               · rw [List.getElem?_append_left hil] at h
                 have hln:l≠[]:=by
                  rintro rfl
                  rw [show olds=[] from ko1] at hil
                  simp at hil
                 obtain ⟨b',q',hp',hc'⟩:=ko2 hln
                 cases hp'
                 exact hMle _ _ _ (hc' i v h)
               · rw [List.getElem?_append_right (by omega)] at h
                 have hin:i - olds.length < news.length:=(List.getElem?_eq_some_iff.1 h).1
                 rw [aEu M g _ news (p0+i) (by omega) (by omega),show p0+i - (p0+l.length * t.size)=i - olds.length by omega]
                 exact h
             · have:=nlEq (some ⟨g,p0,none⟩) b hpn hb
               rw [hisE,Bool.and_false] at this
               exact this
           · intro a' n' c' hv
             injection hv with e1 e2 e3
             subst e1 e2 e3
             refine .inr (.inr ⟨g,e',_,p0,rfl,hupd _,hnewrow,?_,fun i hi=>?_⟩)
             all_goals (try rw [Nat.add_mul] at hi)
             · simp only [List.size_toArray,List.length_append,hrowlen,List.length_drop,Array.length_toList]
               omega
             · rw [asF M g _ news g i (.inr (.inr (by rw [hnl]; omega)))]
               exact k5 i (by omega)
     · have holds:∀ (j:Nat) v,olds[j]?=some v→w.cell? (ad.add j)=some v:=by
        intro j v hj
        have hln:l≠[]:=by
            rintro rfl
            rw [show olds=[] from ko1] at hj
            simp at hj
        obtain ⟨b',q',hp',hc'⟩:=ko2 hln
        cases hp'
        rw [agp]
        exact I.mem _ _ _ (hc' j v hj)
       refine fresh (grownCap w (l.length+l2.length) c e) (Builtin.zeroCells z.cells (grownCap w (l.length+l2.length) c e - (l.length+l2.length))) ?_ (hgeN c) (hleN c) ?_
       · rw [size_zeroCells,hzs]
       · rw [h1,h2]
         exact run_append_grow (P:=P) w n o.type e inf z hu hi hz ad l.length c olds (by rw [hol,hsz]) holds ⟨qb,qo,none⟩ l2.length c2 news (by rw [hnl,hsz]) hnewsw (by omega)
            (by unfold maxLen at hmax; omega) (growslice_fits (by omega) hbytes)
end
end Go.Proofs.Ytgmeimbamfggkaa.Den
