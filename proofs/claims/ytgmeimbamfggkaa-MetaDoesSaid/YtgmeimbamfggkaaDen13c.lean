import Derived.Test.YtgmeimbamfggkaaDen13b
namespace Go.Proofs.Ytgmeimbamfggkaa.Den
open Go
section
variable {w0 : World} {M0:Mem} {X:Fr} {s:St} {w:World} {M:Mem} {ι:Nat→Nat} {θ:Nat→Option Nat} {a:Act}
variable {P : Program} {ρ:Type} {r:ρ} {K:St→Option ρ} {N:Act→World→Prop} {Q:Exit→Act→World→Prop} {o:Oper} {Γ:Env}
theorem aBx {rf:Rf} {t:Ty} {l:List t.D} {n k g:Nat} {S:List Obj} {w1:World} {ι1:Nat→Nat} {A:Option Addr} {c:Nat} (hk:k=S.length) (hv:isV rf t l 0 n) (hι:ι1 k=g) (hn:n≤c) (hl:n≤l.length) (hc:c≤maxLen) (hA:A=none→c=0)
 (h:c≠0→l≠[]∧A=some ⟨g,0,none⟩∧∃ (cur:Array Value) (e:TypeId) (fr:Nat×Nat),w1.heap[g]?=some (.cells cur e fr)∧cur.size=c * t.size) :
 rv M ι1 (.ref rf k) (.slice A n c)∧aaI w1 (S++[[TV.blk (.row t l)]]) (.ref rf k) (.slice A n c):=by
 subst hk
 have hrf:rfv (ι1 S.length) rf (.slice A n c):=by
  have:∃ A' n' c',Value.slice A n c=.slice A' n' c'∧(c'≠0→∃ o,A'=some ⟨ι1 S.length,o,none⟩):=⟨A,n,c,rfl,fun hc=>⟨0,by rw [hι]; exact (h hc).2.1⟩⟩
  rcases hv with ⟨rfl,_,_⟩ | rfl
  · exact this
  · exact this
 have hlk:lnkS w1 l t.size 0 n (.slice A n c):=by
  refine ⟨A,c,rfl,hn,by omega,hc,hA,fun hc=>?_⟩
  obtain ⟨h1,h2,cur,e,fr,h3,h4⟩:=h hc
  exact ⟨h1,g,cur,e,fr,by rw [h2]; simp,h3,by rw [Nat.zero_add]; exact h4⟩
 refine ⟨by simp only [rv]; exact hrf,by simp,?_⟩
 have hS:(S++[[TV.blk (.row t l)]])[S.length]?=some [TV.blk (.row t l)]:=by simp
 rw [hS]
 rcases hv with ⟨rfl,_,rfl⟩ | rfl
 · intro l1 h1
   have:l=l1:=by simpa using h1
   subst this
   exact hlk
 · intro l1 h1
   have:l=l1:=by simpa using h1
   subst this
   exact hlk
theorem aFA {α:Type} (l:List α) (n:Nat):apc l n []=l:=rfl
theorem aIf {α:Type} {l l2:List α} {n:Nat} (h:l2≠[]):apc l n l2=l.take n++l2:=by
 unfold apc
 cases l2 with
 | nil=>exact absurd rfl h
 | cons _ _=>rfl
theorem aIF {α:Type} (l l2:List α):apc l l.length l2=l++l2:=by
 cases l2 with
 | nil=>simp [aFA]
 | cons x l2=>rw [aIf (List.cons_ne_nil _ _),List.take_length]
theorem awv {P:Program} {t:Ty} {e:TypeId} (h:tyOk P t e=true):∃ inf z,P.info? e=some inf∧inf.size=t.size∧inf.bytes≤2048∧0 < t.size∧inf.zero=some z∧z.cells.size=inf.size:=by
 obtain ⟨inf,hi,hsz,hby,hpos,z,hz,hz2,_,_⟩:=abz (afa h)
 refine ⟨inf,z,hi,hsz,hby,hpos,hz,?_⟩
 obtain ⟨c,hc,hr⟩:=ag5 (M:=fun _ _=>none) t _ _ hz2
 rw [List.append_nil] at hc
 rw [hsz,← aat t c _ hr,← hc,Array.length_toList]
theorem aFi {g:Nat} {cur cs:Array Value} {e:TypeId} {fr:Nat×Nat} (hg:w.heap[g]?=some (.cells cur e fr)) (h:cs.size=cur.size):Shp w (w.setRow g cs):=by
 intro b c e' f hb
 by_cases hbi:b=g
 · subst hbi
   rw [hg] at hb
   cases hb
   exact ⟨_,_,_,setRow_heap w b cur cs e fr hg,h⟩
 · exact ⟨c,e',f,(setRow_other w _ b _ hbi).trans hb,rfl⟩
theorem aAL (hΓ:EnvOk P Γ) (I:Inv w0 M0 X s w M ι θ) (T:TInv s w M ι θ a) (G:Goes w0 M0 X r K N) {X' Y':Operand} {n:TypeId}
 (ho:o.op=.call { callee:=.builtin .append,args:=#[X',Y'],argTypes:=#[n,n] }) {t:Ty} {rf rf':Rf} {i m:Nat} {l l2 l':List t.D} {tx ty:Option Ty}
 (hx:s.ev tx X'=.ref rf i) (hr:s.S[i]?=some [.blk (.row t l)]) (hv:isV rf t l 0 m) (hy:srcV s.S t (s.ev ty Y')=some l2) (hn:Γ.ty n=some (.sl t)) (hl:m+l2.length≤LIM)
 (hl':l'=apc l m l2) (hv':isV rf' t l' 0 (m+l2.length))
 (hk:K ({ s with S:=s.S.set i []++[[TV.blk (.row t l')]] }.put o.dst (.ref rf' s.S.length))=some r):o.wp P a w N Q:=by
 obtain ⟨h1,_,h3⟩:=abH T tx X'
 rw [hx] at h1 h3
 obtain ⟨A,c,e1,e2,e3,e4,e5,e6⟩:=apl I h1 h3 hr hv
 obtain ⟨q,c2,news,f1,f2,f3,kn1,kn2⟩:=aAO I T hy
 obtain ⟨e,hu,hte⟩:=agb (hΓ.ty _ _ hn)
 obtain ⟨inf,z,hi,hsz,hby,hpos,hz,hzs⟩:=awv hte
 have hnl:=acP l2 news kn1
 rw [Nat.zero_add] at e3
 have hexec:∀ {v:Value} {w1:World},(Builtin.append_ #[n,n] o.type #[a.eval X',a.eval Y']).run P w=.ok v w1→(execOp a.eval o).run P w=.ok (.value v) w1:=by
  intro v w1 h
  simp [execOp,ho,resolve,invoke,builtin,h]
 have hil:i < s.S.length:=(List.getElem?_eq_some_iff.1 hr).1
 have hSl:s.S.length=(s.S.set i []).length:=by rw [List.length_set]
 have I0:=I.dropObj hr
 have T0:=T.dropObj hr
 have own:l≠[]→(∀ (j:Nat) c,(s.S.set i [])[j]?=some c→Den.hol c=false→ι j≠ι i)∧(∀ q,s.O q=true→θ q≠some (ι i))∧(X (ι i)∨w0.heap.size≤ι i):=by
  intro hne
  have hh:=ap8 (t:=t) hne
  refine ⟨fun j c hj hc=>?_,fun q hq e=>(I.tok q _ hq e).2.2 i _ hr hh rfl,(I.obj i _ hr hh).2⟩
  have hji:j≠i:=by
   rintro rfl
   rw [List.getElem?_set_self hil] at hj
   cases hj; cases hc
  rw [List.getElem?_set_ne (Ne.symm hji)] at hj
  exact fun e=>hji (I.inj j i c _ hj hr hc hh e)
 have fin:∀ (A':Option Addr) (c':Nat) (w1:World) (g:Nat),(Builtin.append_ #[n,n] o.type #[a.eval X',a.eval Y']).run P w=.ok (.slice A' (m+l2.length) c') w1 →
  (Inv w0 M0 X { s with S:=s.S.set i []++[[TV.blk (.row t l')]] } w1 M (upd ι (s.S.set i []).length g) θ∧TInv { s with S:=s.S.set i []++[[TV.blk (.row t l')]] } w1 M (upd ι (s.S.set i []).length g) θ a) →
  m+l2.length≤c'→m+l2.length≤l'.length→c'≤maxLen→(A'=none→c'=0)→(c'≠0→l'≠[]∧A'=some ⟨g,0,none⟩∧∃ (cur:Array Value) (e:TypeId) (fr:Nat×Nat),w1.heap[g]?=some (.cells cur e fr)∧cur.size=c' * t.size)→o.wp P a w N Q:=by
  rintro A' c' w1 g hrun ⟨I1,T1⟩ k1 k2 k3 k4 k5
  obtain ⟨r1,r2⟩:=aBx (M:=M) (w1:=w1) (ι1:=upd ι (s.S.set i []).length g) (S:=s.S.set i []) hSl hv' (by rw [hSl]; exact aiL) k1 k2 k3 k4 k5
  unfold Oper.wp
  rw [hexec hrun]
  exact G _ _ _ _ _ _ hk (I1.put _ _) (T1.put _ r1 trivial r2)
 by_cases hl2:l2=[]
 · subst hl2
   rw [aFA] at hl'
   subst hl'
   have hrun:(Builtin.append_ #[n,n] o.type #[a.eval X',a.eval Y']).run P w=.ok (.slice A m c) w:=by
    rw [e1,f1]; exact an_ n o.type e inf hu hi A q m c c2 e2
   refine fin A c w (ι i) hrun ?_ (by simpa using e2) (by simpa using e3) e4 e5 fun hc=>?_
   · by_cases hne:l'=[]
     · exact aqp (l:=l') I0 T0 (cur:=#[]) (e:=0) (us:=[]) (rest:=[]) rfl rfl rfl (Nat.le_refl _) (Shp.refl _) (fun _ _ _=>rfl) (fun h=>absurd hne h) fun h=>absurd hne h
     · obtain ⟨cur,e',us,rest,k1,k2,k3,k4,k5⟩:=atI I hr hne
       exact aqp (l:=l') I0 T0 rfl rfl rfl (Nat.le_refl _) (Shp.refl _) (fun _ _ _=>rfl) own fun h=>⟨k1,k2,k3,k4⟩
   · obtain ⟨hne,hA,cur,e',us,rest,k1,k2,_⟩:=e6 hc
     exact ⟨hne,by rw [hA]; simp,cur,e',(0,0),k1,by rw [k2]; simp⟩
 · rw [aIf hl2] at hl'
   have hl2p:0 < l2.length:=by
    rcases Nat.eq_zero_or_pos l2.length with h | h
    · exact absurd (List.eq_nil_of_length_eq_zero h) hl2
    · exact h
   have hlen':l'.length=m+l2.length:=by rw [hl',List.length_append,List.length_take]; omega
   have hne':l'≠[]:=by rintro e; rw [e] at hlen'; simp at hlen'; omega
   obtain ⟨qb,qo,rfl,hnewsw⟩:=kn2 hl2
   have hnewsw':∀ (j:Nat) u,news[j]?=some u→w.cell? ((⟨qb,qo,none⟩:Addr).add j)=some u:=fun j u hj=>by rw [agp]; exact hnewsw j u hj
   have hmax:m+l2.length≤maxLen:=by unfold LIM at hl; unfold maxLen; omega
   have olds:∃ us1:List Value,repL M t us1 (l.take m)∧us1.length=m * t.size∧(c≠0→A=some ⟨ι i,0,none⟩∧∃ (cur:Array Value) (e:TypeId),w.heap[ι i]?=some (.cells cur e (0,0))∧cur.size=c * t.size∧cur.toList.take (m * t.size)=us1∧(∀ k,M (ι i) k=none)∧l≠[]):=by
    by_cases hc:c=0
    · have hm:m=0:=by omega
      subst hm
      exact ⟨[],rfl,by simp,fun h=>absurd hc h⟩
    · obtain ⟨hne,hA,cur,e',us,rest,k1,k2,k3,k4,k5,k6⟩:=e6 hc
      have k4':=k4
      rw [← List.take_append_drop m l] at k4'
      obtain ⟨d1,d2,hd,g1,g2⟩:=ap2 _ _ _ k4'
      have hd1:d1.length=m * t.size:=by rw [acP _ _ g1,List.length_take,Nat.min_eq_left e3]
      refine ⟨d1,g1,hd1,fun _=>⟨by rw [hA]; simp,cur,e',k1,by rw [k2]; simp,?_,k5,hne⟩⟩
      rw [k3,hd,← hd1,List.append_assoc,List.take_append_of_le_length (Nat.le_refl _),List.take_of_length_le (Nat.le_refl _)]
   obtain ⟨us1,o1,o2,o3⟩:=olds
   have hrep':repL M t (us1++news) l':=by rw [hl']; exact ahX _ _ _ _ o1 kn1
   by_cases hroom:m+l2.length≤c
   · obtain ⟨hA,cur,e',k1,k2,k3,k4,hne⟩:=o3 (by omega)
     subst hA
     have hfit:m * t.size+news.length≤cur.size:=by rw [hnl,k2,← Nat.add_mul]; exact Nat.mul_le_mul_right _ hroom
     have hrun:=ax_ (P:=P) (w:=w) n o.type e e' inf hu hi (ι i) m c cur k1 ⟨qb,qo,none⟩ l2.length c2 news (by rw [hnl,hsz]) hnewsw' (awh l2 news kn1) hroom (by rw [hsz]; exact hfit)
     rw [hsz,← e1,← f1] at hrun
     have hnew:=setRow_heap w (ι i) cur (cur.toList.take (m * t.size)++news++cur.toList.drop (m * t.size+news.length)).toArray e' (0,0) k1
     have hcs:(cur.toList.take (m * t.size)++news++cur.toList.drop (m * t.size+news.length)).toArray.size=cur.size:=by
       simp only [List.size_toArray,List.length_append,List.length_take,List.length_drop,Array.length_toList]; omega
     refine fin _ c _ (ι i) hrun ?_ hroom (by omega) e4 e5 fun _=>⟨hne',rfl,_,_,_,hnew,hcs.trans k2⟩
     refine aqp (l:=l') (us:=us1++news) (rest:=cur.toList.drop (m * t.size+news.length)) I0 T0 rfl rfl rfl (by rw [setRow_size]; exact Nat.le_refl _) (aFi k1 hcs)
       (fun b _ hb=>setRow_other w _ b _ (hb hne')) (fun _=>own hne) fun _=>⟨hnew,by rw [k3],hrep',k4⟩
   · -- a new row
     have hbytes:(m+l2.length) * inf.bytes≤140737488355328:=by
       have:(m+l2.length) * inf.bytes≤LIM * 2048:=Nat.mul_le_mul hl hby
       unfold LIM at this; omega
     have fresh:∀ (cap:Nat) (zs:Array Value),zs.size=(cap - (m+l2.length)) * inf.size→m+l2.length≤cap→cap≤maxLen →
      (Builtin.append_ #[n,n] o.type #[a.eval X',a.eval Y']).run P w=.ok (.slice (some ⟨w.heap.size,0,none⟩) (m+l2.length) cap) (w.drew.alloc (.cells (us1.toArray++news.toArray++zs) e))→o.wp P a w N Q:=by
       intro cap zs hzsz hcap hcapm hrun
       have hold:∀ b,b < w.heap.size→(w.drew.alloc (.cells (us1.toArray++news.toArray++zs) e)).heap[b]?=w.heap[b]?:=fun b hb=>heap_alloc_old w.drew _ hb
       have hnew:(w.drew.alloc (.cells (us1.toArray++news.toArray++zs) e)).heap[w.heap.size]?=some (.cells (us1.toArray++news.toArray++zs) e (0,0)):=heap_alloc_new w.drew _
       refine fin _ cap _ w.heap.size hrun ?_ hcap (by omega) hcapm nofun fun _=>⟨hne',rfl,_,_,_,hnew,?_⟩
       · exact aqp (l:=l') (us:=us1++news) (rest:=zs.toList) I0 T0 rfl rfl rfl (by rw [afu]; exact Nat.le_succ _) (Shp.old hold) (fun b hb _=>hold b hb) (fun _=>ahn I0) fun _=>⟨hnew,by simp,hrep',ah5 I⟩
       · simp only [Array.size_append,List.size_toArray,o2,hnl,hzsz,hsz,← Nat.add_mul]
         congr 1; omega
     have hgeN:∀ old,m+l2.length≤grownCap w (m+l2.length) old e:=fun old=>grownCap_ge w _ old e
     have hleN:∀ old,grownCap w (m+l2.length) old e≤maxLen:=fun old=>grownCap_le_maxLen w _ old e hmax
     cases hA:A with
     | none =>
       have hc0:=e5 hA
       have hm0:m=0:=by omega
       subst hA hc0 hm0
       have hu1:us1=[]:=List.eq_nil_of_length_eq_zero (by rw [o2]; simp)
       subst hu1
       refine fresh (grownCap w l2.length 0 e) (Builtin.zeroCells z.cells (grownCap w l2.length 0 e - l2.length)) ?_ ?_ ?_ ?_
       · rw [size_zeroCells,hzs]; simp
       · have:=hgeN 0; simpa using this
       · have:=hleN 0; simpa using this
       · rw [e1,f1]
         have hr:=run_append_nil (P:=P) w n o.type e inf z hu hi hz ⟨qb,qo,none⟩ l2.length c2 news (by rw [hnl,hsz]) hnewsw' hl2p (by unfold maxLen at hmax; simp at hmax; omega) (by simp at hbytes; omega)
         simpa using hr
     | some ad =>
       have holds:∀ (j:Nat) v,us1[j]?=some v→w.cell? (ad.add j)=some v:=by
        intro j v hj
        have hc:c≠0:=by
           rintro rfl
           have hm0:m=0:=by omega
           have:us1=[]:=List.eq_nil_of_length_eq_zero (by rw [o2,hm0]; simp)
           rw [this] at hj; simp at hj
        obtain ⟨hA',cur,e',k1,k2,k3,_⟩:=o3 hc
        rw [hA] at hA'
        cases hA'
        rw [agp,ai7 k1,← Array.getElem?_toList,Nat.zero_add]
        rw [← k3] at hj
        have hj':=(List.getElem?_eq_some_iff.1 hj).1
        rw [List.length_take] at hj'
        rw [List.getElem?_take_of_lt (by omega)] at hj
        exact hj
       refine fresh (grownCap w (m+l2.length) c e) (Builtin.zeroCells z.cells (grownCap w (m+l2.length) c e - (m+l2.length))) ?_ (hgeN c) (hleN c) ?_
       · rw [size_zeroCells,hzs]
       · rw [e1,f1,hA]
         exact run_append_grow (P:=P) w n o.type e inf z hu hi hz ad m c us1 (by rw [o2,hsz]) holds ⟨qb,qo,none⟩ l2.length c2 news (by rw [hnl,hsz]) hnewsw' (by omega)
           (by unfold maxLen at hmax; omega) (growslice_fits (by omega) hbytes)
theorem aEK (hΓ:EnvOk P Γ) (I:Inv w0 M0 X s w M ι θ) (T:TInv s w M ι θ a) (G:Goes w0 M0 X r K N) {X' Y':Operand} {n:TypeId}
 (ho:o.op=.call { callee:=.builtin .append,args:=#[X',Y'],argTypes:=#[n,n] }) {t:Ty} {rf':Rf} {nl:Option Bool} {l2:List t.D} {tx ty:Option Ty}
 (hx:s.ev tx X'=.sl t .full nl []) (hy:srcV s.S t (s.ev ty Y')=some l2) (hn:Γ.ty n=some (.sl t)) (hl:l2.length≤LIM) (hv':isV rf' t l2 0 l2.length)
 (hk:K ({ s with S:=s.S++[[TV.blk (.row t l2)]] }.put o.dst (.ref rf' s.S.length))=some r):o.wp P a w N Q:=by
 obtain ⟨h1,_,_⟩:=abH T tx X'
 rw [hx] at h1
 obtain ⟨A,c,e1,_,_,_,_,_,e6⟩:=h1
 have hc0:c=0:=e6 rfl
 subst hc0
 have e1:a.eval X'=.slice A 0 0:=e1
 obtain ⟨q,c2,news,f1,f2,f3,kn1,kn2⟩:=aAO I T hy
 obtain ⟨e,hu,hte⟩:=agb (hΓ.ty _ _ hn)
 obtain ⟨inf,z,hi,hsz,hby,hpos,hz,hzs⟩:=awv hte
 have hnl:=acP l2 news kn1
 have hexec:∀ {v:Value} {w1:World},(Builtin.append_ #[n,n] o.type #[a.eval X',a.eval Y']).run P w=.ok v w1→(execOp a.eval o).run P w=.ok (.value v) w1:=by
  intro v w1 h
  simp [execOp,ho,resolve,invoke,builtin,h]
 have fin:∀ (A':Option Addr) (c':Nat) (w1:World),(Builtin.append_ #[n,n] o.type #[a.eval X',a.eval Y']).run P w=.ok (.slice A' l2.length c') w1 →
  (Inv w0 M0 X { s with S:=s.S++[[TV.blk (.row t l2)]] } w1 M (upd ι s.S.length w.heap.size) θ∧TInv { s with S:=s.S++[[TV.blk (.row t l2)]] } w1 M (upd ι s.S.length w.heap.size) θ a) →
  l2.length≤c'→c'≤maxLen→(A'=none→c'=0)→(c'≠0→l2≠[]∧A'=some ⟨w.heap.size,0,none⟩∧∃ (cur:Array Value) (e:TypeId) (fr:Nat×Nat),w1.heap[w.heap.size]?=some (.cells cur e fr)∧cur.size=c' * t.size)→o.wp P a w N Q:=by
  rintro A' c' w1 hrun ⟨I1,T1⟩ k1 k3 k4 k5
  obtain ⟨r1,r2⟩:=aBx (M:=M) (w1:=w1) (ι1:=upd ι s.S.length w.heap.size) (S:=s.S) rfl hv' aiL k1 (Nat.le_refl _) k3 k4 k5
  unfold Oper.wp
  rw [hexec hrun]
  exact G _ _ _ _ _ _ hk (I1.put _ _) (T1.put _ r1 trivial r2)
 by_cases hl2:l2=[]
 · subst hl2
   have hrun:(Builtin.append_ #[n,n] o.type #[a.eval X',a.eval Y']).run P w=.ok (.slice A 0 0) w:=by
    rw [e1,f1]; exact an_ n o.type e inf hu hi A q 0 0 c2 (Nat.le_refl _)
   refine fin A 0 w hrun ?_ (Nat.le_refl _) (Nat.zero_le _) (fun _=>rfl) fun h=>absurd rfl h
   exact aqp (l:=[]) I T (cur:=#[]) (e:=0) (us:=[]) (rest:=[]) rfl rfl rfl (Nat.le_refl _) (Shp.refl _) (fun _ _ _=>rfl) (fun h=>absurd rfl h) fun h=>absurd rfl h
 · have hl2p:0 < l2.length:=by
    rcases Nat.eq_zero_or_pos l2.length with h | h
    · exact absurd (List.eq_nil_of_length_eq_zero h) hl2
    · exact h
   obtain ⟨qb,qo,rfl,hnewsw⟩:=kn2 hl2
   have hnewsw':∀ (j:Nat) u,news[j]?=some u→w.cell? ((⟨qb,qo,none⟩:Addr).add j)=some u:=fun j u hj=>by rw [agp]; exact hnewsw j u hj
   have hmax:l2.length≤maxLen:=by unfold LIM at hl; unfold maxLen; omega
   have hbytes:l2.length * inf.bytes≤140737488355328:=by
    have:l2.length * inf.bytes≤LIM * 2048:=Nat.mul_le_mul hl hby
    unfold LIM at this; omega
   have hge:=grownCap_ge w l2.length 0 e
   have hle:=grownCap_le_maxLen w l2.length 0 e hmax
   have fresh:(Builtin.append_ #[n,n] o.type #[a.eval X',a.eval Y']).run P w=.ok (.slice (some ⟨w.heap.size,0,none⟩) l2.length (grownCap w l2.length 0 e)) (w.drew.alloc (.cells (news.toArray++Builtin.zeroCells z.cells (grownCap w l2.length 0 e - l2.length)) e))→o.wp P a w N Q:=by
    intro hrun
    have hold:∀ b,b < w.heap.size→(w.drew.alloc (.cells (news.toArray++Builtin.zeroCells z.cells (grownCap w l2.length 0 e - l2.length)) e)).heap[b]?=w.heap[b]?:=fun b hb=>heap_alloc_old w.drew _ hb
    have hnew:(w.drew.alloc (.cells (news.toArray++Builtin.zeroCells z.cells (grownCap w l2.length 0 e - l2.length)) e)).heap[w.heap.size]?=some (.cells (news.toArray++Builtin.zeroCells z.cells (grownCap w l2.length 0 e - l2.length)) e (0,0)):=heap_alloc_new w.drew _
    refine fin _ _ _ hrun ?_ hge hle nofun fun _=>⟨hl2,rfl,_,_,_,hnew,?_⟩
    · exact aqp (l:=l2) (us:=news) (rest:=(Builtin.zeroCells z.cells (grownCap w l2.length 0 e - l2.length)).toList) I T rfl rfl rfl (by rw [afu]; exact Nat.le_succ _) (Shp.old hold) (fun b hb _=>hold b hb) (fun _=>ahn I) fun _=>⟨hnew,by simp,kn1,ah5 I⟩
    · rw [Array.size_append,List.size_toArray,size_zeroCells,hzs,hnl,hsz,← Nat.add_mul]
      congr 1; omega
   cases A with
   | none =>
     refine fresh ?_
     rw [e1,f1]
     exact run_append_nil (P:=P) w n o.type e inf z hu hi hz ⟨qb,qo,none⟩ l2.length c2 news (by rw [hnl,hsz]) hnewsw' hl2p (by unfold maxLen at hmax; omega) (by omega)
   | some ad =>
     refine fresh ?_
     rw [e1,f1]
     have hr:=run_append_grow (P:=P) w n o.type e inf z hu hi hz ad 0 0 [] (by simp) (fun j v hj=>by simp at hj) ⟨qb,qo,none⟩ l2.length c2 news (by rw [hnl,hsz]) hnewsw' (by omega)
        (by unfold maxLen at hmax; omega) (growslice_fits (by omega) (by simpa using hbytes))
     simpa using hr
theorem aEF {dT ty e:TypeId} {inf:TypeInfo} (hu:P.underlying dT=some (.slice e)) (hi:P.info? e=some inf) {A q:Option Addr} {k c m c2:Nat} {ns:List Value} {w1:World} (hn:ns.length=Nat.min m k * inf.size)
 (hq:ns≠[]→∃ b,q=some b∧∀ (j:Nat) v,ns[j]?=some v→w.cell? (b.add j)=some v)
 (hs:(ns=[]→w1=w)∧(ns≠[]→∃ g,A=some g∧(storeCells g ns).run P w=.ok () w1)) :
 (Builtin.copy_ #[dT,dT] ty #[.slice A k c,.slice q m c2]).run P w=.ok (goInt (Nat.min m k)) w1:=by
 have h0:∀ b:Addr,(loadCells b 0).run P w=.ok #[] w:=fun b=>rfl
 by_cases hne:ns=[]
 · subst hne
   rw [hs.1 rfl]
   have hz:Nat.min m k * inf.size=0:=by rw [← hn]; rfl
   cases A <;> cases q <;> simp [Builtin.copy_,run_underlying hu,Builtin.lenOf,sizeOf,typeInfo,hi,Builtin.firstCells,hz,h0,storeCells]
 · obtain ⟨b,rfl,hb⟩:=hq hne
   obtain ⟨g,rfl,hg⟩:=hs.2 hne
   have hl:=run_loadCells_list (P:=P) w b ns hb
   rw [hn] at hl
   simp [Builtin.copy_,run_underlying hu,Builtin.lenOf,sizeOf,typeInfo,hi,Builtin.firstCells,hl,hg]
theorem aEL (hΓ:EnvOk P Γ) (I:Inv w0 M0 X s w M ι θ) (T:TInv s w M ι θ a) (G:Goes w0 M0 X r K N) {X' Y':Operand} {n:TypeId}
 (ho:o.op=.call { callee:=.builtin .copy,args:=#[X',Y'],argTypes:=#[n,n] }) {t:Ty} {rf:Rf} {i p k:Nat} {l l2:List t.D} {ty:Option Ty}
 (hx:s.ev none X'=.ref rf i) (hr:s.S[i]?=some [.blk (.row t l)]) (hv:isV rf t l p k) (hy:srcV s.S t (s.ev ty Y')=some l2) (hn:Γ.ty n=some (.sl t))
 (hk:K ({ s with S:=s.S.set i [TV.blk (.row t (lay l p (l2.take (Nat.min l2.length k))))] }.put o.dst (.int .i64 (Nat.min l2.length k:Nat)))=some r):o.wp P a w N Q:=by
 obtain ⟨h1,_,h3⟩:=abH T none X'
 rw [hx] at h1 h3
 obtain ⟨A,c,e1,e2,e3,e4,e5,e6⟩:=apl I h1 h3 hr hv
 obtain ⟨q,c2,news,f1,f2,f3,kn1,kn2⟩:=aAO I T hy
 obtain ⟨e,hu,hte⟩:=agb (hΓ.ty _ _ hn)
 obtain ⟨inf,z,hi,hsz,hby,hpos,hz,hzs⟩:=awv hte
 have hexec:∀ {v:Value} {w1:World},(Builtin.copy_ #[n,n] o.type #[a.eval X',a.eval Y']).run P w=.ok v w1→(execOp a.eval o).run P w=.ok (.value v) w1:=by
  intro v w1 h
  simp [execOp,ho,resolve,invoke,builtin,h]
 have hmin:Nat.min l2.length k≤l2.length:=Nat.min_le_left _ _
 have hmin2:Nat.min l2.length k≤k:=Nat.min_le_right _ _
 have hin:inK .i64 ((Nat.min l2.length k:Nat):Int)=true:=by
  rw [al0]; unfold maxLen at e4
  have e1:IntKind.i64.min = -9223372036854775808:=by decide
  have e2:IntKind.i64.max=9223372036854775807:=by decide
  omega
 by_cases h0:Nat.min l2.length k=0
 · have hlay:lay l p (l2.take (Nat.min l2.length k))=l:=by rw [h0]; simp [lay]
   rw [hlay] at hk
   have hset:s.S.set i [TV.blk (.row t l)]=s.S:=by
    apply List.ext_getElem?
    intro j
    by_cases hj:j=i
    · subst hj; rw [List.getElem?_set_self (List.getElem?_eq_some_iff.1 hr).1,hr]
    · rw [List.getElem?_set_ne (Ne.symm hj)]
   rw [hset] at hk
   have hrun:=aEF (P:=P) (w:=w) (w1:=w) (ty:=o.type) hu hi (A:=A) (q:=q) (k:=k) (c:=c) (m:=l2.length) (c2:=c2) (ns:=[]) (by rw [h0]; simp) (fun h=>absurd rfl h) ⟨fun _=>rfl,fun h=>absurd rfl h⟩
   rw [← e1,← f1] at hrun
   unfold Oper.wp
   rw [hexec hrun]
   exact G _ _ _ _ _ _ hk (I.put _ _) (T.put _ ⟨rfl,hin⟩ trivial trivial)
 · have hc:c≠0:=by omega
   obtain ⟨hne,rfl,cur,e',us,rest,k1,k2,k3,k4,k5,k6⟩:=e6 hc
   have hl2:l2≠[]:=by rintro rfl; simp at h0
   obtain ⟨qb,qo,rfl,hnewsw⟩:=kn2 hl2
   have kn1':=kn1
   rw [← List.take_append_drop (Nat.min l2.length k) l2] at kn1'
   obtain ⟨d1,d2,rfl,g1,g2⟩:=ap2 _ _ _ kn1'
   have hd1:d1.length=Nat.min l2.length k * t.size:=by rw [acP _ _ g1,List.length_take,Nat.min_eq_left hmin]
   have htl:(l2.take (Nat.min l2.length k)).length=Nat.min l2.length k:=by rw [List.length_take,Nat.min_eq_left hmin]
   obtain ⟨w1,us',w2,w3⟩:=azA k3 k4 g1 (p:=p) (by rw [htl]; omega)
   have hrun:=run_storeCells_at (P:=P) (ι i) (p * t.size) e' d1 0 cur w k1 (by simpa using w1) (awh _ _ g1)
   simp only [Nat.add_zero] at hrun
   have hd1p:d1≠[]:=by
    rintro rfl
    have:=Nat.mul_pos (show 0 < Nat.min l2.length k by omega) hpos
    simp at hd1; omega
   have hrc:=aEF (P:=P) (w:=w) (ty:=o.type) hu hi (A:=some ⟨ι i,p * t.size,none⟩) (q:=some ⟨qb,qo,none⟩) (k:=k) (c:=c) (m:=l2.length) (c2:=c2) (ns:=d1) (by rw [hd1,hsz])
    (fun _=>⟨_,rfl,fun j v hj=>by rw [agp]; exact hnewsw j v (by rw [List.getElem?_append_left (List.getElem?_eq_some_iff.1 hj).1]; exact hj)⟩) ⟨fun h=>absurd h hd1p,fun _=>⟨_,rfl,hrun⟩⟩
   rw [← e1,← f1] at hrc
   unfold Oper.wp
   rw [hexec hrc]
   obtain ⟨I1,T1⟩:=aBA I T hr hne (l':=lay l p (l2.take (Nat.min l2.length k))) (aAt (by rw [htl]; omega)) k1 w2 w3 (by
    simp only [List.length_append,List.length_take,List.length_drop,Array.length_toList]
    omega)
   exact G _ _ _ _ _ _ hk (I1.put _ _) (T1.put _ ⟨rfl,hin⟩ trivial trivial)
theorem ao3 (hΓ:EnvOk P Γ) (I:Inv w0 M0 X s w M ι θ) (T:TInv s w M ι θ a) (G:Goes w0 M0 X r K N) {n:TypeId} {x:Operand} {lo hi:Option Operand} (ho:o.op=.slice n x lo hi none)
 {t:Ty} {rf:Rf} {k p m i j:Nat} {l:List t.D} {tx:Option Ty} (hx:s.ev tx x=.ref rf k) (hr:s.S[k]?=some [.blk (.row t l)]) (hv:isV rf t l p m) (hn:Γ.ty n=some (.sl t))
 (hl:bnd (lo.map a.eval) 0 i) (hh:bnd (hi.map a.eval) m j) (hij:i≤j) (hj:j≤m)
 (hk:K (s.put o.dst (.ref (.asv t (p+i) (j - i)) k))=some r):o.wp P a w N Q:=by
 obtain ⟨h1,_,h3⟩:=abH T tx x
 rw [hx] at h1 h3
 obtain ⟨A,c,e1,e2,e3,e4,e5,e6⟩:=apl I h1 h3 hr hv
 obtain ⟨e,hu,hte⟩:=agb (hΓ.ty _ _ hn)
 refine ahY I T G (v:=.slice (if c=i then A else A.map (·.add (i * t.size))) (j - i) (c - i)) ?_ hk ?_ trivial ⟨h3.1,fun l1 hl1=>?_⟩
 · simp only [execOp,ho,e1,Sem.run_bind,Instr.sliceAt,run_underlying hu,Result.andThen_ok,Instr.slice,Option.map_none,axa (P:=P) (w:=w) true m c _ _ _ i j c (.inl ⟨rfl,rfl⟩) hh hl hij (by omega) (Nat.le_refl _) (by simp),aet hte,Sem.run_pure]
 · simp only [rv,rfv]
   refine ⟨_,_,_,rfl,fun hc=>?_⟩
   obtain ⟨_,hA,_⟩:=e6 (by omega)
   rw [if_neg (by omega),hA]
   exact ⟨_,by rw [Option.map_some,agp]⟩
 · rw [hr] at hl1
   have:l=l1:=by simpa using hl1
   subst this
   refine ⟨_,_,rfl,by omega,by omega,by omega,fun hnone=>?_,fun hc=>?_⟩
   · by_cases hci:c=i
     · omega
     · rw [if_neg hci] at hnone
       have:A=none:=by simpa using hnone
       have:=e5 this; omega
   · obtain ⟨hne,hA,cur,e',us,rest,k1,k2,_⟩:=e6 (by omega)
     refine ⟨hne,ι k,cur,e',(0,0),?_,k1,?_⟩
     · rw [if_neg (by omega),hA,Option.map_some,agp,Nat.add_mul]
     · rw [k2]; congr 1; omega
theorem aCQ (hΓ:EnvOk P Γ) (I:Inv w0 M0 X s w M ι θ) (T:TInv s w M ι θ a) (G:Goes w0 M0 X r K N) {n:TypeId} {len:Nat} {ps:Array (Nat×Operand)} (ho:o.op=.buildSlice n len ps) {t:Ty} {l:List t.D}
 (hn:Γ.ty n=some (.sl t)) (hb:aqw s t ps.toList (List.replicate len (zero t))=some l) (hsm:Nat.ble (len * t.size) 16777216=true)
 (hk:K ({ s with S:=s.S++[[TV.blk (.row t l)]] }.put o.dst (.ref (.asl t) s.S.length))=some r):o.wp P a w N Q:=by
 obtain ⟨e,cs',hl,k2,hmax,hrun⟩:=azE hΓ T hn hb hsm
 have hold:∀ b,b < w.heap.size→(w.alloc (.cells cs'.toArray e)).heap[b]?=w.heap[b]?:=fun b hb=>heap_alloc_old w _ hb
 obtain ⟨I1,T1⟩:=aqp I T (t:=t) (l:=l) (g:=w.heap.size) (w1:=w.alloc (.cells cs'.toArray e)) (us:=cs') (rest:=[])
  rfl rfl rfl (by rw [afu]; omega) (Shp.old hold) (fun b hb _=>hold b hb) (fun _=>ahn I) fun _=>⟨heap_alloc_new w _,by simp,k2,ah5 I⟩
 obtain ⟨r1,r2⟩:=aBx (M:=M) (w1:=w.alloc (.cells cs'.toArray e)) (ι1:=upd ι s.S.length w.heap.size) (S:=s.S) (A:=some ⟨w.heap.size,0,none⟩) (c:=len) (n:=len) rfl (.inl ⟨rfl,rfl,hl.symm⟩:isV (.asl t) t l 0 len) aiL (Nat.le_refl _) (by omega) hmax nofun
  fun hc=>⟨by rintro rfl; simp at hl; omega,rfl,_,e,(0,0),heap_alloc_new w _,by simp [acP l cs' k2,hl]⟩
 unfold Oper.wp
 simp only [execOp,ho,Sem.run_bind,hrun,Result.andThen_ok,Sem.run_pure]
 exact G _ _ _ _ _ _ hk (I1.put _ _) (T1.put _ r1 trivial r2)
theorem aAI (I:Inv w0 M0 X s w M ι θ) (T:TInv s w M ι θ a) {t:Ty} {i:Nat} {l:List t.D} (hr:s.S[i]?=some [.blk (.row t l)]) (hne:l≠[]) {cur:Array Value} {e:TypeId} {us rest:List Value} {fr:Nat×Nat} {w1:World}
 (hg:w.heap[ι i]?=some (.cells cur e (0,0))) (hcs:cur.toList=us++rest) (hos:w1.os=w.os) (htape:w1.tape=w.tape) (hout:w1.output=w.output) (hsz:w1.heap.size=w.heap.size) (hold:∀ b,b≠ι i→w1.heap[b]?=w.heap[b]?) (hnew:w1.heap[ι i]?=some (.cells cur e fr)) :
 ∃ M1:Mem,M.le M1∧(∀ (j:Nat) v,us[j]?=some v→M1 (ι i) j=some v)∧Inv w0 M0 X { s with S:=s.S.set i [] } w1 M1 ι θ∧TInv { s with S:=s.S.set i [] } w1 M1 ι θ a:=by
 have hh:=ap8 (t:=t) hne
 have hil:i < s.S.length:=(List.getElem?_eq_some_iff.1 hr).1
 obtain ⟨hok,hX⟩:=I.obj i _ hr hh
 have hMn:=hok.none
 have hnewM:∀ j,rowM M (ι i) us (ι i) j=us[j]?:=fun j=>asG M _ us j
 have hle:M.le (rowM M (ι i) us):=by
  intro b j v h
  by_cases hb:b=ι i
  · subst hb; rw [hMn j] at h; cases h
  · rw [am4 M us j hb]; exact h
 have hext:Ext s.S (s.S.set i []):=Ext.set hr (evo.nil _)
 have hsh:Shp w w1:=by
  intro b c e' f hb
  by_cases hbi:b=ι i
  · subst hbi
    rw [hg] at hb
    cases hb
    exact ⟨_,_,_,hnew,rfl⟩
  · exact ⟨c,e',f,(hold b hbi).trans hb,rfl⟩
 have hval:∀ x v,rv M ι x v→tc w M θ s.O s.c x v→aaI w s.S x v→rv (rowM M (ι i) us) ι x v∧tc w1 (rowM M (ι i) us) θ s.O s.c x v∧aaI w1 (s.S.set i []) x v:=by
  intro x v k3 k4 k5
  refine ⟨auQ hle ι x v k3,amb (fun _ h=>h) (Nat.le_refl _) (fun q g hq hg=>?_) x v k4,abK hsh hext x v k5⟩
  have hne':g≠ι i:=fun e=>(I.tok q g hq hg).2.2 i _ hr hh e.symm
  exact ⟨hold g hne',fun j=>am4 M us j hne'⟩
 have split:∀ (j:Nat) c1,(s.S.set i [])[j]?=some c1→hol c1=false→j≠i∧s.S[j]?=some c1:=by
  intro j c1 h hh
  by_cases hj:j=i
  · subst hj
    rw [List.getElem?_set_self hil] at h
    cases h; cases hh
  · rw [List.getElem?_set_ne (Ne.symm hj)] at h; exact ⟨hj,h⟩
 refine ⟨rowM M (ι i) us,hle,fun j v h=>(hnewM j).trans h,⟨hos.trans I.os,htape.trans I.tape,hout.trans I.output,by rw [hsz]; exact I.size,Mem.le_trans I.memle hle,?_,?_,?_,?_,?_,I.tokc,I.one,(I.dropObj hr).base,I.shp.trans hsh⟩,⟨T.n,T.d,(T.dropObj hr).dlt,fun x=>?_⟩⟩
 · intro b j v h
   by_cases hb:b=ι i
   · subst hb
     rw [hnewM] at h
     rw [ai7 hnew,← Array.getElem?_toList,hcs,List.getElem?_append_left (List.getElem?_eq_some_iff.1 h).1]
     exact h
   · rw [am4 M us j hb] at h
     rw [am9 (hold b hb)]
     exact I.mem b j v h
 · intro b hb hx
   obtain ⟨h1,h2⟩:=I.keep b hb hx
   have hbi:b≠ι i:=by
    rintro rfl
    rcases hX with h | h
    · exact hx h
    · omega
   exact ⟨(hold b hbi).trans h1,fun j=>(am4 M us j hbi).trans (h2 j)⟩
 · intro j c1 hj hh1
   obtain ⟨hji,hj⟩:=split j c1 hj hh1
   obtain ⟨h1,h4⟩:=I.obj j c1 hj hh1
   have hb:ι j≠ι i:=fun e=>hji (I.inj j i c1 _ hj hr hh1 hh e)
   exact ⟨h1.same (hold _ hb) hle (fun k=>am4 M us k hb) hval,h4⟩
 · intro p q c1 c2 hp hq h1 h2 e
   exact I.inj p q c1 c2 (split p c1 hp h1).2 (split q c2 hq h2).2 h1 h2 e
 · intro q g hq hg
   obtain ⟨h1,h2,h3⟩:=I.tok q g hq hg
   exact ⟨by rw [hsz]; exact h1,h2,fun k c1 hk hh=>h3 k c1 (split k c1 hk hh).2 hh⟩
 · obtain ⟨h1,h2,h3⟩:=T.v x
   exact hval _ _ h1 h2 h3
theorem aF3 {g n:Nat} {cur:Array Value} {e:TypeId} (hg:w.heap[g]?=some (.cells cur e (0,0))) :
 (w.freeze ⟨g,n,none⟩ 1).heap[g]?=some (.cells cur e (n,n+1))∧(∀ b,b≠g→(w.freeze ⟨g,n,none⟩ 1).heap[b]?=w.heap[b]?)∧(w.freeze ⟨g,n,none⟩ 1).heap.size=w.heap.size ∧
  (w.freeze ⟨g,n,none⟩ 1).os=w.os∧(w.freeze ⟨g,n,none⟩ 1).tape=w.tape∧(w.freeze ⟨g,n,none⟩ 1).output=w.output:=by
 have hlt:g < w.heap.size:=(Array.getElem?_eq_some_iff.1 hg).1
 have hv:w.heap[g]=.cells cur e (0,0):=(Array.getElem?_eq_some_iff.1 hg).2
 unfold World.freeze
 rw [if_neg (by decide)]
 refine ⟨?_,fun b hb=>?_,by simp,rfl,rfl,rfl⟩
 · show (w.heap.modify g _)[g]?=_
   rw [Array.getElem?_eq_getElem (by simpa using hlt),Array.getElem_modify]
   simp [hv]
 · show (w.heap.modify g _)[b]?=_
   simp [Array.getElem?_modify,Ne.symm hb]
theorem aH2 (hΓ:EnvOk P Γ) (I:Inv w0 M0 X s w M ι θ) (T:TInv s w M ι θ a) (G:Goes w0 M0 X r K N) {src:TypeId} {x:Operand} (ho:o.op=.convert src src x) {i:Nat} {l:List Int} {tx:Option Ty}
 (hx:s.ev tx x=.ref (.asl (.int .u8)) i) (hr:s.S[i]?=some [.blk (.row (.int .u8) l)]) (hne:l≠[]) (hs:Γ.ty src=some (.sl (.int .u8)))
 (hk:K ({ s with S:=s.S.set i [] }.put o.dst (.sl (.int .u8) .sh none l))=some r):o.wp P a w N Q:=by
 obtain ⟨h1,_,h3⟩:=abH T tx x
 rw [hx] at h1 h3
 obtain ⟨A,c,e1,e2,e3,e4,e5,e6⟩:=apl (t:=.int .u8) I h1 h3 (l:=l) hr (.inl ⟨rfl,rfl,rfl⟩)
 have hc:c≠0:=by
  have:l.length≠0:=fun e=>hne (List.eq_nil_of_length_eq_zero e)
  have e2:l.length≤c:=e2
  omega
 obtain ⟨_,rfl,cur,e,us,rest,k1,k2,k3,k4,_⟩:=e6 hc
 obtain ⟨e',hu,he⟩:=aBP (hΓ.ty _ _ hs)
 obtain ⟨f1,f2,f3,f4,f5,f6⟩:=aF3 (n:=cur.size) k1
 obtain ⟨M1,m1,m2,I1,T1⟩:=aAI (t:=.int .u8) I T hr hne k1 k3 (fr:=(cur.size,cur.size+1)) (w1:=w.freeze ⟨ι i,cur.size,none⟩ 1) f4 f5 f6 f3 f2 f1
 have hrun:(execOp a.eval o).run P w=.ok (.value (a.eval x)) (w.freeze ⟨ι i,cur.size,none⟩ 1):=by
  have hsh:w.shape? (ι i)=some (e,cur.size):=by unfold World.shape?; rw [k1]
  simp [execOp,ho,e1,convert,run_underlying hu,run_underlying he,markStringish,hsh]
 unfold Oper.wp
 rw [hrun]
 refine G _ _ _ _ _ _ hk (I1.put _ _) (T1.put _ ?_ trivial trivial)
 rw [e1]
 refine ⟨_,c,rfl,e2,e4,e5,?_,nofun,nofun⟩
 simp only [Nat.zero_mul]
 exact ahI k4 m1 (fun j v hj=>by rw [Nat.zero_add]; exact m2 j v hj)
theorem aAM (I:Inv w0 M0 X s w M ι θ) (T:TInv s w M ι θ a) (G:Goes w0 M0 X r K N) {x:Operand} (ho:o.op=.assign x) {t:Ty} {nl:Option Bool} {rf:Rf} {tx:Option Ty}
 (hx:s.ev tx x=.sl t .full nl []) (hv:isV rf t [] 0 0) (hk:K ({ s with S:=s.S++[[TV.blk (.row t [])]] }.put o.dst (.ref rf s.S.length))=some r):o.wp P a w N Q:=by
 obtain ⟨h1,_,_⟩:=abH T tx x
 rw [hx] at h1
 obtain ⟨A,c,e1,_,_,_,_,_,e6⟩:=h1
 have hc0:c=0:=e6 rfl
 subst hc0
 have e1:a.eval x=.slice A 0 0:=e1
 obtain ⟨I1,T1⟩:=aqp (l:=[]) (t:=t) (g:=w.heap.size) (w1:=w) I T (cur:=#[]) (e:=0) (us:=[]) (rest:=[]) rfl rfl rfl (Nat.le_refl _) (Shp.refl _) (fun _ _ _=>rfl) (fun h=>absurd rfl h) fun h=>absurd rfl h
 obtain ⟨r1,r2⟩:=aBx (M:=M) (w1:=w) (ι1:=upd ι s.S.length w.heap.size) (S:=s.S) (A:=A) (c:=0) (n:=0) rfl hv aiL (Nat.le_refl _) (Nat.zero_le _) (Nat.zero_le _) (fun _=>rfl) fun h=>absurd rfl h
 unfold Oper.wp
 simp only [execOp,ho,e1,Sem.run_pure]
 exact G _ _ _ _ _ _ hk (I1.put _ _) (T1.put _ r1 trivial r2)
theorem aCR (hΓ:EnvOk P Γ) (I:Inv w0 M0 X s w M ι θ) (T:TInv s w M ι θ a) (G:Goes w0 M0 X r K N) {X':Operand} {n:TypeId}
 (ho:o.op=.call { callee:=.builtin .clear,args:=#[X'],argTypes:=#[n] }) {t:Ty} {rf:Rf} {i p k:Nat} {l:List t.D}
 (hx:s.ev none X'=.ref rf i) (hr:s.S[i]?=some [.blk (.row t l)]) (hv:isV rf t l p k) (hn:Γ.ty n=some (.sl t))
 (hk:K ({ s with S:=s.S.set i [TV.blk (.row t (lay l p (List.replicate k (zero t))))] }.put o.dst (.tup []))=some r):o.wp P a w N Q:=by
 obtain ⟨h1,_,h3⟩:=abH T none X'
 rw [hx] at h1 h3
 obtain ⟨A,c,e1,e2,e3,e4,e5,e6⟩:=apl I h1 h3 hr hv
 obtain ⟨e,hu,hte⟩:=agb (hΓ.ty _ _ hn)
 obtain ⟨inf,hi,hsz,hby,hpos,z,hz,hz2,_,_⟩:=abz (afa hte)
 obtain ⟨zc,hzc,hrep⟩:=ag5 (M:=M) t _ _ hz2
 rw [List.append_nil] at hzc
 have hz3:z.cells=zc.toArray:=by rw [← hzc]
 have hzl:=aat t zc _ hrep
 have hexec:∀ {v:Value} {w1:World},(Builtin.clear_ #[n] o.type #[a.eval X']).run P w=.ok v w1→(execOp a.eval o).run P w=.ok (.value v) w1:=by
  intro v w1 h
  simp [execOp,ho,resolve,invoke,builtin,h]
 by_cases h0:k=0
 · subst h0
   have hlay:lay l p (List.replicate 0 (zero t))=l:=by simp [lay]
   rw [hlay] at hk
   have hset:s.S.set i [TV.blk (.row t l)]=s.S:=by
    apply List.ext_getElem?
    intro j
    by_cases hj:j=i
    · subst hj; rw [List.getElem?_set_self (List.getElem?_eq_some_iff.1 hr).1,hr]
    · rw [List.getElem?_set_ne (Ne.symm hj)]
   rw [hset] at hk
   have hrun:(Builtin.clear_ #[n] o.type #[a.eval X']).run P w=.ok (.tuple #[]) w:=by
    rw [e1]
    cases A <;> simp [Builtin.clear_,run_underlying hu]
   unfold Oper.wp
   rw [hexec hrun]
   exact G _ _ _ _ _ _ hk (I.put _ _) (T.put _ ⟨[],rfl,rfl⟩ (fun us _=>by cases us <;> trivial) (fun us _=>by cases us <;> trivial))
 · have hc:c≠0:=by omega
   obtain ⟨hne,rfl,cur,e',us,rest,k1,k2,k3,k4,k5,k6⟩:=e6 hc
   have hrl:=ald (M:=M) hrep k
   have hcl:(List.replicate k zc).flatten.length=k * t.size:=by simp [hzl]
   obtain ⟨w1,us',w2,w3⟩:=azA k3 k4 hrl (p:=p) (by rw [List.length_replicate]; omega)
   have hrun:=run_storeCells_at (P:=P) (ι i) (p * t.size) e' (List.replicate k zc).flatten 0 cur w k1 (by simpa using w1) (awh _ _ hrl)
   simp only [Nat.add_zero] at hrun
   have hzz:Builtin.zeroCells z.cells k=(List.replicate k zc).flatten.toArray:=by
    rw [hz3]
    exact auk zc (by omega) k
   have hrc:(Builtin.clear_ #[n] o.type #[a.eval X']).run P w=.ok (.tuple #[]) (w.setRow (ι i) (cur.toList.take (p * t.size)++(List.replicate k zc).flatten++cur.toList.drop (p * t.size+(List.replicate k zc).flatten.length)).toArray):=by
    rw [e1]
    cases k with
    | zero=>exact absurd rfl h0
    | succ k =>
      simp [Builtin.clear_,run_underlying hu,zeroValue,typeInfo,hi,hz,hzz,hrun]
   unfold Oper.wp
   rw [hexec hrc]
   obtain ⟨I1,T1⟩:=aBA I T hr hne (l':=lay l p (List.replicate k (zero t))) (aAt (by rw [List.length_replicate]; omega)) k1 w2 w3 (by
    simp only [List.length_append,List.length_take,List.length_drop,Array.length_toList]
    omega)
   exact G _ _ _ _ _ _ hk (I1.put _ _) (T1.put _ ⟨[],rfl,rfl⟩ (fun us _=>by cases us <;> trivial) (fun us _=>by cases us <;> trivial))
end
end Go.Proofs.Ytgmeimbamfggkaa.Den
