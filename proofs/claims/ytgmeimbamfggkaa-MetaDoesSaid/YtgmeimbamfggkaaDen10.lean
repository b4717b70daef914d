import Derived.Test.YtgmeimbamfggkaaDen9
import Derived.Laws.Append
import Derived.Laws.AppendOwnNone
namespace Go.Proofs.Ytgmeimbamfggkaa.Den
open Go
section
variable {w0 : World} {M0:Mem} {X:Fr} {s:St} {w:World} {M:Mem} {ι:Nat→Nat} {θ:Nat→Option Nat} {a:Act}
variable {P : Program} {ρ:Type} {r:ρ} {K:St→Option ρ} {N:Act→World→Prop} {Q:Exit→Act→World→Prop} {o:Oper} {Γ:Env}
theorem ahI {t:Ty} {l:List t.D} {cs:List Value} (h:repL M t cs l) {M1:Mem} (hM:M.le M1) {g p:Nat} (hc:∀ (i:Nat) v,cs[i]?=some v→M1 g (p+i)=some v) :
 arr M1 (rep M1 t) t.size (some ⟨g,p,none⟩) l:=by
 intro _
 refine ⟨g,p,rfl,fun i x hi=>?_⟩
 obtain ⟨vs,k1,k2,k3⟩:=ayd l cs i x h hi
 exact ⟨vs,k1,ai6 hM t vs x k2,fun j v hj=>by rw [Nat.add_assoc]; exact hc _ _ (k3 j v hj)⟩
theorem azx {t:Ty}:∀ (l:List t.D) (b p:Nat),(∀ (i:Nat) x,l[i]?=some x→∃ vs:List Value,vs.length=t.size∧rep M t vs x∧∀ (j:Nat) v,vs[j]?=some v→M b (p+i * t.size+j)=some v) →
 ∃ cs,repL M t cs l∧∀ (j:Nat) v,cs[j]?=some v→M b (p+j)=some v
 | [],_,_,_=>⟨[],rfl,fun j v h=>by simp at h⟩
 | x :: l,b,p,h=>by
   obtain ⟨vs,k1,k2,k3⟩:=h 0 x rfl
   obtain ⟨cs,e1,e2⟩:=azx l b (p+t.size) (fun i y hy=>by
     obtain ⟨us,q1,q2,q3⟩:=h (i+1) y (by simpa using hy)
     exact ⟨us,q1,q2,fun j v hj=>by have:=q3 j v hj; rw [Nat.add_mul,Nat.one_mul] at this; rw [← this]; congr 1; omega⟩)
   refine ⟨vs++cs,⟨vs,cs,rfl,k2,e1⟩,fun j v hj=>?_⟩
   by_cases hjl:j < vs.length
   · rw [List.getElem?_append_left hjl] at hj
     have:=k3 j v hj
     rw [← this]; congr 1; omega
   · rw [List.getElem?_append_right (by omega)] at hj
     have:=e2 _ v hj
     rw [← this]; congr 1; omega
theorem ayk {t:Ty} {l:List t.D} {p:Option Addr} (h:arr M (rep M t) t.size p l) :
 ∃ cs,repL M t cs l∧(l≠[]→∃ b q,p=some ⟨b,q,none⟩∧∀ (j:Nat) v,cs[j]?=some v→M b (q+j)=some v):=by
 cases l with
 | nil=>exact ⟨[],rfl,fun h=>absurd rfl h⟩
 | cons x l =>
   obtain ⟨b,q,hp,hi⟩:=h (by simp)
   obtain ⟨cs,e1,e2⟩:=azx (x :: l) b q hi
   exact ⟨cs,e1,fun _=>⟨b,q,hp,e2⟩⟩
theorem aDx : ∀ (l:List Int) (cs:List Value),repL M (.int .u8) cs l→cs=l.map (Value.int .u8)∧∀ n∈l,inK .u8 n=true
 | [],cs,h=>⟨h,by simp⟩
 | n :: l,cs,h=>by
   obtain ⟨c1,c2,rfl,h1,h2⟩:=h
   obtain ⟨e,k⟩:=aDx l c2 h2
   rw [h1.1,e]
   refine ⟨rfl,fun m hm=>?_⟩
   rcases List.mem_cons.1 hm with rfl | hm
   · exact h1.2
   · exact k m hm
theorem asy (l:List Int):∀ (s:ByteArray),(∀ n∈l,inK .u8 n=true)→aaz (l.foldl (fun r n=>r.push (UInt8.ofNat n.toNat)) s)=aaz s++l:=by
 induction l with
 | nil=>intro s _; simp
 | cons n l ih =>
   intro s h
   rw [List.foldl_cons,ih _ (fun m hm=>h m (List.mem_cons_of_mem _ hm))]
   have hn:=al0.1 (h n (List.mem_cons_self ..))
   have e1:IntKind.u8.min=0:=by decide
   have e2:IntKind.u8.max=255:=by decide
   have:aaz (s.push (UInt8.ofNat n.toNat))=aaz s++[n]:=by
    unfold aaz
    rw [ByteArray.data_push,Array.toList_push,List.map_append]
    congr 1
    simp
    omega
   rw [this]
   simp
theorem aBP {n:TypeId} (h:tyOk P (.sl (.int .u8)) n=true):∃ e,P.underlying n=some (.slice e)∧P.underlying e=some (.int .u8):=by
 obtain ⟨e,he,ht⟩:=agb h
 exact ⟨e,he,aj_ ht⟩
theorem aG0 (hΓ:EnvOk P Γ) (I:Inv w0 M0 X s w M ι θ) (T:TInv s w M ι θ a) (G:Goes w0 M0 X r K N) {src dst:TypeId} {x:Operand} (ho:o.op=.convert src dst x) {f:Fl} {nl:Option Bool} {l:List Int}
 (hx:s.ev none x=.sl (.int .u8) f nl l) (hs:Γ.ty src=some (.sl (.int .u8))) (hd:Γ.ty dst=some .str) (hk:K (s.put o.dst (.str l))=some r):o.wp P a w N Q:=by
 obtain ⟨h1,_,_⟩:=abH T none x
 rw [hx] at h1
 obtain ⟨p,c,h1,h3,h4,_,h6,_⟩:=h1
 obtain ⟨e,hu,he⟩:=aBP (hΓ.ty _ _ hs)
 have hud:=ag4 (hΓ.ty _ _ hd)
 obtain ⟨cs,k1,k2⟩:=ayk h6
 obtain ⟨rfl,k3⟩:=aDx l cs k1
 have hlen:(l.foldl (fun r n=>r.push (UInt8.ofNat n.toNat)) ByteArray.empty).size=l.length:=by
  have:=congrArg List.length (asy l ByteArray.empty k3)
  rw [acj] at this
  simpa [aaz] using this
 refine aaP I T G (v:=.string (l.foldl (fun r n=>r.push (UInt8.ofNat n.toNat)) ByteArray.empty)) ?_ hk ⟨_,rfl,?_,?_⟩ rfl
 · have hrun:(Conv.bytesToString (.slice p (List.length l) c)).run P w=.ok (.string (l.foldl (fun r n=>r.push (UInt8.ofNat n.toNat)) ByteArray.empty)) w:=by
    cases p with
    | none =>
      have:l=[]:=by
       cases l with
       | nil=>rfl
       | cons n l=>obtain ⟨b,q,hp,_⟩:=k2 (List.cons_ne_nil _ _); cases hp
      subst this
      rfl
    | some ad =>
      have hload:(loadCells ad (List.length l)).run P w=.ok (l.map (Value.int .u8)).toArray w:=by
       cases l with
       | nil=>rfl
       | cons n l =>
         obtain ⟨b,q,hp,hc⟩:=k2 (List.cons_ne_nil _ _)
         cases hp
         have:=run_loadCells_list (P:=P) w ⟨b,q,none⟩ ((n :: l).map (Value.int .u8)) (fun j v hj=>by rw [agp]; exact I.mem _ _ _ (hc j v hj))
         rwa [List.length_map] at this
      exact run_bytesToString w ad (List.length l) c l hload
   simp only [execOp,ho,h1,convert,Sem.run_bind,run_underlying hu,run_underlying hud,Result.andThen_ok,run_underlying he,Sem.run_pure]
   exact congrArg (fun z=>Result.andThen z fun a w'=>Result.ok (Next.value a) w') hrun
 · rw [asy l _ k3]; rfl
 · have h3':l.length≤c:=h3
   rw [hlen]; omega
theorem aDK (hΓ:EnvOk P Γ) (I:Inv w0 M0 X s w M ι θ) (T:TInv s w M ι θ a) (G:Goes w0 M0 X r K N) {src dst:TypeId} {x:Operand} (ho:o.op=.convert src dst x) {l:List Int}
 (hx:s.ev none x=.str l) (hs:Γ.ty src=some .str) (hd:Γ.ty dst=some (.sl (.int .u8))) (hk:K (s.put o.dst (.sl (.int .u8) .sh (some false) l))=some r):o.wp P a w N Q:=by
 obtain ⟨h1,_,_⟩:=abH T none x
 rw [hx] at h1
 obtain ⟨p,h1,rfl,h3⟩:=h1
 obtain ⟨e,hu,he⟩:=aBP (hΓ.ty _ _ hd)
 have hus:=ag4 (hΓ.ty _ _ hs)
 have hrun:=Lib.run_convert_string_bytes (P:=P) w src dst e p hus hu he
 have hex:(execOp a.eval o).run P w=.ok (.value (.slice (some ⟨w.heap.size,0,none⟩) p.size (grownCap w p.size 0 e))) (Lib.bytesWorld w e p):=by
  simp only [execOp,ho,h1,Sem.run_bind,hrun,Result.andThen_ok,Sem.run_pure]
 have hold:∀ b,b < w.heap.size→(Lib.bytesWorld w e p).heap[b]?=w.heap[b]?:=fun b hb=>Lib.bytesWorld_at_old w e p b hb
 have hcur:∀ (i:Nat) v,((aaz p).map (Value.int .u8))[i]?=some v→(Lib.bytesCells w e p)[i]?=some v:=by
  intro i v h
  have hi:i < p.size:=by have:=(List.getElem?_eq_some_iff.1 h).1; rw [List.length_map,acj] at this; exact this
  unfold Lib.bytesCells
  rw [Array.getElem?_append_left (by rw [Array.size_map]; exact hi)]
  unfold aaz at h
  rw [List.map_map,List.getElem?_map] at h
  rw [Array.getElem?_map]
  rw [Array.getElem?_toList] at h
  exact h
 have I1:=I.row (vs:=(aaz p).map (Value.int .u8)) (w1:=Lib.bytesWorld w e p) rfl rfl rfl (by rw [Lib.bytesWorld_size]; omega) hold (Lib.bytesWorld_at_new w e p) hcur
 have T1:=T.row I (vs:=(aaz p).map (Value.int .u8)) hold
 have hin:∀ n∈aaz p,inK .u8 n=true:=by
  intro n hn
  unfold aaz at hn
  obtain ⟨b,_,rfl⟩:=List.mem_map.1 hn
  have:=b.toNat_lt
  rw [al0]
  have e1:IntKind.u8.min=0:=by decide
  have e2:IntKind.u8.max=255:=by decide
  omega
 have hrepl:∀ l:List Int,(∀ n∈l,inK .u8 n=true)→repL (rowM M w.heap.size ((aaz p).map (Value.int .u8))) (.int .u8) (l.map (Value.int .u8)) l:=by
  intro l
  induction l with
  | nil=>intro _; rfl
  | cons n l ih=>intro h; exact ⟨[.int .u8 n],_,rfl,⟨rfl,h n (List.mem_cons_self ..)⟩,ih (fun m hm=>h m (List.mem_cons_of_mem _ hm))⟩
 unfold Oper.wp
 rw [hex]
 have hrv:rv (rowM M w.heap.size ((aaz p).map (Value.int .u8))) ι (.sl (.int .u8) .sh (some false) (aaz p)) (.slice (some ⟨w.heap.size,0,none⟩) p.size (grownCap w p.size 0 e)):=by
  refine ⟨some ⟨w.heap.size,0,none⟩,grownCap w p.size 0 e,by rw [show List.length (α:=(Ty.int .u8).D) (aaz p)=p.size from acj p],?_,?_,nofun,?_,fun b hb=>?_,nofun⟩
  rotate_right
  · exact Option.some.inj hb
  · rw [show List.length (α:=(Ty.int .u8).D) (aaz p)=p.size from acj p]
    exact grownCap_ge w p.size 0 e
  · exact grownCap_le_maxLen w p.size 0 e h3
  · exact ahI (hrepl _ hin) (Mem.le_refl _) (fun i v h=>by rw [Nat.zero_add,asG]; exact h)
 exact G _ _ _ _ _ _ hk (I1.put _ _) (T1.put _ hrv trivial trivial)
end
end Go.Proofs.Ytgmeimbamfggkaa.Den
