import Derived.Test.YtgmeimbamfggkaaDen32
import Derived.Test.YtgmeimbamfggkaaDen33
namespace Go.Proofs.Ytgmeimbamfggkaa.Den
open Go
def Ev {α:Type} (F:Nat→Option α) (r:α):Prop:=∃ K,∀ k,K≤k→F k=some r
def Ev2 {α:Type} (F:Nat→Nat→Option α) (r:α):Prop:=∃ K,∀ k n,K≤k→K≤n→F k n=some r
def Ev3 {α:Type} (F:Nat→Nat→Nat→Option α) (r:α):Prop:=∃ K,∀ k n m,K≤k→K≤n→K≤m→F k n m=some r
def Ev4 {α:Type} (F:Nat→Nat→Nat→Nat→Option α) (r:α):Prop:=∃ K,∀ k n m l,K≤k→K≤n→K≤m→K≤l→F k n m l=some r
section
variable {α β:Type} {r:α} {s:β}
theorem Ev.ret : Ev (fun _=>some r) r:=⟨0,fun _ _=>rfl⟩
theorem Ev2.ret : Ev2 (fun _ _=>some r) r:=⟨0,fun _ _ _ _=>rfl⟩
theorem Ev3.ret : Ev3 (fun _ _ _=>some r) r:=⟨0,fun _ _ _ _ _ _=>rfl⟩
theorem Ev4.ret : Ev4 (fun _ _ _ _=>some r) r:=⟨0,fun _ _ _ _ _ _ _ _=>rfl⟩
theorem Ev.bind {F:Nat→Option α} {G:Nat→α→Option β} (h:Ev F r) (g:Ev (fun k=>G k r) s):Ev (fun k=>(F k).bind (G k)) s:=by
 obtain ⟨K,hK⟩:=h
 obtain ⟨L,hL⟩:=g
 refine ⟨Nat.max K L,fun k hk=>?_⟩
 show (F k).bind (G k)=some s
 rw [hK k (Nat.le_trans (Nat.le_max_left ..) hk)]
 exact hL k (Nat.le_trans (Nat.le_max_right ..) hk)
theorem Ev2.bind {F:Nat→Nat→Option α} {G:Nat→Nat→α→Option β} (h:Ev2 F r) (g:Ev2 (fun k n=>G k n r) s):Ev2 (fun k n=>(F k n).bind (G k n)) s:=by
 obtain ⟨K,hK⟩:=h
 obtain ⟨L,hL⟩:=g
 refine ⟨Nat.max K L,fun k n hk hn=>?_⟩
 show (F k n).bind (G k n)=some s
 rw [hK k n (Nat.le_trans (Nat.le_max_left ..) hk) (Nat.le_trans (Nat.le_max_left ..) hn)]
 exact hL k n (Nat.le_trans (Nat.le_max_right ..) hk) (Nat.le_trans (Nat.le_max_right ..) hn)
theorem Ev3.bind {F:Nat→Nat→Nat→Option α} {G:Nat→Nat→Nat→α→Option β} (h:Ev3 F r) (g:Ev3 (fun k n m=>G k n m r) s):Ev3 (fun k n m=>(F k n m).bind (G k n m)) s:=by
 obtain ⟨K,hK⟩:=h
 obtain ⟨L,hL⟩:=g
 refine ⟨Nat.max K L,fun k n m hk hn hm=>?_⟩
 show (F k n m).bind (G k n m)=some s
 rw [hK k n m (Nat.le_trans (Nat.le_max_left ..) hk) (Nat.le_trans (Nat.le_max_left ..) hn) (Nat.le_trans (Nat.le_max_left ..) hm)]
 exact hL k n m (Nat.le_trans (Nat.le_max_right ..) hk) (Nat.le_trans (Nat.le_max_right ..) hn) (Nat.le_trans (Nat.le_max_right ..) hm)
theorem Ev4.bind {F:Nat→Nat→Nat→Nat→Option α} {G:Nat→Nat→Nat→Nat→α→Option β} (h:Ev4 F r) (g:Ev4 (fun k n m l=>G k n m l r) s):Ev4 (fun k n m l=>(F k n m l).bind (G k n m l)) s:=by
 obtain ⟨K,hK⟩:=h
 obtain ⟨L,hL⟩:=g
 refine ⟨Nat.max K L,fun k n m l hk hn hm hl=>?_⟩
 show (F k n m l).bind (G k n m l)=some s
 rw [hK k n m l (Nat.le_trans (Nat.le_max_left ..) hk) (Nat.le_trans (Nat.le_max_left ..) hn) (Nat.le_trans (Nat.le_max_left ..) hm) (Nat.le_trans (Nat.le_max_left ..) hl)]
 exact hL k n m l (Nat.le_trans (Nat.le_max_right ..) hk) (Nat.le_trans (Nat.le_max_right ..) hn) (Nat.le_trans (Nat.le_max_right ..) hm) (Nat.le_trans (Nat.le_max_right ..) hl)
theorem Ev.e2 {F:Nat→Option α} (h:Ev F r):Ev2 (fun k _=>F k) r:=by
 obtain ⟨K,hK⟩:=h
 exact ⟨K,fun k _ hk _=>hK k hk⟩
theorem Ev.e3 {F:Nat→Option α} (h:Ev F r):Ev3 (fun k _ _=>F k) r:=by
 obtain ⟨K,hK⟩:=h
 exact ⟨K,fun k _ _ hk _ _=>hK k hk⟩
theorem Ev.e4 {F:Nat→Option α} (h:Ev F r):Ev4 (fun k _ _ _=>F k) r:=by
 obtain ⟨K,hK⟩:=h
 exact ⟨K,fun k _ _ _ hk _ _ _=>hK k hk⟩
theorem Ev2.e3 {F:Nat→Nat→Option α} (h:Ev2 F r):Ev3 (fun k n _=>F k n) r:=by
 obtain ⟨K,hK⟩:=h
 exact ⟨K,fun k n _ hk hn _=>hK k n hk hn⟩
theorem Ev3.e4 {F:Nat→Nat→Nat→Option α} (h:Ev3 F r):Ev4 (fun k n m _=>F k n m) r:=by
 obtain ⟨K,hK⟩:=h
 exact ⟨K,fun k n m _ hk hn hm _=>hK k n m hk hn hm⟩
theorem Ev2.dg {F:Nat→Nat→Option α} (h:Ev2 F r):Ev (fun k=>F k k) r:=by
 obtain ⟨K,hK⟩:=h
 exact ⟨K,fun k hk=>hK k k hk hk⟩
theorem Ev3.dg {F:Nat→Nat→Nat→Option α} (h:Ev3 F r):Ev2 (fun k n=>F k n k) r:=by
 obtain ⟨K,hK⟩:=h
 exact ⟨K,fun k n hk hn=>hK k n k hk hn hk⟩
theorem Ev4.dg {F:Nat→Nat→Nat→Nat→Option α} (h:Ev4 F r):Ev3 (fun k n m=>F k n m k) r:=by
 obtain ⟨K,hK⟩:=h
 exact ⟨K,fun k n m hk hn hm=>hK k n m k hk hn hm hk⟩
theorem Ev.up {F:Nat→Option α} (h:Ev (fun k=>F (k+1)) r):Ev F r:=by
 obtain ⟨K,hK⟩:=h
 refine ⟨K+1,fun k hk=>?_⟩
 obtain ⟨j,rfl⟩:∃ j,k=j+1:=⟨k - 1,by omega⟩
 exact hK j (by omega)
theorem Ev2.up {F:Nat→Nat→Option α} (h:Ev2 (fun k n=>F k (n+1)) r):Ev2 F r:=by
 obtain ⟨K,hK⟩:=h
 refine ⟨K+1,fun k n hk hn=>?_⟩
 obtain ⟨j,rfl⟩:∃ j,n=j+1:=⟨n - 1,by omega⟩
 exact hK k j (by omega) (by omega)
theorem Ev2.upk {F:Nat→Nat→Option α} (h:Ev2 (fun k n=>F (k+1) n) r):Ev2 F r:=by
 obtain ⟨K,hK⟩:=h
 refine ⟨K+1,fun k n hk hn=>?_⟩
 obtain ⟨j,rfl⟩:∃ j,k=j+1:=⟨k - 1,by omega⟩
 exact hK j n (by omega) (by omega)
theorem Ev3.up {F:Nat→Nat→Nat→Option α} (h:Ev3 (fun k n m=>F k n (m+1)) r):Ev3 F r:=by
 obtain ⟨K,hK⟩:=h
 refine ⟨K+1,fun k n m hk hn hm=>?_⟩
 obtain ⟨j,rfl⟩:∃ j,m=j+1:=⟨m - 1,by omega⟩
 exact hK k n j (by omega) (by omega) (by omega)
theorem Ev3.upk {F:Nat→Nat→Nat→Option α} (h:Ev3 (fun k n m=>F (k+1) n m) r):Ev3 F r:=by
 obtain ⟨K,hK⟩:=h
 refine ⟨K+1,fun k n m hk hn hm=>?_⟩
 obtain ⟨j,rfl⟩:∃ j,k=j+1:=⟨k - 1,by omega⟩
 exact hK j n m (by omega) (by omega) (by omega)
theorem Ev4.up {F:Nat→Nat→Nat→Nat→Option α} (h:Ev4 (fun k n m l=>F k n m (l+1)) r):Ev4 F r:=by
 obtain ⟨K,hK⟩:=h
 refine ⟨K+1,fun k n m l hk hn hm hl=>?_⟩
 obtain ⟨j,rfl⟩:∃ j,l=j+1:=⟨l - 1,by omega⟩
 exact hK k n m j (by omega) (by omega) (by omega) (by omega)
theorem Ev4.upk {F:Nat→Nat→Nat→Nat→Option α} (h:Ev4 (fun k n m l=>F (k+1) n m l) r):Ev4 F r:=by
 obtain ⟨K,hK⟩:=h
 refine ⟨K+1,fun k n m l hk hn hm hl=>?_⟩
 obtain ⟨j,rfl⟩:∃ j,k=j+1:=⟨k - 1,by omega⟩
 exact hK j n m l (by omega) (by omega) (by omega) (by omega)
theorem Ev.from {F:Nat→Option α} (c:Nat) (h:∀ k,F (k+c)=some r):Ev F r :=
 ⟨c,fun k hk=>by have:=h (k - c); rwa [Nat.sub_add_cancel hk] at this⟩
theorem Ev.ex {F:Nat→Option α} (h:Ev F r):∃ k,F k=some r:=by
 obtain ⟨K,hK⟩:=h
 exact ⟨K,hK K (Nat.le_refl _)⟩
theorem Ev2.list {σ ρ τ:Type} (l:List τ) (L:Nat→Nat→σ→Int→Option ρ) (Q:σ→Nat→ρ→Prop)
 (step:∀ s (j:Nat) x r,l[j]?=some x→Q s j r→(∃ s',(∀ r',Ev2 (fun k n=>L k n s' ((j+1:Nat):Int)) r'→Ev2 (fun k n=>L k (n+1) s (j:Int)) r')∧Q s' (j+1) r)∨Ev2 (fun k n=>L k (n+1) s (j:Int)) r)
 (done:∀ s r,Q s l.length r→Ev2 (fun k n=>L k (n+1) s (l.length:Int)) r):∀ (d j:Nat) s r,j+d=l.length→Q s j r→Ev2 (fun k n=>L k n s (j:Int)) r:=by
 intro d
 induction d with
 | zero =>
   intro j s r hj hq
   have:j=l.length:=by omega
   subst this
   exact .up (done s r hq)
 | succ d ih =>
   intro j s r hj hq
   have hlt:j < l.length:=by omega
   rcases step s j _ r (List.getElem?_eq_getElem hlt) hq with ⟨s',h1,h2⟩ | h
   · exact .up (h1 r (ih (j+1) s' r (by omega) h2))
   · exact .up h
end
theorem dT {p:Prop} [Decidable p] (h:p):decide p=true:=decide_eq_true h
theorem dF {p:Prop} [Decidable p] (h:¬ p):decide p=false:=decide_eq_false h
theorem bt {α:Type} {p:Prop} [Decidable p] {x y:α} (h:p):(bif decide p then x else y)=x:=by rw [decide_eq_true h]; rfl
theorem bf {α:Type} {p:Prop} [Decidable p] {x y:α} (h:¬ p):(bif decide p then x else y)=y:=by rw [decide_eq_false h]; rfl
theorem aC8 {a b:Nat} (h:a < b):Nat.blt a b=true:=by simpa using h
theorem ajG {j:Int} {n:Nat} (h:0≤j) (h2:j < n):inI j n=true:=by simp [inI,h,h2]
theorem aDh {a b:Int} {n:Nat} (h:0≤a) (h2:a≤b) (h3:b≤n):inC a b n=true:=by simp [inC,h,h2,h3]
theorem awA {α:Type} {l:List α} {n:Nat} (h:n≤l.length):cut l 0 (n:Int)=some (l.take n):=by
 have:=aIj (l:=l) (a:=0) (b:=n) (Nat.zero_le _) h
 simpa using this
theorem aHo {α:Type} {l:List α} {n:Nat} (h:n≤l.length):cut l (n:Int) (l.length:Int)=some (l.drop n):=by
 have:=aIj (l:=l) (a:=n) (b:=l.length) h (Nat.le_refl _)
 simpa using this
end Go.Proofs.Ytgmeimbamfggkaa.Den
