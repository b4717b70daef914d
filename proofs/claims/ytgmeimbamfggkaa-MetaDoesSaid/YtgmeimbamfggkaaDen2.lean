import Derived.Test.YtgmeimbamfggkaaDen1
import Derived.Orders
namespace Go.Proofs.Ytgmeimbamfggkaa.Den
open Go
structure Env where
 ty:Nat→Option Ty
 one:Nat→Bool
 isp:Nat→Bool
 off:Nat→Nat→Option Nat
 rw:Bool
 row:Nat→Nat
 rr:Bool
 le:Nat→Bool
 lo:Nat→Bool
 ar:Nat→Option (Ty×Nat×Nat)
 mt:Nat→Option (Ty×Ty×Nat×Nat)
def aaz (s:ByteArray):List Int:=s.data.toList.map fun b=>(b.toNat:Int)
def ayr (t:Option Ty) (v:Value):TV :=
 match v with
 | .bool b=>.bool b
 | .int k m=>bif inK k m then .int k m else .undef
 | .string s=>bif Nat.ble s.size 65536 then .str (aaz s) else .undef
 | .slice none 0 0=>match t with
   | some (.sl t)=>.sl t .full (some true) []
   | _=>.undef
 | .pointer none=>.nilp
 | .nilFunc=>.nilfn
 | _=>.undef
def St.ev (s:St) (t:Option Ty) (x:Operand):TV :=
 match x with
 | .tmp t=>s.T t
 | .const v=>ayr t v
 | .func f=>.fn f []
 | .global _=>.undef
def St.evs (s:St) (ty:Nat→Option Ty):List Operand→List TypeId→List TV
 | [],_=>[]
 | x :: r,[]=>s.ev none x :: s.evs ty r []
 | x :: r,n :: ns=>s.ev (ty n) x :: s.evs ty r ns
def aIM : TV→Option Bool
 | .bool b=>some b
 | _=>none
def intV (k:IntKind):TV→Option Int
 | .int k' n=>if k=k' then some n else none
 | _=>none
def strV : TV→Option (List Int)
 | .str s=>some s
 | _=>none
def slV (t:Ty):TV→Option (List t.D)
 | .sl t' _ _ l=>if h:t'=t then some (h ▸ l) else none
 | _=>none
def stV (t:Ty):TV→Option t.D
 | .st t' x=>if h:t'=t then some (h ▸ x) else none
 | _=>none
def nilV : TV→Option Unit
 | .nilp=>some ()
 | _=>none
def ofTV : (t:Ty)→TV→Option t.D
 | .bool=>aIM
 | .int k=>intV k
 | .str=>strV
 | .sl t=>slV t
 | .st b=>stV (.st b)
 | .ex=>fun v=>(stV (.st exB) v).map Ex.re
 | .op true=>nilV
 | _=>fun _=>none
def fieldAt : (b:Ty)→Nat→Nat→Option (Nat×Ty)
 | .pair a _,0,o=>some (o,a)
 | .pair a b,i+1,o=>fieldAt b i (o+a.size)
 | _,_,_=>none
def offF (t:Ty) (f:Option Nat):Nat :=
 match t,f with
 | .st b,some f=>match fieldAt b f 0 with
   | some (o,_)=>o
   | none=>0
 | _,_=>0
def abS : (b:Ty)→Nat→b.D→Option TV
 | .pair a _,0,x=>some (toTV a x.1)
 | .pair _ b,i+1,x=>abS b i x.2
 | _,_,_=>none
def adK : (b:Ty)→Nat→b.D→Option TV
 | .pair a _,0,x=>some (.ep a x.1)
 | .pair _ b,i+1,x=>adK b i x.2
 | _,_,_=>none
def must {α:Type} (b:Bool) (x:Option α):Option α:=bif b then x else none
def arrK {α:Type} (j:Int) (K:Nat→Option α) (q:Nat):Nat→Option α
 | 0=>none
 | m+1=>bif decide (j=(q:Nat)) then K q else arrK j K (q+1) m
theorem auX {α β:Type} {j:Int} {K:Nat→Option α} {G:α→Option β}:∀ (m q:Nat),(arrK j K q m).bind G=arrK j (fun q=>(K q).bind G) q m
 | 0,_=>rfl
 | m+1,q=>by
   unfold arrK
   cases decide (j=(q:Nat)) with
   | true=>rfl
   | false=>exact auX m (q+1)
theorem ayj {α:Type} {j:Int} {K:Nat→Option α} {x:α}:∀ {m q:Nat},arrK j K q m=some x→∃ p:Nat,j=(p:Int)∧q≤p∧p < q+m∧K p=some x
 | 0,_,h=>by cases h
 | m+1,q,h=>by
   unfold arrK at h
   by_cases c:j=(q:Nat)
   · rw [decide_eq_true c] at h
     exact ⟨q,c,Nat.le_refl _,by omega,h⟩
   · rw [decide_eq_false c] at h
     obtain ⟨p,h1,h2,h3,h4⟩:=ayj h
     exact ⟨p,h1,by omega,by omega,h4⟩
def look {α:Type}:List (Nat×α)→Nat→Option α
 | [],_=>none
 | (a,v) :: r,i=>bif Nat.beq a i then some v else look r i
def setD (s:St):(b:Ty)→Nat→Operand→b.D→Option b.D
 | .pair a _,0,x,d=>(ofTV a (s.ev (some a) x)).map fun y=>(y,d.2)
 | .pair _ b,i+1,x,d=>(setD s b i x d.2).map fun y=>(d.1,y)
 | _,_,_,_=>none
def akd (s:St) (b:Ty):List (Nat×Operand)→b.D→Option b.D
 | [],d=>some d
 | (i,x) :: r,d=>(setD s b i x d).bind (akd s b r)
def aqw (s:St) (t:Ty):List (Nat×Operand)→List t.D→Option (List t.D)
 | [],l=>some l
 | (i,x) :: r,l=>bif Nat.blt i l.length then (ofTV t (s.ev (some t) x)).bind fun y=>aqw s t r (l.set i y) else none
def fldT : Ty→Nat→Option (Ty×Nat)
 | .pair a _,0=>some (a,0)
 | .pair a b,i+1=>(fldT b i).map fun p=>(p.1,a.size+p.2)
 | _,_=>none
def opTV : TV→Bool
 | .ptr _ _ | .nilp | .ref (.mp _ _) _=>true
 | _=>false
def ara : TV→Bool
 | .bool _ | .int _ _ | .str _ | .sl _ .full _ _ | .sl _ .sh _ _ | .nilp | .nilfn | .ptr _ _ | .ref (.mp _ _) _=>true
 | _=>false
def asw (t:Ty):TV→Option (List TV)
 | .ag l=>if l.all ara then some l else none
 | .fn g l=>match t with
   | .op _=>some [.fn g l]
   | _=>none
 | v=>(ofTV t v).map fun y=>cells t y
def aDa : TV→Option (List TV)
 | .st t x=>some (cells t x)
 | .ag l=>if l.all ara then some l else none
 | .undef | .skip | .tup _ | .blk _=>none
 | v=>some [v]
def axn (Γ:Env) (n:Nat) (cs:List TV):Option TV :=
 match Γ.ty n with
 | some (.st b)=>match al5 (.st b) cs with
   | some (x,_)=>some (.st (.st b) x)
   | none=>bif Nat.ble b.size cs.length&&(cs.take b.size).all ara then some (.ag (cs.take b.size)) else none
 | _=>match Γ.ar n with
   | some (b,_,_)=>match al5 (.st b) cs with
     | some (x,_)=>some (.st (.st b) x)
     | none=>none
   | none=>bif Γ.one n then cs.head? else none
def asH (Γ:Env) (n:Nat):TV→Bool
 | .st t _=>decide (Γ.ty n=some t)||(match Γ.ar n with
   | some (b,_,_)=>decide (t=.st b)
   | none=>false)
 | .ag l=>match Γ.ty n with
   | some (.st b)=>Nat.beq b.size l.length
   | _=>false
 | _=>Γ.one n
def atK {α:Type}:List α→Nat→List α→Option (List α)
 | l,0,cs=>if cs.length≤l.length then some (cs++l.drop cs.length) else none
 | x :: l,o+1,cs=>(atK l o cs).bind fun r=>some (x :: r)
 | [],_+1,_=>none
def agB (s:St) (b:Ty):List (Nat×Operand)→List TV→Option (List TV)
 | [],zs=>some zs
 | (i,x) :: r,zs=>match fldT b i with
   | some (.op _,q)=>must (opTV (s.ev none x)) ((atK zs q [s.ev none x]).bind (agB s b r))
   | some (a,q)=>(ofTV a (s.ev (some a) x)).bind fun y=>(atK zs q (cells a y)).bind (agB s b r)
   | none=>none
def agy (s:St):Fl→Bool
 | .full=>true
 | .own q=>s.O q
 | .sh=>false
def St.eat (s:St):Fl→St
 | .own q=>s.kill q
 | _=>s
def mnI (x y:Int):Int:=if y < x then y else x
def mxI (x y:Int):Int:=if x < y then y else x
inductive NK where
 | asis
 | own (q:Nat)
 | ownN (q:Nat)
 | sh
 | shN
 | ep (t:Ty)
structure Norm where
 keep:List (Nat×NK)
 objs:List (List NK)
 c:Nat
 mv:List Nat:=[]
 fz:List (Nat×Nat):=[]
def tame (m:Nat):TV→Bool
 | .sl _ (.own _) _ _=>false
 | .ptr i _=>Nat.blt i m
 | .fn _ l=>go l
 | .tup l=>go l
 | .ag l=>go l
 | .ref _ i=>Nat.blt i m
 | _=>true
where go:List TV→Bool
 | []=>true
 | v :: r=>tame m v&&go r
def nkTV (s:St) (m c:Nat) (k:NK) (v:TV):Option (TV×List Nat) :=
 match k,v with
 | .asis,v=>bif tame m v then some (v,[]) else none
 | .own q,.sl t f _ l=>bif agy s f&&Nat.blt q c then some (.sl t (.own q) none l,match f with | .own p=>[p] | _=>[]) else none
 | .ownN q,.sl t f nl l=>bif agy s f&&Nat.blt q c then some (.sl t (.own q) nl l,match f with | .own p=>[p] | _=>[]) else none
 | .sh,.sl t _ _ l=>some (.sl t .sh none l,[])
 | .shN,.sl t _ nl l=>some (.sl t .sh nl l,[])
 | .ep _,.ep t x=>some (.ep t x,[])
 | _,_=>none
def nkQ : NK→List Nat
 | .own q | .ownN q=>[q]
 | _=>[]
def nkL (s:St) (m c:Nat):List NK→List TV→Option (List TV×List Nat)
 | [],[]=>some ([],[])
 | k :: ks,v :: vs=>match nkTV s m c k v,nkL s m c ks vs with
   | some (v,a),some (r,b)=>some (v :: r,a++b)
   | _,_=>none
 | _,_=>none
def nkLL (s:St) (m c:Nat):List (List NK)→List (List TV)→Option (List (List TV)×List Nat)
 | [],_=>some ([],[])
 | k :: ks,v :: vs=>match nkL s m c k v,nkLL s m c ks vs with
   | some (v,a),some (r,b)=>some (v :: r,a++b)
   | _,_=>none
 | _,_=>none
def nkT (s:St) (m c:Nat):List (Nat×NK)→Option (List (Nat×TV)×List Nat)
 | []=>some ([],[])
 | (t,k) :: ks=>match nkTV s m c k (s.T t),nkT s m c ks with
   | some (v,a),some (r,b)=>some ((t,v) :: r,a++b)
   | _,_=>none
def apart : List Nat→Bool
 | []=>true
 | q :: r=>!(r.any (Nat.beq q))&&apart r
def al4 : List (Nat×TV)→Nat→TV
 | [],_=>.undef
 | (a,v) :: r,i=>bif Nat.beq a i then v else al4 r i
def mkS (n b:Nat) (ts:List (Nat×TV)) (c:Nat) (qs:List Nat) (S:List Obj):St :=
 { n,T:=al4 ts,c,O:=fun q=>qs.any (Nat.beq q),S,b }
def aJd (w:Norm) (s:St):Option St :=
 match nkT s w.objs.length w.c w.keep,nkLL s w.objs.length w.c w.objs s.S with
 | some (ts,a),some (S,b) =>
   bif apart (a++b)&&apart (w.keep.flatMap (fun p=>nkQ p.2)++w.objs.flatMap (fun l=>l.flatMap nkQ))&&Nat.ble s.b w.objs.length then
    some (mkS s.n s.b ts w.c (w.keep.flatMap (fun p=>nkQ p.2)++w.objs.flatMap (fun l=>l.flatMap nkQ)) S)
   else none
 | _,_=>none
structure Spec where
 run:{ρ:Type}→List TV→List Obj→(TV→List Obj→Option ρ)→Option ρ
 pars:List NK
 objs:List (List NK)
 toks:Nat
 sel:List TV→Bool
abbrev Table := List (Nat×Spec)
def Table.find : Table→Nat→List TV→Option Spec
 | [],_,_=>none
 | (g,s) :: r,f,as=>bif Nat.beq g f&&s.sel as then some s else Table.find r f as
def tvPtrs : TV→List Nat
 | .ptr i _=>[i]
 | .fn _ l=>go l
 | .tup l=>go l
 | .ag l=>go l
 | .ref _ i=>[i]
 | _=>[]
where go:List TV→List Nat
 | []=>[]
 | v :: r=>tvPtrs v++go r
def ren (f:Nat→Option Nat):TV→Option TV
 | .ptr i o=>(f i).map fun j=>.ptr j o
 | .fn g l=>(go l).map fun l=>.fn g l
 | .tup l=>(go l).map fun l=>.tup l
 | .ag l=>(go l).map fun l=>.ag l
 | .ref r i=>(f i).map fun j=>.ref r j
 | v=>some v
where go:List TV→Option (List TV)
 | []=>some []
 | v :: r=>(ren f v).bind fun v=>(go r).map fun r=>v :: r
def back (f:Nat→Nat) (c:Nat):TV→TV
 | .ptr i o=>.ptr (f i) o
 | .sl t (.own q) nl l=>.sl t (.own (c+q)) nl l
 | .fn g l=>.fn g (go l)
 | .tup l=>.tup (go l)
 | .ag l=>.ag (go l)
 | .ref r i=>.ref r (f i)
 | v=>v
where go:List TV→List TV
 | []=>[]
 | v :: r=>back f c v :: go r
def tidy (O:Nat→Bool):TV→TV
 | .sl t (.own q) nl l=>bif O q then .sl t (.own q) nl l else .sl t .sh nl l
 | .tup l=>.tup (go l)
 | .ag l=>.ag (go l)
 | v=>v
where go:List TV→List TV
 | []=>[]
 | v :: r=>tidy O v :: go r
def anM : List Nat→Nat→Option Nat
 | [],_=>none
 | a :: r,i=>bif Nat.beq a i then some 0 else (anM r i).map (·+1)
def aul (S:List Obj):Nat→List Nat→List Nat→List Nat
 | 0,done,_=>done
 | _+1,done,[]=>done
 | k+1,done,i :: r=>bif done.any (Nat.beq i) then aul S k done r else aul S k (done++[i]) (r++tvPtrs.go (S.getD i []))
def aCC (f:Nat→Option Nat) (S:List Obj):List Nat→Option (List Obj)
 | []=>some []
 | i :: r=>match (S[i]?:Option Obj) with
   | some cs=>(ren.go f cs).bind fun cs=>(aCC f S r).map fun os=>cs :: os
   | none=>none
def layS (S:List Obj):List Nat→List Obj→List Obj
 | [],rest=>S++rest
 | i :: r,o :: os=>layS (S.set i o) r os
 | _ :: _,[]=>S
def acz (S:List Obj) (t:Ty) (i:Nat):Option (List t.D) :=
 match S[i]? with
 | some [.blk (.row t' l)]=>if h:t'=t then some (h ▸ l) else none
 | _=>none
def froz (S:List Obj):Rf→Nat→Option TV
 | .asl t,i=>(acz S t i).map fun l=>.sl t .sh none l
 | .asv t a n,i=>(acz S t i).map fun l=>.sl t .sh none ((l.drop a).take n)
 | .one t,i=>match (S[i]?:Option Obj) with
   | some cs=>must (plain cs) ((al5 t cs).map fun x=>.sl t .sh none [x.1])
   | none=>none
 | _,_=>none
def aDy (s:St):List (Nat×NK)→List Nat
 | []=>[]
 | (t,k) :: r=>(match k with | .sh | .shN | .ep _=>[] | _=>tvPtrs (s.T t))++aDy s r
def aJY (S:List Obj) (f:Nat→Option Nat):TV→Option TV
 | .ref r i=>match f i with
   | some j=>some (.ref r j)
   | none=>froz S r i
 | v=>ren f v
def aJS (S:List Obj) (f:Nat→Option Nat) (t:Ty) (i:Nat):Option TV :=
 match f i,(S[i]?:Option Obj) with
 | none,some cs=>must (plain cs) ((al5 t cs).map fun x=>.ep t x.1)
 | _,_=>none
def aGb (S:List Obj) (f:Nat→Option Nat):NK→TV→Option TV
 | .ep t,.ptr i 0=>aJS S f t i
 | _,v=>aJY S f v
def gatT (s:St) (f:Nat→Option Nat):List (Nat×NK)→Option (List (Nat×TV))
 | []=>some []
 | (t,k) :: r=>(aGb s.S f k (s.T t)).bind fun v=>(gatT s f r).map fun ts=>(t,v) :: ts
def aD3 : Nat→List Nat→Nat→Bool
 | 0,_,_=>true
 | n+1,i :: r,k=>Nat.beq i k&&aD3 n r (k+1)
 | _+1,[],_=>false
def aCa (ks:List (Nat×NK)) (s:St):Option St :=
 must (apart (aul s.S 64 [] (List.range s.b++aDy s ks))&&aD3 s.b (aul s.S 64 [] (List.range s.b++aDy s ks)) 0)
    ((gatT s (anM (aul s.S 64 [] (List.range s.b++aDy s ks))) ks).bind fun ts =>
      (aCC (anM (aul s.S 64 [] (List.range s.b++aDy s ks))) s.S (aul s.S 64 [] (List.range s.b++aDy s ks))).map fun S =>
       { n:=s.n,T:=al4 ts,c:=s.c,O:=s.O,S,b:=s.b })
def mvF (n i j:Nat):Option Nat:=bif Nat.blt j n then some (bif Nat.beq j i then n else j) else none
def aDp (s:St) (i:Nat):St:=match s.S[i]? with
 | some [.blk (.row t l)]=>{ s with S:=(s.S.map fun cs=>(ren.go (mvF s.S.length i) cs).getD []).set i []++[[TV.blk (.row t l)]],T:=fun x=>(ren (mvF s.S.length i) (s.T x)).getD .undef }
 | _=>s
def aGm : List Nat→St→St
 | [],s=>s
 | i :: r,s=>aGm r (aDp s i)
def fz1 (s:St) (p:Nat×Nat):Option St:=match (s.S[p.1]?:Option Obj) with
 | some cs=>match cs[p.2]? with
   | some (.ref (.asl t) j)=>must (plain cs&&!Nat.beq j p.1) ((acz s.S t j).map fun l=>{ s with S:=(s.S.set j []).set p.1 (cs.set p.2 (.sl t .sh none l)) })
   | some (.ref (.asv t a n) j)=>must (plain cs&&!Nat.beq j p.1) ((acz s.S t j).map fun l=>{ s with S:=(s.S.set j []).set p.1 (cs.set p.2 (.sl t .sh none ((l.drop a).take n))) })
   | _=>none
 | none=>none
def fzs : List (Nat×Nat)→St→Option St
 | [],s=>some s
 | p :: r,s=>(fz1 s p).bind (fzs r)
def norm (w:Norm) (s:St):Option St:=must s.dl.isEmpty ((fzs w.fz s).bind fun s=>(aCa w.keep (aGm w.mv s)).bind (aJd w))
section
variable (Γ : Env) (E:Table) {ρ:Type}
def kTV (K:St→Option ρ) (s:St) (d:Option Tmp) (v:Option TV):Option ρ :=
 match v with
 | some v=>K (s.put d v)
 | none=>none
def binK (tx:Option Ty) (ip:Bool) (s:St) (d:Option Tmp) (op:BinOp) (x y:TV) (K:St→Option ρ):Option ρ :=
 match x,y with
 | .int k a,.int k' b =>
   match op with
   | .shl=>(shlK k a b).bind fun r=>K (s.put d (.int k r))
   | .shr=>(shrK k a b).bind fun r=>K (s.put d (.int k r))
   | .quo=>if k=k' then (quoK k a b).bind fun r=>K (s.put d (.int k r)) else none
   | .rem=>if k=k' then (remK k a b).bind fun r=>K (s.put d (.int k r)) else none
   | op=>if k=k' then kTV K s d (aFB op k a b) else none
 | .str a,.str b =>
   match op with
   | .add=>lim (a.length+b.length) (K (s.put d (.str (a++b))))
   | op=>kTV K s d (aG8 op a b)
 | .bool a,.bool b=>if tx=some .bool then
   match op with
   | .eql=>K (s.put d (.bool (beqB a b)))
   | .neq=>K (s.put d (.bool (!beqB a b)))
   | _=>none
   else none
 | .st t a,.st t' b =>
   if h:t'=t then
    if tx=some t∧t.cmp=true∧t.isSt=true then
       match op with
       | .eql=>K (s.put d (.bool (t.decEq a (h ▸ b))))
       | .neq=>K (s.put d (.bool (!t.decEq a (h ▸ b))))
       | _=>none
    else none
   else none
 | .sl t _ (some a) _,.sl _ .full (some true) []=>if tx=some (.sl t) then
   match op with
   | .eql=>K (s.put d (.bool a))
   | .neq=>K (s.put d (.bool (!a)))
   | _=>none
   else none
 | .ptr ..,.nilp=>bif ip then
   match op with
   | .eql=>K (s.put d (.bool false))
   | .neq=>K (s.put d (.bool true))
   | _=>none
   else none
 | .ref (.pel _ _ _) _,.nilp=>bif ip then
   match op with
   | .eql=>K (s.put d (.bool false))
   | .neq=>K (s.put d (.bool true))
   | _=>none
   else none
 | .nilp,.nilp=>bif ip then
   match op with
   | .eql=>K (s.put d (.bool true))
   | .neq=>K (s.put d (.bool false))
   | _=>none
   else none
 | _,_=>none
def aB3 (x:TV) (src t:Option Ty):Option TV :=
 match x,t with
 | .int _ n,some (.int k)=>match src with
   | some (.int _)=>some (.int k (wr k n))
   | _=>none
 | .str s,some .str=>match src with
   | some .str=>some (.str s)
   | _=>none
 | .str s,some (.sl (.int .u8))=>match src with
   | some .str=>some (.sl (.int .u8) .sh (some false) s)
   | _=>none
 | .sl (.int .u8) _ _ l,some .str=>match src with
   | some (.sl (.int .u8))=>some (.str l)
   | _=>none
 | _,_=>none
def srcV (S:List Obj) (t:Ty):TV→Option (List t.D)
 | .sl t' _ _ l=>if h:t'=t then some (h ▸ l) else none
 | .ref (.asl t') i=>if t'=t then acz S t i else none
 | .ref (.asv t' a n) i=>if t'=t then (acz S t i).map fun l=>(l.drop a).take n else none
 | _=>none
def aub (S:List Obj) (kt vt:Ty) (i:Nat):Option (List (kt.D×vt.D)) :=
 match S[i]? with
 | some [.blk (.mp k v l)]=>if h:k=kt∧v=vt then some (h.1 ▸ h.2 ▸ l) else none
 | _=>none
def ab_ (kt:Ty) {α:Type}:List (kt.D×α)→kt.D→Option α
 | [],_=>none
 | e :: r,y=>bif kt.decEq y e.1 then some e.2 else ab_ kt r y
def setM (kt:Ty) {α:Type}:List (kt.D×α)→kt.D→α→List (kt.D×α)
 | [],y,z=>[(y,z)]
 | e :: r,y,z=>bif kt.decEq y e.1 then (y,z) :: r else e :: setM kt r y z
def aI5 (vt:Ty) (ok:Bool) (x:Option vt.D):TV:=bif ok then .tup [toTV vt (x.getD (zero vt)),.bool x.isSome] else toTV vt (x.getD (zero vt))
def aHw : TV→Bool
 | .ref _ _=>true
 | _=>false
def inI (j:Int) (n:Nat):Bool:=decide (0≤j)&&decide (j < n)
def inC (a b:Int) (n:Nat):Bool:=decide (0≤a)&&decide (a≤b)&&decide (b≤n)
def apc {α:Type} (l:List α) (n:Nat) (l2:List α):List α:=bif l2.isEmpty then l else l.take n++l2
def appR (s:St) (d:Option Tmp) (t:Ty) (x:TV) (l2:List t.D) (K:St→Option ρ):Option ρ :=
 match x with
 | .ref (.asl t') i=>if t'=t then (acz s.S t i).bind fun l=>lim (l.length+l2.length) (K ({ s with S:=s.S.set i []++[[TV.blk (.row t (l++l2))]] }.put d (.ref (.asl t) s.S.length))) else none
 | .ref (.asv t' 0 n) i=>if t'=t then (acz s.S t i).bind fun l=>lim (n+l2.length) (K ({ s with S:=s.S.set i []++[[TV.blk (.row t (apc l n l2))]] }.put d (.ref (.asv t 0 (n+l2.length)) s.S.length))) else none
 | _=>none
def appN (m:Nat) (s:St) (d:Option Tmp) (t:Ty) (l l2:List t.D) (K:St→Option ρ):Option ρ :=
 must l.isEmpty (lim l2.length (match m with
    | 1=>K ({ s with S:=s.S++[[TV.blk (.row t l2)]] }.put d (.ref (.asl t) s.S.length))
    | _=>K ({ s with S:=s.S++[[TV.blk (.row t l2)]] }.put d (.ref (.asv t 0 l2.length) s.S.length))))
def aqJ (s:St) (d:Option Tmp) (t:Ty) (r:Rf) (i:Nat) (lo:TV) (hi mx:Option TV) (K:St→Option ρ):Option ρ :=
 match r,lo with
 | .asl t',.int _ a=>if t'=t then (acz s.S t i).bind fun l=>match hi,mx with
   | none,none=>must (inC a l.length l.length) (K (s.put d (.ref (.asv t a.toNat (l.length - a.toNat)) i)))
   | some (.int _ b),none=>must (inC a b l.length) (K (s.put d (.ref (.asv t a.toNat (b.toNat - a.toNat)) i)))
   | _,_=>none
   else none
 | .asv t' o n,.int _ a=>if t'=t then (acz s.S t i).bind fun _=>match hi,mx with
   | none,none=>must (inC a n n) (K (s.put d (.ref (.asv t (o+a.toNat) (n - a.toNat)) i)))
   | some (.int _ b),none=>must (inC a b n) (K (s.put d (.ref (.asv t (o+a.toNat) (b.toNat - a.toNat)) i)))
   | _,_=>none
   else none
 | _,_=>none
def axJ (s:St) (d:Option Tmp) (t:Ty) (j i:Nat) (y:TV) (K:St→Option ρ):Option ρ :=
 (acz s.S t i).bind fun l=>(ofTV t y).bind fun z=>must (Nat.blt j l.length) (K ({ s with S:=s.S.set i [.blk (.row t (l.set j z))] }.put d .skip))
def aCP : (b:Ty)→Nat→TV→b.D→Option b.D
 | .pair a _,0,v,d=>(ofTV a v).map fun y=>(y,d.2)
 | .pair _ b,i+1,v,d=>(aCP b i v d.2).map fun y=>(d.1,y)
 | _,_,_,_=>none
def axI (s:St) (d:Option Tmp) (b:Ty) (f j i:Nat) (y:TV) (K:St→Option ρ):Option ρ :=
 (acz s.S (.st b) i).bind fun l=>(l[j]?).bind fun x=>(aCP b f y x).bind fun z=>K ({ s with S:=s.S.set i [.blk (.row (.st b) (l.set j z))] }.put d .skip)
def aGh (s:St) (d:Option Tmp) (t:Ty) (a b:Int) (K:St→Option ρ):Option ρ :=
 must (decide (0≤a)&&beqI a b) (lim a.toNat (K ({ s with S:=s.S++[[TV.blk (.row t (List.replicate a.toNat (zero t)))]] }.put d (.ref (.asl t) s.S.length))))
def rowK (m:Nat) (s:St) (d:Option Tmp) (x:TV) (K:St→Option ρ):Option ρ :=
 match x with
 | .sl t .full _ l=>must l.isEmpty (match m with
   | 1=>K ({ s with S:=s.S++[[TV.blk (.row t [])]] }.put d (.ref (.asl t) s.S.length))
   | _=>K ({ s with S:=s.S++[[TV.blk (.row t [])]] }.put d (.ref (.asv t 0 0) s.S.length)))
 | x=>K (s.put d x)
def aI6 (s:St) (d:Option Tmp) (same:Bool) (x:TV) (K:St→Option ρ):Option ρ :=
 match x with
 | .ref (.asl (.int .u8)) i=>(acz s.S (.int .u8) i).bind fun l=>must (same&&!l.isEmpty) (K ({ s with S:=s.S.set i [] }.put d (.sl (.int .u8) .sh none l)))
 | _=>none
def rowC (m:Nat):Nat→Nat→List TV→List TV×List Obj
 | _,_,[]=>([],[])
 | j,n,v :: r=>match v with
   | .sl t .full nl l=>bif l.isEmpty&&Nat.beq (m / 2 ^ j % 2) 1 then (.ref (.asv t 0 0) n :: (rowC m (j+1) (n+1) r).1,[TV.blk (.row t [])] :: (rowC m (j+1) (n+1) r).2)
     else (.sl t .full nl l :: (rowC m (j+1) n r).1,(rowC m (j+1) n r).2)
   | v=>(v :: (rowC m (j+1) n r).1,(rowC m (j+1) n r).2)
def boxR (s:St) (d:Option Tmp) (p:List TV×List Obj) (K:St→Option ρ):Option ρ :=
 K ({ s with S:=s.S++p.2++[p.1] }.put d (.ptr (s.S.length+p.2.length) 0))
def lay {α:Type} (l:List α) (a:Nat) (us:List α):List α:=l.take a++us++l.drop (a+us.length)
def atU (s:St) (d:Option Tmp) (n m:Nat) (x y:TV) (K:St→Option ρ):Option ρ :=
 match x,Γ.ty n with
 | .ref (.asl t) i,some (.sl t')=>must (!Γ.lo i)<|if t'=t∧n=m then (acz s.S t i).bind fun l=>(srcV s.S t y).bind fun l2 =>
  K ({ s with S:=s.S.set i [.blk (.row t (lay l 0 (l2.take (Nat.min l2.length l.length))))] }.put d (.int .i64 (Nat.min l2.length l.length:Nat))) else none
 | .ref (.asv t a k) i,some (.sl t')=>must (!Γ.lo i)<|if t'=t∧n=m then (acz s.S t i).bind fun l=>(srcV s.S t y).bind fun l2 =>
  K ({ s with S:=s.S.set i [.blk (.row t (lay l a (l2.take (Nat.min l2.length k))))] }.put d (.int .i64 (Nat.min l2.length k:Nat))) else none
 | _,_=>none
def ani (s:St) (d:Option Tmp) (n:Nat) (x:TV) (K:St→Option ρ):Option ρ :=
 match x,Γ.ty n with
 | .ref (.asl t) i,some (.sl t')=>must (!Γ.lo i)<|if t'=t then (acz s.S t i).bind fun l =>
  K ({ s with S:=s.S.set i [.blk (.row t (lay l 0 (List.replicate l.length (zero t))))] }.put d (.tup [])) else none
 | .ref (.asv t a k) i,some (.sl t')=>must (!Γ.lo i)<|if t'=t then (acz s.S t i).bind fun l =>
  K ({ s with S:=s.S.set i [.blk (.row t (lay l a (List.replicate k (zero t))))] }.put d (.tup [])) else none
 | _,_=>none
open Classical in
noncomputable def twoW {α:Type} (x y:Option α):Option α:=if x=y then x else none
theorem ae_ {α:Type} (x:Option α):twoW x x=x:=if_pos rfl
theorem asn {α:Type} {x y:Option α} {r:α} (h:twoW x y=some r):x=some r∧y=some r:=by
 unfold twoW at h
 split at h
 · rename_i e; exact ⟨h,e ▸ h⟩
 · cases h
def avc : Operand→Bool
 | .const (.slice none _ _)=>true
 | _=>false
def nilQ (b:Bool) (x y:TV):Option TV:=match x,y with
 | .sl t f none l,.sl _ .full (some true) []=>bif b then some (.sl t f none l) else none
 | .ref (.asl t) i,.sl _ .full (some true) []=>bif b then some (.ref (.asl t) i) else none
 | .ref (.asv t a n) i,.sl _ .full (some true) []=>bif b then some (.ref (.asv t a n) i) else none
 | _,_=>none
noncomputable def nilK (s:St) (d:Option Tmp) (tx:Option Ty) (op:BinOp) (x:TV) (K:St→Option ρ):Option ρ :=
 match x with
 | .sl t _ _ l=>must Γ.rw (if tx=some (.sl t) then match op with
  | .eql=>bif l.isEmpty then twoW (K (s.put d (.bool true))) (K (s.put d (.bool false))) else K (s.put d (.bool false))
  | .neq=>bif l.isEmpty then twoW (K (s.put d (.bool false))) (K (s.put d (.bool true))) else K (s.put d (.bool true))
  | _=>none else none)
 | .ref (.asl t) i=>must Γ.rr (if tx=some (.sl t) then (acz s.S t i).bind fun l=>must (!l.isEmpty) (match op with
  | .eql=>K (s.put d (.bool false))
  | .neq=>K (s.put d (.bool true))
  | _=>none) else none)
 | .ref (.asv t _ n) i=>must Γ.rw (if tx=some (.sl t) then (acz s.S t i).bind fun _=>match op with
  | .eql=>bif Nat.beq n 0 then twoW (K (s.put d (.bool true))) (K (s.put d (.bool false))) else K (s.put d (.bool false))
  | .neq=>bif Nat.beq n 0 then twoW (K (s.put d (.bool false))) (K (s.put d (.bool true))) else K (s.put d (.bool true))
  | _=>none else none)
 | _=>none
def appK (s:St) (d:Option Tmp) (t:Ty) (f:Fl) (nl:Option Bool) (l l2:List t.D) (K:St→Option ρ):Option ρ :=
 bif agy s f then lim (l.length+l2.length) (K (((s.eat f).more).put d (.sl t (.own s.c) (nl.map fun b=>b&&l2.isEmpty) (l++l2)))) else none
def aBU (s:St) (d:Option Tmp) (t:Ty) (l l2:List t.D) (K:St→Option ρ):Option ρ :=
 match l,l2 with
 | [],[x]=>must t.isSt (K ({ s with S:=s.S++[cells t x] }.put d (.ref (.one t) s.S.length)))
 | _,_=>none
def Env.ra (Γ:Env):Bool:=Γ.rw||Γ.rr
def afj (s:St) (d:Option Tmp) (n m:Nat) (x y:TV) (K:St→Option ρ):Option ρ :=
 match x with
 | .sl t f nl l=>if n=m∧Γ.ty n=some (.sl t) then (srcV s.S t y).bind fun l2=>match d.elim 0 Γ.row,f with
  | 0,_=>appK s d t f nl l l2 K
  | k,.full=>bif Nat.beq k 4 then must Γ.rw (aBU s d t l l2 K) else must Γ.ra (appN k s d t l l2 K)
  | _,_=>none
   else none
 | .ref r i=>match Γ.ty n with
   | some (.sl t)=>if n=m then must (Γ.ra&&!Γ.lo i) ((srcV s.S t y).bind fun l2=>appR s d t (.ref r i) l2 K) else none
   | _=>none
 | _=>none
def awl (tn:Option Ty) (s:St) (d:Option Tmp) (x:TV) (lo hi mx:Option TV) (K:St→Option ρ):Option ρ :=
 match x,(lo.getD (.int .i64 0)) with
 | .sl t f nl l,.int _ a=>if tn=some (.sl t) then
   match hi,mx with
   | none,none=>(cut l a l.length).bind fun r=>K (s.put d (.sl t f nl r))
   | some (.int _ b),none=>(cut l a b).bind fun r=>K (s.put d (.sl t .sh nl r))
   | some (.int _ b),some (.int _ m)=>must (beqI b m) ((cut l a b).bind fun r=>K (s.put d (.sl t .full nl r)))
   | _,_=>none
   else none
 | .str l,.int _ a=>if tn=some .str then
   match hi,mx with
   | none,none=>(cut l a l.length).bind fun r=>K (s.put d (.str r))
   | some (.int _ b),none=>(cut l a b).bind fun r=>K (s.put d (.str r))
   | _,_=>none
   else none
 | _,_=>none
def sO : Bool→St→St
 | true,_=>⟨0,fun _=>.undef,0,fun _=>false,[],0,[]⟩
 | false,s=>s
def Spec.qs (sp:Spec):List Nat:=sp.pars.flatMap nkQ++sp.objs.flatMap (·.flatMap nkQ)
def asJ (dr:Bool) (s:St) (d:Option Tmp) (sp:Spec) (as:List TV) (js:List Nat) (K:St→Option ρ):Option ρ :=
 match ren.go (anM js) as,aCC (anM js) s.S js with
 | some as,some os =>
   match nkL (sO dr s) js.length sp.qs.length sp.pars as,nkLL (sO dr s) js.length sp.qs.length sp.objs os with
   | some (as,a),some (os,b) =>
     bif apart js&&apart (a++b)&&apart sp.qs&&Nat.beq os.length js.length then
        match dr with
        | false=>sp.run as os fun v S =>
          K ({ s with
            S:=layS s.S js (S.map (back.go (fun i=>bif Nat.blt i js.length then js.getD i 0 else s.S.length+(i - js.length)) s.c))
            O:=fun q=>(s.O q&&!(a++b).any (Nat.beq q))||(Nat.ble s.c q&&Nat.blt q (s.c+sp.toks))
            c:=s.c+sp.toks }.put d (back (fun i=>bif Nat.blt i js.length then js.getD i 0 else s.S.length+(i - js.length)) s.c v))
        | true=>match a++b,js with
          | [],[]=>sp.run as os fun v S=>match S with
            | []=>K (s.put d (tidy (fun _=>false) v))
            | _=>must (tvPtrs v).isEmpty (K (s.put d (tidy (fun _=>false) v)))
          | _,_=>none
     else none
   | _,_=>none
 | _,_=>none
def aHs (S:List Obj):List TV→Option (List TV)
 | []=>some []
 | v :: r=>(match v with
   | .ref r i=>froz S r i
   | v=>ren (fun _=>none) v).bind fun v=>(aHs S r).map fun r=>v :: r
def aGe : List NK→List TV→Bool
 | k :: ks,v :: vs=>(match k,v with | .sh,.ref _ _=>true | _,_=>false)||aGe ks vs
 | _,_=>false
def scal : TV→Bool
 | .bool _ | .int _ _ | .str _=>true
 | .tup l=>go l
 | _=>false
where go:List TV→Bool
 | []=>true
 | v :: r=>scal v&&go r
def awy (s:St) (d:Option Tmp) (sp:Spec) (as:List TV) (K:St→Option ρ):Option ρ :=
 (aHs s.S as).bind fun as=>match nkL (sO true s) 0 0 sp.pars as with
 | some (as,[])=>must sp.qs.isEmpty (sp.run as [] fun v S=>match S with
   | []=>must (scal v) (K (s.put d v))
   | _=>none)
 | _=>none
def YB : Nat:=1000000
def atS (dr:Bool) (lo:Nat→Bool) (s:St) (d:Option Tmp) (g:Nat) (L:List TV) (K:St→Option ρ):Option ρ :=
 match E.find g L with
 | some sp=>bif !dr&&aGe sp.pars L then awy s d sp L K
   else must (dr||(aul s.S 64 [] (tvPtrs.go L)).all fun i=>!lo i) (asJ dr s d sp L (bif dr then [] else aul s.S 64 [] (tvPtrs.go L)) K)
 | none=>none
def aIq (S:List Obj) (i:Nat):Option RI :=
 match S[i]? with
 | some (.blk (.lp r .rdy) :: _)=>some r
 | _=>none
def aqO (dr:Bool) (lo:Nat→Bool) (s:St) (d:Option Tmp) (f:TV) (as:List TV) (K:St→Option ρ):Option ρ :=
 match f with
 | .fn g caps=>must (Nat.blt g YB) (atS E dr lo s d g (as++tidy.go (fun _=>false) caps) K)
 | .ref .yl i=>bif dr then none else match aIq s.S i with
   | some r=>must (Nat.ble YB r.id) (atS E dr lo s d r.id (as++[.ref .yl i]) K)
   | none=>none
 | _=>none
noncomputable def opK (dr:Bool) (o:Oper) (s:St) (K:St→Option ρ):Option ρ :=
 match o.op with
 | .move x=>kTV K s o.dst (some (s.ev (Γ.ty o.type) x))
 | .assign x=>match o.dst.elim 0 Γ.row with
   | 0=>kTV K s o.dst (some (s.ev (Γ.ty o.type) x))
   | m=>must Γ.rw (rowK m s o.dst (s.ev (Γ.ty o.type) x) K)
 | .pick c a b=>match s.ev none c with
   | .bool c=>bif c then K (s.put o.dst (s.ev (Γ.ty o.type) a)) else K (s.put o.dst (s.ev (Γ.ty o.type) b))
   | _=>none
 | .binOp op xt x y yt=>match nilQ (avc y) (s.ev (Γ.ty xt) x) (s.ev (Γ.ty yt) y) with
   | some q=>nilK Γ s o.dst (Γ.ty xt) op q K
   | none=>binK (Γ.ty xt) (Γ.isp xt) s o.dst op (s.ev (Γ.ty xt) x) (s.ev (Γ.ty yt) y) K
 | .unOp .not _ x=>match s.ev none x with
   | .bool b=>K (s.put o.dst (.bool (!b)))
   | _=>none
 | .unOp .neg _ x=>match s.ev none x with
   | .int k n=>K (s.put o.dst (.int k (wr k (0 - n))))
   | _=>none
 | .unOp .xor _ x=>match s.ev none x with
   | .int k n=>K (s.put o.dst (.int k (Go.bits .xor k (if k.signed then -1 else k.max) n)))
   | _=>none
 | .convert src dst x=>bif aHw (s.ev none x) then
  (match Γ.ty src,Γ.ty dst with
  | some (.sl (.int .u8)),some .str=>must Γ.rw ((srcV s.S (.int .u8) (s.ev none x)).bind fun l=>K (s.put o.dst (.str l)))
  | some (.sl (.int .u8)),some (.sl _)=>must Γ.rw (aI6 s o.dst (Nat.beq src dst) (s.ev none x) K)
  | _,_=>none)
   else kTV K s o.dst (aB3 (s.ev none x) (Γ.ty src) (Γ.ty dst))
 | .alloc e=>match Γ.ty e with
   | some t=>K ({ s with S:=s.S++[zeroCells t] }.put o.dst (.ptr s.S.length 0))
   | none=>match Γ.ar e with
     | some (b,_,_)=>K ({ s with S:=s.S++[zeroCells (.st b)] }.put o.dst (.ptr s.S.length 0))
     | none=>none
 | .box e x=>match Γ.ty e with
   | some t=>match asw t (s.ev (some t) x) with
     | some cs=>bif Nat.blt 15 (o.dst.elim 0 Γ.row) then must Γ.rw (boxR s o.dst (rowC (o.dst.elim 0 Γ.row - 16) 0 s.S.length cs) K)
       else K ({ s with S:=s.S++[cs] }.put o.dst (.ptr s.S.length 0))
     | none=>none
   | none=>none
 | .build n ps=>match Γ.ty n with
   | some (.st b)=>bif Nat.beq (o.dst.elim 0 Γ.row) 3 then must Γ.rw (match agB s b ps.toList (zeroCells b) with
    | some zs=>K (s.put o.dst (.ag zs))
    | none=>none)
     else match akd s b ps.toList (zero b) with
      | some x=>K (s.put o.dst (.st (.st b) x))
      | none=>none
   | _=>match Γ.ar n with
     | some (b,_,_)=>match akd s b ps.toList (zero b) with
       | some x=>K (s.put o.dst (.st (.st b) x))
       | none=>none
     | none=>none
 | .buildSlice n len ps=>match Γ.ty n with
   | some (.sl t)=>match aqw s t ps.toList (List.replicate len (zero t)) with
     | some l=>bif Nat.ble (len * t.size) 16777216 then (match o.dst.elim 0 Γ.row with
      | 0=>K (s.put o.dst (.sl t .full (some false) l))
      | _=>must Γ.rw (K ({ s with S:=s.S++[[TV.blk (.row t l)]] }.put o.dst (.ref (.asl t) s.S.length)))) else none
     | none=>none
   | _=>none
 | .load n a=>match s.ev none a with
   | .ep t x=>if Γ.ty n=some t then K (s.put o.dst (toTV t x)) else none
   | .ptr i p=>must (!o.dst.elim false Γ.le||Γ.lo i) (match s.S[i]? with
     | some cs=>must (plain cs) (kTV K s o.dst (axn Γ n (cs.drop p)))
     | none=>none)
   | .ref (.pel t j none) i=>must (!o.dst.elim false Γ.le||Γ.lo i)<|if Γ.ty n=some t then (acz s.S t i).bind fun l=>(l[j]?).bind fun x=>K (s.put o.dst (toTV t x)) else none
   | .ref (.pel (.st b) j (some f)) i=>must (!o.dst.elim false Γ.le||Γ.lo i)<|if Γ.ty n=(fldT b f).map Prod.fst then (acz s.S (.st b) i).bind fun l=>(l[j]?).bind fun x=>kTV K s o.dst (abS b f x) else none
   | _=>none
 | .store n a x=>match s.ev none a with
   | .ref (.pel t j none) i=>must (!Γ.lo i)<|if Γ.ty n=some t then axJ s o.dst t j i (s.ev (Γ.ty n) x) K else none
   | .ref (.pel (.st b) j (some f)) i=>must (!Γ.lo i)<|if Γ.ty n=(fldT b f).map Prod.fst then axI s o.dst b f j i (s.ev (Γ.ty n) x) K else none
   | .ptr i p=>match s.S[i]?,aDa (s.ev (Γ.ty n) x) with
     | some cs,some vs=>match atK cs p vs with
       | some cs'=>bif !Γ.lo i&&(plain cs&&asH Γ n (s.ev (Γ.ty n) x)) then K ({ s with S:=s.S.set i cs' }.put o.dst .skip) else none
       | none=>none
     | _,_=>none
   | _=>none
 | .nilCheck x=>match s.ev none x with
   | .ptr i p=>K (s.put o.dst (.ptr i p))
   | .ep t v=>K (s.put o.dst (.ep t v))
   | .ref (.pel t j f) i=>K (s.put o.dst (.ref (.pel t j f) i))
   | _=>none
 | .fieldAddr n x f=>match s.ev none x with
   | .ptr i p=>match Γ.off n f with
     | some q=>K (s.put o.dst (.ptr i (p+q)))
     | none=>none
   | .ep (.st b) v=>if Γ.ty n=some (.st b) then kTV K s o.dst (adK b f v) else none
   | .ref (.pel (.st b) j none) i=>match Γ.off n f with
     | some q=>must (Nat.beq (offF (.st b) (some f)) q) (K (s.put o.dst (.ref (.pel (.st b) j (some f)) i)))
     | none=>none
   | _=>none
 | .field n x f=>match s.ev none x with
   | .st (.st b) v=>if Γ.ty n=some (.st b) then kTV K s o.dst (abS b f v) else none
   | _=>none
 | .indexAddr n x i=>match s.ev none x,s.ev none i with
   | .sl t _ _ l,.int _ j=>if Γ.ty n=some (.sl t) then (nth l j).bind fun v=>K (s.put o.dst (epTV t v)) else none
   | .ref (.asl t) i,.int _ j=>must Γ.rr (if Γ.ty n=some (.sl t) then (acz s.S t i).bind fun l=>must (inI j l.length) (K (s.put o.dst (.ref (.pel t j.toNat none) i))) else none)
   | .ref (.asv t a m) i,.int _ j=>must Γ.rr (if Γ.ty n=some (.sl t) then (acz s.S t i).bind fun _=>must (inI j m) (K (s.put o.dst (.ref (.pel t (a+j.toNat) none) i))) else none)
   | .ptr i p,.int _ j=>match Γ.ar n with
     | some (b,m,_)=>arrK j (fun q=>match fldT b q with
       | some (_,d)=>K (s.put o.dst (.ptr i (p+d)))
       | none=>none) 0 m
     | none=>none
   | .ref (.one t) i,.int _ j=>if Γ.ty n=some (.sl t) then must (beqI j 0) (K (s.put o.dst (.ptr i 0))) else none
   | _,_=>none
 | .makeMap n none=>match Γ.mt n with
   | some (kt,vt,_,_)=>K ({ s with S:=s.S++[[TV.blk (.mp kt vt [])]] }.put o.dst (.ref (.mp kt vt) s.S.length))
   | none=>none
 | .lookup n x i ok=>match Γ.mt n,s.ev none x with
   | some (kt,vt,_,_),.ref (.mp _ _) g=>(aub s.S kt vt g).bind fun l=>(ofTV kt (s.ev (some kt) i)).bind fun y=>K (s.put o.dst (aI5 vt ok (ab_ kt l y)))
   | _,_=>none
 | .mapUpdate n x i v | .insert n x i v=>match Γ.mt n,s.ev none x with
   | some (kt,vt,_,_),.ref (.mp _ _) g=>must (!Γ.lo g) ((aub s.S kt vt g).bind fun l=>(ofTV kt (s.ev (some kt) i)).bind fun y=>(ofTV vt (s.ev (some vt) v)).bind fun z =>
    K ({ s with S:=s.S.set g [.blk (.mp kt vt (setM kt l y z))] }.put o.dst .skip))
   | _,_=>none
 | .makeSlice n len cap=>match Γ.ty n,s.ev none len,s.ev none cap with
   | some (.sl t),.int _ a,.int _ b=>aGh s o.dst t a b K
   | _,_,_=>none
 | .index n x i=>match s.ev none x,s.ev none i with
   | .str l,.int _ j=>if Γ.ty n=some .str then (nth l j).bind fun v=>K (s.put o.dst (.int .u8 v)) else none
   | .st (.st b) v,.int _ j=>match Γ.ar n with
     | some (b',m,_)=>if b'=b then arrK j (fun q=>kTV K s o.dst (abS b q v)) 0 m else none
     | none=>none
   | _,_=>none
 | .slice n x lo hi mx=>match s.ev (Γ.ty n) x with
   | .ref r i=>match Γ.ty n with
     | some (.sl t)=>must Γ.rr (aqJ s o.dst t r i ((lo.map (s.ev none)).getD (.int .i64 0)) (hi.map (s.ev none)) (mx.map (s.ev none)) K)
     | _=>none
   | _=>awl (Γ.ty n) s o.dst (s.ev (Γ.ty n) x) (lo.map (s.ev none)) (hi.map (s.ev none)) (mx.map (s.ev none)) K
 | .makeFunc (.func f) first caps=>match first.toList with
   | []=>K (s.put o.dst (.fn f (caps.toList.map (s.ev none))))
   | _=>none
 | .extract x i=>match s.ev none x with
   | .tup l=>match l[i]? with
     | some v=>K (s.put o.dst v)
     | none=>none
   | _=>none
 | .call { callee:=.builtin .len,args,argTypes }=>match args.toList,argTypes.toList with
   | [x],[n]=>match s.ev none x with
     | .sl t _ _ l=>if Γ.ty n=some (.sl t) then K (s.put o.dst (.int .i64 (l.length:Int))) else none
     | .str l=>if Γ.ty n=some .str then K (s.put o.dst (.int .i64 (l.length:Int))) else none
     | .ref (.asl t) i=>must Γ.rr (if Γ.ty n=some (.sl t) then (acz s.S t i).bind fun l=>K (s.put o.dst (.int .i64 (l.length:Int))) else none)
     | .ref (.asv t _ m) i=>must Γ.rr (if Γ.ty n=some (.sl t) then (acz s.S t i).bind fun _=>K (s.put o.dst (.int .i64 (m:Int))) else none)
     | .ref (.one t) _=>if Γ.ty n=some (.sl t) then K (s.put o.dst (.int .i64 1)) else none
     | _=>none
   | _,_=>none
 | .call { callee:=.builtin .append,args,argTypes }=>match args.toList,argTypes.toList with
   | [x,y],[n,m]=>afj Γ s o.dst n m (s.ev (Γ.ty n) x) (s.ev (Γ.ty m) y) K
   | _,_=>none
 | .call { callee:=.builtin .copy,args,argTypes }=>match args.toList,argTypes.toList with
   | [x,y],[n,m]=>atU Γ s o.dst n m (s.ev none x) (s.ev (Γ.ty m) y) K
   | _,_=>none
 | .call { callee:=.builtin .clear,args,argTypes }=>match args.toList,argTypes.toList with
   | [x],[n]=>ani Γ s o.dst n (s.ev none x) K
   | _,_=>none
 | .call { callee:=.builtin .min,args,.. }=>match args.toList with
   | [x,y]=>match s.ev none x,s.ev none y with
     | .int k a,.int k' b=>if k=k' then K (s.put o.dst (.int k (mnI a b))) else none
     | _,_=>none
   | _=>none
 | .call { callee:=.builtin .max,args,.. }=>match args.toList with
   | [x,y]=>match s.ev none x,s.ev none y with
     | .int k a,.int k' b=>if k=k' then K (s.put o.dst (.int k (mxI a b))) else none
     | _,_=>none
   | _=>none
 | .call { callee:=.value f,args,argTypes } =>
   aqO E dr Γ.lo s o.dst (s.ev none f) (s.evs Γ.ty args.toList argTypes.toList) K
 | _=>none
noncomputable def ads (dr:Bool) (ops:List Oper) (o:Oper) (s:St) (K:St→Option ρ):Option ρ :=
 match o.guard with
 | none=>opK Γ E dr o s K
 | some (j,want) =>
   match (ops[j]?).bind (·.dst) with
   | none=>none
   | some t=>match s.T t with
     | .bool b=>bif b then (bif want then opK Γ E dr o { s with T:=upd s.T t (.bool true) } K else K ({ s with T:=upd s.T t (.bool true) }.put o.dst .skip))
         else (bif want then K ({ s with T:=upd s.T t (.bool false) }.put o.dst .skip) else opK Γ E dr o { s with T:=upd s.T t (.bool false) } K)
     | .skip=>K (s.put o.dst .skip)
     | _=>none
noncomputable def opsK (dr:Bool) (all:List Oper):List Oper→St→(St→Option ρ)→Option ρ
 | [],s,K=>K s
 | o :: r,s,K=>ads Γ E dr all o s fun s=>opsK dr all r s K
end
inductive Hint where
 | z
 | two (a b:Hint)
 | lp (w:Norm) (a:Hint)
 | cd (w:Norm) (a b:Hint)
 | rb (t:Nat)
 | nm (w:Norm) (a:Hint)
 | dw (le lo:List Nat) (rr dr:Bool)
 | dp (x y:Nat) (le lo:List Nat) (rr dr:Bool)
 | db (bs le lo:List Nat) (rr dr:Bool)
 | rf (id:Nat) (keep:List Nat)
 | ul (m:Nat) (a:Hint)
def Hint.l : Hint→Hint
 | .two a _ | .lp _ a | .cd _ a _ | .ul _ a=>a
 | _=>.z
def Hint.r : Hint→Hint
 | .two _ b | .cd _ _ b=>b
 | _=>.z
section
variable (Γ : Env) (E:Table) {ρ:Type}
def seqK (F:St→(Exit→St→Option ρ)→Option ρ) (K:Exit→St→Option ρ):Exit→St→Option ρ:=fun e s =>
 match e with
 | .normal=>F s K
 | e=>K e s
def blkK (id:Nat) (K:Exit→St→Option ρ):Exit→St→Option ρ:=fun e s =>
 match e with
 | .exit i=>bif Nat.beq i id then K .normal s else K (.exit i) s
 | e=>K e s
def nrmK (w:Norm) (K:Exit→St→Option ρ):Exit→St→Option ρ:=fun e s =>
 match e with
 | .normal=>match norm w s with
   | some s=>K .normal s
   | none=>none
 | e=>K e s
def jmp : Nat→Option ρ→Option ρ
 | 0,_=>none
 | _+1,x=>x
def jmpK (k:Nat) (K:Exit→St→Option ρ):Exit→St→Option ρ:=fun e s =>
 match e with
 | .normal=>jmp k (K .normal s)
 | e=>K e s
def amU (F:St→Option ρ) (w:Norm) (K:Exit→St→Option ρ):Exit→St→Option ρ:=fun e s =>
 match e with
 | .normal=>match norm w s with
   | some s=>F s
   | none=>none
 | e=>K e s
def iter (F:St→(Exit→St→Option ρ)→Option ρ) (w:Norm) (K:Exit→St→Option ρ):Nat→St→Option ρ
 | 0,_=>none
 | k+1,s=>F s (amU (iter F w K k) w K)
def aI0 (F:St→(Exit→St→Option ρ)→Option ρ) (K:Exit→St→Option ρ):Nat→St→Option ρ
 | 0,_=>none
 | k+1,s=>F s fun e s=>match e with
   | .normal=>aI0 F K k s
   | e=>K e s
def kill (ds:List (Option Tmp)) (T:Nat→TV):Nat→TV:=ds.foldl (fun T d=>match d with
 | some d=>upd T d .undef
 | none=>T) T
def cls (dr:Bool):Op→Nat
 | .move _ | .assign _ | .pick .. | .binOp .. | .unOp .. | .nilCheck _ | .fieldAddr .. | .field .. | .indexAddr .. | .index .. | .slice .. | .extract ..=>0
 | .convert .. | .build .. | .buildSlice .. | .makeFunc ..=>0
 | .call { callee:=.builtin .len,.. } | .call { callee:=.builtin .min,.. } | .call { callee:=.builtin .max,.. }=>0
 | .call { callee:=.value _,.. }=>bif dr then 0 else 3
 | .load .. | .lookup ..=>1
 | .alloc .. | .box .. | .makeSlice ..=>2
 | _=>3
def appO : Op→Bool
 | .call { callee:=.builtin .append,.. }=>true
 | _=>false
def clsO (Γ:Env) (dr:Bool) (o:Oper):Nat :=
 match o.op with
 | .load ..=>bif o.dst.elim false Γ.le then 0 else 1
 | .slice .. | .indexAddr ..=>bif Γ.rr then 1 else 0
 | .binOp _ _ _ y _=>bif Γ.rr&&avc y then 1 else 0
 | .call { callee:=.builtin .len,.. }=>bif Γ.rr then 1 else 0
 | op=>cls dr op
def comm (Γ:Env) (dr:Bool) (ops:Array Oper) (j i:Oper):Bool :=
 Oper.apart ops j i&&(Nat.beq (clsO Γ dr j) 0||Nat.beq (clsO Γ dr i) 0||(Nat.beq (clsO Γ dr j) 1&&(Nat.ble (clsO Γ dr i) 2||(appO i.op&&!Γ.rr)))||((appO j.op&&!Γ.rr)&&Nat.beq (clsO Γ dr i) 1))
def bit (m i:Nat):Bool:=Nat.beq (m / 2 ^ i % 2) 1
def lkA : List (Nat×Oper×Nat)→Nat→Nat
 | [],_=>0
 | (i,_,l) :: r,j=>bif Nat.beq i j then l else lkA r j
def ancE (prev:List (Nat×Oper×Nat)):List Edge→Nat
 | []=>0
 | e :: r=>bif Region.binds .any e then Nat.lor (Nat.lor (2 ^ e.on) (lkA prev e.on)) (ancE prev r) else ancE prev r
def azQ (prev:List (Nat×Oper×Nat)) (o:Oper):Nat:=ancE prev o.after.toList
def apR (Γ:Env) (dr:Bool) (ops:Array Oper):List (Nat×Oper×Nat)→Nat→List Oper→Bool
 | _,_,[]=>true
 | prev,i,o :: r =>
   (fun m=>prev.all (fun p=>bit m p.1||comm Γ dr ops p.2.1 o) &&
    (o.after.toList.all (fun e=>!Region.binds .any e||Nat.blt e.on i)&&apR Γ dr ops ((i,o,m) :: prev) (i+1) r)) (azQ prev o)
def awV (Γ:Env) (dr:Bool) (ops:Array Oper) (x y:Nat):List (Nat×Oper×Nat)→Nat→List Oper→Bool
 | _,_,[]=>true
 | prev,i,o :: r =>
   (fun m=>prev.all (fun p=>bit m p.1||(comm Γ dr ops p.2.1 o||(Nat.beq p.1 x&&Nat.beq i y))) &&
    (o.after.toList.all (fun e=>!Region.binds .any e||Nat.blt e.on i)&&awV Γ dr ops x y ((i,o,m) :: prev) (i+1) r)) (azQ prev o)
def aGl (Γ:Env) (dr:Bool) (ops:Array Oper) (x y:Nat):Bool:=match ops[y]? with
 | some o=>((ops.toList.take y).drop (x+1)).all fun q=>comm Γ dr ops o q
 | none=>false
def mvAt {α:Type} (x y:Nat) (l:List α):List α:=l.take x++(l.drop y).take 1++(l.take y).drop x++l.drop (y+1)
def isMv (o:Oper):Bool:=o.guard.isNone&&match o.op with
 | .move _=>true
 | _=>false
def aAX (bs:List Nat) (i:Nat):Bool:=bs.any (Nat.beq i)
def aE8 (Γ:Env) (dr:Bool) (ops:Array Oper) (bs:List Nat) (p q:Nat×Oper):Bool :=
 (!aAX bs p.1&&!aAX bs q.1&&comm Γ dr ops p.2 q.2)||(isMv p.2&&aAX bs q.1&&!aAX bs p.1&&Oper.apart ops p.2 q.2)||(aAX bs p.1&&isMv q.2&&!aAX bs q.1&&Oper.apart ops p.2 q.2)
def awU (Γ:Env) (dr:Bool) (ops:Array Oper) (bs:List Nat):List (Nat×Oper×Nat)→Nat→List Oper→Bool
 | _,_,[]=>true
 | prev,i,o :: r =>
   (fun m=>prev.all (fun p=>bit m p.1||aE8 Γ dr ops bs (p.1,p.2.1) (i,o)) &&
    (o.after.toList.all (fun e=>!Region.binds .any e||Nat.blt e.on i)&&awU Γ dr ops bs ((i,o,m) :: prev) (i+1) r)) (azQ prev o)
def Env.still (Γ:Env):Env:={ Γ with rw:=false,rr:=false,le:=fun _=>false,lo:=fun _=>false }
def Env.drawn (Γ:Env) (rr:Bool) (le lo:List Nat):Env:={ Γ with rw:=false,rr:=rr,le:=fun t=>le.any (Nat.beq t),lo:=fun i=>lo.any (Nat.beq i) }
noncomputable def drwK (ops:Array Oper) (s:St) (rr dr:Bool) (le lo:List Nat) (K:St→Option ρ):Option ρ :=
 bif apR (Γ.drawn rr le lo) dr ops [] 0 ops.toList&&lo.all (fun i=>Nat.blt i s.S.length) then opsK (Γ.drawn rr le lo) E dr ops.toList ops.toList s K else none
noncomputable def regK (ops:Array Oper) (draw:Bool) (s:St) (K:St→Option ρ):Option ρ :=
 bif draw then
  (bif apR Γ.still false ops [] 0 ops.toList then opsK Γ.still E false ops.toList ops.toList s K
  else bif apR Γ.still true ops [] 0 ops.toList then opsK Γ.still E true ops.toList ops.toList s K
  else none)
 else opsK Γ E false ops.toList ops.toList s K
noncomputable def drwY (x y:Nat) (ops:Array Oper) (s:St) (rr dr:Bool) (le lo:List Nat) (K:St→Option ρ):Option ρ :=
 bif (awV (Γ.drawn rr le lo) dr ops x y [] 0 ops.toList&&(Nat.blt x y&&aGl (Γ.drawn rr le lo) dr ops x y))&&lo.all (fun i=>Nat.blt i s.S.length) then twoW (opsK (Γ.drawn rr le lo) E dr ops.toList ops.toList s K) (opsK (Γ.drawn rr le lo) E dr ops.toList (mvAt x y ops.toList) s K) else none
def num : Nat→List Oper→List (Nat×Oper)
 | _,[]=>[]
 | i,o :: r=>(i,o) :: num (i+1) r
def Env.bar (Γ:Env):Env:=Γ.drawn true [] []
def loOk (lo:List Nat) (s:St):Bool:=lo.all fun i=>Nat.blt i s.S.length
noncomputable def stpB (bs le lo:List Nat) (rr dr:Bool) (all:List Oper) (p:Nat×Oper) (s:St) (K:St→Option ρ):Option ρ :=
 bif aAX bs p.1 then ads Γ.bar E false all p.2 s fun s=>must (loOk lo s) (K s)
 else ads (Γ.drawn rr le lo) E dr all p.2 s K
noncomputable def opsB (bs le lo:List Nat) (rr dr:Bool) (all:List Oper):List (Nat×Oper)→St→(St→Option ρ)→Option ρ
 | [],s,K=>K s
 | p :: r,s,K=>stpB Γ E bs le lo rr dr all p s fun s=>opsB bs le lo rr dr all r s K
noncomputable def drwB (bs:List Nat) (ops:Array Oper) (s:St) (rr dr:Bool) (le lo:List Nat) (K:St→Option ρ):Option ρ :=
 bif awU (Γ.drawn rr le lo) dr ops bs [] 0 ops.toList&&loOk lo s then opsB Γ E bs le lo rr dr ops.toList (num 0 ops.toList) s K else none
noncomputable def regH (h:Hint) (ops:Array Oper) (draw:Bool) (s:St) (K:St→Option ρ):Option ρ :=
 match h with
 | .dw le lo rr dr=>must draw (drwK Γ E ops s rr dr le lo K)
 | .dp x y le lo rr dr=>must draw (drwY Γ E x y ops s rr dr le lo K)
 | .db bs le lo rr dr=>must draw (drwB Γ E bs ops s rr dr le lo K)
 | _=>regK Γ E ops draw s K
def capV (m:Nat) (v:TV):TV:=bif tame m v then v else .undef
def au6 (s:St) (keep:List Nat):List TV:=(List.range s.n).map fun t=>bif keep.any (Nat.beq t) then capV s.S.length (s.T t) else .undef
def aKx (s:St) (keep:List Nat) (r:RI):St:={ s with S:=s.S++[[TV.blk .df]]++[TV.blk (.lp r .rdy) :: au6 s keep] }
def aGg (s:St) (i:Nat):St:={ s with S:=s.S.set (i+1) [],dl:=[i] }
def aHz (i:Nat) (K:Exit→St→Option ρ) (s:St):Option ρ :=
 match (s.S[i+1]?:Option Obj) with
 | some (.blk (.lp _ .rdy) :: _)=>K .normal (aGg s i)
 | some (.blk (.lp _ (.done .ret)) :: _)=>K .ret (aGg s i)
 | some (.blk (.lp _ (.done (.exit n))) :: _)=>K (.exit n) (aGg s i)
 | _=>none
def aGN (K:Exit→St→Option ρ):Exit→St→Option ρ:=fun e s=>match e with
 | .goto _=>none
 | e=>K e s
noncomputable def exec (k:Nat) (h:Hint) (c:Code) (s:St) (K:Exit→St→Option ρ):Option ρ :=
 match c with
 | .skip=>K .normal s
 | .label _=>K .normal s
 | .region _ ops draw=>match h with
   | .rb t =>
     bif ops.toList.all (fun o:Oper=>Nat.ble (clsO Γ.still true o) 1)&&(!draw||apR Γ.still true ops [] 0 ops.toList) then
      (opsK Γ.still E (ρ:=Bool) true ops.toList ops.toList s fun s=>match s.T t with
         | .bool b=>some b
         | _=>none).bind fun b=>K .normal ({ s with T:=kill (ops.toList.map Oper.dst) s.T }.put (some t) (.bool b))
     else none
   | .nm w h=>match norm w s with
     | some s=>regH Γ E h ops draw s fun s=>K .normal s
     | none=>none
   | h=>regH Γ E h ops draw s fun s=>K .normal s
 | .seq a b=>exec k h.l a s (seqK (exec k h.r b) K)
 | .cond c a b=>match s.ev none c with
   | .bool x=>match h with
     | .cd w h1 h2=>bif x then exec k h1 a s (nrmK w (jmpK k K)) else exec k h2 b s (nrmK w (jmpK k K))
     | h=>bif x then exec k h.l a s K else exec k h.r b s K
   | _=>none
 | .block id c=>exec k h c s (blkK id K)
 | .scope c=>exec k h c s (aGN K)
 | .loop c=>match h with
   | .lp w h=>match norm w s with
     | some s=>iter (exec k h c) w K k s
     | none=>none
   | .ul m h=>aI0 (exec k h c) K m s
   | _=>none
 | .exit id=>K (.exit id) s
 | .ret=>K .ret s
 | .rangeFunc g ps assign body=>match h with
   | .rf id keep=>match s.ev none g with
     | .fn f caps=>must (s.dl.isEmpty&&(Nat.ble YB id&&Nat.blt f YB))
         (atS E false Γ.lo (aKx s keep { id,ps,assign,body }) none f (.ref .yl (s.S.length+1) :: tidy.go (fun _=>false) caps) (aHz s.S.length K))
     | _=>none
   | _=>none
 | _=>none
end
end Go.Proofs.Ytgmeimbamfggkaa.Den
