import Derived.RowKit
namespace Go.Proofs.Ytgmeimbamfggkaa.Den
open Go
inductive Ty where
 | bool
 | int (k:IntKind)
 | str
 | sl (t:Ty)
 | unit
 | pair (a b:Ty)
 | st (b:Ty)
 | ex
 | op (p:Bool)
 deriving DecidableEq
inductive Ex where
 | mk (op:Int) (table name:List Int) (n:Int) (v:Int×(Int×(List Int×Unit))) (args:List Ex)
abbrev ExD : Type:=Int×(List Int×(List Int×(Int×((Int×(Int×(List Int×Unit)))×(List Ex×Unit)))))
def Ex.un : Ex→ExD
 | .mk a b c d e f=>(a,(b,(c,(d,(e,(f,()))))))
def Ex.re (x:ExD):Ex:=.mk x.1 x.2.1 x.2.2.1 x.2.2.2.1 x.2.2.2.2.1 x.2.2.2.2.2.1
def exB : Ty:=.pair (.int .i64) (.pair .str (.pair .str (.pair (.int .i64) (.pair (.st (.pair (.int .i64) (.pair (.int .i64) (.pair .str .unit)))) (.pair (.sl .ex) .unit)))))
def Ty.D : Ty→Type
 | .bool=>Bool
 | .int _=>Int
 | .str=>List Int
 | .sl t=>List t.D
 | .unit=>Unit
 | .pair a b=>a.D×b.D
 | .st b=>b.D
 | .ex=>Ex
 | .op _=>Unit
def Ty.size : Ty→Nat
 | .unit=>0
 | .pair a b=>a.size+b.size
 | .st b=>b.size
 | .ex=>8
 | _=>1
def beqB (x y:Bool):Bool:=decide (x=y)
def beqI (x y:Int):Bool:=decide (x=y)
def beqL (x y:List Int):Bool:=decide (x=y)
def Ty.decEq : (t:Ty)→(x y:t.D)→Bool
 | .bool,x,y=>beqB x y
 | .int _,x,y=>beqI x y
 | .str,x,y=>beqL x y
 | .sl _,_,_=>false
 | .unit,_,_=>true
 | .pair a b,x,y=>a.decEq x.1 y.1&&b.decEq x.2 y.2
 | .st b,x,y=>b.decEq x y
 | .ex,_,_=>false
 | .op _,_,_=>false
def Ty.dep : Ty→Nat
 | .pair a b=>Nat.max a.dep b.dep
 | .st b=>b.dep+1
 | _=>0
def Ty.isSt : Ty→Bool
 | .st _=>true
 | _=>false
def Ty.cmp : Ty→Bool
 | .sl _=>false
 | .ex=>false
 | .op _=>false
 | .pair a b=>a.cmp&&b.cmp
 | .st b=>b.cmp&&Nat.blt b.dep 9000
 | _=>true
def ltL : List Int→List Int→Bool
 | _,[]=>false
 | [],_ :: _=>true
 | a :: x,b :: y=>decide (a < b)||(decide (a=b)&&ltL x y)
inductive Fl where
 | sh
 | full
 | own (q:Nat)
inductive LS where
 | rdy
 | busy
 | done (c:Code)
def LS.st : LS→LoopState
 | .rdy=>.ready
 | .busy=>.busy
 | .done _=>.done
def LS.pd : LS→Option Code
 | .done c=>some c
 | _=>none
structure RI where
 id:Nat
 ps:Array Tmp
 assign:Code
 body:Code
inductive Rf where
 | yl
 | asl (t:Ty)
 | asv (t:Ty) (a n:Nat)
 | pel (t:Ty) (j:Nat) (f:Option Nat)
 | one (t:Ty)
 | mp (kt vt:Ty)
inductive Blk where
 | row (t:Ty) (l:List t.D)
 | mp (kt vt:Ty) (l:List (kt.D×vt.D))
 | lp (r:RI) (j:LS)
 | df
inductive TV where
 | undef
 | skip
 | bool (b:Bool)
 | int (k:IntKind) (n:Int)
 | str (s:List Int)
 | sl (t:Ty) (f:Fl) (nl:Option Bool) (l:List t.D)
 | st (t:Ty) (x:t.D)
 | ep (t:Ty) (x:t.D)
 | ptr (i o:Nat)
 | nilp
 | fn (f:FuncId) (caps:List TV)
 | nilfn
 | tup (l:List TV)
 | ag (l:List TV)
 | ref (r:Rf) (i:Nat)
 | blk (b:Blk)
abbrev Obj := List TV
def ahG : Obj→Option Blk
 | [.blk b]=>some b
 | .blk (.lp r j) :: _=>some (.lp r j)
 | _=>none
def hol : Obj→Bool
 | []=>true
 | [.blk (.row _ [])]=>true
 | _=>false
def plain (cs:Obj):Bool:=!hol cs&&(ahG cs).isNone
structure St where
 n:Nat
 T:Nat→TV
 c:Nat
 O:Nat→Bool
 S:List Obj
 b:Nat
 dl:List Nat:=[]
def St.get (s:St) (t:Nat):TV:=s.T t
def upd {α:Type} (f:Nat→α) (d:Nat) (v:α):Nat→α:=fun t=>bif Nat.beq t d then v else f t
def St.put (s:St) (d:Option Tmp) (v:TV):St :=
 match d with
 | none=>s
 | some d=>bif Nat.blt d s.n then { s with T:=upd s.T d v } else s
def St.kill (s:St) (q:Nat):St:={ s with O:=upd s.O q false }
def St.more (s:St):St:={ s with O:=upd s.O s.c true,c:=s.c+1 }
def inK (k:IntKind) (n:Int):Bool:=decide (k.min≤n)&&decide (n≤k.max)
def wr (k:IntKind) (n:Int):Int:=k.wrap n
def i64 (n:Int):Int:=n
def aFB (op:BinOp) (k:IntKind) (x y:Int):Option TV :=
 match op with
 | .add=>some (.int k (wr k (x+y)))
 | .sub=>some (.int k (wr k (x - y)))
 | .mul=>some (.int k (wr k (x * y)))
 | .and | .or | .xor | .andNot=>some (.int k (Go.bits op k x y))
 | .eql=>some (.bool (beqI x y))
 | .neq=>some (.bool (!beqI x y))
 | .lss=>some (.bool (decide (x < y)))
 | .leq=>some (.bool (decide (x≤y)))
 | .gtr=>some (.bool (decide (y < x)))
 | .geq=>some (.bool (decide (y≤x)))
 | _=>none
def quoK (k:IntKind) (x y:Int):Option Int:=if y=0 then none else some (wr k (x.tdiv y))
def remK (_k:IntKind) (x y:Int):Option Int:=if y=0 then none else some (x.tmod y)
def shlK (k:IntKind) (x y:Int):Option Int:=if y < 0 then none else some (wr k (x * 2 ^ (min y.toNat k.bits)))
def shrK (k:IntKind) (x y:Int):Option Int:=if y < 0 then none else some (x / 2 ^ (min y.toNat k.bits))
def aG8 (op:BinOp) (x y:List Int):Option TV :=
 match op with
 | .eql=>some (.bool (beqL x y))
 | .neq=>some (.bool (!beqL x y))
 | .lss=>some (.bool (ltL x y))
 | .geq=>some (.bool (!ltL x y))
 | .gtr=>some (.bool (ltL y x))
 | .leq=>some (.bool (!ltL y x))
 | _=>none
def nth {α:Type} (l:List α) (i:Int):Option α:=if 0≤i then l[i.toNat]? else none
def cut {α:Type} (l:List α) (a b:Int):Option (List α) :=
 if 0≤a∧a≤b∧b≤l.length then some ((l.take b.toNat).drop a.toNat) else none
def LIM : Nat:=68719476736
def lim {α:Type} (n:Nat) (x:Option α):Option α:=if n≤LIM then x else none
def zero : (t:Ty)→t.D
 | .bool=>false
 | .int _=>(0:Int)
 | .str=>([]:List Int)
 | .sl _=>[]
 | .unit=>()
 | .pair a b=>(zero a,zero b)
 | .st b=>zero b
 | .ex=>.mk 0 [] [] 0 (0,(0,([],()))) []
 | .op _=>()
def cells : (t:Ty)→t.D→List TV
 | .bool,x=>[.bool x]
 | .int k,x=>[.int k x]
 | .str,x=>[.str x]
 | .sl t,x=>[.sl t .sh none x]
 | .unit,_=>[]
 | .pair a b,x=>cells a x.1++cells b x.2
 | .st b,x=>cells b x
 | .ex,x=>[.int .i64 x.un.1,.str x.un.2.1,.str x.un.2.2.1,.int .i64 x.un.2.2.2.1,.int .i64 x.un.2.2.2.2.1.1,.int .i64 x.un.2.2.2.2.1.2.1,.str x.un.2.2.2.2.1.2.2.1,.sl .ex .sh none x.un.2.2.2.2.2.1]
 | .op true,_=>[.nilp]
 | .op false,_=>[.undef]
def aIL : List TV→Option (Bool×List TV)
 | .bool b :: r=>some (b,r)
 | _=>none
def intC (k:IntKind):List TV→Option (Int×List TV)
 | .int k' n :: r=>if k=k' then some (n,r) else none
 | _=>none
def strC : List TV→Option (List Int×List TV)
 | .str s :: r=>some (s,r)
 | _=>none
def slC (t:Ty):List TV→Option (List t.D×List TV)
 | .sl t' _ _ l :: r=>if h:t'=t then some (h ▸ l,r) else none
 | _=>none
def al5 : (t:Ty)→List TV→Option (t.D×List TV)
 | .bool=>aIL
 | .int k=>intC k
 | .str=>strC
 | .sl t=>slC t
 | .unit=>fun r=>some ((),r)
 | .pair a b=>fun r=>(al5 a r).bind fun x=>(al5 b x.2).bind fun y=>some ((x.1,y.1),y.2)
 | .st b=>al5 b
 | .ex=>fun _=>none
 | .op _=>fun _=>none
def toTV : (t:Ty)→t.D→TV
 | .bool,x=>.bool x
 | .int k,x=>.int k x
 | .str,x=>.str x
 | .sl t,x=>.sl t .sh none x
 | .ex,x=>.st (.st exB) x.un
 | .op true,_=>.nilp
 | .op false,_=>.undef
 | t,x=>.st t x
def epTV : (t:Ty)→t.D→TV
 | .ex,x=>.ep (.st exB) x.un
 | t,x=>.ep t x
def zeroCells : Ty→List TV
 | .sl u=>[.sl u .full (some true) []]
 | .unit=>[]
 | .pair a b=>zeroCells a++zeroCells b
 | .st b=>zeroCells b
 | t=>cells t (zero t)
end Go.Proofs.Ytgmeimbamfggkaa.Den
