import Derived.Test.YtgmeimbamfggkaaDen5
import Derived.WalkSpells
import Derived.Laws.Pointers
import Derived.Laws.Rows
import Derived.Laws.Unary
namespace Go.Proofs.Ytgmeimbamfggkaa.Den
open Go
def agc : Ty→Value→Bool
 | .bool,.bool b=>!b
 | .int k,.int k' n=>decide (k=k')&&decide (n=0)
 | .str,.string s=>s.data.toList.isEmpty
 | .sl _,.slice none 0 0=>true
 | .op true,.pointer none=>true
 | .op false,.pointer none=>true
 | .op false,.map none=>true
 | .op false,.nilFunc=>true
 | _,_=>false
def vz (t:Ty):List Value→Option (List Value)
 | v :: r=>if agc t v then some r else none
 | []=>none
def adY : Ty→List Value→Option (List Value)
 | .ex,r=>(vz (.int .i64) r).bind fun r=>(vz .str r).bind fun r=>(vz .str r).bind fun r=>(vz (.int .i64) r).bind fun r=>((vz (.int .i64) r).bind fun r=>(vz (.int .i64) r).bind fun r=>(vz .str r).bind fun r=>some r).bind fun r=>(vz (.sl .ex) r).bind fun r=>some r
 | .op p,v :: r=>if agc (.op p) v then some r else none
 | .unit,r=>some r
 | .pair a b,r=>(adY a r).bind (adY b)
 | .st b,r=>adY b r
 | .bool,v :: r=>if agc .bool v then some r else none
 | .int k,v :: r=>if agc (.int k) v then some r else none
 | .str,v :: r=>if agc .str v then some r else none
 | .sl t,v :: r=>if agc (.sl t) v then some r else none
 | _,[]=>none
def Ty.agg : Ty→Bool
 | .st _=>true
 | .ex=>true
 | _=>false
def aiP (P:Program) (t:Ty) (n:TypeId):Bool :=
 match P.info? n with
 | some i=>decide (i.size=t.size)&&decide (i.bytes≤2048)&&decide (0 < t.size)&&(match i.zero with
   | some (.agg cs)=>t.agg&&(match adY t cs.toList with | some []=>true | _=>false)
   | some v=>!t.agg&&(match adY t [v] with | some []=>true | _=>false)
   | none=>false)
 | none=>false
def tI (P:Program) (k:IntKind) (n:TypeId):Bool:=(match P.underlying n with | some (.int k')=>decide (k=k') | _=>false)&&aiP P (.int k) n
def tS (P:Program) (n:TypeId):Bool:=(match P.underlying n with | some .string=>true | _=>false)&&aiP P .str n
def fO (f:Field) (o:Nat):Bool:=decide (f.offset=o)&&decide (f.name ≠ "_")
def vFld (P:Program):List Field→Bool
 | [f,g,h]=>fO f 0&&tI P .i64 f.type&&fO g 1&&tI P .i64 g.type&&fO h 2&&tS P h.type
 | _=>false
def vOk (P:Program) (n:TypeId):Bool :=
 (match P.underlying n with | some (.struct fs)=>vFld P fs.toList&&!P.stoodInHeld n | _=>false)&&aiP P (.st (.pair (.int .i64) (.pair (.int .i64) (.pair .str .unit)))) n
def aIW (P:Program) (n:TypeId):List Field→Bool
 | [f,g,h,i,j,l]=>fO f 0&&tI P .i64 f.type&&fO g 1&&tS P g.type&&fO h 2&&tS P h.type&&fO i 3&&tI P .i64 i.type&&fO j 4&&vOk P j.type&&fO l 7 &&
  ((match P.underlying l.type with | some (.slice e)=>decide (e=n) | _=>false)&&aiP P (.sl .ex) l.type)
 | _=>false
mutual
def tyOk (P:Program):Ty→TypeId→Bool
 | .ex,n=>(match P.underlying n with | some (.struct fs)=>aIW P n fs.toList&&!P.stoodInHeld n | _=>false)&&aiP P .ex n&&aiP P (.st exB) n
 | .op p,n=>(match P.underlying n with | some (.pointer _)=>true | some (.map _ _)=>!p | some (.func ..)=>!p | _=>false)&&aiP P (.op p) n
 | .bool,n=>(match P.underlying n with | some .bool=>true | _=>false)&&aiP P .bool n
 | .int k,n=>(match P.underlying n with | some (.int k')=>decide (k=k') | _=>false)&&aiP P (.int k) n
 | .str,n=>(match P.underlying n with | some .string=>true | _=>false)&&aiP P .str n
 | .sl t,n=>(match P.underlying n with | some (.slice e)=>tyOk P t e | _=>false)&&aiP P (.sl t) n
 | .st b,n=>(match P.underlying n with | some (.struct fs)=>abT P b fs.toList 0&&!P.stoodInHeld n | _=>false)&&aiP P (.st b) n
 | .unit,_=>false
 | .pair _ _,_=>false
def abT (P:Program):Ty→List Field→Nat→Bool
 | .unit,[],_=>true
 | .pair a b,f :: fs,o=>decide (f.offset=o)&&decide (f.name ≠ "_")&&decide (0 < a.size)&&tyOk P a f.type&&abT P b fs (o+a.size)
 | _,_,_=>false
end
def tyW (P:Program) (t:Ty) (n:TypeId):Bool:=tyOk P t n||(match t,P.underlying n with
 | .st b,some (.array _ _)=>aiP P (.st b) n
 | _,_=>false)
def fldW (P:Program):Ty→List Field→Nat→Bool
 | .unit,[],_=>true
 | .pair a b,f :: fs,o=>decide (f.offset=o)&&decide (f.name ≠ "_")&&decide (0 < a.size)&&tyW P a f.type&&fldW P b fs (o+a.size)
 | _,_,_=>false
def auW (e k:Nat):Nat→Nat→List Field
 | _,0=>[]
 | o,m+1=>{ name := "x",type:=e,offset:=o,embedded:=false,tag := "",pkgPath := "",byteOffset:=0 } :: auW e k (o+k) m
structure EnvOk (P:Program) (Γ:Env):Prop where
 ty:∀ n t,Γ.ty n=some t→tyOk P t n=true
 eq:∀ n b,Γ.ty n=some (.st b)→P.eqGuardType P.depth n=false
 one:∀ n,Γ.one n=true→∃ d i,P.underlying n=some d∧(match d with | .struct _ | .array _ _=>false | _=>true)=true∧P.info? n=some i∧i.size=1
 isp:∀ n,Γ.isp n=true→P.underlying n=some (.pointer (P.pointee n))
 mixed:P.follows .mixedOrders=true
 off:∀ n f q,Γ.off n f=some q→∃ fs fd i,P.underlying n=some (.struct fs)∧fs[f]?=some fd∧fd.offset=q∧P.info? fd.type=some i∧i.size≠0
 ar:∀ n b m e,Γ.ar n=some (b,m,e)→P.underlying n=some (.array m e)∧fldW P b (auW e (P.cellsOf e) 0 m) 0=true∧aiP P (.st b) n=true∧(P.info? e).isSome=true
 mt:∀ n kt vt k e,Γ.mt n=some (kt,vt,k,e)→P.underlying n=some (.map k e)∧tyOk P kt k=true∧kt.cmp=true∧kt.dep < 9000∧tyOk P vt e=true∧(P.eqGuardType P.depth k=false)
section
variable {P : Program}
theorem abz {t:Ty} {n:TypeId} (h:aiP P t n=true):∃ i,P.info? n=some i∧i.size=t.size∧i.bytes≤2048∧0 < t.size ∧
 ∃ z,i.zero=some z∧adY t z.cells.toList=some []∧(t.agg=true→∃ cs,z=.agg cs)∧(t.agg=false→∀ cs,z≠.agg cs):=by
 unfold aiP at h
 split at h
 · rename_i i hi
   simp only [Bool.and_eq_true,decide_eq_true_eq] at h
   obtain ⟨⟨⟨h1,h2⟩,h2'⟩,h3⟩:=h
   refine ⟨i,hi,h1,h2,h2',?_⟩
   split at h3
   · rename_i cs hz
     simp only [Bool.and_eq_true] at h3
     obtain ⟨h4,h5⟩:=h3
     refine ⟨_,hz,?_,fun _=>⟨cs,rfl⟩,fun hb=>?_⟩
     · split at h5
       · rename_i e; exact e
       · exact absurd h5 (by simp)
     · rw [h4] at hb; cases hb
   · rename_i v hv hz
     simp only [Bool.and_eq_true] at h3
     obtain ⟨h4,h5⟩:=h3
     have hc:v.cells=#[v]:=by cases v <;> first | rfl | exact absurd rfl (hv _)
     refine ⟨_,hz,?_,fun hb=>?_,fun _ cs e=>hv cs e⟩
     · rw [hc]
       split at h5
       · rename_i e; exact e
       · exact absurd h5 (by simp)
     · rw [hb] at h4; cases h4
   · exact absurd h3 (by simp)
 · exact absurd h (by simp)
theorem afa : ∀ {t:Ty} {n:TypeId},tyOk P t n=true→aiP P t n=true
 | .bool,_,h=>by simp only [tyOk,Bool.and_eq_true] at h; exact h.2
 | .int _,_,h=>by simp only [tyOk,Bool.and_eq_true] at h; exact h.2
 | .str,_,h=>by simp only [tyOk,Bool.and_eq_true] at h; exact h.2
 | .sl _,_,h=>by simp only [tyOk,Bool.and_eq_true] at h; exact h.2
 | .st _,_,h=>by simp only [tyOk,Bool.and_eq_true] at h; exact h.2
 | .ex,_,h=>by simp only [tyOk,Bool.and_eq_true] at h; exact h.1.2
 | .op _,_,h=>by simp only [tyOk,Bool.and_eq_true] at h; exact h.2
 | .unit,_,h=>by simp [tyOk] at h
 | .pair _ _,_,h=>by simp [tyOk] at h
theorem agb {t:Ty} {n:TypeId} (h:tyOk P (.sl t) n=true):∃ e,P.underlying n=some (.slice e)∧tyOk P t e=true:=by
 simp only [tyOk,Bool.and_eq_true] at h
 obtain ⟨h1,_⟩:=h
 split at h1
 · rename_i e he; exact ⟨e,he,h1⟩
 · exact absurd h1 (by simp)
theorem ak7 {b:Ty} {n:TypeId} (h:tyOk P (.st b) n=true):∃ fs,P.underlying n=some (.struct fs)∧abT P b fs.toList 0=true∧P.stoodInHeld n=false:=by
 simp only [tyOk,Bool.and_eq_true] at h
 obtain ⟨h1,_⟩:=h
 split at h1
 · rename_i fs hf
   simp only [Bool.and_eq_true,Bool.not_eq_true'] at h1
   exact ⟨fs,hf,h1.1,h1.2⟩
 · exact absurd h1 (by simp)
theorem aj_ {k:IntKind} {n:TypeId} (h:tyOk P (.int k) n=true):P.underlying n=some (.int k):=by
 simp only [tyOk,Bool.and_eq_true] at h
 obtain ⟨h1,_⟩:=h
 split at h1
 · rename_i k' he; rw [he]; simp at h1; rw [h1]
 · exact absurd h1 (by simp)
theorem ag4 {n:TypeId} (h:tyOk P .str n=true):P.underlying n=some .string:=by
 simp only [tyOk,Bool.and_eq_true] at h
 obtain ⟨h1,_⟩:=h
 split at h1
 · rename_i he; exact he
 · exact absurd h1 (by simp)
theorem alY {n:TypeId} (h:tyOk P .bool n=true):P.underlying n=some .bool:=by
 simp only [tyOk,Bool.and_eq_true] at h
 obtain ⟨h1,_⟩:=h
 split at h1
 · rename_i he; exact he
 · exact absurd h1 (by simp)
theorem aET {n:TypeId} (h:tyOk P .ex n=true):∃ fs,P.underlying n=some (.struct fs)∧aIW P n fs.toList=true∧P.stoodInHeld n=false∧aiP P (.st exB) n=true:=by
 simp only [tyOk,Bool.and_eq_true] at h
 obtain ⟨⟨h1,_⟩,h3⟩:=h
 split at h1
 · rename_i fs hf
   simp only [Bool.and_eq_true,Bool.not_eq_true'] at h1
   exact ⟨fs,hf,h1.1,h1.2,h3⟩
 · exact absurd h1 (by simp)
theorem aH6 {k:IntKind} {n:TypeId} (h:tI P k n=true):tyOk P (.int k) n=true:=by unfold tyOk; exact h
theorem aJz {n:TypeId} (h:tS P n=true):tyOk P .str n=true:=by unfold tyOk; exact h
theorem ah4 {a b:Ty} {f:Field} {fs:List Field} {o:Nat} (h1:f.offset=o) (h2:f.name ≠ "_") (h3:0 < a.size) (h4:tyOk P a f.type=true) (h5:abT P b fs (o+a.size)=true):abT P (.pair a b) (f :: fs) o=true:=by
 unfold abT
 simp [h1,h2,h3,h4,h5]
theorem aHa {fs:List Field} (h:vFld P fs=true):abT P (.pair (.int .i64) (.pair (.int .i64) (.pair .str .unit))) fs 0=true:=by
 unfold vFld at h
 split at h
 · simp only [fO,Bool.and_eq_true,decide_eq_true_eq] at h
   obtain ⟨⟨⟨⟨⟨⟨a1,a2⟩,a3⟩,⟨b1,b2⟩⟩,b3⟩,⟨c1,c2⟩⟩,c3⟩:=h
   exact ah4 a1 a2 (by decide) (aH6 a3) (ah4 b1 b2 (by decide) (aH6 b3) (ah4 c1 c2 (by decide) (aJz c3) rfl))
 · cases h
theorem aIa {n:TypeId} (h:vOk P n=true):tyOk P (.st (.pair (.int .i64) (.pair (.int .i64) (.pair .str .unit)))) n=true:=by
 unfold vOk at h
 rw [Bool.and_eq_true] at h
 obtain ⟨h1,h2⟩:=h
 split at h1
 · rename_i fs hf
   rw [Bool.and_eq_true] at h1
   unfold tyOk
   rw [hf]
   simp only [aHa h1.1,h1.2,h2,Bool.and_self]
 · cases h1
theorem aCZ {n:TypeId} (h:tyOk P .ex n=true):tyOk P (.st exB) n=true:=by
 obtain ⟨fs,hu,hf,hs,hi⟩:=aET h
 have hfl:abT P exB fs.toList 0=true:=by
  generalize fs.toList=fl at hf ⊢
  unfold aIW at hf
  split at hf
  · simp only [fO,Bool.and_eq_true,decide_eq_true_eq] at hf
    obtain ⟨⟨⟨⟨⟨⟨⟨⟨⟨⟨⟨⟨a1,a2⟩,a3⟩,⟨b1,b2⟩⟩,b3⟩,⟨c1,c2⟩⟩,c3⟩,⟨d1,d2⟩⟩,d3⟩,⟨e1,e2⟩⟩,e3⟩,⟨g1,g2⟩⟩,g3,g4⟩:=hf
    have e3:=aIa e3
    have a3:=aH6 a3
    have d3:=aH6 d3
    have b3:=aJz b3
    have c3:=aJz c3
    have g5:∀ (l:TypeId),(match P.underlying l with | some (.slice e)=>decide (e=n) | _=>false)=true→(match P.underlying l with | some (.slice e)=>tyOk P .ex e | _=>false)=true:=by
        intro l hl
        split at hl
        · rename_i e he
          have:e=n:=by simpa using hl
          subst this; exact h
        · cases hl
    have g5:=g5 _ g3
    refine ah4 a1 a2 (by decide) a3 (ah4 b1 b2 (by decide) b3 (ah4 c1 c2 (by decide) c3 (ah4 d1 d2 (by decide) d3 (ah4 e1 e2 (by decide) e3 (ah4 g1 g2 (by decide) ?_ rfl)))))
    unfold tyOk
    rw [g5,g4]; rfl
  · cases hf
 unfold tyOk
 rw [hu]
 simp only [hfl,hs,hi,Bool.not_false,Bool.and_self]
theorem aJC {p:Bool} {n:TypeId} (h:tyOk P (.op p) n=true):∃ d,P.underlying n=some d∧(match d with | .struct _ | .array _ _=>false | _=>true)=true:=by
 simp only [tyOk,Bool.and_eq_true] at h
 obtain ⟨h1,_⟩:=h
 split at h1
 · rename_i he; exact ⟨_,he,rfl⟩
 · rename_i he; exact ⟨_,he,rfl⟩
 · rename_i he; exact ⟨_,he,rfl⟩
 · cases h1
theorem awo {t:Ty} {n:TypeId} (h:tyOk P t n=true) (w:World):(isAgg n).run P w=.ok t.agg w:=by
 cases t with
 | bool=>simp [isAgg,run_underlying (alY h),Ty.agg]
 | int k=>simp [isAgg,run_underlying (aj_ h),Ty.agg]
 | str=>simp [isAgg,run_underlying (ag4 h),Ty.agg]
 | sl t=>obtain ⟨e,he,_⟩:=agb h; simp [isAgg,run_underlying he,Ty.agg]
 | st b=>obtain ⟨e,he,_⟩:=ak7 h; simp [isAgg,run_underlying he,Ty.agg]
 | ex=>obtain ⟨e,he,_⟩:=aET h; simp [isAgg,run_underlying he,Ty.agg]
 | op p =>
   obtain ⟨d,he,hd⟩:=aJC h
   unfold isAgg
   simp only [Sem.run_bind,run_underlying he,Result.andThen_ok]
   cases d <;> simp at hd ⊢ <;> rfl
 | unit=>simp [tyOk] at h
 | pair a b=>simp [tyOk] at h
theorem aet {t:Ty} {n:TypeId} (h:tyOk P t n=true) (w:World):(sizeOf n).run P w=.ok t.size w:=by
 obtain ⟨i,hi,hs,_⟩:=abz (afa h)
 simp [sizeOf,typeInfo,hi,hs]
end
section
variable {w0 : World} {M0:Mem} {X:Fr} {s:St} {w:World} {M:Mem} {ι:Nat→Nat} {θ:Nat→Option Nat} {a:Act}
theorem aHm (t:Option Ty) (v:Value):rv M ι (ayr t v) v∧tc w M θ s.O s.c (ayr t v) v∧aaI w s.S (ayr t v) v:=by
 unfold ayr
 split
 · exact ⟨rfl,trivial,trivial⟩
 · rename_i k m
   cases h:inK k m
   · exact ⟨trivial,trivial,trivial⟩
   · exact ⟨⟨rfl,h⟩,trivial,trivial⟩
 · rename_i s'
   cases h:Nat.ble s'.size 65536
   · exact ⟨trivial,trivial,trivial⟩
   · have h':=Nat.le_of_ble_eq_true h
     exact ⟨⟨s',rfl,rfl,by unfold maxLen; omega⟩,trivial,trivial⟩
 · split
   · exact ⟨⟨none,0,rfl,Nat.le_refl _,Nat.zero_le _,fun _=>rfl,fun h=>absurd rfl h,fun b hb=>by cases hb; rfl,fun _=>rfl⟩,trivial,trivial⟩
   · exact ⟨trivial,trivial,trivial⟩
 · exact ⟨rfl,trivial,trivial⟩
 · exact ⟨rfl,trivial,trivial⟩
 · exact ⟨trivial,trivial,trivial⟩
theorem abH (T:TInv s w M ι θ a) (t:Option Ty) (x:Operand) :
 rv M ι (s.ev t x) (a.eval x)∧tc w M θ s.O s.c (s.ev t x) (a.eval x)∧aaI w s.S (s.ev t x) (a.eval x):=by
 cases x with
 | tmp d=>exact T.v d
 | const v=>exact aHm t v
 | func f=>exact ⟨⟨[],rfl,rfl⟩,trivial,fun vs _=>trivial⟩
 | global g=>exact ⟨trivial,trivial,trivial⟩
variable {P : Program} {ρ:Type} {r:ρ} {K:St→Option ρ} {N:Act→World→Prop} {Q:Exit→Act→World→Prop} {o:Oper}
def Goes (w0:World) (M0:Mem) (X:Fr) {ρ:Type} (r:ρ) (K:St→Option ρ) (N:Act→World→Prop):Prop :=
 ∀ s w M ι θ a,K s=some r→Inv w0 M0 X s w M ι θ→TInv s w M ι θ a→N a w
theorem ahY (I:Inv w0 M0 X s w M ι θ) (T:TInv s w M ι θ a) (G:Goes w0 M0 X r K N) {v:Value} (hrun:(execOp a.eval o).run P w=.ok (.value v) w)
 {x:TV} (hk:K (s.put o.dst x)=some r) (h1:rv M ι x v) (h2:tc w M θ s.O s.c x v) (h3:aaI w s.S x v):o.wp P a w N Q:=by
 unfold Oper.wp
 rw [hrun]
 exact G _ _ _ _ _ _ hk (I.put _ _) (T.put _ h1 h2 h3)
def flat : TV→Bool
 | .sl _ (.own _) _ _=>false
 | .ptr _ _=>false
 | .fn _ _=>false
 | .tup _=>false
 | .ag _=>false
 | .ref _ _=>false
 | .blk _=>false
 | _=>true
theorem aAV : ∀ {cs:Obj},(∀ y∈cs,flat y=true)→ahG cs=none
 | [],_=>rfl
 | [x],h=>by
   have:=h x (List.mem_cons_self ..)
   cases x <;> first | rfl | (simp [flat] at this)
 | x :: _ :: _,h=>by
   have:=h x (List.mem_cons_self ..)
   cases x <;> first | rfl | (simp [flat] at this)
theorem awB {x:TV} (h:flat x=true) (v:Value) (S:List Obj):tc w M θ s.O s.c x v∧aaI w S x v:=by
 cases x <;> simp [flat] at h <;> (try exact ⟨trivial,trivial⟩)
 rename_i t f nl l
 cases f <;> simp at h <;> exact ⟨trivial,trivial⟩
theorem aaP (I:Inv w0 M0 X s w M ι θ) (T:TInv s w M ι θ a) (G:Goes w0 M0 X r K N) {v:Value} (hrun:(execOp a.eval o).run P w=.ok (.value v) w)
 {x:TV} (hk:K (s.put o.dst x)=some r) (h1:rv M ι x v) (hf:flat x=true):o.wp P a w N Q :=
 ahY I T G hrun hk h1 (awB hf v []).1 (awB (s:=s) (w:=w) (M:=M) (θ:=θ) hf v _).2
theorem adW {ρv:Operand→Value} {op:BinOp} {xt yt:TypeId} {X' Y':Operand} (ho:o.op=.binOp op xt X' Y' yt)
 (hg:(eqGuard op xt X' Y' (ρv X') (ρv Y')).run P w=.ok () w) {v:Value} (h:(binOp op xt (ρv X') (ρv Y')).run P w=.ok v w) :
 (execOp ρv o).run P w=.ok (.value v) w:=by
 simp [execOp,ho,hg,h]
theorem aoq {s:St} {d:Option Tmp} {x:Option TV} (h:kTV K s d x=some r):∃ y,x=some y∧K (s.put d y)=some r:=by
 unfold kTV at h
 split at h
 · exact ⟨_,rfl,h⟩
 · cases h
theorem aoa {t:Ty} {n:TypeId} (ht:tyOk P t n=true) {cs:List Value} (hl:cs.length=t.size) (pre post:List Value) :
 (part n (pre++cs++post).toArray pre.length).run P w=.ok (adq t cs) w:=by
 unfold part
 simp only [Sem.run_bind,awo ht,Result.andThen_ok]
 have one:∀ v,cs=[v]→(match (pre++cs++post).toArray[pre.length]? with | some v=>(pure v:Sem Value) | none=>stuck "part: no such cell").run P w=.ok v w:=by
  rintro v rfl; simp
 cases t with
 | st b =>
   simp only [Ty.agg,if_true,Sem.run_bind,aet ht,Result.andThen_ok,Sem.run_pure,adq]
   congr 2
   apply Array.ext'
   simp [hl]
 | ex =>
   simp only [Ty.agg,if_true,Sem.run_bind,aet ht,Result.andThen_ok,Sem.run_pure,adq]
   congr 2
   apply Array.ext'
   simp [hl]
 | op p=>obtain ⟨v,rfl⟩:=List.length_eq_one_iff.1 hl; exact one v rfl
 | bool=>obtain ⟨v,rfl⟩:=List.length_eq_one_iff.1 hl; exact one v rfl
 | int k=>obtain ⟨v,rfl⟩:=List.length_eq_one_iff.1 hl; exact one v rfl
 | str=>obtain ⟨v,rfl⟩:=List.length_eq_one_iff.1 hl; exact one v rfl
 | sl t=>obtain ⟨v,rfl⟩:=List.length_eq_one_iff.1 hl; exact one v rfl
 | unit=>simp [tyOk] at ht
 | pair a b=>simp [tyOk] at ht
theorem ays {n:TypeId} {fs:Array Field} (h:P.underlying n=some (.struct fs)):P.fieldsOf n=fs:=by unfold Program.fieldsOf; rw [h]
mutual
theorem eqTy : ∀ (t:Ty) (n:TypeId) (d:Nat) (cs us:List Value) (x y:t.D),tyOk P t n=true→t.cmp=true→t.dep < d+1→rep M t cs x→rep M t us y →
 (Op.equalIn (d+1) n (adq t cs) (adq t us)).run P w=.ok (t.decEq x y) w
 | .bool,n,d,cs,us,x,y,ht,_,_,h1,h2=>by
   rw [show cs=[.bool x] from h1,show us=[.bool y] from h2]
   exact run_equalIn_bool' w d n x y (alY ht)
 | .int k,n,d,cs,us,x,y,ht,_,_,h1,h2=>by
   rw [h1.1,h2.1]
   exact run_equalIn_int w d n k k x y (aj_ ht)
 | .str,n,d,cs,us,x,y,ht,_,_,h1,h2=>by
   obtain ⟨p,rfl,rfl,_⟩:=h1
   obtain ⟨q,rfl,rfl,_⟩:=h2
   rw [show adq .str [.string p]=.string p from rfl,show adq .str [.string q]=.string q from rfl,run_equalIn_string w d n _ _ (ag4 ht)]
   simp only [Ty.decEq,aww]
 | .sl t,_,_,_,_,_,_,_,hc,_,_,_=>by simp [Ty.cmp] at hc
 | .ex,_,_,_,_,_,_,_,hc,_,_,_=>by simp [Ty.cmp] at hc
 | .op _,_,_,_,_,_,_,_,hc,_,_,_=>by simp [Ty.cmp] at hc
 | .unit,_,_,_,_,_,_,ht,_,_,_,_=>by simp [tyOk] at ht
 | .pair _ _,_,_,_,_,_,_,ht,_,_,_,_=>by simp [tyOk] at ht
 | .st b,n,d,cs,us,x,y,ht,hc,hd,h1,h2=>by
   obtain ⟨fs,hu,hf,hso⟩:=ak7 ht
   have hc':b.cmp=true:=by simp [Ty.cmp] at hc; exact hc.1
   rw [show adq (.st b) cs=.agg cs.toArray from rfl,show adq (.st b) us=.agg us.toArray from rfl,
    run_equalIn_struct w d n _ _ (by rw [ays hu]; exact hu) hso,ays hu]
   obtain ⟨d,rfl⟩:∃ e,d=e+1:=⟨d - 1,by simp [Ty.dep] at hd; omega⟩
   exact aJP b fs.toList 0 d [] [] cs us x y hf hc' (by simp [Ty.dep] at hd; omega) h1 h2 rfl rfl
theorem aJP : ∀ (b:Ty) (fs:List Field) (o d:Nat) (p q cs us:List Value) (x y:b.D),abT P b fs o=true→b.cmp=true→b.dep < d+1→rep M b cs x→rep M b us y→p.length=o→q.length=o →
 (Op.eqFields (d+1) (p++cs).toArray (q++us).toArray fs).run P w=.ok (b.decEq x y) w
 | .unit,[],_,_,_,_,_,_,_,_,_,_,_,_,_,_,_=>rfl
 | .unit,_ :: _,_,_,_,_,_,_,_,_,h,_,_,_,_,_,_=>by simp [abT] at h
 | .pair a b,[],_,_,_,_,_,_,_,_,h,_,_,_,_,_,_=>by simp [abT] at h
 | .pair a b,f :: fs,o,d,p,q,cs,us,x,y,h,hc,hd,h1,h2,hp,hq=>by
   simp only [abT,Bool.and_eq_true,decide_eq_true_eq] at h
   obtain ⟨⟨⟨⟨ho,hn⟩,_⟩,ht⟩,hr⟩:=h
   obtain ⟨c1,c2,rfl,k1,k2⟩:=h1
   obtain ⟨u1,u2,rfl,k3,k4⟩:=h2
   simp only [Ty.cmp,Bool.and_eq_true] at hc
   have hda:a.dep < d+1:=Nat.lt_of_le_of_lt (Nat.le_max_left _ _) hd
   have hdb:b.dep < d+1:=Nat.lt_of_le_of_lt (Nat.le_max_right _ _) hd
   have e1:=aoa (P:=P) (w:=w) ht (aat a c1 _ k1) p c2
   have e2:=aoa (P:=P) (w:=w) ht (aat a u1 _ k3) q u2
   rw [List.append_assoc] at e1 e2
   have e3:=eqTy a f.type d c1 u1 x.1 y.1 ht hc.1 hda k1 k3
   have e4:=aJP b fs (o+a.size) d (p++c1) (q++u1) c2 u2 x.2 y.2 hr hc.2 hdb k2 k4
    (by rw [List.length_append,hp,aat a c1 _ k1]) (by rw [List.length_append,hq,aat a u1 _ k3])
   rw [List.append_assoc,List.append_assoc] at e4
   simp only [Op.eqFields,if_pos hn,Sem.run_bind,ho]
   rw [hp] at e1
   rw [hq] at e2
   rw [e1]
   simp only [Result.andThen_ok]
   rw [e2]
   simp only [Result.andThen_ok,e3,Ty.decEq]
   cases a.decEq x.1 y.1 with
   | false=>simp
   | true=>simpa using e4
 | .bool,_,_,_,_,_,_,_,_,_,h,_,_,_,_,_,_=>by simp [abT] at h
 | .int _,_,_,_,_,_,_,_,_,_,h,_,_,_,_,_,_=>by simp [abT] at h
 | .str,_,_,_,_,_,_,_,_,_,h,_,_,_,_,_,_=>by simp [abT] at h
 | .sl _,_,_,_,_,_,_,_,_,_,h,_,_,_,_,_,_=>by simp [abT] at h
 | .st _,_,_,_,_,_,_,_,_,_,h,_,_,_,_,_,_=>by simp [abT] at h
 | .ex,_,_,_,_,_,_,_,_,_,h,_,_,_,_,_,_=>by simp [abT] at h
 | .op _,_,_,_,_,_,_,_,_,_,h,_,_,_,_,_,_=>by simp [abT] at h
end
theorem aHj {Γ:Env} (hΓ:EnvOk P Γ) (I:Inv w0 M0 X s w M ι θ) (T:TInv s w M ι θ a) (G:Goes w0 M0 X r K N) {op:BinOp} {xt yt:TypeId} {X' Y':Operand} (ho:o.op=.binOp op xt X' Y' yt)
 {x y:TV} (hx:rv M ι x (a.eval X')) (hy:rv M ι y (a.eval Y'))
 (h:binK (Γ.ty xt) (Γ.isp xt) s o.dst op x y K=some r):o.wp P a w N Q:=by
 unfold binK at h
 split at h
 · rename_i k m k' m'
   obtain ⟨hx,hxi⟩:=hx
   obtain ⟨hy,hyi⟩:=hy
   have hg:(eqGuard op xt X' Y' (a.eval X') (a.eval Y')).run P w=.ok () w:=by rw [hx,eqGuard_at_int]; rfl
   split at h
   · obtain ⟨z,hz,hk⟩:=Option.bind_eq_some_iff.1 h
     obtain ⟨h1,h2⟩:=aE0 (P:=P) (w:=w) xt k k' _ _ _ hz
     exact aaP I T G (adW ho hg (by rw [hx,hy]; exact h1)) hk ⟨rfl,h2⟩ rfl
   · obtain ⟨z,hz,hk⟩:=Option.bind_eq_some_iff.1 h
     obtain ⟨h1,h2⟩:=aE1 (P:=P) (w:=w) xt k k' _ _ _ hxi hz
     exact aaP I T G (adW ho hg (by rw [hx,hy]; exact h1)) hk ⟨rfl,h2⟩ rfl
   · split at h
     · rename_i hkk; subst hkk
       obtain ⟨z,hz,hk⟩:=Option.bind_eq_some_iff.1 h
       obtain ⟨h1,h2⟩:=aEY (P:=P) (w:=w) xt k _ _ _ hz
       exact aaP I T G (adW ho hg (by rw [hx,hy]; exact h1)) hk ⟨rfl,h2⟩ rfl
     · cases h
   · split at h
     · rename_i hkk; subst hkk
       obtain ⟨z,hz,hk⟩:=Option.bind_eq_some_iff.1 h
       obtain ⟨h1,h2⟩:=aEZ (P:=P) (w:=w) xt k _ _ _ hxi hz
       exact aaP I T G (adW ho hg (by rw [hx,hy]; exact h1)) hk ⟨rfl,h2⟩ rfl
     · cases h
   · split at h
     · rename_i hkk; subst hkk
       obtain ⟨z,hz,hk⟩:=aoq h
       obtain ⟨v,h1,h2⟩:=aFG (P:=P) (w:=w) (M:=M) (ι:=ι) op xt k _ _ z hz
       have hf:flat z=true:=by
        cases op <;> simp only [aFB,Option.some.injEq,reduceCtorEq] at hz <;> subst hz <;> rfl
       exact aaP I T G (adW ho hg (by rw [hx,hy]; exact h1)) hk h2 hf
     · cases h
 · rename_i p q
   obtain ⟨p',hx,rfl,hp⟩:=hx
   obtain ⟨q',hy,rfl,hq⟩:=hy
   have hg:(eqGuard op xt X' Y' (a.eval X') (a.eval Y')).run P w=.ok () w:=by rw [hx,eqGuard_at_string]; rfl
   split at h
   · have hl:(aaz p').length+(aaz q').length≤LIM:=by
        unfold lim at h
        split at h
        · assumption
        · cases h
     have hk:K (s.put o.dst (.str (aaz p'++aaz q')))=some r:=by
        unfold lim at h; rw [if_pos hl] at h; exact h
     rw [acj,acj] at hl
     unfold LIM at hl
     refine aaP I T G (v:=.string (p'++q')) (adW ho hg ?_) hk ⟨p'++q',rfl,?_,?_⟩ rfl
     · rw [hx,hy]
       have hs:¬ (((p'.size+q'.size:Nat):Int) > IntKind.i64.max):=by
        have:IntKind.i64.max=9223372036854775807:=by decide
        omega
       simp only [binOp,Op.stringOp,if_neg hs]
       rfl
     · unfold aaz; rw [ByteArray.data_append,Array.toList_append,List.map_append]
     · rw [ByteArray.size_append]; unfold maxLen; omega
   · obtain ⟨z,hz,hk⟩:=aoq h
     obtain ⟨v,h1,h2⟩:=aFH (P:=P) (w:=w) (M:=M) (ι:=ι) op xt _ _ z hz
     have hf:flat z=true:=by
        cases op <;> simp only [aG8,Option.some.injEq,reduceCtorEq] at hz <;> subst hz <;> rfl
     exact aaP I T G (adW ho hg (by rw [hx,hy]; exact h1)) hk h2 hf
 · rename_i p q
   have hx:a.eval X'=.bool p:=hx
   have hy:a.eval Y'=.bool q:=hy
   have hg:(eqGuard op xt X' Y' (a.eval X') (a.eval Y')).run P w=.ok () w:=by rw [hx,eqGuard_at_bool]; rfl
   split at h
   · rename_i htx
     have hu:=alY (hΓ.ty _ _ htx)
     have he:(Op.equal xt (.bool p) (.bool q)).run P w=.ok (p == q) w:=run_equalIn_bool' w 9999 xt p q hu
     split at h
     · refine aaP I T G (adW ho hg (v:=.bool (p == q)) ?_) h ?_ rfl
       · rw [hx,hy]; simp [binOp,he]
       · simp only [rv,beqB]; congr 1
     · refine aaP I T G (adW ho hg (v:=.bool (!(p == q))) ?_) h ?_ rfl
       · rw [hx,hy]; simp [binOp,he]
       · simp only [rv,beqB]; congr 1
     · cases h
   · cases h
 · rename_i t v t' v'
   split at h
   · rename_i htt
     subst htt
     split at h
     · rename_i htx
       obtain ⟨htx,hcmp,hst⟩:=htx
       have hty:=hΓ.ty _ _ htx
       obtain ⟨cs,h1,h2⟩:=hx
       obtain ⟨us,h3,h4⟩:=hy
       have hb:∃ b,t'=.st b:=by
        cases t' <;> first | exact ⟨_,rfl⟩ | (simp [Ty.isSt] at hst)
       obtain ⟨b,rfl⟩:=hb
       have hg:(eqGuard op xt X' Y' (a.eval X') (a.eval Y')).run P w=.ok () w:=by
        rw [h1,h3]; exact run_eqGuard_agg w op xt X' Y' _ _ (hΓ.eq _ _ htx)
       have hdep:Ty.dep (.st b) < 9999+1:=by
        simp only [Ty.cmp,Bool.and_eq_true] at hcmp
        have:=Nat.blt_eq.mp hcmp.2
        simp only [Ty.dep]; omega
       have he:=eqTy (P:=P) (w:=w) (M:=M) (.st b) xt 9999 cs us v v' hty hcmp hdep h2 h4
       split at h
       · refine aaP I T G (adW ho hg (v:=.bool (Ty.decEq (.st b) v v')) ?_) h rfl rfl
         rw [h1,h3,run_eql_struct]; rw [show (Value.agg cs.toArray)=adq (.st b) cs from rfl,show (Value.agg us.toArray)=adq (.st b) us from rfl,he]; rfl
       · refine aaP I T G (adW ho hg (v:=.bool (!Ty.decEq (.st b) v v')) ?_) h rfl rfl
         rw [h1,h3,run_neq_struct]; rw [show (Value.agg cs.toArray)=adq (.st b) cs from rfl,show (Value.agg us.toArray)=adq (.st b) us from rfl,he]; rfl
       · cases h
     · cases h
   · cases h
 · rename_i t f nl l t'
   split at h
   · rename_i htx
     obtain ⟨e,hu,_⟩:=agb (hΓ.ty _ _ htx)
     obtain ⟨p,c,hx,_,_,_,_,hnl,_⟩:=hx
     obtain ⟨q,c',hy,_,_,_,_,hnl',_⟩:=hy
     have hq:q=none:=by simpa using hnl' true rfl
     subst hq
     have hnl:=hnl nl rfl
     have hg:(eqGuard op xt X' Y' (a.eval X') (a.eval Y')).run P w=.ok () w:=by rw [hx,eqGuard_at_slice]; rfl
     split at h
     · refine aaP I T G (adW ho hg (v:=.bool nl) ?_) h rfl rfl
       rw [hx,hy,← hnl]
       simp only [binOp,Op.equal,Op.maxDepth,Sem.run_bind,Lib.run_equalIn_slice_nil w 9999 xt e p _ _ _ _ hu]
       rfl
     · refine aaP I T G (adW ho hg (v:=.bool (!nl)) ?_) h rfl rfl
       rw [hx,hy,← hnl]
       exact run_neq_slice_nil_any w xt e p _ _ _ _ hu
     · cases h
   · cases h
 · rename_i i p
   cases hip:Γ.isp xt <;> rw [hip] at h
   · cases h
   · have hu:=hΓ.isp _ hip
     have hx:a.eval X'=.pointer (some ⟨ι i,p,none⟩):=hx
     have hy:a.eval Y'=.pointer none:=hy
     have hg:(eqGuard op xt X' Y' (a.eval X') (a.eval Y')).run P w=.ok () w:=by rw [hx,eqGuard_at_pointer]; rfl
     simp only [cond_true] at h
     split at h
     · refine aaP I T G (adW ho hg (v:=.bool false) ?_) h rfl rfl
       rw [hx,hy]; exact run_eql_pointer_nil w xt _ hu
     · refine aaP I T G (adW ho hg (v:=.bool true) ?_) h rfl rfl
       rw [hx,hy]; exact run_neq_pointer_nil w xt _ hu
     · cases h
 · rename_i pt pj pf pi
   cases hip:Γ.isp xt <;> rw [hip] at h
   · cases h
   · have hu:=hΓ.isp _ hip
     have hx:a.eval X'=.pointer (some ⟨ι pi,pj * pt.size+offF pt pf,none⟩):=hx
     have hy:a.eval Y'=.pointer none:=hy
     have hg:(eqGuard op xt X' Y' (a.eval X') (a.eval Y')).run P w=.ok () w:=by rw [hx,eqGuard_at_pointer]; rfl
     simp only [cond_true] at h
     split at h
     · refine aaP I T G (adW ho hg (v:=.bool false) ?_) h rfl rfl
       rw [hx,hy]; exact run_eql_pointer_nil w xt _ hu
     · refine aaP I T G (adW ho hg (v:=.bool true) ?_) h rfl rfl
       rw [hx,hy]; exact run_neq_pointer_nil w xt _ hu
     · cases h
 · cases hip:Γ.isp xt <;> rw [hip] at h
   · cases h
   · have hu:=hΓ.isp _ hip
     have hx:a.eval X'=.pointer none:=hx
     have hy:a.eval Y'=.pointer none:=hy
     have hg:(eqGuard op xt X' Y' (a.eval X') (a.eval Y')).run P w=.ok () w:=by rw [hx,eqGuard_at_pointer]; rfl
     simp only [cond_true] at h
     split at h
     · refine aaP I T G (adW ho hg (v:=.bool true) ?_) h rfl rfl
       rw [hx,hy]; exact run_eql_pointer_nil w xt _ hu
     · refine aaP I T G (adW ho hg (v:=.bool false) ?_) h rfl rfl
       rw [hx,hy]; exact run_neq_pointer_nil w xt _ hu
     · cases h
 · cases h
end
end Go.Proofs.Ytgmeimbamfggkaa.Den
