import Derived.Test.YtgmeimbamfggkaaDen15
namespace Go.Proofs.Ytgmeimbamfggkaa.Den
open Go
section
variable {Γ : Env} {E:Table} {dr:Bool} {o:Oper}
theorem aEj {ρ:Type} (b:Bool) (K:St→Option ρ) (s:St) (d:Option Tmp) (v:TV):must b (K (s.put d v))=(must b (some v)).bind fun v=>K (s.put d v):=by cases b <;> rfl
theorem aGp (hrw:Γ.rw=false) {b:Bool} (hrr:(Γ.rr&&b)=false) {x y z:TV} (hz:nilQ b x y=some z) {s:St} {d:Option Tmp} {tx:Option Ty} {op:BinOp} {ρ:Type} {K:St→Option ρ}:nilK Γ s d tx op z K=none:=by
 unfold nilQ at hz
 split at hz
 · cases b with
   | false=>cases hz
   | true=>cases hz; show must Γ.rw _=none; rw [hrw]; rfl
 · cases b with
   | false=>cases hz
   | true=>cases hz; rw [Bool.and_true] at hrr; show must Γ.rr _=none; rw [hrr]; rfl
 · cases b with
   | false=>cases hz
   | true=>cases hz; show must Γ.rw _=none; rw [hrw]; rfl
 · cases hz
theorem op0 (hE:agd E) (hrw:Γ.rw=false) (hc:clsO Γ dr o=0) (s:St):∃ ov:Option TV,∀ s2,AgX o s s2→(∀ i,Γ.lo i=true→s2.S[i]?=s.S[i]?)→∀ (ρ:Type) (K:St→Option ρ),opK Γ E dr o s2 K=ov.bind fun v=>K (s2.put o.dst v):=by
 unfold clsO at hc
 cases ho:o.op <;> rw [ho] at hc <;> (try (simp [cls] at hc; done))
 case load n x =>
  have hle:o.dst.elim false Γ.le=true:=by
   cases h:o.dst.elim false Γ.le with
   | true=>rfl
   | false=>simp [h] at hc
  have nn:(∀ s2,AgX o s s2→(∀ i,Γ.lo i=true→s2.S[i]?=s.S[i]?)→∀ (ρ:Type) (K:St→Option ρ),opK Γ E dr o s2 K=none)→∃ ov:Option TV,∀ s2,AgX o s s2→(∀ i,Γ.lo i=true→s2.S[i]?=s.S[i]?)→∀ (ρ:Type) (K:St→Option ρ),opK Γ E dr o s2 K=ov.bind fun v=>K (s2.put o.dst v) :=
   fun h=>⟨none,h⟩
  cases hx:s.ev none x with
  | ep t v =>
    by_cases hn:Γ.ty n=some t
    · exact ⟨some (toTV t v),fun s2 h _ ρ K=>by simp only [opK,ho,h x (by simp [ho,Op.operands]),hx,if_pos hn]; rfl⟩
    · exact nn fun s2 h _ ρ K=>by simp only [opK,ho,h x (by simp [ho,Op.operands]),hx,if_neg hn]
  | ptr i p =>
    cases hq:Γ.lo i with
    | false=>exact nn fun s2 h _ ρ K=>by simp only [opK,ho,h x (by simp [ho,Op.operands]),hx,hle,hq]; rfl
    | true =>
      cases hs:s.S[i]? with
      | none=>exact nn fun s2 h hS ρ K=>by simp only [opK,ho,h x (by simp [ho,Op.operands]),hx,hle,hq,Bool.or_true,must,cond_true,hS i hq,hs]
      | some cs =>
        cases hp:plain cs with
        | false=>exact nn fun s2 h hS ρ K=>by simp only [opK,ho,h x (by simp [ho,Op.operands]),hx,hle,hq,Bool.or_true,must,cond_true,hS i hq,hs,hp]; rfl
        | true =>
          cases hv:axn Γ n (cs.drop p) with
          | none=>exact nn fun s2 h hS ρ K=>by simp only [opK,ho,h x (by simp [ho,Op.operands]),hx,hle,hq,Bool.or_true,must,cond_true,hS i hq,hs,hp,hv]; rfl
          | some v=>exact ⟨some v,fun s2 h hS ρ K=>by simp only [opK,ho,h x (by simp [ho,Op.operands]),hx,hle,hq,Bool.or_true,must,cond_true,hS i hq,hs,hp,hv]; rfl⟩
  | ref r i =>
    cases r with
    | pel t j f =>
      cases f with
      | some f =>
        cases t with
        | st b =>
          cases hq:Γ.lo i with
          | false=>exact nn fun s2 h _ ρ K=>by simp only [opK,ho,h x (by simp [ho,Op.operands]),hx,hle,hq]; rfl
          | true =>
          by_cases hn:Γ.ty n=(fldT b f).map Prod.fst
          · have hrow:∀ s2:St,(∀ i,Γ.lo i=true→s2.S[i]?=s.S[i]?)→acz s2.S (.st b) i=acz s.S (.st b) i:=fun s2 hS=>by unfold acz; rw [hS i hq]
            cases hr:acz s.S (.st b) i with
            | none=>exact nn fun s2 h hS ρ K=>by simp only [opK,ho,h x (by simp [ho,Op.operands]),hx,hle,hq,Bool.or_true,must,cond_true,if_pos hn,hrow s2 hS,hr]; rfl
            | some l =>
              cases hj:l[j]? with
              | none=>exact nn fun s2 h hS ρ K=>by simp only [opK,ho,h x (by simp [ho,Op.operands]),hx,hle,hq,Bool.or_true,must,cond_true,if_pos hn,hrow s2 hS,hr,Option.bind_some,hj]; rfl
              | some y =>
                cases hz:abS b f y with
                | none=>exact nn fun s2 h hS ρ K=>by simp only [opK,ho,h x (by simp [ho,Op.operands]),hx,hle,hq,Bool.or_true,must,cond_true,if_pos hn,hrow s2 hS,hr,Option.bind_some,hj,hz]; rfl
                | some z=>exact ⟨some z,fun s2 h hS ρ K=>by simp only [opK,ho,h x (by simp [ho,Op.operands]),hx,hle,hq,Bool.or_true,must,cond_true,if_pos hn,hrow s2 hS,hr,Option.bind_some,hj,hz]; rfl⟩
          · exact nn fun s2 h hS ρ K=>by simp only [opK,ho,h x (by simp [ho,Op.operands]),hx,hle,hq,Bool.or_true,must,cond_true,if_neg hn]
        | _=>exact nn fun s2 h hS ρ K=>by simp only [opK,ho,h x (by simp [ho,Op.operands]),hx]
      | none =>
        cases hq:Γ.lo i with
        | false=>exact nn fun s2 h _ ρ K=>by simp only [opK,ho,h x (by simp [ho,Op.operands]),hx,hle,hq]; rfl
        | true =>
        by_cases hn:Γ.ty n=some t
        · have hrow:∀ s2:St,(∀ i,Γ.lo i=true→s2.S[i]?=s.S[i]?)→acz s2.S t i=acz s.S t i:=fun s2 hS=>by unfold acz; rw [hS i hq]
          cases hr:acz s.S t i with
          | none=>exact nn fun s2 h hS ρ K=>by simp only [opK,ho,h x (by simp [ho,Op.operands]),hx,hle,hq,Bool.or_true,must,cond_true,if_pos hn,hrow s2 hS,hr]; rfl
          | some l =>
            cases hj:l[j]? with
            | none=>exact nn fun s2 h hS ρ K=>by simp only [opK,ho,h x (by simp [ho,Op.operands]),hx,hle,hq,Bool.or_true,must,cond_true,if_pos hn,hrow s2 hS,hr,Option.bind_some,hj]; rfl
            | some y=>exact ⟨some (toTV t y),fun s2 h hS ρ K=>by simp only [opK,ho,h x (by simp [ho,Op.operands]),hx,hle,hq,Bool.or_true,must,cond_true,if_pos hn,hrow s2 hS,hr,Option.bind_some,hj]⟩
        · exact nn fun s2 h hS ρ K=>by simp only [opK,ho,h x (by simp [ho,Op.operands]),hx,hle,hq,Bool.or_true,must,cond_true,if_neg hn]
    | _=>exact nn fun s2 h hS ρ K=>by simp only [opK,ho,h x (by simp [ho,Op.operands]),hx]
  | _=>exact nn fun s2 h hS ρ K=>by simp only [opK,ho,h x (by simp [ho,Op.operands]),hx]
 case move x =>
  refine ⟨some (s.ev (Γ.ty o.type) x),fun s2 h _ ρ K=>?_⟩
  have hx:=h x (by simp [ho,Op.operands])
  simp only [opK,ho,hx,kTV]; rfl
 case assign x =>
  cases hr:o.dst.elim 0 Γ.row with
  | zero =>
    refine ⟨some (s.ev (Γ.ty o.type) x),fun s2 h _ ρ K=>?_⟩
    have hx:=h x (by simp [ho,Op.operands])
    simp only [opK,ho,hx,kTV,hr]; rfl
  | succ m=>exact ⟨none,fun s2 h _ ρ K=>by simp only [opK,ho,hr,hrw]; rfl⟩
 case pick c x y =>
  refine ⟨match s.ev none c with
   | .bool b=>some (bif b then s.ev (Γ.ty o.type) x else s.ev (Γ.ty o.type) y)
   | _=>none,fun s2 h _ ρ K=>?_⟩
  have h1:=h c (by simp [ho,Op.operands])
  have h2:=h x (by simp [ho,Op.operands])
  have h3:=h y (by simp [ho,Op.operands])
  simp only [opK,ho,h1,h2,h3]
  cases s.ev none c <;> (try rfl)
  rename_i b
  cases b <;> rfl
 case binOp op xt x y yt =>
  have hrr:(Γ.rr&&avc y)=false:=by
   cases h:(Γ.rr&&avc y) with
   | false=>rfl
   | true=>simp [h] at hc
  cases hz:nilQ (avc y) (s.ev (Γ.ty xt) x) (s.ev (Γ.ty yt) y) with
  | some z =>
    refine ⟨none,fun s2 h _ ρ K=>?_⟩
    have h1:=h x (by simp [ho,Op.operands])
    have h2:=h y (by simp [ho,Op.operands])
    simp only [opK,ho,h1,h2,hz]
    exact aGp hrw hrr hz
  | none =>
  refine ⟨binK (Γ.ty xt) (Γ.isp xt) s1 (some 0) op (s.ev (Γ.ty xt) x) (s.ev (Γ.ty yt) y) fun s=>some (s.T 0),fun s2 h _ ρ K=>?_⟩
  have h1:=h x (by simp [ho,Op.operands])
  have h2:=h y (by simp [ho,Op.operands])
  simp only [opK,ho,h1,h2,hz]
  exact aDX _ _ _ _ _ _ _ _
 case unOp op n x =>
  refine ⟨match op,s.ev none x with
   | .not,.bool b=>some (.bool (!b))
   | .neg,.int k n=>some (.int k (wr k (0 - n)))
   | .xor,.int k n=>some (.int k (Go.bits .xor k (if k.signed then -1 else k.max) n))
   | _,_=>none,fun s2 h _ ρ K=>?_⟩
  have h1:=h x (by simp [ho,Op.operands])
  cases op <;> simp only [opK,ho,h1] <;> cases s.ev none x <;> rfl
 case nilCheck x =>
  refine ⟨match s.ev none x with
   | .ptr i p=>some (.ptr i p)
   | .ep t v=>some (.ep t v)
   | .ref (.pel t j f) i=>some (.ref (.pel t j f) i)
   | _=>none,fun s2 h _ ρ K=>?_⟩
  have h1:=h x (by simp [ho,Op.operands])
  simp only [opK,ho,h1]
  cases s.ev none x <;> (try rfl)
  rename_i r i
  cases r <;> rfl
 case fieldAddr n x f =>
  refine ⟨match s.ev none x with
   | .ptr i p=>(Γ.off n f).map fun q=>.ptr i (p+q)
   | .ep (.st b) v=>if Γ.ty n=some (.st b) then adK b f v else none
   | .ref (.pel (.st b) j none) i=>match Γ.off n f with
     | some q=>must (Nat.beq (offF (.st b) (some f)) q) (some (.ref (.pel (.st b) j (some f)) i))
     | none=>none
   | _=>none,fun s2 h _ ρ K=>?_⟩
  have h1:=h x (by simp [ho,Op.operands])
  simp only [opK,ho,h1]
  cases hx:s.ev none x with
  | ptr i p=>cases Γ.off n f <;> rfl
  | ref r i =>
    cases r with
    | pel t j g =>
      cases t <;> cases g <;> (try rfl)
      cases Γ.off n f with
      | none=>rfl
      | some q=>exact aEj _ _ _ _ _
    | _=>rfl
  | ep t v =>
    cases t <;> (try rfl)
    rename_i b
    show (if _ then _ else _)=(if _ then _ else _:Option TV).bind _
    split
    · unfold kTV; cases adK b f v <;> rfl
    · rfl
  | _=>rfl
 case field n x f =>
  refine ⟨match s.ev none x with
   | .st (.st b) v=>if Γ.ty n=some (.st b) then abS b f v else none
   | _=>none,fun s2 h _ ρ K=>?_⟩
  have h1:=h x (by simp [ho,Op.operands])
  simp only [opK,ho,h1]
  cases hx:s.ev none x with
  | st t v =>
    cases t <;> (try rfl)
    rename_i b
    show (if _ then _ else _)=(if _ then _ else _:Option TV).bind _
    split
    · unfold kTV; cases abS b f v <;> rfl
    · rfl
  | _=>rfl
 case indexAddr n x y =>
  have hrr:Γ.rr=false:=by
   cases h:Γ.rr with
   | false=>rfl
   | true=>simp [h] at hc
  refine ⟨match s.ev none x,s.ev none y with
   | .sl t _ _ l,.int _ j=>if Γ.ty n=some (.sl t) then (nth l j).map (epTV t) else none
   | .ptr i p,.int _ j=>match Γ.ar n with
     | some (b,m,_)=>arrK j (fun q=>(fldT b q).map fun td=>TV.ptr i (p+td.2)) 0 m
     | none=>none
   | .ref (.one t) i,.int _ j=>if Γ.ty n=some (.sl t) then must (beqI j 0) (some (.ptr i 0)) else none
   | _,_=>none,fun s2 h _ ρ K=>?_⟩
  have h1:=h x (by simp [ho,Op.operands])
  have h2:=h y (by simp [ho,Op.operands])
  simp only [opK,ho,h1,h2,hrr]
  cases hx:s.ev none x with
  | sl t f nl l =>
    cases hy:s.ev none y <;> (try rfl)
    rename_i k j
    show (if _ then _ else _)=(if _ then _ else _:Option TV).bind _
    split
    · cases nth l j <;> rfl
    · rfl
  | ref r i =>
    cases r <;> cases s.ev none y <;> (try rfl)
    rename_i t k j
    show (if _ then _ else _)=(if _ then _ else _:Option TV).bind _
    split
    · exact aEj _ _ _ _ _
    · rfl
  | ptr i p =>
    cases hy:s.ev none y <;> (try rfl)
    rename_i k j
    simp only []
    cases Γ.ar n with
    | none=>rfl
    | some bm =>
      obtain ⟨b,m,e⟩:=bm
      simp only [auX]
      congr 1
      funext q
      cases fldT b q <;> rfl
  | _=>rfl
 case index n x y =>
  refine ⟨match s.ev none x,s.ev none y with
   | .str l,.int _ j=>if Γ.ty n=some .str then (nth l j).map (TV.int .u8) else none
   | .st (.st b) v,.int _ j=>match Γ.ar n with
     | some (b',m,_)=>if b'=b then arrK j (fun q=>abS b q v) 0 m else none
     | none=>none
   | _,_=>none,fun s2 h _ ρ K=>?_⟩
  have h1:=h x (by simp [ho,Op.operands])
  have h2:=h y (by simp [ho,Op.operands])
  simp only [opK,ho,h1,h2]
  cases hx:s.ev none x with
  | str l =>
    cases hy:s.ev none y <;> (try rfl)
    rename_i k j
    show (if _ then _ else _)=(if _ then _ else _:Option TV).bind _
    split
    · cases nth l j <;> rfl
    · rfl
  | st t v =>
    cases t <;> (try rfl)
    rename_i b
    cases hy:s.ev none y <;> (try rfl)
    rename_i k j
    simp only []
    cases Γ.ar n with
    | none=>rfl
    | some bm =>
      obtain ⟨b',m,e⟩:=bm
      simp only []
      split
      · rw [auX]
        congr 1
        funext q
        unfold kTV
        cases abS b q v <;> rfl
      · rfl
  | _=>rfl
 case slice n x lo hi mx =>
  have hrr:Γ.rr=false:=by
   cases h:Γ.rr with
   | false=>rfl
   | true=>simp [h] at hc
  refine ⟨awl (Γ.ty n) s1 (some 0) (s.ev (Γ.ty n) x) (lo.map (s.ev none)) (hi.map (s.ev none)) (mx.map (s.ev none)) fun s=>some (s.T 0),fun s2 h _ ρ K=>?_⟩
  have href:∀ r i,s.ev (Γ.ty n) x=.ref r i→awl (Γ.ty n) s1 (some 0) (s.ev (Γ.ty n) x) (lo.map (s.ev none)) (hi.map (s.ev none)) (mx.map (s.ev none)) (fun s=>some (s.T 0))=none:=fun r i e=>by rw [e]; rfl
  have h1:=h x (by simp [ho,Op.operands])
  have h2:lo.map (s2.ev none)=lo.map (s.ev none):=by
   cases lo with
   | none=>rfl
   | some y=>exact congrArg some (h y (by simp [ho,Op.operands]) none)
  have h3:hi.map (s2.ev none)=hi.map (s.ev none):=by
   cases hi with
   | none=>rfl
   | some y=>exact congrArg some (h y (by simp [ho,Op.operands]) none)
  have h4:mx.map (s2.ev none)=mx.map (s.ev none):=by
   cases mx with
   | none=>rfl
   | some y=>exact congrArg some (h y (by simp [ho,Op.operands]) none)
  simp only [opK,ho,h1,h2,h3,h4,hrr]
  split
  · rename_i r i hr
    rw [href r i hr]
    split <;> rfl
  · exact aAN _ _ _ _ _ _ _ _
 case extract x i =>
  refine ⟨match s.ev none x with
   | .tup l=>l[i]?
   | _=>none,fun s2 h _ ρ K=>?_⟩
  have h1:=h x (by simp [ho,Op.operands])
  simp only [opK,ho,h1]
  cases s.ev none x <;> (try rfl)
  rename_i l
  show (match l[i]? with | some v=>_ | none=>_)=(l[i]?).bind _
  cases l[i]? <;> rfl
 case convert src dst x =>
  refine ⟨bif aHw (s.ev none x) then none else aB3 (s.ev none x) (Γ.ty src) (Γ.ty dst),fun s2 h _ ρ K=>?_⟩
  have h1:=h x (by simp [ho,Op.operands])
  simp only [opK,ho,h1,kTV,hrw]
  cases aHw (s.ev none x) with
  | true =>
    simp only [cond_true]
    split <;> rfl
  | false=>cases aB3 (s.ev none x) (Γ.ty src) (Γ.ty dst) <;> rfl
 case build n ps =>
  refine ⟨match Γ.ty n with
   | some (.st b)=>(bif Nat.beq (o.dst.elim 0 Γ.row) 3 then none else (akd s b ps.toList (zero b)).map (TV.st (.st b)))
   | _=>match Γ.ar n with
     | some (b,_,_)=>(akd s b ps.toList (zero b)).map (TV.st (.st b))
     | none=>none,fun s2 h _ ρ K=>?_⟩
  have h1:∀ p∈ps.toList,∀ t,s2.ev t p.2=s.ev t p.2:=fun p hp=>h p.2 (by
   simp only [ho,Op.operands,List.mem_toArray,List.mem_map]
   exact ⟨p,hp,rfl⟩)
  simp only [opK,ho]
  have ha:(match Γ.ar n with
        | some (b,_,_)=>match akd s2 b ps.toList (zero b) with
          | some x=>K (s2.put o.dst (.st (.st b) x))
          | none=>none
        | none=>none)=(match Γ.ar n with
        | some (b,_,_)=>(akd s b ps.toList (zero b)).map (TV.st (.st b))
        | none=>none).bind fun v=>K (s2.put o.dst v):=by
   cases Γ.ar n with
   | none=>rfl
   | some bm =>
     obtain ⟨b,m,e⟩:=bm
     simp only [aq7 b ps.toList _ h1]
     cases akd s b ps.toList (zero b) <;> rfl
  cases Γ.ty n with
  | none=>exact ha
  | some t =>
    cases t <;> (try exact ha)
    rename_i b
    simp only [aq7 b ps.toList _ h1,hrw]
    cases Nat.beq (o.dst.elim 0 Γ.row) 3
    · simp only [cond_false]
      cases akd s b ps.toList (zero b) <;> rfl
    · rfl
 case buildSlice n len ps =>
  refine ⟨match Γ.ty n with
   | some (.sl t)=>match aqw s t ps.toList (List.replicate len (zero t)) with
     | some l=>bif Nat.ble (len * t.size) 16777216 then (match o.dst.elim 0 Γ.row with | 0=>some (.sl t .full (some false) l) | _=>none) else none
     | none=>none
   | _=>none,fun s2 h _ ρ K=>?_⟩
  have h1:∀ p∈ps.toList,∀ t,s2.ev t p.2=s.ev t p.2:=fun p hp=>h p.2 (by
   simp only [ho,Op.operands,List.mem_toArray,List.mem_map]
   exact ⟨p,hp,rfl⟩)
  simp only [opK,ho,hrw]
  cases Γ.ty n with
  | none=>rfl
  | some t =>
    cases t <;> (try rfl)
    rename_i t
    simp only [axk t ps.toList _ h1]
    cases aqw s t ps.toList (List.replicate len (zero t)) with
    | none=>rfl
    | some l=>cases Nat.ble (len * t.size) 16777216 <;> cases o.dst.elim 0 Γ.row <;> rfl
 case makeFunc m first caps =>
  refine ⟨match m,first.toList with
   | .func f,[]=>some (.fn f (caps.toList.map (s.ev none)))
   | _,_=>none,fun s2 h _ ρ K=>?_⟩
  have h1:caps.toList.map (s2.ev none)=caps.toList.map (s.ev none):=List.map_congr_left fun x hx=>h x (by simp [ho,Op.operands,Array.mem_toList_iff.1 hx]) none
  cases m <;> simp only [opK,ho,h1] <;> (try rfl)
  cases first.toList <;> rfl
 case call c =>
  obtain ⟨callee,args,ns⟩:=c
  cases callee with
  | invoke r m=>simp [cls] at hc
  | value f =>
    cases dr with
    | false=>simp [cls] at hc
    | true =>
      cases hf:s.ev none f with
      | fn g caps =>
        cases hyb:Nat.blt g YB with
        | false =>
          refine ⟨none,fun s2 h _ ρ K=>?_⟩
          have h1:=h f (by simp [ho,Op.operands,Call.operands])
          simp only [opK,ho,aqO,h1,hf,hyb]; rfl
        | true =>
        cases hg:E.find g (s.evs Γ.ty args.toList ns.toList++tidy.go (fun _=>false) caps) with
        | none =>
          refine ⟨none,fun s2 h _ ρ K=>?_⟩
          have h1:=h f (by simp [ho,Op.operands,Call.operands])
          have h2:s2.evs Γ.ty args.toList ns.toList=s.evs Γ.ty args.toList ns.toList:=apr _ _ _ fun x hx=>h x (by simp [ho,Op.operands,Call.operands,Array.mem_toList_iff.1 hx])
          simp only [opK,ho,aqO,h1,hf,h2,hyb,must,cond_true,atS,hg]; rfl
        | some sp =>
          obtain ⟨ov,hov⟩:=aE2 hE hg (s.evs Γ.ty args.toList ns.toList++tidy.go (fun _=>false) caps) o.dst
          refine ⟨ov,fun s2 h _ ρ K=>?_⟩
          have h1:=h f (by simp [ho,Op.operands,Call.operands])
          have h2:s2.evs Γ.ty args.toList ns.toList=s.evs Γ.ty args.toList ns.toList:=apr _ _ _ fun x hx=>h x (by simp [ho,Op.operands,Call.operands,Array.mem_toList_iff.1 hx])
          simp only [opK,ho,aqO,h1,hf,h2,hyb,atS,hg,Bool.not_true,Bool.false_and,cond_false,cond_true,Bool.true_or,must]
          exact hov s2 ρ K
      | ref rf i =>
        refine ⟨none,fun s2 h _ ρ K=>?_⟩
        have h1:=h f (by simp [ho,Op.operands,Call.operands])
        cases rf <;> (simp only [opK,ho,aqO,h1,hf]; rfl)
      | _ =>
        refine ⟨none,fun s2 h _ ρ K=>?_⟩
        have h1:=h f (by simp [ho,Op.operands,Call.operands])
        simp only [opK,ho,aqO,h1,hf]; rfl
  | builtin b =>
    cases b <;> (try (simp [cls] at hc; done))
    case len =>
        have hrr:Γ.rr=false:=by
         cases h:Γ.rr with
         | false=>rfl
         | true=>simp [h] at hc
        refine ⟨match args.toList,ns.toList with
         | [x],[n]=>match s.ev none x with
           | .sl t _ _ l=>if Γ.ty n=some (.sl t) then some (.int .i64 (l.length:Int)) else none
           | .str l=>if Γ.ty n=some .str then some (.int .i64 (l.length:Int)) else none
           | .ref (.one t) _=>if Γ.ty n=some (.sl t) then some (.int .i64 1) else none
           | _=>none
         | _,_=>none,fun s2 h _ ρ K=>?_⟩
        have h1:∀ x∈args.toList,∀ t,s2.ev t x=s.ev t x:=fun x hx=>h x (by simp [ho,Op.operands,Call.operands,Array.mem_toList_iff.1 hx])
        simp only [opK,ho,hrr]
        rcases hl:args.toList with _ | ⟨x,_ | ⟨y,l⟩⟩ <;> rcases hn:ns.toList with _ | ⟨n,_ | ⟨m,l'⟩⟩ <;> (try rfl)
        have h2:=h1 x (by rw [hl]; simp)
        simp only [h2]
        cases s.ev none x <;> (try rfl) <;> (try (rename_i r i; cases r <;> (try rfl); show (if _ then _ else _)=(if _ then _ else _:Option TV).bind _; split <;> rfl; done))
        · rename_i l
          show (if _ then _ else _)=(if _ then _ else _:Option TV).bind _
          split <;> rfl
        · rename_i t f nl l
          show (if _ then _ else _)=(if _ then _ else _:Option TV).bind _
          split <;> rfl
    case min =>
        refine ⟨match args.toList with
         | [x,y]=>match s.ev none x,s.ev none y with
           | .int k a,.int k' b=>if k=k' then some (.int k (mnI a b)) else none
           | _,_=>none
         | _=>none,fun s2 h _ ρ K=>?_⟩
        have h1:∀ x∈args.toList,∀ t,s2.ev t x=s.ev t x:=fun x hx=>h x (by simp [ho,Op.operands,Call.operands,Array.mem_toList_iff.1 hx])
        simp only [opK,ho]
        rcases hl:args.toList with _ | ⟨x,_ | ⟨y,_ | ⟨z,l⟩⟩⟩ <;> (try rfl)
        have h2:=h1 x (by rw [hl]; simp)
        have h3:=h1 y (by rw [hl]; simp)
        simp only [h2,h3]
        cases s.ev none x <;> (try rfl)
        cases s.ev none y <;> (try rfl)
        show (if _ then _ else _)=(if _ then _ else _:Option TV).bind _
        split <;> rfl
    case max =>
        refine ⟨match args.toList with
         | [x,y]=>match s.ev none x,s.ev none y with
           | .int k a,.int k' b=>if k=k' then some (.int k (mxI a b)) else none
           | _,_=>none
         | _=>none,fun s2 h _ ρ K=>?_⟩
        have h1:∀ x∈args.toList,∀ t,s2.ev t x=s.ev t x:=fun x hx=>h x (by simp [ho,Op.operands,Call.operands,Array.mem_toList_iff.1 hx])
        simp only [opK,ho]
        rcases hl:args.toList with _ | ⟨x,_ | ⟨y,_ | ⟨z,l⟩⟩⟩ <;> (try rfl)
        have h2:=h1 x (by rw [hl]; simp)
        have h3:=h1 y (by rw [hl]; simp)
        simp only [h2,h3]
        cases s.ev none x <;> (try rfl)
        cases s.ev none y <;> (try rfl)
        show (if _ then _ else _)=(if _ then _ else _:Option TV).bind _
        split <;> rfl
def Rd (Γ:Env) (E:Table) (dr:Bool) (o:Oper) (s:St):Prop :=
 (∃ ov:Option TV,∀ s2,AgX o s s2→∀ (ρ:Type) (K:St→Option ρ),opK Γ E dr o s2 K=ov.bind fun v=>K (s2.put o.dst v)) ∨
 (∃ (t:Ty) (i:Nat) (g:List t.D→Option TV),∀ s2,AgX o s s2→∀ (ρ:Type) (K:St→Option ρ),opK Γ E dr o s2 K=(acz s2.S t i).bind fun l=>(g l).bind fun v=>K (s2.put o.dst v)) ∨
 ∃ (i:Nat) (g:Obj→Option TV),∀ s2,AgX o s s2→∀ (ρ:Type) (K:St→Option ρ),opK Γ E dr o s2 K=(s2.S[i]?).bind fun l=>(g l).bind fun v=>K (s2.put o.dst v)
theorem Rd.free {s:St} (h:Rd Γ E dr o s):∃ ov:Option TV,∀ s2,AgX o s s2→s2.S=s.S→∀ (ρ:Type) (K:St→Option ρ),opK Γ E dr o s2 K=ov.bind fun v=>K (s2.put o.dst v):=by
 rcases h with ⟨ov,h⟩ | ⟨t,i,g,h⟩ | ⟨i,g,h⟩
 · exact ⟨ov,fun s2 ha _ ρ K=>h s2 ha ρ K⟩
 · refine ⟨(acz s.S t i).bind g,fun s2 ha hS ρ K=>?_⟩
   rw [h s2 ha,hS,Option.bind_assoc]
 · refine ⟨(s.S[i]?).bind g,fun s2 ha hS ρ K=>?_⟩
   rw [h s2 ha,hS,Option.bind_assoc]
theorem aFd (S:List Obj) (kt vt:Ty) (g:Nat):aub S kt vt g=(S[g]?).bind fun cs=>aub [cs] kt vt 0:=by
 unfold aub
 cases S[g]? <;> rfl
theorem aCE {n:TypeId} {x i:Operand} {ok:Bool} (ho:o.op=.lookup n x i ok) (s:St):Rd Γ E dr o s:=by
 have nn:(∀ s2,AgX o s s2→∀ (ρ:Type) (K:St→Option ρ),opK Γ E dr o s2 K=none)→Rd Γ E dr o s:=fun h=>.inl ⟨none,h⟩
 cases hn:Γ.mt n with
 | none=>exact nn fun s2 h ρ K=>by simp only [opK,ho,hn]
 | some q =>
   obtain ⟨kt,vt,k,e⟩:=q
   cases hx:s.ev none x with
   | ref r g =>
     cases r with
     | mp k1 v1 =>
       refine .inr (.inr ⟨g,fun cs=>(aub [cs] kt vt 0).bind fun l=>(ofTV kt (s.ev (some kt) i)).map fun y=>aI5 vt ok (ab_ kt l y),fun s2 h ρ K=>?_⟩)
       simp only [opK,ho,hn,h x (by simp [ho,Op.operands]),h i (by simp [ho,Op.operands]),hx]
       rw [aFd,Option.bind_assoc]
       congr 1
       funext cs
       cases aub [cs] kt vt 0 <;> (try rfl)
       simp only [Option.bind_some]
       cases ofTV kt (s.ev (some kt) i) <;> rfl
     | _=>exact nn fun s2 h ρ K=>by simp only [opK,ho,hn,h x (by simp [ho,Op.operands]),hx]
   | _=>exact nn fun s2 h ρ K=>by simp only [opK,ho,hn,h x (by simp [ho,Op.operands]),hx]
theorem aJa (hrw:Γ.rw=false) (tx:Option Ty) (op:BinOp) (d:Option Tmp) (z:TV):(∀ (s:St) (ρ:Type) (K:St→Option ρ),nilK Γ s d tx op z K=none) ∨
 ∃ (t:Ty) (i:Nat) (g:List t.D→Option TV),∀ (s:St) (ρ:Type) (K:St→Option ρ),nilK Γ s d tx op z K=(acz s.S t i).bind fun l=>(g l).bind fun v=>K (s.put d v):=by
 cases z with
 | sl t f nl l=>exact .inl fun s ρ K=>by show must Γ.rw _=none; rw [hrw]; rfl
 | ref r i =>
   cases r with
   | asl t =>
     cases hrr:Γ.rr with
     | false=>exact .inl fun s ρ K=>by show must Γ.rr _=none; rw [hrr]; rfl
     | true =>
       by_cases ht:tx=some (.sl t)
       · refine .inr ⟨t,i,fun l=>must (!l.isEmpty) (match op with | .eql=>some (.bool false) | .neq=>some (.bool true) | _=>none),fun s ρ K=>?_⟩
         show must Γ.rr (if tx=some (.sl t) then _ else none)=_
         rw [hrr,if_pos ht]
         show (acz s.S t i).bind _=_
         congr 1
         funext l
         show must (!l.isEmpty) _=(must (!l.isEmpty) _).bind _
         cases l.isEmpty <;> cases op <;> rfl
       · exact .inl fun s ρ K=>by show must Γ.rr (if tx=some (.sl t) then _ else none)=none; rw [hrr,if_neg ht]; rfl
   | asv t a n=>exact .inl fun s ρ K=>by show must Γ.rw _=none; rw [hrw]; rfl
   | _=>exact .inl fun s ρ K=>rfl
 | _=>exact .inl fun s ρ K=>rfl
theorem aIy (hrw:Γ.rw=false) {op:BinOp} {xt yt:TypeId} {x y:Operand} (ho:o.op=.binOp op xt x y yt) (s:St):Rd Γ E dr o s:=by
 have h1:∀ s2,AgX o s s2→∀ t,s2.ev t x=s.ev t x:=fun s2 h=>h x (by simp [ho,Op.operands])
 have h2:∀ s2,AgX o s s2→∀ t,s2.ev t y=s.ev t y:=fun s2 h=>h y (by simp [ho,Op.operands])
 cases hz:nilQ (avc y) (s.ev (Γ.ty xt) x) (s.ev (Γ.ty yt) y) with
 | none=>exact .inl ⟨binK (Γ.ty xt) (Γ.isp xt) s1 (some 0) op (s.ev (Γ.ty xt) x) (s.ev (Γ.ty yt) y) fun s=>some (s.T 0),fun s2 h ρ K=>by
  simp only [opK,ho,h1 s2 h,h2 s2 h,hz]
  exact aDX _ _ _ _ _ _ _ _⟩
 | some z =>
   rcases aJa hrw (Γ.ty xt) op o.dst z with h | ⟨t,i,g,h⟩
   · exact .inl ⟨none,fun s2 ha ρ K=>by simp only [opK,ho,h1 s2 ha,h2 s2 ha,hz]; exact h s2 ρ K⟩
   · exact .inr<|.inl ⟨t,i,g,fun s2 ha ρ K=>by simp only [opK,ho,h1 s2 ha,h2 s2 ha,hz]; exact h s2 ρ K⟩
theorem aIx (hrr:Γ.rr=true) {args:Array Operand} {ns:Array TypeId} (ho:o.op=.call { callee:=.builtin .len,args:=args,argTypes:=ns }) (s:St):Rd Γ E dr o s:=by
 have h1:∀ s2,AgX o s s2→∀ x∈args.toList,∀ t,s2.ev t x=s.ev t x:=fun s2 h x hx=>h x (by simp [ho,Op.operands,Call.operands,Array.mem_toList_iff.1 hx])
 have nn:(∀ s2,AgX o s s2→∀ (ρ:Type) (K:St→Option ρ),opK Γ E dr o s2 K=none)→Rd Γ E dr o s:=fun h=>.inl ⟨none,h⟩
 rcases hl:args.toList with _ | ⟨x,_ | ⟨y,l⟩⟩
 · exact nn fun s2 h ρ K=>by simp only [opK,ho,hl]
 · rcases hn:ns.toList with _ | ⟨n,_ | ⟨m,l'⟩⟩
   · exact nn fun s2 h ρ K=>by simp only [opK,ho,hl,hn]
   · have h2:∀ s2,AgX o s s2→s2.ev none x=s.ev none x:=fun s2 h=>h1 s2 h x (by rw [hl]; simp) none
     cases hx:s.ev none x with
     | sl t f nl l =>
       by_cases ht:Γ.ty n=some (.sl t)
       · exact .inl ⟨some (.int .i64 (l.length:Int)),fun s2 h ρ K=>by simp only [opK,ho,hl,hn,h2 s2 h,hx,if_pos ht]; rfl⟩
       · exact nn fun s2 h ρ K=>by simp only [opK,ho,hl,hn,h2 s2 h,hx,if_neg ht]
     | str l =>
       by_cases ht:Γ.ty n=some .str
       · exact .inl ⟨some (.int .i64 (l.length:Int)),fun s2 h ρ K=>by simp only [opK,ho,hl,hn,h2 s2 h,hx,if_pos ht]; rfl⟩
       · exact nn fun s2 h ρ K=>by simp only [opK,ho,hl,hn,h2 s2 h,hx,if_neg ht]
     | ref r i =>
       cases r with
       | asl t =>
         by_cases ht:Γ.ty n=some (.sl t)
         · exact .inr<|.inl ⟨t,i,fun l=>some (.int .i64 (l.length:Int)),fun s2 h ρ K=>by simp only [opK,ho,hl,hn,h2 s2 h,hx,if_pos ht,hrr,must,cond_true,Option.bind_some]⟩
         · exact nn fun s2 h ρ K=>by simp only [opK,ho,hl,hn,h2 s2 h,hx,if_neg ht,hrr,must,cond_true]
       | asv t p m =>
         by_cases ht:Γ.ty n=some (.sl t)
         · exact .inr<|.inl ⟨t,i,fun _=>some (.int .i64 (m:Int)),fun s2 h ρ K=>by simp only [opK,ho,hl,hn,h2 s2 h,hx,if_pos ht,hrr,must,cond_true,Option.bind_some]⟩
         · exact nn fun s2 h ρ K=>by simp only [opK,ho,hl,hn,h2 s2 h,hx,if_neg ht,hrr,must,cond_true]
       | one t =>
         by_cases ht:Γ.ty n=some (.sl t)
         · exact .inl ⟨some (.int .i64 1),fun s2 h ρ K=>by simp only [opK,ho,hl,hn,h2 s2 h,hx,if_pos ht]; rfl⟩
         · exact nn fun s2 h ρ K=>by simp only [opK,ho,hl,hn,h2 s2 h,hx,if_neg ht]
       | _=>exact nn fun s2 h ρ K=>by simp only [opK,ho,hl,hn,h2 s2 h,hx]
     | _=>exact nn fun s2 h ρ K=>by simp only [opK,ho,hl,hn,h2 s2 h,hx]
   · exact nn fun s2 h ρ K=>by simp only [opK,ho,hl,hn]
 · exact nn fun s2 h ρ K=>by simp only [opK,ho,hl]
theorem aqh {b:Bool} {v:TV} {s:St} {d:Option Tmp} {ρ:Type} (K:St→Option ρ):must b (K (s.put d v))=(must b (some v)).bind fun v=>K (s.put d v):=by cases b <;> rfl
theorem aEw (hrr:Γ.rr=true) {n:TypeId} {x y:Operand} (ho:o.op=.indexAddr n x y) (s:St):Rd Γ E dr o s:=by
 have nn:(∀ s2,AgX o s s2→∀ (ρ:Type) (K:St→Option ρ),opK Γ E dr o s2 K=none)→Rd Γ E dr o s:=fun h=>.inl ⟨none,h⟩
 have h1:∀ s2,AgX o s s2→s2.ev none x=s.ev none x:=fun s2 h=>h x (by simp [ho,Op.operands]) none
 have h2:∀ s2,AgX o s s2→s2.ev none y=s.ev none y:=fun s2 h=>h y (by simp [ho,Op.operands]) none
 cases hx:s.ev none x with
 | sl t f nl l =>
   cases hy:s.ev none y with
   | int k j =>
     by_cases ht:Γ.ty n=some (.sl t)
     · refine .inl ⟨(nth l j).map (epTV t),fun s2 h ρ K=>?_⟩
       simp only [opK,ho,h1 s2 h,h2 s2 h,hx,hy,if_pos ht]
       cases nth l j <;> rfl
     · exact nn fun s2 h ρ K=>by simp only [opK,ho,h1 s2 h,h2 s2 h,hx,hy,if_neg ht]
   | _=>exact nn fun s2 h ρ K=>by simp only [opK,ho,h1 s2 h,h2 s2 h,hx,hy]
 | ref r i =>
   cases hy:s.ev none y with
   | int k j =>
     cases r with
     | asl t =>
       by_cases ht:Γ.ty n=some (.sl t)
       · refine .inr<|.inl ⟨t,i,fun l=>must (inI j l.length) (some (.ref (.pel t j.toNat none) i)),fun s2 h ρ K=>?_⟩
         simp only [opK,ho,h1 s2 h,h2 s2 h,hx,hy,if_pos ht,hrr]
         show (acz s2.S t i).bind _=_
         congr 1
         funext l
         exact aqh K
       · exact nn fun s2 h ρ K=>by simp only [opK,ho,h1 s2 h,h2 s2 h,hx,hy,if_neg ht,hrr,must,cond_true]
     | asv t p m =>
       by_cases ht:Γ.ty n=some (.sl t)
       · refine .inr<|.inl ⟨t,i,fun l=>must (inI j m) (some (.ref (.pel t (p+j.toNat) none) i)),fun s2 h ρ K=>?_⟩
         simp only [opK,ho,h1 s2 h,h2 s2 h,hx,hy,if_pos ht,hrr]
         show (acz s2.S t i).bind _=_
         congr 1
         funext l
         exact aqh K
       · exact nn fun s2 h ρ K=>by simp only [opK,ho,h1 s2 h,h2 s2 h,hx,hy,if_neg ht,hrr,must,cond_true]
     | one t =>
       by_cases ht:Γ.ty n=some (.sl t)
       · refine .inl ⟨must (beqI j 0) (some (.ptr i 0)),fun s2 h ρ K=>?_⟩
         simp only [opK,ho,h1 s2 h,h2 s2 h,hx,hy,if_pos ht]
         exact aqh K
       · exact nn fun s2 h ρ K=>by simp only [opK,ho,h1 s2 h,h2 s2 h,hx,hy,if_neg ht]
     | _=>exact nn fun s2 h ρ K=>by simp only [opK,ho,h1 s2 h,h2 s2 h,hx,hy]
   | _=>exact nn fun s2 h ρ K=>by cases r <;> simp only [opK,ho,h1 s2 h,h2 s2 h,hx,hy]
 | ptr i p =>
   cases hy:s.ev none y with
   | int k j =>
     cases ha:Γ.ar n with
     | none=>exact nn fun s2 h ρ K=>by simp only [opK,ho,h1 s2 h,h2 s2 h,hx,hy,ha]
     | some bm =>
       obtain ⟨b,m,e⟩:=bm
       refine .inl ⟨arrK j (fun q=>(fldT b q).map fun td=>TV.ptr i (p+td.2)) 0 m,fun s2 h ρ K=>?_⟩
       simp only [opK,ho,h1 s2 h,h2 s2 h,hx,hy,ha,auX]
       congr 1
       funext q
       cases fldT b q <;> rfl
   | _=>exact nn fun s2 h ρ K=>by simp only [opK,ho,h1 s2 h,h2 s2 h,hx,hy]
 | _=>exact nn fun s2 h ρ K=>by simp only [opK,ho,h1 s2 h,h2 s2 h,hx]
theorem aFs (t:Ty) (r:Rf) (i:Nat) (lo:TV) (hi mx:Option TV):(∃ ov:Option TV,∀ (s:St) (d:Option Tmp) (ρ:Type) (K:St→Option ρ),aqJ s d t r i lo hi mx K=ov.bind fun v=>K (s.put d v)) ∨
 ∃ (g:List t.D→Option TV),∀ (s:St) (d:Option Tmp) (ρ:Type) (K:St→Option ρ),aqJ s d t r i lo hi mx K=(acz s.S t i).bind fun l=>(g l).bind fun v=>K (s.put d v):=by
 cases r with
 | asl t' =>
   cases lo with
   | int k a =>
     by_cases ht:t'=t
     · refine .inr ⟨fun l=>match hi,mx with
         | none,none=>must (inC a l.length l.length) (some (.ref (.asv t a.toNat (l.length - a.toNat)) i))
         | some (.int _ b),none=>must (inC a b l.length) (some (.ref (.asv t a.toNat (b.toNat - a.toNat)) i))
         | _,_=>none,fun s d ρ K=>?_⟩
       simp only [aqJ,if_pos ht]
       congr 1
       funext l
       rcases hi with _ | hi
       · rcases mx with _ | mx
         · exact aqh K
         · rfl
       · cases hi <;> rcases mx with _ | mx <;> first | exact aqh K | rfl
     · exact .inl ⟨none,fun s d ρ K=>by simp only [aqJ,if_neg ht]; rfl⟩
   | _=>exact .inl ⟨none,fun s d ρ K=>by simp only [aqJ]; rfl⟩
 | asv t' p n =>
   cases lo with
   | int k a =>
     by_cases ht:t'=t
     · refine .inr ⟨fun l=>match hi,mx with
         | none,none=>must (inC a n n) (some (.ref (.asv t (p+a.toNat) (n - a.toNat)) i))
         | some (.int _ b),none=>must (inC a b n) (some (.ref (.asv t (p+a.toNat) (b.toNat - a.toNat)) i))
         | _,_=>none,fun s d ρ K=>?_⟩
       simp only [aqJ,if_pos ht]
       congr 1
       funext l
       rcases hi with _ | hi
       · rcases mx with _ | mx
         · exact aqh K
         · rfl
       · cases hi <;> rcases mx with _ | mx <;> first | exact aqh K | rfl
     · exact .inl ⟨none,fun s d ρ K=>by simp only [aqJ,if_neg ht]; rfl⟩
   | _=>exact .inl ⟨none,fun s d ρ K=>by simp only [aqJ]; rfl⟩
 | _=>exact .inl ⟨none,fun s d ρ K=>by simp only [aqJ]; rfl⟩
theorem aEx (hrr:Γ.rr=true) {n:TypeId} {x:Operand} {lo hi mx:Option Operand} (ho:o.op=.slice n x lo hi mx) (s:St):Rd Γ E dr o s:=by
 have h1:∀ s2,AgX o s s2→s2.ev (Γ.ty n) x=s.ev (Γ.ty n) x:=fun s2 h=>h x (by simp [ho,Op.operands]) _
 have h2:∀ s2,AgX o s s2→lo.map (s2.ev none)=lo.map (s.ev none):=fun s2 h=>by
  cases lo with
  | none=>rfl
  | some y=>exact congrArg some (h y (by simp [ho,Op.operands]) none)
 have h3:∀ s2,AgX o s s2→hi.map (s2.ev none)=hi.map (s.ev none):=fun s2 h=>by
  cases hi with
  | none=>rfl
  | some y=>exact congrArg some (h y (by simp [ho,Op.operands]) none)
 have h4:∀ s2,AgX o s s2→mx.map (s2.ev none)=mx.map (s.ev none):=fun s2 h=>by
  cases mx with
  | none=>rfl
  | some y=>exact congrArg some (h y (by simp [ho,Op.operands]) none)
 by_cases hr:∃ r i,s.ev (Γ.ty n) x=.ref r i
 · obtain ⟨r,i,hr⟩:=hr
   by_cases ht:∃ t,Γ.ty n=some (.sl t)
   · obtain ⟨t,ht⟩:=ht
     rw [ht] at hr
     have h1:∀ s2,AgX o s s2→s2.ev (some (.sl t)) x=.ref r i:=fun s2 h=>by rw [← ht,h1 s2 h,ht]; exact hr
     rcases aFs t r i ((lo.map (s.ev none)).getD (.int .i64 0)) (hi.map (s.ev none)) (mx.map (s.ev none)) with ⟨ov,h⟩ | ⟨g,h⟩
     · exact .inl ⟨ov,fun s2 ha ρ K=>by simp only [opK,ho,ht,h1 s2 ha,h2 s2 ha,h3 s2 ha,h4 s2 ha,hrr,must,cond_true]; exact h s2 _ ρ K⟩
     · exact .inr<|.inl ⟨t,i,g,fun s2 ha ρ K=>by simp only [opK,ho,ht,h1 s2 ha,h2 s2 ha,h3 s2 ha,h4 s2 ha,hrr,must,cond_true]; exact h s2 _ ρ K⟩
   · refine .inl ⟨none,fun s2 ha ρ K=>?_⟩
     simp only [opK,ho,h1 s2 ha,hr]
     split
     · rename_i t e; exact absurd ⟨t,e⟩ ht
     · rfl
 · refine .inl ⟨awl (Γ.ty n) s1 (some 0) (s.ev (Γ.ty n) x) (lo.map (s.ev none)) (hi.map (s.ev none)) (mx.map (s.ev none)) fun s=>some (s.T 0),fun s2 ha ρ K=>?_⟩
   simp only [opK,ho,h1 s2 ha,h2 s2 ha,h3 s2 ha,h4 s2 ha]
   split
   · rename_i r i e; exact absurd ⟨r,i,e⟩ hr
   · exact aAN _ _ _ _ _ _ _ _
end
end Go.Proofs.Ytgmeimbamfggkaa.Den
