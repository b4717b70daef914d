import Derived.Test.YtgmeimbamfggkaaDen34
import Derived.SizedLaws
namespace Go.Proofs.Ytgmeimbamfggkaa.Den
open Go
def aJX : Ty→Bool
 | .int .u8=>true
 | _=>false
def szG (W:Ex→Prop):(t:Ty)→t.D→Prop
 | .str,l=>List.length l≤reachBytes
 | .sl t,l=>(aJX t=true→List.length l≤reachBytes)∧∀ x:t.D,List.Mem x l→szG W t x
 | .st b,x=>szG W b x
 | .pair a b,x=>szG W a x.1∧szG W b x.2
 | .ex,x=>W x
 | _,_=>True
mutual
def szE : Ex→Prop
 | .mk _ b c _ e f=>List.length b≤reachBytes∧List.length c≤reachBytes∧List.length e.2.2.1≤reachBytes∧szEs f
def szEs : List Ex→Prop
 | []=>True
 | x :: l=>szE x∧szEs l
end
def szD (t:Ty) (x:t.D):Prop:=szG szE t x
theorem aEO : ∀ {l:List Ex},szEs l↔∀ x,List.Mem x l→szE x
 | []=>⟨fun _ x h=>(by cases h),fun _=>by unfold szEs; trivial⟩
 | x :: l=>by
   unfold szEs
   rw [aEO (l:=l)]
   constructor
   · rintro ⟨h1,h2⟩ y hy
     cases hy with
     | head=>exact h1
     | tail _ h=>exact h2 y h
   · intro h
     exact ⟨h x (.head _),fun y hy=>h y (.tail _ hy)⟩
theorem aKk {x:ExD} (h:szD (.st exB) x):szE (Ex.re x):=by
 unfold Ex.re szE
 rw [aEO]
 obtain ⟨h1,h2,h3,h4,⟨h5,h6,h7,_⟩,⟨_,h9⟩,_⟩:=h
 exact ⟨h2,h3,h7,h9⟩
section
variable {H : Type} {enc:TypeId×Value→H} {P:Program} {w:World} {base:Nat} {spare:Nat→Bool} {held:Bool}
theorem asr {e:TypeId}:∀ {ds:List (DataW H)} {d:DataW H},d∈ds→∀ n∈d.weights P e,n∈DataW.weightsAll P e ds
 | d0 :: ds,d,hd,n,hn=>by
   simp only [DataW.weightsAll,List.mem_append]
   rcases List.mem_cons.1 hd with rfl | hd
   · exact .inl hn
   · exact .inr (asr hd n hn)
mutual
theorem aBk (hb:∀ e,P.underlying e=some (.int .u8)→1≤P.bytesOf e) (F:Nat) (hF:∀ fuel,fuel < F→∀ (n:TypeId) (cs:List Value) (x:DataW H×List MemPlace),tyOk P .ex n=true→DataW.trod enc P w base spare held fuel n cs=some x→(∀ m∈x.1.weights P n,m≤reachBytes)→∃ y:Ex,rep (snap w) .ex cs y∧szE y):∀ (t:Ty) (n:TypeId) (fuel:Nat) (cs:List Value) (x:DataW H×List MemPlace),fuel < F→t.noOp=true→tyOk P t n=true→DataW.trod enc P w base spare held fuel n cs=some x→(∀ m∈x.1.weights P n,m≤reachBytes)→∃ y:t.D,rep (snap w) t cs y∧szD t y
 | .ex,n,fuel,cs,x,hlt,_,ht,h,hz=>hF fuel hlt n cs x ht h hz
 | .op _,_,_,_,_,_,hn,_,_,_=>by cases hn
 | .bool,n,fuel,cs,x,_,_,ht,h,_=>by
   obtain ⟨b,rfl,_⟩:=DataW.trod_bool (alY ht) h
   exact ⟨b,rfl,trivial⟩
 | .int k,n,fuel,cs,x,_,_,ht,h,_=>by
   obtain ⟨m,rfl,_,hw⟩:=DataW.trod_int (aj_ ht) h
   exact ⟨m,⟨rfl,hw⟩,trivial⟩
 | .str,n,fuel,cs,x,_,_,ht,h,hz=>by
   obtain ⟨s,rfl,rfl,hs⟩:=DataW.trod_string (ag4 ht) h
   refine ⟨aaz s,⟨s,rfl,rfl,hs⟩,?_⟩
   have:=hz s.data.toList.length (by simp [DataW.weights])
   show (aaz s).length≤reachBytes
   unfold aaz
   rw [List.length_map]; exact this
 | .sl t,n,fuel,cs,x,hlt,hn,ht,h,hz=>by
   obtain ⟨e,hu,he⟩:=agb ht
   obtain ⟨hc,hpos⟩:=aju he
   rcases DataW.trod_slice hu h with ⟨rfl,_⟩ | ⟨a,len,cap,elems,rest,m,hfm,rfl,hxe,_,hl,hm,hlen,hel,_,_⟩
   · exact ⟨[],⟨none,0,rfl,Nat.le_refl _,Nat.zero_le _,fun _=>rfl,fun h=>absurd rfl h⟩,fun _=>Nat.zero_le _,fun x hx=>by cases hx⟩
   · have hw:x.1.weights P n=((elems.map (·.1)).length+(rest.map (·.1)).length) * P.bytesOf e :: (DataW.weightsAll P e (elems.map (·.1))++DataW.weightsAll P e (rest.map (·.1))):=by
       rw [hxe]; simp only [DataW.weights,hu]
     rw [hw] at hz
     have each:∀ i,i < len→∃ y:t.D,szD t y∧∃ vs:List Value,w.cells? base (a.add (i * t.size)) t.size=some vs∧rep (snap w) t vs y:=by
       intro i hi
       have h1:=hel i hi
       rw [hc,List.getElem?_eq_getElem (show i < elems.length by omega),Option.bind_eq_some_iff] at h1
       obtain ⟨vs,h2,h3⟩:=h1
       obtain ⟨y,hy,hs⟩:=aBk hb F hF t e m vs _ (by omega) hn he h3 fun k hk=>hz k (List.mem_cons_of_mem _ (List.mem_append_left _ (asr (List.mem_map_of_mem (List.getElem_mem _)) k hk)))
       exact ⟨y,hs,vs,h2,hy⟩
     obtain ⟨l,l1,l2'⟩:=atT len each
     have l2:∀ (i:Nat) (x:t.D),l[i]?=some x→∃ vs:List Value,w.cells? base (a.add (i * t.size)) t.size=some vs∧rep (snap w) t vs x:=fun i x hx=>(l2' i x hx).2
     refine ⟨l,⟨some a,cap,by rw [show List.length l=len from l1],by rw [show List.length l=len from l1]; exact hl,hm,nofun,fun hne=>?_⟩,fun h8=>?_,fun x hx=>?_⟩
     · have hpl:0 < l.length:=by
        cases l with
        | nil=>exact absurd rfl hne
        | cons _ _=>simp
       obtain ⟨vs0,k1,k2⟩:=l2 0 l[0] (List.getElem?_eq_getElem hpl)
       obtain ⟨_,q1,q2⟩:=World.cells?_some k1
       have hsp:a.spot=none:=by
        have:=q2 0 hpos
        rw [List.getElem?_eq_getElem (show 0 < vs0.length by omega),Nat.zero_mul] at this
        unfold Addr.add World.cell? at this
        rw [if_pos rfl,if_pos rfl] at this
        split at this
        · cases hs:a.spot with
          | none=>rfl
          | some s=>simp [hs] at this
        · cases this
       obtain ⟨b,p,sp⟩:=a
       simp only at hsp
       subst hsp
       refine ⟨b,p,rfl,fun i y hi=>?_⟩
       obtain ⟨vs,e1,e2⟩:=l2 i y hi
       obtain ⟨_,r1,r2⟩:=World.cells?_some e1
       refine ⟨vs,r1,e2,fun j v hj=>?_⟩
       have hlt:j < t.size:=by rw [← r1]; exact (List.getElem?_eq_some_iff.1 hj).1
       have:=r2 j hlt
       rw [hj,agp,agp] at this
       exact this
     · show List.length l≤reachBytes
       have ht8:t=.int .u8:=by
        unfold aJX at h8
        split at h8
        · rfl
        · cases h8
       subst ht8
       have h1:=hb e (aj_ he)
       have h2:=hz _ List.mem_cons_self
       rw [show List.length l=len from l1]
       rw [List.length_map,hlen] at h2
       have:len * 1≤(len+(rest.map (·.1)).length) * P.bytesOf e:=Nat.mul_le_mul (Nat.le_add_right _ _) h1
       omega
     · obtain ⟨i,hi⟩:=List.getElem?_of_mem (show @Membership.mem t.D (List t.D) _ l x from hx)
       exact (l2' i x hi).1
 | .st b,n,fuel,cs,x,hlt,hn,ht,h,hz=>by
   obtain ⟨fs,hu,hf,_⟩:=ak7 ht
   obtain ⟨xs,m,hfm,hxe,hl,hx,hi⟩:=DataW.trod_struct hu h
   have hsz:cs.length=(Ty.st b).size:=by rw [hl]; exact (aju ht).1
   have hw:x.1.weights P n=DataW.weightsEach P (fs.toList.map (·.type)) (xs.map (·.1)):=by
    rw [hxe]; simp only [DataW.weights,hu]
   rw [hw] at hz
   obtain ⟨y,hy,hs⟩:=aBl hb F hF b fs.toList 0 cs m (by omega) hn hf (by rw [hsz]; show b.size=_; omega) (fun i f hif=>by
    have hif:fs[i]?=some f:=by simpa using hif
    have hlt:i < xs.length:=by rw [hx]; exact (Array.getElem?_eq_some_iff.1 hif).1
    have:=hi i f hif
    rw [List.getElem?_eq_getElem hlt] at this
    exact ⟨_,this,fun k hk=>hz k (DataW.weights_mem_each (j:=i) (t:=f.type) (d:=(xs[i]'hlt).1) (by rw [List.getElem?_map,Array.getElem?_toList,hif]; rfl) (by rw [List.getElem?_map,List.getElem?_eq_getElem hlt]; rfl) k hk)⟩)
   rw [List.drop_zero] at hy
   exact ⟨y,hy,hs⟩
 | .unit,_,_,_,_,_,_,ht,_,_=>by simp [tyOk] at ht
 | .pair _ _,_,_,_,_,_,_,ht,_,_=>by simp [tyOk] at ht
theorem aBl (hb:∀ e,P.underlying e=some (.int .u8)→1≤P.bytesOf e) (F:Nat) (hF:∀ fuel,fuel < F→∀ (n:TypeId) (cs:List Value) (x:DataW H×List MemPlace),tyOk P .ex n=true→DataW.trod enc P w base spare held fuel n cs=some x→(∀ m∈x.1.weights P n,m≤reachBytes)→∃ y:Ex,rep (snap w) .ex cs y∧szE y):∀ (b:Ty) (fs:List Field) (p:Nat) (cs:List Value) (m:Nat),m < F→b.noOp=true→abT P b fs p=true→cs.length=p+b.size →
 (∀ (i:Nat) (f:Field),fs[i]?=some f→∃ x:DataW H×List MemPlace,DataW.trod enc P w base spare held m f.type ((cs.drop f.offset).take (P.cellsOf f.type))=some x∧∀ k∈x.1.weights P f.type,k≤reachBytes)→∃ y:b.D,rep (snap w) b (cs.drop p) y∧szD b y
 | .unit,[],p,cs,m,_,_,_,hl,_=>⟨(),by show cs.drop p=[]; exact List.drop_of_length_le (by rw [hl]; show p+0≤p; omega),trivial⟩
 | .unit,_ :: _,_,_,_,_,_,h,_,_=>by simp [abT] at h
 | .pair a b,[],_,_,_,_,_,h,_,_=>by simp [abT] at h
 | .pair a b,f :: fs,p,cs,m,hlt,hn,h,hl,hi=>by
   have hn:(a.noOp&&b.noOp)=true:=hn
   rw [Bool.and_eq_true] at hn
   simp only [abT,Bool.and_eq_true,decide_eq_true_eq] at h
   obtain ⟨⟨⟨⟨ho,_⟩,_⟩,ht⟩,hf⟩:=h
   have hl:cs.length=p+(a.size+b.size):=hl
   obtain ⟨x,hx,hz⟩:=hi 0 f rfl
   rw [ho,(aju ht).1] at hx
   obtain ⟨y,hy,s1⟩:=aBk hb F hF a f.type m _ x hlt hn.1 ht hx hz
   obtain ⟨z,hz,s2⟩:=aBl hb F hF b fs (p+a.size) cs m hlt hn.2 hf (by omega) fun i g hg=>hi (i+1) g (by simpa using hg)
   refine ⟨(y,z),⟨_,_,?_,hy,hz⟩,s1,s2⟩
   rw [← List.drop_drop]
   exact (List.take_append_drop a.size (cs.drop p)).symm
 | .bool,_,_,_,_,_,_,h,_,_=>by simp [abT] at h
 | .int _,_,_,_,_,_,_,h,_,_=>by simp [abT] at h
 | .str,_,_,_,_,_,_,h,_,_=>by simp [abT] at h
 | .sl _,_,_,_,_,_,_,h,_,_=>by simp [abT] at h
 | .st _,_,_,_,_,_,_,h,_,_=>by simp [abT] at h
 | .ex,_,_,_,_,_,_,h,_,_=>by simp [abT] at h
 | .op _,_,_,_,_,_,_,h,_,_=>by simp [abT] at h
end
theorem aEs (hb:∀ e,P.underlying e=some (.int .u8)→1≤P.bytesOf e):∀ (fuel:Nat) (n:TypeId) (cs:List Value) (x:DataW H×List MemPlace),tyOk P .ex n=true→DataW.trod enc P w base spare held fuel n cs=some x→(∀ m∈x.1.weights P n,m≤reachBytes)→∃ y:Ex,rep (snap w) .ex cs y∧szE y
 | fuel,n,cs,x,ht,h,hz=>by
   have ht2:=aCZ ht
   obtain ⟨fs,hu,hf,_⟩:=ak7 ht2
   obtain ⟨xs,m,hfm,hxe,hl,hx,hi⟩:=DataW.trod_struct hu h
   have hsz:cs.length=(Ty.st exB).size:=by rw [hl]; exact (aju ht2).1
   have hw:x.1.weights P n=DataW.weightsEach P (fs.toList.map (·.type)) (xs.map (·.1)):=by
    rw [hxe]; simp only [DataW.weights,hu]
   rw [hw] at hz
   obtain ⟨y,hy,hs⟩:=aBl hb (m+1) (fun fuel' hlt n cs x ht h=>aEs hb fuel' n cs x ht h) exB fs.toList 0 cs m (by omega) rfl hf (by rw [hsz]; show exB.size=_; omega) (fun i f hif=>by
    have hif:fs[i]?=some f:=by simpa using hif
    have hlt:i < xs.length:=by rw [hx]; exact (Array.getElem?_eq_some_iff.1 hif).1
    have:=hi i f hif
    rw [List.getElem?_eq_getElem hlt] at this
    exact ⟨_,this,fun k hk=>hz k (DataW.weights_mem_each (j:=i) (t:=f.type) (d:=(xs[i]'hlt).1) (by rw [List.getElem?_map,Array.getElem?_toList,hif]; rfl) (by rw [List.getElem?_map,List.getElem?_eq_getElem hlt]; rfl) k hk)⟩)
   rw [List.drop_zero] at hy
   exact ⟨Ex.re y,azy.2 hy,aKk hs⟩
termination_by fuel=>fuel
decreasing_by omega
theorem aJh (hb:∀ e,P.underlying e=some (.int .u8)→1≤P.bytesOf e) (t:Ty) (n:TypeId) (fuel:Nat) (cs:List Value) (x:DataW H×List MemPlace) (hn:t.noOp=true) (ht:tyOk P t n=true) (h:DataW.trod enc P w base spare held fuel n cs=some x) (hz:∀ m∈x.1.weights P n,m≤reachBytes):∃ y:t.D,rep (snap w) t cs y∧szD t y :=
 aBk hb (fuel+1) (fun fuel _ n cs x=>aEs hb fuel n cs x) t n fuel cs x (Nat.lt_succ_self _) hn ht h hz
theorem open_sl_sz (hb:∀ e,P.underlying e=some (.int .u8)→1≤P.bytesOf e) {t:Ty} {n:TypeId} {v:Value} {d:DataW H} {ps:List MemPlace} (ht:tyOk P (.sl t) n=true) (hn:t.noOp=true) {a:Option Addr} {len cap:Nat} (hv:v=.slice a len cap) (h:DataW.Trod enc P w base spare held n v d ps) (hz:∀ m∈d.weights P n,m≤reachBytes) :
 ∃ l:List t.D,rv (snap w) id (.sl t .sh none l) (.slice a len cap)∧wfD (.sl t) l∧szD (.sl t) l:=by
 obtain ⟨fuel,h⟩:=h
 subst hv
 obtain ⟨y,hy,hs⟩:=aJh hb (.sl t) n fuel _ _ hn ht h hz
 obtain ⟨a',c,h1,h2,h3,h4,h5⟩:=hy
 have h1:[Value.slice a len cap]=[Value.slice a' (List.length y) c]:=h1
 injection h1 with h1 _
 exact ⟨y,⟨a',c,h1,h2,h3,h4,h5,nofun,nofun⟩,aJ9 (.sl t) _ _ ⟨a',c,rfl,h2,h3,h4,h5⟩,hs⟩
end
def aJW : Option TypeDesc→Bool
 | some (.int .u8)=>true
 | _=>false
theorem aw0 {info:TypeId→Option TypeInfo} {fs:Array Field} {i:TypeInfo} (h:Made.reckonStruct info fs=some i):∃ out,i.desc=.struct out:=by
 unfold Made.reckonStruct at h
 obtain ⟨st,_,h⟩:=Option.bind_eq_some_iff.1 h
 simp only at h
 split at h
 · cases h; exact ⟨_,rfl⟩
 · cases h; exact ⟨_,rfl⟩
theorem aDu {info:TypeId→Option TypeInfo} {d:TypeDesc} {i:TypeInfo} (h:Made.reckon info d=some i) (k:IntKind):i.desc≠.int k∧∀ n u,i.desc≠.named n u:=by
 unfold Made.reckon at h
 split at h
 · obtain ⟨j,_,h⟩:=Option.bind_eq_some_iff.1 h
   split at h
   · cases h
   · split at h
     · cases h
     · obtain ⟨_,_,h⟩:=Option.bind_eq_some_iff.1 h; cases h; exact ⟨nofun,nofun⟩
   · obtain ⟨_,_,h⟩:=Option.bind_eq_some_iff.1 h; cases h; exact ⟨nofun,nofun⟩
 · obtain ⟨_,_,h⟩:=Option.bind_eq_some_iff.1 h
   obtain ⟨_,_,h⟩:=Option.bind_eq_some_iff.1 h
   cases h; exact ⟨nofun,nofun⟩
 · obtain ⟨_,_,h⟩:=Option.bind_eq_some_iff.1 h
   obtain ⟨_,_,h⟩:=Option.bind_eq_some_iff.1 h
   obtain ⟨_,_,h⟩:=Option.bind_eq_some_iff.1 h
   obtain ⟨_,_,h⟩:=Option.bind_eq_some_iff.1 h
   cases h; exact ⟨nofun,nofun⟩
 · obtain ⟨_,_,h⟩:=Option.bind_eq_some_iff.1 h
   obtain ⟨_,_,h⟩:=Option.bind_eq_some_iff.1 h
   cases h; exact ⟨nofun,nofun⟩
 · obtain ⟨_,_,h⟩:=Option.bind_eq_some_iff.1 h
   cases h; exact ⟨nofun,nofun⟩
 · obtain ⟨_,_,h⟩:=Option.bind_eq_some_iff.1 h
   obtain ⟨_,_,h⟩:=Option.bind_eq_some_iff.1 h
   cases h; exact ⟨nofun,nofun⟩
 · obtain ⟨out,ho⟩:=aw0 h
   rw [ho]; exact ⟨nofun,nofun⟩
 · cases h
theorem u8_bytes {P:Program} (h:((List.range P.types.size).all fun e=>!aJW (P.underlying e)||Nat.ble 1 (P.bytesOf e))=true):∀ e,P.underlying e=some (.int .u8)→1≤P.bytesOf e:=by
 intro e he
 rcases Nat.lt_or_ge e P.types.size with hlt | hge
 · have:=List.all_eq_true.1 h e (List.mem_range.2 hlt)
   rw [he] at this
   simpa [aJW] using this
 · exfalso
   unfold Program.underlying at he
   cases hi:P.info? e with
   | none=>rw [hi] at he; cases he
   | some i =>
     have h1:Tables.info? P.toTables e=some i:=hi
     unfold Tables.info? at h1
     rw [if_neg (Nat.not_lt.2 hge)] at h1
     unfold Made.depth Made.infoAt at h1
     rw [if_neg (Nat.not_lt.2 hge)] at h1
     obtain ⟨d,_,h2⟩:=Option.bind_eq_some_iff.1 h1
     obtain ⟨k1,k2⟩:=aDu h2 .u8
     rw [hi] at he
     split at he
     · rename_i n u e1
       injection e1 with e1
       exact k2 _ _ (by rw [e1])
     · rename_i e1
       injection e1 with e1
       subst e1
       exact k1 (Option.some.inj he)
     · cases he
end Go.Proofs.Ytgmeimbamfggkaa.Den
