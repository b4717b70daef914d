import Derived.Test.YtgmeimbamfggkaaDPAMetaDoes
import Derived.Test.YtgmeimbamfggkaaDMetaDoes
import Derived.Test.YtgmeimbamfggkaaDen35
namespace Go.Proofs.Ytgmeimbamfggkaa.Den
open Go Go.RowKit
set_option linter.unusedVariables false
set_option linter.unusedSimpArgs false
attribute [local irreducible] afA akT adn law15_MetaDoes aeH ahK afZ ahd af0 af1 akU am_ akV apt avl aeA afv ag7 adL adF adh adi agu adM agv ad4 adb ad5 adj adv ack aa6 aao aeu afx ad6 axr art aru adw adx aa7 aEf ayK aja aeC ajR arx asA akW ajS arz ajT anB ad7 ady abj aeI ad8 adN abF ab4 aeJ adZ acy afE adO abo ad9 adC adG asB ahP aeD aeX ahe ado aee asC af3 agQ agz ad_ ak0 ajB aje ahf adt ane agR aeY ab7 abL aeZ aea aa8 adz aaR ab8 adA adR adD adE acN abX afy adS abb aa9 acO aaU ac5 adB agV aef abG agW ajk ajC anf aif agX aew agY aeg adT adU adk ae1 acS aii aeF aeL acI aeM aej adV aek abQ acl abA adl acm afz adm ael abn abB abC acQ acb acd ab9 abI abJ ab6 abO aau aar aal aan aas aac aav aap aab aaq aam aaa aaK aak aaG aaj aaD aag aaE aah aaB aae aaF aai aay aad abN aaw ahg aep abc asq ajt ahh ada abM
theorem bndE {α β:Type} {x:Option α} {r:α} {G:α→Option β} (h:x=some r):x.bind G=G r:=by rw [h]; rfl
def awu : Lk:=((0:Int),((0:Int),((0:Int),([],([],())))))
def NZ (ws:List Lk):Prop:=∀ w∈ws,w.1≠0
def avg (ws:List Lk) (t:Int) (x:Lk):List Lk:=ws.filter fun w=>!decide (w.1=t)||ajq w x
theorem aHx (ws:List Lk) (x:Lk):avg ws x.1 x=aa3 ws x:=by
 unfold avg aa3
 congr 1
 funext w
 cases decide (w.1=x.1) <;> cases ajq w x <;> rfl
theorem aA0 {ws:List Lk} (h:NZ ws) (t:Int):avg ws t awu=agr ws t:=by
 unfold avg agr
 refine List.filter_congr fun w hw=>?_
 have:ajq w awu=false:=by
  cases hs:ajq w awu with
  | false=>rfl
  | true =>
    have:=(aEG w awu).1 hs
    exact absurd (by rw [this]; rfl) (h w hw)
 rw [this,Bool.or_false]
variable {rA : Mp} {rC:Int} {rN:Nat} {rB:List Tb} {rT:List Sx}
theorem awi (t:Int) (x:Lk) (hs ws:List Lk) (hb:ws.length≤1000):Ev (fun k=>aa9 k t x rA rC rN hs ws rB rT) ((),((rA,(rC,(rN,(hs,(avg ws t x,(rB,())))))),((rT,()),()))):=by
 simp only [ata]
 have key:∀ d j (b:Bool) (acc:List Lk),j+d=ws.length→acc.length≤j→Ev2 (fun k n=>aaU k n t b acc ws (ws.length:Int) (j:Int) rA rC rN hs ws rB rT x.1 x.2.1 x.2.2.1 x.2.2.2.1 x.2.2.2.2.1) ((),((rA,(rC,(rN,(hs,(acc++avg (ws.drop j) t x,(rB,())))))),((rT,()),()))):=by
  intro d
  induction d with
  | zero =>
    intro j b acc hj ha
    have:j=ws.length:=by omega
    subst this
    rw [List.drop_length]
    refine .up ⟨0,fun k n _ _=>?_⟩
    refine (aj1 ..).trans ?_
    rw [bf (by omega)]
    simp [avg]
  | succ d ih =>
    intro j b acc hj ha
    have hlt:j < ws.length:=by omega
    have hx:nth ws (j:Int)=some ws[j]:=aaV (List.getElem?_eq_getElem hlt)
    have hdr:ws.drop j=ws[j] :: ws.drop (j+1):=List.drop_eq_getElem_cons hlt
    rw [hdr]
    generalize ws[j]=w at hx
    have stp:∀ k n,aaU (k+1) (n+1) t b acc ws (ws.length:Int) (j:Int) rA rC rN hs ws rB rT x.1 x.2.1 x.2.2.1 x.2.2.2.1 x.2.2.2.2.1 =
     bif (!decide (w.1=t)||ajq w x) then aaU (k+1) n t (b&&false) (acc++[w]) ws (ws.length:Int) ((j+1:Nat):Int) rA rC rN hs ws rB rT x.1 x.2.1 x.2.2.1 x.2.2.2.1 x.2.2.2.2.1
     else aaU (k+1) n t b acc ws (ws.length:Int) ((j+1:Nat):Int) rA rC rN hs ws rB rT x.1 x.2.1 x.2.2.1 x.2.2.2.1 x.2.2.2.2.1:=by
        intro k n
        rw [aj1,bt (by omega),hx,Option.bind_some]
        simp only [azB,Option.bind_some,aqj,abr (show j < 1000000 by omega),eta5]
        rw [ags (by simp; omega)]
        cases decide (w.1=t) <;> cases ajq w x <;> rfl
    unfold avg
    rw [List.filter_cons]
    refine .up (.upk ?_)
    cases hp:(!decide (w.1=t)||ajq w x) with
    | true =>
      obtain ⟨K,hK⟩:=ih (j+1) (b&&false) (acc++[w]) (by omega) (by simp; omega)
      refine ⟨K,fun k n hk hn=>?_⟩
      show aaU (k+1) (n+1) _ _ _ _ _ _ _ _ _ _ _ _ _ _ _ _ _ _=_
      rw [stp,hp]
      have:=hK (k+1) n (by omega) hn
      rw [List.append_assoc] at this
      exact this
    | false =>
      obtain ⟨K,hK⟩:=ih (j+1) b acc (by omega) (by omega)
      refine ⟨K,fun k n hk hn=>?_⟩
      show aaU (k+1) (n+1) _ _ _ _ _ _ _ _ _ _ _ _ _ _ _ _ _ _=_
      rw [stp,hp]
      exact hK (k+1) n (by omega) hn
 have:=(key ws.length 0 true [] (by omega) (by simp)).dg
 rw [List.drop_zero] at this
 exact this
theorem aHS (t:Int) (hs ws:List Lk) (hb:ws.length≤1000) (hb2:hs.length≤1000) (nz:NZ ws):Ev (fun k=>afy k t rA rC rN hs ws rB rT) (((hs.length:Int) - ((agr hs t).length:Int)),((rA,(rC,(rN,(agr hs t,(agr ws t,(rB,())))))),((rT,()),()))):=by
 simp only [aur]
 have gl:(agr hs t).length≤hs.length:=ava hs t
 have key:∀ d j (b:Bool) (acc:List Lk),j+d=hs.length→acc.length≤j→acc++agr (hs.drop j) t=agr hs t→Ev2 (fun k n=>abb k n t b acc hs (hs.length:Int) (j:Int) rA rC rN hs ws rB rT) (((hs.length:Int) - ((agr hs t).length:Int)),((rA,(rC,(rN,(agr hs t,(agr ws t,(rB,())))))),((rT,()),()))):=by
  intro d
  induction d with
  | zero =>
    intro j b acc hj ha he
    have:j=hs.length:=by omega
    subst this
    rw [List.drop_length] at he
    have he:acc=agr hs t:=by simpa [agr] using he
    subst he
    refine .up ?_
    obtain ⟨K,hK⟩:=awi t awu (agr hs t) ws hb
    refine ⟨K,fun k n hk hn=>?_⟩
    refine (akB ..).trans ?_
    rw [bf (by omega)]
    refine (bndE (hK k hk)).trans ?_
    show some (wr .i64 ((hs.length:Int) - ((agr hs t).length:Int)),((rA,(rC,(rN,(agr hs t,(avg ws t awu,(rB,())))))),((rT,()),())))=_
    rw [aiY (by omega),aA0 nz]
  | succ d ih =>
    intro j b acc hj ha he
    have hlt:j < hs.length:=by omega
    have hx:nth hs (j:Int)=some hs[j]:=aaV (List.getElem?_eq_getElem hlt)
    have hdr:hs.drop j=hs[j] :: hs.drop (j+1):=List.drop_eq_getElem_cons hlt
    rw [hdr] at he
    generalize hs[j]=w at hx he
    have stp:∀ k n,abb (k+1) (n+1) t b acc hs (hs.length:Int) (j:Int) rA rC rN hs ws rB rT =
     bif (!decide (w.1=t)) then abb (k+1) n t (b&&false) (acc++[w]) hs (hs.length:Int) ((j+1:Nat):Int) rA rC rN hs ws rB rT
     else abb (k+1) n t b acc hs (hs.length:Int) ((j+1:Nat):Int) rA rC rN hs ws rB rT:=by
        intro k n
        rw [akB,bt (by omega),hx,Option.bind_some]
        simp only [aq4,abr (show j < 1000000 by omega),eta5]
        rw [ags (by simp; omega)]
        cases decide (w.1=t) <;> rfl
    refine .up (.upk ?_)
    cases hp:(!decide (w.1=t)) with
    | true =>
      have he2:acc++[w]++agr (hs.drop (j+1)) t=agr hs t:=by
       rw [← he]; unfold agr; rw [List.filter_cons,hp]; simp
      obtain ⟨K,hK⟩:=ih (j+1) (b&&false) (acc++[w]) (by omega) (by simp; omega) he2
      refine ⟨K,fun k n hk hn=>?_⟩
      show abb (k+1) (n+1) _ _ _ _ _ _ _ _ _ _ _ _ _=_
      rw [stp,hp]
      exact hK (k+1) n (by omega) hn
    | false =>
      have he2:acc++agr (hs.drop (j+1)) t=agr hs t:=by
       rw [← he]; unfold agr; rw [List.filter_cons,hp]; simp
      obtain ⟨K,hK⟩:=ih (j+1) b acc (by omega) (by omega) he2
      refine ⟨K,fun k n hk hn=>?_⟩
      show abb (k+1) (n+1) _ _ _ _ _ _ _ _ _ _ _ _ _=_
      rw [stp,hp]
      exact hK (k+1) n (by omega) hn
 exact (key hs.length 0 true [] (by omega) (by simp) (by simp)).dg
theorem azi (x:Lk) (ls:List Lk) (hb:ls.length≤1000):Ev (fun k=>agV k ls x) ((),((adu ls x,()),())):=by
 simp only [ax5]
 have key:∀ d j (acc:List Lk),j+d=ls.length→acc.length≤j→Ev2 (fun k n=>abG k n ls (ls.length:Int) (j:Int) x.1 x.2.1 x.2.2.1 x.2.2.2.1 x.2.2.2.2.1 acc) ((),((acc++adu (ls.drop j) x,()),())):=by
  intro d
  induction d with
  | zero =>
    intro j acc hj ha
    have:j=ls.length:=by omega
    subst this
    rw [List.drop_length]
    refine .up ⟨0,fun k n _ _=>?_⟩
    refine (anS ..).trans ?_
    rw [bf (by omega)]
    simp [adu]
  | succ d ih =>
    intro j acc hj ha
    have hlt:j < ls.length:=by omega
    have hx:nth ls (j:Int)=some ls[j]:=aaV (List.getElem?_eq_getElem hlt)
    have hdr:ls.drop j=ls[j] :: ls.drop (j+1):=List.drop_eq_getElem_cons hlt
    rw [hdr]
    generalize ls[j]=w at hx
    have stp:∀ k n,abG (k+1) (n+1) ls (ls.length:Int) (j:Int) x.1 x.2.1 x.2.2.1 x.2.2.2.1 x.2.2.2.2.1 acc =
     bif (!aq6 w x&&!fitP w.2.2.1 x.2.2.1) then abG (k+1) n ls (ls.length:Int) ((j+1:Nat):Int) x.1 x.2.1 x.2.2.1 x.2.2.2.1 x.2.2.2.2.1 (acc++[w])
     else abG (k+1) n ls (ls.length:Int) ((j+1:Nat):Int) x.1 x.2.1 x.2.2.1 x.2.2.2.1 x.2.2.2.2.1 acc:=by
        intro k n
        rw [anS,bt (by omega),hx,Option.bind_some]
        simp only [aHN,aJp,Option.bind_some,auw,abr (show j < 1000000 by omega),eta5]
        rw [ags (by simp; omega)]
        cases aq6 w x <;> cases fitP w.2.2.1 x.2.2.1 <;> rfl
    unfold adu
    rw [List.filter_cons]
    refine .up (.upk ?_)
    cases hp:(!aq6 w x&&!fitP w.2.2.1 x.2.2.1) with
    | true =>
      obtain ⟨K,hK⟩:=ih (j+1) (acc++[w]) (by omega) (by simp; omega)
      refine ⟨K,fun k n hk hn=>?_⟩
      show abG (k+1) (n+1) _ _ _ _ _ _ _ _ _=_
      rw [stp,hp]
      have:=hK (k+1) n (by omega) hn
      rw [List.append_assoc] at this
      exact this
    | false =>
      obtain ⟨K,hK⟩:=ih (j+1) acc (by omega) (by omega)
      refine ⟨K,fun k n hk hn=>?_⟩
      show abG (k+1) (n+1) _ _ _ _ _ _ _ _ _=_
      rw [stp,hp]
      exact hK (k+1) n (by omega) hn
 have:=(key ls.length 0 [] (by omega) (by simp)).dg
 rw [List.drop_zero] at this
 exact this
def wayP (hs ahead:List Lk) (x:Lk):List Lk:=bif hs.any (fun h=>decide (h.1=x.1)&&avE h x) then adu hs x else adu hs x++adu ahead x
theorem aGa (hs ws:List Lk) (x:Lk) (n:Nat):aop hs ws x n=wayP hs (ws.take n) x:=rfl
theorem aGL (x:Lk) (ahead hs ws:List Lk) (hb:hs.length≤1000) (hb2:ahead.length≤1000):Ev (fun k=>ac5 k x ahead rA rC rN hs ws rB rT) (wayP hs ahead x,((rA,(rC,(rN,(hs,(ws,(rB,())))))),((rT,()),()))):=by
 simp only [av2]
 have l1:=ahH hs x
 have l2:=ahH ahead x
 have key:∀ d j,j+d=hs.length→Ev2 (fun k n=>adB k n ahead hs (hs.length:Int) (j:Int) rA rC rN hs ws rB rT x.1 x.2.1 x.2.2.1 x.2.2.2.1 x.2.2.2.2.1 (adu hs x))
  (bif (hs.drop j).any (fun h=>decide (h.1=x.1)&&avE h x) then adu hs x else adu hs x++adu ahead x,((rA,(rC,(rN,(hs,(ws,(rB,())))))),((rT,()),()))):=by
  intro d
  induction d with
  | zero =>
    intro j hj
    have:j=hs.length:=by omega
    subst this
    rw [List.drop_length]
    refine .up ?_
    obtain ⟨K,hK⟩:=azi x ahead hb2
    refine ⟨K,fun k n hk hn=>?_⟩
    refine (alK ..).trans ?_
    rw [bf (by omega)]
    refine (bndE (hK k hk)).trans ?_
    show lim ((adu hs x).length+(adu ahead x).length) _=_
    rw [ags (by omega)]; rfl
  | succ d ih =>
    intro j hj
    have hlt:j < hs.length:=by omega
    have hx:nth hs (j:Int)=some hs[j]:=aaV (List.getElem?_eq_getElem hlt)
    have hdr:hs.drop j=hs[j] :: hs.drop (j+1):=List.drop_eq_getElem_cons hlt
    rw [hdr,List.any_cons]
    generalize hs[j]=w at hx
    obtain ⟨K,hK⟩:=ih (j+1) (by omega)
    refine .up ⟨K,fun k n hk hn=>?_⟩
    refine (alK ..).trans ?_
    rw [bt (by omega),hx,Option.bind_some]
    simp only [aEE,Option.bind_some,abr (show j < 1000000 by omega),eta5]
    have h2:=hK k n hk hn
    cases decide (w.1=x.1) with
    | false=>exact h2
    | true =>
      cases avE w x with
      | false=>exact h2
      | true=>rfl
 have h:=(key hs.length 0 (by omega)).dg
 rw [List.drop_zero] at h
 exact .bind (azi x hs hb) h
theorem aJF (hs ahead:List Lk) (x:Lk):(wayP hs ahead x).length≤hs.length+ahead.length:=by
 have l1:=ahH hs x
 have l2:=ahH ahead x
 unfold wayP
 cases hs.any _
 · simp only [cond_false,List.length_append]; omega
 · simp only [cond_true]; omega
theorem aGB (hs ws:List Lk) (b1:hs.length≤100) (b2:ws.length≤100):Ev (fun k=>adR k rA rC rN hs ws rB rT) (amd hs ws,((rA,(rC,(rN,(hs,(ws,(rB,())))))),((rT,()),()))):=by
 simp only [as8]
 have outer:∀ (d i:Nat) (fl:Bool) (out:List Eg),i+d=ws.length→out.length+d * 200≤40000 →
  Ev2 (fun k n=>adE k n fl out ws (ws.length:Int) (i:Int) rA rC rN hs ws rB rT) (ag6 hs ws i (ws.drop i) out,((rA,(rC,(rN,(hs,(ws,(rB,())))))),((rT,()),()))):=by
  intro d
  induction d with
  | zero =>
    intro i fl out hi ho
    have:i=ws.length:=by omega
    subst this
    rw [List.drop_length]
    refine .up ⟨0,fun k n _ _=>?_⟩
    refine (ajZ ..).trans ?_
    rw [bf (by omega)]; rfl
  | succ d ih =>
    intro i fl out hi ho
    have hlt:i < ws.length:=by omega
    have hx:nth ws (i:Int)=some ws[i]:=aaV (List.getElem?_eq_getElem hlt)
    have hdr:ws.drop i=ws[i] :: ws.drop (i+1):=List.drop_eq_getElem_cons hlt
    rw [hdr]
    generalize ws[i]=x at hx
    have inner:∀ (ls:List Lk),ls.length≤10000→∀ (e j:Nat) (fl:Bool) (out:List Eg),j+e=ls.length→out.length+e+d * 200≤40000 →
     Ev3 (fun k n p=>acN k n p fl out ws (ws.length:Int) (i:Int) ls (ls.length:Int) (j:Int) rA rC rN hs ws rB rT x.1 x.2.1 x.2.2.1 x.2.2.2.1 x.2.2.2.2.1)
            (ag6 hs ws (i+1) (ws.drop (i+1)) ((ls.drop j).foldl (fun out h=>addE out (x.1,(h.1,()))) out),((rA,(rC,(rN,(hs,(ws,(rB,())))))),((rT,()),()))):=by
        intro ls hls e
        induction e with
        | zero =>
          intro j fl out hj ho
          have:j=ls.length:=by omega
          subst this
          rw [List.drop_length]
          obtain ⟨K,hK⟩:=ih (i+1) fl out (by omega) (by omega)
          refine .up ⟨K,fun k n p hk hn hp=>?_⟩
          refine (aj0 ..).trans ?_
          rw [bf (by omega),abr (by omega)]
          exact hK k n hk hn
        | succ e ihe =>
          intro j fl out hj ho
          have hlj:j < ls.length:=by omega
          have hy:nth ls (j:Int)=some ls[j]:=aaV (List.getElem?_eq_getElem hlj)
          have hdr:ls.drop j=ls[j] :: ls.drop (j+1):=List.drop_eq_getElem_cons hlj
          rw [hdr,List.foldl_cons]
          generalize ls[j]=y at hy
          have kn:∀ d m (b:Bool),m+d=out.length→b=aor (out.take m) (x.1,(y.1,())) →
           Ev4 (fun k n p q=>abX k n p q fl out b ws (ws.length:Int) (i:Int) ls (ls.length:Int) (j:Int) fl out (out.length:Int) (m:Int) rA rC rN hs ws rB rT x.1 x.2.1 x.2.2.1 x.2.2.2.1 x.2.2.2.2.1 x.1 y.1)
              (ag6 hs ws (i+1) (ws.drop (i+1)) ((ls.drop (j+1)).foldl (fun out h=>addE out (x.1,(h.1,()))) (addE out (x.1,(y.1,())))),((rA,(rC,(rN,(hs,(ws,(rB,())))))),((rT,()),()))):=by
            intro d
            induction d with
            | zero =>
              intro m b hm hb
              have:m=out.length:=by omega
              subst this
              rw [List.take_length] at hb
              subst hb
              unfold addE
              cases aor out ((x.1,(y.1,())):Eg) with
              | true =>
                obtain ⟨K,hK⟩:=ihe (j+1) fl out (by omega) (by omega)
                refine .up (.upk ⟨K,fun k n p q hk hn hp hq=>?_⟩)
                refine (aev ..).trans ?_
                rw [bf (by omega)]
                refine (ajY ..).trans ?_
                rw [abr (by omega)]
                exact hK (k+1) n p (by omega) hn hp
              | false =>
                obtain ⟨K,hK⟩:=ihe (j+1) (fl&&([((x.1,(y.1,())):Eg)]:List Eg).isEmpty) (out++[(x.1,(y.1,()))]) (by omega) (by simp; omega)
                refine .up (.upk ⟨K,fun k n p q hk hn hp hq=>?_⟩)
                refine (aev ..).trans ?_
                rw [bf (by omega)]
                show lim _ _=_
                rw [ags (by simp; omega)]
                refine (ajY ..).trans ?_
                rw [abr (by omega)]
                exact hK (k+1) n p (by omega) hn hp
            | succ d ihd =>
              intro m b hm hb
              have hlm:m < out.length:=by omega
              have hz:nth out (m:Int)=some out[m]:=aaV (List.getElem?_eq_getElem hlm)
              have htk:aor (out.take (m+1)) ((x.1,(y.1,())):Eg)=(b||decide (out[m]=((x.1,(y.1,())):Eg))):=by
               rw [List.take_add_one,List.getElem?_eq_getElem hlm,hb]
               exact aAs ..
              cases b with
              | true =>
                obtain ⟨K,hK⟩:=ihd (m+1) true (by omega) (by rw [htk]; rfl)
                refine .up ⟨K,fun k n p q hk hn hp hq=>?_⟩
                refine (aev ..).trans ?_
                rw [bt (by omega),hz,Option.bind_some,abr (by omega)]
                exact hK k n p q hk hn hp hq
              | false =>
                obtain ⟨K,hK⟩:=ihd (m+1) (decide (out[m]=((x.1,(y.1,())):Eg))) (by omega) (by rw [htk]; rfl)
                refine .up ⟨K,fun k n p q hk hn hp hq=>?_⟩
                refine (aev ..).trans ?_
                rw [bt (by omega),hz,Option.bind_some,abr (by omega)]
                show abX k n p q fl out (Ty.decEq (.st (.pair (.int .u64) (.pair (.int .u64) .unit))) out[m] ((x.1,(y.1,())):Eg)) _ _ _ _ _ _ _ _ _ _ _ _ _ _ _ _ _ _ _ _ _ _ _ _=_
                rw [decE]
                exact hK k n p q hk hn hp hq
          obtain ⟨K,hK⟩:=(kn out.length 0 false (by omega) (by simp [aor])).dg
          refine .up ⟨K,fun k n p hk hn hp=>?_⟩
          refine (aj0 ..).trans ?_
          rw [bt (by omega),hy,Option.bind_some]
          exact hK k n p hk hn hp
    have tl:(ws.take i).length≤100:=by rw [List.length_take]; omega
    have hl:=aJF hs (ws.take i) x
    obtain ⟨K,hK⟩:=(inner (wayP hs (ws.take i) x) (by omega) _ 0 fl out (Nat.zero_add _) (by omega)).dg
    rw [List.drop_zero] at hK
    obtain ⟨K2,hK2⟩:=aGL x (ws.take i) hs ws (by omega) (by omega)
    refine .up ⟨Nat.max K K2,fun k n hk hn=>?_⟩
    refine (ajZ ..).trans ?_
    rw [bt (by omega),hx,Option.bind_some,awA (by omega),Option.bind_some]
    refine (bndE (hK2 k (Nat.le_trans (Nat.le_max_right K K2) hk))).trans ?_
    exact hK k n (Nat.le_trans (Nat.le_max_left K K2) hk) (Nat.le_trans (Nat.le_max_left K K2) hn)
 exact (outer ws.length 0 true [] (by omega) (by simp; omega)).dg
theorem aH0 (f:Int) (l:List Eg) (hl:l.length≤40000):∀ (u:Nat) (Q:List Int) (i:Nat) (fl fm:Bool) (out:List Eg),i≤Q.length→(Q.drop i).length+alh out l≤u→Q.length+alh out l≤50000→out.length+alh out l≤50000 →
 Ev2 (fun k n=>agX k n l f fl out fm Q (i:Int)) (bfs f l u (Q.drop i) out,()):=by
 intro u
 induction u with
 | zero =>
   intro Q i fl fm out hi hu _ _
   have hq:Q.drop i=[]:=List.eq_nil_of_length_eq_zero (by omega)
   have hlen:Q.length≤i:=by rw [List.drop_eq_nil_iff] at hq; exact hq
   refine .up ⟨0,fun k n _ _=>?_⟩
   refine (al7 ..).trans ?_
   rw [bf (by omega)]; rfl
 | succ u ih =>
   intro Q i fl fm out hi hu hQ ho
   by_cases hlt:i < Q.length
   case neg =>
    have hq:Q.drop i=[]:=List.drop_eq_nil_of_le (by omega)
    rw [hq]
    refine .up ⟨0,fun k n _ _=>?_⟩
    refine (al7 ..).trans ?_
    rw [bf (by omega)]; rfl
   have hdr:Q.drop i=Q[i] :: Q.drop (i+1):=List.drop_eq_getElem_cons hlt
   have hc:Q[i]?=some Q[i]:=List.getElem?_eq_getElem hlt
   rw [hdr] at hu ⊢
   generalize Q[i]=c at hc hu hdr
   have inner:∀ (d j:Nat) (Q:List Int) (fl fm:Bool) (out:List Eg),j+d=l.length→i < Q.length→Q[i]?=some c→(Q.drop (i+1)).length+alh out l≤u→Q.length+alh out l≤50000→out.length+alh out l≤50000 →
        Ev3 (fun k n m=>aew k n m l f fl out fm Q (i:Int) l (l.length:Int) (j:Int)) (bfs f l u ((l.drop j).foldl (agl f c) (Q.drop (i+1),out)).1 ((l.drop j).foldl (agl f c) (Q.drop (i+1),out)).2,()):=by
    intro d
    induction d with
    | zero =>
      intro j Q fl fm out hj hlt hc hu hQ ho
      have:j=l.length:=by omega
      subst this
      rw [List.drop_length]
      obtain ⟨K,hK⟩:=ih Q (i+1) fl fm out (by omega) hu hQ ho
      refine .up ⟨K,fun k n m hk hn hm=>?_⟩
      refine (al8 ..).trans ?_
      rw [bf (by omega),abr (by omega)]
      exact hK k n hk hn
    | succ d ihd =>
      intro j Q fl fm out hj hlt hc hu hQ ho
      have hltj:j < l.length:=by omega
      have hx:nth l (j:Int)=some l[j]:=aaV (List.getElem?_eq_getElem hltj)
      have hdr:l.drop j=l[j] :: l.drop (j+1):=List.drop_eq_getElem_cons hltj
      rw [hdr,List.foldl_cons]
      generalize hee:l[j]=e at hx
      have hmem:e∈l:=by rw [← hee]; exact List.getElem_mem hltj
      by_cases h1:e.1=c
      case neg =>
       rw [axf (.inl h1)]
       obtain ⟨K,hK⟩:=ihd (j+1) Q fl fm out (by omega) hlt hc hu hQ ho
       refine .up ⟨K,fun k n m hk hn hm=>?_⟩
       refine (al8 ..).trans ?_
       rw [bt (by omega),hx,Option.bind_some,aaV hc,Option.bind_some,dF h1,abr (by omega)]
       exact hK k n m hk hn hm
      have kn:∀ d m (b:Bool),m+d=out.length→b=abq (out.take m) e.2.1 →
            Ev4 (fun k n p q=>agY k n p q l f fl out fm Q (i:Int) b l (l.length:Int) (j:Int) fl out (out.length:Int) (m:Int) e.1 e.2.1)
             (bfs f l u ((l.drop (j+1)).foldl (agl f c) (agl f c (Q.drop (i+1),out) e)).1 ((l.drop (j+1)).foldl (agl f c) (agl f c (Q.drop (i+1),out) e)).2,()):=by
       intro d
       induction d with
       | zero =>
         intro m b hm hb
         have:m=out.length:=by omega
         subst this
         rw [List.take_length] at hb
         subst hb
         cases hk:abq out e.2.1 with
         | true =>
           rw [axf (.inr hk)]
           obtain ⟨K,hK⟩:=ihd (j+1) Q fl fm out (by omega) hlt hc hu hQ ho
           refine .up ⟨K,fun k n p q hk hn hp hq=>?_⟩
           refine (ag_ ..).trans ?_
           rw [bf (by omega),abr (by omega)]
           exact hK k n p hk hn hp
         | false =>
           rw [aC0 h1 hk]
           have hdec:=aAr hmem hk e.1
           by_cases h3:e.2.1=f
           · rw [dT h3]
             obtain ⟨K,hK⟩:=ihd (j+1) Q (fl&&([((e.2.1,(e.1,())):Eg)]:List Eg).isEmpty) fm (out++[(e.2.1,(e.1,()))]) (by omega) hlt hc (by omega) (by omega) (by simp; omega)
             refine .up (.upk ⟨K,fun k n p q hk hn hp hq=>?_⟩)
             refine (ag_ ..).trans ?_
             rw [bf (by omega)]
             show lim _ (bif !decide (e.2.1=f) then _ else _)=_
             rw [dT h3,ags (by simp; omega)]
             refine (aqE ..).trans ?_
             rw [abr (by omega)]
             exact hK (k+1) n p (by omega) hn hp
           · rw [dF h3]
             have hqd:Q.drop (i+1)++[e.2.1]=(Q++[e.2.1]).drop (i+1):=by rw [List.drop_append_of_le_length (by omega)]
             show Ev4 _ (bfs f l u ((l.drop (j+1)).foldl (agl f c) (Q.drop (i+1)++[e.2.1],_)).1 _,())
             rw [hqd]
             obtain ⟨K,hK⟩:=ihd (j+1) (Q++[e.2.1]) (fl&&([((e.2.1,(e.1,())):Eg)]:List Eg).isEmpty) (fm&&[e.2.1].isEmpty) (out++[(e.2.1,(e.1,()))]) (by omega) (by simp; omega) (by rw [List.getElem?_append_left hlt]; exact hc)
              (by rw [← hqd]; simp only [List.length_append,List.length_singleton]; omega) (by simp; omega) (by simp; omega)
             refine .up (.upk ⟨K,fun k n p q hk hn hp hq=>?_⟩)
             refine (ag_ ..).trans ?_
             rw [bf (by omega)]
             show lim _ (bif !decide (e.2.1=f) then lim _ _ else _)=_
             rw [dF h3,ags (by simp; omega)]
             show lim _ _=_
             rw [ags (by simp; omega)]
             refine (aqE ..).trans ?_
             rw [abr (by omega)]
             exact hK (k+1) n p (by omega) hn hp
       | succ d ihe =>
         intro m b hm hb
         have hlm:m < out.length:=by omega
         have hz:nth out (m:Int)=some out[m]:=aaV (List.getElem?_eq_getElem hlm)
         have htk:abq (out.take (m+1)) e.2.1=(b||decide (out[m].1=e.2.1)):=by
             rw [List.take_add_one,List.getElem?_eq_getElem hlm,hb]
             exact ah6 ..
         cases b with
         | true =>
           obtain ⟨K,hK⟩:=ihe (m+1) true (by omega) (by rw [htk]; rfl)
           refine .up ⟨K,fun k n p q hk hn hp hq=>?_⟩
           refine (ag_ ..).trans ?_
           rw [bt (by omega),hz,Option.bind_some,abr (by omega)]
           exact hK k n p q hk hn hp hq
         | false =>
           obtain ⟨K,hK⟩:=ihe (m+1) (decide (out[m].1=e.2.1)) (by omega) (by rw [htk]; rfl)
           refine .up ⟨K,fun k n p q hk hn hp hq=>?_⟩
           refine (ag_ ..).trans ?_
           rw [bt (by omega),hz,Option.bind_some,abr (by omega)]
           exact hK k n p q hk hn hp hq
      obtain ⟨K,hK⟩:=(kn out.length 0 false (by omega) (by simp [abq])).dg
      refine .up ⟨K,fun k n m hk hn hm=>?_⟩
      refine (al8 ..).trans ?_
      rw [bt (by omega),hx,Option.bind_some,aaV hc,Option.bind_some,dT h1]
      exact hK k n m hk hn hm
   have hu2:(Q.drop (i+1)).length+alh out l≤u:=by simp only [List.length_cons] at hu; omega
   obtain ⟨K,hK⟩:=(inner l.length 0 Q fl fm out (by omega) hlt hc hu2 hQ ho).dg
   refine .up ⟨K,fun k n hk hn=>?_⟩
   refine (al7 ..).trans ?_
   rw [bt (by omega)]
   exact hK k n hk hn
theorem ayz {w:List Eg} {m:Nat} {s:Eg} (h:w[m]?=some s) (n:Int):abq (w.take (m+1)) n=(abq (w.take m) n||decide (s.1=n)):=by
 rw [List.take_add_one,h]
 exact ah6 ..
theorem aGy (f:Int) (w:List Eg) (hw:Chain f w) (hb:w.length≤90000):∀ (m:Nat) (fl:Bool) (acc:List Int) (at_:Int),m≤w.length→acc.length+m≤90000→abq (w.take m) at_=true →
 ∃ a,Ev2 (fun k n=>adt k n f w fl acc at_ ((m:Int) - 1)) ((false,a),()):=by
 intro m
 induction m with
 | zero=>intro fl acc at_ _ _ h; simp [abq] at h
 | succ m ih =>
   intro fl acc at_ hm ha h
   have hlt:m < w.length:=by omega
   have hx:w[m]?=some w[m]:=List.getElem?_eq_getElem hlt
   have hch:=hw m w[m] hx
   rw [ayz hx] at h
   generalize w[m]=s at hx h hch
   have e1:((m+1:Nat):Int) - 1=((m:Nat):Int):=by omega
   rw [e1]
   by_cases hs:s.1=at_
   · by_cases hf:s.2.1=f
     · refine ⟨[s.2.1]++acc,.up ⟨0,fun k n _ _=>?_⟩⟩
       refine (agA ..).trans ?_
       rw [bt (by omega),aaV hx,Option.bind_some,dT hs]
       show lim _ (bif decide (s.2.1=f) then _ else _)=_
       rw [dT hf,ags (by simp; omega)]; rfl
     · obtain ⟨a,K,hK⟩:=ih false ([s.2.1]++acc) s.2.1 (by omega) (by simp; omega) (hch.resolve_left hf)
       refine ⟨a,.up (.upk ⟨K,fun k n hk hn=>?_⟩)⟩
       refine (agA ..).trans ?_
       rw [bt (by omega),aaV hx,Option.bind_some,dT hs]
       show lim _ (bif decide (s.2.1=f) then _ else _)=_
       rw [dF hf,ags (by simp; omega)]
       refine (ak1 ..).trans ?_
       rw [aiY (by omega)]
       exact hK (k+1) n (by omega) hn
   · rw [dF hs,Bool.or_false] at h
     obtain ⟨a,K,hK⟩:=ih fl acc at_ (by omega) (by omega) h
     refine ⟨a,.up (.upk ⟨K,fun k n hk hn=>?_⟩)⟩
     refine (agA ..).trans ?_
     rw [bt (by omega),aaV hx,Option.bind_some,dF hs]
     refine (ak1 ..).trans ?_
     rw [aiY (by omega)]
     exact hK (k+1) n (by omega) hn
theorem aHP (f:Int) (w:List Eg) (hb:w.length≤90000):∀ (m:Nat) (fl:Bool) (acc:List Int),m≤w.length→abq (w.take m) f=false →
 Ev2 (fun k n=>adt k n f w fl acc f ((m:Int) - 1)) ((true,[]),()):=by
 intro m
 induction m with
 | zero =>
   intro fl acc _ h
   refine .up ⟨0,fun k n _ _=>?_⟩
   refine (agA ..).trans ?_
   rw [bf (by omega)]
 | succ m ih =>
   intro fl acc hm h
   have hlt:m < w.length:=by omega
   have hx:w[m]?=some w[m]:=List.getElem?_eq_getElem hlt
   rw [ayz hx] at h
   generalize w[m]=s at hx h
   have e1:((m+1:Nat):Int) - 1=((m:Nat):Int):=by omega
   rw [e1]
   rw [Bool.or_eq_false_iff] at h
   have hs:¬ s.1=f:=of_decide_eq_false h.2
   obtain ⟨K,hK⟩:=ih fl acc (by omega) h.1
   refine .up (.upk ⟨K,fun k n hk hn=>?_⟩)
   refine (agA ..).trans ?_
   rw [bt (by omega),aaV hx,Option.bind_some,dF hs]
   refine (ak1 ..).trans ?_
   rw [aiY (by omega)]
   exact hK (k+1) n (by omega) hn
theorem aFw {f c:Int} {l:List Eg} {s:List Int×List Eg} {e:Eg} (he:e∈l):(agl f c s e).2.length+alh (agl f c s e).2 l≤s.2.length+alh s.2 l:=by
 unfold agl
 cases hk:decide (e.1=c)&&!abq s.2 e.2.1 with
 | false=>exact Nat.le_refl _
 | true =>
   rw [Bool.and_eq_true] at hk
   have:=aAr he (by simpa using hk.2) e.1
   show (s.2++_).length+alh (s.2++_) l≤_
   simp only [List.length_append,List.length_singleton]
   omega
theorem aB9 {f c:Int} {l:List Eg}:∀ (r:List Eg) (s:List Int×List Eg),(∀ e∈r,e∈l)→(r.foldl (agl f c) s).2.length+alh (r.foldl (agl f c) s).2 l≤s.2.length+alh s.2 l
 | [],_,_=>Nat.le_refl _
 | e :: r,s,h=>Nat.le_trans (aB9 r _ fun e he=>h e (List.mem_cons_of_mem _ he)) (aFw (h e (List.mem_cons_self ..)))
theorem aDW {f:Int} {l:List Eg}:∀ (u:Nat) (q:List Int) (out:List Eg),(bfs f l u q out).length≤out.length+alh out l
 | 0,_,_=>Nat.le_add_right ..
 | _+1,[],_=>Nat.le_add_right ..
 | u+1,c :: q,out=>Nat.le_trans (aDW u _ _) (aB9 l (q,out) fun _ h=>h)
theorem aGA (l:List Eg) (f:Int) (hl:l.length≤40000):∃ a,Ev (fun k=>aje k l f) ((!azz l f,a),()):=by
 have hS:=aF4 [] l
 have h1:=(aH0 f l hl (1+l.length) [f] 0 true false [] (by simp) (by simp; omega) (by simp; omega) (by simp; omega)).dg
 rw [List.drop_zero] at h1
 have hm:=aDW (f:=f) (l:=l) (1+l.length) [f] []
 have hch:Chain f (bfs f l (1+l.length) [f] []):=aBV _ _ _ (fun i s h=>by simp at h) (fun n hn=>by rw [List.mem_singleton] at hn; exact .inl hn)
 unfold azz
 generalize bfs f l (1+l.length) [f] []=w at h1 hm hch
 have hm:w.length≤40000:=by simp at hm; omega
 have e:∀ k,anf k l f=agX k k l f true [] false [f] ((0:Nat):Int):=fun k=>aBu k l f
 cases hk:abq w f with
 | true =>
   obtain ⟨a,h2⟩:=aGy f w hch (by omega) w.length true [] f (Nat.le_refl _) (by simp; omega) (by rw [List.take_length]; exact hk)
   refine ⟨a,?_⟩
   simp only [atC,e]
   refine .bind h1 ?_
   obtain ⟨K,hK⟩:=h2.dg
   refine ⟨K,fun k hk=>?_⟩
   show adt k k f w true [] f (wr .i64 ((w.length:Int) - 1))=_
   rw [aiY (by omega)]
   exact hK k hk
 | false =>
   refine ⟨[],?_⟩
   simp only [atC,e]
   refine .bind h1 ?_
   obtain ⟨K,hK⟩:=(aHP f w (by omega) w.length true [] (Nat.le_refl _) (by rw [List.take_length]; exact hk)).dg
   refine ⟨K,fun k hk=>?_⟩
   show adt k k f w true [] f (wr .i64 ((w.length:Int) - 1))=_
   rw [aiY (by omega)]
   exact hK k hk
variable {rA : Mp} {rC:Int} {rN:Nat} {rB:List Tb} {rT:List Sx}
theorem aAG (x:Lk):∀ ws:List Lk,(∀ j w,j < agH ws x→ws[j]?=some w→ajq w x=false)∧(∀ w,ws[agH ws x]?=some w→ajq w x=true)
 | []=>⟨fun j w h _=>absurd h (by simp [agH]),fun w h=>by simp [agH] at h⟩
 | y :: ws=>by
   obtain ⟨h1,h2⟩:=aAG x ws
   have e:agH (y :: ws) x=if ajq y x=true then 0 else agH ws x+1:=by
     unfold agH
     rw [List.findIdx?_cons]
     cases ajq y x with
     | true=>rfl
     | false =>
       show (match (ws.findIdx? fun w=>ajq w x).map (fun i=>i+1) with | some i=>i | none=>(y :: ws).length)=_
       cases ws.findIdx? fun w=>ajq w x <;> rfl
   rw [e]
   cases hs:ajq y x with
   | true=>exact ⟨fun j w h _=>absurd h (by simp),fun w h=>by simp at h; rw [← h]; exact hs⟩
   | false =>
     refine ⟨fun j w h hw=>?_,fun w h=>?_⟩
     · cases j with
       | zero=>simp at hw; rw [← hw]; exact hs
       | succ j=>exact h1 j w (by simpa using h) (by simpa using hw)
     · exact h2 w (by simpa using h)
theorem aHO (hs ws:List Lk) (x:Lk) (b1:hs.length≤100) (b2:ws.length≤100) (nz:NZ ws) (hl:(amd hs ws).length≤40000) :
 ∃ e ws',Ev (fun k=>aaR k rA rC rN hs ws rB rT x.1 x.2.1 x.2.2.1 x.2.2.2.1 x.2.2.2.2.1) ((false,(e,())),((rA,(rC,(rN,(hs,(ws',(rB,())))))),((rT,()),()))) ∧
   ((azz (amd hs ws) x.1=true∧e=131∧ws'=agr ws x.1)∨(azz (amd hs ws) x.1=false∧e=0∧ws'=ws)):=by
 have hE:=aGB (rA:=rA) (rC:=rC) (rN:=rN) (rB:=rB) (rT:=rT) hs ws b1 b2
 obtain ⟨a,hC⟩:=aGA (amd hs ws) x.1 hl
 cases hr:azz (amd hs ws) x.1 with
 | true =>
   rw [hr] at hC
   refine ⟨131,agr ws x.1,.up ?_,.inl ⟨rfl,rfl,rfl⟩⟩
   simp only [alF]
   refine .bind hE.sh (.bind hC.sh ?_)
   have:=awi (rA:=rA) (rC:=rC) (rN:=rN) (rB:=rB) (rT:=rT) x.1 awu hs ws (by omega)
   rw [aA0 nz] at this
   exact .bind this.sh (.from 0 fun k=>rfl)
 | false =>
   rw [hr] at hC
   refine ⟨0,ws,.up ?_,.inr ⟨rfl,rfl,rfl⟩⟩
   simp only [alF]
   exact .bind hE.sh (.bind hC.sh (.from 0 fun k=>rfl))
theorem aAp {α:Type} {l:List α} {n:Nat} (h:n≤l.length):cut l (0:Int) (n:Int)=some (l.take n):=awA h
theorem aCw (x:Lk) (k:Nat) (hs ws:List Lk):adz k x rA rC rN hs ws rB rT =
 bif mayP x then ab8 k k hs (hs.length:Int) (0:Int) rA rC rN hs ws rB rT x.1 x.2.1 x.2.2.1 x.2.2.2.1 x.2.2.2.2.1 else some ((false,((1:Int),())),((rA,(rC,(rN,(hs,(ws,(rB,())))))),((rT,()),()))):=by
 rw [avY]
 simp only [aFF,Option.bind_some]
 unfold mayP
 by_cases h1:x.2.2.1 < 1
 · rw [dT h1,dF (p:=1≤x.2.2.1) (by omega)]
   cases decide (x.1=0) <;> cases decide (x.2.1=0) <;> cases decide (x.2.1=1) <;> rfl
 · by_cases h2:4 < x.2.2.1
   · rw [dF h1,dT h2,dF (p:=x.2.2.1≤4) (by omega)]
     cases decide (x.1=0) <;> cases decide (x.2.1=0) <;> cases decide (x.2.1=1) <;> cases decide (1≤x.2.2.1) <;> rfl
   · rw [dF h1,dF h2,dT (p:=x.2.2.1≤4) (by omega),dT (p:=1≤x.2.2.1) (by omega)]
     cases decide (x.1=0) <;> cases decide (x.2.1=0) <;> cases decide (x.2.1=1) <;> cases endP x.2.2.2.2.1 x.2.2.2.1 <;> rfl
theorem aJj {hs ws:List Lk} (x:Lk) (b1:hs.length≤90) (b2:ws.length≤90) (nz:NZ ws) (hl:∀ ws':List Lk,ws'.length≤100→(amd hs ws').length≤40000) :
 ∃ b e hs' ws',Ev (fun k=>adz k x rA rC rN hs ws rB rT) ((b,(e,())),((rA,(rC,(rN,(hs',(ws',(rB,())))))),((rT,()),())))∧askR hs ws x b e hs' ws':=by
 cases hm:mayP x with
 | false =>
   refine ⟨false,1,hs,ws,.from 0 fun k=>?_,.inl ⟨hm,rfl,rfl,rfl,rfl⟩⟩
   rw [aCw,hm]; rfl
 | true =>
 simp only [aCw,hm]
 have hx0:x.1≠0:=by
  unfold mayP at hm
  rw [Bool.and_eq_true] at hm
  simpa using hm.1
 cases hc:hs.any fun h=>covP h x with
 | true =>
   refine ⟨true,0,hs,ws,?_,.inr (.inl ⟨hm,hc,rfl,rfl,rfl,rfl⟩)⟩
   have key:∀ d j,j+d=hs.length→(hs.drop j).any (fun h=>covP h x)=true→Ev2 (fun k n=>ab8 k n hs (hs.length:Int) (j:Int) rA rC rN hs ws rB rT x.1 x.2.1 x.2.2.1 x.2.2.2.1 x.2.2.2.2.1) ((true,((0:Int),())),((rA,(rC,(rN,(hs,(ws,(rB,())))))),((rT,()),()))):=by
    intro d
    induction d with
    | zero =>
      intro j hj h
      rw [List.drop_eq_nil_of_le (by omega)] at h; simp at h
    | succ d ih =>
      intro j hj h
      have hlt:j < hs.length:=by omega
      have hx:nth hs (j:Int)=some hs[j]:=aaV (List.getElem?_eq_getElem hlt)
      rw [List.drop_eq_getElem_cons hlt,List.any_cons] at h
      generalize hs[j]=w at hx h
      cases hw:covP w x with
      | true =>
        refine .up ⟨0,fun k n _ _=>?_⟩
        refine (afH ..).trans ?_
        rw [bt (by omega),hx,Option.bind_some]
        simp only [azj,eta5,hw]; rfl
      | false =>
        rw [hw] at h
        obtain ⟨K,hK⟩:=ih (j+1) (by omega) h
        refine .up ⟨K,fun k n hk hn=>?_⟩
        refine (afH ..).trans ?_
        rw [bt (by omega),hx,Option.bind_some]
        simp only [azj,eta5,hw,abr (show j < 1000000 by omega)]
        exact hK k n hk hn
   exact (key hs.length 0 (by omega) hc).dg
 | false =>
   have hll:=aCe ws x
   have nzl:NZ (aa3 ws x):=fun w hw=>nz w (arc hw)
   have spec:=aAG x (aa3 ws x)
   have pl:=aCD (aa3 ws x) x
   obtain ⟨b,e,hs',ws',hE,hR⟩:∃ b e hs' ws',Ev2 (fun k n=>adA k n (agH (aa3 ws x) x:Int) rA rC rN hs (aa3 ws x) rB rT x.1 x.2.1 x.2.2.1 x.2.2.2.1 x.2.2.2.2.1) ((b,(e,())),((rA,(rC,(rN,(hs',(ws',(rB,())))))),((rT,()),())))∧askR hs ws x b e hs' ws':=by
    generalize hat:agH (aa3 ws x) x=at_ at spec pl
    have hway:=aGL (rA:=rA) (rC:=rC) (rN:=rN) (rB:=rB) (rT:=rT) x ((aa3 ws x).take at_) hs (aa3 ws x) (by omega) (by rw [List.length_take]; omega)
    cases hw:wayP hs ((aa3 ws x).take at_) x with
    | nil =>
      rw [hw] at hway
      have hl2:=awi (rA:=rA) (rC:=rC) (rN:=rN) (rB:=rB) (rT:=rT) x.1 awu hs (aa3 ws x) (by omega)
      rw [aA0 nzl] at hl2
      refine ⟨true,0,hs++[x],agr (aa3 ws x) x.1,?_,.inr (.inr (.inl ⟨hm,hc,by rw [hat]; exact hw,rfl,.inr ⟨by omega,rfl,rfl,rfl⟩⟩))⟩
      obtain ⟨K,hK⟩:=hway
      obtain ⟨K2,hK2⟩:=hl2
      refine .up ⟨Nat.max K K2,fun k n hk hn=>?_⟩
      have k1:=hK k (Nat.le_trans (Nat.le_max_left K K2) hk)
      have k2:=hK2 k (Nat.le_trans (Nat.le_max_right K K2) hk)
      refine (ahQ ..).trans ?_
      have go:∀ (A:Option (List Lk)),A=some ((aa3 ws x).take at_)→(A.bind fun x35=>(ac5 k (x.1,(x.2.1,(x.2.2.1,(x.2.2.2.1,(x.2.2.2.2.1,()))))) x35 rA rC rN hs (aa3 ws x) rB rT).bind fun r36=>(bif (decide ((r36.1.length:Int)=0)) then (aa9 k x.1 ((0:Int),((0:Int),((0:Int),([],([],()))))) r36.2.1.1 r36.2.1.2.1 r36.2.1.2.2.1 r36.2.1.2.2.2.1 r36.2.1.2.2.2.2.1 r36.2.1.2.2.2.2.2.1 r36.2.2.1.1).bind fun r37=>(bif (decide (400≤(r37.2.1.2.2.2.1.length:Int))) then some ((false,((132:Int),())),((r37.2.1.1,(r37.2.1.2.1,(r37.2.1.2.2.1,(r37.2.1.2.2.2.1,(r37.2.1.2.2.2.2.1,(r37.2.1.2.2.2.2.2.1,())))))),((r37.2.2.1.1,()),()))) else must (beqI (r37.2.1.2.2.2.1.length:Int) (r37.2.1.2.2.2.1.length:Int)) ((cut r37.2.1.2.2.2.1 0 (r37.2.1.2.2.2.1.length:Int)).bind fun x38=>lim (x38.length+([(x.1,(x.2.1,(x.2.2.1,(x.2.2.2.1,(x.2.2.2.2.1,())))))]:List Lk).length) (some ((true,((0:Int),())),((r37.2.1.1,(r37.2.1.2.1,(r37.2.1.2.2.1,((x38++([(x.1,(x.2.1,(x.2.2.1,(x.2.2.2.1,(x.2.2.2.2.1,())))))]:List Lk)),(r37.2.1.2.2.2.2.1,(r37.2.1.2.2.2.2.2.1,())))))),((r37.2.2.1.1,()),())))))) else (bif (decide ((at_:Int)=(r36.2.1.2.2.2.2.1.length:Int))) then must (beqI (at_:Int) (at_:Int)) ((cut r36.2.1.2.2.2.2.1 0 (at_:Int)).bind fun x39=>lim (x39.length+([(x.1,(x.2.1,(x.2.2.1,(x.2.2.2.1,(x.2.2.2.2.1,())))))]:List Lk).length) (aaR k r36.2.1.1 r36.2.1.2.1 r36.2.1.2.2.1 r36.2.1.2.2.2.1 (x39++([(x.1,(x.2.1,(x.2.2.1,(x.2.2.2.1,(x.2.2.2.2.1,())))))]:List Lk)) r36.2.1.2.2.2.2.2.1 r36.2.2.1.1 x.1 x.2.1 x.2.2.1 x.2.2.2.1 x.2.2.2.2.1)) else aaR k r36.2.1.1 r36.2.1.2.1 r36.2.1.2.2.1 r36.2.1.2.2.2.1 r36.2.1.2.2.2.2.1 r36.2.1.2.2.2.2.2.1 r36.2.2.1.1 x.1 x.2.1 x.2.2.1 x.2.2.2.1 x.2.2.2.2.1)))=some ((true,((0:Int),())),((rA,(rC,(rN,(hs++[x],(agr (aa3 ws x) x.1,(rB,())))))),((rT,()),()))):=by
         rintro A rfl
         refine (bndE k1).trans ?_
         show (aa9 k x.1 awu rA rC rN hs (aa3 ws x) rB rT).bind _=_
         refine (bndE k2).trans ?_
         show (bif decide (400≤(hs.length:Int)) then _ else must (beqI _ _) ((cut hs 0 (hs.length:Int)).bind _))=_
         rw [bf (by omega),aAp (Nat.le_refl _),List.take_length,show beqI (hs.length:Int) (hs.length:Int)=true from (atQ _ _).2 rfl]
         show lim (hs.length+1) _=_
         rw [ags (by omega)]
      by_cases hlt:at_ < (aa3 ws x).length
      · rw [bt (by omega),aaV (List.getElem?_eq_getElem hlt),Option.bind_some,azB,Option.bind_some,spec.2 _ (List.getElem?_eq_getElem hlt)]
        exact go _ (aAp pl)
      · rw [bf (by omega)]
        exact go _ (aAp pl)
    | cons y ys =>
      rw [hw] at hway
      have hne:aop hs (aa3 ws x) x (agH (aa3 ws x) x)≠[]:=by rw [aGa,hat,hw]; exact List.cons_ne_nil _ _
      have nzj:NZ (ao7 (aa3 ws x) x):=fun w hw=>(aAY hw).elim (nzl w) fun h=>by rw [h]; exact hx0
      have jl:=aD8 (aa3 ws x) x
      obtain ⟨e,ws',hJ,hR⟩:=aHO (rA:=rA) (rC:=rC) (rN:=rN) (rB:=rB) (rT:=rT) hs (ao7 (aa3 ws x) x) x (by omega) (by omega) nzj (hl _ (by omega))
      refine ⟨false,e,hs,ws',?_,.inr (.inr (.inr ⟨hm,hc,hne,rfl,rfl,hR⟩))⟩
      obtain ⟨K,hK⟩:=hway
      obtain ⟨K2,hK2⟩:=hJ
      refine .up ⟨Nat.max K K2,fun k n hk hn=>?_⟩
      have k1:=hK k (Nat.le_trans (Nat.le_max_left K K2) hk)
      have k2:=hK2 k (Nat.le_trans (Nat.le_max_right K K2) hk)
      refine (ahQ ..).trans ?_
      have go:∀ (A:Option (List Lk)),A=some ((aa3 ws x).take at_)→(A.bind fun x35=>(ac5 k (x.1,(x.2.1,(x.2.2.1,(x.2.2.2.1,(x.2.2.2.2.1,()))))) x35 rA rC rN hs (aa3 ws x) rB rT).bind fun r36=>(bif (decide ((r36.1.length:Int)=0)) then (aa9 k x.1 ((0:Int),((0:Int),((0:Int),([],([],()))))) r36.2.1.1 r36.2.1.2.1 r36.2.1.2.2.1 r36.2.1.2.2.2.1 r36.2.1.2.2.2.2.1 r36.2.1.2.2.2.2.2.1 r36.2.2.1.1).bind fun r37=>(bif (decide (400≤(r37.2.1.2.2.2.1.length:Int))) then some ((false,((132:Int),())),((r37.2.1.1,(r37.2.1.2.1,(r37.2.1.2.2.1,(r37.2.1.2.2.2.1,(r37.2.1.2.2.2.2.1,(r37.2.1.2.2.2.2.2.1,())))))),((r37.2.2.1.1,()),()))) else must (beqI (r37.2.1.2.2.2.1.length:Int) (r37.2.1.2.2.2.1.length:Int)) ((cut r37.2.1.2.2.2.1 0 (r37.2.1.2.2.2.1.length:Int)).bind fun x38=>lim (x38.length+([(x.1,(x.2.1,(x.2.2.1,(x.2.2.2.1,(x.2.2.2.2.1,())))))]:List Lk).length) (some ((true,((0:Int),())),((r37.2.1.1,(r37.2.1.2.1,(r37.2.1.2.2.1,((x38++([(x.1,(x.2.1,(x.2.2.1,(x.2.2.2.1,(x.2.2.2.2.1,())))))]:List Lk)),(r37.2.1.2.2.2.2.1,(r37.2.1.2.2.2.2.2.1,())))))),((r37.2.2.1.1,()),())))))) else (bif (decide ((at_:Int)=(r36.2.1.2.2.2.2.1.length:Int))) then must (beqI (at_:Int) (at_:Int)) ((cut r36.2.1.2.2.2.2.1 0 (at_:Int)).bind fun x39=>lim (x39.length+([(x.1,(x.2.1,(x.2.2.1,(x.2.2.2.1,(x.2.2.2.2.1,())))))]:List Lk).length) (aaR k r36.2.1.1 r36.2.1.2.1 r36.2.1.2.2.1 r36.2.1.2.2.2.1 (x39++([(x.1,(x.2.1,(x.2.2.1,(x.2.2.2.1,(x.2.2.2.2.1,())))))]:List Lk)) r36.2.1.2.2.2.2.2.1 r36.2.2.1.1 x.1 x.2.1 x.2.2.1 x.2.2.2.1 x.2.2.2.2.1)) else aaR k r36.2.1.1 r36.2.1.2.1 r36.2.1.2.2.1 r36.2.1.2.2.2.1 r36.2.1.2.2.2.2.1 r36.2.1.2.2.2.2.2.1 r36.2.2.1.1 x.1 x.2.1 x.2.2.1 x.2.2.2.1 x.2.2.2.2.1)))=some ((false,(e,())),((rA,(rC,(rN,(hs,(ws',(rB,())))))),((rT,()),()))):=by
         rintro A rfl
         refine (bndE k1).trans ?_
         show (bif decide (((y :: ys).length:Int)=0) then _ else (bif decide ((at_:Int)=((aa3 ws x).length:Int)) then must (beqI (at_:Int) at_) ((cut (aa3 ws x) 0 (at_:Int)).bind _) else aaR k rA rC rN hs (aa3 ws x) rB rT _ _ _ _ _))=_
         rw [bf (by simp; omega)]
         by_cases he:at_=(aa3 ws x).length
         · have ej:ao7 (aa3 ws x) x=aa3 ws x++[x]:=by unfold ao7; rw [if_pos (by omega)]
           rw [ej] at k2
           rw [bt (by omega),aAp pl,he,List.take_length,show beqI ((aa3 ws x).length:Int) ((aa3 ws x).length:Int)=true from (atQ _ _).2 rfl]
           show lim ((aa3 ws x).length+1) _=_
           rw [ags (by omega)]
           exact k2
         · have ej:ao7 (aa3 ws x) x=aa3 ws x:=by unfold ao7; rw [if_neg (by omega)]
           rw [ej] at k2
           rw [bf (by omega)]
           exact k2
      by_cases hlt:at_ < (aa3 ws x).length
      · rw [bt (by omega),aaV (List.getElem?_eq_getElem hlt),Option.bind_some,azB,Option.bind_some,spec.2 _ (List.getElem?_eq_getElem hlt)]
        exact go _ (aAp pl)
      · rw [bf (by omega)]
        exact go _ (aAp pl)
   refine ⟨b,e,hs',ws',?_,hR⟩
   have l1:∀ d j,j+d=agH (aa3 ws x) x→Ev2 (fun k n=>adA k n (j:Int) rA rC rN hs (aa3 ws x) rB rT x.1 x.2.1 x.2.2.1 x.2.2.2.1 x.2.2.2.2.1) ((b,(e,())),((rA,(rC,(rN,(hs',(ws',(rB,())))))),((rT,()),()))):=by
    intro d
    induction d with
    | zero =>
      intro j hj
      have hj:j=agH (aa3 ws x) x:=by omega
      subst hj
      exact hE
    | succ d ih =>
      intro j hj
      have hlt:j < (aa3 ws x).length:=by omega
      have hx:=List.getElem?_eq_getElem hlt
      have hs:=spec.1 j _ (by omega) hx
      obtain ⟨K,hK⟩:=ih (j+1) (by omega)
      refine .up ⟨K,fun k n hk hn=>?_⟩
      refine (ahQ ..).trans ?_
      rw [bt (by omega),aaV hx,Option.bind_some,azB,Option.bind_some,hs,abr (by omega)]
      exact hK k n hk hn
   have key:∀ d j,j+d=hs.length→(hs.drop j).any (fun h=>covP h x)=false→Ev2 (fun k n=>ab8 k n hs (hs.length:Int) (j:Int) rA rC rN hs ws rB rT x.1 x.2.1 x.2.2.1 x.2.2.2.1 x.2.2.2.2.1) ((b,(e,())),((rA,(rC,(rN,(hs',(ws',(rB,())))))),((rT,()),()))):=by
    intro d
    induction d with
    | zero =>
      intro j hj h
      have:j=hs.length:=by omega
      subst this
      have hl:=awi (rA:=rA) (rC:=rC) (rN:=rN) (rB:=rB) (rT:=rT) x.1 x hs ws (by omega)
      rw [aHx] at hl
      obtain ⟨K,hK⟩:=hl
      obtain ⟨K2,hK2⟩:=(l1 (agH (aa3 ws x) x) 0 (by omega)).dg
      refine .up ⟨Nat.max K K2,fun k n hk hn=>?_⟩
      refine (afH ..).trans ?_
      rw [bf (by omega)]
      refine (bndE (hK k (Nat.le_trans (Nat.le_max_left K K2) hk))).trans ?_
      exact hK2 k (Nat.le_trans (Nat.le_max_right K K2) hk)
    | succ d ih =>
      intro j hj h
      have hlt:j < hs.length:=by omega
      have hx:nth hs (j:Int)=some hs[j]:=aaV (List.getElem?_eq_getElem hlt)
      rw [List.drop_eq_getElem_cons hlt,List.any_cons,Bool.or_eq_false_iff] at h
      generalize hs[j]=w at hx h
      obtain ⟨K,hK⟩:=ih (j+1) (by omega) h.2
      refine .up ⟨K,fun k n hk hn=>?_⟩
      refine (afH ..).trans ?_
      rw [bt (by omega),hx,Option.bind_some]
      simp only [azj,eta5,h.1,abr (show j < 1000000 by omega)]
      exact hK k n hk hn
   exact (key hs.length 0 (by omega) hc).dg
theorem aHg {hs ws:List Lk} {x:Lk} {b b':Bool} {e e':Int} {h1 w1 h2 w2:List Lk} (R:askR hs ws x b e h1 w1) (R':askR hs ws x b' e' h2 w2):b=b'∧e=e'∧h1=h2∧w1=w2:=by
 rcases R with ⟨a1,rfl,rfl,rfl,rfl⟩ | ⟨a1,a2,rfl,rfl,rfl,rfl⟩ | ⟨a1,a2,a3,rfl,⟨a4,rfl,rfl,rfl⟩ | ⟨a4,rfl,rfl,rfl⟩⟩ | ⟨a1,a2,a3,rfl,rfl,⟨a4,rfl,rfl⟩ | ⟨a4,rfl,rfl⟩⟩ <;>
  rcases R' with ⟨c1,rfl,rfl,rfl,rfl⟩ | ⟨c1,c2,rfl,rfl,rfl,rfl⟩ | ⟨c1,c2,c3,rfl,⟨c4,rfl,rfl,rfl⟩ | ⟨c4,rfl,rfl,rfl⟩⟩ | ⟨c1,c2,c3,rfl,rfl,⟨c4,rfl,rfl⟩ | ⟨c4,rfl,rfl⟩⟩ <;>
  first
   | exact ⟨rfl,rfl,rfl,rfl⟩
   | exact absurd (a1.symm.trans c1) (by decide)
   | exact absurd (a2.symm.trans c2) (by decide)
   | exact absurd a3 c3
   | exact absurd c3 a3
   | exact absurd (a4.symm.trans c4) (by decide)
   | omega
theorem NZ.ask {hs ws hs' ws':List Lk} {x:Lk} {b:Bool} {e:Int} (N:NZ ws) (R:askR hs ws x b e hs' ws'):NZ ws':=by
 have nl:NZ (aa3 ws x):=fun w hw=>N w (arc hw)
 have x0:mayP x=true→x.1≠0:=fun hm=>by
  unfold mayP at hm
  rw [Bool.and_eq_true] at hm
  simpa using hm.1
 have nj:mayP x=true→NZ (ao7 (aa3 ws x) x):=fun hm w hw=>(aAY hw).elim (nl w) fun h=>by rw [h]; exact x0 hm
 rcases R with ⟨_,_,_,_,rfl⟩ | ⟨_,_,_,_,_,rfl⟩ | ⟨_,_,_,rfl,_⟩ | ⟨hm,_,_,_,_,⟨_,_,rfl⟩ | ⟨_,_,rfl⟩⟩
 · exact N
 · exact N
 · exact fun w hw=>nl w (aoo hw)
 · exact fun w hw=>nj hm w (aoo hw)
 · exact nj hm
theorem NZ.free {ws:List Lk} (N:NZ ws) (t:Int):NZ (agr ws t):=fun w hw=>N w (aoo hw)
theorem axm (x:Int):∀ (r:List Lk) (out:List Eg),(r.foldl (fun out h=>addE out (x,(h.1,()))) out).length≤out.length+r.length
 | [],_=>Nat.le_refl _
 | h :: r,out=>by
   have h1:=axm x r (addE out (x,(h.1,())))
   have h2:=aHd out (x,(h.1,()))
   simp only [List.foldl_cons,List.length_cons]
   omega
theorem au9 (hs ws:List Lk) (h1:hs.length≤100) (h2:ws.length≤100):∀ (r:List Lk) (i:Nat) (out:List Eg),(ag6 hs ws i r out).length≤out.length+r.length * 200
 | [],_,out=>by simp [ag6]
 | x :: r,i,out=>by
   have ih:=au9 hs ws h1 h2 r (i+1) ((aop hs ws x i).foldl (fun out h=>addE out (x.1,(h.1,()))) out)
   have hf:=axm x.1 (aop hs ws x i) out
   have hw:=aCb hs ws x i
   simp only [ag6,List.length_cons]
   omega
theorem aFU (hs ws:List Lk) (h1:hs.length≤100) (h2:ws.length≤100):(amd hs ws).length≤40000:=by
 have:=au9 hs ws h1 h2 ws 0 []
 unfold amd
 simp at this
 omega
theorem anyL {α ρ:Type} {L:Nat→Int→Option ρ} {w:List α} {p:α→Bool} {F:ρ} {C:Option ρ}
 (hs:∀ n (j:Nat) x,j < w.length→w[j]?=some x→L (n+1) (j:Int)=bif p x then some F else L n ((j+1:Nat):Int)) (hd:∀ n,L (n+1) (w.length:Int)=C) :
 ∀ d j n,j+d=w.length→d < n→L n (j:Int)=bif (w.drop j).any p then some F else C
 | 0,j,n+1,hj,_=>by
   have:j=w.length:=by omega
   subst this
   rw [hd,List.drop_length]; rfl
 | d+1,j,n+1,hj,hn=>by
   have hlt:j < w.length:=by omega
   rw [hs n j _ hlt (List.getElem?_eq_getElem hlt),List.drop_eq_getElem_cons hlt,List.any_cons,anyL hs hd d (j+1) n (by omega) (by omega)]
   cases p w[j] <;> rfl
abbrev RO : Type:=Rs×((Mp×(Int×(Nat×(List Lk×(List Lk×(List Tb×Unit))))))×((List Sx×Unit)×(Rs×Unit)))
def azD (r:Rs) (A:Mp) (cl:Int) (nt:Nat) (hs ws:List Lk) (B:List Tb) (T:List Sx):RO:=(r,((A,(cl,(nt,(hs,(ws,(B,())))))),((T,()),(r,()))))
section
variable (t : Tb) (A:Mp) (cl:Int) (nt:Nat) (hs ws:List Lk) (B:List Tb) (T:List Sx)
theorem aKE (k:Nat) (h1:t.2.2.1.length≤60000) (h0:0≤t.2.2.2.1) (h2:t.2.2.2.1 < (t.2.2.1.length:Int)) (hb:B.length≤1000) (n:Nat) (hn:2000≤n) :
 acm k n B (B.length:Int) (0:Int) A cl nt hs ws B T t.1 t.2.1 t.2.2.1 t.2.2.2.1 t.2.2.2.2.1 0 0 0 false [] [] [] 151 0 0 false [] [] []=bif B.any (fun y=>beqL y.2.1 t.2.1) then some (azD (errR 151) A cl nt hs ws B T) else some (azD (tabR [newT B.length t]) A cl nt hs ws (B++[newT B.length t]) T):=by
 have kx:=List.getElem?_eq_getElem (l:=t.2.2.1) (i:=t.2.2.2.1.toNat) (by omega)
 have en:newT B.length t=((B.length:Int)+1,(t.2.1,(t.2.2.1.set t.2.2.2.1.toNat ((t.2.2.1[t.2.2.2.1.toNat]'(by omega)).1,((t.2.2.1[t.2.2.2.1.toNat]'(by omega)).2.1,(true,(t.2.2.1[t.2.2.2.1.toNat]'(by omega)).2.2.2))),(t.2.2.2.1,(t.2.2.2.2.1,()))))):=by
  unfold newT aGQ; rw [kx]
 have:=anyL (L:=fun n j=>acm k n B (B.length:Int) j A cl nt hs ws B T t.1 t.2.1 t.2.2.1 t.2.2.2.1 t.2.2.2.2.1 0 0 0 false [] [] [] 151 0 0 false [] [] []) (w:=B) (p:=fun y=>beqL y.2.1 t.2.1) (F:=azD (errR 151) A cl nt hs ws B T) (C:=some (azD (tabR [newT B.length t]) A cl nt hs ws (B++[newT B.length t]) T))
  (fun n j y hj hy=>by
   refine (akL ..).trans ?_
   rw [bt (by omega),aaV hy,Option.bind_some,abr (by omega)]; rfl)
  (fun n=>by
   refine (akL ..).trans ?_
   rw [bf (by omega),ags (by omega),ajG h0 h2,abm,kx,Option.bind_some,show beqI (B.length:Int) (B.length:Int)=true from (atQ _ _).2 rfl,abm,awA (Nat.le_refl _),List.take_length,Option.bind_some,aiY (by omega),← en,ags (by simp; omega)]
   rfl) B.length 0 n (Nat.zero_add _) (by omega)
 exact this
theorem aKB (k:Nat) (hk:2000≤k) (n1:Int) (X:List Int) (hx:X.length≤1000) (n:Nat) (i:Int) (x:Int) (b:Bool)(a1 a2:Int) (l:List Int) :
 adl k n k x l a1 i a2 t.2.2.1 n1 b X (X.length:Int) (0:Int) A cl nt hs ws B T t.1 t.2.1 t.2.2.1 t.2.2.2.1 t.2.2.2.2.1 0 0 0 false [] [] [] 151 0 0 false [] [] []=bif X.any (fun y=>decide (x=y)) then some (azD (errR 151) A cl nt hs ws B T) else abA k n l a1 (wr .i64 (i+1)) A cl nt hs ws B T t.1 t.2.1 t.2.2.1 t.2.2.2.1 t.2.2.2.2.1 0 0 0 false [] [] [] 151 0 0 false [] [] []:=by
 have:=anyL (L:=fun m j=>adl k n m x l a1 i a2 t.2.2.1 n1 b X (X.length:Int) j A cl nt hs ws B T t.1 t.2.1 t.2.2.1 t.2.2.2.1 t.2.2.2.2.1 0 0 0 false [] [] [] 151 0 0 false [] [] []) (w:=X) (p:=fun y=>decide (x=y)) (F:=azD (errR 151) A cl nt hs ws B T) (C:=abA k n l a1 (wr .i64 (i+1)) A cl nt hs ws B T t.1 t.2.1 t.2.2.1 t.2.2.2.1 t.2.2.2.2.1 0 0 0 false [] [] [] 151 0 0 false [] [] [])
  (fun m j y hj hy=>by
   refine (akK ..).trans ?_
   rw [bt (by omega),aaV hy,Option.bind_some,abr (by omega)]; rfl)
  (fun m=>by
   refine (akK ..).trans ?_
   rw [bf (by omega)]) X.length 0 k (Nat.zero_add _) (by omega)
 exact this
theorem aKa (k:Nat) (hk:2000≤k) (X:List Cl) (hx:X.length≤1000) (n:Nat) (i:Int) (x:Cl) (b1 b2 b3:Bool)(a1 a2:Int) (l:List Cl) :
 acl k n k l a1 i a2 b1 b2 b3 X (X.length:Int) (0:Int) A cl nt hs ws B T t.1 t.2.1 t.2.2.1 t.2.2.2.1 t.2.2.2.2.1 0 0 0 false [] [] [] 151 0 0 false [] [] [] x.1 x.2.1 x.2.2.1=bif X.any (fun y=>beqL y.1 x.1) then some (azD (errR 151) A cl nt hs ws B T) else abQ k n l a1 (wr .i64 (i+1)) A cl nt hs ws B T t.1 t.2.1 t.2.2.1 t.2.2.2.1 t.2.2.2.2.1 0 0 0 false [] [] [] 151 0 0 false [] [] []:=by
 have:=anyL (L:=fun m j=>acl k n m l a1 i a2 b1 b2 b3 X (X.length:Int) j A cl nt hs ws B T t.1 t.2.1 t.2.2.1 t.2.2.2.1 t.2.2.2.2.1 0 0 0 false [] [] [] 151 0 0 false [] [] [] x.1 x.2.1 x.2.2.1) (w:=X) (p:=fun y=>beqL y.1 x.1) (F:=azD (errR 151) A cl nt hs ws B T) (C:=abQ k n l a1 (wr .i64 (i+1)) A cl nt hs ws B T t.1 t.2.1 t.2.2.1 t.2.2.2.1 t.2.2.2.2.1 0 0 0 false [] [] [] 151 0 0 false [] [] [])
  (fun m j y hj hy=>by
   refine (akI ..).trans ?_
   rw [bt (by omega),aaV hy,Option.bind_some,abr (by omega)]; rfl)
  (fun m=>by
   refine (akI ..).trans ?_
   rw [bf (by omega)]) X.length 0 k (Nat.zero_add _) (by omega)
 exact this
theorem rt_i (k:Nat) (hk:2000≤k) (hI:t.2.2.2.2.1.length≤1000):∀ d i n (S:List Int),i+d=t.2.2.2.2.1.length→d < n→(∀ x,x∈S↔x∈t.2.2.2.2.1.take i) →
 abA k n t.2.2.2.2.1 (t.2.2.2.2.1.length:Int) (i:Int) A cl nt hs ws B T t.1 t.2.1 t.2.2.1 t.2.2.2.1 t.2.2.2.2.1 0 0 0 false [] [] [] 151 0 0 false [] [] []=bif idxB (t.2.2.1.length:Int) S (t.2.2.2.2.1.drop i) then acm k k B (B.length:Int) (0:Int) A cl nt hs ws B T t.1 t.2.1 t.2.2.1 t.2.2.2.1 t.2.2.2.2.1 0 0 0 false [] [] [] 151 0 0 false [] [] [] else some (azD (errR 151) A cl nt hs ws B T)
 | 0,i,n+1,S,hi,_,_=>by
   refine (akJ ..).trans ?_
   rw [bf (by omega),List.drop_eq_nil_of_le (by omega)]; rfl
 | d+1,i,n+1,S,hi,hn,hS=>by
   have hlt:i < t.2.2.2.2.1.length:=by omega
   have hx:=aaV (List.getElem?_eq_getElem hlt)
   have htk:t.2.2.2.2.1.take (i+1)=t.2.2.2.2.1.take i++[t.2.2.2.2.1[i]]:=List.take_succ_eq_append_getElem hlt
   have ih:=rt_i k hk hI d (i+1) n (t.2.2.2.2.1[i] :: S) (by omega) (by omega) (fun x=>by rw [htk,List.mem_append,List.mem_singleton,List.mem_cons,hS x,or_comm])
   refine (akJ ..).trans ?_
   rw [bt (by omega),hx,Option.bind_some,List.drop_eq_getElem_cons hlt]
   generalize t.2.2.2.2.1[i]=x at *
   show _=bif ((!decide (x∈S))&&((!decide (x < 0))&&((!decide ((t.2.2.1.length:Int)≤x))&&idxB (t.2.2.1.length:Int) (x :: S) (t.2.2.2.2.1.drop (i+1))))) then _ else _
   by_cases c1:x < 0
   · rw [dT c1,Bool.not_true,Bool.false_and,Bool.and_false]; rfl
   by_cases c2:(t.2.2.1.length:Int)≤x
   · rw [dF c1,dT c2,Bool.not_true,Bool.false_and,Bool.and_false,Bool.and_false]; rfl
   rw [dF c1,bf c2,awA (by omega),Option.bind_some]
   refine (aKB t A cl nt hs ws B T k hk _ _ (by rw [List.length_take]; omega) n _ x _ _ _ _).trans ?_
   rw [abr (by omega),ih,dF c2]
   have e:(t.2.2.2.2.1.take i).any (fun y=>decide (x=y))=decide (x∈S):=by
     rw [Bool.eq_iff_iff,List.any_eq_true,decide_eq_true_eq,hS x]
     exact ⟨fun ⟨y,h1,h2⟩=>by rw [decide_eq_true_eq] at h2; rw [h2]; exact h1,fun h=>⟨x,h,dT rfl⟩⟩
   rw [e]
   cases decide (x∈S) <;> rfl
theorem rt_c (k:Nat) (hk:2000≤k) (hC:t.2.2.1.length≤1000):∀ d i n (S:List (List Int)),i+d=t.2.2.1.length→d < n→(∀ x,x∈S↔x=[]∨∃ y∈t.2.2.1.take i,y.1=x) →
 abQ k n t.2.2.1 (t.2.2.1.length:Int) (i:Int) A cl nt hs ws B T t.1 t.2.1 t.2.2.1 t.2.2.2.1 t.2.2.2.2.1 0 0 0 false [] [] [] 151 0 0 false [] [] []=bif aB1 S (t.2.2.1.drop i) then abA k k t.2.2.2.2.1 (t.2.2.2.2.1.length:Int) (0:Int) A cl nt hs ws B T t.1 t.2.1 t.2.2.1 t.2.2.2.1 t.2.2.2.2.1 0 0 0 false [] [] [] 151 0 0 false [] [] [] else some (azD (errR 151) A cl nt hs ws B T)
 | 0,i,n+1,S,hi,_,_=>by
   refine (akH ..).trans ?_
   rw [bf (by omega),List.drop_eq_nil_of_le (by omega)]; rfl
 | d+1,i,n+1,S,hi,hn,hS=>by
   have hlt:i < t.2.2.1.length:=by omega
   have hx:=aaV (List.getElem?_eq_getElem hlt)
   have htk:t.2.2.1.take (i+1)=t.2.2.1.take i++[t.2.2.1[i]]:=List.take_succ_eq_append_getElem hlt
   have ih:=rt_c k hk hC d (i+1) n (t.2.2.1[i].1 :: S) (by omega) (by omega) (fun x=>by
     rw [htk,List.mem_cons,hS x]
     constructor
     · rintro (h | h | ⟨y,h,e⟩)
       · exact .inr ⟨_,List.mem_append_right _ (List.mem_singleton.2 rfl),h.symm⟩
       · exact .inl h
       · exact .inr ⟨y,List.mem_append_left _ h,e⟩
     · rintro (h | ⟨y,h,e⟩)
       · exact .inr (.inl h)
       · rcases List.mem_append.1 h with h | h
         · exact .inr (.inr ⟨y,h,e⟩)
         · rw [List.mem_singleton] at h; subst h; exact .inl e.symm)
   refine (akH ..).trans ?_
   rw [bt (by omega),hx,Option.bind_some,List.drop_eq_getElem_cons hlt]
   generalize t.2.2.1[i]=x at *
   show _=bif ((!decide (x.1∈S))&&((decide (x.2.1=1)||decide (x.2.1=2))&&aB1 (x.1 :: S) (t.2.2.1.drop (i+1)))) then _ else _
   by_cases c0:x.1=[]
   · rw [show beqL x.1 []=true from (asu _ _).2 c0,show decide (x.1∈S)=true from dT ((hS _).2 (.inl c0))]; rfl
   rw [show beqL x.1 []=false from by rw [Bool.eq_false_iff]; exact fun h=>c0 ((asu _ _).1 h)]
   have e:(t.2.2.1.take i).any (fun y=>beqL y.1 x.1)=decide (x.1∈S):=by
     rw [Bool.eq_iff_iff,List.any_eq_true,decide_eq_true_eq,hS x.1]
     exact ⟨fun ⟨y,h1,h2⟩=>.inr ⟨y,h1,(asu _ _).1 h2⟩,fun h=>h.elim (fun h=>absurd h c0) fun ⟨y,h1,h2⟩=>⟨y,h1,(asu _ _).2 h2⟩⟩
   have hl:(t.2.2.1.take i).length≤1000:=by rw [List.length_take]; omega
   by_cases c1:x.2.1=1
   · rw [dT c1,awA (by omega)]
     refine (aKa t A cl nt hs ws B T k hk _ hl n _ x _ _ _ _ _ _).trans ?_
     rw [abr (by omega),ih,e]
     cases decide (x.1∈S) <;> rfl
   by_cases c2:x.2.1=2
   · rw [dF c1,dT c2,awA (by omega)]
     refine (aKa t A cl nt hs ws B T k hk _ hl n _ x _ _ _ _ _ _).trans ?_
     rw [abr (by omega),ih,e]
     cases decide (x.1∈S) <;> rfl
   · rw [dF c1,dF c2]
     cases decide (x.1∈S) <;> rfl
theorem aGG (h:smT t) (hb:B.length≤1000):Ev (fun k=>aek k t A cl nt hs ws B T) (azD (tabP B t).1 A cl nt hs ws (tabP B t).2 T):=by
 refine ⟨2000,fun k hk=>?_⟩
 show aek k t A cl nt hs ws B T=_
 rw [auI]
 unfold tabP aBc
 cases beqL t.2.1 [] with
 | true=>rfl
 | false =>
   by_cases c1:(t.2.2.1.length:Int) < 1
   · rw [dT c1]; rfl
   by_cases c2:12 < (t.2.2.1.length:Int)
   · rw [dF c1,dT c2]; rfl
   by_cases c3:t.2.2.2.1 < 0
   · rw [dF c1,dF c2,dT c3]; rfl
   by_cases c4:(t.2.2.1.length:Int)≤t.2.2.2.1
   · rw [dF c1,dF c2,dF c3,dT c4]; rfl
   by_cases c5:4 < (t.2.2.2.2.1.length:Int)
   · rw [dF c1,dF c2,dF c3,dF c4,dT c5]; rfl
   rw [dF c1,dF c2,dF c3,dF c4,dF c5]
   by_cases c6:40≤B.length
   · rw [dT (show (40:Int)≤(B.length:Int) by omega),dT c6]
     cases (aB1 [[]] t.2.2.1&&idxB (t.2.2.1.length:Int) [] t.2.2.2.2.1) <;> cases B.any fun y=>beqL y.2.1 t.2.1 <;> rfl
   rw [dF (show ¬ (40:Int)≤(B.length:Int) by omega),dF c6]
   have e1:=rt_c t A cl nt hs ws B T k hk (by omega) t.2.2.1.length 0 k [[]] (Nat.zero_add _) (by omega) (fun x=>by simp)
   have e2:=rt_i t A cl nt hs ws B T k hk (by omega) t.2.2.2.2.1.length 0 k [] (Nat.zero_add _) (by omega) (fun x=>by simp)
   have e3:=aKE t A cl nt hs ws B T k h.1 (by omega) (by omega) hb k hk
   refine Eq.trans (b:=abQ k k t.2.2.1 (t.2.2.1.length:Int) (0:Int) A cl nt hs ws B T t.1 t.2.1 t.2.2.1 t.2.2.2.1 t.2.2.2.2.1 0 0 0 false [] [] [] 151 0 0 false [] [] []) rfl ?_
   refine e1.trans ?_
   rw [show abA k k t.2.2.2.2.1 (t.2.2.2.2.1.length:Int) (0:Int) A cl nt hs ws B T t.1 t.2.1 t.2.2.1 t.2.2.2.1 t.2.2.2.2.1 0 0 0 false [] [] [] 151 0 0 false [] [] []=_ from e2,e3]
   simp only [List.drop_zero]
   cases aB1 [[]] t.2.2.1 <;> cases idxB (t.2.2.1.length:Int) [] t.2.2.2.2.1 <;> cases B.any fun y=>beqL y.2.1 t.2.1 <;> rfl
end
def wasL (c:Cm):Mp→Option Rs
 | []=>none
 | t :: l=>if c.1=0 then wasL c l else if t.1=c.1 then (if t.2.1 < c.2.1 then wasL c l else if t.2.1=c.2.1 then some t.2.2.1 else some (errR 1)) else wasL c l
def aGr (c:Cm) (r:Rs):Mp:=if c.1=0 then [] else [(c.1,(c.2.1,(r,())))]
def aFf (A:Mp) (c:Cm) (r:Rs):Mp:=A.filter (fun t=>!decide (t.1=c.1))++aGr c r
section
variable (A : Mp) (cl:Int) (nt:Nat) (hs ws:List Lk) (B:List Tb) (T:List Sx)
theorem aJu (c:Cm) (L:Mp) (hL:L.length≤1000):∀ d i,i+d=L.length→Ev2 (fun k n=>acS k n L (L.length:Int) (i:Int) A cl nt hs ws B T c.1 c.2.1 c.2.2.1 c.2.2.2.1 c.2.2.2.2.1 c.2.2.2.2.2.1 c.2.2.2.2.2.2.1.1 c.2.2.2.2.2.2.1.2.1 c.2.2.2.2.2.2.1.2.2.1 c.2.2.2.2.2.2.1.2.2.2.1 c.2.2.2.2.2.2.1.2.2.2.2.1 c.2.2.2.2.2.2.2.1 c.2.2.2.2.2.2.2.2.1 c.2.2.2.2.2.2.2.2.2.1 c.2.2.2.2.2.2.2.2.2.2.1 c.2.2.2.2.2.2.2.2.2.2.2.1 c.2.2.2.2.2.2.2.2.2.2.2.2.1.1 c.2.2.2.2.2.2.2.2.2.2.2.2.1.2.1 c.2.2.2.2.2.2.2.2.2.2.2.2.1.2.2.1 c.2.2.2.2.2.2.2.2.2.2.2.2.1.2.2.2.1 c.2.2.2.2.2.2.2.2.2.2.2.2.1.2.2.2.2.1 0 0 0 false [] [] [])
 (((wasL c (L.drop i)).getD (errR 0),((wasL c (L.drop i)).isSome,())),((A,(cl,(nt,(hs,(ws,(B,())))))),((T,()),((wasL c (L.drop i)).getD (errR 0),())))):=by
 intro d
 induction d with
 | zero =>
   intro i hi
   refine .up ⟨0,fun k n _ _=>?_⟩
   refine (alP ..).trans ?_
   rw [bf (by omega),List.drop_eq_nil_of_le (by omega)]; rfl
 | succ d ih =>
   intro i hi
   have hlt:i < L.length:=by omega
   have hx:=aaV (List.getElem?_eq_getElem hlt)
   rw [List.drop_eq_getElem_cons hlt]
   generalize L[i]=t at hx
   obtain ⟨K,hK⟩:=ih (i+1) (by omega)
   refine .up ⟨K,fun k n hk hn=>?_⟩
   have hK:=hK k n hk hn
   refine (alP ..).trans ?_
   rw [bt (by omega),hx,Option.bind_some,abr (by omega)]
   unfold wasL
   by_cases c0:c.1=0
   · rw [bt c0,if_pos c0]; exact hK
   by_cases c1:t.1=c.1
   · by_cases c2:t.2.1 < c.2.1
     · rw [bf c0,dT c1,if_neg c0,if_pos c1,if_pos c2,bt c2]; exact hK
     · by_cases c3:t.2.1=c.2.1
       · rw [bf c0,dT c1,if_neg c0,if_pos c1,if_neg c2,if_pos c3,bf c2,bt c3]; rfl
       · rw [bf c0,dT c1,if_neg c0,if_pos c1,if_neg c2,if_neg c3,bf c2,bf c3]; rfl
   · rw [bf c0,dF c1,if_neg c0,if_neg c1]; exact hK
theorem aJt (c:Cm) (hA:A.length≤1000):Ev (fun k=>ae1 k c A cl nt hs ws B T) (((wasL c A).getD (errR 0),((wasL c A).isSome,())),((A,(cl,(nt,(hs,(ws,(B,())))))),((T,()),((wasL c A).getD (errR 0),())))):=by
 simp only [av_]
 exact (aJu A cl nt hs ws B T c A hA A.length 0 (Nat.zero_add _)).dg
theorem aHU (c:Cm) (r:Rs) (L:Mp) (hL:L.length≤1000):∀ d j (fl:Bool) (out:Mp),j+d=L.length→out.length≤j→Ev2 (fun k n=>adk k n fl out L (L.length:Int) (j:Int) A cl nt hs ws B T c.1 c.2.1 c.2.2.1 c.2.2.2.1 c.2.2.2.2.1 c.2.2.2.2.2.1 c.2.2.2.2.2.2.1.1 c.2.2.2.2.2.2.1.2.1 c.2.2.2.2.2.2.1.2.2.1 c.2.2.2.2.2.2.1.2.2.2.1 c.2.2.2.2.2.2.1.2.2.2.2.1 c.2.2.2.2.2.2.2.1 c.2.2.2.2.2.2.2.2.1 c.2.2.2.2.2.2.2.2.2.1 c.2.2.2.2.2.2.2.2.2.2.1 c.2.2.2.2.2.2.2.2.2.2.2.1 c.2.2.2.2.2.2.2.2.2.2.2.2.1.1 c.2.2.2.2.2.2.2.2.2.2.2.2.1.2.1 c.2.2.2.2.2.2.2.2.2.2.2.2.1.2.2.1 c.2.2.2.2.2.2.2.2.2.2.2.2.1.2.2.2.1 c.2.2.2.2.2.2.2.2.2.2.2.2.1.2.2.2.2.1 r.1 r.2.1 r.2.2.1 r.2.2.2.1 r.2.2.2.2.1 r.2.2.2.2.2.1 r.2.2.2.2.2.2.1)
 ((),((out++((L.drop j).filter (fun t=>!decide (t.1=c.1))++aGr c r),(cl,(nt,(hs,(ws,(B,()))))) ),((T,()),()))):=by
 intro d
 induction d with
 | zero =>
   intro j fl out hj ho
   refine .upk (.up ⟨0,fun k n _ _=>?_⟩)
   refine (ahl ..).trans ?_
   rw [bf (by omega),List.drop_eq_nil_of_le (by omega)]
   unfold aGr
   by_cases c0:c.1=0
   · rw [dT c0,if_pos c0]
     refine (akG ..).trans ?_
     rw [List.filter_nil,List.append_nil,List.append_nil]
   · rw [dF c0,if_neg c0]
     show lim _ _=_
     rw [ags (by simp; omega)]
     exact akG ..
 | succ d ih =>
   intro j fl out hj ho
   have hlt:j < L.length:=by omega
   have hx:=aaV (List.getElem?_eq_getElem hlt)
   rw [List.drop_eq_getElem_cons hlt]
   generalize L[j]=t at hx
   by_cases c1:t.1=c.1
   · obtain ⟨K,hK⟩:=ih (j+1) fl out (by omega) (by omega)
     refine .upk (.up ⟨K,fun k n hk hn=>?_⟩)
     refine (ahl ..).trans ?_
     rw [bt (by omega),hx,Option.bind_some,dT c1]
     refine (akF ..).trans ?_
     rw [abr (by omega),List.filter_cons_of_neg (by rw [dT c1]; simp)]
     exact hK (k+1) n (by omega) hn
   · obtain ⟨K,hK⟩:=ih (j+1) (fl&&false) (out++[t]) (by omega) (by rw [List.length_append]; simp; omega)
     refine .upk (.up ⟨K,fun k n hk hn=>?_⟩)
     refine (ahl ..).trans ?_
     rw [bt (by omega),hx,Option.bind_some,dF c1]
     show lim _ _=_
     rw [ags (by simp; omega)]
     refine (akF ..).trans ?_
     rw [abr (by omega),List.filter_cons_of_pos (by rw [dF c1]; rfl)]
     have:=hK (k+1) n (by omega) hn
     rw [List.append_assoc] at this
     exact this
theorem aHT (c:Cm) (r:Rs) (hA:A.length≤1000):Ev (fun k=>aeg k c r A cl nt hs ws B T) ((),((aFf A c r,(cl,(nt,(hs,(ws,(B,())))))),((T,()),()))):=by
 simp only [auy]
 exact (aHU A cl nt hs ws B T c r A hA A.length 0 true [] (Nat.zero_add _) (Nat.le_refl _)).dg
def IDs (T:List Sx):Prop:=∀ (i:Nat) (s:Sx),T[i]?=some s→s.1=(i:Int)+1
theorem aGF (x:Int) (ht:nt≤T.length) (hn:nt≤1000) (D:IDs (T.take nt)):∀ d i,i+d=nt→(∀ j:Nat,j < i→x≠(j:Int)+1)→Ev2 (fun k n=>adV k n x nt ((nt:Nat):Int) (i:Int) A cl nt hs ws B T 0 0 0)
 ((stP (T.take nt) x,((txP (T.take nt) x).isSome,())),((A,(cl,(nt,(hs,(ws,(B,())))))),((T,()),(stP (T.take nt) x,())))):=by
 intro d
 induction d with
 | zero =>
   intro i hi hx
   refine .up ⟨0,fun k n _ _=>?_⟩
   refine (ahm ..).trans ?_
   have e:txP (T.take nt) x=none:=by
    unfold txP
    split
    · rw [List.getElem?_eq_none]
      rw [List.length_take]
      rcases Nat.lt_or_ge (x - 1).toNat nt with h | h
      · exact absurd (show x=(((x - 1).toNat:Nat):Int)+1 by omega) (hx _ (by omega))
      · omega
    · rfl
   unfold stP
   rw [bf (by omega),e]; rfl
 | succ d ih =>
   intro i hi hx
   have hlt:i < T.length:=by omega
   have h1:T[i]?=some T[i]:=List.getElem?_eq_getElem hlt
   have h2:(T.take nt)[i]?=some T[i]:=by rw [List.getElem?_take,if_pos (by omega)]; exact h1
   have hid:=D i _ h2
   generalize T[i]=s at h1 h2 hid
   by_cases c:s.1=x
   · refine .up ⟨0,fun k n _ _=>?_⟩
     refine (ahm ..).trans ?_
     have e:txP (T.take nt) x=some s:=by
        unfold txP
        rw [if_pos (by omega),show (x - 1).toNat=i by omega]; exact h2
     rw [bt (by omega),ajG (by omega) (by omega),abm,Nat.zero_add,Int.toNat_natCast,h1,Option.bind_some,bt c]
     unfold stP
     rw [e]; rfl
   · obtain ⟨K,hK⟩:=ih (i+1) (by omega) fun j hj=>by
        rcases Nat.lt_or_ge j i with h | h
        · exact hx j h
        · have:j=i:=by omega
          subst this; rw [← hid]; exact fun e=>c e.symm
     refine .up ⟨K,fun k n hk hn=>?_⟩
     refine (ahm ..).trans ?_
     rw [bt (by omega),ajG (by omega) (by omega),abm,Nat.zero_add,Int.toNat_natCast,h1,Option.bind_some,bf c,abr (by omega)]
     exact hK k n hk hn
theorem azC (x:Int) (ht:nt≤T.length) (hn:nt≤1000) (D:IDs (T.take nt)):Ev (fun k=>aej k x A cl nt hs ws B T) ((stP (T.take nt) x,((txP (T.take nt) x).isSome,())),((A,(cl,(nt,(hs,(ws,(B,())))))),((T,()),(stP (T.take nt) x,())))):=by
 simp only [auG]
 exact (aGF A cl nt hs ws B T x ht hn D nt 0 (Nat.zero_add _) (fun j h=>absurd h (Nat.not_lt_zero _))).dg
def rout (r:Rs) (A:Mp) (cl:Int) (nt:Nat) (hs ws:List Lk) (B:List Tb) (T:List Sx):Rs×((Mp×(Int×(Nat×(List Lk×(List Lk×(List Tb×Unit))))))×(Unit×(Rs×((List Sx×Unit)×Unit)))) :=
 (r,((A,(cl,(nt,(hs,(ws,(B,())))))),((),(r,((T,()),())))))
theorem aHY (L:List Int) (hL:L.length≤1000) (ht:nt≤T.length) (hn:nt≤1000) (D:IDs (T.take nt)):∀ d j (acc:List Sx),j+d=L.length→acc.length≤j→Ev2 (fun k n=>aeM k n L (L.length:Int) (j:Int) A cl nt hs ws B T 0 0 0 false [] [] [] 0 0 0 false acc [] [])
 (rout (stsR (acc++(L.drop j).map (stP (T.take nt)))) A cl nt hs ws B T):=by
 intro d
 induction d with
 | zero =>
   intro j acc hj ha
   refine .up ⟨0,fun k n _ _=>?_⟩
   refine (amT ..).trans ?_
   rw [bf (by omega),List.drop_eq_nil_of_le (by omega),List.map_nil,List.append_nil]; rfl
 | succ d ih =>
   intro j acc hj ha
   have hlt:j < L.length:=by omega
   have hx:nth L (j:Int)=some L[j]:=aaV (List.getElem?_eq_getElem hlt)
   rw [List.drop_eq_getElem_cons hlt,List.map_cons]
   generalize L[j]=x at hx
   obtain ⟨K,hK⟩:=ih (j+1) (acc++[stP (T.take nt) x]) (by omega) (by rw [List.length_append]; simp; omega)
   rw [List.append_assoc] at hK
   obtain ⟨K2,hS⟩:=azC A cl nt hs ws B T x ht hn D
   refine .up ⟨Nat.max K K2,fun k n hk hn=>?_⟩
   refine (amT ..).trans ?_
   rw [bt (by omega),hx,Option.bind_some]
   refine (bndE (hS k (Nat.le_trans (Nat.le_max_right ..) hk))).trans ?_
   show lim _ _=_
   rw [ags (by simp; omega),abr (by omega)]
   exact hK k n (Nat.le_trans (Nat.le_max_left ..) hk) (Nat.le_trans (Nat.le_max_left ..) hn)
end
theorem aJI {hs ws hs' ws':List Lk} {x:Lk} {b:Bool} {e:Int} (R:askR hs ws x b e hs' ws'):(if e=0 then flR b else errR e)=(e,((0:Int),((0:Int),(b,([],([],([],()))))))):=by
 by_cases h:e=0
 · rw [if_pos h,h]; rfl
 · rw [if_neg h]
   have:b=false:=by
    rcases R with ⟨_,hb,_⟩ | ⟨_,_,_,he,_⟩ | ⟨_,_,_,_,⟨_,hb,_⟩ | ⟨_,_,he,_⟩⟩ | ⟨_,_,_,hb,_⟩
    · exact hb
    · exact absurd he h
    · exact hb
    · exact absurd he h
    · exact hb
   rw [this]; rfl
theorem IDs.one {c:Cm} {S:MS} (D:IDs S.T) {r:Rs} {S':MS} (R:oneR c S r S'):IDs S'.T:=by
 rcases R with ⟨_,b,e,hs',ws',R,_,rfl⟩ | ⟨_,_,rfl⟩
 · exact D
 · unfold oneP
   split
   · intro i s hi
     have hi:(S.T++[nx S.T.length])[i]?=some s:=hi
     rw [List.getElem?_append] at hi
     split at hi
     · exact D i s hi
     · rename_i h
       have hm:=List.mem_of_getElem? hi
       rw [List.mem_singleton] at hm
       have hb:=(List.getElem?_eq_some_iff.1 hi).1
       simp at hb
       have:i=S.T.length:=by omega
       rw [hm,this]; rfl
   split
   · show IDs (decP S.T S.cl c.2.2.2.1 c.2.2.2.2.2.1).2.2
     unfold decP
     cases h:txP S.T c.2.2.2.1 with
     | none=>exact D
     | some s =>
       have key:∀ y:Int×(Int×Unit),IDs (S.T.set (c.2.2.2.1 - 1).toNat (s.1,y)):=fun y i u hi=>by
        rw [List.getElem?_set] at hi
        split at hi
        · rename_i e
          split at hi
          · cases hi; subst e; exact D _ s (aES h).2
          · cases hi
        · exact D i u hi
       dsimp only
       split
       · cases c.2.2.2.2.2.1 with
         | true=>exact key _
         | false=>exact key _
       · exact D
   split
   · exact D
   split
   · exact D
   split
   · exact D
   split
   · exact D
   split
   · exact D
   · exact D
theorem NZ.one {c:Cm} {S:MS} (N:NZ S.ws) {r:Rs} {S':MS} (R:oneR c S r S'):NZ S'.ws:=by
 rcases R with ⟨_,b,e,hs',ws',R,_,rfl⟩ | ⟨_,_,rfl⟩
 · exact N.ask R
 · unfold oneP
   split
   · exact N
   split
   · exact N
   split
   · exact N
   split
   · exact N
   split
   · exact N.free _
   split
   · exact N
   split
   · exact N
   · exact N
theorem aHH {c:Cm} {S:MS} {r r2:Rs} {S' S2:MS} (R:oneR c S r S') (R2:oneR c S r2 S2):r=r2∧S'=S2:=by
 rcases R with ⟨h,b,e,hs',ws',R,rfl,rfl⟩ | ⟨h,rfl,rfl⟩
 · rcases R2 with ⟨_,b2,e2,hs2,ws2,R2,rfl,rfl⟩ | ⟨h2,_⟩
   · obtain ⟨rfl,rfl,rfl,rfl⟩:=aHg R R2
     exact ⟨rfl,rfl⟩
   · rw [h] at h2; cases h2
 · rcases R2 with ⟨h2,_⟩ | ⟨_,rfl,rfl⟩
   · rw [h] at h2; cases h2
   · exact ⟨rfl,rfl⟩
theorem aJl {c:Cm} (hC:0≤c.2.2.2.1∧c.2.2.2.1 < 18446744073709551616) (c1:¬ c.2.2.1=1) (c2:c.2.2.1=2) (A:Mp) (cl:Int) (q5:0≤cl∧cl≤1000) (hs ws:List Lk) (B:List Tb) {nt:Nat} {T:List Sx} (hn:nt≤1000) (ht:nt≤T.length) (D:IDs (T.take nt)) :
 ∃ T',nt≤T'.length∧T'.take nt=(decP (T.take nt) cl c.2.2.2.1 c.2.2.2.2.2.1).2.2∧Ev (fun k=>aeF k c A cl nt hs ws B T) (rout (decP (T.take nt) cl c.2.2.2.1 c.2.2.2.2.2.1).1 A (decP (T.take nt) cl c.2.2.2.1 c.2.2.2.2.2.1).2.1 nt hs ws B T'):=by
 obtain ⟨K,hK⟩:=(azC A cl nt hs ws B T c.2.2.2.1 ht hn D).sh
 cases h:txP (T.take nt) c.2.2.2.1 with
 | none =>
   have ed:decP (T.take nt) cl c.2.2.2.1 c.2.2.2.2.2.1=(errR 150,(cl,T.take nt)):=by unfold decP; rw [h]
   rw [ed]
   refine ⟨T,ht,rfl,.up ⟨K,fun k hk=>?_⟩⟩
   have hk:=hK k hk
   rw [h] at hk
   refine (agC ..).trans ?_
   refine (bndE hk).trans ?_
   exact (agq (dF c1)).trans ((ajI (dT c2)).trans ((ajI (by rfl)).trans rfl))
 | some s =>
   have es:stP (T.take nt) c.2.2.2.1=s:=by unfold stP; rw [h]; rfl
   obtain ⟨g1,g2⟩:=aES h
   obtain ⟨gl,_⟩:=aBH g2
   by_cases c0:s.2.1=0
   · cases hf:c.2.2.2.2.2.1 with
     | true =>
       have ed:decP (T.take nt) cl c.2.2.2.1 true=(stsR [(s.1,((1:Int),(cl+1,())))],(cl+1,(T.take nt).set (c.2.2.2.1 - 1).toNat (s.1,((1:Int),(cl+1,()))))):=by unfold decP; rw [h]; simp only [if_pos c0]; rfl
       rw [ed]
       refine ⟨T.set (c.2.2.2.1 - 1).toNat (s.1,((1:Int),(cl+1,()))),by simpa using ht,List.take_set,.up ⟨K,fun k hk=>?_⟩⟩
       have hk:=hK k hk
       rw [h,es] at hk
       refine (agC ..).trans ?_
       refine (bndE hk).trans ?_
       refine (agq (dF c1)).trans ((ajI (dT c2)).trans ((agq (by rfl)).trans ((ajI (dT c0)).trans ((ajI hf).trans ?_))))
       refine (amS ..).trans ?_
       show must (inI (wr .u64 (c.2.2.2.1 - 1)) nt) (must (Nat.blt (0+(wr .u64 (c.2.2.2.1 - 1)).toNat) T.length) (acI (k+1) A (wr .u64 (cl+1)) nt hs ws B (T.set (0+(wr .u64 (c.2.2.2.1 - 1)).toNat) (s.1,((1:Int),(wr .u64 (cl+1),())))) 0 0 0 false [] [] [] s.1 1 (wr .u64 (cl+1))))=_
       rw [atP (n:=c.2.2.2.1 - 1) (by omega),atP (n:=cl+1) (by omega),ajG (by omega) (by omega),abm,Nat.zero_add,aC8 (by omega),abm]
       exact aiF ..
     | false =>
       have ed:decP (T.take nt) cl c.2.2.2.1 false=(stsR [(s.1,((2:Int),s.2.2))],(cl,(T.take nt).set (c.2.2.2.1 - 1).toNat (s.1,((2:Int),s.2.2)))):=by unfold decP; rw [h]; simp only [if_pos c0]; rfl
       rw [ed]
       refine ⟨T.set (c.2.2.2.1 - 1).toNat (s.1,((2:Int),s.2.2)),by simpa using ht,List.take_set,.up ⟨K,fun k hk=>?_⟩⟩
       have hk:=hK k hk
       rw [h,es] at hk
       refine (agC ..).trans ?_
       refine (bndE hk).trans ?_
       refine (agq (dF c1)).trans ((ajI (dT c2)).trans ((agq (by rfl)).trans ((ajI (dT c0)).trans ((agq hf).trans ?_))))
       refine (amS ..).trans ?_
       show must (inI (wr .u64 (c.2.2.2.1 - 1)) nt) (must (Nat.blt (0+(wr .u64 (c.2.2.2.1 - 1)).toNat) T.length) (acI (k+1) A cl nt hs ws B (T.set (0+(wr .u64 (c.2.2.2.1 - 1)).toNat) (s.1,((2:Int),(s.2.2.1,())))) 0 0 0 false [] [] [] s.1 2 s.2.2.1))=_
       rw [atP (n:=c.2.2.2.1 - 1) (by omega),ajG (by omega) (by omega),abm,Nat.zero_add,aC8 (by omega),abm]
       exact aiF ..
   · have ed:decP (T.take nt) cl c.2.2.2.1 c.2.2.2.2.2.1=(stsR [s],(cl,T.take nt)):=by unfold decP; rw [h]; simp only [if_neg c0]
     rw [ed]
     refine ⟨T,ht,rfl,.up ⟨K,fun k hk=>?_⟩⟩
     have hk:=hK k hk
     rw [h,es] at hk
     refine (agC ..).trans ?_
     refine (bndE hk).trans ?_
     refine (agq (dF c1)).trans ((ajI (dT c2)).trans ((agq (by rfl)).trans ((agq (dF c0)).trans ?_)))
     exact aiF ..
theorem aJq {c:Cm} (C:smC c) {S:MS} {n:Nat} (I:MI S n) (hn:n≤80) (D:IDs S.T) (N:NZ S.ws) (A:Mp) {nt:Nat} {T:List Sx} (ht:nt≤T.length) (eT:T.take nt=S.T) :
 ∃ r S' nt' T',oneR c S r S'∧nt'≤T'.length∧T'.take nt'=S'.T∧Ev (fun k=>aeF k c A S.cl nt S.hs S.ws S.B T) (rout r A S'.cl nt' S'.hs S'.ws S'.B T'):=by
 have q1:=I.tl
 have q2:=I.bl
 have q3:=I.L.h
 have q4:=I.L.w
 have q5:=I.c0
 have q6:=I.c1
 have lt:S.T.length=nt:=by rw [← eT,List.length_take,Nat.min_eq_left ht]
 have hst:=azC A S.cl nt S.hs S.ws S.B T c.2.2.2.1 ht (by omega) (by rw [eT]; exact D)
 rw [eT] at hst
 have hC:=C.n
 by_cases c2:c.2.2.1=2
 · obtain ⟨T',g1,g2,hE⟩:=aJl C.n (by omega) c2 A S.cl ⟨q5,by omega⟩ S.hs S.ws S.B (by omega) ht (by rw [eT]; exact D)
   rw [eT] at g2 hE
   have eo:oneP c S=((decP S.T S.cl c.2.2.2.1 c.2.2.2.2.2.1).1,{ S with cl:=(decP S.T S.cl c.2.2.2.1 c.2.2.2.2.2.1).2.1,T:=(decP S.T S.cl c.2.2.2.1 c.2.2.2.2.2.1).2.2 }):=by unfold oneP; rw [if_neg (by omega),if_pos c2]
   exact ⟨_,_,nt,T',.inr ⟨by unfold afB; rw [dF (by omega)]; rfl,rfl,rfl⟩,g1,by rw [eo]; exact g2,by rw [eo]; exact hE⟩
 simp only [agC]
 by_cases c1:c.2.2.1=1
 · rw [dT c1]
   obtain ⟨e1,e2⟩:=azI (nx nt) ht
   refine ⟨_,_,nt+1,apc T nt [nx nt],.inr ⟨by unfold afB; rw [dF (by omega)]; rfl,rfl,rfl⟩,e2,?_,.bind hst (.from 0 fun k=>?_)⟩
   · unfold oneP; rw [if_pos c1,e1,eT,lt]
   · show lim _ _=_
     unfold oneP
     rw [if_pos c1,ags (by simp; omega),atP (n:=(nt:Int)) (by omega),atP (by omega),lt]
     rfl
 by_cases c3:c.2.2.1=3
 · rw [dF c1,dF c2,dT c3]
   have hl:=(aHY A S.cl nt S.hs S.ws S.B T c.2.2.2.2.2.2.2.2.2.1 C.y ht (by omega) (by rw [eT]; exact D) _ 0 [] (Nat.zero_add _) (Nat.le_refl _)).dg
   rw [eT,List.nil_append,List.drop_zero] at hl
   have eo:oneP c S=(stsR (c.2.2.2.2.2.2.2.2.2.1.map (stP S.T)),S):=by unfold oneP; rw [if_neg c1,if_neg c2,if_pos c3]
   exact ⟨_,S,nt,T,.inr ⟨by unfold afB; rw [dF (by omega)]; rfl,by rw [eo],by rw [eo]⟩,ht,eT,.bind hst hl⟩
 by_cases c4:c.2.2.1=4
 · rw [dF c1,dF c2,dF c3,dT c4]
   have eo:oneP c S=(errR 150,S):=by unfold oneP; rw [if_neg c1,if_neg c2,if_neg c3,if_pos c4]
   cases h:txP S.T c.2.2.2.1 with
   | none =>
     rw [h] at hst
     exact ⟨errR 150,S,nt,T,.inr ⟨by unfold afB opn; rw [h]; simp,by rw [eo],by rw [eo]⟩,ht,eT,.bind hst (.from 0 fun k=>rfl)⟩
   | some s =>
     have es:stP S.T c.2.2.2.1=s:=by unfold stP; rw [h]; rfl
     rw [h,es] at hst
     by_cases c0:s.2.1=0
     · obtain ⟨b,e,hs',ws',hA,R⟩:=aJj (rA:=A) (rC:=S.cl) (rN:=nt) (rB:=S.B) (rT:=T) (hs:=S.hs) (ws:=S.ws) (lkP c) (by omega) (by omega) N (fun w hw=>aFU _ _ (by omega) hw)
       obtain ⟨K,hK⟩:=hA
       refine ⟨_,_,nt,T,.inl ⟨by unfold afB opn; rw [h,dT c4]; simp only [dT c0]; rfl,b,e,hs',ws',R,rfl,rfl⟩,ht,eT,.bind hst ⟨K,fun k hk=>?_⟩⟩
       show (bif !decide (s.2.1=0) then _ else (adz k (lkP c) A S.cl nt S.hs S.ws S.B T).bind _)=_
       rw [dT c0,show adz k (lkP c) A S.cl nt S.hs S.ws S.B T=_ from hK k hk,aJI R]
       rfl
     · refine ⟨errR 150,S,nt,T,.inr ⟨by unfold afB opn; rw [h]; simp only [dF c0,Bool.and_false],by rw [eo],by rw [eo]⟩,ht,eT,.bind hst (.from 0 fun k=>?_)⟩
       show (bif !decide (s.2.1=0) then _ else _)=_
       rw [dF c0]; rfl
 have nl:afB c S=false:=by unfold afB; rw [dF c4]; rfl
 by_cases c5:c.2.2.1=5
 · rw [dF c1,dF c2,dF c3,dF c4,dT c5]
   have hf:=aHS (rA:=A) (rC:=S.cl) (rN:=nt) (rB:=S.B) (rT:=T) c.2.2.2.1 S.hs S.ws (by omega) (by omega) N
   have eo:oneP c S=(errR 0,{ S with hs:=agr S.hs c.2.2.2.1,ws:=agr S.ws c.2.2.2.1 }):=by unfold oneP; rw [if_neg c1,if_neg c2,if_neg c3,if_neg c4,if_pos c5]
   exact ⟨errR 0,_,nt,T,.inr ⟨nl,by rw [eo],rfl⟩,ht,by rw [eo]; exact eT,.bind hst (.bind hf (.from 0 fun k=>by rw [eo]; rfl))⟩
 by_cases c6:c.2.2.1=6
 · rw [dF c1,dF c2,dF c3,dF c4,dF c5,dT c6]
   have hf:=aGG c.2.2.2.2.2.2.2.2.2.2.2.2.1 A S.cl nt S.hs S.ws S.B T C.t (by omega)
   have eo:oneP c S=((tabP S.B c.2.2.2.2.2.2.2.2.2.2.2.2.1).1,{ S with B:=(tabP S.B c.2.2.2.2.2.2.2.2.2.2.2.2.1).2 }):=by unfold oneP; rw [if_neg c1,if_neg c2,if_neg c3,if_neg c4,if_neg c5,if_pos c6]
   exact ⟨_,_,nt,T,.inr ⟨nl,rfl,rfl⟩,ht,by rw [eo]; exact eT,.bind hst (.bind hf (.from 0 fun k=>by rw [eo]; rfl))⟩
 by_cases c7:c.2.2.1=7
 · rw [dF c1,dF c2,dF c3,dF c4,dF c5,dF c6,dT c7]
   have eo:oneP c S=(tabR S.B,S):=by unfold oneP; rw [if_neg c1,if_neg c2,if_neg c3,if_neg c4,if_neg c5,if_neg c6,if_pos c7]
   exact ⟨tabR S.B,S,nt,T,.inr ⟨nl,by rw [eo],by rw [eo]⟩,ht,eT,.bind hst (.from 0 fun k=>rfl)⟩
 · rw [dF c1,dF c2,dF c3,dF c4,dF c5,dF c6,dF c7]
   have eo:oneP c S=(errR 1,S):=by unfold oneP; rw [if_neg c1,if_neg c2,if_neg c3,if_neg c4,if_neg c5,if_neg c6,if_neg c7]
   exact ⟨errR 1,S,nt,T,.inr ⟨nl,by rw [eo],by rw [eo]⟩,ht,eT,.bind hst (.from 0 fun k=>rfl)⟩
abbrev aKq := Int×(Int×(Int×((List Int)×((List Int)×Unit))))
abbrev WrD := (List Int)×(Bool×((List Int)×Unit))
abbrev ColD := (List Int)×(Int×(Bool×Unit))
abbrev TabD := Int×((List Int)×((List ColD)×(Int×((List Int)×Unit))))
abbrev CmdD := Int×(Int×(Int×(Int×(Int×(Bool×(aKq×((List Int)×((List Int)×((List Int)×((List WrD)×((List (List Int))×(TabD×Unit))))))))))))
def sW (x:WrD):Bool:=decide (x.1.length+x.2.2.1.length≤300)
def sK (x:List Int):Bool:=decide (x.length≤100)
def sCo (x:ColD):Bool:=decide (x.1.length≤100)
def sC (c:CmdD):Bool:=decide (c.2.2.2.2.2.2.2.1.length+c.2.2.2.2.2.2.2.2.1.length+c.2.2.2.2.2.2.1.2.2.2.1.length+c.2.2.2.2.2.2.1.2.2.2.2.1.length≤200)&&(decide (c.2.2.2.2.2.2.2.2.2.1.length≤10)&&(decide (c.2.2.2.2.2.2.2.2.2.2.1.length≤10) &&
 (decide (c.2.2.2.2.2.2.2.2.2.2.2.1.length≤10)&&(decide (c.2.2.2.2.2.2.2.2.2.2.2.2.1.2.2.1.length≤14)&&(decide (c.2.2.2.2.2.2.2.2.2.2.2.2.1.2.2.2.2.1.length≤6)&&(decide (c.2.2.2.2.2.2.2.2.2.2.2.2.1.2.1.length≤100) &&
 (c.2.2.2.2.2.2.2.2.2.2.1.all sW&&(c.2.2.2.2.2.2.2.2.2.2.2.1.all sK&&c.2.2.2.2.2.2.2.2.2.2.2.2.1.2.2.1.all sCo))))))))
theorem aKi (k n:Nat)(v108:(List (Int×(Int×(Int×(Int×(Int×(Bool×((Int×(Int×(Int×((List Int)×((List Int)×Unit)))))×((List Int)×((List Int)×((List Int)×((List ((List Int)×(Bool×((List Int)×Unit))))×((List (List Int))×((Int×((List Int)×((List ((List Int)×(Int×(Bool×Unit))))×(Int×((List Int)×Unit)))))×Unit)))))))))))))))(v109:(List (Int×(Int×(Int×(Int×(Int×(Bool×((Int×(Int×(Int×((List Int)×((List Int)×Unit)))))×((List Int)×((List Int)×((List Int)×((List ((List Int)×(Bool×((List Int)×Unit))))×((List (List Int))×((Int×((List Int)×((List ((List Int)×(Int×(Bool×Unit))))×(Int×((List Int)×Unit)))))×Unit)))))))))))))))(v110:Int)(v111:Int)(v112:(List Int))(v113:Int)(v114:Bool)(v115:(List ((List Int)×(Bool×((List Int)×Unit)))))(v116:Int)(v117:Bool)(v118:(List (List Int)))(v119:Int)(v120:Bool)(v121:(List ((List Int)×(Int×(Bool×Unit)))))(v122:Int)(v123:Bool)(v124:(List Int))(v125:Int)(v126:Bool)(v127:(List Int))(v128:Int)(v129:Bool)(v130:(List ((List Int)×(Int×(Bool×Unit)))))(v133:Int)(v134:Int)(v135:Int)(v136:Int)(v137:Int)(v138:Bool)(v139:Int)(v140:Int)(v141:Int)(v142:(List Int))(v143:(List Int))(v144:(List Int))(v145:(List Int))(v146:(List Int))(v147:(List ((List Int)×(Bool×((List Int)×Unit)))))(v148:(List (List Int)))(v149:Int)(v150:(List Int))(v151:(List ((List Int)×(Int×(Bool×Unit)))))(v152:Int)(v153:(List Int)) (hm:v130.length≤9223372036854775807) (hq:∀ x∈v130,(sCo x=true→decide (100 < (x.1.length:Int))=false)∧(¬ sCo x=true→decide (100 < (x.1.length:Int))=true)):∀ n1 j,j≤v130.length→v130.length - j < n1 →
 af1 k n n1 v108 v109 v110 v111 v112 v113 v114 v115 v116 v117 v118 v119 v120 v121 v122 v123 v124 v125 v126 v127 v128 v129 v130 (v130.length:Int) (j:Int) v133 v134 v135 v136 v137 v138 v139 v140 v141 v142 v143 v144 v145 v146 v147 v148 v149 v150 v151 v152 v153=bif (v130.drop j).all sCo then afZ k n v108 v109 v110 (wr .i64 (v111+1)) else some (false,())
 | 0,_,_,h=>absurd h (Nat.not_lt_zero _)
 | n1+1,j,hj,hn=>by
   rw [awI]
   by_cases c:j < v130.length
   · have hx:=List.getElem?_eq_getElem c
     rw [bt (by omega),aaV hx,Option.bind_some,List.drop_eq_getElem_cons c,List.all_cons]
     have hb:=hq v130[j] (List.getElem_mem c)
     by_cases c1:sCo v130[j]=true
     · rw [c1,Bool.true_and,hb.1 c1,cond_false,aiY (by omega)]
       exact aKi k n v108 v109 v110 v111 v112 v113 v114 v115 v116 v117 v118 v119 v120 v121 v122 v123 v124 v125 v126 v127 v128 v129 v130 v133 v134 v135 v136 v137 v138 v139 v140 v141 v142 v143 v144 v145 v146 v147 v148 v149 v150 v151 v152 v153 hm hq n1 (j+1) c (by omega)
     · rw [Bool.eq_false_iff.2 c1,Bool.false_and,hb.2 c1]; rfl
   · have:j=v130.length:=by omega
     subst this
     rw [bf (by omega),List.drop_length]; rfl
theorem aKh (k n:Nat)(v61:(List (Int×(Int×(Int×(Int×(Int×(Bool×((Int×(Int×(Int×((List Int)×((List Int)×Unit)))))×((List Int)×((List Int)×((List Int)×((List ((List Int)×(Bool×((List Int)×Unit))))×((List (List Int))×((Int×((List Int)×((List ((List Int)×(Int×(Bool×Unit))))×(Int×((List Int)×Unit)))))×Unit)))))))))))))))(v62:(List (Int×(Int×(Int×(Int×(Int×(Bool×((Int×(Int×(Int×((List Int)×((List Int)×Unit)))))×((List Int)×((List Int)×((List Int)×((List ((List Int)×(Bool×((List Int)×Unit))))×((List (List Int))×((Int×((List Int)×((List ((List Int)×(Int×(Bool×Unit))))×(Int×((List Int)×Unit)))))×Unit)))))))))))))))(v63:Int)(v64:Int)(v65:(List Int))(v66:Int)(v67:Bool)(v68:(List ((List Int)×(Bool×((List Int)×Unit)))))(v69:Int)(v70:Bool)(v71:(List (List Int)))(v72:Int)(v73:Bool)(v74:(List ((List Int)×(Int×(Bool×Unit)))))(v75:Int)(v76:Bool)(v77:(List Int))(v78:Int)(v79:Bool)(v80:(List Int))(v81:Int)(v82:Bool)(v83:(List (List Int)))(v86:Int)(v87:Int)(v88:Int)(v89:Int)(v90:Int)(v91:Bool)(v92:Int)(v93:Int)(v94:Int)(v95:(List Int))(v96:(List Int))(v97:(List Int))(v98:(List Int))(v99:(List Int))(v100:(List ((List Int)×(Bool×((List Int)×Unit)))))(v101:(List (List Int)))(v102:Int)(v103:(List Int))(v104:(List ((List Int)×(Int×(Bool×Unit)))))(v105:Int)(v106:(List Int)) (hm:v83.length≤9223372036854775807) (hq:∀ x∈v83,(sK x=true→decide (100 < (x.length:Int))=false)∧(¬ sK x=true→decide (100 < (x.length:Int))=true)):∀ n1 j,j≤v83.length→v83.length - j < n1 →
 af0 k n n1 v61 v62 v63 v64 v65 v66 v67 v68 v69 v70 v71 v72 v73 v74 v75 v76 v77 v78 v79 v80 v81 v82 v83 (v83.length:Int) (j:Int) v86 v87 v88 v89 v90 v91 v92 v93 v94 v95 v96 v97 v98 v99 v100 v101 v102 v103 v104 v105 v106=bif (v83.drop j).all sK then af1 k n k v61 v62 v63 v64 v65 v66 v67 v68 v69 v70 v71 v72 v73 v74 v75 v76 v77 v78 v79 v80 v81 v82 v104 (v104.length:Int) (0:Int) v86 v87 v88 v89 v90 v91 v92 v93 v94 v95 v96 v97 v98 v99 v100 v101 v102 v103 v104 v105 v106 else some (false,())
 | 0,_,_,h=>absurd h (Nat.not_lt_zero _)
 | n1+1,j,hj,hn=>by
   rw [awH]
   by_cases c:j < v83.length
   · have hx:=List.getElem?_eq_getElem c
     rw [bt (by omega),aaV hx,Option.bind_some,List.drop_eq_getElem_cons c,List.all_cons]
     have hb:=hq v83[j] (List.getElem_mem c)
     by_cases c1:sK v83[j]=true
     · rw [c1,Bool.true_and,hb.1 c1,cond_false,aiY (by omega)]
       exact aKh k n v61 v62 v63 v64 v65 v66 v67 v68 v69 v70 v71 v72 v73 v74 v75 v76 v77 v78 v79 v80 v81 v82 v83 v86 v87 v88 v89 v90 v91 v92 v93 v94 v95 v96 v97 v98 v99 v100 v101 v102 v103 v104 v105 v106 hm hq n1 (j+1) c (by omega)
     · rw [Bool.eq_false_iff.2 c1,Bool.false_and,hb.2 c1]; rfl
   · have:j=v83.length:=by omega
     subst this
     rw [bf (by omega),List.drop_length]; rfl
theorem aKg (k n:Nat)(v14:(List (Int×(Int×(Int×(Int×(Int×(Bool×((Int×(Int×(Int×((List Int)×((List Int)×Unit)))))×((List Int)×((List Int)×((List Int)×((List ((List Int)×(Bool×((List Int)×Unit))))×((List (List Int))×((Int×((List Int)×((List ((List Int)×(Int×(Bool×Unit))))×(Int×((List Int)×Unit)))))×Unit)))))))))))))))(v15:(List (Int×(Int×(Int×(Int×(Int×(Bool×((Int×(Int×(Int×((List Int)×((List Int)×Unit)))))×((List Int)×((List Int)×((List Int)×((List ((List Int)×(Bool×((List Int)×Unit))))×((List (List Int))×((Int×((List Int)×((List ((List Int)×(Int×(Bool×Unit))))×(Int×((List Int)×Unit)))))×Unit)))))))))))))))(v16:Int)(v17:Int)(v18:(List Int))(v19:Int)(v20:Bool)(v21:(List ((List Int)×(Bool×((List Int)×Unit)))))(v22:Int)(v23:Bool)(v24:(List (List Int)))(v25:Int)(v26:Bool)(v27:(List ((List Int)×(Int×(Bool×Unit)))))(v28:Int)(v29:Bool)(v30:(List Int))(v31:Int)(v32:Bool)(v33:(List Int))(v34:Int)(v35:Bool)(v36:(List ((List Int)×(Bool×((List Int)×Unit)))))(v39:Int)(v40:Int)(v41:Int)(v42:Int)(v43:Int)(v44:Bool)(v45:Int)(v46:Int)(v47:Int)(v48:(List Int))(v49:(List Int))(v50:(List Int))(v51:(List Int))(v52:(List Int))(v53:(List ((List Int)×(Bool×((List Int)×Unit)))))(v54:(List (List Int)))(v55:Int)(v56:(List Int))(v57:(List ((List Int)×(Int×(Bool×Unit)))))(v58:Int)(v59:(List Int)) (hm:v36.length≤9223372036854775807) (hq:∀ x∈v36,(sW x=true→decide (300 < (wr .i64 ((x.1.length:Int)+(x.2.2.1.length:Int))))=false)∧(¬ sW x=true→decide (300 < (wr .i64 ((x.1.length:Int)+(x.2.2.1.length:Int))))=true)):∀ n1 j,j≤v36.length→v36.length - j < n1 →
 ahd k n n1 v14 v15 v16 v17 v18 v19 v20 v21 v22 v23 v24 v25 v26 v27 v28 v29 v30 v31 v32 v33 v34 v35 v36 (v36.length:Int) (j:Int) v39 v40 v41 v42 v43 v44 v45 v46 v47 v48 v49 v50 v51 v52 v53 v54 v55 v56 v57 v58 v59=bif (v36.drop j).all sW then af0 k n k v14 v15 v16 v17 v18 v19 v20 v21 v22 v23 v24 v25 v26 v27 v28 v29 v30 v31 v32 v33 v34 v35 v54 (v54.length:Int) (0:Int) v39 v40 v41 v42 v43 v44 v45 v46 v47 v48 v49 v50 v51 v52 v53 v54 v55 v56 v57 v58 v59 else some (false,())
 | 0,_,_,h=>absurd h (Nat.not_lt_zero _)
 | n1+1,j,hj,hn=>by
   rw [awG]
   by_cases c:j < v36.length
   · have hx:=List.getElem?_eq_getElem c
     rw [bt (by omega),aaV hx,Option.bind_some,List.drop_eq_getElem_cons c,List.all_cons]
     have hb:=hq v36[j] (List.getElem_mem c)
     by_cases c1:sW v36[j]=true
     · rw [c1,Bool.true_and,hb.1 c1,cond_false,aiY (by omega)]
       exact aKg k n v14 v15 v16 v17 v18 v19 v20 v21 v22 v23 v24 v25 v26 v27 v28 v29 v30 v31 v32 v33 v34 v35 v36 v39 v40 v41 v42 v43 v44 v45 v46 v47 v48 v49 v50 v51 v52 v53 v54 v55 v56 v57 v58 v59 hm hq n1 (j+1) c (by omega)
     · rw [Bool.eq_false_iff.2 c1,Bool.false_and,hb.2 c1]; rfl
   · have:j=v36.length:=by omega
     subst this
     rw [bf (by omega),List.drop_length]; rfl
def RB : Nat:=140737488351232
structure SzC (x:CmdD):Prop where
 lo:x.2.2.2.2.2.2.2.1.length≤RB
 hi:x.2.2.2.2.2.2.2.2.1.length≤RB
 llo:x.2.2.2.2.2.2.1.2.2.2.1.length≤RB
 lhi:x.2.2.2.2.2.2.1.2.2.2.2.1.length≤RB
 wr:∀ w∈x.2.2.2.2.2.2.2.2.2.2.1,w.1.length≤RB∧w.2.2.1.length≤RB
 wl:x.2.2.2.2.2.2.2.2.2.2.1.length≤9223372036854775807
 kl:x.2.2.2.2.2.2.2.2.2.2.2.1.length≤9223372036854775807
 cl:x.2.2.2.2.2.2.2.2.2.2.2.2.1.2.2.1.length≤9223372036854775807
theorem aEM (k:Nat) (hk:20≤k) (l:List CmdD) (hm:l.length≤9223372036854775807) (hz:∀ x∈l,SzC x):∀ n j,j≤l.length→l.length - j < n →
 afZ k n l l (l.length:Int) (j:Int)=some ((l.drop j).all sC&&decide (l.length≤40),())
 | 0,_,_,h=>absurd h (Nat.not_lt_zero _)
 | n+1,j,hj,hn=>by
   rw [awF]
   by_cases c:j < l.length
   · have hx:=List.getElem?_eq_getElem c
     rw [bt (by omega),aaV hx,Option.bind_some,List.drop_eq_getElem_cons c,List.all_cons]
     have hzx:=hz l[j] (List.getElem_mem c)
     have ih:=aEM k hk l hm hz n (j+1) c (by omega)
     generalize l[j]=x at hzx
     have z1:=hzx.lo; have z2:=hzx.hi; have z3:=hzx.llo; have z4:=hzx.lhi
     unfold RB at z1 z2 z3 z4
     rw [aiY (n:=(x.2.2.2.2.2.2.2.1.length:Int)+(x.2.2.2.2.2.2.2.2.1.length:Int)) (by omega),aiY (n:=(x.2.2.2.2.2.2.2.1.length:Int)+(x.2.2.2.2.2.2.2.2.1.length:Int)+(x.2.2.2.2.2.2.1.2.2.2.1.length:Int)) (by omega),aiY (by omega)]
     by_cases c0:x.2.2.2.2.2.2.2.1.length+x.2.2.2.2.2.2.2.2.1.length+x.2.2.2.2.2.2.1.2.2.2.1.length+x.2.2.2.2.2.2.1.2.2.2.2.1.length≤200
     rotate_left
     · rw [bt (by omega),show sC x=false from by simp only [sC,dF c0,Bool.false_and]]; rfl
     rw [bf (by omega)]
     by_cases c1:x.2.2.2.2.2.2.2.2.2.1.length≤10
     rotate_left
     · rw [bt (by omega),show sC x=false from by simp only [sC,dF c1,Bool.false_and,Bool.and_false]]; rfl
     rw [bf (by omega)]
     by_cases c2:x.2.2.2.2.2.2.2.2.2.2.1.length≤10
     rotate_left
     · rw [bt (by omega),show sC x=false from by simp only [sC,dF c2,Bool.false_and,Bool.and_false]]; rfl
     rw [bf (by omega)]
     by_cases c3:x.2.2.2.2.2.2.2.2.2.2.2.1.length≤10
     rotate_left
     · rw [bt (by omega),show sC x=false from by simp only [sC,dF c3,Bool.false_and,Bool.and_false]]; rfl
     rw [bf (by omega)]
     by_cases c4:x.2.2.2.2.2.2.2.2.2.2.2.2.1.2.2.1.length≤14
     rotate_left
     · rw [bt (by omega),show sC x=false from by simp only [sC,dF c4,Bool.false_and,Bool.and_false]]; rfl
     rw [bf (by omega)]
     by_cases c5:x.2.2.2.2.2.2.2.2.2.2.2.2.1.2.2.2.2.1.length≤6
     rotate_left
     · rw [bt (by omega),show sC x=false from by simp only [sC,dF c5,Bool.false_and,Bool.and_false]]; rfl
     rw [bf (by omega)]
     by_cases c6:x.2.2.2.2.2.2.2.2.2.2.2.2.1.2.1.length≤100
     rotate_left
     · rw [bt (by omega),show sC x=false from by simp only [sC,dF c6,Bool.false_and,Bool.and_false]]; rfl
     rw [bf (by omega)]
     have hs:sC x=(x.2.2.2.2.2.2.2.2.2.2.1.all sW&&(x.2.2.2.2.2.2.2.2.2.2.2.1.all sK&&x.2.2.2.2.2.2.2.2.2.2.2.2.1.2.2.1.all sCo)):=by simp only [sC,dT c0,dT c1,dT c2,dT c3,dT c4,dT c5,dT c6,Bool.true_and]
     rw [hs]
     refine (aKg k n _ _ _ _ _ _ _ _ _ _ _ _ _ _ _ _ _ _ _ _ _ _ _ _ _ _ _ _ _ _ _ _ _ _ _ _ _ _ _ _ _ _ _ _ hzx.wl (fun w hw=>?_) k 0 (by omega) (by omega)).trans ?_
     · have hw:=hzx.wr w (by simpa using hw)
       unfold RB at hw
       unfold sW
       rw [aiY (by omega),decide_eq_true_eq,decide_eq_false_iff_not,decide_eq_true_eq]
       constructor <;> omega
     rw [List.drop_zero]
     by_cases d1:x.2.2.2.2.2.2.2.2.2.2.1.all sW=true
     rotate_left
     · rw [Bool.eq_false_iff.2 d1]; rfl
     rw [d1,cond_true,Bool.true_and]
     refine (aKh k n _ _ _ _ _ _ _ _ _ _ _ _ _ _ _ _ _ _ _ _ _ _ _ _ _ _ _ _ _ _ _ _ _ _ _ _ _ _ _ _ _ _ _ _ hzx.kl (fun w hw=>?_) k 0 (by omega) (by omega)).trans ?_
     · unfold sK
       rw [decide_eq_true_eq,decide_eq_false_iff_not,decide_eq_true_eq]
       constructor <;> omega
     rw [List.drop_zero]
     by_cases d2:x.2.2.2.2.2.2.2.2.2.2.2.1.all sK=true
     rotate_left
     · rw [Bool.eq_false_iff.2 d2]; rfl
     rw [d2,cond_true,Bool.true_and]
     refine (aKi k n _ _ _ _ _ _ _ _ _ _ _ _ _ _ _ _ _ _ _ _ _ _ _ _ _ _ _ _ _ _ _ _ _ _ _ _ _ _ _ _ _ _ _ _ hzx.cl (fun w hw=>?_) k 0 (by omega) (by omega)).trans ?_
     · unfold sCo
       rw [decide_eq_true_eq,decide_eq_false_iff_not,decide_eq_true_eq]
       constructor <;> omega
     rw [List.drop_zero]
     by_cases d3:x.2.2.2.2.2.2.2.2.2.2.2.2.1.2.2.1.all sCo=true
     rotate_left
     · rw [Bool.eq_false_iff.2 d3]; rfl
     rw [d3,cond_true,Bool.true_and,aiY (by omega)]
     exact ih
   · have:j=l.length:=by omega
     subst this
     rw [bf (by omega),List.drop_length,List.all_nil,Bool.true_and]
     congr 2
     exact decide_eq_decide.2 (by omega)
theorem aH4 {l:List CmdD} (hm:l.length≤9223372036854775807) (hz:∀ x∈l,SzC x):Ev (fun k=>ahK k l) (l.all sC&&decide (l.length≤40),()):=by
 refine ⟨l.length+20,fun k hk=>?_⟩
 show ahK k l=_
 rw [azT]
 exact aEM k (by omega) l hm hz k 0 (by omega) (by omega)
structure SmC (x:CmdD):Prop where
 t:x.2.2.2.2.2.2.2.1.length+x.2.2.2.2.2.2.2.2.1.length+x.2.2.2.2.2.2.1.2.2.2.1.length+x.2.2.2.2.2.2.1.2.2.2.2.1.length≤200
 tx:x.2.2.2.2.2.2.2.2.2.1.length≤10
 wr:x.2.2.2.2.2.2.2.2.2.2.1.length≤10
 ky:x.2.2.2.2.2.2.2.2.2.2.2.1.length≤10
 co:x.2.2.2.2.2.2.2.2.2.2.2.2.1.2.2.1.length≤14
 ix:x.2.2.2.2.2.2.2.2.2.2.2.2.1.2.2.2.2.1.length≤6
 na:x.2.2.2.2.2.2.2.2.2.2.2.2.1.2.1.length≤100
 ws:∀ w∈x.2.2.2.2.2.2.2.2.2.2.1,w.1.length+w.2.2.1.length≤300
 ks:∀ w∈x.2.2.2.2.2.2.2.2.2.2.2.1,w.length≤100
 cs:∀ w∈x.2.2.2.2.2.2.2.2.2.2.2.2.1.2.2.1,w.1.length≤100
theorem aKF {x:CmdD} (h:sC x=true):SmC x:=by
 simp only [sC,Bool.and_eq_true,decide_eq_true_eq,List.all_eq_true,sW,sK,sCo] at h
 obtain ⟨h0,h1,h2,h3,h4,h5,h6,h7,h8,h9⟩:=h
 exact ⟨h0,h1,h2,h3,h4,h5,h6,h7,h8,h9⟩
theorem aII (k:Nat):akU k=some (true,()):=by
 simp only [azV,ay0,ayH,Option.bind_some,asS,acR,arI]
 rfl
abbrev CT : Ty:=(.st (.pair (.int .u64) (.pair (.int .u64) (.pair (.int .i64) (.pair (.int .u64) (.pair (.int .u64) (.pair .bool (.pair (.st (.pair (.int .u64) (.pair (.int .i64) (.pair (.int .i64) (.pair (.sl (.int .u8)) (.pair (.sl (.int .u8)) .unit)))))) (.pair (.sl (.int .u8)) (.pair (.sl (.int .u8)) (.pair (.sl (.int .u64)) (.pair (.sl (.st (.pair (.sl (.int .u8)) (.pair .bool (.pair (.sl (.int .u8)) .unit))))) (.pair (.sl (.sl (.int .u8))) (.pair (.st (.pair (.int .i64) (.pair .str (.pair (.sl (.st (.pair .str (.pair (.int .i64) (.pair .bool .unit))))) (.pair (.int .i64) (.pair (.sl (.int .i64)) .unit)))))) .unit))))))))))))))
theorem aKj {c:CmdD} (h:szD CT c) (f:wfD CT c):SzC c:=by
 obtain ⟨_,_,_,_,_,_,⟨_,_,_,b4,b5,_⟩,a8,a9,_,a11,a12,⟨_,_,t3,_⟩,_⟩:=h
 obtain ⟨_,_,_,_,_,_,_,_,_,_,f11,f12,⟨_,_,f3,_⟩,_⟩:=f
 exact ⟨a8.1 rfl,a9.1 rfl,b4.1 rfl,b5.1 rfl,fun x hx=>⟨(a11.2 x hx).1.1 rfl,(a11.2 x hx).2.2.1.1 rfl⟩,f11.1,f12.1,f3.1⟩
theorem w64 {n:Int} (h:(Lit.int .u64 n).wf=true):0≤n∧n < 18446744073709551616:=by
 have:=aKp h
 exact ⟨this.1,by omega⟩
theorem aKe {c:CmdD} (f:wfD CT c) (h:SmC c):smC c:=by
 obtain ⟨_,_,_,a4,_,_,_,_,_,a10,_⟩:=f
 have h1:=h.t
 have h2:=h.tx
 have h3:=h.co
 have h4:=h.ix
 exact ⟨w64 a4,⟨by unfold lkP; dsimp only; omega,by unfold lkP; dsimp only; omega⟩,fun n hn=>w64 (a10.2 n hn),by omega,⟨by omega,by omega⟩⟩
theorem aKf {l:List CmdD} (f:wfD (.sl CT) l) (h:(l.all sC&&decide (l.length≤40))=true):l.length≤40∧∀ c∈l,smC c:=by
 rw [Bool.and_eq_true,decide_eq_true_eq,List.all_eq_true] at h
 exact ⟨h.2,fun c hc=>aKe (f.2 c hc) (aKF (h.1 c hc))⟩
theorem aG1 {l:List CmdD} (f:wfD (.sl CT) l) (z:szD (.sl CT) l):Ev (fun k=>ahK k l) (l.all sC&&decide (l.length≤40),()) :=
 have h1:l.length≤maxLen:=f.1
 have h2:maxLen=9223372036854775807:=by decide
 aH4 (by omega) fun x hx=>aKj (z.2 x hx) (f.2 x hx)
theorem all2 {α ρ:Type} {L:Nat→Nat→Nat→Int→Option ρ} {p:Nat→α→α→Option (Bool×Unit)} {a b:List α} {F:ρ} {G:Nat→Nat→Option ρ} (hl:a.length=b.length)
 (hp:∀ x∈a,∀ y∈b,∃ c,Ev (fun k=>p k x y) (c,())∧(c=true↔x=y))
 (hs:∀ k n0 n (j:Nat) x y,j < a.length→a[j]?=some x→b[j]?=some y→L k n0 (n+1) (j:Int)=(p k x y).bind fun r=>bif !r.1 then some F else L k n0 n ((j+1:Nat):Int))
 (hd:∀ k n0 n,L k n0 (n+1) (a.length:Int)=G k n0):∀ d j,j+d=a.length →
 (a.drop j=b.drop j∧∀ r,Ev2 G r→Ev3 (fun k n0 n=>L k n0 n (j:Int)) r)∨(a.drop j≠b.drop j∧Ev3 (fun k n0 n=>L k n0 n (j:Int)) F):=by
 intro d
 induction d with
 | zero =>
   intro j hj
   have:j=a.length:=by omega
   subst this
   refine .inl ⟨by rw [List.drop_length,hl,List.drop_length],fun r ⟨K,hK⟩=>.up ⟨K,fun k n0 n h1 h2 _=>?_⟩⟩
   show L k n0 (n+1) _=_
   rw [hd]; exact hK k n0 h1 h2
 | succ d ih =>
   intro j hj
   have h1:j < a.length:=by omega
   have h2:j < b.length:=by omega
   have hx:=List.getElem?_eq_getElem h1
   have hy:=List.getElem?_eq_getElem h2
   obtain ⟨c,⟨K,hK⟩,hc⟩:=hp a[j] (List.getElem_mem h1) b[j] (List.getElem_mem h2)
   rw [List.drop_eq_getElem_cons h1,List.drop_eq_getElem_cons h2]
   cases c with
   | false =>
     refine .inr ⟨fun e=>?_,.up ⟨K,fun k n0 n a1 _ _=>?_⟩⟩
     · rw [List.cons.injEq] at e
       exact absurd (hc.2 e.1) (by simp)
     · show L k n0 (n+1) _=_
       rw [hs k n0 n j _ _ h1 hx hy,show p k a[j] b[j]=_ from hK k a1]; rfl
   | true =>
     have e:a[j]=b[j]:=hc.1 rfl
     have up:∀ r,Ev3 (fun k n0 n=>L k n0 n ((j+1:Nat):Int)) r→Ev3 (fun k n0 n=>L k n0 n (j:Int)) r:=fun r ⟨K2,h⟩=>.up ⟨Nat.max K K2,fun k n0 n a1 a2 a3=>by
        show L k n0 (n+1) _=_
        rw [hs k n0 n j _ _ h1 hx hy,show p k a[j] b[j]=_ from hK k (Nat.le_trans (Nat.le_max_left ..) a1)]
        exact h k n0 n (Nat.le_trans (Nat.le_max_right ..) a1) (Nat.le_trans (Nat.le_max_right ..) a2) (Nat.le_trans (Nat.le_max_right ..) a3)⟩
     rcases ih (j+1) (by omega) with ⟨h,h'⟩ | ⟨h,h'⟩
     · exact .inl ⟨by rw [e,h],fun r hr=>up r (h' r hr)⟩
     · exact .inr ⟨fun c=>h (by rw [List.cons.injEq] at c; exact c.2),up F h'⟩
theorem aKs {α:Type} {L:Nat→Nat→Int→Option (Bool×Unit)} {p:Nat→α→α→Option (Bool×Unit)} {a b:List α} (hl:a.length=b.length)
 (hp:∀ x∈a,∀ y∈b,∃ c,Ev (fun k=>p k x y) (c,())∧(c=true↔x=y))
 (hs:∀ k n (j:Nat) x y,j < a.length→a[j]?=some x→b[j]?=some y→L k (n+1) (j:Int)=(p k x y).bind fun r=>bif !r.1 then some (false,()) else L k n ((j+1:Nat):Int))
 (hd:∀ k n,L k (n+1) (a.length:Int)=some (true,())):∃ c,Ev (fun k=>L k k (0:Int)) (c,())∧(c=true↔a=b):=by
 rcases all2 (L:=fun k _ n j=>L k n j) (G:=fun _ _=>some (true,())) hl hp (fun k _ n=>hs k n) (fun k _ n=>hd k n) a.length 0 (Nat.zero_add _) with ⟨e,h⟩ | ⟨e,h⟩
 · obtain ⟨K,hK⟩:=h _ .ret
   exact ⟨true,⟨K,fun k hk=>hK k k k hk hk hk⟩,⟨fun _=>e,fun _=>rfl⟩⟩
 · obtain ⟨K,hK⟩:=h
   exact ⟨false,⟨K,fun k hk=>hK k k k hk hk hk⟩,⟨nofun,fun h=>absurd (by rw [h]) e⟩⟩
theorem aI1 {α:Type} {a b:List α} {X:Nat→Option (Bool×Unit)} (h:a.length=b.length→∃ c,Ev X (c,())∧(c=true↔a=b)) :
 ∃ c,Ev (fun k=>bif (!decide ((a.length:Int)=(b.length:Int))) then some (false,()) else X k) (c,())∧(c=true↔a=b):=by
 by_cases e:a.length=b.length
 · rw [dT (show (a.length:Int)=(b.length:Int) by omega)]; exact h e
 · rw [dF (show ¬ (a.length:Int)=(b.length:Int) by omega)]
   exact ⟨false,.from 0 fun _=>rfl,⟨nofun,fun h=>absurd (by rw [h]) e⟩⟩
theorem wr_j {α:Type} {a:List α} {j:Nat} (h:j < a.length) (hm:a.length≤9223372036854775807):wr .i64 ((j:Int)+1)=((j+1:Nat):Int):=by rw [aiY (by omega)]; omega
theorem apo (a b:List Int):beqL a b=true↔a=b:=by simp [beqL]
theorem aDV (a b:Bool):beqB a b=true↔a=b:=by simp [beqB]
theorem aAj {X Y:Prop} {b:Bool} {f:Nat→Option (Bool×Unit)} (hb:b=true↔X) (h:X→∃ c,Ev f (c,())∧(c=true↔Y)):∃ c,Ev (fun k=>bif b then f k else some (false,())) (c,())∧(c=true↔X∧Y):=by
 cases b with
 | true =>
   obtain ⟨c,h1,h2⟩:=h (hb.1 rfl)
   exact ⟨c,h1,⟨fun c=>⟨hb.1 rfl,h2.1 c⟩,fun c=>h2.2 c.2⟩⟩
 | false=>exact ⟨false,.from 0 fun _=>rfl,⟨nofun,fun h=>(by have:=hb.2 h.1; cases this)⟩⟩
theorem ay7 {X Y:Prop} {b:Bool} {f:Nat→Option (Bool×Unit)} (hb:b=true↔X) (h:X→∃ c,Ev f (c,())∧(c=true↔Y)):∃ c,Ev (fun k=>bif (!b) then some (false,()) else f k) (c,())∧(c=true↔X∧Y):=by
 have e:(fun k=>bif (!b) then some (false,()) else f k)=fun k=>bif b then f k else some (false,()):=by cases b <;> rfl
 rw [e]; exact aAj hb h
theorem aIO {X Y:Prop} {g:Nat→Option (Bool×Unit)} {f:Nat→Option (Bool×Unit)} (hg:∃ b,Ev g (b,())∧(b=true↔X)) (h:X→∃ c,Ev f (c,())∧(c=true↔Y)) :
 ∃ c,Ev (fun k=>(g k).bind fun r=>bif r.1 then f k else some (false,())) (c,())∧(c=true↔X∧Y):=by
 obtain ⟨b,h1,h2⟩:=hg
 obtain ⟨c,h3,h4⟩:=aAj h2 h
 exact ⟨c,.bind h1 h3,h4⟩
theorem aGc {X:Prop} {g:Nat→Option (Bool×Unit)} (hg:∃ b,Ev g (b,())∧(b=true↔X)):∃ c,Ev (fun k=>(g k).bind fun r=>some (r.1,())) (c,())∧(c=true↔X):=by
 obtain ⟨b,h1,h2⟩:=hg
 exact ⟨b,.bind h1 (.from 0 fun _=>rfl),h2⟩
theorem aIl {X Y:Prop} {g:Nat→Option (Bool×Unit)} (h:X↔Y) (hg:∃ b,Ev g (b,())∧(b=true↔X)):∃ b,Ev g (b,())∧(b=true↔Y):=by
 obtain ⟨b,h1,h2⟩:=hg
 exact ⟨b,h1,h2.trans h⟩
theorem aED {X:Prop} {b:Bool} (h:b=true↔X):∃ c,Ev (fun _=>some (b,())) (c,())∧(c=true↔X):=⟨b,.ret,h⟩
abbrev ClT : Ty:=.st (.pair .str (.pair (.int .i64) (.pair .bool .unit)))
theorem aFP (x y:Cl):Ty.decEq ClT x y=true↔x=y:=by
 obtain ⟨a,b,c,⟨⟩⟩:=x
 obtain ⟨a',b',c',⟨⟩⟩:=y
 show (beqL a a'&&(beqI b b'&&(beqB c c'&&true)))=true↔_
 simp [beqL,beqI,beqB]
abbrev SxT : Ty:=.st (.pair (.int .u64) (.pair (.int .i64) (.pair (.int .u64) .unit)))
theorem aFQ (x y:Sx):Ty.decEq SxT x y=true↔x=y:=by
 obtain ⟨a,b,c,⟨⟩⟩:=x
 obtain ⟨a',b',c',⟨⟩⟩:=y
 show (beqI a a'&&(beqI b b'&&(beqI c c'&&true)))=true↔_
 simp [beqI]
def okV (v:Vs):Prop:=v.2.2.2.2.1.length≤9223372036854775807
structure okCe (c:Ce):Prop where
 l:c.2.1.length≤9223372036854775807
 v:∀ x∈c.2.1,okV x
 i:okV c.2.2.1
structure okT (t:Tb):Prop where
 c:t.2.2.1.length≤9223372036854775807
 i:t.2.2.2.2.1.length≤9223372036854775807
structure okR (r:Rs):Prop where
 s:r.2.2.2.2.1.length≤9223372036854775807
 c:r.2.2.2.2.2.1.length≤9223372036854775807
 ce:∀ x∈r.2.2.2.2.2.1,okCe x
 t:r.2.2.2.2.2.2.1.length≤9223372036854775807
 tb:∀ x∈r.2.2.2.2.2.2.1,okT x
theorem aKr {α:Type} {L:Nat→Nat→Int→Option (Bool×Unit)} {a b:List α} {G:Nat→Nat→Option (Bool×Unit)} (hl:a.length=b.length)
 (hs:∀ (j:Nat) x y,j < a.length→a[j]?=some x→b[j]?=some y→(x=y∧∀ r,Ev2 (fun k n=>L k n ((j+1:Nat):Int)) r→Ev2 (fun k n=>L k (n+1) (j:Int)) r)∨(x≠y∧Ev2 (fun k n=>L k (n+1) (j:Int)) (false,())))
 (hd:∀ k n,L k (n+1) (a.length:Int)=G k n):∀ d j,j+d=a.length →
 (a.drop j=b.drop j∧∀ r,Ev2 G r→Ev2 (fun k n=>L k n (j:Int)) r)∨(a.drop j≠b.drop j∧Ev2 (fun k n=>L k n (j:Int)) (false,())):=by
 intro d
 induction d with
 | zero =>
   intro j hj
   have:j=a.length:=by omega
   subst this
   refine .inl ⟨by rw [List.drop_length,hl,List.drop_length],fun r ⟨K,hK⟩=>.up ⟨K,fun k n h1 h2=>?_⟩⟩
   show L k (n+1) _=_
   rw [hd]; exact hK k n h1 h2
 | succ d ih =>
   intro j hj
   have h1:j < a.length:=by omega
   have h2:j < b.length:=by omega
   rw [List.drop_eq_getElem_cons h1,List.drop_eq_getElem_cons h2]
   rcases hs j _ _ h1 (List.getElem?_eq_getElem h1) (List.getElem?_eq_getElem h2) with ⟨e,h⟩ | ⟨e,h⟩
   · rcases ih (j+1) (by omega) with ⟨h3,h4⟩ | ⟨h3,h4⟩
     · exact .inl ⟨by rw [e,h3],fun r hr=>.up (h r (h4 r hr))⟩
     · exact .inr ⟨fun c=>h3 (by rw [List.cons.injEq] at c; exact c.2),.up (h _ h4)⟩
   · exact .inr ⟨fun c=>e (by rw [List.cons.injEq] at c; exact c.1),.up h⟩
theorem aJG {α:Type} {L:Nat→Nat→Int→Option (Bool×Unit)} {a b:List α} (hl:a.length=b.length)
 (hs:∀ (j:Nat) x y,j < a.length→a[j]?=some x→b[j]?=some y→(x=y∧∀ r,Ev2 (fun k n=>L k n ((j+1:Nat):Int)) r→Ev2 (fun k n=>L k (n+1) (j:Int)) r)∨(x≠y∧Ev2 (fun k n=>L k (n+1) (j:Int)) (false,())))
 (hd:∀ k n,L k (n+1) (a.length:Int)=some (true,())):∃ c,Ev (fun k=>L k k (0:Int)) (c,())∧(c=true↔a=b):=by
 rcases aKr hl hs hd a.length 0 (Nat.zero_add _) with ⟨e,h⟩ | ⟨e,h⟩
 · exact ⟨true,(h _ .ret).dg,⟨fun _=>e,fun _=>rfl⟩⟩
 · exact ⟨false,h.dg,⟨nofun,fun h=>absurd (by rw [h]) e⟩⟩
theorem aGH {a b:List (List Int)} (hm:a.length≤9223372036854775807):∃ c,Ev (fun k=>agz k a b) (c,())∧(c=true↔a=b):=by
 simp only [avP]
 refine aI1 fun e=>aKs (L:=fun k n j=>ad_ k n a b (a.length:Int) j) (p:=fun _ x y=>some (beqL x y,())) e (fun x _ y _=>aED (apo x y)) (fun k n j x y hj hx hy=>?_) fun k n=>?_
 · refine (alB ..).trans ?_
   rw [bt (by omega),aaV hx,Option.bind_some,aaV hy,wr_j hj hm]; rfl
 · refine (alB ..).trans ?_
   rw [bf (by omega)]
theorem aGI {a b:Vs} (hm:okV a):∃ c,Ev (fun k=>aa8 k a b) (c,())∧(c=true↔a=b):=by
 simp only [as3]
 refine aIl ?_ (aAj decide_eq_true_iff fun _=>aAj decide_eq_true_iff fun _=>aAj (aDV _ _) fun _=>aAj (apo _ _) fun _=>aGc (aGH hm))
 obtain ⟨a1,a2,a3,a4,a5,⟨⟩⟩:=a
 obtain ⟨b1,b2,b3,b4,b5,⟨⟩⟩:=b
 simp
theorem aKA (v13:(List D8_))(v14:(List D8_))(v15:Int)(v16:Int)(v17:Int)(v18:(List D8_))(v19:Int)(v20:D8_)(v21:D6_)(v22:D6_)(v23:(List D8_))(v24:Int)(v25:D8_)(v26:D6_)(v27:D6_)(v28:Bool)(v29:Bool)(v30:(List D8_))(v31:Int)(v32:D8_)(v33:(List D6_))(v34:(List D6_))(v35:Int)(v36:(List D8_))(v37:Int)(v38:D8_)(v39:(List D6_))(v40:(List D6_))(v41:Int)(v42:Bool) {x y:Ce} (hx:nth v13 v15=some x) (hy:nth v14 v15=some y) (hm:okCe x) (hl:x.2.1.length=y.2.1.length) :
 (x.2.1=y.2.1∧∀ r,Ev2 (fun k n=>ab7 k n v13 v14 v16 (wr .i64 (v17+1))) r→Ev2 (fun k n=>(fun j=>abL k n k v13 v14 v15 v16 v17 v18 v19 v20 v21 v22 v23 v24 v25 v26 v27 v28 v29 v30 v31 v32 v33 v34 v35 v36 v37 v38 v39 v40 v41 v42 (x.2.1.length:Int) j) (0:Int)) r)∨(x.2.1≠y.2.1∧Ev2 (fun k n=>(fun j=>abL k n k v13 v14 v15 v16 v17 v18 v19 v20 v21 v22 v23 v24 v25 v26 v27 v28 v29 v30 v31 v32 v33 v34 v35 v36 v37 v38 v39 v40 v41 v42 (x.2.1.length:Int) j) (0:Int)) (false,())):=by
 have H:=all2 (L:=fun k n0 n j=>abL k n0 n v13 v14 v15 v16 v17 v18 v19 v20 v21 v22 v23 v24 v25 v26 v27 v28 v29 v30 v31 v32 v33 v34 v35 v36 v37 v38 v39 v40 v41 v42 (x.2.1.length:Int) j) (p:=fun k x y=>aa8 k x y) (F:=(false,())) (G:=fun k n=>ab7 k n v13 v14 v16 (wr .i64 (v17+1))) hl (fun u hu w _=>aGI (hm.v u hu))
  (fun k n0 n j u w hj hu hw=>by
   refine (alC ..).trans ?_
   rw [bt (by omega),hx,Option.bind_some,aaV hu,Option.bind_some,hy,Option.bind_some,aaV hw,Option.bind_some,wr_j hj hm.l])
  (fun k n0 n=>by
   refine (alC ..).trans ?_
   rw [bf (by omega)]) x.2.1.length 0 (Nat.zero_add _)
 rcases H with ⟨e,h⟩ | ⟨e,h⟩
 · exact .inl ⟨e,fun r hr=>(h r hr).dg⟩
 · exact .inr ⟨e,h.dg⟩
theorem aGz {a b:List Ce} (hm:a.length≤9223372036854775807) (hv:∀ x∈a,okCe x):∃ c,Ev (fun k=>aeY k a b) (c,())∧(c=true↔a=b):=by
 simp only [avU]
 refine aI1 fun e=>aJG (L:=fun k n j=>ab7 k n a b (a.length:Int) j) e (fun j x y hj hx hy=>?_) fun k n=>?_
 · have nx:=aaV hx
   have ny:=aaV hy
   have ok:=hv x (List.mem_of_getElem? hx)
   by_cases e1:x.1=y.1
   rotate_left
   · refine .inr ⟨fun e=>e1 (by rw [e]),0,fun k n _ _=>?_⟩
     refine (ad0 ..).trans ?_
     rw [bt (by omega),nx,Option.bind_some,ny,Option.bind_some,show beqL x.1 y.1=false from by rw [Bool.eq_false_iff]; exact fun h=>e1 ((apo _ _).1 h)]; rfl
   have q1:beqL x.1 y.1=true:=(apo _ _).2 e1
   obtain ⟨c,⟨K,hK⟩,hc⟩:=aGI (b:=y.2.2.1) ok.i
   cases c with
   | false =>
     refine .inr ⟨fun e=>(by have:=hc.2 (by rw [e]); cases this),K,fun k n hk _=>?_⟩
     refine (ad0 ..).trans ?_
     rw [bt (by omega),nx,Option.bind_some,ny,Option.bind_some,q1]
     show ((aa8 k x.2.2.1 y.2.2.1).bind _)=_
     rw [show aa8 k x.2.2.1 y.2.2.1=_ from hK k hk]; rfl
   | true =>
     have e2:=hc.1 rfl
     by_cases e3:x.2.1.length=y.2.1.length
     rotate_left
     · refine .inr ⟨fun e=>e3 (by rw [e]),K,fun k n hk _=>?_⟩
       refine (ad0 ..).trans ?_
       rw [bt (by omega),nx,Option.bind_some,ny,Option.bind_some,q1]
       show ((aa8 k x.2.2.1 y.2.2.1).bind _)=_
       rw [show aa8 k x.2.2.1 y.2.2.1=_ from hK k hk]
       show (bif !decide ((x.2.1.length:Int)=(y.2.1.length:Int)) then _ else _)=_
       rw [dF (show ¬ (x.2.1.length:Int)=(y.2.1.length:Int) by omega)]; rfl
     have step:∀ r,Ev2 (fun k n=>abL k n k a b (j:Int) (a.length:Int) (j:Int) a (j:Int) x x.2.2.1 x.2.2.1 b (j:Int) y y.2.2.1 y.2.2.1 true (!true) a (j:Int) x x.2.1 x.2.1 (x.2.1.length:Int) b (j:Int) y y.2.1 y.2.1 (y.2.1.length:Int) (!true) (x.2.1.length:Int) (0:Int)) r →
      Ev2 (fun k n=>ab7 k (n+1) a b (a.length:Int) (j:Int)) r:=fun r ⟨K2,h2⟩=>⟨Nat.max K K2,fun k n hk hn=>by
        refine (ad0 ..).trans ?_
        rw [bt (by omega),nx,Option.bind_some,ny,Option.bind_some,q1]
        show ((aa8 k x.2.2.1 y.2.2.1).bind _)=_
        rw [show aa8 k x.2.2.1 y.2.2.1=_ from hK k (Nat.le_trans (Nat.le_max_left ..) hk)]
        show (bif !decide ((x.2.1.length:Int)=(y.2.1.length:Int)) then _ else abL k n k a b (j:Int) (a.length:Int) (j:Int) a (j:Int) x x.2.2.1 x.2.2.1 b (j:Int) y y.2.2.1 y.2.2.1 true (!true) a (j:Int) x x.2.1 x.2.1 (x.2.1.length:Int) b (j:Int) y y.2.1 y.2.1 (y.2.1.length:Int) (!decide ((x.2.1.length:Int)=(y.2.1.length:Int))) (x.2.1.length:Int) (0:Int))=_
        rw [dT (show (x.2.1.length:Int)=(y.2.1.length:Int) by omega)]
        exact h2 k n (Nat.le_trans (Nat.le_max_right ..) hk) (Nat.le_trans (Nat.le_max_right ..) hn)⟩
     rcases aKA a b (j:Int) (a.length:Int) (j:Int) a (j:Int) x x.2.2.1 x.2.2.1 b (j:Int) y y.2.2.1 y.2.2.1 true (!true) a (j:Int) x x.2.1 x.2.1 (x.2.1.length:Int) b (j:Int) y y.2.1 y.2.1 (y.2.1.length:Int) (!true) nx ny ok e3 with ⟨h,h'⟩ | ⟨h,h'⟩
     · refine .inl ⟨?_,fun r hr=>step r (h' r ?_)⟩
       · obtain ⟨x1,x2,x3,⟨⟩⟩:=x
         obtain ⟨y1,y2,y3,⟨⟩⟩:=y
         simp only at e1 e2 h
         rw [e1,e2,h]
       · rw [wr_j hj hm]; exact hr
     · exact .inr ⟨fun e=>h (by rw [e]),step _ h'⟩
 · refine (ad0 ..).trans ?_
   rw [bf (by omega)]
theorem aKD (v41:(List D7_))(v42:(List D7_))(v43:Int)(v44:Int)(v45:(List Int))(v46:(List Int))(v47:Bool)(v48:Int)(v49:Int)(v50:Bool)(v51:(List D2_))(v52:Int)(v53:(List D2_))(v54:Int)(v55:Bool)(v56:(List Int))(v57:Int)(v58:(List Int))(v59:Int)(v60:Bool)(v63:Int)(v64:(List Int))(v65:(List D2_))(v66:Int)(v67:(List Int))(v68:Int)(v69:(List Int))(v70:(List D2_))(v71:Int)(v72:(List Int)) (hm:v67.length≤9223372036854775807) (hl:v67.length=v72.length) :
 (v67=v72∧∀ r,Ev2 (fun k n=>abn k n v41 v42 v43 (wr .i64 (v44+1))) r→Ev2 (fun k n=>(fun j=>abC k n k v41 v42 v43 v44 v45 v46 v47 v48 v49 v50 v51 v52 v53 v54 v55 v56 v57 v58 v59 v60 (v67.length:Int) j v63 v64 v65 v66 v67 v68 v69 v70 v71 v72) (0:Int)) r)∨(v67≠v72∧Ev2 (fun k n=>(fun j=>abC k n k v41 v42 v43 v44 v45 v46 v47 v48 v49 v50 v51 v52 v53 v54 v55 v56 v57 v58 v59 v60 (v67.length:Int) j v63 v64 v65 v66 v67 v68 v69 v70 v71 v72) (0:Int)) (false,())):=by
 have H:=all2 (L:=fun k n0 n j=>abC k n0 n v41 v42 v43 v44 v45 v46 v47 v48 v49 v50 v51 v52 v53 v54 v55 v56 v57 v58 v59 v60 (v67.length:Int) j v63 v64 v65 v66 v67 v68 v69 v70 v71 v72) (p:=fun _ (x y:Int)=>some (decide (x=y),())) (F:=(false,())) (G:=fun k n=>abn k n v41 v42 v43 (wr .i64 (v44+1))) hl (fun u hu w _=>aED decide_eq_true_iff)
  (fun k n0 n j u w hj hu hw=>by
   refine (akO ..).trans ?_
   rw [bt (by omega),aaV hu,Option.bind_some,aaV hw,wr_j hj hm]; rfl)
  (fun k n0 n=>by
   refine (akO ..).trans ?_
   rw [bf (by omega)]) v67.length 0 (Nat.zero_add _)
 rcases H with ⟨e,h⟩ | ⟨e,h⟩
 · exact .inl ⟨e,fun r hr=>(h r hr).dg⟩
 · exact .inr ⟨e,h.dg⟩
theorem aKC (v7:(List D7_))(v8:(List D7_))(v9:Int)(v10:Int)(v11:(List Int))(v12:(List Int))(v13:Bool)(v14:Int)(v15:Int)(v16:Bool)(v17:(List D2_))(v18:Int)(v19:(List D2_))(v20:Int)(v21:Bool)(v22:(List Int))(v23:Int)(v24:(List Int))(v25:Int)(v26:Bool)(v29:Int)(v30:(List Int))(v31:(List D2_))(v32:Int)(v33:(List Int))(v34:Int)(v35:(List Int))(v36:(List D2_))(v37:Int)(v38:(List Int)) (hm:v31.length≤9223372036854775807) (hl:v31.length=v36.length) :
 (v31=v36∧∀ r,Ev2 (fun k n=>abC k n k v7 v8 v9 v10 v11 v12 v13 v14 v15 v16 v17 v18 v19 v20 v21 v22 v23 v24 v25 v26 (v33.length:Int) (0:Int) v29 v30 v31 v32 v33 v34 v35 v36 v37 v38) r→Ev2 (fun k n=>(fun j=>abB k n k v7 v8 v9 v10 v11 v12 v13 v14 v15 v16 v17 v18 v19 v20 v21 v22 v23 v24 v25 v26 (v31.length:Int) j v29 v30 v31 v32 v33 v34 v35 v36 v37 v38) (0:Int)) r)∨(v31≠v36∧Ev2 (fun k n=>(fun j=>abB k n k v7 v8 v9 v10 v11 v12 v13 v14 v15 v16 v17 v18 v19 v20 v21 v22 v23 v24 v25 v26 (v31.length:Int) j v29 v30 v31 v32 v33 v34 v35 v36 v37 v38) (0:Int)) (false,())):=by
 have H:=all2 (L:=fun k n0 n j=>abB k n0 n v7 v8 v9 v10 v11 v12 v13 v14 v15 v16 v17 v18 v19 v20 v21 v22 v23 v24 v25 v26 (v31.length:Int) j v29 v30 v31 v32 v33 v34 v35 v36 v37 v38) (p:=fun _ (x y:Cl)=>some (Ty.decEq ClT x y,())) (F:=(false,())) (G:=fun k n=>abC k n k v7 v8 v9 v10 v11 v12 v13 v14 v15 v16 v17 v18 v19 v20 v21 v22 v23 v24 v25 v26 (v33.length:Int) (0:Int) v29 v30 v31 v32 v33 v34 v35 v36 v37 v38) hl (fun u hu w _=>aED (aFP u w))
  (fun k n0 n j u w hj hu hw=>by
   refine (akN ..).trans ?_
   rw [bt (by omega),aaV hu,Option.bind_some,aaV hw,wr_j hj hm]; rfl)
  (fun k n0 n=>by
   refine (akN ..).trans ?_
   rw [bf (by omega)]) v31.length 0 (Nat.zero_add _)
 rcases H with ⟨e,h⟩ | ⟨e,h⟩
 · exact .inl ⟨e,fun r hr=>(h r hr).dg⟩
 · exact .inr ⟨e,h.dg⟩
theorem aHZ {a b:List Tb} (hm:a.length≤9223372036854775807) (hv:∀ x∈a,okT x):∃ c,Ev (fun k=>ael k a b) (c,())∧(c=true↔a=b):=by
 simp only [auN]
 refine aI1 fun e=>aJG (L:=fun k n j=>abn k n a b (a.length:Int) j) e (fun j x y hj hx hy=>?_) fun k n=>?_
 · have nx:=aaV hx
   have ny:=aaV hy
   have ok:=hv x (List.mem_of_getElem? hx)
   have bad:∀ {P:Prop},(x=y→False)→(∀ k n,abn k (n+1) a b (a.length:Int) (j:Int)=some (false,()))→(x=y∧P)∨(x≠y∧Ev2 (fun k n=>abn k (n+1) a b (a.length:Int) (j:Int)) (false,())):=fun h h2=>.inr ⟨h,0,fun k n _ _=>h2 k n⟩
   by_cases e1:x.1=y.1
   rotate_left
   · refine bad (fun e=>e1 (by rw [e])) fun k n=>?_
     refine (ab5 ..).trans ?_
     rw [bt (by omega),ae_,nx,Option.bind_some,ny,Option.bind_some,dF e1]; rfl
   by_cases e2:x.2.1=y.2.1
   rotate_left
   · refine bad (fun e=>e2 (by rw [e])) fun k n=>?_
     refine (ab5 ..).trans ?_
     rw [bt (by omega),ae_,nx,Option.bind_some,ny,Option.bind_some,dT e1,show beqL x.2.1 y.2.1=false from by rw [Bool.eq_false_iff]; exact fun h=>e2 ((apo _ _).1 h)]; rfl
   have q2:beqL x.2.1 y.2.1=true:=(apo _ _).2 e2
   by_cases e3:x.2.2.2.1=y.2.2.2.1
   rotate_left
   · refine bad (fun e=>e3 (by rw [e])) fun k n=>?_
     refine (ab5 ..).trans ?_
     rw [bt (by omega),ae_,nx,Option.bind_some,ny,Option.bind_some,dT e1,q2,dF e3]; rfl
   by_cases e4:x.2.2.1.length=y.2.2.1.length
   rotate_left
   · refine bad (fun e=>e4 (by rw [e])) fun k n=>?_
     refine (ab5 ..).trans ?_
     rw [bt (by omega),ae_,nx,Option.bind_some,ny,Option.bind_some,dT e1,q2,dT e3,dF (show ¬ (x.2.2.1.length:Int)=(y.2.2.1.length:Int) by omega)]; rfl
   by_cases e5:x.2.2.2.2.1.length=y.2.2.2.2.1.length
   rotate_left
   · refine bad (fun e=>e5 (by rw [e])) fun k n=>?_
     refine (ab5 ..).trans ?_
     rw [bt (by omega),ae_,nx,Option.bind_some,ny,Option.bind_some,dT e1,q2,dT e3,dT (show (x.2.2.1.length:Int)=(y.2.2.1.length:Int) by omega),dF (show ¬ (x.2.2.2.2.1.length:Int)=(y.2.2.2.2.1.length:Int) by omega)]; rfl
   have step:∀ r,Ev2 (fun k n=>abB k n k a b (a.length:Int) (j:Int) x.2.1 y.2.1 (!true) x.2.2.2.1 y.2.2.2.1 (!true) x.2.2.1 (x.2.2.1.length:Int) y.2.2.1 (y.2.2.1.length:Int) (!true) x.2.2.2.2.1 (x.2.2.2.2.1.length:Int) y.2.2.2.2.1 (y.2.2.2.2.1.length:Int) (!true) (x.2.2.1.length:Int) (0:Int) x.1 x.2.1 x.2.2.1 x.2.2.2.1 x.2.2.2.2.1 y.1 y.2.1 y.2.2.1 y.2.2.2.1 y.2.2.2.2.1) r →
        Ev2 (fun k n=>abn k (n+1) a b (a.length:Int) (j:Int)) r:=fun r ⟨K2,h2⟩=>⟨K2,fun k n hk hn=>by
    refine (ab5 ..).trans ?_
    rw [bt (by omega),ae_,nx,Option.bind_some,ny,Option.bind_some,dT e1,q2,dT e3,dT (show (x.2.2.1.length:Int)=(y.2.2.1.length:Int) by omega),dT (show (x.2.2.2.2.1.length:Int)=(y.2.2.2.2.1.length:Int) by omega)]
    exact h2 k n hk hn⟩
   rcases aKC a b (a.length:Int) (j:Int) x.2.1 y.2.1 (!true) x.2.2.2.1 y.2.2.2.1 (!true) x.2.2.1 (x.2.2.1.length:Int) y.2.2.1 (y.2.2.1.length:Int) (!true) x.2.2.2.2.1 (x.2.2.2.2.1.length:Int) y.2.2.2.2.1 (y.2.2.2.2.1.length:Int) (!true) x.1 x.2.1 x.2.2.1 x.2.2.2.1 x.2.2.2.2.1 y.1 y.2.1 y.2.2.1 y.2.2.2.1 y.2.2.2.2.1 ok.c e4 with ⟨h,h'⟩ | ⟨h,h'⟩
   · rcases aKD a b (a.length:Int) (j:Int) x.2.1 y.2.1 (!true) x.2.2.2.1 y.2.2.2.1 (!true) x.2.2.1 (x.2.2.1.length:Int) y.2.2.1 (y.2.2.1.length:Int) (!true) x.2.2.2.2.1 (x.2.2.2.2.1.length:Int) y.2.2.2.2.1 (y.2.2.2.2.1.length:Int) (!true) x.1 x.2.1 x.2.2.1 x.2.2.2.1 x.2.2.2.2.1 y.1 y.2.1 y.2.2.1 y.2.2.2.1 y.2.2.2.2.1 ok.i e5 with ⟨g,g'⟩ | ⟨g,g'⟩
     · refine .inl ⟨?_,fun r hr=>step r (h' r (g' r ?_))⟩
       · obtain ⟨x1,x2,x3,x4,x5,⟨⟩⟩:=x
         obtain ⟨y1,y2,y3,y4,y5,⟨⟩⟩:=y
         simp only at e1 e2 e3 h g
         rw [e1,e2,e3,h,g]
       · rw [wr_j hj hm]; exact hr
     · exact .inr ⟨fun e=>g (by rw [e]),step _ (h' _ g')⟩
   · exact .inr ⟨fun e=>h (by rw [e]),step _ h'⟩
 · refine (ab5 ..).trans ?_
   rw [bf (by omega)]
theorem aHX {a b:Rs} (hm:okR a):∃ c,Ev (fun k=>afz k a b) (c,())∧(c=true↔a=b):=by
 simp only [auL]
 have tail:a.2.2.2.2.1.length=b.2.2.2.2.1.length→∃ c,Ev (fun k=>adm k k (a.2.2.2.2.1.length:Int) (0:Int) a.1 a.2.1 a.2.2.1 a.2.2.2.1 a.2.2.2.2.1 a.2.2.2.2.2.1 a.2.2.2.2.2.2.1 b.1 b.2.1 b.2.2.1 b.2.2.2.1 b.2.2.2.2.1 b.2.2.2.2.2.1 b.2.2.2.2.2.2.1) (c,())∧(c=true↔a.2.2.2.2.1=b.2.2.2.2.1∧(a.2.2.2.2.2.1=b.2.2.2.2.2.1∧a.2.2.2.2.2.2.1=b.2.2.2.2.2.2.1)):=fun hl=>by
  have H:=all2 (L:=fun k (_:Nat) n j=>adm k n (a.2.2.2.2.1.length:Int) j a.1 a.2.1 a.2.2.1 a.2.2.2.1 a.2.2.2.2.1 a.2.2.2.2.2.1 a.2.2.2.2.2.2.1 b.1 b.2.1 b.2.2.1 b.2.2.2.1 b.2.2.2.2.1 b.2.2.2.2.2.1 b.2.2.2.2.2.2.1) (p:=fun _ (x y:Sx)=>some (Ty.decEq SxT x y,())) (F:=(false,()))
   (G:=fun k _=>(aeY k a.2.2.2.2.2.1 b.2.2.2.2.2.1).bind fun r=>bif r.1 then (ael k a.2.2.2.2.2.2.1 b.2.2.2.2.2.2.1).bind fun r=>some (r.1,()) else some (false,())) hl (fun u hu w _=>aED (aFQ u w))
   (fun k _ n j u w hj hu hw=>by
        refine (akM ..).trans ?_
        rw [bt (by omega),aaV hu,Option.bind_some,aaV hw,wr_j hj hm.s]; rfl)
   (fun k _ n=>by
        refine (akM ..).trans ?_
        rw [bf (by omega)]) a.2.2.2.2.1.length 0 (Nat.zero_add _)
  rcases H with ⟨e,h⟩ | ⟨e,h⟩
  · obtain ⟨c,h1,h2⟩:=aIO (aGz (b:=b.2.2.2.2.2.1) hm.c hm.ce) fun _=>aGc (aHZ (b:=b.2.2.2.2.2.2.1) hm.t hm.tb)
    obtain ⟨K,hK⟩:=h _ h1.e2
    exact ⟨c,⟨K,fun k hk=>hK k k k hk hk hk⟩,⟨fun c=>⟨e,h2.1 c⟩,fun c=>h2.2 c.2⟩⟩
  · obtain ⟨K,hK⟩:=h
    exact ⟨false,⟨K,fun k hk=>hK k k k hk hk hk⟩,⟨nofun,fun c=>absurd c.1 e⟩⟩
 refine aIl ?_ (ay7 decide_eq_true_iff fun _=>ay7 decide_eq_true_iff fun _=>ay7 decide_eq_true_iff fun _=>ay7 (aDV _ _) fun _=>ay7 decide_eq_true_iff fun h=>tail (by omega))
 obtain ⟨a1,a2,a3,a4,a5,a6,a7,⟨⟩⟩:=a
 obtain ⟨b1,b2,b3,b4,b5,b6,b7,⟨⟩⟩:=b
 simp
 intro _ _ _ _ e _ _
 rw [e]
theorem aCO (l:List Lk) (hl:l.length≤1000):Ev (fun k=>aeZ k l l) (true,()):=by
 simp only [avW]
 have key:∀ d j,j+d=l.length→Ev2 (fun k n=>aea k n l l (l.length:Int) (j:Int)) (true,()):=by
  intro d
  induction d with
  | zero =>
    intro j hj
    have:j=l.length:=by omega
    subst this
    refine .up ⟨0,fun k n _ _=>?_⟩
    refine (alD ..).trans ?_
    rw [bf (by omega)]
  | succ d ih =>
    intro j hj
    have hlt:j < l.length:=by omega
    have hx:nth l (j:Int)=some l[j]:=aaV (List.getElem?_eq_getElem hlt)
    generalize l[j]=w at hx
    obtain ⟨K,hK⟩:=ih (j+1) (by omega)
    refine .up ⟨K,fun k n hk hn=>?_⟩
    refine (alD ..).trans ?_
    rw [bt (by omega),hx,Option.bind_some,Option.bind_some,azB,Option.bind_some,show ajq w w=true from (aEG w w).2 rfl,abr (by omega)]
    exact hK k n hk hn
 obtain ⟨K,hK⟩:=(key l.length 0 (by omega)).dg
 refine ⟨K,fun k hk=>?_⟩
 show (bif !decide True then _ else _)=_
 rw [dT trivial]
 exact hK k hk
theorem bndD {α β:Type} {x:Option α} {r:α} {G:α→Option β} (h:x=some r):x.bind G=G r:=by rw [h]; rfl
theorem aqi (e:Int):okR (errR e):=⟨Nat.zero_le _,Nat.zero_le _,nofun,Nat.zero_le _,nofun⟩
theorem aJ4 (b:Bool):okR (flR b):=⟨Nat.zero_le _,Nat.zero_le _,nofun,Nat.zero_le _,nofun⟩
theorem aDt {l:List Sx} (h:l.length≤1000):okR (stsR l):=⟨by show l.length≤_; omega,Nat.zero_le _,nofun,Nat.zero_le _,nofun⟩
theorem aGt {l:List Tb} (h:l.length≤1000) (ht:∀ t∈l,smT t):okR (tabR l):=⟨Nat.zero_le _,Nat.zero_le _,nofun,by show l.length≤_; omega,fun t hx=>⟨by have:=(ht t hx).1; omega,by have:=(ht t hx).2; omega⟩⟩
theorem aJf {c:Cm} (C:smC c) {S:MS} {n:Nat} (I:MI S n) (hn:n≤80) {r:Rs} {S':MS} (R:oneR c S r S'):okR r:=by
 rcases R with ⟨_,b,e,hs',ws',_,rfl,_⟩ | ⟨_,rfl,_⟩
 · split
   · exact aJ4 b
   · exact aqi e
 · unfold oneP
   split
   · exact ⟨Nat.zero_le _,Nat.zero_le _,nofun,Nat.zero_le _,nofun⟩
   split
   · show okR (decP S.T S.cl c.2.2.2.1 c.2.2.2.2.2.1).1
     unfold decP
     cases txP S.T c.2.2.2.1 with
     | none=>exact aqi _
     | some s =>
       dsimp only
       split
       · cases c.2.2.2.2.2.1 <;> exact aDt (by simp)
       · exact aDt (by simp)
   split
   · exact aDt (by rw [List.length_map]; exact C.y)
   split
   · exact aqi _
   split
   · exact aqi _
   split
   · show okR (tabP S.B c.2.2.2.2.2.2.2.2.2.2.2.2.1).1
     unfold tabP
     cases aBc c.2.2.2.2.2.2.2.2.2.2.2.2.1 with
     | false=>exact aqi _
     | true =>
       cases S.B.any fun y=>beqL y.2.1 c.2.2.2.2.2.2.2.2.2.2.2.2.1.2.1 with
       | true=>exact aqi _
       | false =>
         cases decide (40≤S.B.length) with
         | true=>exact aqi _
         | false=>exact aGt (by simp) fun t ht=>by rw [List.mem_singleton] at ht; subst ht; exact aDq C.t
   split
   · exact aGt (by have:=I.bl; omega) I.ts
   · exact aqi _
def MR (M:Mp):Prop:=∀ (y:Int) w,ab_ (.int .u64) M y=some w→okR w.2.1
theorem aH_ {M:Mp} (h:MR M) {c:Cm} {r:Rs} (ht:azK M c=some r):okR r:=by
 unfold azK at ht
 split at ht
 · cases ht
 · split at ht
   · cases ht
   · rename_i w hw
     split at ht
     · cases ht
     · split at ht
       · cases ht; exact h _ _ hw
       · cases ht; exact aqi 1
theorem aAF {M:Mp} {c:Cm} {r:Rs} (h:c.1≠0):ab_ (.int .u64) (ax1 M c r) c.1=some (c.2.1,(r,())) :=
 (congrArg (fun m=>ab_ (.int .u64) m c.1) (show ax1 M c r=_ from if_neg h)).trans (ana (kt:=.int .u64) hdU M c.1 (c.2.1,(r,())))
theorem aEn {M:Mp} {c:Cm} {r:Rs} (h:c.1≠0) {y:Int} (e:y≠c.1):ab_ (.int .u64) (ax1 M c r) y=ab_ (.int .u64) M y :=
 (congrArg (fun m=>ab_ (.int .u64) m y) (show ax1 M c r=_ from if_neg h)).trans (aqb (kt:=.int .u64) hdU M c.1 y (c.2.1,(r,())) e)
theorem MR.do {c:Cm} (C:smC c) {S:MS} {n:Nat} (I:MI S n) (hn:n≤80) {M:Mp} (h:MR M) {r:Rs} {S':MS} {M':Mp} (R:doR c S M r S' M'):MR M'∧okR r:=by
 rcases R with ⟨ht,_,rfl⟩ | ⟨_,R,rfl⟩
 · exact ⟨h,aH_ h ht⟩
 · have ok:=aJf C I hn R
   refine ⟨?_,ok⟩
   by_cases h0:c.1=0
   · rw [show ax1 M c r=M from if_pos h0]; exact h
   · intro y w hw
     by_cases e:y=c.1
     · subst e
       rw [aAF h0] at hw
       cases hw; exact ok
     · rw [aEn h0 e] at hw
       exact h y w hw
theorem aIQ (k:Nat) (cl:Int) (nt nb:Nat) (T:List Sx) (nh nw:Nat) (B:List Tb) (M:Mp) (H W:List Lk):ad7 k cl nt nb T nh nw true B M H W=some (cl,((cl,(nt,((),(nb,((),()))))),((T,()),((nh,(nw,(true,()))),((B,()),((M,()),((H,()),((W,()),())))))))):=by
 rw [arB,acR]; rfl
theorem aI4 (k:Nat) (cl:Int) (nt nb:Nat) (T:List Sx) (nh nw:Nat) (B:List Tb) (M:Mp) (H W:List Lk):ad8 k cl nt nb T nh nw true B M H W=some (Sum.inr ((),((cl,(nt,((),(nb,((),()))))),((T,()),((nh,(nw,(true,()))),((B,()),((M,()),((H,()),((W,()),()))))))))):=by
 rw [arE,acR]; rfl
def lkOf : Mp→Int→Option (Int×(Rs×Unit))
 | [],_=>none
 | t :: l,y=>if t.1=y then some t.2 else lkOf l y
structure AM (A M:Mp):Prop where
 nd:A.Pairwise (fun s t=>s.1≠t.1)
 lk:∀ y:Int,y≠0→ab_ (.int .u64) M y=lkOf A y
theorem aID {c:Cm} (h:c.1=0):∀ A,wasL c A=none
 | []=>rfl
 | t :: l=>by unfold wasL; rw [if_pos h]; exact aID h l
theorem aHc {c:Cm} (h:c.1≠0):∀ A:Mp,(∀ t∈A,t.1≠c.1)→wasL c A=none
 | [],_=>rfl
 | t :: l,hA=>by
   unfold wasL
   rw [if_neg h,if_neg (hA t (List.mem_cons_self ..))]
   exact aHc h l fun u hu=>hA u (List.mem_cons_of_mem _ hu)
theorem aHb {c:Cm} (h:c.1≠0):∀ A:Mp,A.Pairwise (fun s t=>s.1≠t.1)→wasL c A=(match lkOf A c.1 with
 | none=>none
 | some w=>if w.1 < c.2.1 then none else if w.1=c.2.1 then some w.2.1 else some (errR 1))
 | [],_=>rfl
 | t :: l,nd=>by
   rw [List.pairwise_cons] at nd
   unfold wasL lkOf
   rw [if_neg h]
   by_cases e:t.1=c.1
   · rw [if_pos e,if_pos e]
     by_cases c2:t.2.1 < c.2.1
     · simp only [if_pos c2]
       exact aHc h l fun u hu=>by rw [← e]; exact fun x=>nd.1 u hu x.symm
     · by_cases c3:t.2.1=c.2.1
       · simp only [if_neg c2,if_pos c3]
       · simp only [if_neg c2,if_neg c3]
   · rw [if_neg e,if_neg e]
     exact aHb h l nd.2
theorem AM.told {A M:Mp} (h:AM A M) (c:Cm):wasL c A=azK M c:=by
 by_cases c0:c.1=0
 · rw [aID c0]; unfold azK; rw [if_pos c0]
 · unfold azK
   rw [if_neg c0,h.lk _ c0,aHb c0 A h.nd]
   cases lkOf A c.1 <;> rfl
theorem aEc : ∀ (A B:Mp) (y:Int),lkOf (A++B) y=(match lkOf A y with | some w=>some w | none=>lkOf B y)
 | [],B,y=>rfl
 | t :: l,B,y=>by
   show (if t.1=y then some t.2 else lkOf (l++B) y)=(match (if t.1=y then some t.2 else lkOf l y) with | some w=>some w | none=>lkOf B y)
   by_cases e:t.1=y
   · rw [if_pos e,if_pos e]
   · rw [if_neg e,if_neg e,aEc l B y]
theorem aA1 {v:Int}:∀ (A:Mp) (y:Int),y≠v→lkOf (A.filter fun t=>!decide (t.1=v)) y=lkOf A y
 | [],y,_=>rfl
 | t :: l,y,h=>by
   by_cases e:t.1=v
   · rw [List.filter_cons_of_neg (by rw [dT e]; simp),aA1 l y h]
     show _=if t.1=y then _ else _
     rw [if_neg (by rw [e]; exact fun x=>h x.symm)]
   · rw [List.filter_cons_of_pos (by rw [dF e]; rfl)]
     show (if t.1=y then _ else lkOf (l.filter _) y)=if t.1=y then _ else _
     rw [aA1 l y h]
theorem aDi {v:Int}:∀ (A:Mp),lkOf (A.filter fun t=>!decide (t.1=v)) v=none
 | []=>rfl
 | t :: l=>by
   by_cases e:t.1=v
   · rw [List.filter_cons_of_neg (by rw [dT e]; simp),aDi l]
   · rw [List.filter_cons_of_pos (by rw [dF e]; rfl)]
     show (if t.1=v then _ else lkOf (l.filter _) v)=_
     rw [if_neg e,aDi l]
theorem AM.note {A M:Mp} (h:AM A M) (c:Cm) (r:Rs):AM (aFf A c r) (ax1 M c r):=by
 have hf:(A.filter fun t=>!decide (t.1=c.1)).Pairwise (fun s t=>s.1≠t.1):=h.nd.sublist List.filter_sublist
 unfold aFf aGr
 by_cases c0:c.1=0
 · rw [if_pos c0,List.append_nil,show ax1 M c r=M from if_pos c0]
   exact ⟨hf,fun y hy=>by rw [aA1 A y (by rw [c0]; exact hy)]; exact h.lk y hy⟩
 · rw [if_neg c0]
   refine ⟨List.pairwise_append.2 ⟨hf,List.pairwise_singleton ..,fun s hs t ht=>?_⟩,fun y hy=>?_⟩
   · rw [List.mem_singleton] at ht
     subst ht
     have:=(List.mem_filter.1 hs).2
     simpa using this
   · rw [aEc]
     by_cases e:y=c.1
     · subst e
       rw [aAF c0,aDi]
       show _=if c.1=c.1 then _ else _
       rw [if_pos rfl]
     · rw [aEn c0 e,h.lk y hy,aA1 A y e]
       cases lkOf A y with
       | some w=>rfl
       | none=>show _=if c.1=y then _ else _; rw [if_neg (fun x=>e x.symm)]; rfl
theorem aGq (A:Mp) (c:Cm) (r:Rs):(aFf A c r).length≤A.length+1:=by
 unfold aFf aGr
 have:=List.length_filter_le (fun t:Int×(Int×(Rs×Unit))=>!decide (t.1=c.1)) A
 rw [List.length_append]
 split
 · simp; omega
 · simp; omega
theorem aJ8 {c:Cm} (C:smC c) {S:MS} {n:Nat} (I:MI S n) (hn:n≤80) (D:IDs S.T) (N:NZ S.ws) {A M:Mp} (h:AM A M) (hA:A.length≤1000) {nt:Nat} {T:List Sx} (ht:nt≤T.length) (eT:T.take nt=S.T) :
 ∃ r S' M' A' nt' T',doR c S M r S' M'∧AM A' M'∧A'.length≤A.length+1∧nt'≤T'.length∧T'.take nt'=S'.T∧Ev (fun k=>aii k c A S.cl nt S.hs S.ws S.B T) (rout r A' S'.cl nt' S'.hs S'.ws S'.B T'):=by
 obtain ⟨K,hK⟩:=aJt A S.cl nt S.hs S.ws S.B T c hA
 cases hw:wasL c A with
 | some r =>
   refine ⟨r,S,M,A,nt,T,.inl ⟨by rw [← h.told c,hw],rfl,rfl⟩,h,by omega,ht,eT,K,fun k hk=>?_⟩
   have hk:=hK k hk
   rw [hw] at hk
   refine (aqF ..).trans ((ae_ _).trans ?_)
   refine (bndE hk).trans ?_
   exact (ajI (by rfl)).trans rfl
 | none =>
   obtain ⟨r,S',nt',T',R,g1,g2,K2,h2⟩:=aJq C I hn D N A ht eT
   obtain ⟨K3,h3⟩:=aHT A S'.cl nt' S'.hs S'.ws S'.B T' c r hA
   refine ⟨r,S',ax1 M c r,aFf A c r,nt',T',.inr ⟨by rw [← h.told c,hw],R,rfl⟩,h.note c r,aGq A c r,g1,g2,Nat.max K (Nat.max K2 K3),fun k hk=>?_⟩
   have a1:=hK k (Nat.le_trans (Nat.le_max_left ..) hk)
   rw [hw] at a1
   have a2:=h2 k (Nat.le_trans (Nat.le_trans (Nat.le_max_left K2 K3) (Nat.le_max_right K _)) hk)
   have a3:=h3 k (Nat.le_trans (Nat.le_trans (Nat.le_max_right K2 K3) (Nat.le_max_right K _)) hk)
   refine (aqF ..).trans ((ae_ _).trans ?_)
   refine (bndE a1).trans ?_
   refine (agq (by rfl)).trans ?_
   refine (bndE a2).trans ?_
   refine (bndE a3).trans ?_
   rfl
theorem aIU {c:Cm} {S:MS} {M:Mp} {r r2:Rs} {S' S2:MS} {M' M2:Mp} (R:doR c S M r S' M') (R2:doR c S M r2 S2 M2):r=r2∧S'=S2∧M'=M2:=by
 rcases R with ⟨h,rfl,rfl⟩ | ⟨h,R,rfl⟩
 · rcases R2 with ⟨h2,rfl,rfl⟩ | ⟨h2,_⟩
   · rw [h] at h2; cases h2; exact ⟨rfl,rfl,rfl⟩
   · rw [h] at h2; cases h2
 · rcases R2 with ⟨h2,_⟩ | ⟨_,R2,rfl⟩
   · rw [h] at h2; cases h2
   · obtain ⟨rfl,rfl⟩:=aHH R R2
     exact ⟨rfl,rfl,rfl⟩
theorem IDs.do {c:Cm} {S:MS} (D:IDs S.T) {M:Mp} {r:Rs} {S':MS} {M':Mp} (R:doR c S M r S' M'):IDs S'.T:=by
 rcases R with ⟨_,rfl,_⟩ | ⟨_,R,_⟩
 · exact D
 · exact D.one R
theorem NZ.do {c:Cm} {S:MS} (N:NZ S.ws) {M:Mp} {r:Rs} {S':MS} {M':Mp} (R:doR c S M r S' M'):NZ S'.ws:=by
 rcases R with ⟨_,rfl,_⟩ | ⟨_,R,_⟩
 · exact N
 · exact N.one R
theorem aHB {l:List Cm} (hl:l.length≤40) (hs:∀ c∈l,smC c):∀ d i (S:MS) (M A:Mp) (cl:Int) (nt nb:Nat) (T:List Sx) (nh nw:Nat) (B:List Tb) (H W:List Lk) (rN:Nat) (rT:List Sx),i+d=l.length→MI S i→MR M→Rp S cl nt nb T nh nw B H W →
 AM A M→A.length≤i→IDs S.T→NZ S.ws→rN≤rT.length→rT.take rN=S.T →
 Ev2 (fun k n=>aeH k n l (l.length:Int) (i:Int) cl nt nb A S.cl rN S.hs S.ws S.B T nh nw true B M rT H W) (true,()):=by
 intro d
 induction d with
 | zero =>
   intro i S M A cl nt nb T nh nw B H W rN rT hi I Q P hAM hA D N hr er
   obtain ⟨p1,p2,p3,p4,pe⟩:=P
   subst pe
   have lh:(H.take nh).length=nh:=by rw [List.length_take,Nat.min_eq_left p3]
   have lw:(W.take nw).length=nw:=by rw [List.length_take,Nat.min_eq_left p4]
   have b1:nh≤i:=by have:=I.L.h; rw [← lh]; exact this
   have b2:nw≤i:=by have:=I.L.w; rw [← lw]; exact this
   obtain ⟨K1,h1⟩:=aIY (H:=H) (W:=W) (nh:=nh) (nw:=nw) p3 (by omega) I.L.sh
   obtain ⟨K2,h2⟩:=aCO (H.take nh) (by omega)
   obtain ⟨K3,h3⟩:=aFx (H:=H) (W:=W) (nh:=nh) (nw:=nw) p4 (by omega) I.L.sw
   obtain ⟨K4,h4⟩:=aCO (W.take nw) (by omega)
   refine .up ⟨Nat.max (Nat.max K1 K2) (Nat.max K3 K4),fun k n a _=>?_⟩
   have a1:=h1 k (Nat.le_trans (Nat.le_trans (Nat.le_max_left ..) (Nat.le_max_left ..)) a)
   have a2:=h2 k (Nat.le_trans (Nat.le_trans (Nat.le_max_right K1 K2) (Nat.le_max_left ..)) a)
   have a3:=h3 k (Nat.le_trans (Nat.le_trans (Nat.le_max_left K3 K4) (Nat.le_max_right ..)) a)
   have a4:=h4 k (Nat.le_trans (Nat.le_trans (Nat.le_max_right K3 K4) (Nat.le_max_right ..)) a)
   refine (ame ..).trans ?_
   refine (agq (dF (by omega))).trans ?_
   refine (bndD (aI4 ..)).trans ?_
   refine (bndD a1).trans ?_
   refine (bndD a2).trans ?_
   refine (ajI (by rfl)).trans ?_
   refine (bndD a3).trans ?_
   exact (bndD a4).trans rfl
 | succ d ih =>
   intro i S M A cl nt nb T nh nw B H W rN rT hi I Q P hAM hA D N hr er
   have hlt:i < l.length:=by omega
   have hx:nth l (i:Int)=some l[i]:=aaV (List.getElem?_eq_getElem hlt)
   have hy:=hs l[i] (List.getElem_mem hlt)
   generalize l[i]=x at hx hy
   obtain ⟨r,S1,M1,cl1,nt1,nb1,T1,nh1,nw1,B1,H1,W1,P1,R1,hE1⟩:=aKv hy I (by omega) M P
   obtain ⟨r2,S2,M2,A2,rN2,rT2,R2,hAM2,hA2,g1,g2,hE2⟩:=aJ8 hy I (by omega) D N hAM (by omega) hr er
   obtain ⟨rfl,rfl,rfl⟩:=aIU R1 R2
   have ok:=(Q.do hy I (by omega) R1).2
   obtain ⟨c',hS,hc'⟩:=aHX (b:=r) ok
   have:c'=true:=hc'.2 rfl
   subst this
   have ecl:S1.cl=cl1:=by rw [P1.e]
   obtain ⟨K1,h1⟩:=hE1
   obtain ⟨K2,h2⟩:=hE2
   obtain ⟨K3,h3⟩:=hS
   obtain ⟨K4,h4⟩:=ih (i+1) S1 M1 A2 cl1 nt1 nb1 T1 nh1 nw1 B1 H1 W1 rN2 rT2 (by omega) (I.do hy R1) (Q.do hy I (by omega) R1).1 P1 hAM2 (by omega) (D.do R1) (N.do R1) g1 g2
   refine .up ⟨Nat.max (Nat.max K1 K2) (Nat.max K3 K4),fun k n a b=>?_⟩
   have a1:=h1 k (Nat.le_trans (Nat.le_trans (Nat.le_max_left ..) (Nat.le_max_left ..)) a)
   have a2:=h2 k (Nat.le_trans (Nat.le_trans (Nat.le_max_right K1 K2) (Nat.le_max_left ..)) a)
   have a3:=h3 k (Nat.le_trans (Nat.le_trans (Nat.le_max_left K3 K4) (Nat.le_max_right ..)) a)
   have a4:=h4 k n (Nat.le_trans (Nat.le_trans (Nat.le_max_right K3 K4) (Nat.le_max_right ..)) a) (Nat.le_trans (Nat.le_trans (Nat.le_max_right K3 K4) (Nat.le_max_right ..)) b)
   refine (ame ..).trans ?_
   refine (ajI (dT (by omega))).trans ?_
   refine (bndD hx).trans ?_
   refine (bndD a1).trans ?_
   refine (bndD a2).trans ?_
   refine (bndD a3).trans ?_
   refine (agq (by rfl)).trans ?_
   refine (bndD (aIQ ..)).trans ?_
   refine (agq (by show (!decide (cl1=S1.cl))=false; rw [dT ecl.symm]; rfl)).trans ?_
   have e:wr .i64 ((i:Int)+1)=((i+1:Nat):Int):=abr (by omega)
   rw [e]
   exact a4
theorem aHA (l:List CmdD) (f:wfD (.sl CT) l) (z:szD (.sl CT) l):Ev (fun k=>law15_MetaDoes k l) (true,()):=by
 simp only [awE,aII]
 refine .bind .ret (.bind (aG1 f z) ?_)
 cases hb:(l.all sC&&decide (l.length≤40)) with
 | false=>exact .from 0 fun k=>rfl
 | true =>
   obtain ⟨h1,h2⟩:=aKf f hb
   have:=(aHB h1 h2 l.length 0 ⟨0,[],[],[],[]⟩ [] [] 0 0 0 [] 0 0 [] [] [] 0 [] (by omega) MI.new (fun y w h=>by cases h) Rp.new ⟨List.Pairwise.nil,fun y _=>rfl⟩ (Nat.le_refl _) (fun i s h=>by simp at h) nofun (Nat.le_refl _) rfl).dg
   simp only [ay0,ayH]
   exact this
theorem MetaDoes_true (l:List CT.D) (f:wfD (.sl CT) l) (z:szD (.sl CT) l):∃ k,law15_MetaDoes k l=some (true,()):=(aHA l f z).ex
end Go.Proofs.Ytgmeimbamfggkaa.Den
