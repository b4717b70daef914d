import Derived.Test.YtgmeimbamfggkaaDMetaAgain
import Derived.Test.YtgmeimbamfggkaaDen35
namespace Go.Proofs.Ytgmeimbamfggkaa.Den
open Go Go.RowKit
set_option linter.unusedVariables false
set_option linter.unusedSimpArgs false
abbrev Lk : Type:=Int×(Int×(Int×((List Int)×((List Int)×Unit))))
theorem aBV (k:Nat) (l:List Int):aco k l=lim (0+l.length) (some (l,())):=by
 rw [am2]
 cases l with
 | nil=>exact agC _
 | cons a l=>rfl
theorem aGp (k:Nat) (a:Lk):ajq k a=(lim (0+a.2.2.2.1.length) (lim (0+a.2.2.2.2.1.length) (some ((a.1,(a.2.1,(a.2.2.1,(a.2.2.2.1,(a.2.2.2.2.1,()))))),((a.1,(a.2.1,(a.2.2.1,(a.2.2.2.1,(a.2.2.2.2.1,()))))),()))))):=by
 rw [azE,aBV,aBV]
 unfold lim
 split
 · split <;> rfl
 · rfl
theorem avY : ∀ a b,ltL a b=true→ltL b a=false
 | [],[],h=>by cases h
 | [],_ :: _,_=>rfl
 | _ :: _,[],h=>by cases h
 | a :: x,b :: y,h=>by
   have ih:=avY x y
   unfold ltL at h ⊢
   by_cases c:a < b
   · have:¬ b < a:=by omega
     have:¬ b=a:=by omega
     simp [*]
   · by_cases e:a=b
     · subst e
       simp at h ⊢
       exact ih h
     · simp [c,e] at h
theorem aEM : ∀ a b,cmpL a b=if ltL a b then -1 else if ltL b a then 1 else 0
 | [],[]=>rfl
 | [],_ :: _=>rfl
 | _ :: _,[]=>rfl
 | a :: x,b :: y=>by
   have ih:=aEM x y
   unfold cmpL ltL
   by_cases h:a < b
   · simp [h]
   · by_cases h2:b < a
     · have:¬ a=b:=by omega
       simp [h,h2,this]
     · have:a=b:=by omega
       simp [this,ih]
theorem aFy (a b:List Int):decide (0 < cmpL a b)=ltL b a:=by
 rw [aEM]
 cases h:ltL a b with
 | true=>rw [avY _ _ h]; rfl
 | false=>cases ltL b a <;> rfl
theorem aFz (a b:List Int):decide (cmpL a b≤0)=!ltL b a:=by
 rw [aEM]
 cases h:ltL a b with
 | true=>rw [avY _ _ h]; rfl
 | false=>cases ltL b a <;> rfl
theorem ayn (k:Nat) (a b:List Int):agI k a b=some (cmpL a b,()):=by
 rw [auT,amd]; rfl
def endP (hi key:List Int):Bool:=decide (0 < (hi.length:Int))&&!ltL key hi
theorem aEg (k:Nat) (h y:List Int):akE k h y=some (endP h y,()):=by
 rw [ayG,ayn]
 unfold endP
 cases decide (0 < (h.length:Int))
 · rfl
 · show some (decide (cmpL h y≤0),())=_
   rw [aFz]; rfl
def axI (a b:Lk):Bool:=decide (a.2.1=b.2.1)&&(!endP a.2.2.2.2.1 b.2.2.2.1&&!endP b.2.2.2.2.1 a.2.2.2.1)
theorem aCv (k:Nat) (a b:Lk):al7 k a b=some (axI a b,()):=by
 rw [axE]
 simp only [aEg,Option.bind_some]
 unfold axI
 cases decide (a.2.1=b.2.1) <;> cases endP a.2.2.2.2.1 b.2.2.2.1 <;> rfl
def awT (a b:Lk):Bool:=decide (a.1=b.1)||!axI a b
theorem aEC (k:Nat) (a b:Lk):al6 k a b=some (awT a b,()):=by
 rw [axx]
 simp only [aCv,Option.bind_some]
 unfold awT
 cases decide (a.1=b.1) <;> rfl
theorem aEo (k:Nat) (m:Int):akF k m=some (decide (1≤m)&&decide (m≤4),()):=by
 rw [ayK]
 cases decide (1≤m) <;> rfl
def fit1 (a b:Int):Bool:=bif decide (a < 1) then false else bif decide (4 < b) then false else bif decide (a=1) then !decide (b=4) else bif decide (a=2) then decide (b=2) else bif decide (a=3) then decide (b=3) else false
def fitP (a b:Int):Bool:=bif decide (b < a) then fit1 b a else fit1 a b
theorem aFM (k:Nat) (a b:Int):an5 k a b=some (fitP a b,()):=by
 rw [ayD]
 simp only [aEo,ayH,Option.bind_some]
 by_cases ha:1≤a∧a≤4
 · by_cases hb:1≤b∧b≤4
   · have h1:a=1∨a=2∨a=3∨a=4:=by omega
     have h2:b=1∨b=2∨b=3∨b=4:=by omega
     rcases h1 with rfl | rfl | rfl | rfl <;> rcases h2 with rfl | rfl | rfl | rfl <;> rfl
   · have e:(decide (1≤b)&&decide (b≤4))=false:=by simpa using hb
     rw [e,show (decide (1≤a)&&decide (a≤4))=true by simpa using ha]
     show some (false,())=_
     congr 2
     unfold fitP fit1
     by_cases c:b < a
     · rw [dT c]; have:b < 1:=by omega
       rw [dT this]; rfl
     · rw [dF c,dF (show ¬ a < 1 by omega)]
       by_cases c4:4 < b
       · rw [dT c4]; rfl
       · exact absurd ⟨by omega,by omega⟩ hb
 · have e:(decide (1≤a)&&decide (a≤4))=false:=by simpa using ha
   rw [e]
   show some (false,())=_
   congr 2
   unfold fitP fit1
   by_cases c:b < a
   · rw [dT c]
     by_cases c1:b < 1
     · rw [dT c1]; rfl
     · rw [dF c1,dT (show 4 < a by omega)]; rfl
   · rw [dF c]
     by_cases c1:a < 1
     · rw [dT c1]; rfl
     · rw [dF c1,dT (show 4 < b by omega)]; rfl
theorem aFK (a b:Int):fitP a b=fitP b a:=by
 unfold fitP
 by_cases c:b < a
 · rw [dT c,dF (show ¬ a < b by omega)]; rfl
 · by_cases c2:a < b
   · rw [dF c,dT c2]; rfl
   · have:a=b:=by omega
     subst this; rfl
def aFX (a b:Int):Bool:=decide (a=b)||(decide (a=4)||(decide (b=1)&&(decide (a=3)||decide (a=2))))
def covP (a b:Lk):Bool:=decide (a.1=b.1)&&(decide (a.2.1=b.2.1)&&(!ltL b.2.2.2.1 a.2.2.2.1&&((decide ((a.2.2.2.2.1.length:Int)=0)||(decide (0 < (b.2.2.2.2.1.length:Int))&&!ltL a.2.2.2.2.1 b.2.2.2.2.1))&&aFX a.2.2.1 b.2.2.1)))
theorem aCH (l:List Int):decide (0 < (l.length:Int))=!decide ((l.length:Int)=0):=by
 cases l with
 | nil=>rfl
 | cons a l=>rw [dT (by simp; try omega),dF (by simp; try omega)]; rfl
theorem aDv (k:Nat) (a b:Lk):ami k a b=some (covP a b,()):=by
 rw [awE]
 simp only [ayn,Option.bind_some,aFy,aCH]
 unfold covP aFX
 simp only [aCH]
 cases decide (a.1=b.1) <;> (try rfl)
 cases decide (a.2.1=b.2.1) <;> (try rfl)
 cases ltL b.2.2.2.1 a.2.2.2.1 <;> (try rfl)
 cases decide ((a.2.2.2.2.1.length:Int)=0) <;> cases decide ((b.2.2.2.2.1.length:Int)=0) <;> cases ltL a.2.2.2.2.1 b.2.2.2.2.1 <;> (try rfl) <;>
  (cases decide (a.2.2.1=b.2.2.1) <;> cases decide (a.2.2.1=4) <;> cases decide (b.2.2.1=1) <;> cases decide (a.2.2.1=3) <;> rfl)
attribute [local irreducible] agI agJ aeg law15_MetaAgain afD agK ag5 air ag6 ag7 amg al6 ami an5 avb af0 agW aiI aeL aen adY adZ ahA aeM aeX ad0 adP afE ad1 aei adu abH aav agM ahS agZ afF apY agp ahC aea aej abv axz aoQ amx af1 akE asV asX al7 akF as0 ajq aog adI adT acw abI ae0 ags adJ adU ae1 aci adc agt ae2 ad2 adn ahi ae3 abT afK aex aep aqH agu aiU af3 agv aiA ad3 ae4 ate agQ ahF ahU ag8 aeq ahG afL agw acZ ack abr aer ad4 afB abP ab1 ab2 adN adv adw adz acx aco ade acS aaO aaG aay aaz aaH aac aaP aaD aab aaE aaA aaa aaC aau aas aap aah aaf aao aai aeA adM acV ab9 adW adh abp aan abk aam abh aaj abi aak aa5 aag abj aal aa2 aae ac_ aaL ah0 afC abz atD akh aiG adG aca
theorem afn {j:Nat} (h:j < 1000000):wr .i64 ((j:Int)+1)=((j+1:Nat):Int):=by
 rw [anL (by omega)]; omega
theorem abZ {α:Type} (x:Option α):must true x=x:=rfl
theorem avw {α ρ:Type} {L:Nat→Nat→Int→Option ρ} {W:List α} {c:Nat} {p:α→Bool} {A:Int→ρ} {B:ρ} (hc:c≤W.length)
 (hs:∀ k n (j:Nat) x,j < c→W[j]?=some x→L k (n+1) (j:Int)=bif p x then some (A (j:Int)) else L k n ((j+1:Nat):Int))
 (hd:∀ k n,L k (n+1) (c:Int)=some B):∀ d j,j+d=c→Ev2 (fun k n=>L k n (j:Int)) (match ((W.take c).drop j).findIdx? p with | some i=>A ((j+i:Nat):Int) | none=>B):=by
 intro d
 induction d with
 | zero =>
   intro j hj
   have:j=c:=by omega
   subst this
   rw [List.drop_eq_nil_of_le (by rw [List.length_take]; omega)]
   exact .up ⟨0,fun k n _ _=>hd k n⟩
 | succ d ih =>
   intro j hj
   have hlt:j < W.length:=by omega
   have hx:W[j]?=some W[j]:=List.getElem?_eq_getElem hlt
   have hdr:(W.take c).drop j=W[j] :: (W.take c).drop (j+1):=by
    rw [List.drop_eq_getElem_cons (by rw [List.length_take]; omega)]
    simp
   rw [hdr,List.findIdx?_cons]
   refine .up ?_
   cases hp:p W[j] with
   | true =>
     refine ⟨0,fun k n _ _=>?_⟩
     show L k (n+1) (j:Int)=_
     rw [hs k n j _ (by omega) hx,hp]; rfl
   | false =>
     obtain ⟨K,hK⟩:=ih (j+1) (by omega)
     refine ⟨K,fun k n hk hn=>?_⟩
     show L k (n+1) (j:Int)=_
     rw [hs k n j _ (by omega) hx,hp]
     show L k n _=_
     rw [show L k n ((j+1:Nat):Int)=_ from hK k n hk hn]
     cases ((W.take c).drop (j+1)).findIdx? p with
     | none=>rfl
     | some i=>show some (A _)=some (A _); congr 3; show j+1+i=j+(i+1); omega
theorem aFC {ρ:Type} {L:Nat→Nat→Int→Int→List Lk→Option ρ} {c:Nat} {p:Lk→Bool} {R:Nat→List Lk→ρ} {z:Lk}
 (hs:∀ k n (i j:Nat) W x,i≤j→j < c→c≤W.length→W[j]?=some x→L (k+1) (n+1) (i:Int) (j:Int) W=bif p x then L (k+1) n (i:Int) ((j+1:Nat):Int) W else L (k+1) n ((i+1:Nat):Int) ((j+1:Nat):Int) (W.set i x))
 (hd:∀ k n (i:Nat) W,i≤c→c≤W.length→L k (n+1) (i:Int) (c:Int) W=some (R i (lay W i (List.replicate (c - i) z)))) :
 ∀ d (j i:Nat) W,j+d=c→i≤j→c≤W.length→∃ i' W',Ev2 (fun k n=>L k n (i:Int) (j:Int) W) (R i' W')∧i'≤W'.length∧W'.take i'=W.take i++((W.take c).drop j).filter (fun x=>!p x):=by
 intro d
 induction d with
 | zero =>
   intro j i W hj hi hc
   have:j=c:=by omega
   subst this
   refine ⟨i,lay W i (List.replicate (j - i) z),.up ⟨0,fun k n _ _=>hd k n i W hi hc⟩,?_,?_⟩
   · unfold lay; simp; omega
   · rw [List.drop_eq_nil_of_le (by rw [List.length_take]; omega)]
     unfold lay
     rw [List.append_assoc,List.take_append_of_le_length (by rw [List.length_take]; omega),List.take_take]
     simp
 | succ d ih =>
   intro j i W hj hi hc
   have hlt:j < W.length:=by omega
   have hx:W[j]?=some W[j]:=List.getElem?_eq_getElem hlt
   have hdr:(W.take c).drop j=W[j] :: (W.take c).drop (j+1):=by
    rw [List.drop_eq_getElem_cons (by rw [List.length_take]; omega)]
    simp
   rw [hdr,List.filter_cons]
   cases hp:p W[j] with
   | true =>
     obtain ⟨i',W',hE,h1,h2⟩:=ih (j+1) i W (by omega) (by omega) hc
     refine ⟨i',W',.up (.upk ?_),h1,by simpa using h2⟩
     obtain ⟨K,hK⟩:=hE
     refine ⟨K,fun k n hk hn=>?_⟩
     show L (k+1) (n+1) (i:Int) (j:Int) W=_
     rw [hs k n i j W _ hi (by omega) hc hx,hp]
     exact hK (k+1) n (by omega) hn
   | false =>
     obtain ⟨i',W',hE,h1,h2⟩:=ih (j+1) (i+1) (W.set i W[j]) (by omega) (by omega) (by rw [List.length_set]; exact hc)
     refine ⟨i',W',.up (.upk ?_),h1,?_⟩
     · obtain ⟨K,hK⟩:=hE
       refine ⟨K,fun k n hk hn=>?_⟩
       show L (k+1) (n+1) (i:Int) (j:Int) W=_
       rw [hs k n i j W _ hi (by omega) hc hx,hp]
       exact hK (k+1) n (by omega) hn
     · rw [h2]
       have e1:(W.set i W[j]).take (i+1)=W.take i++[W[j]]:=by
        rw [List.take_add_one,List.getElem?_set_self (by omega),List.take_set_of_le (Nat.le_refl _)]
        rfl
       have e2:((W.set i W[j]).take c).drop (j+1)=(W.take c).drop (j+1):=by
        rw [List.take_set,List.drop_set_of_lt (by omega)]
       rw [e1,e2]
       simp
theorem aEF (k:Nat) (h:Lk) (a b c:Int) (d e:List Int):agW k h a b c d e=some (covP h (a,(b,(c,(d,(e,()))))),((a,(b,(c,(d,(e,()))))),())):=by
 rw [arE,aDv]; rfl
theorem aDE (k:Nat) (h:Lk) (a b c:Int) (d e:List Int):afE k h a b c d e=some (decide (h.1=a)&&axI h (a,(b,(c,(d,(e,()))))),((a,(b,(c,(d,(e,()))))),())):=by
 rw [apP,aCv]
 cases decide (h.1=a) <;> rfl
def au7 (a b:Lk):Bool:=decide (a.1=b.1)&&(decide (a.2.1=b.2.1)&&(decide (a.2.2.1=b.2.2.1)&&(beqL a.2.2.2.1 b.2.2.2.1&&beqL a.2.2.2.2.1 b.2.2.2.2.1)))
theorem aEw (k:Nat) (a b:Lk):aog k a b=some (au7 a b,()):=by
 rw [ayO]
 simp only [akk,Option.bind_some]
 unfold au7
 cases decide (a.1=b.1) <;> cases decide (a.2.1=b.2.1) <;> cases decide (a.2.2.1=b.2.2.1) <;> cases beqL a.2.2.2.1 b.2.2.2.1 <;> rfl
theorem aDT (k:Nat) (h:Lk) (a b c:Int) (d e:List Int):afF k h a b c d e=some (au7 h (a,(b,(c,(d,(e,()))))),((a,(b,(c,(d,(e,()))))),())):=by
 rw [apW,aEw]; rfl
theorem aAq (k:Nat) (h:Lk) (t a b c:Int) (d e:List Int):aei k h t a b c d e=some (decide (h.1=t)&&!au7 h (a,(b,(c,(d,(e,()))))),((t,()),((((),()),()),((a,(b,(c,(d,(e,()))))),())))):=by
 rw [apS,arG,aEw]
 cases decide (h.1=t) <;> rfl
theorem aAr (k:Nat) (h:Lk) (t:Int):adu k h t=some (decide (h.1=t),((t,()),(((),()),()))):=by
 rw [aoa,ayL]
 cases decide (h.1=t) <;> rfl
theorem aAk (p:Lk→Bool) (l:List Lk):(l.findIdx? p).isSome=l.any p:=List.findIdx?_isSome
theorem aCf {W:List Lk} {c:Nat} (x:Lk) (hc:c≤W.length) (hb:c≤100000) :
 Ev (fun k=>aaO k c W x.1 x.2.1 x.2.2.1 x.2.2.2.1 x.2.2.2.2.1) ((W.take c).any (fun h=>covP h x),((W,()),((x.1,(x.2.1,(x.2.2.1,(x.2.2.2.1,(x.2.2.2.2.1,()))))),()))):=by
 simp only [afp,agh]
 have h:=(avw (L:=fun k n i=>aan k n c ((c:Nat):Int) i W x.1 x.2.1 x.2.2.1 x.2.2.2.1 x.2.2.2.2.1) (W:=W) (c:=c) (p:=fun h=>covP h x)
  (A:=fun i=>(i,((W,()),((x.1,(x.2.1,(x.2.2.1,(x.2.2.2.1,(x.2.2.2.2.1,()))))),())))) (B:=((-1:Int),((W,()),((x.1,(x.2.1,(x.2.2.1,(x.2.2.2.1,(x.2.2.2.2.1,()))))),())))) hc
  (fun k n j y hj hy=>by
   show aan k (n+1) _ _ _ _ _ _ _ _ _=_
   rw [acW,bt (by omega),ak5 (by omega) (by omega),abZ,Nat.zero_add,Int.toNat_natCast,hy,Option.bind_some,aEF,Option.bind_some,afn (by omega)])
  (fun k n=>by
   show aan k (n+1) _ _ _ _ _ _ _ _ _=_
   rw [acW,bf (by omega)]) c 0 (by omega)).dg
 refine .bind h (.from 0 fun k=>?_)
 rw [List.drop_zero,← aAk]
 cases (W.take c).findIdx? fun h=>covP h x with
 | none=>rfl
 | some i=>show some (decide (0≤((0+i:Nat):Int)),_)=_; rw [dT (by omega)]; rfl
theorem aB5 {p:Lk→Bool} {l:List Lk} (h:l.findIdx? p=none):l.filter (fun x=>!p x)=l:=by
 rw [List.filter_eq_self]
 intro x hx
 rw [List.findIdx?_eq_none_iff] at h
 simp [h x hx]
theorem avt {p:Lk→Bool}:∀ {l:List Lk} {i:Nat},l.findIdx? p=some i→i < l.length∧l.filter (fun x=>!p x)=l.take i++(l.drop (i+1)).filter (fun x=>!p x)
 | [],i,h=>by simp at h
 | x :: l,i,h=>by
   rw [List.findIdx?_cons] at h
   cases hp:p x with
   | true =>
     rw [hp] at h
     cases h
     simp [hp]
   | false =>
     rw [hp] at h
     obtain ⟨j,h1,rfl⟩:=Option.map_eq_some_iff.1 (show (l.findIdx? p).map (fun i=>i+1)=some i from h)
     obtain ⟨k1,k2⟩:=avt h1
     refine ⟨by simp; omega,?_⟩
     rw [List.filter_cons,hp]
     simp [k2]
theorem azw {σ ρ:Type} {I:Nat→Option σ} {D:Nat→Option ρ} {L:Nat→Nat→Int→Int→List Lk→Option ρ} {W:List Lk} {c:Nat} {p:Lk→Bool} (RI:Int→σ) (R:Nat→List Lk→ρ) {z:Lk} (hc:c≤W.length)
 (hI:Ev I (match ((W.take c).drop 0).findIdx? p with | some i=>RI ((0+i:Nat):Int) | none=>RI (-1)))
 {G:Nat→σ→Option ρ} (hD:∀ k,D k=(I k).bind (G k)) (hG1:∀ k,G k (RI (-1))=some (R c W)) (hG2:∀ k (i:Nat),i < c→G k (RI (i:Int))=L k k (i:Int) ((i+1:Nat):Int) W)
 (hs:∀ k n (i j:Nat) W x,i≤j→j < c→c≤W.length→W[j]?=some x→L (k+1) (n+1) (i:Int) (j:Int) W=bif p x then L (k+1) n (i:Int) ((j+1:Nat):Int) W else L (k+1) n ((i+1:Nat):Int) ((j+1:Nat):Int) (W.set i x))
 (hd:∀ k n (i:Nat) W,i≤c→c≤W.length→L k (n+1) (i:Int) (c:Int) W=some (R i (lay W i (List.replicate (c - i) z)))) :
 ∃ (n:Nat) (W':List Lk),Ev D (R n W')∧n≤W'.length∧W'.take n=(W.take c).filter (fun x=>!p x):=by
 have hD':D=fun k=>(I k).bind (G k):=funext hD
 subst hD'
 cases hf:(W.take c).findIdx? p with
 | none =>
   rw [List.drop_zero,hf] at hI
   exact ⟨c,W,.bind hI (.from 0 fun k=>hG1 k),hc,(aB5 hf).symm⟩
 | some i =>
   rw [List.drop_zero,hf] at hI
   obtain ⟨hi,h2⟩:=avt hf
   have hi:i < c:=by rw [List.length_take] at hi; omega
   obtain ⟨i',W',hE,h3,h4⟩:=aFC (L:=L) (c:=c) (p:=p) (R:=R) (z:=z) hs hd (c - (i+1)) (i+1) i W (by omega) (by omega) hc
   refine ⟨i',W',.bind hI ?_,h3,?_⟩
   · obtain ⟨K,hK⟩:=hE.dg
     refine ⟨K,fun k hk=>?_⟩
     show G k (RI ((0+i:Nat):Int))=_
     rw [Nat.zero_add,hG2 k i hi]
     exact hK k hk
   · rw [h4,h2,List.take_take,Nat.min_eq_left (by omega)]
theorem eta5 (y:Lk):(y.1,(y.2.1,(y.2.2.1,(y.2.2.2.1,(y.2.2.2.2.1,())))))=y:=rfl
theorem aCk {W:List Lk} {c:Nat} (t:Int) (x:Lk) (nh:Nat) (m:Bool) (H:List Lk) (hc:c≤W.length) (hb:c≤100000) :
 ∃ (n:Nat) (W':List Lk),Ev (fun k=>abH k t nh c m x.1 x.2.1 x.2.2.1 x.2.2.2.1 x.2.2.2.2.1 H W) ((),((nh,(n,(m,()))),((x.1,(x.2.1,(x.2.2.1,(x.2.2.2.1,(x.2.2.2.2.1,()))))),((H,()),((W',()),()))))) ∧
   n≤W'.length∧W'.take n=(W.take c).filter (fun w=>!(decide (w.1=t)&&!au7 w x)):=by
 have hI:=(avw (L:=fun k n i=>aak k n c ((c:Nat):Int) i W t x.1 x.2.1 x.2.2.1 x.2.2.2.1 x.2.2.2.2.1) (W:=W) (c:=c) (p:=fun w=>decide (w.1=t)&&!au7 w x)
  (A:=fun i=>(i,((W,()),((t,()),((((),()),()),((x.1,(x.2.1,(x.2.2.1,(x.2.2.2.1,(x.2.2.2.2.1,()))))),())))))) (B:=((-1:Int),((W,()),((t,()),((((),()),()),((x.1,(x.2.1,(x.2.2.1,(x.2.2.2.1,(x.2.2.2.2.1,()))))),())))))) hc
  (fun k n j y hj hy=>by
   show aak k (n+1) _ _ _ _ _ _ _ _ _ _=_
   rw [acE,bt (by omega),ak5 (by omega) (by omega),abZ,Nat.zero_add,Int.toNat_natCast,hy,Option.bind_some,aAq,Option.bind_some,afn (by omega)])
  (fun k n=>by
   show aak k (n+1) _ _ _ _ _ _ _ _ _ _=_
   rw [acE,bf (by omega)]) c 0 (by omega)).dg
 obtain ⟨n,W',h1,h2,h3⟩:=azw (D:=fun k=>aaP k c W t x.1 x.2.1 x.2.2.1 x.2.2.2.1 x.2.2.2.2.1) (p:=fun w=>decide (w.1=t)&&!au7 w x)
  (L:=fun k n i j W=>aab k n c i j W t x.1 x.2.1 x.2.2.1 x.2.2.2.1 x.2.2.2.2.1)
  (fun i=>(i,((W,()),((t,()),((((),()),()),((x.1,(x.2.1,(x.2.2.1,(x.2.2.2.1,(x.2.2.2.2.1,()))))),()))))))
  (fun i W=>(i,((W,()),((t,()),((((),()),()),((x.1,(x.2.1,(x.2.2.1,(x.2.2.2.1,(x.2.2.2.2.1,()))))),())))))) hc hI
  (G:=fun k r=>bif (decide (r.1=(-1))) then some (c,((r.2.1.1,()),((r.2.2.1.1,()),((((),()),()),((r.2.2.2.2.1.1,(r.2.2.2.2.1.2.1,(r.2.2.2.2.1.2.2.1,(r.2.2.2.2.1.2.2.2.1,(r.2.2.2.2.1.2.2.2.2.1,()))))),()))))) else aab k k c r.1 (wr .i64 (r.1+1)) r.2.1.1 r.2.2.1.1 r.2.2.2.2.1.1 r.2.2.2.2.1.2.1 r.2.2.2.2.1.2.2.1 r.2.2.2.2.1.2.2.2.1 r.2.2.2.2.1.2.2.2.2.1)
  (fun k=>by rw [afs,afU]; rfl) (fun k=>rfl)
  (fun k i hi=>by
   show (bif decide ((i:Int) = -1) then _ else aab k k c (i:Int) (wr .i64 ((i:Int)+1)) W t x.1 x.2.1 x.2.2.1 x.2.2.2.1 x.2.2.2.2.1)=_
   rw [bf (by omega),afn (by omega)])
  (fun k n i j W y hij hj hl hy=>by
   show aab (k+1) (n+1) _ _ _ _ _ _ _ _ _ _=_
   rw [acq,bt (by omega),ak5 (by omega) (by omega),abZ,Nat.zero_add,Int.toNat_natCast,hy,Option.bind_some,aAq,Option.bind_some]
   simp only [aeP,ak5 (j:=(i:Int)) (n:=c) (by omega) (by omega),abZ,Nat.zero_add,Int.toNat_natCast,aBT (show i < W.length by omega),afn (show i < 1000000 by omega),afn (show j < 1000000 by omega),eta5]
   cases (decide (y.1=t)&&!au7 y x) <;> rfl)
  (fun k n i W hi hl=>by
   show aab k (n+1) _ _ _ _ _ _ _ _ _ _=_
   rw [acq,bf (by omega),azz (by omega) (by omega) (by omega),abZ,azz (by omega) (by omega) (by omega),abZ,Nat.zero_add,Int.toNat_natCast])
 refine ⟨n,W',?_,h2,h3⟩
 simp only [ait]
 exact .bind h1 (.from 0 fun k=>rfl)
theorem avC {W:List Lk} {c:Nat} (t:Int) (nh:Nat) (m:Bool) (H:List Lk) (hc:c≤W.length) (hb:c≤100000) :
 ∃ (n:Nat) (W':List Lk),Ev (fun k=>aav k t nh c m H W) ((),((nh,(n,(m,()))),((H,()),((W',()),())))) ∧
   n≤W'.length∧W'.take n=(W.take c).filter (fun w=>!decide (w.1=t)):=by
 have hI:=(avw (L:=fun k n i=>aag k n c ((c:Nat):Int) i W t) (W:=W) (c:=c) (p:=fun w=>decide (w.1=t))
  (A:=fun i=>(i,((W,()),((t,()),(((),()),()))))) (B:=((-1:Int),((W,()),((t,()),(((),()),()))))) hc
  (fun k n j y hj hy=>by
   show aag k (n+1) _ _ _ _ _=_
   rw [ach,bt (by omega),ak5 (by omega) (by omega),abZ,Nat.zero_add,Int.toNat_natCast,hy,Option.bind_some,aAr,Option.bind_some,afn (by omega)])
  (fun k n=>by
   show aag k (n+1) _ _ _ _ _=_
   rw [ach,bf (by omega)]) c 0 (by omega)).dg
 obtain ⟨n,W',h1,h2,h3⟩:=azw (D:=fun k=>aaE k c W t) (p:=fun w=>decide (w.1=t))
  (L:=fun k n i j W=>aaa k n c i j W t)
  (fun i=>(i,((W,()),((t,()),(((),()),())))))
  (fun i W=>(i,((W,()),((t,()),(((),()),()))))) hc hI
  (G:=fun k r=>bif (decide (r.1=(-1))) then some (c,((r.2.1.1,()),((r.2.2.1.1,()),(((),()),())))) else aaa k k c r.1 (wr .i64 (r.1+1)) r.2.1.1 r.2.2.1.1)
  (fun k=>by rw [aeQ,ae_]; rfl) (fun k=>rfl)
  (fun k i hi=>by
   show (bif decide ((i:Int) = -1) then _ else aaa k k c (i:Int) (wr .i64 ((i:Int)+1)) W t)=_
   rw [bf (by omega),afn (by omega)])
  (fun k n i j W y hij hj hl hy=>by
   show aaa (k+1) (n+1) _ _ _ _ _=_
   rw [ab8,bt (by omega),ak5 (by omega) (by omega),abZ,Nat.zero_add,Int.toNat_natCast,hy,Option.bind_some,aAr,Option.bind_some]
   simp only [aeu,ak5 (j:=(i:Int)) (n:=c) (by omega) (by omega),abZ,Nat.zero_add,Int.toNat_natCast,aBT (show i < W.length by omega),afn (show i < 1000000 by omega),afn (show j < 1000000 by omega),eta5]
   cases decide (y.1=t) <;> rfl)
  (fun k n i W hi hl=>by
   show aaa k (n+1) _ _ _ _ _=_
   rw [ab8,bf (by omega),azz (by omega) (by omega) (by omega),abZ,azz (by omega) (by omega) (by omega),abZ,Nat.zero_add,Int.toNat_natCast])
 refine ⟨n,W',?_,h2,h3⟩
 simp only [ak9]
 exact .bind h1 (.from 0 fun k=>rfl)
theorem aCg {W:List Lk} {c:Nat} (x:Lk) (hc:c≤W.length) (hb:c≤100000) :
 Ev (fun k=>aaG k c W x.1 x.2.1 x.2.2.1 x.2.2.2.1 x.2.2.2.2.1) ((W.take c).any (fun h=>decide (h.1=x.1)&&axI h x),((W,()),((x.1,(x.2.1,(x.2.2.1,(x.2.2.2.1,(x.2.2.2.2.1,()))))),()))):=by
 simp only [ae5,afS]
 have h:=(avw (L:=fun k n i=>aaj k n c ((c:Nat):Int) i W x.1 x.2.1 x.2.2.1 x.2.2.2.1 x.2.2.2.2.1) (W:=W) (c:=c) (p:=fun h=>decide (h.1=x.1)&&axI h x)
  (A:=fun i=>(i,((W,()),((x.1,(x.2.1,(x.2.2.1,(x.2.2.2.1,(x.2.2.2.2.1,()))))),())))) (B:=((-1:Int),((W,()),((x.1,(x.2.1,(x.2.2.1,(x.2.2.2.1,(x.2.2.2.2.1,()))))),())))) hc
  (fun k n j y hj hy=>by
   show aaj k (n+1) _ _ _ _ _ _ _ _ _=_
   rw [acD,bt (by omega),ak5 (by omega) (by omega),abZ,Nat.zero_add,Int.toNat_natCast,hy,Option.bind_some,aDE,Option.bind_some,afn (by omega)])
  (fun k n=>by
   show aaj k (n+1) _ _ _ _ _ _ _ _ _=_
   rw [acD,bf (by omega)]) c 0 (by omega)).dg
 refine .bind h (.from 0 fun k=>?_)
 rw [List.drop_zero,← aAk]
 cases (W.take c).findIdx? fun h=>decide (h.1=x.1)&&axI h x with
 | none=>rfl
 | some i=>show some (decide (0≤((0+i:Nat):Int)),_)=_; rw [dT (by omega)]; rfl
def aoA (ws:List Lk) (x:Lk):Nat:=match ws.findIdx? fun w=>au7 w x with
 | some i=>i
 | none=>ws.length
theorem aDU {W:List Lk} {c:Nat} (x:Lk) (nh:Nat) (m:Bool) (H:List Lk) (hc:c≤W.length) (hb:c≤100000) :
 Ev (fun k=>agZ k x nh c m H W) ((aoA (W.take c) x:Int),((nh,(c,(m,()))),((H,()),((W,()),())))):=by
 simp only [arP,afW]
 have h:=(avw (L:=fun k n i=>aal k n c ((c:Nat):Int) i W x.1 x.2.1 x.2.2.1 x.2.2.2.1 x.2.2.2.2.1) (W:=W) (c:=c) (p:=fun h=>au7 h x)
  (A:=fun i=>(i,((W,()),((x.1,(x.2.1,(x.2.2.1,(x.2.2.2.1,(x.2.2.2.2.1,()))))),())))) (B:=((-1:Int),((W,()),((x.1,(x.2.1,(x.2.2.1,(x.2.2.2.1,(x.2.2.2.2.1,()))))),())))) hc
  (fun k n j y hj hy=>by
   show aal k (n+1) _ _ _ _ _ _ _ _ _=_
   rw [acH,bt (by omega),ak5 (by omega) (by omega),abZ,Nat.zero_add,Int.toNat_natCast,hy,Option.bind_some,aDT,Option.bind_some,afn (by omega)])
  (fun k n=>by
   show aal k (n+1) _ _ _ _ _ _ _ _ _=_
   rw [acH,bf (by omega)]) c 0 (by omega)).dg
 refine .bind h (.from 0 fun k=>?_)
 rw [List.drop_zero]
 unfold aoA
 cases (W.take c).findIdx? fun h=>au7 h x with
 | none =>
   rw [List.length_take,Nat.min_eq_left hc]
   rfl
 | some i =>
   show (bif decide (((0+i:Nat):Int) < 0) then _ else some (((0+i:Nat):Int),_))=_
   rw [bf (by omega),Nat.zero_add]
def akj (l:List Lk) (x:Lk):List Lk:=l.filter fun h=>!awT h x&&!fitP h.2.2.1 x.2.2.1
theorem amh {α:Type} {n:Nat} {x:Option α} (h:n≤68719476736):lim n x=x:=if_pos h
theorem awS {W:List Lk} {c:Nat} (x:Lk) (hc:c≤W.length) (hb:c≤100000):Ev (fun k=>aea k c x W) (akj (W.take c) x,((W,()),())):=by
 simp only [asQ]
 have key:∀ d j (b:Bool) (acc:List Lk),j+d=c→acc.length≤j→Ev2 (fun k n=>abv k n b acc c ((c:Nat):Int) (j:Int) W x.1 x.2.1 x.2.2.1 x.2.2.2.1 x.2.2.2.2.1) (acc++akj ((W.take c).drop j) x,((W,()),())):=by
  intro d
  induction d with
  | zero =>
    intro j b acc hj ha
    have:j=c:=by omega
    subst this
    rw [List.drop_eq_nil_of_le (by rw [List.length_take]; omega)]
    refine .up ⟨0,fun k n _ _=>?_⟩
    show abv k (n+1) _ _ _ _ _ _ _ _ _ _ _=_
    rw [akD,bf (by omega)]
    simp [akj]
  | succ d ih =>
    intro j b acc hj ha
    have hlt:j < W.length:=by omega
    have hx:W[j]?=some W[j]:=List.getElem?_eq_getElem hlt
    have hdr:(W.take c).drop j=W[j] :: (W.take c).drop (j+1):=by
        rw [List.drop_eq_getElem_cons (by rw [List.length_take]; omega)]
        simp
    have stp:∀ k n,abv (k+1) (n+1) b acc c ((c:Nat):Int) (j:Int) W x.1 x.2.1 x.2.2.1 x.2.2.2.1 x.2.2.2.2.1 =
     bif (!awT W[j] x&&!fitP W[j].2.2.1 x.2.2.1) then abv (k+1) n (b&&false) (acc++[W[j]]) c ((c:Nat):Int) ((j+1:Nat):Int) W x.1 x.2.1 x.2.2.1 x.2.2.2.1 x.2.2.2.2.1
     else abv (k+1) n b acc c ((c:Nat):Int) ((j+1:Nat):Int) W x.1 x.2.1 x.2.2.1 x.2.2.2.1 x.2.2.2.2.1:=by
        intro k n
        rw [akD,bt (by omega),ak5 (by omega) (by omega),abZ,Nat.zero_add,Int.toNat_natCast,hx,Option.bind_some]
        simp only [aEC,aFM,Option.bind_some,apZ,afn (show j < 1000000 by omega),eta5]
        rw [amh (by simp; omega)]
        cases awT W[j] x <;> cases fitP W[j].2.2.1 x.2.2.1 <;> rfl
    rw [hdr]
    unfold akj
    rw [List.filter_cons]
    refine .up (.upk ?_)
    cases hp:(!awT W[j] x&&!fitP W[j].2.2.1 x.2.2.1) with
    | true =>
      obtain ⟨K,hK⟩:=ih (j+1) (b&&false) (acc++[W[j]]) (by omega) (by simp; omega)
      refine ⟨K,fun k n hk hn=>?_⟩
      show abv (k+1) (n+1) _ _ _ _ _ _ _ _ _ _ _=_
      rw [stp,hp]
      have:=hK (k+1) n (by omega) hn
      rw [List.append_assoc] at this
      exact this
    | false =>
      obtain ⟨K,hK⟩:=ih (j+1) b acc (by omega) (by omega)
      refine ⟨K,fun k n hk hn=>?_⟩
      show abv (k+1) (n+1) _ _ _ _ _ _ _ _ _ _ _=_
      rw [stp,hp]
      exact hK (k+1) n (by omega) hn
 have:=(key c 0 true [] (by omega) (by simp)).dg
 rw [List.drop_zero] at this
 exact this
theorem aoh {kt:Ty} {α:Type} (hd:∀ x y:kt.D,kt.decEq x y=true↔x=y):∀ (l:List (kt.D×α)) (y:kt.D) (z:α),ada kt (setM kt l y z) y=some z
 | [],y,z=>by
   show (bif kt.decEq y y then _ else _)=_
   rw [(hd y y).2 rfl]; rfl
 | e :: r,y,z=>by
   unfold setM
   cases h:kt.decEq y e.1 with
   | true=>show (bif kt.decEq y y then _ else _)=_; rw [(hd y y).2 rfl]; rfl
   | false =>
     show (bif kt.decEq y e.1 then some e.2 else ada kt (setM kt r y z) y)=some z
     rw [h]; exact aoh hd r y z
theorem aqG {kt:Ty} {α:Type} (hd:∀ x y:kt.D,kt.decEq x y=true↔x=y):∀ (l:List (kt.D×α)) (y y':kt.D) (z:α),y'≠y→ada kt (setM kt l y z) y'=ada kt l y'
 | [],y,y',z,h=>by
   show (bif kt.decEq y' y then _ else _)=_
   have:kt.decEq y' y=false:=by rw [← Bool.not_eq_true,hd]; exact h
   rw [this]; rfl
 | e :: r,y,y',z,h=>by
   unfold setM
   cases he:kt.decEq y e.1 with
   | true =>
     have e1:y=e.1:=(hd _ _).1 he
     have:kt.decEq y' y=false:=by rw [← Bool.not_eq_true,hd]; exact h
     show (bif kt.decEq y' y then some z else ada kt r y')=(bif kt.decEq y' e.1 then some e.2 else ada kt r y')
     rw [← e1,this]; rfl
   | false =>
     show (bif kt.decEq y' e.1 then some e.2 else ada kt (setM kt r y z) y')=(bif kt.decEq y' e.1 then some e.2 else ada kt r y')
     rw [aqG hd r y y' z h]
theorem axp (a b:Int):beqI a b=true↔a=b:=by simp [beqI]
theorem hdU (x y:(Ty.int .u64).D):(Ty.int .u64).decEq x y=true↔x=y:=axp x y
theorem aEv : ∀ (d i j:Nat) (W:List Int),j≤i+d→j < W.length→W.length≤100000→∃ W',Ev2 (fun k n=>aaL k n (i:Int) (j:Int) W) ((),((W',()),()))∧W'.length=W.length
 | d,i,j,W,hd,hj,hl=>by
   by_cases h:i < j
   · cases d with
     | zero=>omega
     | succ d =>
       have hi:i < W.length:=by omega
       have x1:W[j]?=some W[j]:=List.getElem?_eq_getElem hj
       have x2:W[i]?=some W[i]:=List.getElem?_eq_getElem hi
       obtain ⟨W',hE,hl'⟩:=aEv d (i+1) (j - 1) ((W.set i W[j]).set j W[i]) (by omega) (by simp; omega) (by simpa using hl)
       refine ⟨W',.up ?_,by rw [hl']; simp⟩
       obtain ⟨K,hK⟩:=hE
       refine ⟨K,fun k n hk hn=>?_⟩
       show aaL k (n+1) _ _ _=_
       rw [aeK,bt (by omega),ak5 (by omega) (by omega),abZ,Int.toNat_natCast,x1,Option.bind_some,ak5 (by omega) (by omega),abZ,Int.toNat_natCast,x2,Option.bind_some,abZ,aBT hi,abZ,
        ak5 (by omega) (by simp; omega),abZ,aBT (by simp; omega),abZ,afn (by omega),anL (by omega),show (j:Int) - 1=((j - 1:Nat):Int) by omega]
       exact hK k n hk hn
   · refine ⟨W,.up ⟨0,fun k n _ _=>?_⟩,rfl⟩
     show aaL k (n+1) _ _ _=_
     rw [aeK,bf (by omega)]
def Dp (by_:List (Int×Int)) (from_:Int):Nat→Int→Prop
 | 0,n=>n=from_
 | d+1,n=>n=from_∨∃ p,ada (.int .u64) by_ n=some p∧Dp by_ from_ d p
theorem Dp.up {b:List (Int×Int)} {f:Int}:∀ {d:Nat} {n:Int},Dp b f d n→Dp b f (d+1) n
 | 0,n,h=>.inl h
 | d+1,n,h=>by
   rcases h with h | ⟨p,h1,h2⟩
   · exact .inl h
   · exact .inr ⟨p,h1,h2.up⟩
theorem Dp.set {b:List (Int×Int)} {f v q:Int} (hv:ada (.int .u64) b v=none):∀ {d:Nat} {n:Int},Dp b f d n→Dp (setM (.int .u64) b v q) f d n
 | 0,n,h=>h
 | d+1,n,h=>by
   rcases h with h | ⟨p,h1,h2⟩
   · exact .inl h
   · refine .inr ⟨p,?_,Dp.set hv h2⟩
     rw [aqG hdU b v n q (fun e=>by rw [e,hv] at h1; cases h1)]
     exact h1
theorem aGf (f:Int) (wy:List Int) (b:List (Int×Int)):∀ (d:Nat) (n:Int) (acc:List Int),Dp b f d n→acc.length+d≤90000 →
 ∃ r,Ev2 (fun k m=>abz k m n wait_Cycle_rj f wy b acc) r∧∃ x,r=Sum.inr x∧x.2.2.2.2.2.2.1.1≠[]:=by
 have fin:∀ (n:Int) (acc:List Int),n=f→acc.length≤90000→∃ r,Ev2 (fun k m=>abz k m n wait_Cycle_rj f wy b acc) r∧∃ x,r=Sum.inr x∧x.2.2.2.2.2.2.1.1≠[]:=by
  intro n acc hn hl
  obtain ⟨W',hE,hl'⟩:=aEv (acc++[f]).length 0 ((acc++[f]).length - 1) (acc++[f]) (by omega) (by simp) (by simp; omega)
  have hE:=hE.dg
  obtain ⟨K,hK⟩:=hE
  have hz:(acc++[f]).length=acc.length+1:=by simp
  have stp:∃ x,(∀ k m,K≤k→abz k (m+1) n wait_Cycle_rj f wy b acc=some (Sum.inr x))∧x.2.2.2.2.2.2.1.1=W':=by
   apply Exists.intro
   apply And.intro
   · intro k m hk
     rw [aj8,dT hn]
     show lim _ _=_
     rw [amh (by simp; omega),ajz,anL (by omega),show ((acc++[f]).length:Int) - 1=(((acc++[f]).length - 1:Nat):Int) by omega]
     have hk':aaL k k (0:Int) (((acc++[f]).length - 1:Nat):Int) (acc++[f])=some ((),((W',()),())):=hK k hk
     rw [hk']
     rfl
   · rfl
  obtain ⟨x,h1,h2⟩:=stp
  refine ⟨Sum.inr x,.up ⟨K,fun k m hk _=>h1 k m hk⟩,x,rfl,fun e=>?_⟩
  rw [h2] at e
  rw [e] at hl'
  simp at hl'
 intro d
 induction d with
 | zero=>intro n acc h hl; exact fin n acc h (by omega)
 | succ d ih =>
   intro n acc h hl
   by_cases hn:n=f
   · exact fin n acc hn (by omega)
   · rcases h with h | ⟨p,h1,h2⟩
     · exact absurd h hn
     · obtain ⟨r,hE,hx⟩:=ih p (acc++[n]) h2 (by simp; omega)
       refine ⟨r,.up ?_,hx⟩
       obtain ⟨K,hK⟩:=hE
       refine ⟨K,fun k m hk hm=>?_⟩
       show abz k (m+1) _ _ _ _ _ _=_
       rw [aj8,dF hn]
       show lim _ _=_
       rw [amh (by simp; omega),h1]
       exact hK k m hk hm
theorem ava {α:Type} (l:List (Int×α)) (y:Int) (z:α):ada (.int .u64) (setM (.int .u64) l y z) y=some z:=aoh hdU l y z
theorem aCn {α:Type} (l:List (Int×α)) (y y':Int) (z:α) (h:y'≠y):ada (.int .u64) (setM (.int .u64) l y z) y'=ada (.int .u64) l y':=aqG hdU l y y' z h
abbrev Eg : Type:=Int×(Int×Unit)
def apJ (met:List (Int×Bool)) (l:List Eg):Nat:=(l.filter fun e=>!(ada (.int .u64) met e.2.1).getD false).length
theorem aCb {met:List (Int×Bool)} {l:List Eg} {e:Eg} (he:e∈l) (h:(ada (.int .u64) met e.2.1).getD false=false):apJ (setM (.int .u64) met e.2.1 true) l+1≤apJ met l:=by
 unfold apJ
 have sub:∀ (l:List Eg),(l.filter fun e'=>!(ada (.int .u64) (setM (.int .u64) met e.2.1 true) e'.2.1).getD false).length≤(l.filter fun e=>!(ada (.int .u64) met e.2.1).getD false).length:=by
  intro l
  induction l with
  | nil=>exact Nat.le_refl _
  | cons x l ih =>
    rw [List.filter_cons,List.filter_cons]
    by_cases hx:x.2.1=e.2.1
    · rw [hx,ava,h]
      simp only [Option.getD_some,Bool.not_true,Bool.not_false,if_true,Bool.false_eq_true,if_false,List.length_cons]
      omega
    · rw [aCn _ _ _ _ hx]
      split <;> first | (simp only [List.length_cons]; omega) | omega
 induction l with
 | nil=>cases he
 | cons x l ih =>
   rw [List.filter_cons,List.filter_cons]
   by_cases hx:x.2.1=e.2.1
   · rw [hx,ava,h]
     simp only [Option.getD_some,Bool.not_true,Bool.not_false,if_true,Bool.false_eq_true,if_false,List.length_cons]
     have:=sub l
     omega
   · have he':e∈l:=by
        rcases List.mem_cons.1 he with rfl | h'
        · exact absurd rfl hx
        · exact h'
     have:=ih he'
     rw [aCn _ _ _ _ hx]
     split <;> first | (simp only [List.length_cons]; omega) | omega
structure Wk (f:Int) (b:List (Int×Int)) (met:List (Int×Bool)) (q:List Int) (D:Nat):Prop where
 dp:∀ n∈q,Dp b f D n
 key:∀ n,(ada (.int .u64) met n).getD false=false→ada (.int .u64) b n=none
theorem aB2 (a b c:Int):Ty.decEq (.st (.pair (.int .u64) (.pair (.int .u64) .unit))) ((a,(b,())):Eg) ((a,(c,())):Eg)=decide (b=c):=by
 show (beqI a a&&(beqI b c&&true))=_
 have:beqI a a=true:=(axp a a).2 rfl
 rw [this]
 by_cases h:b=c
 · subst h; simp [beqI]
 · simp [beqI,h]
theorem aBu (k:Nat) (e:Eg) {f:Int} (wy:List Int) (b:List (Int×Int)) (h:e.2.1=f):afC k (e.1,(e.2.1,())) wait_Cycle_rj f wy b=abz k k e.1 wait_Cycle_rj f wy (setM (.int .u64) b e.2.1 e.1) []:=by
 rw [am5]
 show (bif !(Ty.decEq (.st (.pair (.int .u64) (.pair (.int .u64) .unit))) ((e.1,(e.2.1,())):Eg) ((e.1,(f,())):Eg)) then _ else _)=_
 rw [aB2,dT h]; rfl
theorem aDW (e:Eg) {f:Int} (wy:List Int) (b:List (Int×Int)) (h:e.2.1≠f):∃ x,(∀ k,afC k (e.1,(e.2.1,())) wait_Cycle_rj f wy b=some (Sum.inl x))∧x.2.1.1=wait_Cycle_rj∧x.2.2.1.1=f∧x.2.2.2.1.1=wy∧x.2.2.2.2.2.1.1=setM (.int .u64) b e.2.1 e.1:=by
 apply Exists.intro
 apply And.intro
 · intro k
   rw [am5]
   show (bif !(Ty.decEq (.st (.pair (.int .u64) (.pair (.int .u64) .unit))) ((e.1,(e.2.1,())):Eg) ((e.1,(f,())):Eg)) then _ else _)=_
   rw [aB2,dF h]; rfl
 · exact ⟨rfl,rfl,rfl,rfl⟩
theorem aFt (f:Int) (l:List Eg) (hl:l.length≤40000):∀ (u:Nat) (q:List Int) (fl:Bool) (b:List (Int×Int)) (met:List (Int×Bool)) (D:Nat),q.length+apJ met l≤u→D+apJ met l≤50000→q.length+apJ met l≤50000→Wk f b met q D →
 ∃ r,Ev2 (fun k n=>adG k n fl q wait_Cycle_rj f l f [] b met) r∧∀ x,r=Sum.inl x→x.2.2.2.2.2.2.2.2.1.1≠[]:=by
 intro u
 induction u with
 | zero =>
   intro q fl b met D hu _ _ _
   have hq:q=[]:=List.eq_nil_of_length_eq_zero (by omega)
   subst hq
   have stp:∃ x,∀ k n,adG k (n+1) fl [] wait_Cycle_rj f l f [] b met=some (Sum.inr x):=by
    apply Exists.intro
    intro k n
    rw [aki]
    rfl
   obtain ⟨x,hx⟩:=stp
   exact ⟨Sum.inr x,.up ⟨0,fun k n _ _=>hx k n⟩,fun y hy=>by cases hy⟩
 | succ u ih =>
   intro q fl b met D hu hD hq W
   cases q with
   | nil =>
     have stp:∃ x,∀ k n,adG k (n+1) fl [] wait_Cycle_rj f l f [] b met=some (Sum.inr x):=by
        apply Exists.intro
        intro k n
        rw [aki]
        rfl
     obtain ⟨x,hx⟩:=stp
     exact ⟨Sum.inr x,.up ⟨0,fun k n _ _=>hx k n⟩,fun y hy=>by cases hy⟩
   | cons c q =>
     have inner:∀ (d j:Nat) (q:List Int) (fl:Bool) (b:List (Int×Int)) (met:List (Int×Bool)) (D:Nat),j+d=l.length→q.length+1+apJ met l≤u+1→D+apJ met l≤50000→q.length+1+apJ met l≤50000→Wk f b met (c :: q) D →
      ∃ r,Ev3 (fun k n m=>aca k n m fl (c :: q) l (l.length:Int) (j:Int) wait_Cycle_rj f l f [] b met) r∧∀ x,r=Sum.inl x→x.2.2.2.2.2.2.2.2.1.1≠[]:=by
        intro d
        induction d with
        | zero =>
          intro j q fl b met D hj hu hD hq W
          have hj:j=l.length:=by omega
          subst hj
          obtain ⟨r,hE,hr⟩:=ih q fl b met D (by omega) hD (by omega) ⟨fun n hn=>W.dp n (List.mem_cons_of_mem _ hn),W.key⟩
          refine ⟨r,.up ?_,hr⟩
          obtain ⟨K,hK⟩:=hE
          refine ⟨K,fun k n m hk hn hm=>?_⟩
          show aca k n (m+1) _ _ _ _ _ _ _ _ _ _ _ _=_
          rw [ah2,bf (by omega)]
          have hc:cut (c :: q) (1:Int) ((c :: q).length:Int)=some q:=by
            have:=aDw (l:=c :: q) (n:=1) (by simp)
            simpa using this
          rw [hc]
          exact hK k n hk hn
        | succ d ihd =>
          intro j q fl b met D hj hu hD hq W
          have hlt:j < l.length:=by omega
          have hx:nth l (j:Int)=some l[j]:=ab0 (List.getElem?_eq_getElem hlt)
          have h0:nth (c :: q) (0:Int)=some c:=ab0 (j:=0) rfl
          generalize hee:l[j]=e at hx
          have hmem:e∈l:=by rw [← hee]; exact List.getElem_mem hlt
          have skip:(e.1≠c∨(ada (.int .u64) met e.2.1).getD false=true)→∃ r,Ev3 (fun k n m=>aca k n m fl (c :: q) l (l.length:Int) (j:Int) wait_Cycle_rj f l f [] b met) r∧∀ x,r=Sum.inl x→x.2.2.2.2.2.2.2.2.1.1≠[]:=by
            intro hs
            obtain ⟨r,hE,hr⟩:=ihd (j+1) q fl b met D (by omega) hu hD hq W
            refine ⟨r,.up ?_,hr⟩
            obtain ⟨K,hK⟩:=hE
            refine ⟨K,fun k n m hk hn hm=>?_⟩
            show aca k n (m+1) _ _ _ _ _ _ _ _ _ _ _ _=_
            rw [ah2,bt (by omega),hx,Option.bind_some,h0,Option.bind_some,afn (by omega)]
            by_cases h1:e.1=c
            · rw [dT h1]
              rcases hs with hs | hs
              · exact absurd h1 hs
              · rw [hs]; exact hK k n m hk hn hm
            · rw [dF h1]; exact hK k n m hk hn hm
          by_cases h1:e.1=c
          case neg=>exact skip (.inl h1)
          cases h2:(ada (.int .u64) met e.2.1).getD false with
          | true=>exact skip (.inr h2)
          | false =>
            have hdec:=aCb hmem h2
            have hnew:=W.key _ h2
            have hcd:Dp b f D e.1:=by rw [h1]; exact W.dp c (List.mem_cons_self ..)
            by_cases h3:e.2.1=f
            · -- a ring
              obtain ⟨r,⟨K,hK⟩,x,rfl,hx2⟩:=aGf f [] (setM (.int .u64) b e.2.1 e.1) D e.1 [] (hcd.set hnew) (by simp; omega)
              have stp:∃ y,(∀ k n m,K≤k→aca k n (m+1) fl (c :: q) l (l.length:Int) (j:Int) wait_Cycle_rj f l f [] b met=some (Sum.inl y))∧y.2.2.2.2.2.2.2.2.1.1=x.2.2.2.2.2.2.1.1:=by
               apply Exists.intro
               apply And.intro
               · intro k n m hk
                 rw [ah2,bt (by omega),hx,Option.bind_some,h0,Option.bind_some,dT h1,h2,aBu k e [] b h3]
                 show ((abz k k e.1 wait_Cycle_rj f [] (setM (.int .u64) b e.2.1 e.1) []).bind _)=_
                 rw [show abz k k e.1 wait_Cycle_rj f [] (setM (.int .u64) b e.2.1 e.1) []=some (Sum.inr x) from hK k k hk hk]
                 rfl
               · rfl
              obtain ⟨y,hy1,hy2⟩:=stp
              refine ⟨Sum.inl y,.up ⟨K,fun k n m hk _ _=>hy1 k n m hk⟩,fun z hz=>?_⟩
              cases hz
              rw [hy2]; exact hx2
            · have W2:Wk f (setM (.int .u64) b e.2.1 e.1) (setM (.int .u64) met e.2.1 true) (c :: (q++[e.2.1])) (D+1):=by
               refine ⟨fun n hn=>?_,fun n hn=>?_⟩
               · rw [← List.cons_append] at hn
                 rcases List.mem_append.1 hn with hn | hn
                 · exact ((W.dp n hn).set hnew).up
                 · rw [List.mem_singleton] at hn
                   subst hn
                   exact .inr ⟨e.1,ava _ _ _,hcd.set hnew⟩
               · by_cases hne:n=e.2.1
                 · subst hne; rw [ava] at hn; cases hn
                 · rw [aCn _ _ _ _ hne] at hn ⊢
                   exact W.key n hn
              obtain ⟨r,hE,hr⟩:=ihd (j+1) (q++[e.2.1]) (fl&&[e.2.1].isEmpty) _ _ (D+1) (by omega) (by simp; omega) (by omega) (by simp; omega) W2
              refine ⟨r,.up (.upk ?_),hr⟩
              obtain ⟨K,hK⟩:=hE
              obtain ⟨x,x1,x2,x3,x4,x5⟩:=aDW e [] b h3
              refine ⟨K,fun k n m hk hn hm=>?_⟩
              show aca (k+1) n (m+1) _ _ _ _ _ _ _ _ _ _ _ _=_
              rw [ah2,bt (by omega),hx,Option.bind_some,h0,Option.bind_some,dT h1,h2,x1]
              show (bif !decide (e.2.1=f) then lim _ _ else _)=_
              rw [dF h3]
              show lim _ _=_
              rw [amh (by simp; omega)]
              refine (aul ..).trans ?_
              rw [afn (by omega),x2,x3,x4,x5]
              exact hK (k+1) n m (by omega) hn hm
     obtain ⟨r,hE,hr⟩:=inner l.length 0 q fl b met D (by omega) (by simpa using hu) hD (by simpa using hq) W
     refine ⟨r,.up ?_,hr⟩
     obtain ⟨K,hK⟩:=hE.dg
     refine ⟨K,fun k n hk hn=>?_⟩
     show adG k (n+1) _ _ _ _ _ _ _ _ _=_
     rw [aki,bt (by simp; try omega)]
     exact hK k n hk hn
theorem aDx (l:List Eg) (f:Int) (hl:l.length≤40000):(∃ x,Ev (fun k=>ah0 k l f) (Sum.inl x)∧x.2.2.1.1≠[])∨Ev (fun k=>ah0 k l f) (Sum.inr ((true,[]),(((true,[]),()),()))):=by
 have hf:apJ [] l≤l.length:=List.length_filter_le ..
 obtain ⟨r,hE,hr⟩:=aFt f l hl (1+apJ [] l) [f] false [] [] 0 (by simp) (by omega) (by simp; omega) ⟨fun n hn=>by rw [List.mem_singleton] at hn; exact hn,fun n _=>rfl⟩
 obtain ⟨K,hK⟩:=hE.dg
 cases r with
 | inl x =>
   left
   have stp:∃ y,(∀ k,K≤k→ah0 k l f=some (Sum.inl y))∧y.2.2.1.1=x.2.2.2.2.2.2.2.2.1.1:=by
    apply Exists.intro
    apply And.intro
    · intro k hk
      rw [atA,auQ]
      show ((akh k wait_Cycle_rj f l f [] []).bind _)=_
      rw [arx,show adG k k false [f] wait_Cycle_rj f l f [] [] []=some (Sum.inl x) from hK k hk]
      rfl
    · rfl
   obtain ⟨y,h1,h2⟩:=stp
   exact ⟨y,⟨K,h1⟩,by rw [h2]; exact hr x rfl⟩
 | inr x =>
   right
   refine ⟨K,fun k hk=>?_⟩
   show ah0 k l f=_
   rw [atA,auQ]
   show ((akh k wait_Cycle_rj f l f [] []).bind _)=_
   rw [arx,show adG k k false [f] wait_Cycle_rj f l f [] [] []=some (Sum.inr x) from hK k hk]
   rfl
theorem Ev.sh {α:Type} {F:Nat→Option α} {r:α} (h:Ev F r):Ev (fun k=>F (k+1)) r:=by
 obtain ⟨K,hK⟩:=h
 exact ⟨K,fun k hk=>hK (k+1) (by omega)⟩
def asA (hs ws:List Lk) (x:Lk) (at_:Nat):List Lk:=bif hs.any (fun h=>decide (h.1=x.1)&&axI h x) then akj hs x else akj hs x++akj (ws.take at_) x
theorem aoK (l:List Lk) (x:Lk):(akj l x).length≤l.length:=List.length_filter_le ..
theorem aCi (hs ws:List Lk) (x:Lk) (at_:Nat):(asA hs ws x at_).length≤hs.length+ws.length:=by
 unfold asA
 have h1:=aoK hs x
 have h2:=aoK (ws.take at_) x
 have h3:(ws.take at_).length≤ws.length:=by rw [List.length_take]; omega
 cases hs.any _
 · simp only [cond_false,List.length_append]; omega
 · simp only [cond_true]; omega
theorem aAp {H W:List Lk} {nh nw at_:Nat} (x:Lk) (m:Bool) (hH:nh≤H.length) (hW:nw≤W.length) (ha:at_≤nw) (b1:nh≤10000) (b2:nw≤10000) :
 Ev (fun k=>adP k x (at_:Int) nh nw m H W) (asA (H.take nh) (W.take nw) x at_,((nh,(nw,(m,()))),((H,()),((W,()),())))):=by
 refine .up ?_
 simp only [arN]
 refine .bind (awS x hH (by omega)).sh ?_
 refine .bind (aCg x hH (by omega)).sh ?_
 unfold asA
 cases h:(H.take nh).any fun h=>decide (h.1=x.1)&&axI h x with
 | true =>
   refine .from 0 fun k=>?_
   show ad1 (k+0+1) _ _ _ _ _ _=_
   rw [ajK]; rfl
 | false =>
   have e:(W.take nw).take at_=W.take at_:=by rw [List.take_take,Nat.min_eq_left ha]
   obtain ⟨K,hK⟩:=(awS (W:=W) (c:=at_) x (by omega) (by omega)).sh
   refine ⟨K,fun k hk=>?_⟩
   show (must (inC 0 (at_:Int) nw) ((aea (k+1) (at_:Int).toNat x W).bind _))=_
   rw [azz (by omega) (by omega) (by omega),abZ,Int.toNat_natCast,show aea (k+1) at_ x W=_ from hK k hk,Option.bind_some]
   have l1:=aoK (H.take nh) x
   have l2:=aoK (W.take at_) x
   rw [List.length_take] at l1 l2
   show lim ((akj (H.take nh) x).length+(akj (W.take at_) x).length) _=_
   rw [amh (by omega),ajK,e]; rfl
theorem aDy {H W:List Lk} {nh nw:Nat} (hH:nh≤H.length) (hW:nw≤W.length) (b1:nh≤100) (b2:nw≤100) :
 ∃ E,Ev (fun k=>aen k nh nw true H W) (E,((nh,(nw,(true,()))),((H,()),((W,()),()))))∧E.length≤40000:=by
 have outer:∀ (d i:Nat) (fl:Bool) (out:List Eg) (met:List (Eg×Bool)),i+d=nw→out.length+d * 200≤40000 →
  ∃ E,Ev2 (fun k n=>adY k n fl out nw ((nw:Nat):Int) (i:Int) nh nw true H W met) (E,((nh,(nw,(true,()))),((H,()),((W,()),()))))∧E.length≤40000:=by
  intro d
  induction d with
  | zero =>
    intro i fl out met hi ho
    have:i=nw:=by omega
    subst this
    refine ⟨out,.up ⟨0,fun k n _ _=>?_⟩,by omega⟩
    show adY k (n+1) _ _ _ _ _ _ _ _ _ _ _=_
    rw [ajH,bf (by omega)]
  | succ d ih =>
    intro i fl out met hi ho
    have hlt:i < W.length:=by omega
    have hx:W[i]?=some W[i]:=List.getElem?_eq_getElem hlt
    generalize W[i]=x at hx
    have inner:∀ (ls:List Lk),ls.length≤10000→∀ (e j:Nat) (fl:Bool) (out:List Eg) (met:List (Eg×Bool)),j+e=ls.length→out.length+e+d * 200≤40000 →
     ∃ E,Ev3 (fun k n p=>adZ k n p fl out nw ((nw:Nat):Int) (i:Int) ls (ls.length:Int) (j:Int) nh nw true H W met x.1 x.2.1 x.2.2.1 x.2.2.2.1 x.2.2.2.2.1) (E,((nh,(nw,(true,()))),((H,()),((W,()),()))))∧E.length≤40000:=by
        intro ls hls e
        induction e with
        | zero =>
          intro j fl out met hj ho
          have:j=ls.length:=by omega
          subst this
          obtain ⟨E,hE,hl⟩:=ih (i+1) fl out met (by omega) (by omega)
          refine ⟨E,.up ?_,hl⟩
          obtain ⟨K,hK⟩:=hE
          refine ⟨K,fun k n p hk hn hp=>?_⟩
          refine (ag_ ..).trans ?_
          rw [bf (by omega),afn (by omega)]
          exact hK k n hk hn
        | succ e ihe =>
          intro j fl out met hj ho
          have hlj:j < ls.length:=by omega
          have hy:nth ls (j:Int)=some ls[j]:=ab0 (List.getElem?_eq_getElem hlj)
          generalize ls[j]=y at hy
          cases hm:(ada (.st (.pair (.int .u64) (.pair (.int .u64) .unit))) met ((x.1,(y.1,())):Eg)).getD false with
          | true =>
            obtain ⟨E,hE,hl⟩:=ihe (j+1) fl out met (by omega) (by omega)
            refine ⟨E,.up ?_,hl⟩
            obtain ⟨K,hK⟩:=hE
            refine ⟨K,fun k n p hk hn hp=>?_⟩
            refine (ag_ ..).trans ?_
            rw [bt (by omega),hy,Option.bind_some]
            refine (congrArg (fun b=>bif b then _ else _) hm).trans ?_
            rw [afn (by omega)]
            exact hK k n p hk hn hp
          | false =>
            obtain ⟨E,hE,hl⟩:=ihe (j+1) (fl&&([((x.1,(y.1,())):Eg)]:List Eg).isEmpty) (out++[(x.1,(y.1,()))]) (setM (.st (.pair (.int .u64) (.pair (.int .u64) .unit))) met ((x.1,(y.1,())):Eg) true) (by omega) (by simp; omega)
            refine ⟨E,.up ?_,hl⟩
            obtain ⟨K,hK⟩:=hE
            refine ⟨K,fun k n p hk hn hp=>?_⟩
            refine (ag_ ..).trans ?_
            rw [bt (by omega),hy,Option.bind_some]
            refine (congrArg (fun b=>bif b then _ else _) hm).trans ?_
            show lim _ (bif decide (((out++[((x.1,(y.1,())):Eg)]).length:Int)=160000) then _ else _)=_
            rw [amh (by simp; omega),bf (by simp; omega),afn (by omega)]
            exact hK k n p hk hn hp
    have hw:=aAp (H:=H) (W:=W) (at_:=i) x true hH hW (by omega) (by omega) (by omega)
    have hl:=aCi (H.take nh) (W.take nw) x i
    rw [List.length_take,List.length_take] at hl
    obtain ⟨E,hE,hl'⟩:=inner (asA (H.take nh) (W.take nw) x i) (by omega) _ 0 fl out met (Nat.zero_add _) (by omega)
    refine ⟨E,.up ?_,hl'⟩
    obtain ⟨K,hK⟩:=hE.dg
    obtain ⟨K2,hK2⟩:=hw
    refine ⟨Nat.max K K2,fun k n hk hn=>?_⟩
    refine (ajH ..).trans ?_
    rw [bt (by omega),ak5 (by omega) (by omega),abZ,Nat.zero_add,Int.toNat_natCast,hx,Option.bind_some]
    show ((adP k x (i:Int) nh nw true H W).bind _)=_
    rw [show adP k x (i:Int) nh nw true H W=_ from hK2 k (Nat.le_trans (Nat.le_max_right K K2) hk),Option.bind_some]
    exact hK k n (Nat.le_trans (Nat.le_max_left K K2) hk) (Nat.le_trans (Nat.le_max_left K K2) hn)
 obtain ⟨E,hE,hl⟩:=outer nw 0 true [] [] (by omega) (by simp; omega)
 refine ⟨E,?_,hl⟩
 obtain ⟨K,hK⟩:=hE.dg
 refine ⟨K,fun k hk=>?_⟩
 show aen k nh nw true H W=_
 rw [arJ,adQ]
 exact hK k hk
def mayP (x:Lk):Bool:=(!decide (x.1=0))&&((decide (x.2.1=0)||decide (x.2.1=1))&&((decide (1≤x.2.2.1)&&decide (x.2.2.1≤4))&&!endP x.2.2.2.2.1 x.2.2.2.1))
theorem aCu (k:Nat) (x:Lk):asX k x=some (mayP x,()):=by
 rw [azC]
 simp only [aEo,aEg,Option.bind_some]
 unfold mayP
 cases decide (x.2.1=0) <;> cases decide (x.1=0) <;> cases decide (x.2.1=1) <;> cases (decide (1≤x.2.2.1)&&decide (x.2.2.1≤4)) <;> rfl
def agV (ws:List Lk) (x:Lk):List Lk:=ws.filter fun w=>!(decide (w.1=x.1)&&!au7 w x)
def auU (ws:List Lk) (t:Int):List Lk:=ws.filter fun w=>!decide (w.1=t)
def auV (ws:List Lk) (x:Lk):List Lk:=if aoA ws x=ws.length then ws++[x] else ws
def askR (hs ws:List Lk) (x:Lk) (b:Bool) (e:Int) (hs' ws':List Lk):Prop :=
 (mayP x=false∧b=false∧e=1∧hs'=hs∧ws'=ws) ∨
 (mayP x=true∧hs.any (fun h=>covP h x)=true∧b=true∧e=0∧hs'=hs∧ws'=ws) ∨
 (mayP x=true∧hs.any (fun h=>covP h x)=false∧asA hs (agV ws x) x (aoA (agV ws x) x)=[]∧ws'=auU (agV ws x) x.1 ∧
    ((400≤hs.length∧b=false∧e=132∧hs'=hs)∨(hs.length < 400∧b=true∧e=0∧hs'=hs++[x]))) ∨
 (mayP x=true∧hs.any (fun h=>covP h x)=false∧asA hs (agV ws x) x (aoA (agV ws x) x)≠[]∧b=false∧hs'=hs ∧
    ((e=131∧ws'=auU (auV (agV ws x) x) x.1)∨(e=0∧ws'=auV (agV ws x) x)))
theorem aCG (ws:List Lk) (x:Lk):aoA ws x≤ws.length:=by
 unfold aoA
 split
 · rename_i i h; exact Nat.le_of_lt (avt h).1
 · exact Nat.le_refl _
theorem aA5 {H:List Lk} {n:Nat} (x:Lk) (h:n≤H.length):(apc H n [x]).take (n+1)=H.take n++[x]∧n+1≤(apc H n [x]).length:=by
 have e:apc H n [x]=H.take n++[x]:=rfl
 have l:(H.take n++[x]).length=n+1:=by rw [List.length_append,List.length_take,Nat.min_eq_left h]; rfl
 rw [e,← l,List.take_length]
 exact ⟨rfl,Nat.le_refl _⟩
theorem aBN {H W:List Lk} {nh nw:Nat} (x:Lk) (hH:nh≤H.length) (hW:nw≤W.length) (b1:nh≤100) (b2:nw≤100) :
 ∃ e nw' W',Ev (fun k=>aeL k nh nw true H x.1 x.2.1 x.2.2.1 x.2.2.2.1 x.2.2.2.2.1 W) ((false,(e,())),((nh,(nw',(true,()))),((),((),((H,()),((W',()),()))))))∧nw'≤W'.length ∧
   ((e=131∧W'.take nw'=auU (W.take nw) x.1)∨(e=0∧W'.take nw'=W.take nw)):=by
 obtain ⟨E,hE,hl⟩:=aDy hH hW b1 b2
 obtain ⟨n,W',hL,h2,h3⟩:=avC (W:=W) (c:=nw) x.1 nh true H hW (by omega)
 rcases aDx E x.1 hl with ⟨c,hc,hne⟩ | hc
 · refine ⟨131,n,W',.up ?_,h2,.inl ⟨rfl,h3⟩⟩
   simp only [aln]
   refine .bind hE.sh (.bind hc.sh ?_)
   obtain ⟨K,hK⟩:=hL.sh
   refine ⟨K,fun k hk=>?_⟩
   show must (!c.2.2.1.1.isEmpty) ((aav (k+1) x.1 nh nw true H W).bind _)=_
   have:c.2.2.1.1.isEmpty=false:=by
    cases h:c.2.2.1.1 with
    | nil=>exact absurd h hne
    | cons _ _=>rfl
   rw [this,show aav (k+1) x.1 nh nw true H W=_ from hK k hk]
   rfl
 · refine ⟨0,nw,W,.up ?_,hW,.inr ⟨rfl,rfl⟩⟩
   simp only [aln]
   refine .bind hE.sh (.bind hc.sh (.from 0 fun k=>rfl))
theorem aFd (k:Nat) (x:Lk) (h1:x.2.2.2.1.length≤60000) (h2:x.2.2.2.2.1.length≤60000):ajq k x=some (x,(x,())):=by
 rw [aGp,amh (by omega),amh (by omega)]
theorem aFx {H W:List Lk} {nh nw:Nat} (x:Lk) (hH:nh≤H.length) (hW:nw≤W.length) (b1:nh≤90) (b2:nw≤90) (s1:x.2.2.2.1.length≤60000) (s2:x.2.2.2.2.1.length≤60000) :
 ∃ b e nh' nw' H' W',Ev (fun k=>af0 k x nh nw true H W) ((b,(e,())),((nh',(nw',(true,()))),((),((),((H',()),((W',()),()))))))∧nh'≤H'.length∧nw'≤W'.length ∧
   askR (H.take nh) (W.take nw) x b e (H'.take nh') (W'.take nw'):=by
 cases hm:mayP x with
 | false =>
   refine ⟨false,1,nh,nw,H,W,.from 0 fun k=>?_,hH,hW,.inl ⟨hm,rfl,rfl,rfl,rfl⟩⟩
   rw [agn,adQ]
   simp only [aCu,Option.bind_some,eta5,hm]
   rfl
 | true =>
 have c1:=aCf (W:=H) (c:=nh) x hH (by omega)
 cases hc:(H.take nh).any fun h=>covP h x with
 | true =>
   refine ⟨true,0,nh,nw,H,W,?_,hH,hW,.inr (.inl ⟨hm,hc,rfl,rfl,rfl,rfl⟩)⟩
   rw [hc] at c1
   simp only [agn,adQ,aCu,Option.bind_some,eta5,hm]
   exact .bind c1 (.from 0 fun k=>rfl)
 | false =>
   rw [hc] at c1
   obtain ⟨n1,W1,c2,g1,g2⟩:=aCk (W:=W) (c:=nw) x.1 x nh true H hW (by omega)
   have g2:W1.take n1=agV (W.take nw) x:=g2
   have gl:n1≤nw:=by
    have e:=congrArg List.length g2
    rw [List.length_take,Nat.min_eq_left g1] at e
    have:(agV (W.take nw) x).length≤(W.take nw).length:=List.length_filter_le ..
    rw [List.length_take] at this
    omega
   have c3:=aDU (W:=W1) (c:=n1) x nh true H g1 (by omega)
   have pl:=aCG (W1.take n1) x
   have tl:(W1.take n1).length=n1:=by rw [List.length_take,Nat.min_eq_left g1]
   have c4:=aAp (H:=H) (W:=W1) (nh:=nh) (nw:=n1) (at_:=aoA (W1.take n1) x) x true hH g1 (by omega) (by omega) (by omega)
   rw [g2] at c3 c4 pl tl
   cases hw:asA (H.take nh) (agV (W.take nw) x) x (aoA (agV (W.take nw) x) x) with
   | nil =>
     rw [hw] at c4
     obtain ⟨n2,W2,c5,g3,g4⟩:=avC (W:=W1) (c:=n1) x.1 nh true H g1 (by omega)
     have g4:W2.take n2=auU (agV (W.take nw) x) x.1:=by rw [g4,g2]; rfl
     obtain ⟨t1,t2⟩:=aA5 (H:=H) x hH
     refine ⟨true,0,nh+1,n2,apc H nh [x],W2,?_,t2,g3,.inr (.inr (.inl ⟨hm,hc,hw,g4,.inr ⟨by rw [List.length_take]; omega,rfl,rfl,t1⟩⟩))⟩
     simp only [agn,adQ,aCu,Option.bind_some,eta5,hm]
     refine .bind c1 (.bind c2 (.bind c3 (.bind c4 (.bind c5 (.from 0 fun k=>?_)))))
     show (bif decide (400≤((nh:Nat):Int)) then _ else (ajq (k+0) x).bind _)=_
     rw [bf (by omega),aFd _ _ s1 s2]
     show lim (nh+1) _=_
     rw [amh (by omega)]
     rfl
   | cons y ys =>
     rw [hw] at c4
     have hne:asA (H.take nh) (agV (W.take nw) x) x (aoA (agV (W.take nw) x) x)≠[]:=by rw [hw]; exact List.cons_ne_nil _ _
     by_cases hp:aoA (agV (W.take nw) x) x=n1
     · obtain ⟨t1,t2⟩:=aA5 (H:=W1) x g1
       obtain ⟨e,n2,W2,c5,g3,g4⟩:=aBN (H:=H) (W:=apc W1 n1 [x]) (nh:=nh) (nw:=n1+1) x hH t2 (by omega) (by omega)
       have ej:auV (agV (W.take nw) x) x=(apc W1 n1 [x]).take (n1+1):=by
         unfold auV
         rw [if_pos (by omega),t1,g2]
       refine ⟨false,e,nh,n2,H,W2,?_,hH,g3,.inr (.inr (.inr ⟨hm,hc,hne,rfl,rfl,by rw [ej]; exact g4⟩))⟩
       simp only [agn,adQ,aCu,Option.bind_some,eta5,hm]
       refine .bind c1 (.bind c2 (.bind c3 (.bind c4 ?_)))
       obtain ⟨K,hK⟩:=c5
       refine ⟨K,fun k hk=>?_⟩
       show (bif decide (((y :: ys).length:Int)=0) then _ else bif decide (((aoA (agV (W.take nw) x) x:Nat):Int)=((n1:Nat):Int)) then (ajq k x).bind _ else _)=_
       rw [bf (by simp; omega),bt (by omega),aFd _ _ s1 s2]
       show lim (n1+1) _=_
       rw [amh (by omega)]
       exact hK k hk
     · obtain ⟨e,n2,W2,c5,g3,g4⟩:=aBN (H:=H) (W:=W1) (nh:=nh) (nw:=n1) x hH g1 (by omega) (by omega)
       have ej:auV (agV (W.take nw) x) x=W1.take n1:=by
         unfold auV
         rw [if_neg (by omega),g2]
       refine ⟨false,e,nh,n2,H,W2,?_,hH,g3,.inr (.inr (.inr ⟨hm,hc,hne,rfl,rfl,by rw [ej]; exact g4⟩))⟩
       simp only [agn,adQ,aCu,Option.bind_some,eta5,hm]
       refine .bind c1 (.bind c2 (.bind c3 (.bind c4 ?_)))
       obtain ⟨K,hK⟩:=c5
       refine ⟨K,fun k hk=>?_⟩
       show (bif decide (((y :: ys).length:Int)=0) then _ else bif decide (((aoA (agV (W.take nw) x) x:Nat):Int)=((n1:Nat):Int)) then _ else _)=_
       rw [bf (by simp; omega),bf (by omega)]
       exact hK k hk
theorem aB_ (k:Nat) (h:Lk) (t:Int):aeM k h t=some (decide (h.1=t),((t,()),())):=aqT k h t
theorem aDA {W:List Lk} {c:Nat} (t:Int) (hc:c≤W.length) (hb:c≤100000) :
 ∃ (n:Nat) (W':List Lk),Ev (fun k=>aaz k c W t) (n,((W',()),((t,()),())))∧n≤W'.length∧W'.take n=(W.take c).filter (fun w=>!decide (w.1=t)):=by
 have hI:=(avw (L:=fun k n i=>aam k n c ((c:Nat):Int) i W t) (W:=W) (c:=c) (p:=fun w=>decide (w.1=t))
  (A:=fun i=>(i,((W,()),((t,()),())))) (B:=((-1:Int),((W,()),((t,()),())))) hc
  (fun k n j y hj hy=>by
   show aam k (n+1) _ _ _ _ _=_
   rw [acQ,bt (by omega),ak5 (by omega) (by omega),abZ,Nat.zero_add,Int.toNat_natCast,hy,Option.bind_some,aB_,Option.bind_some,afn (by omega)])
  (fun k n=>by
   show aam k (n+1) _ _ _ _ _=_
   rw [acQ,bf (by omega)]) c 0 (by omega)).dg
 exact azw (D:=fun k=>aaz k c W t) (p:=fun w=>decide (w.1=t))
  (L:=fun k n i j W=>aac k n c i j W t)
  (fun i=>(i,((W,()),((t,()),()))))
  (fun i W=>(i,((W,()),((t,()),())))) hc hI
  (G:=fun k r=>bif (decide (r.1=(-1))) then some (c,((r.2.1.1,()),((r.2.2.1.1,()),()))) else aac k k c r.1 (wr .i64 (r.1+1)) r.2.1.1 r.2.2.1.1)
  (fun k=>by rw [afM,af7]; rfl) (fun k=>rfl)
  (fun k i hi=>by
   show (bif decide ((i:Int) = -1) then _ else aac k k c (i:Int) (wr .i64 ((i:Int)+1)) W t)=_
   rw [bf (by omega),afn (by omega)])
  (fun k n i j W y hij hj hl hy=>by
   show aac (k+1) (n+1) _ _ _ _ _=_
   rw [acz,bt (by omega),ak5 (by omega) (by omega),abZ,Nat.zero_add,Int.toNat_natCast,hy,Option.bind_some,aB_,Option.bind_some]
   simp only [ae7,ak5 (j:=(i:Int)) (n:=c) (by omega) (by omega),abZ,Nat.zero_add,Int.toNat_natCast,aBT (show i < W.length by omega),afn (show i < 1000000 by omega),afn (show j < 1000000 by omega),eta5]
   cases decide (y.1=t) <;> rfl)
  (fun k n i W hi hl=>by
   show aac k (n+1) _ _ _ _ _=_
   rw [acz,bf (by omega),azz (by omega) (by omega) (by omega),abZ,azz (by omega) (by omega) (by omega),abZ,Nat.zero_add,Int.toNat_natCast])
theorem au9 (ws:List Lk) (t:Int):(auU ws t).length≤ws.length:=List.length_filter_le ..
theorem aEV {H W:List Lk} {nh nw:Nat} (t:Int) (hH:nh≤H.length) (hW:nw≤W.length) (b1:nh≤90) (b2:nw≤90) :
 ∃ (nh' nw':Nat) (H' W':List Lk),Ev (fun k=>ahA k t nh nw true H W) (((nh:Int) - (nh':Int)),((nh',(nw',(true,()))),((H',()),((W',()),()))))∧nh'≤H'.length∧nw'≤W'.length ∧
   H'.take nh'=auU (H.take nh) t∧W'.take nw'=auU (W.take nw) t:=by
 obtain ⟨n1,H1,c1,g1,g2⟩:=aDA (W:=H) (c:=nh) t hH (by omega)
 obtain ⟨n2,W2,c2,g3,g4⟩:=avC (W:=W) (c:=nw) t n1 true H1 hW (by omega)
 have gl:n1≤nh:=by
  have e:=congrArg List.length g2
  rw [List.length_take,Nat.min_eq_left g1] at e
  have:((H.take nh).filter fun w=>!decide (w.1=t)).length≤(H.take nh).length:=List.length_filter_le ..
  rw [List.length_take] at this
  omega
 refine ⟨n1,n2,H1,W2,?_,g1,g3,g2,g4⟩
 simp only [asL,adQ,Option.bind_some]
 refine .bind c1 (.bind c2 (.from 0 fun k=>?_))
 show some (wr .i64 (((nh:Nat):Int) - ((n1:Nat):Int)),_)=_
 rw [anL (by omega)]
def smL (x:Lk):Prop:=x.2.2.2.1.length≤60000∧x.2.2.2.2.1.length≤60000
structure TI (hs ws:List Lk) (n:Nat):Prop where
 h:hs.length≤n
 w:ws.length≤n
 sh:∀ x∈hs,smL x
 sw:∀ x∈ws,smL x
theorem asy {ws:List Lk} {t:Int} {x:Lk} (h:x∈auU ws t):x∈ws:=(List.mem_filter.1 h).1
theorem avD {ws:List Lk} {y x:Lk} (h:x∈agV ws y):x∈ws:=(List.mem_filter.1 h).1
theorem aCl (ws:List Lk) (x:Lk):(agV ws x).length≤ws.length:=List.length_filter_le ..
theorem aDG (ws:List Lk) (x:Lk):(auV ws x).length≤ws.length+1:=by unfold auV; split <;> simp
theorem aDH {ws:List Lk} {x y:Lk} (h:y∈auV ws x):y∈ws∨y=x:=by
 unfold auV at h
 split at h
 · simpa using h
 · exact .inl h
theorem TI.ask {hs ws hs' ws':List Lk} {x:Lk} {b:Bool} {e:Int} {n:Nat} (T:TI hs ws n) (hx:smL x) (R:askR hs ws x b e hs' ws'):TI hs' ws' (n+1):=by
 have l1:=aCl ws x
 have l2:=aDG (agV ws x) x
 have l3:=au9 (agV ws x) x.1
 have l4:=au9 (auV (agV ws x) x) x.1
 have hh:=T.h
 have hw:=T.w
 have sj:∀ y∈auV (agV ws x) x,smL y:=fun y hy=>(aDH hy).elim (fun h=>T.sw y (avD h)) fun h=>h ▸ hx
 rcases R with ⟨_,_,_,rfl,rfl⟩ | ⟨_,_,_,_,rfl,rfl⟩ | ⟨_,_,_,rfl,⟨_,_,_,rfl⟩ | ⟨_,_,_,rfl⟩⟩ | ⟨_,_,_,_,rfl,⟨_,rfl⟩ | ⟨_,rfl⟩⟩
 · exact ⟨by omega,by omega,T.sh,T.sw⟩
 · exact ⟨by omega,by omega,T.sh,T.sw⟩
 · exact ⟨by omega,by omega,T.sh,fun y hy=>T.sw y (avD (asy hy))⟩
 · refine ⟨by simp; omega,by omega,fun y hy=>?_,fun y hy=>T.sw y (avD (asy hy))⟩
   rcases List.mem_append.1 hy with h | h
   · exact T.sh y h
   · rw [List.mem_singleton] at h; exact h ▸ hx
 · exact ⟨by omega,by omega,T.sh,fun y hy=>sj y (asy hy)⟩
 · exact ⟨by omega,by omega,T.sh,sj⟩
theorem TI.free {hs ws:List Lk} {n:Nat} (T:TI hs ws n) (t:Int):TI (auU hs t) (auU ws t) (n+1):=by
 have l1:=au9 hs t
 have l2:=au9 ws t
 have hh:=T.h
 have hw:=T.w
 exact ⟨by omega,by omega,fun y hy=>T.sh y (asy hy),fun y hy=>T.sw y (asy hy)⟩
abbrev Sx : Type:=Int×(Int×(Int×Unit))
abbrev Cl : Type:=List Int×(Int×(Bool×Unit))
abbrev Tb : Type:=Int×(List Int×(List Cl×(Int×(List Int×Unit))))
abbrev Vs : Type:=Int×(Int×(Bool×(List Int×(List (List Int)×Unit))))
abbrev Ce : Type:=List Int×(List Vs×(Vs×Unit))
abbrev Wt : Type:=List Int×(Bool×(List Int×Unit))
abbrev Cm : Type:=Int×(Int×(Int×(Int×(Int×(Bool×(Lk×(List Int×(List Int×(List Int×(List Wt×(List (List Int)×(Tb×Unit))))))))))))
abbrev Rs : Type:=Int×(Int×(Int×(Bool×(List Sx×(List Ce×(List Tb×Unit))))))
abbrev Mp : Type:=List (Int×(Int×(Rs×Unit)))
theorem awW (k:Nat) (l:List Cl):adN k l=lim (0+l.length) (some (l,())):=by
 rw [ao6]
 cases l with
 | nil=>exact agC _
 | cons a l=>rfl
theorem awX (k:Nat) (l:List Int):ade k l=lim (0+l.length) (some (l,())):=by
 rw [anV]
 cases l with
 | nil=>exact agC _
 | cons a l=>rfl
theorem azt (k:Nat) (l:List Cl):adv k l=lim l.length (some ((),((l,()),()))):=by
 rw [amY]
 cases l with
 | nil=>exact agC _
 | cons a l=>rfl
theorem azu (k:Nat) (l:List Int):acS k l=lim l.length (some ((),((l,()),()))):=by
 rw [ald]
 cases l with
 | nil=>exact agC _
 | cons a l=>rfl
theorem aBl (k:Nat) (l:List Tb):adw k l=lim l.length (some ((),((l,()),()))):=by
 rw [am0]
 cases l with
 | nil=>exact agC _
 | cons a l=>rfl
theorem azv (k n:Nat) (l:List Tb):acx k n l=lim (l.take n).length (some ((),((l,()),((l.take n,()),())))):=by
 rw [akZ]
 cases n with
 | zero=>exact agC _
 | succ n=>rfl
theorem avh {α:Type} {l:List α} {j:Nat} {x:α} (h:l[j]?=some x):l.set j x=l:=by
 apply List.ext_getElem?
 intro i
 rw [List.getElem?_set]
 split
 · rename_i e; subst e
   split
   · exact h.symm
   · rename_i c; rw [List.getElem?_eq_none (by omega)] 
 · rfl
def smT (t:Tb):Prop:=t.2.2.1.length≤60000∧t.2.2.2.2.1.length≤60000
theorem aBY {L:List Tb} (hs:∀ t∈L,smT t) (hl:L.length≤1000):∀ d j,j+d=L.length→Ev2 (fun k n=>af3 k n (L.length:Int) (j:Int) L) (L,()):=by
 intro d
 induction d with
 | zero =>
   intro j hj
   refine .up ⟨0,fun k n _ _=>?_⟩
   show af3 k (n+1) _ _ _=_
   rw [aor,bf (by omega)]
 | succ d ih =>
   intro j hj
   have hlt:j < L.length:=by omega
   have hx:L[j]?=some L[j]:=List.getElem?_eq_getElem hlt
   have hy:=hs L[j] (List.getElem_mem hlt)
   generalize L[j]=x at hx hy
   obtain ⟨K,hK⟩:=ih (j+1) (by omega)
   refine .up ⟨K,fun k n hk hn=>?_⟩
   show af3 k (n+1) _ _ _=_
   have e:L.set j (x.1,(x.2.1,(x.2.2.1,x.2.2.2)))=L:=avh hx
   have e2:L.set j (x.1,(x.2.1,(x.2.2.1,(x.2.2.2.1,(x.2.2.2.2.1,x.2.2.2.2.2)))))=L:=avh hx
   rw [aor,bt (by omega),ak5 (by omega) (by omega),abZ,Int.toNat_natCast,hx,Option.bind_some,awW,amh (by have:=hy.1; omega),Option.bind_some,abZ,Option.bind_some,awX,amh (by have:=hy.2; omega),Option.bind_some,abZ,Option.bind_some,e,ak5 (by omega) (by omega),abZ,hx,Option.bind_some,e2,afn (by omega)]
   exact hK k n hk hn
theorem aBX {L:List Tb} (hs:∀ t∈L,smT t) (hl:L.length≤1000):Ev (fun k=>aiU k L) (L,()):=by
 simp only [awK,aBl,amh (show L.length≤68719476736 by omega)]
 exact (aBY hs hl L.length 0 (by omega)).dg
theorem aBo {L:List Tb} (B:List Tb) (hs:∀ t∈L,smT t) (hl:L.length≤1000):∀ d j,j+d=L.length→Ev2 (fun k n=>ad3 k n (L.length:Int) (j:Int) B L) (L,((B,()),())):=by
 intro d
 induction d with
 | zero =>
   intro j hj
   refine .up ⟨0,fun k n _ _=>?_⟩
   show ad3 k (n+1) _ _ _ _=_
   rw [alP,bf (by omega)]
 | succ d ih =>
   intro j hj
   have hlt:j < L.length:=by omega
   have hx:L[j]?=some L[j]:=List.getElem?_eq_getElem hlt
   have hy:=hs L[j] (List.getElem_mem hlt)
   generalize L[j]=x at hx hy
   obtain ⟨K,hK⟩:=ih (j+1) (by omega)
   refine .up ⟨K,fun k n hk hn=>?_⟩
   show ad3 k (n+1) _ _ _ _=_
   have e:L.set j (x.1,(x.2.1,(x.2.2.1,x.2.2.2)))=L:=avh hx
   have e2:L.set j (x.1,(x.2.1,(x.2.2.1,(x.2.2.2.1,(x.2.2.2.2.1,x.2.2.2.2.2)))))=L:=avh hx
   rw [alP,bt (by omega),ak5 (by omega) (by omega),abZ,Int.toNat_natCast,hx,Option.bind_some,awW,amh (by have:=hy.1; omega),Option.bind_some,abZ,Option.bind_some,awX,amh (by have:=hy.2; omega),Option.bind_some,abZ,Option.bind_some,e,ak5 (by omega) (by omega),abZ,hx,Option.bind_some,e2,afn (by omega)]
   exact hK k n hk hn
theorem aBn {B:List Tb} {n:Nat} (hs:∀ t∈B.take n,smT t) (hl:n≤1000) (hn:n≤B.length):Ev (fun k=>aiA k n B) (B.take n,((B,()),())):=by
 have hlen:(B.take n).length=n:=by rw [List.length_take,Nat.min_eq_left hn]
 simp only [atZ,azv,amh (show (B.take n).length≤68719476736 by omega)]
 exact (aBo B hs (by omega) (B.take n).length 0 (by omega)).dg
theorem aBW (k:Nat) (t:Tb) (h:smT t):agv k t=some ((),((t.1,(t.2.1,((),(t.2.2.2.1,((),()))))),((t.2.2.1,()),((t.2.2.2.2.1,()),())))):=by
 rw [as_,akb]
 simp only [Option.bind_some,azt,azu]
 rw [amh (by have:=h.1; omega),Option.bind_some,amh (by have:=h.2; omega)]
 rfl
def errR (e:Int):Rs:=(e,((0:Int),((0:Int),(false,([],([],([],())))))))
def stsR (l:List Sx):Rs:=((0:Int),((0:Int),((0:Int),(false,(l,([],([],())))))))
def txP (T:List Sx) (n:Int):Option Sx:=if 1≤n then T[(n - 1).toNat]? else none
def stP (T:List Sx) (n:Int):Sx:=(txP T n).getD (n,((0:Int),((0:Int),())))
theorem az6 {α:Type} {l:List α} {n i:Nat} {x:α} (h:(l.take n)[i]?=some x):i < n∧l[i]?=some x:=by
 rw [List.getElem?_take] at h
 split at h
 · exact ⟨by assumption,h⟩
 · cases h
theorem aFq (k:Nat) {n:Int} (hn:0≤n∧n < 18446744073709551616) (cl:Int) (nt nb:Nat) (T:List Sx) (nh nw:Nat) (B:List Tb) (M:Mp) (H W:List Lk) (ht:nt≤T.length) (hb:nt≤1000000) :
 aep k n cl nt nb T nh nw true B M H W=some (match txP (T.take nt) n with
  | none=>Sum.inl ((),((cl,(nt,((),(nb,((),()))))),((T,()),((nh,(nw,(true,()))),((B,()),((M,()),((H,()),((W,()),()))))))))
  | some _=>Sum.inr ((n - 1).toNat,((cl,(nt,((),(nb,((),()))))),((T,()),((nh,(nw,(true,()))),((B,()),((M,()),((H,()),((W,()),()))))))))):=by
 rw [arY]
 by_cases h0:n=0
 · subst h0
   rw [bt rfl]; rfl
 · rw [bf h0,azi (by omega)]
   unfold txP
   rw [if_pos (by omega)]
   by_cases h1:(nt:Int) < n
   · rw [bt h1,List.getElem?_eq_none (by rw [List.length_take]; omega)]
   · rw [bf h1,azi (by omega),ak5 (by omega) (by omega),abZ,Nat.zero_add,List.getElem?_eq_getElem (by rw [List.length_take]; omega)]
theorem aDd (L:List Int) (hL:∀ n∈L,0≤n∧n < 18446744073709551616) (hl:L.length≤1000) (cl:Int) (nt nb:Nat) (T:List Sx) (nh nw:Nat) (B:List Tb) (M:Mp) (H W:List Lk) (ht:nt≤T.length) (hb:nt≤1000000) :
 ∀ d j (acc:List Sx),j+d=L.length→acc.length≤j→Ev2 (fun k n=>abT k n L (L.length:Int) (j:Int) cl nt nb T nh nw true B M H W 0 0 0 false [] [] [] 0 0 0 false acc [] [])
   (stsR (acc++(L.drop j).map (stP (T.take nt))),((cl,(nt,((),(nb,((),()))))),((T,()),((nh,(nw,(true,()))),((B,()),((M,()),((H,()),((W,()),(stsR (acc++(L.drop j).map (stP (T.take nt))),()))))))))):=by
 intro d
 induction d with
 | zero =>
   intro j acc hj ha
   refine .up ⟨0,fun k n _ _=>?_⟩
   show abT k (n+1) _ _ _ _ _ _ _ _ _ _ _ _ _ _ _ _ _ _ _ _ _ _ _ _ _ _ _ _=_
   rw [aiz,bf (by omega),List.drop_eq_nil_of_le (by omega),List.map_nil,List.append_nil]; rfl
 | succ d ih =>
   intro j acc hj ha
   have hlt:j < L.length:=by omega
   have hx:nth L (j:Int)=some L[j]:=ab0 (List.getElem?_eq_getElem hlt)
   have hy:=hL L[j] (List.getElem_mem hlt)
   rw [List.drop_eq_getElem_cons hlt,List.map_cons]
   generalize L[j]=x at hx hy
   obtain ⟨K,hK⟩:=ih (j+1) (acc++[stP (T.take nt) x]) (by omega) (by rw [List.length_append]; simp; omega)
   rw [List.append_assoc] at hK
   refine .up ⟨K,fun k n hk hn=>?_⟩
   show abT k (n+1) _ _ _ _ _ _ _ _ _ _ _ _ _ _ _ _ _ _ _ _ _ _ _ _ _ _ _ _=_
   have l1:∀ y:Sx,acc.length+([y]:List Sx).length≤68719476736:=fun y=>by simp; omega
   have hK':=hK k n hk hn
   rw [aiz,bt (by omega),hx,Option.bind_some,aFq k hy cl nt nb T nh nw B M H W ht hb,Option.bind_some,afn (by omega)]
   cases h:txP (T.take nt) x with
   | none =>
     have e:stP (T.take nt) x=(x,((0:Int),((0:Int),()))):=by unfold stP; rw [h]; rfl
     rw [e] at hK' ⊢
     simp only [sm]
     rw [amh (l1 _)]
     exact hK'
   | some s =>
     have e:stP (T.take nt) x=s:=by unfold stP; rw [h]; rfl
     rw [e] at hK' ⊢
     have hs:T[(x - 1).toNat]?=some s:=by
        unfold txP at h
        split at h
        · exact (az6 h).2
        · cases h
     simp only [sm,hs,Option.bind_some]
     rw [amh (l1 _)]
     exact hK'
theorem aDc (c:Cm) (hL:∀ n∈c.2.2.2.2.2.2.2.2.2.1,0≤n∧n < 18446744073709551616) (hl:c.2.2.2.2.2.2.2.2.2.1.length≤1000) (cl:Int) (nt nb:Nat) (T:List Sx) (nh nw:Nat) (B:List Tb) (M:Mp) (H W:List Lk) (ht:nt≤T.length) (hb:nt≤1000000) :
 Ev (fun k=>ae3 k c cl nt nb T nh nw true B M H W) (stsR (c.2.2.2.2.2.2.2.2.2.1.map (stP (T.take nt))),((cl,(nt,((),(nb,((),()))))),((T,()),((nh,(nw,(true,()))),((B,()),((M,()),((H,()),((W,()),(stsR (c.2.2.2.2.2.2.2.2.2.1.map (stP (T.take nt))),()))))))))):=by
 simp only [apA]
 exact (aDd _ hL hl cl nt nb T nh nw B M H W ht hb _ 0 [] (Nat.zero_add _) (Nat.le_refl _)).dg
def decP (T:List Sx) (cl n:Int) (f:Bool):Rs×(Int×List Sx) :=
 match txP T n with
 | none=>(errR 150,(cl,T))
 | some s=>if s.2.1=0 then (bif f then (stsR [(s.1,((1:Int),(cl+1,())))],(cl+1,T.set (n - 1).toNat (s.1,((1:Int),(cl+1,()))))) else (stsR [(s.1,((2:Int),s.2.2))],(cl,T.set (n - 1).toNat (s.1,((2:Int),s.2.2))))) else (stsR [s],(cl,T))
theorem aEB {T:List Sx} {n:Int} {s:Sx} (h:txP T n=some s):1≤n∧T[(n - 1).toNat]?=some s:=by
 unfold txP at h
 split at h
 · exact ⟨by assumption,h⟩
 · cases h
theorem axu {α:Type} {l:List α} {j:Nat} {x y:α} (h:l[j]?=some x):(l.set j y)[j]?=some y:=by
 rw [List.getElem?_set_self]
 exact (List.getElem?_eq_some_iff.1 h).1
theorem aB0 (c:Cm) (hn:0≤c.2.2.2.1∧c.2.2.2.1 < 18446744073709551616) (cl:Int) (hc:0≤cl∧cl≤1000) (nt nb:Nat) (T:List Sx) (nh nw:Nat) (B:List Tb) (M:Mp) (H W:List Lk) (ht:nt≤T.length) (hb:nt≤1000000) :
 ∃ T',nt≤T'.length∧T'.take nt=(decP (T.take nt) cl c.2.2.2.1 c.2.2.2.2.2.1).2.2 ∧
 Ev (fun k=>ae1 k c cl nt nb T nh nw true B M H W) ((decP (T.take nt) cl c.2.2.2.1 c.2.2.2.2.2.1).1,(((decP (T.take nt) cl c.2.2.2.1 c.2.2.2.2.2.1).2.1,(nt,((),(nb,((),()))))),((T',()),((nh,(nw,(true,()))),((B,()),((M,()),((H,()),((W,()),((decP (T.take nt) cl c.2.2.2.1 c.2.2.2.2.2.1).1,()))))))))):=by
 simp only [apw,aFq _ hn cl nt nb T nh nw B M H W ht hb,Option.bind_some]
 unfold decP
 cases h:txP (T.take nt) c.2.2.2.1 with
 | none =>
   refine ⟨T,ht,rfl,.from 0 fun k=>?_⟩
   simp only [sm,aeJ,Option.bind_some]
   rfl
 | some s =>
   have hs:=(az6 (aEB h).2).2
   simp only [sm,hs,Option.bind_some]
   by_cases c0:s.2.1=0
   · rw [if_pos c0]
     cases c.2.2.2.2.2.1 with
     | true =>
       refine ⟨(T.set (c.2.2.2.1 - 1).toNat (s.1,((1:Int),s.2.2))).set (c.2.2.2.1 - 1).toNat (s.1,((1:Int),(cl+1,()))),by simpa using ht,?_,.from 1 fun k=>?_⟩
       · rw [List.set_set,List.take_set]; rfl
       · rw [dT c0]
         show (((T.set (c.2.2.2.1 - 1).toNat (s.1,((1:Int),s.2.2)))[(c.2.2.2.1 - 1).toNat]?).bind fun x27=>_)=_
         rw [axu hs,Option.bind_some,aiy,af2,azi (by omega),axu (axu hs)]
         rfl
     | false =>
       refine ⟨T.set (c.2.2.2.1 - 1).toNat (s.1,((2:Int),s.2.2)),by simpa using ht,?_,.from 1 fun k=>?_⟩
       · rw [List.take_set]; rfl
       · rw [dT c0]
         show adc (k+1) _ _ _ _ _ _ _ _ _ _ _ _ _ _ _ _ _ _ _=_
         rw [aiy,af2,axu hs]
         rfl
   · rw [if_neg c0]
     refine ⟨T,ht,rfl,.from 1 fun k=>?_⟩
     rw [dF c0]
     show aci (k+1) _ _ _ _ _ _ _ _ _ _ _ _ _ _ _ _ _ _ _=_
     rw [af2,hs]
     rfl
def aDt : List (List Int)→List Cl→Bool
 | _,[]=>true
 | S,c :: cs=>(!decide (c.1∈S))&&((decide (c.2.1=1)||decide (c.2.1=2))&&aDt (c.1 :: S) cs)
def idxB (n:Int):List Int→List Int→Bool
 | _,[]=>true
 | S,i :: is=>(!decide (i∈S))&&((!decide (i < 0))&&((!decide (n≤i))&&idxB n (i :: S) is))
theorem aAe (a b:List Int):beqL a b=true↔a=b:=by simp [beqL]
def mpS {α:Type} [DecidableEq α] (f:α→Option Bool) (S:List α):Prop:=∀ x,(f x).getD false=decide (x∈S)
theorem aCz {α:Type} [DecidableEq α] {f g:α→Option Bool} {S:List α} (h:mpS f S) (y:α) (h1:g y=some true) (h2:∀ x,x≠y→g x=f x):mpS g (y :: S):=by
 intro x
 by_cases e:x=y
 · subst e; rw [h1]; simp
 · rw [h2 x e,h x]; simp [e]
theorem aE6 {M:List (Int×Bool)} {S:List Int} (h:mpS (fun x:Int=>ada (.int .i64) M x) S) (y:Int):mpS (fun x:Int=>ada (.int .i64) (setM (.int .i64) M y true) x) (y :: S) :=
 aCz h y (aoh (kt:=.int .i64) axp M y true) fun x e=>aqG (kt:=.int .i64) axp M y x true e
theorem aCy {M:List (List Int×Bool)} {S:List (List Int)} (h:mpS (fun x:List Int=>ada .str M x) S) (y:List Int):mpS (fun x:List Int=>ada .str (setM .str M y true) x) (y :: S) :=
 aCz h y (aoh (kt:=.str) aAe M y true) fun x e=>aqG (kt:=.str) aAe M y x true e
theorem aFW (n:Int) (I:List Int) (hI:I.length≤1000):∀ d j (M:List (Int×Bool)) (S:List Int),j+d=I.length→mpS (fun x:Int=>ada (.int .i64) M x) S→Ev2 (fun k m=>ahF k m n I (I.length:Int) (j:Int) M) (idxB n S (I.drop j),()):=by
 intro d
 induction d with
 | zero =>
   intro j M S hj hM
   refine .up ⟨0,fun k m _ _=>?_⟩
   show ahF k (m+1) _ _ _ _ _=_
   rw [aro,bf (by omega),List.drop_eq_nil_of_le (by omega)]; rfl
 | succ d ih =>
   intro j M S hj hM
   have hlt:j < I.length:=by omega
   have hx:nth I (j:Int)=some I[j]:=ab0 (List.getElem?_eq_getElem hlt)
   rw [List.drop_eq_getElem_cons hlt]
   generalize I[j]=x at hx
   obtain ⟨K,hK⟩:=ih (j+1) _ _ (by omega) (aE6 hM x)
   refine .up ⟨K,fun k m hk hm=>?_⟩
   show ahF k (m+1) _ _ _ _ _=_
   rw [aro,bt (by omega),hx,Option.bind_some,show (ada (.int .i64) M x).getD false=_ from hM x,afn (by omega)]
   have hK':ahF k m n I (I.length:Int) ((j+1:Nat):Int) (setM (.int .i64) M x true)=_:=hK k m hk hm
   rw [hK']
   show _=some ((!decide (x∈S))&&((!decide (x < 0))&&((!decide (n≤x))&&idxB n (x :: S) (I.drop (j+1)))),())
   cases decide (x∈S) <;> cases decide (x < 0) <;> cases decide (n≤x) <;> rfl
theorem aFV (t:Tb) (n:Int) (C:List Cl) (hC:C.length≤1000) (hI:t.2.2.2.2.1.length≤1000):∀ d j (M:List (List Int×Bool)) (S:List (List Int)),j+d=C.length→mpS (fun x:List Int=>ada .str M x) S →
 Ev2 (fun k m=>agQ k m n C (C.length:Int) (j:Int) t.1 t.2.1 t.2.2.1 t.2.2.2.1 t.2.2.2.2.1 M []) (aDt S (C.drop j)&&idxB n [] t.2.2.2.2.1,()):=by
 intro d
 induction d with
 | zero =>
   intro j M S hj hM
   obtain ⟨K,hK⟩:=(aFW n t.2.2.2.2.1 hI _ 0 [] [] (Nat.zero_add _) (fun x=>rfl)).dg
   refine .up ⟨K,fun k m hk _=>?_⟩
   show agQ k (m+1) _ _ _ _ _ _ _ _ _ _ _=_
   rw [arn,bf (by omega),List.drop_eq_nil_of_le (by omega)]
   exact hK k hk
 | succ d ih =>
   intro j M S hj hM
   have hlt:j < C.length:=by omega
   have hx:nth C (j:Int)=some C[j]:=ab0 (List.getElem?_eq_getElem hlt)
   rw [List.drop_eq_getElem_cons hlt]
   generalize C[j]=x at hx
   obtain ⟨K,hK⟩:=ih (j+1) _ _ (by omega) (aCy hM x.1)
   refine .up ⟨K,fun k m hk hm=>?_⟩
   show agQ k (m+1) _ _ _ _ _ _ _ _ _ _ _=_
   rw [arn,bt (by omega),hx,Option.bind_some,show (ada .str M x.1).getD false=decide (x.1∈S) from (hM x.1).trans (decide_eq_decide.2 Iff.rfl),afn (by omega)]
   have hK':agQ k m n C (C.length:Int) ((j+1:Nat):Int) t.1 t.2.1 t.2.2.1 t.2.2.2.1 t.2.2.2.2.1 (setM .str M x.1 true) []=_:=hK k m hk hm
   rw [hK']
   show _=some (((!decide (x.1∈S))&&((decide (x.2.1=1)||decide (x.2.1=2))&&aDt (x.1 :: S) (C.drop (j+1))))&&idxB n [] t.2.2.2.2.1,())
   cases decide (x.1∈S) <;> cases decide (x.2.1=1) <;> cases decide (x.2.1=2) <;> rfl
def ayR (t:Tb):Bool:=(!beqL t.2.1 [])&&((!decide ((t.2.2.1.length:Int) < 1))&&((!decide (12 < (t.2.2.1.length:Int)))&&((!decide (t.2.2.2.1 < 0))&&((!decide ((t.2.2.1.length:Int)≤t.2.2.2.1))&&((!decide (4 < (t.2.2.2.2.1.length:Int)))&&(aDt [[]] t.2.2.1&&idxB (t.2.2.1.length:Int) [] t.2.2.2.2.1))))))
theorem aE4 (t:Tb):Ev (fun k=>ate k t) (ayR t,()):=by
 simp only [azG]
 unfold ayR
 cases beqL t.2.1 [] with
 | true=>exact .from 0 fun k=>rfl
 | false =>
   by_cases c1:(t.2.2.1.length:Int) < 1
   · rw [dT c1]; exact .from 0 fun k=>rfl
   by_cases c2:12 < (t.2.2.1.length:Int)
   · rw [dF c1,dT c2]; exact .from 0 fun k=>rfl
   by_cases c3:t.2.2.2.1 < 0
   · rw [dF c1,dF c2,dT c3]; exact .from 0 fun k=>rfl
   by_cases c4:(t.2.2.1.length:Int)≤t.2.2.2.1
   · rw [dF c1,dF c2,dF c3,dT c4]; exact .from 0 fun k=>rfl
   by_cases c5:4 < (t.2.2.2.2.1.length:Int)
   · rw [dF c1,dF c2,dF c3,dF c4,dT c5]; exact .from 0 fun k=>rfl
   rw [dF c1,dF c2,dF c3,dF c4,dF c5]
   exact (aFV t (t.2.2.1.length:Int) t.2.2.1 (by omega) (by omega) _ 0 (setM .str [] [] true) [[]] (Nat.zero_add _) (aCy (fun x=>rfl) [])).dg
theorem aGd (k:Nat) (y:Tb) (t:Tb):aex k y t.1 t.2.1 t.2.2.1 t.2.2.2.1 t.2.2.2.2.1=some (beqL y.2.1 t.2.1,(t,())):=aoY ..
theorem aD6 {B:List Tb} {c:Nat} (t:Tb) (hc:c≤B.length) (hb:c≤100000) :
 Ev (fun k=>aay k c B t.1 t.2.1 t.2.2.1 t.2.2.2.1 t.2.2.2.2.1) ((B.take c).any (fun y=>beqL y.2.1 t.2.1),((B,()),(t,()))):=by
 simp only [aes,aeV]
 have h:=(avw (L:=fun k n i=>aae k n c ((c:Nat):Int) i B t.1 t.2.1 t.2.2.1 t.2.2.2.1 t.2.2.2.2.1) (W:=B) (c:=c) (p:=fun y=>beqL y.2.1 t.2.1)
  (A:=fun i=>(i,((B,()),(t,())))) (B:=((-1:Int),((B,()),(t,())))) hc
  (fun k n j y hj hy=>by
   show aae k (n+1) _ _ _ _ _ _ _ _ _=_
   rw [ab_,bt (by omega),ak5 (by omega) (by omega),abZ,Nat.zero_add,Int.toNat_natCast,hy,Option.bind_some,aGd,Option.bind_some,afn (by omega)])
  (fun k n=>by
   show aae k (n+1) _ _ _ _ _ _ _ _ _=_
   rw [ab_,bf (by omega)]) c 0 (by omega)).dg
 refine .bind h (.from 0 fun k=>?_)
 rw [List.drop_zero,← List.findIdx?_isSome]
 cases (B.take c).findIdx? fun y=>beqL y.2.1 t.2.1 with
 | none=>rfl
 | some i=>show some (decide (0≤((0+i:Nat):Int)),_)=_; rw [dT (by omega)]; rfl
def aDZ (C:List Cl) (k:Nat):List Cl:=match C[k]? with
 | some x=>C.set k (x.1,(x.2.1,(true,x.2.2.2)))
 | none=>C
def newT (n:Nat) (t:Tb):Tb:=((n:Int)+1,(t.2.1,(aDZ t.2.2.1 t.2.2.2.1.toNat,(t.2.2.2.1,(t.2.2.2.2.1,())))))
def tabR (l:List Tb):Rs:=((0:Int),((0:Int),((0:Int),(false,([],([],(l,())))))))
def tabP (B:List Tb) (t:Tb):Rs×List Tb:=bif !ayR t then (errR 151,B) else bif B.any (fun y=>beqL y.2.1 t.2.1) then (errR 151,B) else bif decide (40≤B.length) then (errR 151,B) else (tabR [newT B.length t],B++[newT B.length t])
theorem aCZ (C:List Cl) (k:Nat):(aDZ C k).length=C.length:=by unfold aDZ; split <;> simp
theorem azJ {n:Nat} {t:Tb} (h:smT t):smT (newT n t):=⟨by unfold newT; rw [aCZ]; exact h.1,h.2⟩
theorem aCt {t:Tb} (h:ayR t=true):0≤t.2.2.2.1∧t.2.2.2.1 < (t.2.2.1.length:Int):=by
 unfold ayR at h
 simp only [Bool.and_eq_true,Bool.not_eq_true',decide_eq_false_iff_not] at h
 omega
theorem azd {α:Type} {H:List α} {n:Nat} (x:α) (h:n≤H.length):(apc H n [x]).take (n+1)=H.take n++[x]∧n+1≤(apc H n [x]).length:=by
 have e:apc H n [x]=H.take n++[x]:=rfl
 have l:(H.take n++[x]).length=n+1:=by rw [List.length_append,List.length_take,Nat.min_eq_left h]; rfl
 rw [e,← l,List.take_length]
 exact ⟨rfl,Nat.le_refl _⟩
theorem aD5 (t:Tb) (hs:smT t) (cl:Int) (nt nb:Nat) (T:List Sx) (nh nw:Nat) (B:List Tb) (M:Mp) (H W:List Lk) (hb:nb≤B.length) (hb2:nb≤1000) :
 ∃ nb' B',nb'≤B'.length∧B'.take nb'=(tabP (B.take nb) t).2 ∧
 Ev (fun k=>afK k t cl nt nb T nh nw true B M H W) ((tabP (B.take nb) t).1,((cl,(nt,((),(nb',((),()))))),((T,()),((nh,(nw,(true,()))),((),((M,()),((H,()),((W,()),((tabP (B.take nb) t).1,((B',()),())))))))))):=by
 have hlen:(B.take nb).length=nb:=by rw [List.length_take,Nat.min_eq_left hb]
 have h1:=aD6 t hb (by omega)
 have h2:=aE4 t
 simp only [aqd]
 unfold tabP
 cases hm:ayR t with
 | false =>
   refine ⟨nb,B,hb,rfl,.bind h1 (.bind h2 (.from 0 fun k=>?_))⟩
   rw [hm,aeJ]; rfl
 | true =>
   cases ha:(B.take nb).any fun y=>beqL y.2.1 t.2.1 with
   | true =>
     refine ⟨nb,B,hb,rfl,.bind h1 (.bind h2 (.from 0 fun k=>?_))⟩
     rw [hm,ha,aeJ]; rfl
   | false =>
     by_cases c:40≤nb
     · rw [hlen,dT c]
       refine ⟨nb,B,hb,rfl,.bind h1 (.bind h2 (.from 0 fun k=>?_))⟩
       rw [hm,ha,aeJ,dT (show (40:Int)≤(nb:Int) by omega)]; rfl
     · rw [hlen,dF c]
       obtain ⟨k0,k1⟩:=aCt hm
       have kx:=List.getElem?_eq_getElem (l:=t.2.2.1) (i:=t.2.2.2.1.toNat) (by omega)
       have en:newT nb t=((nb:Int)+1,(t.2.1,(t.2.2.1.set t.2.2.2.1.toNat ((t.2.2.1[t.2.2.2.1.toNat]'(by omega)).1,((t.2.2.1[t.2.2.2.1.toNat]'(by omega)).2.1,(true,(t.2.2.1[t.2.2.2.1.toNat]'(by omega)).2.2.2))),(t.2.2.2.1,(t.2.2.2.2.1,()))))):=by
        unfold newT aDZ; rw [kx]
       have h3:=aBX (L:=[newT nb t]) (by intro x hx; rw [List.mem_singleton] at hx; subst hx; exact azJ hs) (by simp)
       obtain ⟨e1,e2⟩:=azd (newT nb t) hb
       refine ⟨nb+1,apc B nb [newT nb t],e2,e1,.bind h1 (.bind h2 ?_)⟩
       obtain ⟨K,hK⟩:=h3
       refine ⟨K,fun k hk=>?_⟩
       rw [hm,ha,dF (show ¬ (40:Int)≤(nb:Int) by omega)]
       show (agv k t).bind _=_
       rw [aBW k t hs]
       show must (inI t.2.2.2.1 t.2.2.1.length) ((t.2.2.1[t.2.2.2.1.toNat]?).bind _)=_
       rw [ak5 k0 k1,abZ,kx,Option.bind_some,anL (by omega),← en,amh (by simp; omega)]
       show (aiU k [newT nb t]).bind _=_
       rw [show aiU k [newT nb t]=_ from hK k hk]
       rfl
def lkP (c:Cm):Lk:=(c.2.2.2.1,(c.2.2.2.2.2.2.1.2.1,(c.2.2.2.2.2.2.1.2.2.1,(c.2.2.2.2.2.2.1.2.2.2.1,(c.2.2.2.2.2.2.1.2.2.2.2.1,())))))
def opn (T:List Sx) (n:Int):Bool:=match txP T n with
 | some s=>decide (s.2.1=0)
 | none=>false
def flR (b:Bool):Rs:=((0:Int),((0:Int),((0:Int),(b,([],([],([],())))))))
theorem aE1 (c:Cm) (hn:0≤c.2.2.2.1∧c.2.2.2.1 < 18446744073709551616) (hl:smL (lkP c)) (cl:Int) (nt nb:Nat) (T:List Sx) (nh nw:Nat) (B:List Tb) (M:Mp) (H W:List Lk) (ht:nt≤T.length) (hb:nt≤1000000)
 (hH:nh≤H.length) (hW:nw≤W.length) (b1:nh≤90) (b2:nw≤90) :
 ∃ r nh' nw' H' W',nh'≤H'.length∧nw'≤W'.length ∧
 Ev (fun k=>agt k c cl nt nb T nh nw true B M H W) (r,((cl,(nt,((),(nb,((),()))))),((T,()),((nh',(nw',(true,()))),((B,()),((M,()),((),((),(r,((H',()),((W',()),()))))))))))) ∧
 ((opn (T.take nt) c.2.2.2.1=false∧r=errR 150∧nh'=nh∧nw'=nw∧H'=H∧W'=W) ∨
  (opn (T.take nt) c.2.2.2.1=true∧∃ b e,askR (H.take nh) (W.take nw) (lkP c) b e (H'.take nh') (W'.take nw')∧r=if e=0 then flR b else errR e)):=by
 simp only [aq1,aFq _ hn cl nt nb T nh nw B M H W ht hb,Option.bind_some]
 unfold opn
 cases h:txP (T.take nt) c.2.2.2.1 with
 | none =>
   refine ⟨errR 150,nh,nw,H,W,hH,hW,.from 0 fun k=>?_,.inl ⟨rfl,rfl,rfl,rfl,rfl,rfl⟩⟩
   simp only [sm,aeJ,Option.bind_some]
   rfl
 | some s =>
   have hs:=(az6 (aEB h).2).2
   simp only [sm,hs,Option.bind_some]
   by_cases c0:s.2.1=0
   · obtain ⟨b,e,nh',nw',H',W',hA,g1,g2,R⟩:=aFx (lkP c) hH hW b1 b2 hl.1 hl.2
     obtain ⟨K,hK⟩:=hA
     refine ⟨if e=0 then flR b else errR e,nh',nw',H',W',g1,g2,⟨K,fun k hk=>?_⟩,.inr ⟨dT c0,b,e,R,rfl⟩⟩
     show (bif !decide (s.2.1=0) then _ else (af0 k (lkP c) nh nw true H W).bind _)=_
     rw [dT c0,show af0 k (lkP c) nh nw true H W=_ from hK k hk]
     show (bif !decide (e=0) then _ else _)=_
     by_cases e0:e=0
     · rw [dT e0,if_pos e0]; rfl
     · rw [dF e0,if_neg e0,aeJ]; rfl
   · refine ⟨errR 150,nh,nw,H,W,hH,hW,.from 0 fun k=>?_,.inl ⟨dF c0,rfl,rfl,rfl,rfl,rfl⟩⟩
     show (bif !decide (s.2.1=0) then _ else _)=_
     rw [dF c0,aeJ]; rfl
structure MS where
 cl:Int
 T:List Sx
 B:List Tb
 hs:List Lk
 ws:List Lk
def alW (c:Cm) (S:MS):Bool:=decide (c.2.2.1=4)&&opn S.T c.2.2.2.1
def nx (n:Nat):Sx:=((n:Int)+1,((0:Int),((0:Int),())))
def oneP (c:Cm) (S:MS):Rs×MS :=
 if c.2.2.1=1 then (((0:Int),((S.T.length:Int)+1,(S.cl,(false,([],([],([],()))))))),{ S with T:=S.T++[nx S.T.length] })
 else if c.2.2.1=2 then ((decP S.T S.cl c.2.2.2.1 c.2.2.2.2.2.1).1,{ S with cl:=(decP S.T S.cl c.2.2.2.1 c.2.2.2.2.2.1).2.1,T:=(decP S.T S.cl c.2.2.2.1 c.2.2.2.2.2.1).2.2 })
 else if c.2.2.1=3 then (stsR (c.2.2.2.2.2.2.2.2.2.1.map (stP S.T)),S)
 else if c.2.2.1=4 then (errR 150,S)
 else if c.2.2.1=5 then (errR 0,{ S with hs:=auU S.hs c.2.2.2.1,ws:=auU S.ws c.2.2.2.1 })
 else if c.2.2.1=6 then ((tabP S.B c.2.2.2.2.2.2.2.2.2.2.2.2.1).1,{ S with B:=(tabP S.B c.2.2.2.2.2.2.2.2.2.2.2.2.1).2 })
 else if c.2.2.1=7 then (tabR S.B,S)
 else (errR 1,S)
def oneR (c:Cm) (S:MS) (r:Rs) (S':MS):Prop :=
 (alW c S=true∧∃ b e hs' ws',askR S.hs S.ws (lkP c) b e hs' ws'∧r=(if e=0 then flR b else errR e)∧S'={ S with hs:=hs',ws:=ws' }) ∨
 (alW c S=false∧r=(oneP c S).1∧S'=(oneP c S).2)
structure Rp (S:MS) (cl:Int) (nt nb:Nat) (T:List Sx) (nh nw:Nat) (B:List Tb) (H W:List Lk):Prop where
 t:nt≤T.length
 b:nb≤B.length
 h:nh≤H.length
 w:nw≤W.length
 e:S=⟨cl,T.take nt,B.take nb,H.take nh,W.take nw⟩
structure MI (S:MS) (n:Nat):Prop where
 c0:0≤S.cl
 c1:S.cl≤n
 tl:S.T.length≤n
 bl:S.B.length≤n
 L:TI S.hs S.ws n
 ts:∀ t∈S.B,smT t
structure smC (c:Cm):Prop where
 n:0≤c.2.2.2.1∧c.2.2.2.1 < 18446744073709551616
 l:smL (lkP c)
 x:∀ n∈c.2.2.2.2.2.2.2.2.2.1,0≤n∧n < 18446744073709551616
 y:c.2.2.2.2.2.2.2.2.2.1.length≤1000
 t:smT c.2.2.2.2.2.2.2.2.2.2.2.2.1
def mout (r:Rs) (cl:Int) (nt nb:Nat) (T:List Sx) (nh nw:Nat) (B:List Tb) (M:Mp) (H W:List Lk):Rs×((Int×(Nat×(Unit×(Nat×(Unit×Unit)))))×(Unit×((Nat×(Nat×(Bool×Unit)))×(Unit×((Mp×Unit)×(Unit×(Unit×(Rs×((List Sx×Unit)×((List Tb×Unit)×((List Lk×Unit)×((List Lk×Unit)×Unit)))))))))))) :=
 (r,((cl,(nt,((),(nb,((),()))))),((),((nh,(nw,(true,()))),((),((M,()),((),((),(r,((T,()),((B,()),((H,()),((W,()),()))))))))))))) 
theorem aF1 {c:Cm} (C:smC c) {S:MS} {n:Nat} (I:MI S n) (hn:n≤80) {cl:Int} {nt nb:Nat} {T:List Sx} {nh nw:Nat} {B:List Tb} (M:Mp) {H W:List Lk} (P:Rp S cl nt nb T nh nw B H W) :
 ∃ r S' cl' nt' nb' T' nh' nw' B' H' W',Rp S' cl' nt' nb' T' nh' nw' B' H' W'∧oneR c S r S'∧Ev (fun k=>adn k c cl nt nb T nh nw true B M H W) (mout r cl' nt' nb' T' nh' nw' B' M H' W'):=by
 obtain ⟨p1,p2,p3,p4,rfl⟩:=P
 have lt:(T.take nt).length=nt:=by rw [List.length_take,Nat.min_eq_left p1]
 have lb:(B.take nb).length=nb:=by rw [List.length_take,Nat.min_eq_left p2]
 have lh:(H.take nh).length=nh:=by rw [List.length_take,Nat.min_eq_left p3]
 have lw:(W.take nw).length=nw:=by rw [List.length_take,Nat.min_eq_left p4]
 have q1:=I.tl
 have q2:=I.bl
 have q3:=I.L.h
 have q4:=I.L.w
 have q5:0≤cl:=I.c0
 have q6:cl≤n:=I.c1
 simp only at q1 q2 q3 q4
 simp only [arW]
 by_cases c1:c.2.2.1=1
 · rw [dT c1]
   obtain ⟨e1,e2⟩:=azd (nx nt) p1
   refine ⟨((0:Int),((nt:Int)+1,(cl,(false,([],([],([],()))))))),⟨cl,T.take nt++[nx nt],B.take nb,H.take nh,W.take nw⟩,cl,nt+1,nb,apc T nt [nx nt],nh,nw,B,H,W,⟨e2,p2,p3,p4,by rw [e1]⟩,.inr ⟨by unfold alW; rw [dF (by omega)]; rfl,?_,?_⟩,.from 0 fun k=>?_⟩
   · unfold oneP; rw [if_pos c1]; simp only [lt]
   · unfold oneP; rw [if_pos c1]; simp only [lt]
   · show lim _ _=_
     rw [amh (by simp; omega),azi (n:=(nt:Int)) (by omega),azi (by omega)]
     rfl
 by_cases c2:c.2.2.1=2
 · rw [dF c1,dT c2]
   obtain ⟨T',g1,g2,hE⟩:=aB0 c C.n cl ⟨q5,by omega⟩ nt nb T nh nw B M H W p1 (by omega)
   refine ⟨_,_,_,nt,nb,T',nh,nw,B,H,W,⟨g1,p2,p3,p4,rfl⟩,.inr ⟨by unfold alW; rw [dF (by omega)]; rfl,?_,?_⟩,.bind hE (.from 0 fun k=>rfl)⟩
   · unfold oneP; rw [if_neg c1,if_pos c2]
   · unfold oneP; rw [if_neg c1,if_pos c2,g2]
 by_cases c3:c.2.2.1=3
 · rw [dF c1,dF c2,dT c3]
   refine ⟨_,_,cl,nt,nb,T,nh,nw,B,H,W,⟨p1,p2,p3,p4,rfl⟩,.inr ⟨by unfold alW; rw [dF (by omega)]; rfl,?_,?_⟩,.bind (aDc c C.x C.y cl nt nb T nh nw B M H W p1 (by omega)) (.from 0 fun k=>rfl)⟩
   · unfold oneP; rw [if_neg c1,if_neg c2,if_pos c3]
   · unfold oneP; rw [if_neg c1,if_neg c2,if_pos c3]
 by_cases c4:c.2.2.1=4
 · rw [dF c1,dF c2,dF c3,dT c4]
   obtain ⟨r,nh',nw',H',W',g1,g2,hE,⟨ho,rfl,rfl,rfl,rfl,rfl⟩ | ⟨ho,b,e,R,rfl⟩⟩:=aE1 c C.n C.l cl nt nb T nh nw B M H W p1 (by omega) p3 p4 (by omega) (by omega)
   · refine ⟨_,_,cl,nt,nb,T,nh',nw',B,H',W',⟨p1,p2,p3,p4,rfl⟩,.inr ⟨by unfold alW; rw [dT c4]; exact ho,?_,?_⟩,.bind hE (.from 0 fun k=>rfl)⟩
     · unfold oneP; rw [if_neg c1,if_neg c2,if_neg c3,if_pos c4]
     · unfold oneP; rw [if_neg c1,if_neg c2,if_neg c3,if_pos c4]
   · exact ⟨_,_,cl,nt,nb,T,nh',nw',B,H',W',⟨p1,p2,g1,g2,rfl⟩,.inl ⟨by unfold alW; rw [dT c4]; exact ho,b,e,_,_,R,rfl,rfl⟩,.bind hE (.from 0 fun k=>rfl)⟩
 have nl:alW c ⟨cl,T.take nt,B.take nb,H.take nh,W.take nw⟩=false:=by unfold alW; rw [dF c4]; rfl
 by_cases c5:c.2.2.1=5
 · rw [dF c1,dF c2,dF c3,dF c4,dT c5]
   obtain ⟨nh',nw',H',W',hE,g1,g2,g3,g4⟩:=aEV (H:=H) (W:=W) c.2.2.2.1 p3 p4 (by omega) (by omega)
   refine ⟨errR 0,_,cl,nt,nb,T,nh',nw',B,H',W',⟨p1,p2,g1,g2,rfl⟩,.inr ⟨nl,?_,?_⟩,.bind hE (.from 0 fun k=>rfl)⟩
   · unfold oneP; rw [if_neg c1,if_neg c2,if_neg c3,if_neg c4,if_pos c5]
   · unfold oneP; rw [if_neg c1,if_neg c2,if_neg c3,if_neg c4,if_pos c5,g3,g4]
 by_cases c6:c.2.2.1=6
 · rw [dF c1,dF c2,dF c3,dF c4,dF c5,dT c6]
   obtain ⟨nb',B',g1,g2,hE⟩:=aD5 c.2.2.2.2.2.2.2.2.2.2.2.2.1 C.t cl nt nb T nh nw B M H W p2 (by omega)
   refine ⟨_,_,cl,nt,nb',T,nh,nw,B',H,W,⟨p1,g1,p3,p4,rfl⟩,.inr ⟨nl,?_,?_⟩,.bind hE (.from 0 fun k=>rfl)⟩
   · unfold oneP; rw [if_neg c1,if_neg c2,if_neg c3,if_neg c4,if_neg c5,if_pos c6]
   · unfold oneP; rw [if_neg c1,if_neg c2,if_neg c3,if_neg c4,if_neg c5,if_pos c6,g2]
 by_cases c7:c.2.2.1=7
 · rw [dF c1,dF c2,dF c3,dF c4,dF c5,dF c6,dT c7]
   refine ⟨tabR (B.take nb),_,cl,nt,nb,T,nh,nw,B,H,W,⟨p1,p2,p3,p4,rfl⟩,.inr ⟨nl,?_,?_⟩,.bind (aBn I.ts (by omega) p2) (.from 0 fun k=>rfl)⟩
   · unfold oneP; rw [if_neg c1,if_neg c2,if_neg c3,if_neg c4,if_neg c5,if_neg c6,if_pos c7]
   · unfold oneP; rw [if_neg c1,if_neg c2,if_neg c3,if_neg c4,if_neg c5,if_neg c6,if_pos c7]
 · rw [dF c1,dF c2,dF c3,dF c4,dF c5,dF c6,dF c7]
   refine ⟨errR 1,_,cl,nt,nb,T,nh,nw,B,H,W,⟨p1,p2,p3,p4,rfl⟩,.inr ⟨nl,?_,?_⟩,.from 0 fun k=>?_⟩
   · unfold oneP; rw [if_neg c1,if_neg c2,if_neg c3,if_neg c4,if_neg c5,if_neg c6,if_neg c7]
   · unfold oneP; rw [if_neg c1,if_neg c2,if_neg c3,if_neg c4,if_neg c5,if_neg c6,if_neg c7]
   · rw [aeJ]; rfl
def awO (M:Mp) (c:Cm):Option Rs:=if c.1=0 then none else match ada (.int .u64) M c.1 with
 | none=>none
 | some w=>if w.1 < c.2.1 then none else if w.1=c.2.1 then some w.2.1 else some (errR 1)
def axQ (M:Mp) (c:Cm) (r:Rs):Mp:=if c.1=0 then M else setM (.int .u64) M c.1 (c.2.1,(r,()))
def doR (c:Cm) (S:MS) (M:Mp) (r:Rs) (S':MS) (M':Mp):Prop :=
 (awO M c=some r∧S'=S∧M'=M)∨(awO M c=none∧oneR c S r S'∧M'=axQ M c r)
theorem aEP {c:Cm} (C:smC c) {S:MS} {n:Nat} (I:MI S n) (hn:n≤80) {cl:Int} {nt nb:Nat} {T:List Sx} {nh nw:Nat} {B:List Tb} (M:Mp) {H W:List Lk} (P:Rp S cl nt nb T nh nw B H W) :
 ∃ r S' M' cl' nt' nb' T' nh' nw' B' H' W',Rp S' cl' nt' nb' T' nh' nw' B' H' W'∧doR c S M r S' M'∧Ev (fun k=>acw k c cl nt nb T nh nw true B M H W) (mout r cl' nt' nb' T' nh' nw' B' M' H' W'):=by
 obtain ⟨r,S',cl',nt',nb',T',nh',nw',B',H',W',P',R,hE⟩:=aF1 C I hn M P
 obtain ⟨K,hK⟩:=hE.sh
 have go:awO M c=none→∃ r S' M' cl' nt' nb' T' nh' nw' B' H' W',Rp S' cl' nt' nb' T' nh' nw' B' H' W'∧doR c S M r S' M'∧∀ k,K≤k→((adn (k+1) c cl nt nb T nh nw true B M H W).bind fun r3=>(bif (!decide (c.1=0)) then abI (k+1) r3.2.1.1 r3.2.1.2.1 r3.2.1.2.2.2.1 r3.2.2.2.1.1 r3.2.2.2.1.2.1 r3.2.2.2.1.2.2.1 (setM (.int .u64) r3.2.2.2.2.2.1.1 c.1 (c.2.1,(r3.1,()))) (0:Int) (0:Int) (0:Int) false [] [] [] r3.1.1 r3.1.2.1 r3.1.2.2.1 r3.1.2.2.2.1 r3.1.2.2.2.2.1 r3.1.2.2.2.2.2.1 r3.1.2.2.2.2.2.2.1 r3.2.2.2.2.2.2.2.2.2.1.1 r3.2.2.2.2.2.2.2.2.2.2.1.1 r3.2.2.2.2.2.2.2.2.2.2.2.1.1 r3.2.2.2.2.2.2.2.2.2.2.2.2.1.1 else abI (k+1) r3.2.1.1 r3.2.1.2.1 r3.2.1.2.2.2.1 r3.2.2.2.1.1 r3.2.2.2.1.2.1 r3.2.2.2.1.2.2.1 r3.2.2.2.2.2.1.1 (0:Int) (0:Int) (0:Int) false [] [] [] r3.1.1 r3.1.2.1 r3.1.2.2.1 r3.1.2.2.2.1 r3.1.2.2.2.2.1 r3.1.2.2.2.2.2.1 r3.1.2.2.2.2.2.2.1 r3.2.2.2.2.2.2.2.2.2.1.1 r3.2.2.2.2.2.2.2.2.2.2.1.1 r3.2.2.2.2.2.2.2.2.2.2.2.1.1 r3.2.2.2.2.2.2.2.2.2.2.2.2.1.1))=some (mout r cl' nt' nb' T' nh' nw' B' M' H' W'):=fun ht=>by
  refine ⟨r,S',axQ M c r,cl',nt',nb',T',nh',nw',B',H',W',P',.inr ⟨ht,R,rfl⟩,fun k hk=>?_⟩
  rw [show adn (k+1) c cl nt nb T nh nw true B M H W=_ from hK k hk,Option.bind_some]
  by_cases c0:c.1=0
  · rw [dT c0,show axQ M c r=M from if_pos c0]
    exact akH ..
  · rw [dF c0,show axQ M c r=setM (.int .u64) M c.1 (c.2.1,(r,())) from if_neg c0]
    exact akH ..
 by_cases c0:c.1=0
 · obtain ⟨r,S',M',cl',nt',nb',T',nh',nw',B',H',W',P',R,hG⟩:=go (by unfold awO; rw [if_pos c0])
   refine ⟨r,S',M',cl',nt',nb',T',nh',nw',B',H',W',P',R,.up ⟨K,fun k hk=>?_⟩⟩
   show acw (k+1) _ _ _ _ _ _ _ _ _ _ _ _=_
   rw [afG,acY,Option.bind_some,← hG k hk]
   conv=>lhs; rw [dT c0]
   conv=>rhs; rw [dT c0]
   rfl
 have td:awO M c=(match ada (.int .u64) M c.1 with
  | none=>none
  | some w=>if w.1 < c.2.1 then none else if w.1=c.2.1 then some w.2.1 else some (errR 1)):=by unfold awO; rw [if_neg c0]
 cases hm:ada (.int .u64) M c.1 with
 | none =>
   obtain ⟨r,S',M',cl',nt',nb',T',nh',nw',B',H',W',P',R,hG⟩:=go (by rw [td,hm])
   refine ⟨r,S',M',cl',nt',nb',T',nh',nw',B',H',W',P',R,.up ⟨K,fun k hk=>?_⟩⟩
   show acw (k+1) _ _ _ _ _ _ _ _ _ _ _ _=_
   rw [afG,acY,Option.bind_some,← hG k hk,dF c0,hm]
   rfl
 | some w =>
   by_cases w1:w.1 < c.2.1
   · obtain ⟨r,S',M',cl',nt',nb',T',nh',nw',B',H',W',P',R,hG⟩:=go (by rw [td,hm]; simp only [if_pos w1])
     refine ⟨r,S',M',cl',nt',nb',T',nh',nw',B',H',W',P',R,.up ⟨K,fun k hk=>?_⟩⟩
     show acw (k+1) _ _ _ _ _ _ _ _ _ _ _ _=_
     rw [afG,acY,Option.bind_some,← hG k hk,dF c0,hm]
     simp only [Option.getD_some,dT w1]
     rfl
   · by_cases w2:w.1=c.2.1
     · refine ⟨w.2.1,S,M,cl,nt,nb,T,nh,nw,B,H,W,P,.inl ⟨by rw [td,hm]; simp only [if_neg w1,if_pos w2],rfl,rfl⟩,.from 1 fun k=>?_⟩
       rw [afG,acY,Option.bind_some,dF c0,hm]
       simp only [Option.getD_some,dF w1,dT w2]
       rfl
     · refine ⟨errR 1,S,M,cl,nt,nb,T,nh,nw,B,H,W,P,.inl ⟨by rw [td,hm]; simp only [if_neg w1,if_neg w2],rfl,rfl⟩,.from 1 fun k=>?_⟩
       rw [afG,acY,Option.bind_some,dF c0,hm]
       simp only [Option.getD_some,dF w1,dF w2]
       rfl
theorem MI.mono {S:MS} {n m:Nat} (I:MI S n) (h:n≤m):MI S m:=⟨I.c0,by have:=I.c1; omega,by have:=I.tl; omega,by have:=I.bl; omega,⟨by have:=I.L.h; omega,by have:=I.L.w; omega,I.L.sh,I.L.sw⟩,I.ts⟩
theorem aEO (T:List Sx) (cl n:Int) (f:Bool):cl≤(decP T cl n f).2.1∧(decP T cl n f).2.1≤cl+1∧(decP T cl n f).2.2.length=T.length:=by
 unfold decP
 cases txP T n with
 | none=>exact ⟨Int.le_refl _,by show cl≤cl+1; omega,rfl⟩
 | some s =>
   dsimp only
   split
   · cases f with
     | true=>exact ⟨by show cl≤cl+1; omega,Int.le_refl _,List.length_set⟩
     | false=>exact ⟨Int.le_refl _,by show cl≤cl+1; omega,List.length_set⟩
   · exact ⟨Int.le_refl _,by show cl≤cl+1; omega,rfl⟩
theorem aFp (B:List Tb) (t:Tb):(tabP B t).2=B∨(tabP B t).2=B++[newT B.length t]:=by
 unfold tabP
 cases ayR t with
 | false=>exact .inl rfl
 | true =>
   cases B.any fun y=>beqL y.2.1 t.2.1 with
   | true=>exact .inl rfl
   | false =>
     cases decide (40≤B.length) with
     | true=>exact .inl rfl
     | false=>exact .inr rfl
theorem MI.one {c:Cm} (C:smC c) {S:MS} {n:Nat} (I:MI S n) {r:Rs} {S':MS} (R:oneR c S r S'):MI S' (n+1):=by
 have J:=I.mono (Nat.le_succ n)
 have c0:=I.c0
 have c1:=I.c1
 have tl:=I.tl
 rcases R with ⟨_,b,e,hs',ws',R,_,rfl⟩ | ⟨_,_,rfl⟩
 · exact ⟨J.c0,J.c1,J.tl,J.bl,I.L.ask C.l R,J.ts⟩
 · unfold oneP
   split
   · exact ⟨J.c0,J.c1,by simp; omega,J.bl,J.L,J.ts⟩
   split
   · obtain ⟨d1,d2,d3⟩:=aEO S.T S.cl c.2.2.2.1 c.2.2.2.2.2.1
     exact ⟨by show 0≤(decP S.T S.cl c.2.2.2.1 c.2.2.2.2.2.1).2.1; omega,by show (decP S.T S.cl c.2.2.2.1 c.2.2.2.2.2.1).2.1≤((n+1:Nat):Int); omega,by show (decP S.T S.cl c.2.2.2.1 c.2.2.2.2.2.1).2.2.length≤n+1; omega,J.bl,J.L,J.ts⟩
   split
   · exact J
   split
   · exact J
   split
   · exact ⟨J.c0,J.c1,J.tl,J.bl,I.L.free _,J.ts⟩
   split
   · have bl:=I.bl
     rcases aFp S.B c.2.2.2.2.2.2.2.2.2.2.2.2.1 with h | h
     · exact ⟨J.c0,J.c1,J.tl,by simp only [h]; omega,J.L,by simp only [h]; exact J.ts⟩
     · refine ⟨J.c0,J.c1,J.tl,by simp only [h,List.length_append,List.length_singleton]; omega,J.L,?_⟩
       simp only [h]
       intro t ht
       rcases List.mem_append.1 ht with ht | ht
       · exact I.ts t ht
       · rw [List.mem_singleton] at ht; subst ht; exact azJ C.t
   split
   · exact J
   · exact J
theorem MI.do {c:Cm} (C:smC c) {S:MS} {n:Nat} (I:MI S n) {M:Mp} {r:Rs} {S':MS} {M':Mp} (R:doR c S M r S' M'):MI S' (n+1):=by
 rcases R with ⟨_,rfl,_⟩ | ⟨_,R,_⟩
 · exact I.mono (Nat.le_succ n)
 · exact I.one C R
theorem MI.new : MI ⟨0,[],[],[],[]⟩ 0:=⟨Int.le_refl _,Int.le_refl _,Nat.le_refl _,Nat.le_refl _,⟨Nat.le_refl _,Nat.le_refl _,nofun,nofun⟩,nofun⟩
theorem Rp.new : Rp ⟨0,[],[],[],[]⟩ 0 0 0 [] 0 0 [] [] []:=⟨Nat.le_refl _,Nat.le_refl _,Nat.le_refl _,Nat.le_refl _,rfl⟩
abbrev aGj := Int×(Int×(Int×((List Int)×((List Int)×Unit))))
abbrev WrD := (List Int)×(Bool×((List Int)×Unit))
abbrev ColD := (List Int)×(Int×(Bool×Unit))
abbrev TabD := Int×((List Int)×((List ColD)×(Int×((List Int)×Unit))))
abbrev CmdD := Int×(Int×(Int×(Int×(Int×(Bool×(aGj×((List Int)×((List Int)×((List Int)×((List WrD)×((List (List Int))×(TabD×Unit))))))))))))
def sW (x:WrD):Bool:=decide (x.1.length+x.2.2.1.length≤300)
def sK (x:List Int):Bool:=decide (x.length≤100)
def sCo (x:ColD):Bool:=decide (x.1.length≤100)
def sC (c:CmdD):Bool:=decide (c.2.2.2.2.2.2.2.1.length+c.2.2.2.2.2.2.2.2.1.length+c.2.2.2.2.2.2.1.2.2.2.1.length+c.2.2.2.2.2.2.1.2.2.2.2.1.length≤200)&&(decide (c.2.2.2.2.2.2.2.2.2.1.length≤10)&&(decide (c.2.2.2.2.2.2.2.2.2.2.1.length≤10) &&
 (decide (c.2.2.2.2.2.2.2.2.2.2.2.1.length≤10)&&(decide (c.2.2.2.2.2.2.2.2.2.2.2.2.1.2.2.1.length≤14)&&(decide (c.2.2.2.2.2.2.2.2.2.2.2.2.1.2.2.2.2.1.length≤6)&&(decide (c.2.2.2.2.2.2.2.2.2.2.2.2.1.2.1.length≤100) &&
 (c.2.2.2.2.2.2.2.2.2.2.1.all sW&&(c.2.2.2.2.2.2.2.2.2.2.2.1.all sK&&c.2.2.2.2.2.2.2.2.2.2.2.2.1.2.2.1.all sCo))))))))
theorem aGb (k n:Nat)(v108:(List (Int×(Int×(Int×(Int×(Int×(Bool×((Int×(Int×(Int×((List Int)×((List Int)×Unit)))))×((List Int)×((List Int)×((List Int)×((List ((List Int)×(Bool×((List Int)×Unit))))×((List (List Int))×((Int×((List Int)×((List ((List Int)×(Int×(Bool×Unit))))×(Int×((List Int)×Unit)))))×Unit)))))))))))))))(v109:(List (Int×(Int×(Int×(Int×(Int×(Bool×((Int×(Int×(Int×((List Int)×((List Int)×Unit)))))×((List Int)×((List Int)×((List Int)×((List ((List Int)×(Bool×((List Int)×Unit))))×((List (List Int))×((Int×((List Int)×((List ((List Int)×(Int×(Bool×Unit))))×(Int×((List Int)×Unit)))))×Unit)))))))))))))))(v110:Int)(v111:Int)(v112:(List Int))(v113:Int)(v114:Bool)(v115:(List ((List Int)×(Bool×((List Int)×Unit)))))(v116:Int)(v117:Bool)(v118:(List (List Int)))(v119:Int)(v120:Bool)(v121:(List ((List Int)×(Int×(Bool×Unit)))))(v122:Int)(v123:Bool)(v124:(List Int))(v125:Int)(v126:Bool)(v127:(List Int))(v128:Int)(v129:Bool)(v130:(List ((List Int)×(Int×(Bool×Unit)))))(v133:Int)(v134:Int)(v135:Int)(v136:Int)(v137:Int)(v138:Bool)(v139:Int)(v140:Int)(v141:Int)(v142:(List Int))(v143:(List Int))(v144:(List Int))(v145:(List Int))(v146:(List Int))(v147:(List ((List Int)×(Bool×((List Int)×Unit)))))(v148:(List (List Int)))(v149:Int)(v150:(List Int))(v151:(List ((List Int)×(Int×(Bool×Unit)))))(v152:Int)(v153:(List Int)) (hm:v130.length≤9223372036854775807) (hq:∀ x∈v130,(sCo x=true→decide (100 < (x.1.length:Int))=false)∧(¬ sCo x=true→decide (100 < (x.1.length:Int))=true)):∀ n1 j,j≤v130.length→v130.length - j < n1 →
 ag7 k n n1 v108 v109 v110 v111 v112 v113 v114 v115 v116 v117 v118 v119 v120 v121 v122 v123 v124 v125 v126 v127 v128 v129 v130 (v130.length:Int) (j:Int) v133 v134 v135 v136 v137 v138 v139 v140 v141 v142 v143 v144 v145 v146 v147 v148 v149 v150 v151 v152 v153=bif (v130.drop j).all sCo then ag5 k n v108 v109 v110 (wr .i64 (v111+1)) else some (false,())
 | 0,_,_,h=>absurd h (Nat.not_lt_zero _)
 | n1+1,j,hj,hn=>by
   rw [atS]
   by_cases c:j < v130.length
   · have hx:=List.getElem?_eq_getElem c
     rw [bt (by omega),ab0 hx,Option.bind_some,List.drop_eq_getElem_cons c,List.all_cons]
     have hb:=hq v130[j] (List.getElem_mem c)
     by_cases c1:sCo v130[j]=true
     · rw [c1,Bool.true_and,hb.1 c1,cond_false,anL (by omega)]
       exact aGb k n v108 v109 v110 v111 v112 v113 v114 v115 v116 v117 v118 v119 v120 v121 v122 v123 v124 v125 v126 v127 v128 v129 v130 v133 v134 v135 v136 v137 v138 v139 v140 v141 v142 v143 v144 v145 v146 v147 v148 v149 v150 v151 v152 v153 hm hq n1 (j+1) c (by omega)
     · rw [Bool.eq_false_iff.2 c1,Bool.false_and,hb.2 c1]; rfl
   · have:j=v130.length:=by omega
     subst this
     rw [bf (by omega),List.drop_length]; rfl
theorem aGa (k n:Nat)(v61:(List (Int×(Int×(Int×(Int×(Int×(Bool×((Int×(Int×(Int×((List Int)×((List Int)×Unit)))))×((List Int)×((List Int)×((List Int)×((List ((List Int)×(Bool×((List Int)×Unit))))×((List (List Int))×((Int×((List Int)×((List ((List Int)×(Int×(Bool×Unit))))×(Int×((List Int)×Unit)))))×Unit)))))))))))))))(v62:(List (Int×(Int×(Int×(Int×(Int×(Bool×((Int×(Int×(Int×((List Int)×((List Int)×Unit)))))×((List Int)×((List Int)×((List Int)×((List ((List Int)×(Bool×((List Int)×Unit))))×((List (List Int))×((Int×((List Int)×((List ((List Int)×(Int×(Bool×Unit))))×(Int×((List Int)×Unit)))))×Unit)))))))))))))))(v63:Int)(v64:Int)(v65:(List Int))(v66:Int)(v67:Bool)(v68:(List ((List Int)×(Bool×((List Int)×Unit)))))(v69:Int)(v70:Bool)(v71:(List (List Int)))(v72:Int)(v73:Bool)(v74:(List ((List Int)×(Int×(Bool×Unit)))))(v75:Int)(v76:Bool)(v77:(List Int))(v78:Int)(v79:Bool)(v80:(List Int))(v81:Int)(v82:Bool)(v83:(List (List Int)))(v86:Int)(v87:Int)(v88:Int)(v89:Int)(v90:Int)(v91:Bool)(v92:Int)(v93:Int)(v94:Int)(v95:(List Int))(v96:(List Int))(v97:(List Int))(v98:(List Int))(v99:(List Int))(v100:(List ((List Int)×(Bool×((List Int)×Unit)))))(v101:(List (List Int)))(v102:Int)(v103:(List Int))(v104:(List ((List Int)×(Int×(Bool×Unit)))))(v105:Int)(v106:(List Int)) (hm:v83.length≤9223372036854775807) (hq:∀ x∈v83,(sK x=true→decide (100 < (x.length:Int))=false)∧(¬ sK x=true→decide (100 < (x.length:Int))=true)):∀ n1 j,j≤v83.length→v83.length - j < n1 →
 ag6 k n n1 v61 v62 v63 v64 v65 v66 v67 v68 v69 v70 v71 v72 v73 v74 v75 v76 v77 v78 v79 v80 v81 v82 v83 (v83.length:Int) (j:Int) v86 v87 v88 v89 v90 v91 v92 v93 v94 v95 v96 v97 v98 v99 v100 v101 v102 v103 v104 v105 v106=bif (v83.drop j).all sK then ag7 k n k v61 v62 v63 v64 v65 v66 v67 v68 v69 v70 v71 v72 v73 v74 v75 v76 v77 v78 v79 v80 v81 v82 v104 (v104.length:Int) (0:Int) v86 v87 v88 v89 v90 v91 v92 v93 v94 v95 v96 v97 v98 v99 v100 v101 v102 v103 v104 v105 v106 else some (false,())
 | 0,_,_,h=>absurd h (Nat.not_lt_zero _)
 | n1+1,j,hj,hn=>by
   rw [atQ]
   by_cases c:j < v83.length
   · have hx:=List.getElem?_eq_getElem c
     rw [bt (by omega),ab0 hx,Option.bind_some,List.drop_eq_getElem_cons c,List.all_cons]
     have hb:=hq v83[j] (List.getElem_mem c)
     by_cases c1:sK v83[j]=true
     · rw [c1,Bool.true_and,hb.1 c1,cond_false,anL (by omega)]
       exact aGa k n v61 v62 v63 v64 v65 v66 v67 v68 v69 v70 v71 v72 v73 v74 v75 v76 v77 v78 v79 v80 v81 v82 v83 v86 v87 v88 v89 v90 v91 v92 v93 v94 v95 v96 v97 v98 v99 v100 v101 v102 v103 v104 v105 v106 hm hq n1 (j+1) c (by omega)
     · rw [Bool.eq_false_iff.2 c1,Bool.false_and,hb.2 c1]; rfl
   · have:j=v83.length:=by omega
     subst this
     rw [bf (by omega),List.drop_length]; rfl
theorem aF_ (k n:Nat)(v14:(List (Int×(Int×(Int×(Int×(Int×(Bool×((Int×(Int×(Int×((List Int)×((List Int)×Unit)))))×((List Int)×((List Int)×((List Int)×((List ((List Int)×(Bool×((List Int)×Unit))))×((List (List Int))×((Int×((List Int)×((List ((List Int)×(Int×(Bool×Unit))))×(Int×((List Int)×Unit)))))×Unit)))))))))))))))(v15:(List (Int×(Int×(Int×(Int×(Int×(Bool×((Int×(Int×(Int×((List Int)×((List Int)×Unit)))))×((List Int)×((List Int)×((List Int)×((List ((List Int)×(Bool×((List Int)×Unit))))×((List (List Int))×((Int×((List Int)×((List ((List Int)×(Int×(Bool×Unit))))×(Int×((List Int)×Unit)))))×Unit)))))))))))))))(v16:Int)(v17:Int)(v18:(List Int))(v19:Int)(v20:Bool)(v21:(List ((List Int)×(Bool×((List Int)×Unit)))))(v22:Int)(v23:Bool)(v24:(List (List Int)))(v25:Int)(v26:Bool)(v27:(List ((List Int)×(Int×(Bool×Unit)))))(v28:Int)(v29:Bool)(v30:(List Int))(v31:Int)(v32:Bool)(v33:(List Int))(v34:Int)(v35:Bool)(v36:(List ((List Int)×(Bool×((List Int)×Unit)))))(v39:Int)(v40:Int)(v41:Int)(v42:Int)(v43:Int)(v44:Bool)(v45:Int)(v46:Int)(v47:Int)(v48:(List Int))(v49:(List Int))(v50:(List Int))(v51:(List Int))(v52:(List Int))(v53:(List ((List Int)×(Bool×((List Int)×Unit)))))(v54:(List (List Int)))(v55:Int)(v56:(List Int))(v57:(List ((List Int)×(Int×(Bool×Unit)))))(v58:Int)(v59:(List Int)) (hm:v36.length≤9223372036854775807) (hq:∀ x∈v36,(sW x=true→decide (300 < (wr .i64 ((x.1.length:Int)+(x.2.2.1.length:Int))))=false)∧(¬ sW x=true→decide (300 < (wr .i64 ((x.1.length:Int)+(x.2.2.1.length:Int))))=true)):∀ n1 j,j≤v36.length→v36.length - j < n1 →
 air k n n1 v14 v15 v16 v17 v18 v19 v20 v21 v22 v23 v24 v25 v26 v27 v28 v29 v30 v31 v32 v33 v34 v35 v36 (v36.length:Int) (j:Int) v39 v40 v41 v42 v43 v44 v45 v46 v47 v48 v49 v50 v51 v52 v53 v54 v55 v56 v57 v58 v59=bif (v36.drop j).all sW then ag6 k n k v14 v15 v16 v17 v18 v19 v20 v21 v22 v23 v24 v25 v26 v27 v28 v29 v30 v31 v32 v33 v34 v35 v54 (v54.length:Int) (0:Int) v39 v40 v41 v42 v43 v44 v45 v46 v47 v48 v49 v50 v51 v52 v53 v54 v55 v56 v57 v58 v59 else some (false,())
 | 0,_,_,h=>absurd h (Nat.not_lt_zero _)
 | n1+1,j,hj,hn=>by
   rw [atP]
   by_cases c:j < v36.length
   · have hx:=List.getElem?_eq_getElem c
     rw [bt (by omega),ab0 hx,Option.bind_some,List.drop_eq_getElem_cons c,List.all_cons]
     have hb:=hq v36[j] (List.getElem_mem c)
     by_cases c1:sW v36[j]=true
     · rw [c1,Bool.true_and,hb.1 c1,cond_false,anL (by omega)]
       exact aF_ k n v14 v15 v16 v17 v18 v19 v20 v21 v22 v23 v24 v25 v26 v27 v28 v29 v30 v31 v32 v33 v34 v35 v36 v39 v40 v41 v42 v43 v44 v45 v46 v47 v48 v49 v50 v51 v52 v53 v54 v55 v56 v57 v58 v59 hm hq n1 (j+1) c (by omega)
     · rw [Bool.eq_false_iff.2 c1,Bool.false_and,hb.2 c1]; rfl
   · have:j=v36.length:=by omega
     subst this
     rw [bf (by omega),List.drop_length]; rfl
def RB : Nat:=140737488351232
structure SzC (x:CmdD):Prop where
 lo:x.2.2.2.2.2.2.2.1.length≤RB
 hi:x.2.2.2.2.2.2.2.2.1.length≤RB
 llo:x.2.2.2.2.2.2.1.2.2.2.1.length≤RB
 lhi:x.2.2.2.2.2.2.1.2.2.2.2.1.length≤RB
 wr:∀ w∈x.2.2.2.2.2.2.2.2.2.2.1,w.1.length≤RB∧w.2.2.1.length≤RB
 wl:x.2.2.2.2.2.2.2.2.2.2.1.length≤9223372036854775807
 kl:x.2.2.2.2.2.2.2.2.2.2.2.1.length≤9223372036854775807
 cl:x.2.2.2.2.2.2.2.2.2.2.2.2.1.2.2.1.length≤9223372036854775807
theorem aA2 (k:Nat) (hk:20≤k) (l:List CmdD) (hm:l.length≤9223372036854775807) (hz:∀ x∈l,SzC x):∀ n j,j≤l.length→l.length - j < n →
 ag5 k n l l (l.length:Int) (j:Int)=some ((l.drop j).all sC&&decide (l.length≤40),())
 | 0,_,_,h=>absurd h (Nat.not_lt_zero _)
 | n+1,j,hj,hn=>by
   rw [atO]
   by_cases c:j < l.length
   · have hx:=List.getElem?_eq_getElem c
     rw [bt (by omega),ab0 hx,Option.bind_some,List.drop_eq_getElem_cons c,List.all_cons]
     have hzx:=hz l[j] (List.getElem_mem c)
     have ih:=aA2 k hk l hm hz n (j+1) c (by omega)
     generalize l[j]=x at hzx
     have z1:=hzx.lo; have z2:=hzx.hi; have z3:=hzx.llo; have z4:=hzx.lhi
     unfold RB at z1 z2 z3 z4
     rw [anL (n:=(x.2.2.2.2.2.2.2.1.length:Int)+(x.2.2.2.2.2.2.2.2.1.length:Int)) (by omega),anL (n:=(x.2.2.2.2.2.2.2.1.length:Int)+(x.2.2.2.2.2.2.2.2.1.length:Int)+(x.2.2.2.2.2.2.1.2.2.2.1.length:Int)) (by omega),anL (by omega)]
     by_cases c0:x.2.2.2.2.2.2.2.1.length+x.2.2.2.2.2.2.2.2.1.length+x.2.2.2.2.2.2.1.2.2.2.1.length+x.2.2.2.2.2.2.1.2.2.2.2.1.length≤200
     rotate_left
     · rw [bt (by omega),show sC x=false from by simp only [sC,dF c0,Bool.false_and]]; rfl
     rw [bf (by omega)]
     by_cases c1:x.2.2.2.2.2.2.2.2.2.1.length≤10
     rotate_left
     · rw [bt (by omega),show sC x=false from by simp only [sC,dF c1,Bool.false_and,Bool.and_false]]; rfl
     rw [bf (by omega)]
     by_cases c2:x.2.2.2.2.2.2.2.2.2.2.1.length≤10
     rotate_left
     · rw [bt (by omega),show sC x=false from by simp only [sC,dF c2,Bool.false_and,Bool.and_false]]; rfl
     rw [bf (by omega)]
     by_cases c3:x.2.2.2.2.2.2.2.2.2.2.2.1.length≤10
     rotate_left
     · rw [bt (by omega),show sC x=false from by simp only [sC,dF c3,Bool.false_and,Bool.and_false]]; rfl
     rw [bf (by omega)]
     by_cases c4:x.2.2.2.2.2.2.2.2.2.2.2.2.1.2.2.1.length≤14
     rotate_left
     · rw [bt (by omega),show sC x=false from by simp only [sC,dF c4,Bool.false_and,Bool.and_false]]; rfl
     rw [bf (by omega)]
     by_cases c5:x.2.2.2.2.2.2.2.2.2.2.2.2.1.2.2.2.2.1.length≤6
     rotate_left
     · rw [bt (by omega),show sC x=false from by simp only [sC,dF c5,Bool.false_and,Bool.and_false]]; rfl
     rw [bf (by omega)]
     by_cases c6:x.2.2.2.2.2.2.2.2.2.2.2.2.1.2.1.length≤100
     rotate_left
     · rw [bt (by omega),show sC x=false from by simp only [sC,dF c6,Bool.false_and,Bool.and_false]]; rfl
     rw [bf (by omega)]
     have hs:sC x=(x.2.2.2.2.2.2.2.2.2.2.1.all sW&&(x.2.2.2.2.2.2.2.2.2.2.2.1.all sK&&x.2.2.2.2.2.2.2.2.2.2.2.2.1.2.2.1.all sCo)):=by simp only [sC,dT c0,dT c1,dT c2,dT c3,dT c4,dT c5,dT c6,Bool.true_and]
     rw [hs]
     refine (aF_ k n _ _ _ _ _ _ _ _ _ _ _ _ _ _ _ _ _ _ _ _ _ _ _ _ _ _ _ _ _ _ _ _ _ _ _ _ _ _ _ _ _ _ _ _ hzx.wl (fun w hw=>?_) k 0 (by omega) (by omega)).trans ?_
     · have hw:=hzx.wr w (by simpa using hw)
       unfold RB at hw
       unfold sW
       rw [anL (by omega),decide_eq_true_eq,decide_eq_false_iff_not,decide_eq_true_eq]
       constructor <;> omega
     rw [List.drop_zero]
     by_cases d1:x.2.2.2.2.2.2.2.2.2.2.1.all sW=true
     rotate_left
     · rw [Bool.eq_false_iff.2 d1]; rfl
     rw [d1,cond_true,Bool.true_and]
     refine (aGa k n _ _ _ _ _ _ _ _ _ _ _ _ _ _ _ _ _ _ _ _ _ _ _ _ _ _ _ _ _ _ _ _ _ _ _ _ _ _ _ _ _ _ _ _ hzx.kl (fun w hw=>?_) k 0 (by omega) (by omega)).trans ?_
     · unfold sK
       rw [decide_eq_true_eq,decide_eq_false_iff_not,decide_eq_true_eq]
       constructor <;> omega
     rw [List.drop_zero]
     by_cases d2:x.2.2.2.2.2.2.2.2.2.2.2.1.all sK=true
     rotate_left
     · rw [Bool.eq_false_iff.2 d2]; rfl
     rw [d2,cond_true,Bool.true_and]
     refine (aGb k n _ _ _ _ _ _ _ _ _ _ _ _ _ _ _ _ _ _ _ _ _ _ _ _ _ _ _ _ _ _ _ _ _ _ _ _ _ _ _ _ _ _ _ _ hzx.cl (fun w hw=>?_) k 0 (by omega) (by omega)).trans ?_
     · unfold sCo
       rw [decide_eq_true_eq,decide_eq_false_iff_not,decide_eq_true_eq]
       constructor <;> omega
     rw [List.drop_zero]
     by_cases d3:x.2.2.2.2.2.2.2.2.2.2.2.2.1.2.2.1.all sCo=true
     rotate_left
     · rw [Bool.eq_false_iff.2 d3]; rfl
     rw [d3,cond_true,Bool.true_and,anL (by omega)]
     exact ih
   · have:j=l.length:=by omega
     subst this
     rw [bf (by omega),List.drop_length,List.all_nil,Bool.true_and]
     congr 2
     exact decide_eq_decide.2 (by omega)
theorem aA1 {l:List CmdD} (hm:l.length≤9223372036854775807) (hz:∀ x∈l,SzC x):Ev (fun k=>agK k l) (l.all sC&&decide (l.length≤40),()):=by
 refine ⟨l.length+20,fun k hk=>?_⟩
 show agK k l=_
 rw [awy]
 exact aA2 k (by omega) l hm hz k 0 (by omega) (by omega)
structure SmC (x:CmdD):Prop where
 t:x.2.2.2.2.2.2.2.1.length+x.2.2.2.2.2.2.2.2.1.length+x.2.2.2.2.2.2.1.2.2.2.1.length+x.2.2.2.2.2.2.1.2.2.2.2.1.length≤200
 tx:x.2.2.2.2.2.2.2.2.2.1.length≤10
 wr:x.2.2.2.2.2.2.2.2.2.2.1.length≤10
 ky:x.2.2.2.2.2.2.2.2.2.2.2.1.length≤10
 co:x.2.2.2.2.2.2.2.2.2.2.2.2.1.2.2.1.length≤14
 ix:x.2.2.2.2.2.2.2.2.2.2.2.2.1.2.2.2.2.1.length≤6
 na:x.2.2.2.2.2.2.2.2.2.2.2.2.1.2.1.length≤100
 ws:∀ w∈x.2.2.2.2.2.2.2.2.2.2.1,w.1.length+w.2.2.1.length≤300
 ks:∀ w∈x.2.2.2.2.2.2.2.2.2.2.2.1,w.length≤100
 cs:∀ w∈x.2.2.2.2.2.2.2.2.2.2.2.2.1.2.2.1,w.1.length≤100
theorem aF5 {x:CmdD} (h:sC x=true):SmC x:=by
 simp only [sC,Bool.and_eq_true,decide_eq_true_eq,List.all_eq_true,sW,sK,sCo] at h
 obtain ⟨h0,h1,h2,h3,h4,h5,h6,h7,h8,h9⟩:=h
 exact ⟨h0,h1,h2,h3,h4,h5,h6,h7,h8,h9⟩
theorem aEG (k:Nat):amg k=some (true,()):=by
 simp only [awA,avZ,avH,Option.bind_some,aqZ,acY,aqa]
 rfl
abbrev CT : Ty:=(.st (.pair (.int .u64) (.pair (.int .u64) (.pair (.int .i64) (.pair (.int .u64) (.pair (.int .u64) (.pair .bool (.pair (.st (.pair (.int .u64) (.pair (.int .i64) (.pair (.int .i64) (.pair (.sl (.int .u8)) (.pair (.sl (.int .u8)) .unit)))))) (.pair (.sl (.int .u8)) (.pair (.sl (.int .u8)) (.pair (.sl (.int .u64)) (.pair (.sl (.st (.pair (.sl (.int .u8)) (.pair .bool (.pair (.sl (.int .u8)) .unit))))) (.pair (.sl (.sl (.int .u8))) (.pair (.st (.pair (.int .i64) (.pair .str (.pair (.sl (.st (.pair .str (.pair (.int .i64) (.pair .bool .unit))))) (.pair (.int .i64) (.pair (.sl (.int .i64)) .unit)))))) .unit))))))))))))))
theorem aEy {c:CmdD} (h:szD CT c) (f:wfD CT c):SzC c:=by
 obtain ⟨_,_,_,_,_,_,⟨_,_,_,b4,b5,_⟩,a8,a9,_,a11,a12,⟨_,_,t3,_⟩,_⟩:=h
 obtain ⟨_,_,_,_,_,_,_,_,_,_,f11,f12,⟨_,_,f3,_⟩,_⟩:=f
 exact ⟨a8.1 rfl,a9.1 rfl,b4.1 rfl,b5.1 rfl,fun x hx=>⟨(a11.2 x hx).1.1 rfl,(a11.2 x hx).2.2.1.1 rfl⟩,f11.1,f12.1,f3.1⟩
theorem w64 {n:Int} (h:(Lit.int .u64 n).wf=true):0≤n∧n < 18446744073709551616:=by
 have:=aGh h
 exact ⟨this.1,by omega⟩
theorem aEx {c:CmdD} (f:wfD CT c) (h:SmC c):smC c:=by
 obtain ⟨_,_,_,a4,_,_,_,_,_,a10,_⟩:=f
 have h1:=h.t
 have h2:=h.tx
 have h3:=h.co
 have h4:=h.ix
 exact ⟨w64 a4,⟨by unfold lkP; dsimp only; omega,by unfold lkP; dsimp only; omega⟩,fun n hn=>w64 (a10.2 n hn),by omega,⟨by omega,by omega⟩⟩
theorem aF9 {l:List CmdD} (f:wfD (.sl CT) l) (h:(l.all sC&&decide (l.length≤40))=true):l.length≤40∧∀ c∈l,smC c:=by
 rw [Bool.and_eq_true,decide_eq_true_eq,List.all_eq_true] at h
 exact ⟨h.2,fun c hc=>aEx (f.2 c hc) (aF5 (h.1 c hc))⟩
theorem aC9 {l:List CmdD} (f:wfD (.sl CT) l) (z:szD (.sl CT) l):Ev (fun k=>agK k l) (l.all sC&&decide (l.length≤40),()) :=
 have h1:l.length≤maxLen:=f.1
 have h2:maxLen=9223372036854775807:=by decide
 aA1 (by omega) fun x hx=>aEy (z.2 x hx) (f.2 x hx)
theorem all2 {α ρ:Type} {L:Nat→Nat→Nat→Int→Option ρ} {p:Nat→α→α→Option (Bool×Unit)} {a b:List α} {F:ρ} {G:Nat→Nat→Option ρ} (hl:a.length=b.length)
 (hp:∀ x∈a,∀ y∈b,∃ c,Ev (fun k=>p k x y) (c,())∧(c=true↔x=y))
 (hs:∀ k n0 n (j:Nat) x y,j < a.length→a[j]?=some x→b[j]?=some y→L k n0 (n+1) (j:Int)=(p k x y).bind fun r=>bif !r.1 then some F else L k n0 n ((j+1:Nat):Int))
 (hd:∀ k n0 n,L k n0 (n+1) (a.length:Int)=G k n0):∀ d j,j+d=a.length →
 (a.drop j=b.drop j∧∀ r,Ev2 G r→Ev3 (fun k n0 n=>L k n0 n (j:Int)) r)∨(a.drop j≠b.drop j∧Ev3 (fun k n0 n=>L k n0 n (j:Int)) F):=by
 intro d
 induction d with
 | zero =>
   intro j hj
   have:j=a.length:=by omega
   subst this
   refine .inl ⟨by rw [List.drop_length,hl,List.drop_length],fun r ⟨K,hK⟩=>.up ⟨K,fun k n0 n h1 h2 _=>?_⟩⟩
   show L k n0 (n+1) _=_
   rw [hd]; exact hK k n0 h1 h2
 | succ d ih =>
   intro j hj
   have h1:j < a.length:=by omega
   have h2:j < b.length:=by omega
   have hx:=List.getElem?_eq_getElem h1
   have hy:=List.getElem?_eq_getElem h2
   obtain ⟨c,⟨K,hK⟩,hc⟩:=hp a[j] (List.getElem_mem h1) b[j] (List.getElem_mem h2)
   rw [List.drop_eq_getElem_cons h1,List.drop_eq_getElem_cons h2]
   cases c with
   | false =>
     refine .inr ⟨fun e=>?_,.up ⟨K,fun k n0 n a1 _ _=>?_⟩⟩
     · rw [List.cons.injEq] at e
       exact absurd (hc.2 e.1) (by simp)
     · show L k n0 (n+1) _=_
       rw [hs k n0 n j _ _ h1 hx hy,show p k a[j] b[j]=_ from hK k a1]; rfl
   | true =>
     have e:a[j]=b[j]:=hc.1 rfl
     have up:∀ r,Ev3 (fun k n0 n=>L k n0 n ((j+1:Nat):Int)) r→Ev3 (fun k n0 n=>L k n0 n (j:Int)) r:=fun r ⟨K2,h⟩=>.up ⟨Nat.max K K2,fun k n0 n a1 a2 a3=>by
        show L k n0 (n+1) _=_
        rw [hs k n0 n j _ _ h1 hx hy,show p k a[j] b[j]=_ from hK k (Nat.le_trans (Nat.le_max_left ..) a1)]
        exact h k n0 n (Nat.le_trans (Nat.le_max_right ..) a1) (Nat.le_trans (Nat.le_max_right ..) a2) (Nat.le_trans (Nat.le_max_right ..) a3)⟩
     rcases ih (j+1) (by omega) with ⟨h,h'⟩ | ⟨h,h'⟩
     · exact .inl ⟨by rw [e,h],fun r hr=>up r (h' r hr)⟩
     · exact .inr ⟨fun c=>h (by rw [List.cons.injEq] at c; exact c.2),up F h'⟩
theorem ayh {α:Type} {L:Nat→Nat→Int→Option (Bool×Unit)} {p:Nat→α→α→Option (Bool×Unit)} {a b:List α} (hl:a.length=b.length)
 (hp:∀ x∈a,∀ y∈b,∃ c,Ev (fun k=>p k x y) (c,())∧(c=true↔x=y))
 (hs:∀ k n (j:Nat) x y,j < a.length→a[j]?=some x→b[j]?=some y→L k (n+1) (j:Int)=(p k x y).bind fun r=>bif !r.1 then some (false,()) else L k n ((j+1:Nat):Int))
 (hd:∀ k n,L k (n+1) (a.length:Int)=some (true,())):∃ c,Ev (fun k=>L k k (0:Int)) (c,())∧(c=true↔a=b):=by
 rcases all2 (L:=fun k _ n j=>L k n j) (G:=fun _ _=>some (true,())) hl hp (fun k _ n=>hs k n) (fun k _ n=>hd k n) a.length 0 (Nat.zero_add _) with ⟨e,h⟩ | ⟨e,h⟩
 · obtain ⟨K,hK⟩:=h _ .ret
   exact ⟨true,⟨K,fun k hk=>hK k k k hk hk hk⟩,⟨fun _=>e,fun _=>rfl⟩⟩
 · obtain ⟨K,hK⟩:=h
   exact ⟨false,⟨K,fun k hk=>hK k k k hk hk hk⟩,⟨nofun,fun h=>absurd (by rw [h]) e⟩⟩
theorem awC {α:Type} {a b:List α} {X:Nat→Option (Bool×Unit)} (h:a.length=b.length→∃ c,Ev X (c,())∧(c=true↔a=b)) :
 ∃ c,Ev (fun k=>bif (!decide ((a.length:Int)=(b.length:Int))) then some (false,()) else X k) (c,())∧(c=true↔a=b):=by
 by_cases e:a.length=b.length
 · rw [dT (show (a.length:Int)=(b.length:Int) by omega)]; exact h e
 · rw [dF (show ¬ (a.length:Int)=(b.length:Int) by omega)]
   exact ⟨false,.from 0 fun _=>rfl,⟨nofun,fun h=>absurd (by rw [h]) e⟩⟩
theorem wr_j {α:Type} {a:List α} {j:Nat} (h:j < a.length) (hm:a.length≤9223372036854775807):wr .i64 ((j:Int)+1)=((j+1:Nat):Int):=by rw [anL (by omega)]; omega
theorem ain (a b:List Int):beqL a b=true↔a=b:=by simp [beqL]
theorem asm (a b:Bool):beqB a b=true↔a=b:=by simp [beqB]
theorem alj {X Y:Prop} {b:Bool} {f:Nat→Option (Bool×Unit)} (hb:b=true↔X) (h:X→∃ c,Ev f (c,())∧(c=true↔Y)):∃ c,Ev (fun k=>bif b then f k else some (false,())) (c,())∧(c=true↔X∧Y):=by
 cases b with
 | true =>
   obtain ⟨c,h1,h2⟩:=h (hb.1 rfl)
   exact ⟨c,h1,⟨fun c=>⟨hb.1 rfl,h2.1 c⟩,fun c=>h2.2 c.2⟩⟩
 | false=>exact ⟨false,.from 0 fun _=>rfl,⟨nofun,fun h=>(by have:=hb.2 h.1; cases this)⟩⟩
theorem at4 {X Y:Prop} {b:Bool} {f:Nat→Option (Bool×Unit)} (hb:b=true↔X) (h:X→∃ c,Ev f (c,())∧(c=true↔Y)):∃ c,Ev (fun k=>bif (!b) then some (false,()) else f k) (c,())∧(c=true↔X∧Y):=by
 have e:(fun k=>bif (!b) then some (false,()) else f k)=fun k=>bif b then f k else some (false,()):=by cases b <;> rfl
 rw [e]; exact alj hb h
theorem arA {X Y:Prop} {g:Nat→Option (Bool×Unit)} {f:Nat→Option (Bool×Unit)} (hg:∃ b,Ev g (b,())∧(b=true↔X)) (h:X→∃ c,Ev f (c,())∧(c=true↔Y)) :
 ∃ c,Ev (fun k=>(g k).bind fun r=>bif r.1 then f k else some (false,())) (c,())∧(c=true↔X∧Y):=by
 obtain ⟨b,h1,h2⟩:=hg
 obtain ⟨c,h3,h4⟩:=alj h2 h
 exact ⟨c,.bind h1 h3,h4⟩
theorem aGi {X Y:Prop} {g:Nat→Option (Bool×Unit)} {f:Nat→Option (Bool×Unit)} (hg:∃ b,Ev g (b,())∧(b=true↔X)) (h:X→∃ c,Ev f (c,())∧(c=true↔Y)) :
 ∃ c,Ev (fun k=>(g k).bind fun r=>bif (!r.1) then some (false,()) else f k) (c,())∧(c=true↔X∧Y):=by
 obtain ⟨b,h1,h2⟩:=hg
 obtain ⟨c,h3,h4⟩:=at4 h2 h
 exact ⟨c,.bind h1 h3,h4⟩
theorem atM {X:Prop} {g:Nat→Option (Bool×Unit)} (hg:∃ b,Ev g (b,())∧(b=true↔X)):∃ c,Ev (fun k=>(g k).bind fun r=>some (r.1,())) (c,())∧(c=true↔X):=by
 obtain ⟨b,h1,h2⟩:=hg
 exact ⟨b,.bind h1 (.from 0 fun _=>rfl),h2⟩
theorem awZ {X Y:Prop} {g:Nat→Option (Bool×Unit)} (h:X↔Y) (hg:∃ b,Ev g (b,())∧(b=true↔X)):∃ b,Ev g (b,())∧(b=true↔Y):=by
 obtain ⟨b,h1,h2⟩:=hg
 exact ⟨b,h1,h2.trans h⟩
theorem arp {X:Prop} {b:Bool} (h:b=true↔X):∃ c,Ev (fun _=>some (b,())) (c,())∧(c=true↔X):=⟨b,.ret,h⟩
abbrev ClT : Ty:=.st (.pair .str (.pair (.int .i64) (.pair .bool .unit)))
theorem ayp (x y:Cl):Ty.decEq ClT x y=true↔x=y:=by
 obtain ⟨a,b,c,⟨⟩⟩:=x
 obtain ⟨a',b',c',⟨⟩⟩:=y
 show (beqL a a'&&(beqI b b'&&(beqB c c'&&true)))=true↔_
 simp [beqL,beqI,beqB]
abbrev SxT : Ty:=.st (.pair (.int .u64) (.pair (.int .i64) (.pair (.int .u64) .unit)))
theorem ayq (x y:Sx):Ty.decEq SxT x y=true↔x=y:=by
 obtain ⟨a,b,c,⟨⟩⟩:=x
 obtain ⟨a',b',c',⟨⟩⟩:=y
 show (beqI a a'&&(beqI b b'&&(beqI c c'&&true)))=true↔_
 simp [beqI]
theorem aFI {a b:List Sx} (hm:a.length≤9223372036854775807):∃ c,Ev (fun k=>acV k a b) (c,())∧(c=true↔a=b):=by
 simp only [alf]
 refine awC fun e=>ayh (L:=fun k n j=>ab9 k n a b (a.length:Int) j) (p:=fun _ (x y:Sx)=>some (Ty.decEq SxT x y,())) e (fun x _ y _=>arp (ayq x y)) (fun k n j x y hj hx hy=>?_) fun k n=>?_
 · refine (agf ..).trans ?_
   rw [bt (by omega),ab0 hx,Option.bind_some,ab0 hy,wr_j hj hm]; rfl
 · refine (agf ..).trans ?_
   rw [bf (by omega)]
theorem aFF {a b:List Cl} (hm:a.length≤9223372036854775807):∃ c,Ev (fun k=>aeA k a b) (c,())∧(c=true↔a=b):=by
 simp only [ao7]
 refine awC fun e=>ayh (L:=fun k n j=>adM k n a b (a.length:Int) j) (p:=fun _ (x y:Cl)=>some (Ty.decEq ClT x y,())) e (fun x _ y _=>arp (ayp x y)) (fun k n j x y hj hx hy=>?_) fun k n=>?_
 · refine (aib ..).trans ?_
   rw [bt (by omega),ab0 hx,Option.bind_some,ab0 hy,wr_j hj hm]; rfl
 · refine (aib ..).trans ?_
   rw [bf (by omega)]
theorem aFG {a b:List Int} (hm:a.length≤9223372036854775807):∃ c,Ev (fun k=>adW k a b) (c,())∧(c=true↔a=b):=by
 simp only [anX]
 refine awC fun e=>ayh (L:=fun k n j=>adh k n a b (a.length:Int) j) (p:=fun _ x y=>some (decide (x=y),())) e (fun x _ y _=>arp decide_eq_true_iff) (fun k n j x y hj hx hy=>?_) fun k n=>?_
 · refine (aht ..).trans ?_
   rw [bt (by omega),ab0 hx,Option.bind_some,ab0 hy,wr_j hj hm]; rfl
 · refine (aht ..).trans ?_
   rw [bf (by omega)]
theorem aFH {a b:List (List Int)} (hm:a.length≤9223372036854775807):∃ c,Ev (fun k=>aao k a b) (c,())∧(c=true↔a=b):=by
 simp only [adK]
 refine awC fun e=>ayh (L:=fun k n j=>aai k n b a (a.length:Int) j) (p:=fun k x y=>agJ k x y) e (fun x _ y _=>by simp only [akk]; exact arp (ain x y)) (fun k n j x y hj hx hy=>?_) fun k n=>?_
 · refine (abA ..).trans ?_
   rw [bt (by omega),ab0 hx,Option.bind_some,ab0 hy,Option.bind_some,wr_j hj hm]
 · refine (abA ..).trans ?_
   rw [bf (by omega)]
def okV (v:Vs):Prop:=v.2.2.2.2.1.length≤9223372036854775807
theorem aEh {a b:Vs} (hm:okV a):∃ c,Ev (fun k=>aeq k a b) (c,())∧(c=true↔a=b):=by
 simp only [ar3,akk]
 refine awZ ?_ (alj decide_eq_true_iff fun _=>alj decide_eq_true_iff fun _=>alj (asm _ _) fun _=>arA (arp (ain _ _)) fun _=>atM (aFH hm))
 obtain ⟨a1,a2,a3,a4,a5,⟨⟩⟩:=a
 obtain ⟨b1,b2,b3,b4,b5,⟨⟩⟩:=b
 simp
theorem aET {a b:List Vs} (hm:a.length≤9223372036854775807) (hv:∀ x∈a,okV x):∃ c,Ev (fun k=>aah k a b) (c,())∧(c=true↔a=b):=by
 simp only [ado]
 refine awC fun e=>ayh (L:=fun k n j=>aaf k n b a (a.length:Int) j) (p:=fun k x y=>aeq k x y) e (fun x hx y _=>aEh (hv x hx)) (fun k n j x y hj hx hy=>?_) fun k n=>?_
 · refine (abm ..).trans ?_
   rw [bt (by omega),ab0 hx,Option.bind_some,ab0 hy,Option.bind_some,wr_j hj hm]
 · refine (abm ..).trans ?_
   rw [bf (by omega)]
structure okCe (c:Ce):Prop where
 l:c.2.1.length≤9223372036854775807
 v:∀ x∈c.2.1,okV x
 i:okV c.2.2.1
theorem aER {a b:Ce} (hm:okCe a):∃ c,Ev (fun k=>ahU k a b) (c,())∧(c=true↔a=b):=by
 simp only [au4,akk]
 refine awZ ?_ (arA (arp (ain _ _)) fun _=>arA (aEh hm.i) fun _=>atM (aET hm.l hm.v))
 obtain ⟨a1,a2,a3,⟨⟩⟩:=a
 obtain ⟨b1,b2,b3,⟨⟩⟩:=b
 simp [and_comm]
theorem aDz {a b:List Ce} (hm:a.length≤9223372036854775807) (hv:∀ x∈a,okCe x):∃ c,Ev (fun k=>aaC k a b) (c,())∧(c=true↔a=b):=by
 simp only [aeE]
 refine awC fun e=>ayh (L:=fun k n j=>aau k n b a (a.length:Int) j) (p:=fun k x y=>ahU k x y) e (fun x hx y _=>aER (hv x hx)) (fun k n j x y hj hx hy=>?_) fun k n=>?_
 · refine (ab4 ..).trans ?_
   rw [bt (by omega),ab0 hx,Option.bind_some,ab0 hy,Option.bind_some,wr_j hj hm]
 · refine (ab4 ..).trans ?_
   rw [bf (by omega)]
structure okT (t:Tb):Prop where
 c:t.2.2.1.length≤9223372036854775807
 i:t.2.2.2.2.1.length≤9223372036854775807
theorem aFJ {a b:Tb} (hm:okT a):∃ c,Ev (fun k=>ag8 k a b) (c,())∧(c=true↔a=b):=by
 simp only [at2]
 refine awZ ?_ (alj decide_eq_true_iff fun _=>alj (ain _ _) fun _=>alj decide_eq_true_iff fun _=>arA (aFF hm.c) fun _=>atM (aFG hm.i))
 obtain ⟨a1,a2,a3,a4,a5,⟨⟩⟩:=a
 obtain ⟨b1,b2,b3,b4,b5,⟨⟩⟩:=b
 simp
 intro _ _
 exact ⟨fun ⟨a,b,c⟩=>⟨b,a,c⟩,fun ⟨a,b,c⟩=>⟨b,a,c⟩⟩
theorem aES {a b:List Tb} (hm:a.length≤9223372036854775807) (hv:∀ x∈a,okT x):∃ c,Ev (fun k=>aas k a b) (c,())∧(c=true↔a=b):=by
 simp only [ad8]
 refine awC fun e=>ayh (L:=fun k n j=>aap k n b a (a.length:Int) j) (p:=fun k x y=>ag8 k x y) e (fun x hx y _=>aFJ (hv x hx)) (fun k n j x y hj hx hy=>?_) fun k n=>?_
 · refine (abR ..).trans ?_
   rw [bt (by omega),ab0 hx,Option.bind_some,ab0 hy,Option.bind_some,wr_j hj hm]
 · refine (abR ..).trans ?_
   rw [bf (by omega)]
structure okR (r:Rs):Prop where
 s:r.2.2.2.2.1.length≤9223372036854775807
 c:r.2.2.2.2.2.1.length≤9223372036854775807
 ce:∀ x∈r.2.2.2.2.2.1,okCe x
 t:r.2.2.2.2.2.2.1.length≤9223372036854775807
 tb:∀ x∈r.2.2.2.2.2.2.1,okT x
theorem aCU {a b:Rs} (hm:okR a):∃ c,Ev (fun k=>agu k a b) (c,())∧(c=true↔a=b):=by
 simp only [as8]
 refine awZ ?_ (alj decide_eq_true_iff fun _=>alj decide_eq_true_iff fun _=>alj decide_eq_true_iff fun _=>alj (asm _ _) fun _=>arA (aFI hm.s) fun _=>arA (aDz hm.c hm.ce) fun _=>atM (aES hm.t hm.tb))
 obtain ⟨a1,a2,a3,a4,a5,a6,a7,⟨⟩⟩:=a
 obtain ⟨b1,b2,b3,b4,b5,b6,b7,⟨⟩⟩:=b
 simp
theorem aGl {α:Type} {L:Nat→Nat→Int→Option (Bool×Unit)} {a b:List α} {G:Nat→Nat→Option (Bool×Unit)} (hl:a.length=b.length)
 (hs:∀ (j:Nat) x y,j < a.length→a[j]?=some x→b[j]?=some y→(x=y∧∀ r,Ev2 (fun k n=>L k n ((j+1:Nat):Int)) r→Ev2 (fun k n=>L k (n+1) (j:Int)) r)∨(x≠y∧Ev2 (fun k n=>L k (n+1) (j:Int)) (false,())))
 (hd:∀ k n,L k (n+1) (a.length:Int)=G k n):∀ d j,j+d=a.length →
 (a.drop j=b.drop j∧∀ r,Ev2 G r→Ev2 (fun k n=>L k n (j:Int)) r)∨(a.drop j≠b.drop j∧Ev2 (fun k n=>L k n (j:Int)) (false,())):=by
 intro d
 induction d with
 | zero =>
   intro j hj
   have:j=a.length:=by omega
   subst this
   refine .inl ⟨by rw [List.drop_length,hl,List.drop_length],fun r ⟨K,hK⟩=>.up ⟨K,fun k n h1 h2=>?_⟩⟩
   show L k (n+1) _=_
   rw [hd]; exact hK k n h1 h2
 | succ d ih =>
   intro j hj
   have h1:j < a.length:=by omega
   have h2:j < b.length:=by omega
   rw [List.drop_eq_getElem_cons h1,List.drop_eq_getElem_cons h2]
   rcases hs j _ _ h1 (List.getElem?_eq_getElem h1) (List.getElem?_eq_getElem h2) with ⟨e,h⟩ | ⟨e,h⟩
   · rcases ih (j+1) (by omega) with ⟨h3,h4⟩ | ⟨h3,h4⟩
     · exact .inl ⟨by rw [e,h3],fun r hr=>.up (h r (h4 r hr))⟩
     · exact .inr ⟨fun c=>h3 (by rw [List.cons.injEq] at c; exact c.2),.up (h _ h4)⟩
   · exact .inr ⟨fun c=>e (by rw [List.cons.injEq] at c; exact c.1),.up h⟩
theorem aFu {α:Type} {L:Nat→Nat→Int→Option (Bool×Unit)} {a b:List α} (hl:a.length=b.length)
 (hs:∀ (j:Nat) x y,j < a.length→a[j]?=some x→b[j]?=some y→(x=y∧∀ r,Ev2 (fun k n=>L k n ((j+1:Nat):Int)) r→Ev2 (fun k n=>L k (n+1) (j:Int)) r)∨(x≠y∧Ev2 (fun k n=>L k (n+1) (j:Int)) (false,())))
 (hd:∀ k n,L k (n+1) (a.length:Int)=some (true,())):∃ c,Ev (fun k=>L k k (0:Int)) (c,())∧(c=true↔a=b):=by
 rcases aGl hl hs hd a.length 0 (Nat.zero_add _) with ⟨e,h⟩ | ⟨e,h⟩
 · exact ⟨true,(h _ .ret).dg,⟨fun _=>e,fun _=>rfl⟩⟩
 · exact ⟨false,h.dg,⟨nofun,fun h=>absurd (by rw [h]) e⟩⟩
theorem aCQ {a b:List (List Int)} (hm:a.length≤9223372036854775807):∃ c,Ev (fun k=>ahG k a b) (c,())∧(c=true↔a=b):=by
 simp only [atj]
 refine awC fun e=>ayh (L:=fun k n j=>afL k n a b (a.length:Int) j) (p:=fun _ x y=>some (beqL x y,())) e (fun x _ y _=>arp (ain x y)) (fun k n j x y hj hx hy=>?_) fun k n=>?_
 · refine (akT ..).trans ?_
   rw [bt (by omega),ab0 hx,Option.bind_some,ab0 hy,wr_j hj hm]; rfl
 · refine (akT ..).trans ?_
   rw [bf (by omega)]
theorem aCR {a b:Vs} (hm:okV a):∃ c,Ev (fun k=>abr k a b) (c,())∧(c=true↔a=b):=by
 simp only [aq8]
 refine awZ ?_ (alj decide_eq_true_iff fun _=>alj decide_eq_true_iff fun _=>alj (asm _ _) fun _=>alj (ain _ _) fun _=>atM (aCQ hm))
 obtain ⟨a1,a2,a3,a4,a5,⟨⟩⟩:=a
 obtain ⟨b1,b2,b3,b4,b5,⟨⟩⟩:=b
 simp
theorem aGr (v13:(List D8_))(v14:(List D8_))(v15:Int)(v16:Int)(v17:Int)(v18:(List D8_))(v19:Int)(v20:D8_)(v21:D6_)(v22:D6_)(v23:(List D8_))(v24:Int)(v25:D8_)(v26:D6_)(v27:D6_)(v28:Bool)(v29:Bool)(v30:(List D8_))(v31:Int)(v32:D8_)(v33:(List D6_))(v34:(List D6_))(v35:Int)(v36:(List D8_))(v37:Int)(v38:D8_)(v39:(List D6_))(v40:(List D6_))(v41:Int)(v42:Bool) {x y:Ce} (hx:nth v13 v15=some x) (hy:nth v14 v15=some y) (hm:okCe x) (hl:x.2.1.length=y.2.1.length) :
 (x.2.1=y.2.1∧∀ r,Ev2 (fun k n=>acZ k n v13 v14 v16 (wr .i64 (v17+1))) r→Ev2 (fun k n=>(fun j=>ack k n k v13 v14 v15 v16 v17 v18 v19 v20 v21 v22 v23 v24 v25 v26 v27 v28 v29 v30 v31 v32 v33 v34 v35 v36 v37 v38 v39 v40 v41 v42 (x.2.1.length:Int) j) (0:Int)) r)∨(x.2.1≠y.2.1∧Ev2 (fun k n=>(fun j=>ack k n k v13 v14 v15 v16 v17 v18 v19 v20 v21 v22 v23 v24 v25 v26 v27 v28 v29 v30 v31 v32 v33 v34 v35 v36 v37 v38 v39 v40 v41 v42 (x.2.1.length:Int) j) (0:Int)) (false,())):=by
 have H:=all2 (L:=fun k n0 n j=>ack k n0 n v13 v14 v15 v16 v17 v18 v19 v20 v21 v22 v23 v24 v25 v26 v27 v28 v29 v30 v31 v32 v33 v34 v35 v36 v37 v38 v39 v40 v41 v42 (x.2.1.length:Int) j) (p:=fun k x y=>abr k x y) (F:=(false,())) (G:=fun k n=>acZ k n v13 v14 v16 (wr .i64 (v17+1))) hl (fun u hu w _=>aCR (hm.v u hu))
  (fun k n0 n j u w hj hu hw=>by
   refine (akU ..).trans ?_
   rw [bt (by omega),hx,Option.bind_some,ab0 hu,Option.bind_some,hy,Option.bind_some,ab0 hw,Option.bind_some,wr_j hj hm.l])
  (fun k n0 n=>by
   refine (akU ..).trans ?_
   rw [bf (by omega)]) x.2.1.length 0 (Nat.zero_add _)
 rcases H with ⟨e,h⟩ | ⟨e,h⟩
 · exact .inl ⟨e,fun r hr=>(h r hr).dg⟩
 · exact .inr ⟨e,h.dg⟩
theorem aCL {a b:List Ce} (hm:a.length≤9223372036854775807) (hv:∀ x∈a,okCe x):∃ c,Ev (fun k=>agw k a b) (c,())∧(c=true↔a=b):=by
 simp only [atl]
 refine awC fun e=>aFu (L:=fun k n j=>acZ k n a b (a.length:Int) j) e (fun j x y hj hx hy=>?_) fun k n=>?_
 · have nx:=ab0 hx
   have ny:=ab0 hy
   have ok:=hv x (List.mem_of_getElem? hx)
   by_cases e1:x.1=y.1
   rotate_left
   · refine .inr ⟨fun e=>e1 (by rw [e]),0,fun k n _ _=>?_⟩
     refine (aeb ..).trans ?_
     rw [bt (by omega),nx,Option.bind_some,ny,Option.bind_some,show beqL x.1 y.1=false from by rw [Bool.eq_false_iff]; exact fun h=>e1 ((ain _ _).1 h)]; rfl
   have q1:beqL x.1 y.1=true:=(ain _ _).2 e1
   obtain ⟨c,⟨K,hK⟩,hc⟩:=aCR (b:=y.2.2.1) ok.i
   cases c with
   | false =>
     refine .inr ⟨fun e=>(by have:=hc.2 (by rw [e]); cases this),K,fun k n hk _=>?_⟩
     refine (aeb ..).trans ?_
     rw [bt (by omega),nx,Option.bind_some,ny,Option.bind_some,q1]
     show ((abr k x.2.2.1 y.2.2.1).bind _)=_
     rw [show abr k x.2.2.1 y.2.2.1=_ from hK k hk]; rfl
   | true =>
     have e2:=hc.1 rfl
     by_cases e3:x.2.1.length=y.2.1.length
     rotate_left
     · refine .inr ⟨fun e=>e3 (by rw [e]),K,fun k n hk _=>?_⟩
       refine (aeb ..).trans ?_
       rw [bt (by omega),nx,Option.bind_some,ny,Option.bind_some,q1]
       show ((abr k x.2.2.1 y.2.2.1).bind _)=_
       rw [show abr k x.2.2.1 y.2.2.1=_ from hK k hk]
       show (bif !decide ((x.2.1.length:Int)=(y.2.1.length:Int)) then _ else _)=_
       rw [dF (show ¬ (x.2.1.length:Int)=(y.2.1.length:Int) by omega)]; rfl
     have step:∀ r,Ev2 (fun k n=>ack k n k a b (j:Int) (a.length:Int) (j:Int) a (j:Int) x x.2.2.1 x.2.2.1 b (j:Int) y y.2.2.1 y.2.2.1 true (!true) a (j:Int) x x.2.1 x.2.1 (x.2.1.length:Int) b (j:Int) y y.2.1 y.2.1 (y.2.1.length:Int) (!true) (x.2.1.length:Int) (0:Int)) r →
      Ev2 (fun k n=>acZ k (n+1) a b (a.length:Int) (j:Int)) r:=fun r ⟨K2,h2⟩=>⟨Nat.max K K2,fun k n hk hn=>by
        refine (aeb ..).trans ?_
        rw [bt (by omega),nx,Option.bind_some,ny,Option.bind_some,q1]
        show ((abr k x.2.2.1 y.2.2.1).bind _)=_
        rw [show abr k x.2.2.1 y.2.2.1=_ from hK k (Nat.le_trans (Nat.le_max_left ..) hk)]
        show (bif !decide ((x.2.1.length:Int)=(y.2.1.length:Int)) then _ else ack k n k a b (j:Int) (a.length:Int) (j:Int) a (j:Int) x x.2.2.1 x.2.2.1 b (j:Int) y y.2.2.1 y.2.2.1 true (!true) a (j:Int) x x.2.1 x.2.1 (x.2.1.length:Int) b (j:Int) y y.2.1 y.2.1 (y.2.1.length:Int) (!decide ((x.2.1.length:Int)=(y.2.1.length:Int))) (x.2.1.length:Int) (0:Int))=_
        rw [dT (show (x.2.1.length:Int)=(y.2.1.length:Int) by omega)]
        exact h2 k n (Nat.le_trans (Nat.le_max_right ..) hk) (Nat.le_trans (Nat.le_max_right ..) hn)⟩
     rcases aGr a b (j:Int) (a.length:Int) (j:Int) a (j:Int) x x.2.2.1 x.2.2.1 b (j:Int) y y.2.2.1 y.2.2.1 true (!true) a (j:Int) x x.2.1 x.2.1 (x.2.1.length:Int) b (j:Int) y y.2.1 y.2.1 (y.2.1.length:Int) (!true) nx ny ok e3 with ⟨h,h'⟩ | ⟨h,h'⟩
     · refine .inl ⟨?_,fun r hr=>step r (h' r ?_)⟩
       · obtain ⟨x1,x2,x3,⟨⟩⟩:=x
         obtain ⟨y1,y2,y3,⟨⟩⟩:=y
         simp only at e1 e2 h
         rw [e1,e2,h]
       · rw [wr_j hj hm]; exact hr
     · exact .inr ⟨fun e=>h (by rw [e]),step _ h'⟩
 · refine (aeb ..).trans ?_
   rw [bf (by omega)]
theorem aGt (v41:(List D7_))(v42:(List D7_))(v43:Int)(v44:Int)(v45:(List Int))(v46:(List Int))(v47:Bool)(v48:Int)(v49:Int)(v50:Bool)(v51:(List D2_))(v52:Int)(v53:(List D2_))(v54:Int)(v55:Bool)(v56:(List Int))(v57:Int)(v58:(List Int))(v59:Int)(v60:Bool)(v63:Int)(v64:(List Int))(v65:(List D2_))(v66:Int)(v67:(List Int))(v68:Int)(v69:(List Int))(v70:(List D2_))(v71:Int)(v72:(List Int)) (hm:v67.length≤9223372036854775807) (hl:v67.length=v72.length) :
 (v67=v72∧∀ r,Ev2 (fun k n=>abP k n v41 v42 v43 (wr .i64 (v44+1))) r→Ev2 (fun k n=>(fun j=>ab2 k n k v41 v42 v43 v44 v45 v46 v47 v48 v49 v50 v51 v52 v53 v54 v55 v56 v57 v58 v59 v60 (v67.length:Int) j v63 v64 v65 v66 v67 v68 v69 v70 v71 v72) (0:Int)) r)∨(v67≠v72∧Ev2 (fun k n=>(fun j=>ab2 k n k v41 v42 v43 v44 v45 v46 v47 v48 v49 v50 v51 v52 v53 v54 v55 v56 v57 v58 v59 v60 (v67.length:Int) j v63 v64 v65 v66 v67 v68 v69 v70 v71 v72) (0:Int)) (false,())):=by
 have H:=all2 (L:=fun k n0 n j=>ab2 k n0 n v41 v42 v43 v44 v45 v46 v47 v48 v49 v50 v51 v52 v53 v54 v55 v56 v57 v58 v59 v60 (v67.length:Int) j v63 v64 v65 v66 v67 v68 v69 v70 v71 v72) (p:=fun _ (x y:Int)=>some (decide (x=y),())) (F:=(false,())) (G:=fun k n=>abP k n v41 v42 v43 (wr .i64 (v44+1))) hl (fun u hu w _=>arp decide_eq_true_iff)
  (fun k n0 n j u w hj hu hw=>by
   refine (aj3 ..).trans ?_
   rw [bt (by omega),ab0 hu,Option.bind_some,ab0 hw,wr_j hj hm]; rfl)
  (fun k n0 n=>by
   refine (aj3 ..).trans ?_
   rw [bf (by omega)]) v67.length 0 (Nat.zero_add _)
 rcases H with ⟨e,h⟩ | ⟨e,h⟩
 · exact .inl ⟨e,fun r hr=>(h r hr).dg⟩
 · exact .inr ⟨e,h.dg⟩
theorem aGs (v7:(List D7_))(v8:(List D7_))(v9:Int)(v10:Int)(v11:(List Int))(v12:(List Int))(v13:Bool)(v14:Int)(v15:Int)(v16:Bool)(v17:(List D2_))(v18:Int)(v19:(List D2_))(v20:Int)(v21:Bool)(v22:(List Int))(v23:Int)(v24:(List Int))(v25:Int)(v26:Bool)(v29:Int)(v30:(List Int))(v31:(List D2_))(v32:Int)(v33:(List Int))(v34:Int)(v35:(List Int))(v36:(List D2_))(v37:Int)(v38:(List Int)) (hm:v31.length≤9223372036854775807) (hl:v31.length=v36.length) :
 (v31=v36∧∀ r,Ev2 (fun k n=>ab2 k n k v7 v8 v9 v10 v11 v12 v13 v14 v15 v16 v17 v18 v19 v20 v21 v22 v23 v24 v25 v26 (v33.length:Int) (0:Int) v29 v30 v31 v32 v33 v34 v35 v36 v37 v38) r→Ev2 (fun k n=>(fun j=>ab1 k n k v7 v8 v9 v10 v11 v12 v13 v14 v15 v16 v17 v18 v19 v20 v21 v22 v23 v24 v25 v26 (v31.length:Int) j v29 v30 v31 v32 v33 v34 v35 v36 v37 v38) (0:Int)) r)∨(v31≠v36∧Ev2 (fun k n=>(fun j=>ab1 k n k v7 v8 v9 v10 v11 v12 v13 v14 v15 v16 v17 v18 v19 v20 v21 v22 v23 v24 v25 v26 (v31.length:Int) j v29 v30 v31 v32 v33 v34 v35 v36 v37 v38) (0:Int)) (false,())):=by
 have H:=all2 (L:=fun k n0 n j=>ab1 k n0 n v7 v8 v9 v10 v11 v12 v13 v14 v15 v16 v17 v18 v19 v20 v21 v22 v23 v24 v25 v26 (v31.length:Int) j v29 v30 v31 v32 v33 v34 v35 v36 v37 v38) (p:=fun _ (x y:Cl)=>some (Ty.decEq ClT x y,())) (F:=(false,())) (G:=fun k n=>ab2 k n k v7 v8 v9 v10 v11 v12 v13 v14 v15 v16 v17 v18 v19 v20 v21 v22 v23 v24 v25 v26 (v33.length:Int) (0:Int) v29 v30 v31 v32 v33 v34 v35 v36 v37 v38) hl (fun u hu w _=>arp (ayp u w))
  (fun k n0 n j u w hj hu hw=>by
   refine (aj2 ..).trans ?_
   rw [bt (by omega),ab0 hu,Option.bind_some,ab0 hw,wr_j hj hm]; rfl)
  (fun k n0 n=>by
   refine (aj2 ..).trans ?_
   rw [bf (by omega)]) v31.length 0 (Nat.zero_add _)
 rcases H with ⟨e,h⟩ | ⟨e,h⟩
 · exact .inl ⟨e,fun r hr=>(h r hr).dg⟩
 · exact .inr ⟨e,h.dg⟩
theorem aDY {a b:List Tb} (hm:a.length≤9223372036854775807) (hv:∀ x∈a,okT x):∃ c,Ev (fun k=>afB k a b) (c,())∧(c=true↔a=b):=by
 simp only [ar_]
 refine awC fun e=>aFu (L:=fun k n j=>abP k n a b (a.length:Int) j) e (fun j x y hj hx hy=>?_) fun k n=>?_
 · have nx:=ab0 hx
   have ny:=ab0 hy
   have ok:=hv x (List.mem_of_getElem? hx)
   have bad:∀ {P:Prop},(x=y→False)→(∀ k n,abP k (n+1) a b (a.length:Int) (j:Int)=some (false,()))→(x=y∧P)∨(x≠y∧Ev2 (fun k n=>abP k (n+1) a b (a.length:Int) (j:Int)) (false,())):=fun h h2=>.inr ⟨h,0,fun k n _ _=>h2 k n⟩
   by_cases e1:x.1=y.1
   rotate_left
   · refine bad (fun e=>e1 (by rw [e])) fun k n=>?_
     refine (acj ..).trans ?_
     rw [bt (by omega),agC,nx,Option.bind_some,ny,Option.bind_some,dF e1]; rfl
   by_cases e2:x.2.1=y.2.1
   rotate_left
   · refine bad (fun e=>e2 (by rw [e])) fun k n=>?_
     refine (acj ..).trans ?_
     rw [bt (by omega),agC,nx,Option.bind_some,ny,Option.bind_some,dT e1,show beqL x.2.1 y.2.1=false from by rw [Bool.eq_false_iff]; exact fun h=>e2 ((ain _ _).1 h)]; rfl
   have q2:beqL x.2.1 y.2.1=true:=(ain _ _).2 e2
   by_cases e3:x.2.2.2.1=y.2.2.2.1
   rotate_left
   · refine bad (fun e=>e3 (by rw [e])) fun k n=>?_
     refine (acj ..).trans ?_
     rw [bt (by omega),agC,nx,Option.bind_some,ny,Option.bind_some,dT e1,q2,dF e3]; rfl
   by_cases e4:x.2.2.1.length=y.2.2.1.length
   rotate_left
   · refine bad (fun e=>e4 (by rw [e])) fun k n=>?_
     refine (acj ..).trans ?_
     rw [bt (by omega),agC,nx,Option.bind_some,ny,Option.bind_some,dT e1,q2,dT e3,dF (show ¬ (x.2.2.1.length:Int)=(y.2.2.1.length:Int) by omega)]; rfl
   by_cases e5:x.2.2.2.2.1.length=y.2.2.2.2.1.length
   rotate_left
   · refine bad (fun e=>e5 (by rw [e])) fun k n=>?_
     refine (acj ..).trans ?_
     rw [bt (by omega),agC,nx,Option.bind_some,ny,Option.bind_some,dT e1,q2,dT e3,dT (show (x.2.2.1.length:Int)=(y.2.2.1.length:Int) by omega),dF (show ¬ (x.2.2.2.2.1.length:Int)=(y.2.2.2.2.1.length:Int) by omega)]; rfl
   have step:∀ r,Ev2 (fun k n=>ab1 k n k a b (a.length:Int) (j:Int) x.2.1 y.2.1 (!true) x.2.2.2.1 y.2.2.2.1 (!true) x.2.2.1 (x.2.2.1.length:Int) y.2.2.1 (y.2.2.1.length:Int) (!true) x.2.2.2.2.1 (x.2.2.2.2.1.length:Int) y.2.2.2.2.1 (y.2.2.2.2.1.length:Int) (!true) (x.2.2.1.length:Int) (0:Int) x.1 x.2.1 x.2.2.1 x.2.2.2.1 x.2.2.2.2.1 y.1 y.2.1 y.2.2.1 y.2.2.2.1 y.2.2.2.2.1) r →
        Ev2 (fun k n=>abP k (n+1) a b (a.length:Int) (j:Int)) r:=fun r ⟨K2,h2⟩=>⟨K2,fun k n hk hn=>by
    refine (acj ..).trans ?_
    rw [bt (by omega),agC,nx,Option.bind_some,ny,Option.bind_some,dT e1,q2,dT e3,dT (show (x.2.2.1.length:Int)=(y.2.2.1.length:Int) by omega),dT (show (x.2.2.2.2.1.length:Int)=(y.2.2.2.2.1.length:Int) by omega)]
    exact h2 k n hk hn⟩
   rcases aGs a b (a.length:Int) (j:Int) x.2.1 y.2.1 (!true) x.2.2.2.1 y.2.2.2.1 (!true) x.2.2.1 (x.2.2.1.length:Int) y.2.2.1 (y.2.2.1.length:Int) (!true) x.2.2.2.2.1 (x.2.2.2.2.1.length:Int) y.2.2.2.2.1 (y.2.2.2.2.1.length:Int) (!true) x.1 x.2.1 x.2.2.1 x.2.2.2.1 x.2.2.2.2.1 y.1 y.2.1 y.2.2.1 y.2.2.2.1 y.2.2.2.2.1 ok.c e4 with ⟨h,h'⟩ | ⟨h,h'⟩
   · rcases aGt a b (a.length:Int) (j:Int) x.2.1 y.2.1 (!true) x.2.2.2.1 y.2.2.2.1 (!true) x.2.2.1 (x.2.2.1.length:Int) y.2.2.1 (y.2.2.1.length:Int) (!true) x.2.2.2.2.1 (x.2.2.2.2.1.length:Int) y.2.2.2.2.1 (y.2.2.2.2.1.length:Int) (!true) x.1 x.2.1 x.2.2.1 x.2.2.2.1 x.2.2.2.2.1 y.1 y.2.1 y.2.2.1 y.2.2.2.1 y.2.2.2.2.1 ok.i e5 with ⟨g,g'⟩ | ⟨g,g'⟩
     · refine .inl ⟨?_,fun r hr=>step r (h' r (g' r ?_))⟩
       · obtain ⟨x1,x2,x3,x4,x5,⟨⟩⟩:=x
         obtain ⟨y1,y2,y3,y4,y5,⟨⟩⟩:=y
         simp only at e1 e2 e3 h g
         rw [e1,e2,e3,h,g]
       · rw [wr_j hj hm]; exact hr
     · exact .inr ⟨fun e=>g (by rw [e]),step _ (h' _ g')⟩
   · exact .inr ⟨fun e=>h (by rw [e]),step _ h'⟩
 · refine (acj ..).trans ?_
   rw [bf (by omega)]
theorem aAU {a b:Rs} (hm:okR a):∃ c,Ev (fun k=>aer k a b) (c,())∧(c=true↔a=b):=by
 simp only [ar8]
 have tail:a.2.2.2.2.1.length=b.2.2.2.2.1.length→∃ c,Ev (fun k=>ad4 k k (a.2.2.2.2.1.length:Int) (0:Int) a.1 a.2.1 a.2.2.1 a.2.2.2.1 a.2.2.2.2.1 a.2.2.2.2.2.1 a.2.2.2.2.2.2.1 b.1 b.2.1 b.2.2.1 b.2.2.2.1 b.2.2.2.2.1 b.2.2.2.2.2.1 b.2.2.2.2.2.2.1) (c,())∧(c=true↔a.2.2.2.2.1=b.2.2.2.2.1∧(a.2.2.2.2.2.1=b.2.2.2.2.2.1∧a.2.2.2.2.2.2.1=b.2.2.2.2.2.2.1)):=fun hl=>by
  have H:=all2 (L:=fun k (_:Nat) n j=>ad4 k n (a.2.2.2.2.1.length:Int) j a.1 a.2.1 a.2.2.1 a.2.2.2.1 a.2.2.2.2.1 a.2.2.2.2.2.1 a.2.2.2.2.2.2.1 b.1 b.2.1 b.2.2.1 b.2.2.2.1 b.2.2.2.2.1 b.2.2.2.2.2.1 b.2.2.2.2.2.2.1) (p:=fun _ (x y:Sx)=>some (Ty.decEq SxT x y,())) (F:=(false,()))
   (G:=fun k _=>(agw k a.2.2.2.2.2.1 b.2.2.2.2.2.1).bind fun r=>bif r.1 then (afB k a.2.2.2.2.2.2.1 b.2.2.2.2.2.2.1).bind fun r=>some (r.1,()) else some (false,())) hl (fun u hu w _=>arp (ayq u w))
   (fun k _ n j u w hj hu hw=>by
        refine (aj1 ..).trans ?_
        rw [bt (by omega),ab0 hu,Option.bind_some,ab0 hw,wr_j hj hm.s]; rfl)
   (fun k _ n=>by
        refine (aj1 ..).trans ?_
        rw [bf (by omega)]) a.2.2.2.2.1.length 0 (Nat.zero_add _)
  rcases H with ⟨e,h⟩ | ⟨e,h⟩
  · obtain ⟨c,h1,h2⟩:=arA (aCL (b:=b.2.2.2.2.2.1) hm.c hm.ce) fun _=>atM (aDY (b:=b.2.2.2.2.2.2.1) hm.t hm.tb)
    obtain ⟨K,hK⟩:=h _ h1.e2
    exact ⟨c,⟨K,fun k hk=>hK k k k hk hk hk⟩,⟨fun c=>⟨e,h2.1 c⟩,fun c=>h2.2 c.2⟩⟩
  · obtain ⟨K,hK⟩:=h
    exact ⟨false,⟨K,fun k hk=>hK k k k hk hk hk⟩,⟨nofun,fun c=>absurd c.1 e⟩⟩
 refine awZ ?_ (at4 decide_eq_true_iff fun _=>at4 decide_eq_true_iff fun _=>at4 decide_eq_true_iff fun _=>at4 (asm _ _) fun _=>at4 decide_eq_true_iff fun h=>tail (by omega))
 obtain ⟨a1,a2,a3,a4,a5,a6,a7,⟨⟩⟩:=a
 obtain ⟨b1,b2,b3,b4,b5,b6,b7,⟨⟩⟩:=b
 simp
 intro _ _ _ _ e _ _
 rw [e]
theorem aFv {W:List Lk} {c:Nat} (hc:c≤W.length) (hb:c≤1000) (hs:∀ x∈W.take c,smL x):Ev (fun k=>amx k c W) (W.take c,((W,()),())):=by
 simp only [awH]
 have key:∀ d j (b:Bool) (acc:List Lk),j+d=c→acc.length≤j→Ev2 (fun k n=>af1 k n b acc c ((c:Nat):Int) (j:Int) W) (acc++(W.take c).drop j,((W,()),())):=by
  intro d
  induction d with
  | zero =>
    intro j b acc hj ha
    have:j=c:=by omega
    subst this
    rw [List.drop_eq_nil_of_le (by rw [List.length_take]; omega)]
    refine .up ⟨0,fun k n _ _=>?_⟩
    show af1 k (n+1) _ _ _ _ _ _=_
    rw [aof,bf (by omega),List.append_nil]
  | succ d ih =>
    intro j b acc hj ha
    have hlt:j < W.length:=by omega
    have hx:W[j]?=some W[j]:=List.getElem?_eq_getElem hlt
    have hdr:(W.take c).drop j=W[j] :: (W.take c).drop (j+1):=by
        rw [List.drop_eq_getElem_cons (by rw [List.length_take]; omega)]
        simp
    have hm:smL W[j]:=hs _ (by
        have:W[j]∈(W.take c).drop j:=by rw [hdr]; exact List.mem_cons_self ..
        exact List.mem_of_mem_drop this)
    rw [hdr]
    obtain ⟨K,hK⟩:=ih (j+1) (b&&false) (acc++[W[j]]) (by omega) (by simp; omega)
    refine .up ⟨K,fun k n hk hn=>?_⟩
    show af1 k (n+1) _ _ _ _ _ _=_
    rw [aof,bt (by omega),ak5 (by omega) (by omega),abZ,Nat.zero_add,Int.toNat_natCast,hx,Option.bind_some,aFd _ _ hm.1 hm.2]
    show lim (acc.length+1) _=_
    rw [amh (by omega),afn (by omega)]
    have:=hK k n hk hn
    rw [List.append_assoc] at this
    exact this
 have:=(key c 0 true [] (by omega) (by simp)).dg
 rw [List.drop_zero] at this
 exact this
theorem aCh {H W:List Lk} {nh nw:Nat} (hH:nh≤H.length) (b1:nh≤1000) (hs:∀ x∈H.take nh,smL x):Ev (fun k=>aeX k nh nw true H W) (H.take nh,((nh,(nw,(true,()))),((H,()),((W,()),())))):=by
 simp only [asN,adQ,Option.bind_some]
 exact .bind (aFv hH b1 hs) (.from 0 fun k=>rfl)
theorem bndD {α β:Type} {x:Option α} {r:α} {G:α→Option β} (h:x=some r):x.bind G=G r:=by rw [h]; rfl
abbrev RT : Ty:=(.st (.pair (.int .i64) (.pair (.int .u64) (.pair (.int .u64) (.pair .bool (.pair (.sl (.st (.pair (.int .u64) (.pair (.int .i64) (.pair (.int .u64) .unit))))) (.pair (.sl (.st (.pair (.sl (.int .u8)) (.pair (.sl (.st (.pair (.int .u64) (.pair (.int .u64) (.pair .bool (.pair (.sl (.int .u8)) (.pair (.sl (.sl (.int .u8))) .unit))))))) (.pair (.st (.pair (.int .u64) (.pair (.int .u64) (.pair .bool (.pair (.sl (.int .u8)) (.pair (.sl (.sl (.int .u8))) .unit)))))) .unit))))) (.pair (.sl (.st (.pair (.int .i64) (.pair .str (.pair (.sl (.st (.pair .str (.pair (.int .i64) (.pair .bool .unit))))) (.pair (.int .i64) (.pair (.sl (.int .i64)) .unit))))))) .unit))))))))
theorem aCC {r:Rs} (f:wfD RT r):okR r:=by
 obtain ⟨_,_,_,_,f5,f6,f7,_⟩:=f
 have hv:∀ v:Vs,wfD (.st (.pair (.int .u64) (.pair (.int .u64) (.pair .bool (.pair (.sl (.int .u8)) (.pair (.sl (.sl (.int .u8))) .unit)))))) v→okV v:=fun v h=>by
  obtain ⟨_,_,_,_,h5,_⟩:=h
  exact h5.1
 exact ⟨f5.1,f6.1,fun x hx=>by
  obtain ⟨_,g2,g3,_⟩:=f6.2 x hx
  exact ⟨g2.1,fun v hv'=>hv v (g2.2 v hv'),hv _ g3⟩,f7.1,fun x hx=>by
  obtain ⟨_,_,g3,_,g5,_⟩:=f7.2 x hx
  exact ⟨g3.1,g5.1⟩⟩
theorem ao1 (e:Int):okR (errR e):=⟨Nat.zero_le _,Nat.zero_le _,nofun,Nat.zero_le _,nofun⟩
theorem aF0 (b:Bool):okR (flR b):=⟨Nat.zero_le _,Nat.zero_le _,nofun,Nat.zero_le _,nofun⟩
theorem azM {l:List Sx} (h:l.length≤1000):okR (stsR l):=⟨by show l.length≤_; omega,Nat.zero_le _,nofun,Nat.zero_le _,nofun⟩
theorem aCD {l:List Tb} (h:l.length≤1000) (ht:∀ t∈l,smT t):okR (tabR l):=⟨Nat.zero_le _,Nat.zero_le _,nofun,by show l.length≤_; omega,fun t hx=>⟨by have:=(ht t hx).1; omega,by have:=(ht t hx).2; omega⟩⟩
theorem aFb {c:Cm} (C:smC c) {S:MS} {n:Nat} (I:MI S n) (hn:n≤80) {r:Rs} {S':MS} (R:oneR c S r S'):okR r:=by
 rcases R with ⟨_,b,e,hs',ws',_,rfl,_⟩ | ⟨_,rfl,_⟩
 · split
   · exact aF0 b
   · exact ao1 e
 · unfold oneP
   split
   · exact ⟨Nat.zero_le _,Nat.zero_le _,nofun,Nat.zero_le _,nofun⟩
   split
   · show okR (decP S.T S.cl c.2.2.2.1 c.2.2.2.2.2.1).1
     unfold decP
     cases txP S.T c.2.2.2.1 with
     | none=>exact ao1 _
     | some s =>
       dsimp only
       split
       · cases c.2.2.2.2.2.1 <;> exact azM (by simp)
       · exact azM (by simp)
   split
   · exact azM (by rw [List.length_map]; exact C.y)
   split
   · exact ao1 _
   split
   · exact ao1 _
   split
   · show okR (tabP S.B c.2.2.2.2.2.2.2.2.2.2.2.2.1).1
     unfold tabP
     cases ayR c.2.2.2.2.2.2.2.2.2.2.2.2.1 with
     | false=>exact ao1 _
     | true =>
       cases S.B.any fun y=>beqL y.2.1 c.2.2.2.2.2.2.2.2.2.2.2.2.1.2.1 with
       | true=>exact ao1 _
       | false =>
         cases decide (40≤S.B.length) with
         | true=>exact ao1 _
         | false=>exact aCD (by simp) fun t ht=>by rw [List.mem_singleton] at ht; subst ht; exact azJ C.t
   split
   · exact aCD (by have:=I.bl; omega) I.ts
   · exact ao1 _
def MR (M:Mp):Prop:=∀ (y:Int) w,ada (.int .u64) M y=some w→okR w.2.1
theorem aD8 {M:Mp} (h:MR M) {c:Cm} {r:Rs} (ht:awO M c=some r):okR r:=by
 unfold awO at ht
 split at ht
 · cases ht
 · split at ht
   · cases ht
   · rename_i w hw
     split at ht
     · cases ht
     · split at ht
       · cases ht; exact h _ _ hw
       · cases ht; exact ao1 1
theorem axd {M:Mp} {c:Cm} {r:Rs} (h:c.1≠0):ada (.int .u64) (axQ M c r) c.1=some (c.2.1,(r,())) :=
 (congrArg (fun m=>ada (.int .u64) m c.1) (show axQ M c r=_ from if_neg h)).trans (aoh (kt:=.int .u64) hdU M c.1 (c.2.1,(r,())))
theorem aDP {M:Mp} {c:Cm} {r:Rs} (h:c.1≠0) {y:Int} (e:y≠c.1):ada (.int .u64) (axQ M c r) y=ada (.int .u64) M y :=
 (congrArg (fun m=>ada (.int .u64) m y) (show axQ M c r=_ from if_neg h)).trans (aqG (kt:=.int .u64) hdU M c.1 y (c.2.1,(r,())) e)
theorem MR.do {c:Cm} (C:smC c) {S:MS} {n:Nat} (I:MI S n) (hn:n≤80) {M:Mp} (h:MR M) {r:Rs} {S':MS} {M':Mp} (R:doR c S M r S' M'):MR M'∧okR r:=by
 rcases R with ⟨ht,_,rfl⟩ | ⟨_,R,rfl⟩
 · exact ⟨h,aD8 h ht⟩
 · have ok:=aFb C I hn R
   refine ⟨?_,ok⟩
   by_cases h0:c.1=0
   · rw [show axQ M c r=M from if_pos h0]; exact h
   · intro y w hw
     by_cases e:y=c.1
     · subst e
       rw [axd h0] at hw
       cases hw; exact ok
     · rw [aDP h0 e] at hw
       exact h y w hw
theorem aGk {c:Cm} (h0:c.1≠0) {S:MS} {M:Mp} {r:Rs} {S':MS} {M':Mp} (R:doR c S M r S' M') {r2:Rs} {S2:MS} {M2:Mp} (R2:doR c S' M' r2 S2 M2):r2=r∧S2=S':=by
 have key:awO M' c=some r:=by
  rcases R with ⟨ht,_,rfl⟩ | ⟨_,_,rfl⟩
  · exact ht
  · unfold awO
    rw [if_neg h0,axd h0]
    show (if c.2.1 < c.2.1 then none else if c.2.1=c.2.1 then some r else _)=_
    rw [if_neg (Int.lt_irrefl _),if_pos rfl]
 rcases R2 with ⟨ht,h1,_⟩ | ⟨ht,_⟩
 · rw [key] at ht; cases ht; exact ⟨rfl,h1⟩
 · rw [key] at ht; cases ht
theorem azs (k:Nat) (cl:Int) (nt nb:Nat) (T:List Sx) (nh nw:Nat) (B:List Tb) (M:Mp) (H W:List Lk):adI k cl nt nb T nh nw true B M H W=some (cl,((cl,(nt,((),(nb,((),()))))),((T,()),((nh,(nw,(true,()))),((B,()),((M,()),((H,()),((W,()),())))))))):=by
 rw [ap4,acY]; rfl
theorem azF (k:Nat) (cl:Int) (nt nb:Nat) (T:List Sx) (nh nw:Nat) (B:List Tb) (M:Mp) (H W:List Lk):adJ k cl nt nb T nh nw true B M H W=some (Sum.inr ((),((cl,(nt,((),(nb,((),()))))),((T,()),((nh,(nw,(true,()))),((B,()),((M,()),((H,()),((W,()),()))))))))):=by
 rw [ap7,acY]; rfl
theorem aDl {l:List Cm} (hl:l.length≤40) (hs:∀ c∈l,smC c) {c:Cm} (hc:smC c):∀ d i (S:MS) (M:Mp) (cl:Int) (nt nb:Nat) (T:List Sx) (nh nw:Nat) (B:List Tb) (H W:List Lk),i+d=l.length→MI S i→MR M→Rp S cl nt nb T nh nw B H W →
 Ev2 (fun k n=>afD k n l (l.length:Int) (i:Int) c.1 c.2.1 c.2.2.1 c.2.2.2.1 c.2.2.2.2.1 c.2.2.2.2.2.1 c.2.2.2.2.2.2.1.1 c.2.2.2.2.2.2.1.2.1 c.2.2.2.2.2.2.1.2.2.1 c.2.2.2.2.2.2.1.2.2.2.1 c.2.2.2.2.2.2.1.2.2.2.2.1 c.2.2.2.2.2.2.2.1 c.2.2.2.2.2.2.2.2.1 c.2.2.2.2.2.2.2.2.2.1 c.2.2.2.2.2.2.2.2.2.2.1 c.2.2.2.2.2.2.2.2.2.2.2.1 c.2.2.2.2.2.2.2.2.2.2.2.2.1.1 c.2.2.2.2.2.2.2.2.2.2.2.2.1.2.1 c.2.2.2.2.2.2.2.2.2.2.2.2.1.2.2.1 c.2.2.2.2.2.2.2.2.2.2.2.2.1.2.2.2.1 c.2.2.2.2.2.2.2.2.2.2.2.2.1.2.2.2.2.1 cl nt nb T nh nw true B M H W) (true,()):=by
 intro d
 induction d with
 | zero =>
   intro i S M cl nt nb T nh nw B H W hi I Q P
   obtain ⟨r,S1,M1,cl1,nt1,nb1,T1,nh1,nw1,B1,H1,W1,P1,R1,hE1⟩:=aEP hc I (by omega) M P
   have I1:=I.do hc R1
   have ok:=(Q.do hc I (by omega) R1).2
   obtain ⟨r2,S2,M2,cl2,nt2,nb2,T2,nh2,nw2,B2,H2,W2,P2,R2,hE2⟩:=aEP hc I1 (by omega) M1 P1
   obtain ⟨p1,p2,p3,p4,pe⟩:=P1
   obtain ⟨q1,q2,q3,q4,qe⟩:=P2
   subst pe
   have lh:(H1.take nh1).length=nh1:=by rw [List.length_take,Nat.min_eq_left p3]
   have b1:nh1≤i+1:=by have:=I1.L.h; rw [← lh]; exact this
   have hh:=aCh (H:=H1) (W:=W1) (nh:=nh1) (nw:=nw1) p3 (by omega) I1.L.sh
   obtain ⟨K1,hK1⟩:=hE1
   obtain ⟨K3,hK3⟩:=hh
   by_cases c0:c.1=0
   · refine .up ⟨Nat.max K1 K3,fun k n a b=>?_⟩
     refine (ahy ..).trans ?_
     rw [bf (by omega)]
     refine (bndD (hK1 k (Nat.le_trans (Nat.le_max_left ..) a))).trans ?_
     refine (bndD (azs ..)).trans ?_
     refine (bndD (azF ..)).trans ?_
     refine (bndD (hK3 k (Nat.le_trans (Nat.le_max_right ..) a))).trans ?_
     rw [dT c0]; rfl
   · obtain ⟨rfl,e2⟩:=aGk c0 R1 R2
     have e3:cl2=cl1:=by have:=congrArg MS.cl e2; rw [qe] at this; exact this
     have e4:H2.take nh2=H1.take nh1:=by have:=congrArg MS.hs e2; rw [qe] at this; exact this
     have lh2:(H2.take nh2).length=nh2:=by rw [List.length_take,Nat.min_eq_left q3]
     have hh2:=aCh (H:=H2) (W:=W2) (nh:=nh2) (nw:=nw2) q3 (by rw [← lh2,e4,lh]; omega) (by rw [e4]; exact I1.L.sh)
     obtain ⟨c',hS,hc'⟩:=aAU (b:=r2) ok
     have:c'=true:=hc'.2 rfl
     subst this
     obtain ⟨K2,hK2⟩:=hE2
     obtain ⟨K4,hK4⟩:=hh2
     obtain ⟨K5,hK5⟩:=hS
     refine .up ⟨Nat.max (Nat.max K1 K2) (Nat.max K3 (Nat.max K4 K5)),fun k n a b=>?_⟩
     have a1:K1≤k:=Nat.le_trans (Nat.le_trans (Nat.le_max_left ..) (Nat.le_max_left ..)) a
     have a2:K2≤k:=Nat.le_trans (Nat.le_trans (Nat.le_max_right K1 K2) (Nat.le_max_left ..)) a
     have a3:K3≤k:=Nat.le_trans (Nat.le_trans (Nat.le_max_left K3 _) (Nat.le_max_right ..)) a
     have a4:K4≤k:=Nat.le_trans (Nat.le_trans (Nat.le_trans (Nat.le_max_left K4 K5) (Nat.le_max_right K3 _)) (Nat.le_max_right ..)) a
     have a5:K5≤k:=Nat.le_trans (Nat.le_trans (Nat.le_trans (Nat.le_max_right K4 K5) (Nat.le_max_right K3 _)) (Nat.le_max_right ..)) a
     refine (ahy ..).trans ?_
     rw [bf (by omega)]
     refine (bndD (hK1 k a1)).trans ?_
     refine (bndD (azs ..)).trans ?_
     refine (bndD (azF ..)).trans ?_
     refine (bndD (hK3 k a3)).trans ?_
     rw [dF c0]
     refine (bndD (hK2 k a2)).trans ?_
     refine (bndD (hK5 k a5)).trans ?_
     refine (bndD (azs ..)).trans ?_
     show (bif decide (cl2=cl1) then _ else _)=_
     rw [dT e3]
     refine (bndD (azF ..)).trans ?_
     refine (bndD (hK4 k a4)).trans ?_
     show some (decide (((H2.take nh2).length:Int)=((H1.take nh1).length:Int)),())=_
     rw [e4,dT rfl]
 | succ d ih =>
   intro i S M cl nt nb T nh nw B H W hi I Q P
   have hlt:i < l.length:=by omega
   have hx:nth l (i:Int)=some l[i]:=ab0 (List.getElem?_eq_getElem hlt)
   have hy:=hs l[i] (List.getElem_mem hlt)
   generalize l[i]=x at hx hy
   obtain ⟨r,S',M',cl',nt',nb',T',nh',nw',B',H',W',P',R,hE⟩:=aEP hy I (by omega) M P
   obtain ⟨K1,hK1⟩:=hE
   obtain ⟨K2,hK2⟩:=ih (i+1) _ _ _ _ _ _ _ _ _ _ _ (by omega) (I.do hy R) (Q.do hy I (by omega) R).1 P'
   refine .up ⟨Nat.max K1 K2,fun k n a b=>?_⟩
   refine (ahy ..).trans ?_
   rw [bt (by omega),hx,Option.bind_some]
   refine (bndD (hK1 k (Nat.le_trans (Nat.le_max_left ..) a))).trans ?_
   rw [afn (by omega)]
   exact hK2 k n (Nat.le_trans (Nat.le_max_right ..) a) (Nat.le_trans (Nat.le_max_right ..) b)
theorem aDk (l:List CmdD) (c:CmdD) (x y:Rs) (f:wfD (.sl CT) l) (fc:wfD CT c) (fx:wfD RT x) (fy:wfD RT y) (z:szD (.sl CT) l) (zc:szD CT c):Ev (fun k=>law15_MetaAgain k l c x y) (true,()):=by
 simp only [asC,aEG]
 refine .bind .ret (.bind (aC9 f z) ?_)
 cases hb:(l.all sC&&decide (l.length≤40)) with
 | false=>exact .from 0 fun k=>rfl
 | true =>
   obtain ⟨h1,h2⟩:=aF9 f hb
   have s1:Ev (fun k=>agK k [c]) (([c]:List CmdD).all sC&&decide (([c]:List CmdD).length≤40),()):=aA1 (by simp) fun x hx=>by rw [List.mem_singleton] at hx; subst hx; exact aEy zc fc
   refine .bind s1 ?_
   cases hb2:(([c]:List CmdD).all sC&&decide (([c]:List CmdD).length≤40)) with
   | false=>exact .from 0 fun k=>rfl
   | true =>
     have hc:smC c:=aEx fc (aF5 (by rw [Bool.and_eq_true,List.all_eq_true] at hb2; exact hb2.1 c (List.mem_singleton.2 rfl)))
     by_cases g1:5 < (x.2.2.2.2.2.1.length:Int)
     · rw [dT g1]; exact .from 0 fun k=>rfl
     by_cases g2:5 < (y.2.2.2.2.2.1.length:Int)
     · rw [dF g1,dT g2]; exact .from 0 fun k=>rfl
     by_cases g3:10 < (x.2.2.2.2.1.length:Int)
     · rw [dF g1,dF g2,dT g3]; exact .from 0 fun k=>rfl
     by_cases g4:10 < (y.2.2.2.2.1.length:Int)
     · rw [dF g1,dF g2,dF g3,dT g4]; exact .from 0 fun k=>rfl
     by_cases g5:5 < (x.2.2.2.2.2.2.1.length:Int)
     · rw [dF g1,dF g2,dF g3,dF g4,dT g5]; exact .from 0 fun k=>rfl
     by_cases g6:5 < (y.2.2.2.2.2.2.1.length:Int)
     · rw [dF g1,dF g2,dF g3,dF g4,dF g5,dT g6]; exact .from 0 fun k=>rfl
     rw [dF g1,dF g2,dF g3,dF g4,dF g5,dF g6]
     obtain ⟨c1,e1,i1⟩:=aCU (b:=y) (aCC fx)
     obtain ⟨c2,e2,i2⟩:=aAU (b:=y) (aCC fx)
     obtain ⟨c3,e3,i3⟩:=aCU (b:=x) (aCC fx)
     have h12:c1=c2:=by rw [Bool.eq_iff_iff,i1,i2]
     subst h12
     have h3:c3=true:=i3.2 rfl
     subst h3
     refine .bind e1 (.bind e2 ?_)
     rw [show beqB c1 c1=true from (asm _ _).2 rfl]
     refine .bind e3 ?_
     have:=(aDl h1 h2 hc l.length 0 ⟨0,[],[],[],[]⟩ [] 0 0 0 [] 0 0 [] [] [] (by omega) MI.new (fun y w h=>by cases h) Rp.new).dg
     obtain ⟨K,hK⟩:=this
     refine ⟨K,fun k hk=>?_⟩
     show ((ae0 k c).bind _)=_
     rw [apt,aha]
     show ((adT k).bind _)=_
     rw [anQ,aha]
     show ((adU k).bind _)=_
     rw [anS,aha]
     show ((aqH k).bind _)=_
     rw [avZ,avH]
     exact hK k hk
theorem MetaAgain_true (l:List CT.D) (c:CT.D) (x y:RT.D) (f:wfD (.sl CT) l) (fc:wfD CT c) (fx:wfD RT x) (fy:wfD RT y) (z:szD (.sl CT) l) (zc:szD CT c):∃ k,law15_MetaAgain k l c x y=some (true,()):=(aDk l c x y f fc fx fy z zc).ex
end Go.Proofs.Ytgmeimbamfggkaa.Den
