/- A call begins: the callee's state out of the caller's. No conditions: laws. -/
import Derived.Test.YtnojkokhfmgcfaaDen23
namespace Go.Proofs.Ytnojkokhfmgcfaa.Den
open Go

section
variable {s : St} {m c : Nat}

theorem nkTV_live {k : NK} {v v' : TV} {ps : List Nat} (h : nkTV s m c k v = some (v', ps)) : (∀ p ∈ ps, s.O p = true) ∧ ∀ q ∈ nkQ k, q < c := by
  unfold nkTV at h
  split at h
  · cases ht : tame m v <;> rw [ht] at h <;> cases h
    exact ⟨fun p hp => by simp at hp, fun q hq => by simp [nkQ] at hq⟩
  · rename_i q t f nl l
    cases hb : (maySay s f && Nat.blt q c) <;> rw [hb] at h <;> cases h
    rw [Bool.and_eq_true] at hb
    have hq : q < c := by simpa using hb.2
    refine ⟨fun p hp => ?_, fun q' hq' => by simp [nkQ] at hq'; omega⟩
    cases f <;> simp at hp
    subst hp; exact hb.1
  · rename_i q t f nl l
    cases hb : (maySay s f && Nat.blt q c) <;> rw [hb] at h <;> cases h
    rw [Bool.and_eq_true] at hb
    have hq : q < c := by simpa using hb.2
    refine ⟨fun p hp => ?_, fun q' hq' => by simp [nkQ] at hq'; omega⟩
    cases f <;> simp at hp
    subst hp; exact hb.1
  · cases h; exact ⟨fun p hp => by simp at hp, fun q hq => by simp [nkQ] at hq⟩
  · cases h; exact ⟨fun p hp => by simp at hp, fun q hq => by simp [nkQ] at hq⟩
  · cases h

theorem nkL_each : ∀ {ks : List NK} {vs vs' : List TV} {ps : List Nat}, nkL s m c ks vs = some (vs', ps) → ∀ x ∈ ks.zip vs, ∃ v' ps', nkTV s m c x.1 x.2 = some (v', ps')
  | [], vs, _, _, _, x, hx => by simp at hx
  | k :: ks, [], _, _, _, x, hx => by simp at hx
  | k :: ks, v :: vs, vs', ps, h, x, hx => by
    unfold nkL at h
    split at h
    · rename_i v1 a1 r b h1 h2
      rw [List.zip_cons_cons] at hx
      rcases List.mem_cons.1 hx with rfl | hx
      · exact ⟨_, _, h1⟩
      · exact nkL_each h2 x hx
    · cases h
theorem nkLL_each : ∀ {ks : List (List NK)} {vs vs' : List (List TV)} {ps : List Nat}, nkLL s m c ks vs = some (vs', ps) → ∀ x ∈ pairsL ks vs, ∃ v' ps', nkTV s m c x.1 x.2 = some (v', ps')
  | [], vs, _, _, _, x, hx => by simp [pairsL] at hx
  | k :: ks, [], _, _, _, x, hx => by simp [pairsL] at hx
  | k :: ks, v :: vs, vs', ps, h, x, hx => by
    unfold nkLL at h
    split at h
    · rename_i v1 a1 r b h1 h2
      rw [pairsL] at hx
      rcases List.mem_append.1 hx with hx | hx
      · exact nkL_each h1 x hx
      · exact nkLL_each h2 x hx
    · cases h
theorem nkL_q : ∀ {ks : List NK} {vs vs' : List TV} {ps : List Nat}, nkL s m c ks vs = some (vs', ps) → ∀ q ∈ ks.flatMap nkQ, ∃ x ∈ ks.zip vs, q ∈ nkQ x.1
  | [], _, _, _, _, q, hq => by simp at hq
  | k :: ks, [], _, _, h, _, _ => by cases h
  | k :: ks, v :: vs, vs', ps, h, q, hq => by
    unfold nkL at h
    split at h
    · rename_i v1 a1 r b h1 h2
      rw [List.zip_cons_cons]
      rw [List.flatMap_cons] at hq
      rcases List.mem_append.1 hq with hq | hq
      · exact ⟨(k, v), List.mem_cons_self .., hq⟩
      · obtain ⟨x, hx, h⟩ := nkL_q h2 q hq
        exact ⟨x, List.mem_cons_of_mem _ hx, h⟩
    · cases h
theorem nkLL_q : ∀ {ks : List (List NK)} {vs vs' : List (List TV)} {ps : List Nat}, nkLL s m c ks vs = some (vs', ps) → ∀ q ∈ ks.flatMap (·.flatMap nkQ), ∃ x ∈ pairsL ks vs, q ∈ nkQ x.1
  | [], _, _, _, _, q, hq => by simp at hq
  | k :: ks, [], _, _, h, _, _ => by cases h
  | k :: ks, v :: vs, vs', ps, h, q, hq => by
    unfold nkLL at h
    split at h
    · rename_i v1 a1 r b h1 h2
      rw [List.flatMap_cons] at hq
      rcases List.mem_append.1 hq with hq | hq
      · obtain ⟨x, hx, h⟩ := nkL_q h1 q hq
        exact ⟨x, List.mem_append_left _ hx, h⟩
      · obtain ⟨x, hx, h⟩ := nkLL_q h2 q hq
        exact ⟨x, List.mem_append_right _ hx, h⟩
    · cases h

theorem sO_TV {dr : Bool} {k : NK} {v : TV} {z : TV × List Nat} (h : nkTV (sO dr s) m c k v = some z) : nkTV s m c k v = some z := by
  cases dr with
  | false => exact h
  | true =>
    unfold nkTV at h ⊢
    split at h
    · exact h
    · rename_i q t f nl l
      cases f with
      | full => exact h
      | sh => exact h
      | own p => simp [maySay, sO] at h
    · rename_i q t f nl l
      cases f with
      | full => exact h
      | sh => exact h
      | own p => simp [maySay, sO] at h
    · exact h
    · exact h
    · cases h
theorem sO_L {dr : Bool} : ∀ {ks : List NK} {vs : List TV} {z : List TV × List Nat}, nkL (sO dr s) m c ks vs = some z → nkL s m c ks vs = some z
  | [], [], _, h => h
  | [], _ :: _, _, h => by cases h
  | _ :: _, [], _, h => by cases h
  | k :: ks, v :: vs, z, h => by
    unfold nkL at h ⊢
    split at h
    · rename_i v1 a1 r b h1 h2
      rw [sO_TV h1, sO_L h2]
      exact h
    · cases h
theorem sO_LL {dr : Bool} : ∀ {ks : List (List NK)} {vs : List (List TV)} {z : List (List TV) × List Nat}, nkLL (sO dr s) m c ks vs = some z → nkLL s m c ks vs = some z
  | [], vs, _, h => by cases vs <;> exact h
  | _ :: _, [], _, h => by cases h
  | k :: ks, v :: vs, z, h => by
    unfold nkLL at h ⊢
    split at h
    · rename_i v1 a1 r b h1 h2
      rw [sO_L h1, sO_LL h2]
      exact h
    · cases h
end

/-- The callee's state when it begins, and when it is done. -/
def beg (sp : Spec) (os : List Obj) : St := mkS 0 os.length [] sp.qs.length sp.qs os
def fin (S : List Obj) (toks b : Nat) : St := ⟨0, fun _ => .undef, toks, fun q => Nat.blt q toks, S, b⟩

section
variable {w0 : World} {M0 : Mem} {X : Fr} {s : St} {w : World} {M : Mem} {ι : Nat → Nat} {θ : Nat → Option Nat} {a : Act}

theorem nkL_vals {θ' : Nat → Option Nat} {O' : Nat → Bool} {m c : Nat} : ∀ {ks : List NK} {vs vs' : List TV} {ps : List Nat} {V : List Value}, nkL s m c ks vs = some (vs', ps) → rvs M ι vs V → tcs w M θ s.O s.c vs V →
    (∀ x ∈ ks.zip vs, ∀ q ∈ nkQ x.1, θ' q = (toksOf x.1 x.2).head?.bind θ) → rvs M ι vs' V ∧ tcs w M θ' O' c vs' V ∧ withins m vs'
  | [], [], _, _, V, h, h1, _, _ => by
    cases h
    have : V = [] := h1
    subst this
    exact ⟨rfl, trivial, trivial⟩
  | [], _ :: _, _, _, _, h, _, _, _ => by cases h
  | _ :: _, [], _, _, _, h, _, _, _ => by cases h
  | k :: ks, v :: vs, vs', ps, V, h, h1, h2, h3 => by
    unfold nkL at h
    split at h
    · rename_i v1 a1 r b e1 e2
      cases h
      obtain ⟨x, xs, rfl, g1, g2⟩ := h1
      obtain ⟨d1, d2, d3, _⟩ := nkTV_ok (θ' := θ') (O' := O') e1 g1 h2.1 (h3 (k, v) (by simp))
      obtain ⟨f1, f2, f3⟩ := nkL_vals (θ' := θ') (O' := O') e2 g2 h2.2 (fun x hx => h3 x (by rw [List.zip_cons_cons]; exact List.mem_cons_of_mem _ hx))
      exact ⟨⟨x, xs, rfl, d1, f1⟩, ⟨d2, f2⟩, d3, f3⟩
    · cases h

theorem call_begin (I : Inv w0 M0 X s w M ι θ) {L : List TV} {V : List Value} (hL : rvs M ι L V) (hT : tcs w M θ s.O s.c L V) {js : List Nat} {as1 as2 : List TV} {os1 os2 : List Obj} {ta tb : List Nat} {sp : Spec}
    (h1 : ren.go (posOf js) L = some as1) (h2 : pickS (posOf js) s.S js = some os1)
    (h3 : nkL s js.length sp.qs.length sp.pars as1 = some (as2, ta)) (h4 : nkLL s js.length sp.qs.length sp.objs os1 = some (os2, tb))
    (hj : js.Nodup) (hab : (ta ++ tb).Nodup) (hq : sp.qs.Nodup) (hl : os2.length = js.length) :
    ∃ θ', Inv w M { X := fun g => (∃ (k i : Nat), js[k]? = some i ∧ g = ι i) ∨ ∃ q, q ∈ ta ++ tb ∧ s.O q = true ∧ θ q = some g, n := js.length, ι := fun k => ι (js.getD k 0) } (beg sp os2) w M (fun k => ι (js.getD k 0)) θ' ∧
      rvs M (fun k => ι (js.getD k 0)) as2 V ∧ tcs w M θ' (beg sp os2).O (beg sp os2).c as2 V ∧ withins os2.length as2 := by
  have hf : ∀ i k, posOf js i = some k → (fun k => ι (js.getD k 0)) k = ι i ∧ k < js.length := by
    intro i k h
    have h := posOf_some h
    refine ⟨?_, (List.getElem?_eq_some_iff.1 h).1⟩
    show ι (js.getD k 0) = ι i
    rw [List.getD_eq_getElem?_getD, h]; rfl
  obtain ⟨r1, r2, _⟩ := rens_ok (w := w) (θ := θ) (O := s.O) (c := s.c) hf L as1 V h1 hL
  have r2 := r2 hT
  obtain ⟨p1, p2⟩ := pickS_spec h2
  obtain ⟨o1, o2, o3, o4⟩ := nkLL_spec h4
  let C := sp.pars.zip as1 ++ pairsL sp.objs os1
  have nodq : (C.flatMap fun x => nkQ x.1).Nodup := by
    refine List.Nodup.sublist ?_ hq
    rw [List.flatMap_append]
    exact (zip_sub _ _).append (pairsL_sub _ _)
  have hps : C.flatMap (fun x => toksOf x.1 x.2) = ta ++ tb := by rw [List.flatMap_append, ← nkL_toks h3, o3]
  have each : ∀ x ∈ C, ∃ v' ps', nkTV s js.length sp.qs.length x.1 x.2 = some (v', ps') := fun x hx => by
    rcases List.mem_append.1 hx with hx | hx
    · exact nkL_each h3 x hx
    · exact nkLL_each h4 x hx
  have live : ∀ p ∈ C.flatMap (fun x => toksOf x.1 x.2), s.O p = true := by
    intro p hp
    obtain ⟨x, hx, hpx⟩ := List.mem_flatMap.1 hp
    obtain ⟨v', ps', hv⟩ := each x hx
    exact (nkTV_live hv).1 p (by rw [nkTV_toks hv]; exact hpx)
  have hθ : ∀ x ∈ C, ∀ q ∈ nkQ x.1, (src C q).bind θ = (toksOf x.1 x.2).head?.bind θ := fun x hx q hq => by rw [src_at (k := x.1) (v := x.2) nodq hx hq]
  have hsome : ∀ q g, (src C q).bind θ = some g → ∃ p, src C q = some p ∧ s.O p = true ∧ θ p = some g := by
    intro q g h
    obtain ⟨p, h1, h2⟩ := Option.bind_eq_some_iff.1 h
    exact ⟨p, h1, live p (src_mem h1), h2⟩
  obtain ⟨a1, a2, a3⟩ := nkL_vals (θ' := fun q => (src C q).bind θ) (O' := (beg sp os2).O) h3 r1 r2 (fun x hx => hθ x (List.mem_append_left _ hx))
  -- the numbers of objects
  have hjs : ∀ k, k < js.length → ∃ i cs, js[k]? = some i ∧ js.getD k 0 = i ∧ s.S[i]? = some cs := by
    intro k hk
    have hk' : k < os1.length := by rw [p1]; exact hk
    obtain ⟨i, cs, e1, e2, _⟩ := p2 k _ (List.getElem?_eq_getElem hk')
    exact ⟨i, cs, e1, by rw [List.getD_eq_getElem?_getD, e1]; rfl, e2⟩
  refine ⟨fun q => (src C q).bind θ, ⟨rfl, rfl, rfl, Nat.le_refl _, Mem.le_refl _, I.mem, fun b _ _ => ⟨rfl, fun _ => rfl⟩, ?_, ?_, ?_, ?_, ?_, ?_⟩, a1, a2, by rw [hl]; exact a3⟩
  · intro i cs2 hi
    have hi : os2[i]? = some cs2 := hi
    obtain ⟨k, cs1, ps', e1, e2, e3, e4⟩ := o4 i cs2 hi
    obtain ⟨j, cs, f1, f2, f3⟩ := p2 i cs1 e2
    have hjd : js.getD i 0 = j := by rw [List.getD_eq_getElem?_getD, f1]; rfl
    obtain ⟨n1, n2, n3⟩ := nkL_spec e3
    obtain ⟨vs, e, g1, g2, g3, g4, g5⟩ := I.obj j cs f2
    have hlen : cs1.length = cs.length := by
      have : ∀ (l l' : List TV), ren.go (posOf js) l = some l' → l'.length = l.length := by
        intro l
        induction l with
        | nil => intro l' h; cases h; rfl
        | cons x l ih =>
          intro l' h
          have h : ((ren (posOf js) x).bind fun v => (ren.go (posOf js) l).map fun r => v :: r) = some l' := h
          obtain ⟨y1, _, h2⟩ := Option.bind_eq_some_iff.1 h
          obtain ⟨ys, h3, rfl⟩ := Option.map_eq_some_iff.1 h2
          simp [ih ys h3]
      exact this _ _ f3
    have hget : ∀ (l l' : List TV) (j : Nat) x, ren.go (posOf js) l = some l' → l'[j]? = some x → ∃ y, l[j]? = some y ∧ ren (posOf js) y = some x := by
      intro l
      induction l with
      | nil => intro l' j x h hx; cases h; simp at hx
      | cons z l ih =>
        intro l' j x h hx
        have h : ((ren (posOf js) z).bind fun v => (ren.go (posOf js) l).map fun r => v :: r) = some l' := h
        obtain ⟨y1, h1, h2⟩ := Option.bind_eq_some_iff.1 h
        obtain ⟨ys, h3, rfl⟩ := Option.map_eq_some_iff.1 h2
        cases j with
        | zero => simp at hx; subst hx; exact ⟨z, rfl, h1⟩
        | succ j =>
          obtain ⟨y, k1, k2⟩ := ih ys j x h3 (by simpa using hx)
          exact ⟨y, by simpa using k1, k2⟩
    refine ⟨vs, e, by show w.heap[ι (js.getD i 0)]? = _; rw [hjd]; exact g1, by rw [g2, n1, hlen], fun k => by show M (ι (js.getD i 0)) k = none; rw [hjd]; exact g3 k, .inl (.inl ⟨i, j, f1, by show ι (js.getD i 0) = ι j; rw [hjd]⟩), fun jj x hx => ?_⟩
    obtain ⟨k', v1, ps2, m1, m2, m3, _⟩ := n3 jj x hx
    obtain ⟨v0, q1, q2⟩ := hget _ _ jj v1 f3 m2
    obtain ⟨v, u1, u2, u3, u4, _⟩ := g5 jj v0 q1
    obtain ⟨t1, t2, _⟩ := ren_ok (w := w) (θ := θ) (O := s.O) (c := s.c) hf v0 v1 v q2 u3
    have hz : (k', v1) ∈ k.zip cs1 := List.mem_of_getElem? (i := jj) (List.getElem?_zip_eq_some.2 ⟨m1, m2⟩)
    obtain ⟨d1, d2, d3, _⟩ := nkTV_ok (θ' := fun q => (src C q).bind θ) (O' := (beg sp os2).O) m3 t1 (t2 u4) (hθ (k', v1) (List.mem_append_right _ (e4 _ hz)))
    refine ⟨v, u1, u2, d1, d2, ?_⟩
    show within os2.length x
    rw [hl]; exact d3
  · intro i j hi hj' e
    have hi : i < js.length := by rw [← hl]; exact hi
    have hj' : j < js.length := by rw [← hl]; exact hj'
    obtain ⟨i1, cs, e1, e2, e3⟩ := hjs i hi
    obtain ⟨j1, cs', f1, f2, f3⟩ := hjs j hj'
    have e : ι (js.getD i 0) = ι (js.getD j 0) := e
    rw [e2, f2] at e
    have := I.inj i1 j1 (List.getElem?_eq_some_iff.1 e3).1 (List.getElem?_eq_some_iff.1 f3).1 e
    subst this
    exact (List.getElem?_inj hi hj).1 (e1.trans f1.symm)
  · intro q g hq' hg
    obtain ⟨p, k1, k2, k3⟩ := hsome q g hg
    obtain ⟨t1, t2, t3⟩ := I.tok p g k2 k3
    refine ⟨t1, .inl (.inr ⟨p, by rw [← hps]; exact src_mem k1, k2, k3⟩), fun i hi => ?_⟩
    have hi : i < js.length := by rw [← hl]; exact hi
    obtain ⟨i1, cs, e1, e2, e3⟩ := hjs i hi
    show ι (js.getD i 0) ≠ g
    rw [e2]
    exact t3 i1 (List.getElem?_eq_some_iff.1 e3).1
  · intro q hq'
    have hq' : sp.qs.any (Nat.beq q) = true := hq'
    obtain ⟨p, hp, e⟩ := List.any_eq_true.1 hq'
    rw [Nat.beq_eq] at e
    subst e
    show q < sp.qs.length
    have : ∃ x ∈ C, q ∈ nkQ x.1 := by
      rcases List.mem_append.1 hp with hp | hp
      · obtain ⟨x, hx, h⟩ := nkL_q h3 q hp
        exact ⟨x, List.mem_append_left _ hx, h⟩
      · obtain ⟨x, hx, h⟩ := nkLL_q h4 q hp
        exact ⟨x, List.mem_append_right _ hx, h⟩
    obtain ⟨x, hx, hqx⟩ := this
    obtain ⟨v', ps', hv⟩ := each x hx
    exact (nkTV_live hv).2 q hqx
  · intro p q g _ _ hp hq'
    obtain ⟨p1, k1, k2, k3⟩ := hsome p g hp
    obtain ⟨q1, l1, l2, l3⟩ := hsome q g hq'
    have := I.one p1 q1 g k2 l2 k3 l3
    subst this
    exact src_inj (by rw [hps]; exact hab) k1 l1
  · exact ⟨hl, by show js.length ≤ os2.length; omega, fun _ _ => rfl⟩

end
end Go.Proofs.Ytnojkokhfmgcfaa.Den
