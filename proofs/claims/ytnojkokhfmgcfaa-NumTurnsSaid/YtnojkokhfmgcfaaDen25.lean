/- A call is done: the caller's state after it. No conditions: laws. -/
import Derived.Test.YtnojkokhfmgcfaaDen24
namespace Go.Proofs.Ytnojkokhfmgcfaa.Den
open Go

def backF (js : List Nat) (n i : Nat) : Nat := bif Nat.blt i js.length then js.getD i 0 else n + (i - js.length)

section
variable {w0 : World} {M0 : Mem} {X : Fr} {s : St} {w : World} {M : Mem} {ι : Nat → Nat} {θ : Nat → Option Nat} {a : Act}

theorem call_end (I : Inv w0 M0 X s w M ι θ) (T : TInv s w M ι θ a) {js ts : List Nat} {toks : Nat} {S' : List Obj} {w' : World} {M' : Mem} {ι' : Nat → Nat} {θ' : Nat → Option Nat}
    (hj : js.Nodup) (hjs : ∀ (k i : Nat), js[k]? = some i → i < s.S.length)
    (J : Inv w M { X := fun g => (∃ (k i : Nat), js[k]? = some i ∧ g = ι i) ∨ ∃ q, q ∈ ts ∧ s.O q = true ∧ θ q = some g, n := js.length, ι := fun k => ι (js.getD k 0) } (fin S' toks js.length) w' M' ι' θ') :
    ∃ ι2 θ2, Inv w0 M0 X { s with S := layS s.S js (S'.map (back.go (backF js s.S.length) s.c)), O := fun q => (s.O q && !ts.any (Nat.beq q)) || (Nat.ble s.c q && Nat.blt q (s.c + toks)), c := s.c + toks } w' M' ι2 θ2 ∧
      TInv { s with S := layS s.S js (S'.map (back.go (backF js s.S.length) s.c)), O := fun q => (s.O q && !ts.any (Nat.beq q)) || (Nat.ble s.c q && Nat.blt q (s.c + toks)), c := s.c + toks } w' M' ι2 θ2 a ∧
      ∀ v x, rv M' ι' v x → tc w' M' θ' (fin S' toks js.length).O toks v x → within S'.length v →
        rv M' ι2 (back (backF js s.S.length) s.c v) x ∧
        tc w' M' θ2 (fun q => (s.O q && !ts.any (Nat.beq q)) || (Nat.ble s.c q && Nat.blt q (s.c + toks))) (s.c + toks) (back (backF js s.S.length) s.c v) x ∧
        within (layS s.S js (S'.map (back.go (backF js s.S.length) s.c))).length (back (backF js s.S.length) s.c v) := by
  have hS' : js.length ≤ S'.length := J.base.2.1
  have hι : ∀ (k i : Nat), js[k]? = some i → ι' k = ι i := fun k i h => by
    rw [J.base.2.2 k (List.getElem?_eq_some_iff.1 h).1]
    show ι (js.getD k 0) = ι i
    rw [List.getD_eq_getElem?_getD, h]; rfl
  have hget : ∀ i, i < s.S.length → ∃ cs, s.S[i]? = some cs := fun i hi => ⟨_, List.getElem?_eq_getElem hi⟩
  have hιlt : ∀ i, i < s.S.length → ι i < w.heap.size := fun i hi => by
    obtain ⟨cs, hcs⟩ := hget i hi
    obtain ⟨vs, e, h1, _⟩ := I.obj i cs hcs
    exact block_lt h1
  -- what the callee may write is the caller's to write
  have XX : ∀ g, ((∃ (k i : Nat), js[k]? = some i ∧ g = ι i) ∨ ∃ q, q ∈ ts ∧ s.O q = true ∧ θ q = some g) → X g ∨ w0.heap.size ≤ g := by
    rintro g (⟨k, i, h1, rfl⟩ | ⟨q, _, h2, h3⟩)
    · obtain ⟨cs, hcs⟩ := hget i (hjs k i h1)
      obtain ⟨vs, e, _, _, _, h4, _⟩ := I.obj i cs hcs
      exact h4
    · exact (I.tok q g h2 h3).2.1
  have nx1 : ∀ i, i < s.S.length → i ∉ js → ¬ ((∃ (k j : Nat), js[k]? = some j ∧ ι i = ι j) ∨ ∃ q, q ∈ ts ∧ s.O q = true ∧ θ q = some (ι i)) := by
    rintro i hi hn (⟨k, j, h1, h2⟩ | ⟨q, _, h2, h3⟩)
    · have := I.inj i j hi (hjs k j h1) h2
      subst this
      exact hn (List.mem_of_getElem? h1)
    · exact (I.tok q _ h2 h3).2.2 i hi rfl
  have nx2 : ∀ q g, s.O q = true → q ∉ ts → θ q = some g → ¬ ((∃ (k j : Nat), js[k]? = some j ∧ g = ι j) ∨ ∃ q, q ∈ ts ∧ s.O q = true ∧ θ q = some g) := by
    rintro q g hq hn hg (⟨k, j, h1, h2⟩ | ⟨p, h1, h2, h3⟩)
    · exact (I.tok q g hq hg).2.2 j (hjs k j h1) h2.symm
    · have := I.one p q g h2 hq h3 hg
      subst this
      exact hn h1
  -- which tokens live
  have live : ∀ q, ((s.O q && !ts.any (Nat.beq q)) || (Nat.ble s.c q && Nat.blt q (s.c + toks))) = true → (q < s.c ∧ s.O q = true ∧ q ∉ ts) ∨ (s.c ≤ q ∧ q < s.c + toks) := by
    intro q h
    rw [Bool.or_eq_true, Bool.and_eq_true, Bool.and_eq_true] at h
    rcases h with ⟨h1, h2⟩ | ⟨h1, h2⟩
    · refine .inl ⟨I.tokc q h1, h1, fun hm => ?_⟩
      have : ts.any (Nat.beq q) = true := List.any_eq_true.2 ⟨q, hm, by rw [Nat.beq_eq]⟩
      rw [this] at h2; cases h2
    · exact .inr ⟨Nat.le_of_ble_eq_true h1, by simpa using h2⟩
  let ι2 : Nat → Nat := fun i => if i < s.S.length then ι i else ι' (js.length + (i - s.S.length))
  let θ2 : Nat → Option Nat := fun q => if q < s.c then θ q else θ' (q - s.c)
  have ι2o : ∀ i, i < s.S.length → ι2 i = ι i := fun i hi => if_pos hi
  have ι2n : ∀ k, ι2 (s.S.length + k) = ι' (js.length + k) := fun k => by
    show (if _ then _ else _) = _
    rw [if_neg (by omega), show s.S.length + k - s.S.length = k by omega]
  have θ2o : ∀ q, q < s.c → θ2 q = θ q := fun q hq => if_pos hq
  have θ2n : ∀ q, θ2 (s.c + q) = θ' q := fun q => by
    show (if _ then _ else _) = _
    rw [if_neg (by omega), show s.c + q - s.c = q by omega]
  obtain ⟨l1, l2, l3, l4⟩ := layS_spec js s.S (S'.map (back.go (backF js s.S.length) s.c)) hj (fun i hi => by
    obtain ⟨k, hk⟩ := List.getElem?_of_mem hi
    exact hjs k i hk) (by rw [List.length_map]; exact hS')
  rw [List.length_map] at l1
  have hF : ∀ i, i < S'.length → ι2 (backF js s.S.length i) = ι' i ∧ backF js s.S.length i < (layS s.S js (S'.map (back.go (backF js s.S.length) s.c))).length := by
    intro i hi
    rw [l1]
    unfold backF
    by_cases hlt : i < js.length
    · have e : js[i]? = some js[i] := List.getElem?_eq_getElem hlt
      have hd : js.getD i 0 = js[i] := by rw [List.getD_eq_getElem?_getD, e]; rfl
      rw [show Nat.blt i js.length = true by simpa using hlt]
      simp only [cond_true]
      rw [hd, ι2o _ (hjs i _ e), hι i _ e]
      exact ⟨rfl, by have := hjs i _ e; omega⟩
    · rw [show Nat.blt i js.length = false by rw [← Bool.not_eq_true]; simpa using hlt]
      simp only [cond_false]
      rw [ι2n, show js.length + (i - js.length) = i by omega]
      exact ⟨rfl, by omega⟩
  have ht : ∀ q, q < toks → θ2 (s.c + q) = θ' q ∧ (((s.O (s.c + q) && !ts.any (Nat.beq (s.c + q))) || (Nat.ble s.c (s.c + q) && Nat.blt (s.c + q) (s.c + toks))) = true → (fin S' toks js.length).O q = true) := by
    intro q hq
    exact ⟨θ2n q, fun _ => by show Nat.blt q toks = true; simpa using hq⟩
  have bk : ∀ v x, rv M' ι' v x → tc w' M' θ' (fin S' toks js.length).O toks v x → within S'.length v →
        rv M' ι2 (back (backF js s.S.length) s.c v) x ∧
        tc w' M' θ2 (fun q => (s.O q && !ts.any (Nat.beq q)) || (Nat.ble s.c q && Nat.blt q (s.c + toks))) (s.c + toks) (back (backF js s.S.length) s.c v) x ∧
        within (layS s.S js (S'.map (back.go (backF js s.S.length) s.c))).length (back (backF js s.S.length) s.c v) := fun v x h1 h2 h3 =>
    back_ok (θ := θ') (O := (fin S' toks js.length).O) (c := toks) hF ht (Nat.le_refl _) v x h3 h1 h2
  -- the caller's old values
  have old : ∀ v x, rv M ι v x → tc w M θ s.O s.c v x → within s.S.length v →
        rv M' ι2 v x ∧ tc w' M' θ2 (fun q => (s.O q && !ts.any (Nat.beq q)) || (Nat.ble s.c q && Nat.blt q (s.c + toks))) (s.c + toks) v x ∧
        within (layS s.S js (S'.map (back.go (backF js s.S.length) s.c))).length v := by
    intro v x h1 h2 h3
    refine ⟨rv_objs ι2o v x h3 (rv_mono J.memle ι v x h1), tc_gen (by omega) (fun q hq hO => ?_) v x h2, within_mono (by rw [l1]; omega) v h3⟩
    rcases live q hO with ⟨_, k2, k3⟩ | ⟨k1, _⟩
    · refine ⟨k2, fun g hg => ⟨(θ2o q hq).trans hg, ?_⟩⟩
      exact J.keep g (I.tok q g k2 hg).1 (nx2 q g k2 k3 hg)
    · omega
  refine ⟨ι2, θ2, ⟨J.os.trans I.os, J.tape.trans I.tape, J.output.trans I.output, Nat.le_trans I.size J.size, Mem.le_trans I.memle J.memle, J.mem, ?_, ?_, ?_, ?_, ?_, ?_, ?_⟩, ⟨T.n, T.d, fun t => ?_⟩, bk⟩
  · intro b hb hx
    obtain ⟨k1, k2⟩ := I.keep b hb hx
    have hnx : ¬ ((∃ (k i : Nat), js[k]? = some i ∧ b = ι i) ∨ ∃ q, q ∈ ts ∧ s.O q = true ∧ θ q = some b) := fun h => by
      rcases XX b h with h | h
      · exact hx h
      · omega
    obtain ⟨e1, e2⟩ := J.keep b (Nat.lt_of_lt_of_le hb I.size) hnx
    exact ⟨e1.trans k1, fun i => (e2 i).trans (k2 i)⟩
  · intro i cs hi
    have hi : (layS s.S js (S'.map (back.go (backF js s.S.length) s.c)))[i]? = some cs := hi
    have newObj : ∀ k, ((S'.map (back.go (backF js s.S.length) s.c))[k]? = some cs) → ι2 i = ι' k → (∃ vs e, w'.heap[ι2 i]? = some (.cells vs e (0, 0)) ∧ vs.size = cs.length ∧ (∀ k, M' (ι2 i) k = none) ∧ (X (ι2 i) ∨ w0.heap.size ≤ ι2 i) ∧
        ∀ (j : Nat) x, cs[j]? = some x → ∃ v, vs[j]? = some v ∧ v.oneCell' = true ∧ rv M' ι2 x v ∧
          tc w' M' θ2 (fun q => (s.O q && !ts.any (Nat.beq q)) || (Nat.ble s.c q && Nat.blt q (s.c + toks))) (s.c + toks) x v ∧
          within (layS s.S js (S'.map (back.go (backF js s.S.length) s.c))).length x) := by
      intro k hk hik
      rw [List.getElem?_map] at hk
      obtain ⟨cs', h1, rfl⟩ := Option.map_eq_some_iff.1 hk
      obtain ⟨vs, e, g1, g2, g3, g4, g5⟩ := J.obj k cs' h1
      have hlen : ∀ l : List TV, (back.go (backF js s.S.length) s.c l).length = l.length := by
        intro l; induction l with
        | nil => rfl
        | cons x l ih => show (_ :: _).length = _; simp [ih]
      have hgt : ∀ (l : List TV) (j : Nat) x, (back.go (backF js s.S.length) s.c l)[j]? = some x → ∃ y, l[j]? = some y ∧ x = back (backF js s.S.length) s.c y := by
        intro l
        induction l with
        | nil => intro j x h; exact absurd h (by show ([] : List TV)[j]? ≠ _; simp)
        | cons z l ih =>
          intro j x h
          have h : (back (backF js s.S.length) s.c z :: back.go (backF js s.S.length) s.c l)[j]? = some x := h
          cases j with
          | zero => simp at h; exact ⟨z, rfl, h.symm⟩
          | succ j =>
            obtain ⟨y, k1, k2⟩ := ih j x (by simpa using h)
            exact ⟨y, by simpa using k1, k2⟩
      rw [hik]
      refine ⟨vs, e, g1, by rw [g2, hlen], g3, ?_, fun j x hx => ?_⟩
      · rcases g4 with g4 | g4
        · exact XX _ g4
        · exact .inr (Nat.le_trans I.size g4)
      · obtain ⟨y, k1, rfl⟩ := hgt cs' j x hx
        obtain ⟨v, u1, u2, u3, u4, u5⟩ := g5 j y k1
        obtain ⟨b1, b2, b3⟩ := bk y v u3 u4 u5
        exact ⟨v, u1, u2, b1, b2, b3⟩
    by_cases hlt : i < s.S.length
    · by_cases hm : i ∈ js
      · obtain ⟨k, hk⟩ := List.getElem?_of_mem hm
        rw [l2 k i hk] at hi
        exact newObj k hi (by rw [ι2o i hlt, hι k i hk])
      · rw [l3 i hlt hm] at hi
        obtain ⟨vs, e, g1, g2, g3, g4, g5⟩ := I.obj i cs hi
        obtain ⟨e1, e2⟩ := J.keep (ι i) (hιlt i hlt) (nx1 i hlt hm)
        rw [ι2o i hlt]
        refine ⟨vs, e, e1.trans g1, g2, fun k => (e2 k).trans (g3 k), g4, fun j x hx => ?_⟩
        obtain ⟨v, u1, u2, u3, u4, u5⟩ := g5 j x hx
        obtain ⟨b1, b2, b3⟩ := old x v u3 u4 u5
        exact ⟨v, u1, u2, b1, b2, b3⟩
    · obtain ⟨k, rfl⟩ : ∃ k, i = s.S.length + k := ⟨i - s.S.length, by omega⟩
      rw [l4 k] at hi
      exact newObj _ hi (ι2n k)
  · intro i j hi hjj e
    have hi : i < (layS s.S js (S'.map (back.go (backF js s.S.length) s.c))).length := hi
    have hjj : j < (layS s.S js (S'.map (back.go (backF js s.S.length) s.c))).length := hjj
    rw [l1] at hi hjj
    have mixed : ∀ i k, i < s.S.length → js.length + k < S'.length → ι i = ι' (js.length + k) → False := by
      intro i k hi hk e
      obtain ⟨vs, e', _, _, _, g4, _⟩ := J.obj (js.length + k) _ (List.getElem?_eq_getElem hk)
      by_cases hm : i ∈ js
      · obtain ⟨k', hk'⟩ := List.getElem?_of_mem hm
        rw [← hι k' i hk'] at e
        have hk'lt := (List.getElem?_eq_some_iff.1 hk').1
        have := J.inj k' (js.length + k) (by show k' < S'.length; omega) hk e
        omega
      · rcases g4 with g4 | g4
        · rw [← e] at g4; exact nx1 i hi hm g4
        · have := hιlt i hi; omega
    by_cases h1 : i < s.S.length <;> by_cases h2 : j < s.S.length
    · rw [ι2o i h1, ι2o j h2] at e
      exact I.inj i j h1 h2 e
    · obtain ⟨k, rfl⟩ : ∃ k, j = s.S.length + k := ⟨j - s.S.length, by omega⟩
      rw [ι2o i h1, ι2n] at e
      exact (mixed i k h1 (by omega) e).elim
    · obtain ⟨k, rfl⟩ : ∃ k, i = s.S.length + k := ⟨i - s.S.length, by omega⟩
      rw [ι2o j h2, ι2n] at e
      exact (mixed j k h2 (by omega) e.symm).elim
    · obtain ⟨k, rfl⟩ : ∃ k, i = s.S.length + k := ⟨i - s.S.length, by omega⟩
      obtain ⟨k2, rfl⟩ : ∃ k, j = s.S.length + k := ⟨j - s.S.length, by omega⟩
      rw [ι2n, ι2n] at e
      have := J.inj (js.length + k) (js.length + k2) (by show _ < S'.length; omega) (by show _ < S'.length; omega) e
      omega
  · intro q g hq hg
    have hq := live q hq
    rcases hq with ⟨k1, k2, k3⟩ | ⟨k1, k2⟩
    · have hg : θ q = some g := (θ2o q k1).symm.trans hg
      obtain ⟨t1, t2, t3⟩ := I.tok q g k2 hg
      refine ⟨Nat.lt_of_lt_of_le t1 J.size, t2, fun i hi => ?_⟩
      have hi : i < (layS s.S js (S'.map (back.go (backF js s.S.length) s.c))).length := hi
      rw [l1] at hi
      by_cases h1 : i < s.S.length
      · rw [ι2o i h1]; exact t3 i h1
      · obtain ⟨k, rfl⟩ : ∃ k, i = s.S.length + k := ⟨i - s.S.length, by omega⟩
        rw [ι2n]
        intro e
        obtain ⟨vs, e', _, _, _, g4, _⟩ := J.obj (js.length + k) _ (List.getElem?_eq_getElem (by show _ < S'.length; omega))
        rcases g4 with g4 | g4
        · rw [e] at g4; exact nx2 q g k2 k3 hg g4
        · omega
    · obtain ⟨p, rfl⟩ : ∃ p, q = s.c + p := ⟨q - s.c, by omega⟩
      have hg : θ' p = some g := (θ2n p).symm.trans hg
      obtain ⟨t1, t2, t3⟩ := J.tok p g (by show Nat.blt p toks = true; simp; omega) hg
      refine ⟨t1, ?_, fun i hi => ?_⟩
      · rcases t2 with t2 | t2
        · exact XX g t2
        · exact .inr (Nat.le_trans I.size t2)
      · have hi : i < (layS s.S js (S'.map (back.go (backF js s.S.length) s.c))).length := hi
        rw [l1] at hi
        by_cases h1 : i < s.S.length
        · rw [ι2o i h1]
          by_cases hm : i ∈ js
          · obtain ⟨k', hk'⟩ := List.getElem?_of_mem hm
            rw [← hι k' i hk']
            have hk'lt := (List.getElem?_eq_some_iff.1 hk').1
            exact t3 k' (by show k' < S'.length; omega)
          · intro e
            rcases t2 with t2 | t2
            · rw [← e] at t2; exact nx1 i h1 hm t2
            · have := hιlt i h1; omega
        · obtain ⟨k, rfl⟩ : ∃ k, i = s.S.length + k := ⟨i - s.S.length, by omega⟩
          rw [ι2n]
          exact t3 _ (by show _ < S'.length; omega)
  · intro q hq
    rcases live q hq with ⟨k1, _⟩ | ⟨_, k2⟩
    · show q < s.c + toks; omega
    · exact k2
  · intro p q g hp hq hpg hqg
    have cross : ∀ p q, (p < s.c ∧ s.O p = true ∧ p ∉ ts) → (s.c ≤ q ∧ q < s.c + toks) → θ2 p = some g → θ2 q = some g → False := by
      rintro p q ⟨a1, a2, a3⟩ ⟨b1, b2⟩ hpg hqg
      rw [θ2o p a1] at hpg
      obtain ⟨q', rfl⟩ : ∃ q', q = s.c + q' := ⟨q - s.c, by omega⟩
      rw [θ2n] at hqg
      obtain ⟨_, t2, _⟩ := J.tok q' g (by show Nat.blt q' toks = true; simp; omega) hqg
      rcases t2 with t2 | t2
      · exact nx2 p g a2 a3 hpg t2
      · have := (I.tok p g a2 hpg).1; omega
    rcases live p hp with hp | hp <;> rcases live q hq with hq | hq
    · rw [θ2o p hp.1] at hpg
      rw [θ2o q hq.1] at hqg
      exact I.one p q g hp.2.1 hq.2.1 hpg hqg
    · exact (cross p q hp hq hpg hqg).elim
    · exact (cross q p hq hp hqg hpg).elim
    · obtain ⟨p', rfl⟩ : ∃ q', p = s.c + q' := ⟨p - s.c, by omega⟩
      obtain ⟨q', rfl⟩ : ∃ q', q = s.c + q' := ⟨q - s.c, by omega⟩
      rw [θ2n] at hpg hqg
      have := J.one p' q' g (by show Nat.blt p' toks = true; simp; omega) (by show Nat.blt q' toks = true; simp; omega) hpg hqg
      rw [this]
  · refine ⟨I.base.1, ?_, fun i hi => ?_⟩
    · show X.n ≤ (layS s.S js (S'.map (back.go (backF js s.S.length) s.c))).length
      have := I.base.2.1
      rw [l1]; omega
    · rw [ι2o i (Nat.lt_of_lt_of_le hi I.base.2.1)]
      exact I.base.2.2 i hi
  · obtain ⟨h1, h2, h3⟩ := T.v t
    exact old _ _ h1 h2 h3

end
end Go.Proofs.Ytnojkokhfmgcfaa.Den
