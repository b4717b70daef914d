/- The state of plain data and the machine's state side by side, and what a change of memory leaves of it. No conditions: definitions and laws. -/
import Derived.Test.YtnojkokhfmgcfaaDen3
namespace Go.Proofs.Ytnojkokhfmgcfaa.Den
open Go

/-- Blocks that may be written; how many objects there were, and where. -/
structure Fr where
  X : Nat → Prop
  n : Nat
  ι : Nat → Nat
instance : CoeFun Fr fun _ => Nat → Prop := ⟨Fr.X⟩

structure Inv (w0 : World) (M0 : Mem) (X : Fr) (s : St) (w : World) (M : Mem) (ι : Nat → Nat) (θ : Nat → Option Nat) : Prop where
  os : w.os = w0.os
  tape : w.tape = w0.tape
  output : w.output = w0.output
  size : w0.heap.size ≤ w.heap.size
  memle : M0.le M
  mem : ∀ b i v, M b i = some v → w.cell? ⟨b, i, none⟩ = some v
  keep : ∀ b, b < w0.heap.size → ¬ X b → w.heap[b]? = w0.heap[b]? ∧ ∀ i, M b i = M0 b i
  obj : ∀ (i : Nat) cs, s.S[i]? = some cs → ∃ vs e, w.heap[ι i]? = some (.cells vs e (0, 0)) ∧ vs.size = cs.length ∧ (∀ k, M (ι i) k = none) ∧ (X (ι i) ∨ w0.heap.size ≤ ι i) ∧
    ∀ (j : Nat) x, cs[j]? = some x → ∃ v, vs[j]? = some v ∧ v.oneCell' = true ∧ rv M ι x v ∧ tc w M θ s.O s.c x v ∧ within s.S.length x
  inj : ∀ i j, i < s.S.length → j < s.S.length → ι i = ι j → i = j
  tok : ∀ q g, s.O q = true → θ q = some g → g < w.heap.size ∧ (X g ∨ w0.heap.size ≤ g) ∧ ∀ i, i < s.S.length → ι i ≠ g
  tokc : ∀ q, s.O q = true → q < s.c
  one : ∀ p q g, s.O p = true → s.O q = true → θ p = some g → θ q = some g → p = q
  base : s.b = X.n ∧ X.n ≤ s.S.length ∧ ∀ i, i < X.n → ι i = X.ι i

structure TInv (s : St) (w : World) (M : Mem) (ι : Nat → Nat) (θ : Nat → Option Nat) (a : Act) : Prop where
  n : a.tmps.size = s.n
  d : a.defers = []
  v : ∀ t, rv M ι (s.T t) (a.tmps.getD t Go.undef) ∧ tc w M θ s.O s.c (s.T t) (a.tmps.getD t Go.undef) ∧ within s.S.length (s.T t)

theorem block_lt {w : World} {b : Nat} {o : Go.Obj} (h : w.heap[b]? = some o) : b < w.heap.size := (Array.getElem?_eq_some_iff.1 h).1
theorem mem_lt {w : World} {M : Mem} (hm : ∀ b i v, M b i = some v → w.cell? ⟨b, i, none⟩ = some v) {b i : Nat} {v : Value} (h : M b i = some v) : b < w.heap.size :=
  World.block_lt_of_cell? w _ (hm b i v h)

mutual
theorem tc_step {w w1 : World} {M M1 : Mem} {θ : Nat → Option Nat} {O O1 : Nat → Bool} {c c1 : Nat} (hO : ∀ q, O1 q = true → O q = true) (hc : c ≤ c1)
    (hk : ∀ q g, O1 q = true → θ q = some g → w1.heap[g]? = w.heap[g]? ∧ ∀ i, M1 g i = M g i) : ∀ (x : TV) (v : Value), tc w M θ O c x v → tc w1 M1 θ O1 c1 x v
  | .sl t (.own q) _ _, v, h => by
    refine ⟨Nat.lt_of_lt_of_le h.1 hc, fun hq a n cc hv => ?_⟩
    rcases h.2 (hO q hq) a n cc hv with h1 | h1 | ⟨g, e, cur, h1, h2, h3, h4, h5⟩
    · exact .inl h1
    · exact .inr (.inl h1)
    · obtain ⟨k1, k2⟩ := hk q g hq h2
      exact .inr (.inr ⟨g, e, cur, h1, h2, k1.trans h3, h4, fun i hi => (k2 i).trans (h5 i hi)⟩)
  | .sl _ .sh _ _, _, _ => trivial
  | .sl _ .full _ _, _, _ => trivial
  | .tup l, v, h => fun vs hv => tcs_step hO hc hk l vs (h vs hv)
  | .undef, _, _ => trivial
  | .skip, _, _ => trivial
  | .bool _, _, _ => trivial
  | .int _ _, _, _ => trivial
  | .str _, _, _ => trivial
  | .st _ _, _, _ => trivial
  | .ep _ _, _, _ => trivial
  | .ptr _ _, _, _ => trivial
  | .nilp, _, _ => trivial
  | .fn _ _, _, _ => trivial
  | .nilfn, _, _ => trivial
theorem tcs_step {w w1 : World} {M M1 : Mem} {θ : Nat → Option Nat} {O O1 : Nat → Bool} {c c1 : Nat} (hO : ∀ q, O1 q = true → O q = true) (hc : c ≤ c1)
    (hk : ∀ q g, O1 q = true → θ q = some g → w1.heap[g]? = w.heap[g]? ∧ ∀ i, M1 g i = M g i) : ∀ (x : List TV) (v : List Value), tcs w M θ O c x v → tcs w1 M1 θ O1 c1 x v
  | [], [], _ => trivial
  | [], _ :: _, _ => trivial
  | _ :: _, [], _ => trivial
  | x :: xs, v :: vs, h => ⟨tc_step hO hc hk x v h.1, tcs_step hO hc hk xs vs h.2⟩
end

mutual
/-- A new token's block: the old ones say what they said. -/
theorem tc_more {w : World} {M : Mem} {θ : Nat → Option Nat} {O : Nat → Bool} {c : Nat} (g : Option Nat) : ∀ (x : TV) (v : Value), tc w M θ O c x v → tc w M (upd θ c g) (upd O c true) (c + 1) x v
  | .sl t (.own q) _ _, v, h => by
    have hne : Nat.beq q c = false := by
      cases hb : Nat.beq q c with
      | false => rfl
      | true => have := Nat.eq_of_beq_eq_true hb; have := h.1; omega
    refine ⟨Nat.lt_succ_of_lt h.1, fun hq => ?_⟩
    have hq' : O q = true := by simpa [upd, hne] using hq
    intro a n cc hv
    rcases h.2 hq' a n cc hv with h1 | h1 | ⟨g, e, cur, h1, h2, h3, h4, h5⟩
    · exact .inl h1
    · exact .inr (.inl h1)
    · exact .inr (.inr ⟨g, e, cur, h1, by simpa [upd, hne] using h2, h3, h4, h5⟩)
  | .sl _ .sh _ _, _, _ => trivial
  | .sl _ .full _ _, _, _ => trivial
  | .tup l, v, h => fun vs hv => tcs_more g l vs (h vs hv)
  | .undef, _, _ => trivial
  | .skip, _, _ => trivial
  | .bool _, _, _ => trivial
  | .int _ _, _, _ => trivial
  | .str _, _, _ => trivial
  | .st _ _, _, _ => trivial
  | .ep _ _, _, _ => trivial
  | .ptr _ _, _, _ => trivial
  | .nilp, _, _ => trivial
  | .fn _ _, _, _ => trivial
  | .nilfn, _, _ => trivial
theorem tcs_more {w : World} {M : Mem} {θ : Nat → Option Nat} {O : Nat → Bool} {c : Nat} (g : Option Nat) : ∀ (x : List TV) (v : List Value), tcs w M θ O c x v → tcs w M (upd θ c g) (upd O c true) (c + 1) x v
  | [], [], _ => trivial
  | [], _ :: _, _ => trivial
  | _ :: _, [], _ => trivial
  | x :: xs, v :: vs, h => ⟨tc_more g x v h.1, tcs_more g xs vs h.2⟩
end

section
variable {w0 : World} {M0 : Mem} {X : Fr} {s : St} {w : World} {M : Mem} {ι : Nat → Nat} {θ : Nat → Option Nat} {a : Act}

/-- Memory changes where no object and no living token looks. -/
theorem Inv.step (h : Inv w0 M0 X s w M ι θ) {w1 : World} {M1 : Mem} {O1 : Nat → Bool} {c1 : Nat}
    (hos : w1.os = w.os) (htape : w1.tape = w.tape) (hout : w1.output = w.output) (hsz : w.heap.size ≤ w1.heap.size)
    (hM : M.le M1) (hmem : ∀ b i v, M1 b i = some v → w1.cell? ⟨b, i, none⟩ = some v)
    (hO : ∀ q, O1 q = true → s.O q = true) (hc : s.c ≤ c1) (hoc : ∀ q, O1 q = true → q < c1)
    (hk : ∀ b, b < w.heap.size → (∀ q, s.O q = true → O1 q = false → θ q = some b → False) → w1.heap[b]? = w.heap[b]? ∧ ∀ i, M1 b i = M b i) :
    Inv w0 M0 X { s with O := O1, c := c1 } w1 M1 ι θ where
  os := hos.trans h.os
  tape := htape.trans h.tape
  output := hout.trans h.output
  size := Nat.le_trans h.size hsz
  memle := Mem.le_trans h.memle hM
  mem := hmem
  keep := fun b hb hx => by
    obtain ⟨k1, k2⟩ := h.keep b hb hx
    obtain ⟨e1, e2⟩ := hk b (Nat.lt_of_lt_of_le hb h.size) (fun q hq _ hθ => by
      rcases (h.tok q b hq hθ).2.1 with hX | hlt
      · exact hx hX
      · omega)
    exact ⟨e1.trans k1, fun i => (e2 i).trans (k2 i)⟩
  obj := fun i cs hcs => by
    obtain ⟨vs, e, h1, h2, h3, h4, h5⟩ := h.obj i cs hcs
    have hi : i < s.S.length := (List.getElem?_eq_some_iff.1 hcs).1
    obtain ⟨e1, e2⟩ := hk (ι i) (block_lt h1) (fun q hq _ hθ => (h.tok q _ hq hθ).2.2 i hi rfl)
    refine ⟨vs, e, e1.trans h1, h2, fun k => (e2 k).trans (h3 k), h4, fun j x hx => ?_⟩
    obtain ⟨v, k1, k2, k3, k4, k5⟩ := h5 j x hx
    refine ⟨v, k1, k2, rv_mono hM ι x v k3, tc_step hO hc ?_ x v k4, k5⟩
    intro q g hq hθ
    exact hk g (h.tok q g (hO q hq) hθ).1 (fun p hp hp1 hpθ => by
      have := h.one p q g hp (hO q hq) hpθ hθ
      subst this
      rw [hq] at hp1
      exact Bool.noConfusion hp1)
  inj := h.inj
  tok := fun q g hq hθ => by
    obtain ⟨k1, k2, k3⟩ := h.tok q g (hO q hq) hθ
    exact ⟨Nat.lt_of_lt_of_le k1 hsz, k2, k3⟩
  tokc := hoc
  one := fun p q g hp hq => h.one p q g (hO p hp) (hO q hq)
  base := h.base

theorem TInv.step (t : TInv s w M ι θ a) (h : Inv w0 M0 X s w M ι θ) {w1 : World} {M1 : Mem} {O1 : Nat → Bool} {c1 : Nat}
    (hM : M.le M1) (hO : ∀ q, O1 q = true → s.O q = true) (hc : s.c ≤ c1)
    (hk : ∀ b, b < w.heap.size → (∀ q, s.O q = true → O1 q = false → θ q = some b → False) → w1.heap[b]? = w.heap[b]? ∧ ∀ i, M1 b i = M b i) :
    TInv { s with O := O1, c := c1 } w1 M1 ι θ a where
  n := t.n
  d := t.d
  v := fun x => by
    obtain ⟨h1, h2, h3⟩ := t.v x
    refine ⟨rv_mono hM ι _ _ h1, tc_step hO hc ?_ _ _ h2, h3⟩
    intro q g hq hθ
    exact hk g (h.tok q g (hO q hq) hθ).1 (fun p hp hp1 hpθ => by
      have := h.one p q g hp (hO q hq) hpθ hθ
      subst this
      rw [hq] at hp1
      exact Bool.noConfusion hp1)

theorem Inv.more (h : Inv w0 M0 X s w M ι θ) (g : Option Nat)
    (hg : ∀ b, g = some b → b < w.heap.size ∧ (X b ∨ w0.heap.size ≤ b) ∧ (∀ i, i < s.S.length → ι i ≠ b) ∧ ∀ q, s.O q = true → θ q ≠ some b) :
    Inv w0 M0 X s.more w M ι (upd θ s.c g) where
  base := h.base
  os := h.os
  tape := h.tape
  output := h.output
  size := h.size
  memle := h.memle
  mem := h.mem
  keep := h.keep
  obj := fun i cs hcs => by
    obtain ⟨vs, e, h1, h2, h3, h4, h5⟩ := h.obj i cs hcs
    refine ⟨vs, e, h1, h2, h3, h4, fun j x hx => ?_⟩
    obtain ⟨v, k1, k2, k3, k4, k5⟩ := h5 j x hx
    exact ⟨v, k1, k2, k3, tc_more g x v k4, k5⟩
  inj := h.inj
  tok := fun q b hq hθ => by
    simp only [St.more, upd] at hq hθ
    cases hb : Nat.beq q s.c with
    | true =>
      rw [hb] at hθ
      simp only [cond_true] at hθ
      obtain ⟨h1, h2, h3, _⟩ := hg b hθ
      exact ⟨h1, h2, h3⟩
    | false =>
      rw [hb] at hq hθ
      simp only [cond_false] at hq hθ
      exact h.tok q b hq hθ
  tokc := fun q hq => by
    simp only [St.more, upd] at hq ⊢
    cases hb : Nat.beq q s.c with
    | true => have := Nat.eq_of_beq_eq_true hb; omega
    | false =>
      rw [hb] at hq
      have := h.tokc q hq
      omega
  one := fun p q b hp hq hpθ hqθ => by
    simp only [St.more, upd] at hp hq hpθ hqθ
    cases hb : Nat.beq p s.c with
    | true =>
      have e1 := Nat.eq_of_beq_eq_true hb
      rw [hb] at hpθ
      cases hb' : Nat.beq q s.c with
      | true => have e2 := Nat.eq_of_beq_eq_true hb'; omega
      | false =>
        rw [hb'] at hq hqθ
        exact absurd hqθ ((hg b hpθ).2.2.2 q hq)
    | false =>
      rw [hb] at hp hpθ
      cases hb' : Nat.beq q s.c with
      | true =>
        rw [hb'] at hqθ
        exact absurd hpθ ((hg b hqθ).2.2.2 p hp)
      | false =>
        rw [hb'] at hq hqθ
        exact h.one p q b hp hq hpθ hqθ

theorem TInv.more (t : TInv s w M ι θ a) (g : Option Nat) : TInv s.more w M ι (upd θ s.c g) a where
  n := t.n
  d := t.d
  v := fun x => by
    obtain ⟨h1, h2, h3⟩ := t.v x
    exact ⟨h1, tc_more g _ _ h2, h3⟩

theorem getD_set (A : Array Value) (d t : Nat) (v : Value) (hd : d < A.size) : (A.setIfInBounds d v).getD t Go.undef = bif Nat.beq t d then v else A.getD t Go.undef := by
  cases hb : Nat.beq t d with
  | true =>
    have e := Nat.eq_of_beq_eq_true hb
    subst e
    simp [Array.getD, hd]
  | false =>
    have hne : d ≠ t := by rintro rfl; simp at hb
    simp [Array.getD_eq_getD_getElem?, Array.getElem?_setIfInBounds_ne hne]

theorem put_in {s : St} {d : Nat} {x : TV} (h : d < s.n) : s.put (some d) x = { s with T := upd s.T d x } := by
  have hb : Nat.blt d s.n = true := by rw [Nat.blt_eq]; exact h
  show (bif Nat.blt d s.n then { s with T := upd s.T d x } else s) = _
  rw [hb]
  rfl
theorem put_out {s : St} {d : Nat} {x : TV} (h : ¬ d < s.n) : s.put (some d) x = s := by
  have hb : Nat.blt d s.n = false := by rw [← Bool.not_eq_true, Nat.blt_eq]; exact h
  show (bif Nat.blt d s.n then { s with T := upd s.T d x } else s) = _
  rw [hb]
  rfl

/-- A value is put into a slot. -/
theorem TInv.put (t : TInv s w M ι θ a) (d : Option Tmp) {x : TV} {v : Value} (h1 : rv M ι x v) (h2 : tc w M θ s.O s.c x v) (h3 : within s.S.length x) :
    TInv (s.put d x) w M ι θ (a.put d v) := by
  cases d with
  | none => exact t
  | some d =>
    by_cases hd : d < s.n
    · rw [put_in hd]
      have hd' : d < a.tmps.size := by rw [t.n]; exact hd
      refine ⟨by simpa [Act.put] using t.n, t.d, fun x' => ?_⟩
      rw [show (a.put (some d) v).tmps = a.tmps.setIfInBounds d v from rfl, getD_set _ _ _ _ hd']
      simp only [upd]
      cases Nat.beq x' d with
      | true => exact ⟨h1, h2, h3⟩
      | false => exact t.v x'
    · rw [put_out hd]
      have e : a.put (some d) v = a := by
        have hd' : ¬ d < a.tmps.size := by rw [t.n]; exact hd
        simp [Act.put, Array.setIfInBounds, hd']
      rw [e]
      exact t

theorem Inv.put (h : Inv w0 M0 X s w M ι θ) (d : Option Tmp) (x : TV) : Inv w0 M0 X (s.put d x) w M ι θ := by
  cases d with
  | none => exact h
  | some d =>
    by_cases hd : d < s.n
    · rw [put_in hd]
      exact ⟨h.os, h.tape, h.output, h.size, h.memle, h.mem, h.keep, h.obj, h.inj, h.tok, h.tokc, h.one, h.base⟩
    · rw [put_out hd]
      exact h
end

end Go.Proofs.Ytnojkokhfmgcfaa.Den
