/- Changes of memory: a new object, an object's cells written, a new row that is never written again. No conditions: laws. -/
import Derived.Test.YtnojkokhfmgcfaaDen8
namespace Go.Proofs.Ytnojkokhfmgcfaa.Den
open Go

section
variable {w0 : World} {M0 : Mem} {X : Fr} {s : St} {w : World} {M : Mem} {ι : Nat → Nat} {θ : Nat → Option Nat} {a : Act}

theorem cell_congr {w w1 : World} {b : Nat} (h : w1.heap[b]? = w.heap[b]?) (i : Nat) : w1.cell? ⟨b, i, none⟩ = w.cell? ⟨b, i, none⟩ := by
  unfold World.cell?
  rw [h]

theorem alloc_size (w : World) (o : Go.Obj) : (w.alloc o).heap.size = w.heap.size + 1 := by
  show (w.heap.push o).size = _
  simp

mutual
theorem within_mono {m m' : Nat} (h : m ≤ m') : ∀ (x : TV), within m x → within m' x
  | .undef, _ => trivial
  | .skip, _ => trivial
  | .bool _, _ => trivial
  | .int _ _, _ => trivial
  | .str _, _ => trivial
  | .sl _ _ _ _, _ => trivial
  | .st _ _, _ => trivial
  | .ep _ _, _ => trivial
  | .ptr _ _, k => Nat.lt_of_lt_of_le k h
  | .nilp, _ => trivial
  | .fn _ l, k => withins_mono h l k
  | .nilfn, _ => trivial
  | .tup l, k => withins_mono h l k
theorem withins_mono {m m' : Nat} (h : m ≤ m') : ∀ (x : List TV), withins m x → withins m' x
  | [], _ => trivial
  | x :: xs, k => ⟨within_mono h x k.1, withins_mono h xs k.2⟩
end

/-- Cells for an object, as the state must have them. -/
def fits (w : World) (M : Mem) (ι : Nat → Nat) (θ : Nat → Option Nat) (O : Nat → Bool) (c m : Nat) (cs : List TV) (vs : Array Value) : Prop :=
  vs.size = cs.length ∧ ∀ (j : Nat) x, cs[j]? = some x → ∃ v, vs[j]? = some v ∧ v.oneCell' = true ∧ rv M ι x v ∧ tc w M θ O c x v ∧ within m x

theorem fits_flat {O : Nat → Bool} {c m : Nat} {cs : List TV} {vs : List Value} (h : celled M ι cs vs) (hf : ∀ y ∈ cs, flat y = true) (h1 : ∀ v ∈ vs, v.oneCell' = true) : fits w M ι θ O c m cs vs.toArray := by
  refine ⟨by simpa using h.1, fun j x hx => ?_⟩
  obtain ⟨v, k1, k2⟩ := h.2 j x hx
  have hfx := hf x (List.mem_of_getElem? hx)
  refine ⟨v, by simpa using k1, h1 v (List.mem_of_getElem? k1), k2, ?_, ?_⟩
  · cases x <;> simp [flat] at hfx <;> (try trivial)
    rename_i t f nl l
    cases f <;> simp at hfx <;> trivial
  · cases x <;> simp [flat] at hfx <;> trivial

theorem Inv.alloc (I : Inv w0 M0 X s w M ι θ) {vs : Array Value} {e : TypeId} {cs : List TV} (hc : fits w M ι θ s.O s.c s.S.length cs vs) :
    Inv w0 M0 X { s with S := s.S ++ [cs] } (w.alloc (.cells vs e)) M (upd ι s.S.length w.heap.size) θ := by
  have old : ∀ b, b < w.heap.size → (w.alloc (.cells vs e)).heap[b]? = w.heap[b]? := fun b hb => heap_alloc_old w _ hb
  have hι : ∀ i, i < s.S.length → upd ι s.S.length w.heap.size i = ι i := by
    intro i hi
    unfold upd
    rw [show Nat.beq i s.S.length = false by rw [← Bool.not_eq_true, Nat.beq_eq]; omega]
    rfl
  have hιn : upd ι s.S.length w.heap.size s.S.length = w.heap.size := by
    unfold upd
    rw [show Nat.beq s.S.length s.S.length = true by rw [Nat.beq_eq]]
    rfl
  have hιlt : ∀ i, i < s.S.length → ι i < w.heap.size := by
    intro i hi
    obtain ⟨vs', e', h1, _⟩ := I.obj i _ (List.getElem?_eq_getElem hi)
    exact block_lt h1
  have htc : ∀ x v, tc w M θ s.O s.c x v → tc (w.alloc (.cells vs e)) M θ s.O s.c x v := fun x v h => tc_step (fun _ h => h) (Nat.le_refl _) (fun q g hq hg => ⟨old g (I.tok q g hq hg).1, fun _ => rfl⟩) x v h
  refine ⟨I.os, I.tape, I.output, ?_, I.memle, ?_, ?_, ?_, ?_, ?_, I.tokc, I.one, I.base.1, by have := I.base.2.1; simp; omega, fun i hi => (hι i (Nat.lt_of_lt_of_le hi I.base.2.1)).trans (I.base.2.2 i hi)⟩
  · have := I.size; rw [alloc_size]; omega
  · intro b i v h
    rw [cell_congr (old b (mem_lt I.mem h))]; exact I.mem b i v h
  · intro b hb hx
    obtain ⟨h1, h2⟩ := I.keep b hb hx
    exact ⟨(old b (Nat.lt_of_lt_of_le hb I.size)).trans h1, h2⟩
  · intro i cs' hcs
    simp only [List.length_append, List.length_singleton] at hcs ⊢
    by_cases hi : i < s.S.length
    · rw [List.getElem?_append_left hi] at hcs
      obtain ⟨vs', e', h1, h2, h3, h4, h5⟩ := I.obj i cs' hcs
      rw [hι i hi]
      refine ⟨vs', e', (old _ (block_lt h1)).trans h1, h2, h3, h4, fun j x hx => ?_⟩
      obtain ⟨v, k1, k2, k3, k4, k5⟩ := h5 j x hx
      exact ⟨v, k1, k2, rv_objs hι x v k5 k3, htc x v k4, within_mono (by omega) x k5⟩
    · have hi' : i = s.S.length := by
        have := (List.getElem?_eq_some_iff.1 hcs).1
        simp at this; omega
      subst hi'
      simp at hcs
      subst hcs
      rw [hιn]
      refine ⟨vs, e, heap_alloc_new w _, hc.1, fun k => ?_, .inr I.size, fun j x hx => ?_⟩
      · cases hm : M w.heap.size k with
        | none => rfl
        | some v => exact absurd (mem_lt I.mem hm) (Nat.lt_irrefl _)
      · obtain ⟨v, k1, k2, k3, k4, k5⟩ := hc.2 j x hx
        exact ⟨v, k1, k2, rv_objs hι x v k5 k3, htc x v k4, within_mono (by omega) x k5⟩
  · intro i j hi hj hij
    simp only [List.length_append, List.length_singleton] at hi hj
    by_cases h1 : i < s.S.length <;> by_cases h2 : j < s.S.length
    · rw [hι i h1, hι j h2] at hij; exact I.inj i j h1 h2 hij
    · have : j = s.S.length := by omega
      subst this
      rw [hι i h1, hιn] at hij
      have := hιlt i h1; omega
    · have : i = s.S.length := by omega
      subst this
      rw [hι j h2, hιn] at hij
      have := hιlt j h2; omega
    · omega
  · intro q g hq hg
    obtain ⟨h1, h2, h3⟩ := I.tok q g hq hg
    refine ⟨by rw [alloc_size]; omega, h2, fun i hi => ?_⟩
    simp only [List.length_append, List.length_singleton] at hi
    by_cases h4 : i < s.S.length
    · rw [hι i h4]; exact h3 i h4
    · have : i = s.S.length := by omega
      subst this
      rw [hιn]; omega

theorem TInv.alloc (T : TInv s w M ι θ a) (I : Inv w0 M0 X s w M ι θ) (o : Go.Obj) (cs : List TV) :
    TInv { s with S := s.S ++ [cs] } (w.alloc o) M (upd ι s.S.length w.heap.size) θ a where
  n := T.n
  d := T.d
  v := fun t => by
    obtain ⟨h1, h2, h3⟩ := T.v t
    have hι : ∀ i, i < s.S.length → upd ι s.S.length w.heap.size i = ι i := by
      intro i hi
      unfold upd
      rw [show Nat.beq i s.S.length = false by rw [← Bool.not_eq_true, Nat.beq_eq]; omega]
      rfl
    exact ⟨rv_objs hι _ _ h3 h1, tc_step (fun _ h => h) (Nat.le_refl _) (fun q g hq hg => ⟨heap_alloc_old w _ (I.tok q g hq hg).1, fun _ => rfl⟩) _ _ h2, within_mono (by simp) _ h3⟩

/-- An object's cells are written. -/
theorem Inv.store (I : Inv w0 M0 X s w M ι θ) {i : Nat} {cs cs' : List TV} (hi : s.S[i]? = some cs) {w1 : World} {vs' : Array Value} {e : TypeId}
    (hos : w1.os = w.os) (htape : w1.tape = w.tape) (hout : w1.output = w.output) (hsz : w1.heap.size = w.heap.size) (hold : ∀ b, b ≠ ι i → w1.heap[b]? = w.heap[b]?)
    (hnew : w1.heap[ι i]? = some (.cells vs' e (0, 0))) (hc : fits w M ι θ s.O s.c s.S.length cs' vs') :
    Inv w0 M0 X { s with S := s.S.set i cs' } w1 M ι θ := by
  have hil : i < s.S.length := (List.getElem?_eq_some_iff.1 hi).1
  obtain ⟨vs0, e0, g1, g2, g3, g4, _⟩ := I.obj i cs hi
  have htc : ∀ x v, tc w M θ s.O s.c x v → tc w1 M θ s.O s.c x v := fun x v h => tc_step (fun _ h => h) (Nat.le_refl _) (fun q g hq hg => ⟨hold g (fun e => (I.tok q g hq hg).2.2 i hil e.symm), fun _ => rfl⟩) x v h
  refine ⟨hos.trans I.os, htape.trans I.tape, hout.trans I.output, by rw [hsz]; exact I.size, I.memle, ?_, ?_, ?_, ?_, ?_, I.tokc, I.one, I.base.1, by rw [List.length_set]; exact I.base.2.1, I.base.2.2⟩
  · intro b j v h
    have hb : b ≠ ι i := by rintro rfl; rw [g3 j] at h; cases h
    rw [cell_congr (hold b hb)]; exact I.mem b j v h
  · intro b hb hx
    obtain ⟨h1, h2⟩ := I.keep b hb hx
    have hne : b ≠ ι i := by
      rintro rfl
      rcases g4 with g4 | g4
      · exact hx g4
      · omega
    exact ⟨(hold b hne).trans h1, h2⟩
  · intro j cs1 hj
    simp only [List.length_set]
    by_cases hji : j = i
    · subst hji
      rw [List.getElem?_set_self hil] at hj
      cases hj
      refine ⟨vs', e, hnew, hc.1, g3, g4, fun k x hx => ?_⟩
      obtain ⟨v, k1, k2, k3, k4, k5⟩ := hc.2 k x hx
      exact ⟨v, k1, k2, k3, htc x v k4, k5⟩
    · rw [List.getElem?_set_ne (Ne.symm hji)] at hj
      obtain ⟨vs1, e1, h1, h2, h3, h4, h5⟩ := I.obj j cs1 hj
      have hjl : j < s.S.length := (List.getElem?_eq_some_iff.1 hj).1
      refine ⟨vs1, e1, (hold _ (fun e => hji (I.inj j i hjl hil e))).trans h1, h2, h3, h4, fun k x hx => ?_⟩
      obtain ⟨v, k1, k2, k3, k4, k5⟩ := h5 k x hx
      exact ⟨v, k1, k2, k3, htc x v k4, k5⟩
  · intro p q hp hq
    simp only [List.length_set] at hp hq
    exact I.inj p q hp hq
  · intro q g hq hg
    obtain ⟨h1, h2, h3⟩ := I.tok q g hq hg
    refine ⟨by rw [hsz]; exact h1, h2, fun k hk => ?_⟩
    simp only [List.length_set] at hk
    exact h3 k hk

theorem TInv.store (T : TInv s w M ι θ a) (I : Inv w0 M0 X s w M ι θ) {i : Nat} {cs cs' : List TV} (hi : s.S[i]? = some cs) {w1 : World} (hold : ∀ b, b ≠ ι i → w1.heap[b]? = w.heap[b]?) :
    TInv { s with S := s.S.set i cs' } w1 M ι θ a where
  n := T.n
  d := T.d
  v := fun t => by
    obtain ⟨h1, h2, h3⟩ := T.v t
    have hil : i < s.S.length := (List.getElem?_eq_some_iff.1 hi).1
    exact ⟨h1, tc_step (fun _ h => h) (Nat.le_refl _) (fun q g hq hg => ⟨hold g (fun e => (I.tok q g hq hg).2.2 i hil e.symm), fun _ => rfl⟩) _ _ h2, by simpa using h3⟩

/-- A new row's first cells are never written again. -/
def rowM (M : Mem) (g : Nat) (vs : List Value) : Mem := fun b i => bif Nat.beq b g then vs[i]? else M b i

theorem rowM_new (M : Mem) (g : Nat) (vs : List Value) (i : Nat) : rowM M g vs g i = vs[i]? := by
  unfold rowM; rw [show Nat.beq g g = true by rw [Nat.beq_eq]]; rfl
theorem rowM_old (M : Mem) {g b : Nat} (vs : List Value) (i : Nat) (h : b ≠ g) : rowM M g vs b i = M b i := by
  unfold rowM; rw [show Nat.beq b g = false by rw [← Bool.not_eq_true, Nat.beq_eq]; exact h]; rfl
theorem rowM_le (I : Inv w0 M0 X s w M ι θ) (vs : List Value) : M.le (rowM M w.heap.size vs) := by
  intro b i v h
  rw [rowM_old M vs i (Nat.ne_of_lt (mem_lt I.mem h))]; exact h

theorem Inv.row (I : Inv w0 M0 X s w M ι θ) {w1 : World} {vs : List Value} {cur : Array Value} {e : TypeId} {fr : Nat × Nat}
    (hos : w1.os = w.os) (htape : w1.tape = w.tape) (hout : w1.output = w.output) (hsz : w.heap.size ≤ w1.heap.size) (hold : ∀ b, b < w.heap.size → w1.heap[b]? = w.heap[b]?)
    (hnew : w1.heap[w.heap.size]? = some (.cells cur e fr)) (hcur : ∀ (i : Nat) v, vs[i]? = some v → cur[i]? = some v) :
    Inv w0 M0 X s w1 (rowM M w.heap.size vs) ι θ :=
  I.step hos htape hout hsz (rowM_le I vs) (fun b i v h => by
    by_cases hb : b = w.heap.size
    · subst hb
      rw [rowM_new] at h
      rw [cell_at hnew]
      exact hcur i v h
    · rw [rowM_old M vs i hb] at h
      rw [cell_congr (hold b (mem_lt I.mem h))]
      exact I.mem b i v h) (fun _ h => h) (Nat.le_refl _) I.tokc (fun b hb _ => ⟨hold b hb, fun i => rowM_old M vs i (Nat.ne_of_lt hb)⟩)
theorem TInv.row (T : TInv s w M ι θ a) (I : Inv w0 M0 X s w M ι θ) {w1 : World} {vs : List Value} (hold : ∀ b, b < w.heap.size → w1.heap[b]? = w.heap[b]?) :
    TInv s w1 (rowM M w.heap.size vs) ι θ a :=
  T.step I (rowM_le I vs) (fun _ h => h) (Nat.le_refl _) (fun b hb _ => ⟨hold b hb, fun i => rowM_old M vs i (Nat.ne_of_lt hb)⟩)

end
end Go.Proofs.Ytnojkokhfmgcfaa.Den
