/- Objects and tokens from the caller's numbers to the callee's, and back. No conditions: laws. -/
import Derived.Test.YtnojkokhfmgcfaaDen22
namespace Go.Proofs.Ytnojkokhfmgcfaa.Den
open Go

section
variable {w w1 : World} {M M1 : Mem} {ι ι' : Nat → Nat} {θ θ1 : Nat → Option Nat} {O O1 : Nat → Bool} {c c1 m m' : Nat}

mutual
theorem tc_gen (hc : c ≤ c1) (hk : ∀ q, q < c → O1 q = true → O q = true ∧ ∀ g, θ q = some g → θ1 q = some g ∧ w1.heap[g]? = w.heap[g]? ∧ ∀ i, M1 g i = M g i) :
    ∀ (x : TV) (v : Value), tc w M θ O c x v → tc w1 M1 θ1 O1 c1 x v
  | .sl t (.own q) _ _, v, h => by
    refine ⟨Nat.lt_of_lt_of_le h.1 hc, fun hq a n cc hv => ?_⟩
    obtain ⟨hO, hg⟩ := hk q h.1 hq
    rcases h.2 hO a n cc hv with h1 | h1 | ⟨g, e, cur, h1, h2, h3, h4, h5⟩
    · exact .inl h1
    · exact .inr (.inl h1)
    · obtain ⟨k1, k2, k3⟩ := hg g h2
      exact .inr (.inr ⟨g, e, cur, h1, k1, k2.trans h3, h4, fun i hi => (k3 i).trans (h5 i hi)⟩)
  | .sl _ .sh _ _, _, _ => trivial
  | .sl _ .full _ _, _, _ => trivial
  | .tup l, v, h => fun vs hv => tcs_gen hc hk l vs (h vs hv)
  | .undef, _, _ => trivial
  | .skip, _, _ => trivial
  | .bool _, _, _ => trivial
  | .int _ _, _, _ => trivial
  | .str _, _, _ => trivial
  | .st _ _, _, _ => trivial
  | .ep _ _, _, _ => trivial
  | .ptr _ _, _, _ => trivial
  | .nilp, _, _ => trivial
  | .fn _ _, _, _ => trivial
  | .nilfn, _, _ => trivial
theorem tcs_gen (hc : c ≤ c1) (hk : ∀ q, q < c → O1 q = true → O q = true ∧ ∀ g, θ q = some g → θ1 q = some g ∧ w1.heap[g]? = w.heap[g]? ∧ ∀ i, M1 g i = M g i) :
    ∀ (x : List TV) (v : List Value), tcs w M θ O c x v → tcs w1 M1 θ1 O1 c1 x v
  | [], [], _ => trivial
  | [], _ :: _, _ => trivial
  | _ :: _, [], _ => trivial
  | x :: xs, v :: vs, h => ⟨tc_gen hc hk x v h.1, tcs_gen hc hk xs vs h.2⟩
end

mutual
theorem ren_ok {f : Nat → Option Nat} (hf : ∀ i k, f i = some k → ι' k = ι i ∧ k < m) : ∀ (x y : TV) (v : Value), ren f x = some y → rv M ι x v →
    rv M ι' y v ∧ (tc w M θ O c x v → tc w M θ O c y v) ∧ within m y
  | .ptr i o, y, v, h, hv => by
    have h : ((f i).map fun j => TV.ptr j o) = some y := h
    obtain ⟨j, hj, rfl⟩ := Option.map_eq_some_iff.1 h
    obtain ⟨h1, h2⟩ := hf i j hj
    exact ⟨by rw [show v = _ from hv]; simp only [rv]; rw [h1], fun _ => trivial, h2⟩
  | .fn g l, y, v, h, hv => by
    have h : ((ren.go f l).map fun l => TV.fn g l) = some y := h
    obtain ⟨l', hl, rfl⟩ := Option.map_eq_some_iff.1 h
    obtain ⟨vs, k1, k2⟩ := hv
    obtain ⟨q1, _, q3⟩ := rens_ok hf l l' vs hl k2
    exact ⟨⟨vs, k1, q1⟩, fun _ => trivial, q3⟩
  | .tup l, y, v, h, hv => by
    have h : ((ren.go f l).map fun l => TV.tup l) = some y := h
    obtain ⟨l', hl, rfl⟩ := Option.map_eq_some_iff.1 h
    obtain ⟨vs, k1, k2⟩ := hv
    obtain ⟨q1, q2, q3⟩ := rens_ok hf l l' vs hl k2
    refine ⟨⟨vs, k1, q1⟩, fun ht us hu => ?_, q3⟩
    have : us = vs := by rw [k1] at hu; simpa using hu.symm
    subst this
    exact q2 (ht us k1)
  | .undef, y, v, h, hv => by cases h; exact ⟨hv, id, trivial⟩
  | .skip, y, v, h, hv => by cases h; exact ⟨hv, id, trivial⟩
  | .bool _, y, v, h, hv => by cases h; exact ⟨hv, id, trivial⟩
  | .int _ _, y, v, h, hv => by cases h; exact ⟨hv, id, trivial⟩
  | .str _, y, v, h, hv => by cases h; exact ⟨hv, id, trivial⟩
  | .sl _ _ _ _, y, v, h, hv => by cases h; exact ⟨hv, id, trivial⟩
  | .st _ _, y, v, h, hv => by cases h; exact ⟨hv, id, trivial⟩
  | .ep _ _, y, v, h, hv => by cases h; exact ⟨hv, id, trivial⟩
  | .nilp, y, v, h, hv => by cases h; exact ⟨hv, id, trivial⟩
  | .nilfn, y, v, h, hv => by cases h; exact ⟨hv, id, trivial⟩
theorem rens_ok {f : Nat → Option Nat} (hf : ∀ i k, f i = some k → ι' k = ι i ∧ k < m) : ∀ (x y : List TV) (v : List Value), ren.go f x = some y → rvs M ι x v →
    rvs M ι' y v ∧ (tcs w M θ O c x v → tcs w M θ O c y v) ∧ withins m y
  | [], y, v, h, hv => by
    cases h
    exact ⟨hv, id, trivial⟩
  | x :: xs, y, v, h, hv => by
    have h : ((ren f x).bind fun v => (ren.go f xs).map fun r => v :: r) = some y := h
    obtain ⟨y1, h1, h2⟩ := Option.bind_eq_some_iff.1 h
    obtain ⟨ys, h3, rfl⟩ := Option.map_eq_some_iff.1 h2
    obtain ⟨v1, vs, rfl, k1, k2⟩ := hv
    obtain ⟨a1, a2, a3⟩ := ren_ok hf x y1 v1 h1 k1
    obtain ⟨b1, b2, b3⟩ := rens_ok hf xs ys vs h3 k2
    exact ⟨⟨v1, vs, rfl, a1, b1⟩, fun ht => ⟨a2 ht.1, b2 ht.2⟩, a3, b3⟩
end

mutual
theorem back_ok {F : Nat → Nat} {d : Nat} (hF : ∀ i, i < m → ι' (F i) = ι i ∧ F i < m') (ht : ∀ q, q < c → θ1 (d + q) = θ q ∧ (O1 (d + q) = true → O q = true)) (hc : d + c ≤ c1) : ∀ (x : TV) (v : Value), within m x → rv M ι x v → tc w M θ O c x v →
    rv M ι' (back F d x) v ∧ tc w M θ1 O1 c1 (back F d x) v ∧ within m' (back F d x)
  | .ptr i o, v, hm, hv, _ => by
    obtain ⟨h1, h2⟩ := hF i hm
    exact ⟨by rw [show v = _ from hv]; simp only [back, rv]; rw [h1], trivial, h2⟩
  | .sl t (.own q) nl l, v, _, hv, h => by
    obtain ⟨h1, h2⟩ := h
    obtain ⟨t1, t2⟩ := ht q h1
    refine ⟨?_, ⟨by omega, fun hq a n cc e => ?_⟩, trivial⟩
    · obtain ⟨a, c, k1, k2, k3, k4, k5, k6, k7⟩ := hv
      exact ⟨a, c, k1, k2, k3, k4, k5, k6, nofun⟩
    · rcases h2 (t2 hq) a n cc e with h | h | ⟨g, e', cur, k1, k2, k3⟩
      · exact .inl h
      · exact .inr (.inl h)
      · exact .inr (.inr ⟨g, e', cur, k1, t1.trans k2, k3⟩)
  | .sl t .sh nl l, v, _, hv, _ => ⟨hv, trivial, trivial⟩
  | .sl t .full nl l, v, _, hv, _ => ⟨hv, trivial, trivial⟩
  | .fn g l, v, hm, hv, h => by
    obtain ⟨vs, k1, k2⟩ := hv
    obtain ⟨q1, q3⟩ := backs_ok' hF l vs hm k2
    exact ⟨⟨vs, k1, q1⟩, trivial, q3⟩
  | .tup l, v, hm, hv, h => by
    obtain ⟨vs, k1, k2⟩ := hv
    obtain ⟨q1, q2, q3⟩ := backs_ok hF ht hc l vs hm k2 (h vs k1)
    refine ⟨⟨vs, k1, q1⟩, fun us hu => ?_, q3⟩
    have : us = vs := by rw [k1] at hu; simpa using hu.symm
    subst this
    exact q2
  | .undef, v, _, hv, _ => ⟨hv, trivial, trivial⟩
  | .skip, v, _, hv, _ => ⟨hv, trivial, trivial⟩
  | .bool _, v, _, hv, _ => ⟨hv, trivial, trivial⟩
  | .int _ _, v, _, hv, _ => ⟨hv, trivial, trivial⟩
  | .str _, v, _, hv, _ => ⟨hv, trivial, trivial⟩
  | .st _ _, v, _, hv, _ => ⟨hv, trivial, trivial⟩
  | .ep _ _, v, _, hv, _ => ⟨hv, trivial, trivial⟩
  | .nilp, v, _, hv, _ => ⟨hv, trivial, trivial⟩
  | .nilfn, v, _, hv, _ => ⟨hv, trivial, trivial⟩
theorem backs_ok {F : Nat → Nat} {d : Nat} (hF : ∀ i, i < m → ι' (F i) = ι i ∧ F i < m') (ht : ∀ q, q < c → θ1 (d + q) = θ q ∧ (O1 (d + q) = true → O q = true)) (hc : d + c ≤ c1) : ∀ (x : List TV) (v : List Value), withins m x → rvs M ι x v → tcs w M θ O c x v →
    rvs M ι' (back.go F d x) v ∧ tcs w M θ1 O1 c1 (back.go F d x) v ∧ withins m' (back.go F d x)
  | [], v, _, hv, _ => by
    have : v = [] := hv
    subst this
    exact ⟨rfl, trivial, trivial⟩
  | x :: xs, v, hm, hv, h => by
    obtain ⟨v1, vs, rfl, k1, k2⟩ := hv
    obtain ⟨a1, a2, a3⟩ := back_ok hF ht hc x v1 hm.1 k1 h.1
    obtain ⟨b1, b2, b3⟩ := backs_ok hF ht hc xs vs hm.2 k2 h.2
    exact ⟨⟨v1, vs, rfl, a1, b1⟩, ⟨a2, b2⟩, a3, b3⟩
theorem back_ok' {F : Nat → Nat} {d : Nat} (hF : ∀ i, i < m → ι' (F i) = ι i ∧ F i < m') : ∀ (x : TV) (v : Value), within m x → rv M ι x v → rv M ι' (back F d x) v ∧ within m' (back F d x)
  | .ptr i o, v, hm, hv => by
    obtain ⟨h1, h2⟩ := hF i hm
    exact ⟨by rw [show v = _ from hv]; simp only [back, rv]; rw [h1], h2⟩
  | .sl t (.own q) nl l, v, _, hv => by
    obtain ⟨a, c, k1, k2, k3, k4, k5, k6, k7⟩ := hv
    exact ⟨⟨a, c, k1, k2, k3, k4, k5, k6, nofun⟩, trivial⟩
  | .sl t .sh nl l, v, _, hv => ⟨hv, trivial⟩
  | .sl t .full nl l, v, _, hv => ⟨hv, trivial⟩
  | .fn g l, v, hm, hv => by
    obtain ⟨vs, k1, k2⟩ := hv
    obtain ⟨q1, q3⟩ := backs_ok' hF l vs hm k2
    exact ⟨⟨vs, k1, q1⟩, q3⟩
  | .tup l, v, hm, hv => by
    obtain ⟨vs, k1, k2⟩ := hv
    obtain ⟨q1, q3⟩ := backs_ok' hF l vs hm k2
    exact ⟨⟨vs, k1, q1⟩, q3⟩
  | .undef, v, _, hv => ⟨hv, trivial⟩
  | .skip, v, _, hv => ⟨hv, trivial⟩
  | .bool _, v, _, hv => ⟨hv, trivial⟩
  | .int _ _, v, _, hv => ⟨hv, trivial⟩
  | .str _, v, _, hv => ⟨hv, trivial⟩
  | .st _ _, v, _, hv => ⟨hv, trivial⟩
  | .ep _ _, v, _, hv => ⟨hv, trivial⟩
  | .nilp, v, _, hv => ⟨hv, trivial⟩
  | .nilfn, v, _, hv => ⟨hv, trivial⟩
theorem backs_ok' {F : Nat → Nat} {d : Nat} (hF : ∀ i, i < m → ι' (F i) = ι i ∧ F i < m') : ∀ (x : List TV) (v : List Value), withins m x → rvs M ι x v → rvs M ι' (back.go F d x) v ∧ withins m' (back.go F d x)
  | [], v, _, hv => by
    have : v = [] := hv
    subst this
    exact ⟨rfl, trivial⟩
  | x :: xs, v, hm, hv => by
    obtain ⟨v1, vs, rfl, k1, k2⟩ := hv
    obtain ⟨a1, a3⟩ := back_ok' hF x v1 hm.1 k1
    obtain ⟨b1, b3⟩ := backs_ok' hF xs vs hm.2 k2
    exact ⟨⟨v1, vs, rfl, a1, b1⟩, a3, b3⟩
end

mutual
theorem tidy_ok {L : Nat → Bool} : ∀ (x : TV) (v : Value), rv M ι x v → rv M ι (tidy L x) v ∧ (tc w M θ O c x v → tc w M θ O c (tidy L x) v) ∧ (within m x → within m (tidy L x)) ∧ ((∀ q, L q = false) → tc w M θ1 O1 c1 (tidy L x) v)
  | .sl t (.own q) nl l, v, hv => by
    show rv M ι (bif L q then _ else _) v ∧ (_ → tc w M θ O c (bif L q then _ else _) v) ∧ (_ → within m (bif L q then _ else _)) ∧ (_ → tc w M θ1 O1 c1 (bif L q then _ else _) v)
    cases hq : L q with
    | true => exact ⟨hv, id, id, fun h => by rw [h q] at hq; cases hq⟩
    | false =>
      obtain ⟨a, c, k1, k2, k3, k4, k5, k6, k7⟩ := hv
      exact ⟨⟨a, c, k1, k2, k3, k4, k5, k6, nofun⟩, fun _ => trivial, fun _ => trivial, fun _ => trivial⟩
  | .sl t .sh nl l, v, hv => ⟨hv, id, id, fun _ => trivial⟩
  | .sl t .full nl l, v, hv => ⟨hv, id, id, fun _ => trivial⟩
  | .tup l, v, hv => by
    obtain ⟨vs, k1, k2⟩ := hv
    obtain ⟨q1, q2, q3, q4⟩ := tidys_ok l vs k2
    have hu : ∀ us : List Value, v = .tuple us.toArray → us = vs := fun us hu => by rw [k1] at hu; simpa using hu.symm
    exact ⟨⟨vs, k1, q1⟩, fun h us he => by rw [hu us he]; exact q2 (h vs k1), q3, fun h us he => by rw [hu us he]; exact q4 h⟩
  | .fn _ _, v, hv => ⟨hv, id, id, fun _ => trivial⟩
  | .ptr _ _, v, hv => ⟨hv, id, id, fun _ => trivial⟩
  | .undef, v, hv => ⟨hv, id, id, fun _ => trivial⟩
  | .skip, v, hv => ⟨hv, id, id, fun _ => trivial⟩
  | .bool _, v, hv => ⟨hv, id, id, fun _ => trivial⟩
  | .int _ _, v, hv => ⟨hv, id, id, fun _ => trivial⟩
  | .str _, v, hv => ⟨hv, id, id, fun _ => trivial⟩
  | .st _ _, v, hv => ⟨hv, id, id, fun _ => trivial⟩
  | .ep _ _, v, hv => ⟨hv, id, id, fun _ => trivial⟩
  | .nilp, v, hv => ⟨hv, id, id, fun _ => trivial⟩
  | .nilfn, v, hv => ⟨hv, id, id, fun _ => trivial⟩
theorem tidys_ok {L : Nat → Bool} : ∀ (x : List TV) (v : List Value), rvs M ι x v → rvs M ι (tidy.go L x) v ∧ (tcs w M θ O c x v → tcs w M θ O c (tidy.go L x) v) ∧ (withins m x → withins m (tidy.go L x)) ∧ ((∀ q, L q = false) → tcs w M θ1 O1 c1 (tidy.go L x) v)
  | [], v, hv => by
    have : v = [] := hv
    subst this
    exact ⟨rfl, id, id, fun _ => trivial⟩
  | x :: xs, v, hv => by
    obtain ⟨v1, vs, rfl, k1, k2⟩ := hv
    obtain ⟨a1, a2, a3, a4⟩ := tidy_ok x v1 k1
    obtain ⟨b1, b2, b3, b4⟩ := tidys_ok xs vs k2
    exact ⟨⟨v1, vs, rfl, a1, b1⟩, fun h => ⟨a2 h.1, b2 h.2⟩, fun h => ⟨a3 h.1, b3 h.2⟩, fun h => ⟨a4 h, b4 h⟩⟩
end

end

theorem posOf_some : ∀ {js : List Nat} {i k : Nat}, posOf js i = some k → js[k]? = some i
  | [], _, _, h => by cases h
  | a :: r, i, k, h => by
    have h : (bif Nat.beq a i then some 0 else (posOf r i).map (· + 1)) = some k := h
    cases hb : Nat.beq a i with
    | true =>
      rw [hb] at h
      rw [Nat.beq_eq] at hb
      cases h
      rw [hb]; rfl
    | false =>
      rw [hb] at h
      obtain ⟨k', h1, rfl⟩ := Option.map_eq_some_iff.1 h
      exact posOf_some (js := r) h1

theorem pickS_spec {f : Nat → Option Nat} {S : List Obj} : ∀ {js : List Nat} {os : List Obj}, pickS f S js = some os → os.length = js.length ∧
    ∀ (k : Nat) cs1, os[k]? = some cs1 → ∃ (i : Nat) (cs : Obj), js[k]? = some i ∧ S[i]? = some cs ∧ ren.go f cs = some cs1
  | [], os, h => by cases h; exact ⟨rfl, fun k cs h => by simp at h⟩
  | i :: r, os, h => by
    unfold pickS at h
    split at h
    · rename_i cs hs
      obtain ⟨c1, h1, h2⟩ := Option.bind_eq_some_iff.1 h
      obtain ⟨os', h3, rfl⟩ := Option.map_eq_some_iff.1 h2
      obtain ⟨k1, k2⟩ := pickS_spec h3
      refine ⟨by simp [k1], fun k cs1 hk => ?_⟩
      cases k with
      | zero => simp at hk; subst hk; exact ⟨i, cs, rfl, hs, h1⟩
      | succ k =>
        obtain ⟨i', cs', e1, e2, e3⟩ := k2 k cs1 (by simpa using hk)
        exact ⟨i', cs', by simpa using e1, e2, e3⟩
    · cases h

theorem layS_spec : ∀ (js : List Nat) (S S' : List Obj), js.Nodup → (∀ i ∈ js, i < S.length) → js.length ≤ S'.length →
    (layS S js S').length = S.length + (S'.length - js.length) ∧ (∀ (k i : Nat), js[k]? = some i → (layS S js S')[i]? = S'[k]?) ∧
    (∀ i, i < S.length → i ∉ js → (layS S js S')[i]? = S[i]?) ∧ ∀ k, (layS S js S')[S.length + k]? = S'[js.length + k]?
  | [], S, S', _, _, _ => by
    have e : layS S [] S' = S ++ S' := by cases S' <;> rfl
    rw [e]
    refine ⟨by simp, fun k i h => by simp at h, fun i hi _ => List.getElem?_append_left hi, fun k => ?_⟩
    rw [List.getElem?_append_right (by omega)]
    congr 1
    simp
  | i :: r, S, [], _, _, h => by simp at h
  | i :: r, S, o :: os, hn, hb, hl => by
    rw [List.nodup_cons] at hn
    have hi := hb i (List.mem_cons_self ..)
    obtain ⟨k1, k2, k3, k4⟩ := layS_spec r (S.set i o) os hn.2 (fun j hj => by rw [List.length_set]; exact hb j (List.mem_cons_of_mem _ hj)) (by simpa using hl)
    rw [List.length_set] at k1 k3 k4
    show (layS (S.set i o) r os).length = _ ∧ _
    refine ⟨by rw [k1]; simp, fun k j hk => ?_, fun j hj hnj => ?_, fun k => ?_⟩
    · show (layS (S.set i o) r os)[j]? = _
      cases k with
      | zero =>
        have hk : i = j := by simpa using hk
        subst hk
        rw [k3 i hi hn.1, List.getElem?_set_self hi]
        rfl
      | succ k => rw [k2 k j (by simpa using hk)]; rfl
    · show (layS (S.set i o) r os)[j]? = _
      rw [k3 j hj fun h => hnj (List.mem_cons_of_mem _ h)]
      rw [List.getElem?_set_ne fun e => hnj (by rw [e]; exact List.mem_cons_self ..)]
    · show (layS (S.set i o) r os)[S.length + k]? = _
      rw [k4 k]
      rw [show (i :: r).length + k = (r.length + k) + 1 by simp; omega, List.getElem?_cons_succ]

end Go.Proofs.Ytnojkokhfmgcfaa.Den
