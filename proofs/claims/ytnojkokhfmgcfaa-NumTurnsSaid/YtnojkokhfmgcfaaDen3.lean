/- What a state of plain data says of the machine's memory: values, rows that are never written again, objects, tokens. No conditions: definitions and their first laws. -/
import Derived.Test.YtnojkokhfmgcfaaDen2
import Derived.Calls
import Derived.Laws.Append
import Derived.Laws.AppendOwn
import Derived.Laws.Cells
namespace Go.Proofs.Ytnojkokhfmgcfaa.Den
open Go

abbrev Mem := Nat → Nat → Option Value
def Mem.le (M M' : Mem) : Prop := ∀ b i v, M b i = some v → M' b i = some v
theorem Mem.le_refl (M : Mem) : M.le M := fun _ _ _ h => h
theorem Mem.le_trans {M N L : Mem} (h : M.le N) (k : N.le L) : M.le L := fun b i v e => k b i v (h b i v e)

/-- The elements of a slice lie in rows that are never written again. -/
def arr {α : Type} (M : Mem) (R : List Value → α → Prop) (sz : Nat) (a : Option Addr) (l : List α) : Prop :=
  l ≠ [] → ∃ b o, a = some ⟨b, o, none⟩ ∧ ∀ (i : Nat) x, l[i]? = some x → ∃ vs : List Value, vs.length = sz ∧ R vs x ∧ ∀ (j : Nat) v, vs[j]? = some v → M b (o + i * sz + j) = some v

def rep (M : Mem) : (t : Ty) → List Value → t.D → Prop
  | .bool, cs, x => cs = [.bool x]
  | .int k, cs, n => cs = [.int k n] ∧ inK k n = true
  | .str, cs, l => ∃ s : ByteArray, cs = [.string s] ∧ l = bytesOfS s ∧ s.size ≤ maxLen
  | .sl t, cs, l => ∃ a c, cs = [.slice a (List.length l) c] ∧ List.length l ≤ c ∧ c ≤ maxLen ∧ (a = none → c = 0) ∧ arr M (rep M t) t.size a l
  | .unit, cs, _ => cs = []
  | .pair a b, cs, x => ∃ c1 c2, cs = c1 ++ c2 ∧ rep M a c1 x.1 ∧ rep M b c2 x.2
  | .st b, cs, x => rep M b cs x

theorem arr_mono {α : Type} {M M' : Mem} (h : M.le M') {R R' : List Value → α → Prop} (hR : ∀ vs x, R vs x → R' vs x) {sz : Nat} {a : Option Addr} {l : List α}
    (k : arr M R sz a l) : arr M' R' sz a l := fun hn => by
  obtain ⟨b, o, ha, hi⟩ := k hn
  refine ⟨b, o, ha, fun i x hx => ?_⟩
  obtain ⟨vs, h1, h2, h3⟩ := hi i x hx
  exact ⟨vs, h1, hR _ _ h2, fun j v hj => h _ _ _ (h3 j v hj)⟩

theorem rep_mono {M M' : Mem} (h : M.le M') : ∀ (t : Ty) (cs : List Value) (x : t.D), rep M t cs x → rep M' t cs x
  | .bool, _, _, k => k
  | .int _, _, _, k => k
  | .str, _, _, k => k
  | .sl t, _, _, k => by
    obtain ⟨a, c, h1, h2, h3, h4, h5⟩ := k
    exact ⟨a, c, h1, h2, h3, h4, arr_mono h (fun vs x => rep_mono h t vs x) h5⟩
  | .unit, _, _, k => k
  | .pair a b, _, _, k => by
    obtain ⟨c1, c2, h1, h2, h3⟩ := k
    exact ⟨c1, c2, h1, rep_mono h a _ _ h2, rep_mono h b _ _ h3⟩
  | .st b, cs, x, k => rep_mono h b cs x k

theorem rep_length {M : Mem} : ∀ (t : Ty) (cs : List Value) (x : t.D), rep M t cs x → cs.length = t.size
  | .bool, _, _, k => by rw [show _ = [_] from k]; rfl
  | .int _, _, _, k => by rw [k.1]; rfl
  | .str, _, _, k => by obtain ⟨s, h, _⟩ := k; rw [h]; rfl
  | .sl _, _, _, k => by obtain ⟨a, c, h, _⟩ := k; rw [h]; rfl
  | .unit, _, _, k => by rw [show _ = [] from k]; rfl
  | .pair a b, _, _, k => by
    obtain ⟨c1, c2, h1, h2, h3⟩ := k
    rw [h1, List.length_append, rep_length a _ _ h2, rep_length b _ _ h3]; rfl
  | .st b, cs, x, k => rep_length b cs x k

/-- One-celled values alone. -/
theorem rep_one {M : Mem} : ∀ (t : Ty) (cs : List Value) (x : t.D), rep M t cs x → ∀ v ∈ cs, v.oneCell' = true
  | .bool, _, _, k, v, hv => by rw [show _ = [_] from k] at hv; simp at hv; subst hv; rfl
  | .int _, _, _, k, v, hv => by rw [k.1] at hv; simp at hv; subst hv; rfl
  | .str, _, _, k, v, hv => by obtain ⟨s, h, _⟩ := k; rw [h] at hv; simp at hv; subst hv; rfl
  | .sl _, _, _, k, v, hv => by obtain ⟨a, c, h, _⟩ := k; rw [h] at hv; simp at hv; subst hv; rfl
  | .unit, _, _, k, v, hv => by rw [show _ = [] from k] at hv; simp at hv
  | .pair a b, _, _, k, v, hv => by
    obtain ⟨c1, c2, h1, h2, h3⟩ := k
    rw [h1, List.mem_append] at hv
    rcases hv with hv | hv
    · exact rep_one a _ _ h2 v hv
    · exact rep_one b _ _ h3 v hv
  | .st b, cs, x, k, v, hv => rep_one b cs x k v hv

mutual
/-- A value as the machine has it. -/
def rv (M : Mem) (ι : Nat → Nat) : TV → Value → Prop
  | .undef, _ => True
  | .skip, v => v = Go.undef
  | .bool b, v => v = .bool b
  | .int k n, v => v = .int k n ∧ inK k n = true
  | .str l, v => ∃ s : ByteArray, v = .string s ∧ l = bytesOfS s ∧ s.size ≤ maxLen
  | .sl t f nl l, v => ∃ a c, v = .slice a (List.length l) c ∧ List.length l ≤ c ∧ c ≤ maxLen ∧ (a = none → c = 0) ∧ arr M (rep M t) t.size a l ∧
      (∀ b, nl = some b → a.isNone = b) ∧ (f = .full → c = List.length l)
  | .st t x, v => ∃ cs : List Value, v = .agg cs.toArray ∧ rep M t cs x
  | .ep t x, v => ∃ b o, ∃ vs : List Value, v = .pointer (some ⟨b, o, none⟩) ∧ vs.length = t.size ∧ rep M t vs x ∧ ∀ (j : Nat) u, vs[j]? = some u → M b (o + j) = some u
  | .ptr i o, v => v = .pointer (some ⟨ι i, o, none⟩)
  | .nilp, v => v = .pointer none
  | .fn f caps, v => ∃ vs : List Value, v = .func (.func f) #[] vs.toArray ∧ rvs M ι caps vs
  | .nilfn, v => v = .nilFunc
  | .tup l, v => ∃ vs : List Value, v = .tuple vs.toArray ∧ rvs M ι l vs
def rvs (M : Mem) (ι : Nat → Nat) : List TV → List Value → Prop
  | [], vs => vs = []
  | x :: xs, vs => ∃ v r, vs = v :: r ∧ rv M ι x v ∧ rvs M ι xs r
end

mutual
theorem rv_mono {M M' : Mem} (h : M.le M') (ι : Nat → Nat) : ∀ (x : TV) (v : Value), rv M ι x v → rv M' ι x v
  | .undef, _, _ => trivial
  | .skip, _, k => k
  | .bool _, _, k => k
  | .int _ _, _, k => k
  | .str _, _, k => k
  | .sl t _ _ _, _, k => by
    obtain ⟨a, c, h1, h2, h3, h4, h5, h6⟩ := k
    exact ⟨a, c, h1, h2, h3, h4, arr_mono h (fun vs x => rep_mono h t vs x) h5, h6⟩
  | .st t x, _, k => by
    obtain ⟨cs, h1, h2⟩ := k
    exact ⟨cs, h1, rep_mono h t _ _ h2⟩
  | .ep t x, _, k => by
    obtain ⟨b, o, vs, h1, h2, h3, h4⟩ := k
    exact ⟨b, o, vs, h1, h2, rep_mono h t _ _ h3, fun j u hj => h _ _ _ (h4 j u hj)⟩
  | .ptr _ _, _, k => k
  | .nilp, _, k => k
  | .fn _ caps, _, k => by
    obtain ⟨vs, h1, h2⟩ := k
    exact ⟨vs, h1, rvs_mono h ι caps vs h2⟩
  | .nilfn, _, k => k
  | .tup l, _, k => by
    obtain ⟨vs, h1, h2⟩ := k
    exact ⟨vs, h1, rvs_mono h ι l vs h2⟩
theorem rvs_mono {M M' : Mem} (h : M.le M') (ι : Nat → Nat) : ∀ (x : List TV) (v : List Value), rvs M ι x v → rvs M' ι x v
  | [], _, k => k
  | x :: xs, _, k => by
    obtain ⟨v, r, h1, h2, h3⟩ := k
    exact ⟨v, r, h1, rv_mono h ι x v h2, rvs_mono h ι xs r h3⟩
end

mutual
/-- Pointers lie within the objects that there are. -/
def within (m : Nat) : TV → Prop
  | .ptr i _ => i < m
  | .fn _ l => withins m l
  | .tup l => withins m l
  | _ => True
def withins (m : Nat) : List TV → Prop
  | [] => True
  | x :: xs => within m x ∧ withins m xs
end

mutual
theorem rv_objs {M : Mem} {ι ι' : Nat → Nat} {m : Nat} (h : ∀ i, i < m → ι' i = ι i) : ∀ (x : TV) (v : Value), within m x → rv M ι x v → rv M ι' x v
  | .undef, _, _, _ => trivial
  | .skip, _, _, k => k
  | .bool _, _, _, k => k
  | .int _ _, _, _, k => k
  | .str _, _, _, k => k
  | .sl _ _ _ _, _, _, k => k
  | .st _ _, _, _, k => k
  | .ep _ _, _, _, k => k
  | .ptr i _, _, q, k => by rw [show _ = _ from k]; simp only [rv]; rw [h i q]
  | .nilp, _, _, k => k
  | .fn _ caps, _, q, k => by
    obtain ⟨vs, h1, h2⟩ := k
    exact ⟨vs, h1, rvs_objs h caps vs q h2⟩
  | .nilfn, _, _, k => k
  | .tup l, _, q, k => by
    obtain ⟨vs, h1, h2⟩ := k
    exact ⟨vs, h1, rvs_objs h l vs q h2⟩
theorem rvs_objs {M : Mem} {ι ι' : Nat → Nat} {m : Nat} (h : ∀ i, i < m → ι' i = ι i) : ∀ (x : List TV) (v : List Value), withins m x → rvs M ι x v → rvs M ι' x v
  | [], _, _, k => k
  | x :: xs, _, q, k => by
    obtain ⟨v, r, h1, h2, h3⟩ := k
    exact ⟨v, r, h1, rv_objs h x v q.1 h2, rvs_objs h xs r q.2 h3⟩
end

/-- Behind the end of what a token's holder has nobody reads. -/
def claim (w : World) (M : Mem) (θ : Nat → Option Nat) (q sz : Nat) (v : Value) : Prop :=
  ∀ a n c, v = .slice a n c → a = none ∨ c = n ∨
    ∃ g e cur, a = some ⟨g, 0, none⟩ ∧ θ q = some g ∧ w.heap[g]? = some (.cells cur e (0, 0)) ∧ cur.size = c * sz ∧ ∀ i, n * sz ≤ i → M g i = none

mutual
/-- What the tokens that live say, and that all tokens are below a number. -/
def tc (w : World) (M : Mem) (θ : Nat → Option Nat) (O : Nat → Bool) (c : Nat) : TV → Value → Prop
  | .sl t (.own q) _ _, v => q < c ∧ (O q = true → claim w M θ q t.size v)
  | .tup l, v => ∀ vs : List Value, v = .tuple vs.toArray → tcs w M θ O c l vs
  | _, _ => True
def tcs (w : World) (M : Mem) (θ : Nat → Option Nat) (O : Nat → Bool) (c : Nat) : List TV → List Value → Prop
  | x :: xs, v :: vs => tc w M θ O c x v ∧ tcs w M θ O c xs vs
  | _, _ => True
end

end Go.Proofs.Ytnojkokhfmgcfaa.Den
