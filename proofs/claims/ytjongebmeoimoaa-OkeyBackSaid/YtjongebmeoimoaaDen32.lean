/- What a law is handed, of whatever type that bears no pointers. No conditions: laws. -/
import Derived.Test.YtjongebmeoimoaaDen31
import Derived.ChangeSlices
import Derived.ChangeArms
namespace Go.Proofs.Ytjongebmeoimoaa.Den
open Go

/-- Numbers within their kinds, lists no longer than may be. -/
def wfD : (t : Ty) → t.D → Prop
  | .int k, n => (Lit.int k n).wf = true
  | .str, l => List.length l ≤ maxLen ∧ ∀ x : Int, List.Mem x l → (Lit.int .u8 x).wf = true
  | .sl t, l => List.length l ≤ maxLen ∧ ∀ x : t.D, List.Mem x l → wfD t x
  | .st b, x => wfD b x
  | .pair a b, x => wfD a x.1 ∧ wfD b x.2
  | _, _ => True

theorem bytes_wf {s : ByteArray} {x : Int} (h : x ∈ bytesOfS s) : (Lit.int .u8 x).wf = true := by
  unfold bytesOfS at h
  obtain ⟨y, hy, rfl⟩ := List.mem_map.1 h
  have := y.toNat_lt
  simp [Lit.wf, IntKind.min, IntKind.max, IntKind.signed, IntKind.bits]
  omega
theorem bytes_len (s : ByteArray) : (bytesOfS s).length = s.size := by
  unfold bytesOfS; simp

theorem rep_wf {M : Mem} : ∀ (t : Ty) (cs : List Value) (y : t.D), rep M t cs y → wfD t y
  | .bool, _, _, _ => trivial
  | .int k, _, _, h => h.2
  | .str, _, _, h => by
    obtain ⟨s, _, rfl, h2⟩ := h
    exact ⟨by show List.length (bytesOfS s) ≤ maxLen; rw [bytes_len]; exact h2, fun x hx => bytes_wf hx⟩
  | .sl t, _, l, h => by
    obtain ⟨a, c, _, h1, h2, _, h4⟩ := h
    refine ⟨Nat.le_trans h1 h2, fun x hx => ?_⟩
    have hx : @Membership.mem t.D (List t.D) _ l x := hx
    obtain ⟨b, o, _, h5⟩ := h4 (fun e => by rw [e] at hx; cases hx)
    obtain ⟨i, hi⟩ := List.getElem?_of_mem hx
    obtain ⟨vs, _, k2, _⟩ := h5 i x hi
    exact rep_wf t vs x k2
  | .unit, _, _, _ => trivial
  | .pair a b, _, _, h => by
    obtain ⟨c1, c2, _, h1, h2⟩ := h
    exact ⟨rep_wf a _ _ h1, rep_wf b _ _ h2⟩
  | .st b, cs, x, h => rep_wf b cs x h

theorem choose_list {α : Type} {Q : Nat → α → Prop} : ∀ (n : Nat), (∀ i, i < n → ∃ y, Q i y) → ∃ l : List α, l.length = n ∧ ∀ (i : Nat) x, l[i]? = some x → Q i x
  | 0, _ => ⟨[], rfl, fun i x h => by simp at h⟩
  | n + 1, h => by
    obtain ⟨l, h1, h2⟩ := choose_list n fun i hi => h i (by omega)
    obtain ⟨y, hy⟩ := h n (by omega)
    refine ⟨l ++ [y], by simp [h1], fun i x hx => ?_⟩
    by_cases hi : i < n
    · rw [List.getElem?_append_left (by omega)] at hx; exact h2 i x hx
    · rw [List.getElem?_append_right (by omega)] at hx
      have : i - l.length = 0 := by
        have := (List.getElem?_eq_some_iff.1 hx).1
        simp at this; omega
      rw [this] at hx
      simp at hx
      subst hx
      rw [show i = n by omega]; exact hy

section
variable {H : Type} {enc : TypeId × Value → H} {P : Program} {w : World} {base : Nat} {spare : Nat → Bool} {held : Bool}

theorem cellsOf_ok {t : Ty} {n : TypeId} (h : tyOk P t n = true) : P.cellsOf n = t.size ∧ 0 < t.size := by
  obtain ⟨i, hi, hs, _, hp, _⟩ := infoOk_spec (tyOk_info h)
  unfold Program.cellsOf
  rw [hi]
  exact ⟨hs, hp⟩

mutual
theorem open_rep : ∀ (t : Ty) (n : TypeId) (fuel : Nat) (cs : List Value) (x : DataW H × List MemPlace), tyOk P t n = true → DataW.trod enc P w base spare held fuel n cs = some x → ∃ y : t.D, rep (snap w) t cs y
  | .bool, n, fuel, cs, x, ht, h => by
    obtain ⟨b, rfl, _⟩ := DataW.trod_bool (tyOk_bool ht) h
    exact ⟨b, rfl⟩
  | .int k, n, fuel, cs, x, ht, h => by
    obtain ⟨m, rfl, _, hw⟩ := DataW.trod_int (tyOk_int ht) h
    exact ⟨m, rfl, hw⟩
  | .str, n, fuel, cs, x, ht, h => by
    obtain ⟨s, rfl, _, hs⟩ := DataW.trod_string (tyOk_str ht) h
    exact ⟨bytesOfS s, s, rfl, rfl, hs⟩
  | .sl t, n, fuel, cs, x, ht, h => by
    obtain ⟨e, hu, he⟩ := tyOk_sl ht
    obtain ⟨hc, hpos⟩ := cellsOf_ok he
    rcases DataW.trod_slice hu h with ⟨rfl, _⟩ | ⟨a, len, cap, elems, rest, m, _, rfl, _, _, hl, hm, hlen, hel, _, _⟩
    · exact ⟨[], none, 0, rfl, Nat.le_refl _, Nat.zero_le _, fun _ => rfl, fun h => absurd rfl h⟩
    · have each : ∀ i, i < len → ∃ y : t.D, ∃ vs : List Value, w.cells? base (a.add (i * t.size)) t.size = some vs ∧ rep (snap w) t vs y := by
        intro i hi
        have h1 := hel i hi
        rw [hc, List.getElem?_eq_getElem (show i < elems.length by omega), Option.bind_eq_some_iff] at h1
        obtain ⟨vs, h2, h3⟩ := h1
        obtain ⟨y, hy⟩ := open_rep t e m vs _ he h3
        exact ⟨y, vs, h2, hy⟩
      obtain ⟨l, l1, l2⟩ := choose_list len each
      refine ⟨l, some a, cap, by rw [show List.length l = len from l1], by rw [show List.length l = len from l1]; exact hl, hm, nofun, fun hne => ?_⟩
      have hpl : 0 < l.length := by
        cases l with
        | nil => exact absurd rfl hne
        | cons _ _ => simp
      obtain ⟨vs0, k1, k2⟩ := l2 0 l[0] (List.getElem?_eq_getElem hpl)
      obtain ⟨_, q1, q2⟩ := World.cells?_some k1
      have hsp : a.spot = none := by
        have := q2 0 hpos
        rw [List.getElem?_eq_getElem (show 0 < vs0.length by omega), Nat.zero_mul] at this
        unfold Addr.add World.cell? at this
        rw [if_pos rfl, if_pos rfl] at this
        split at this
        · cases hs : a.spot with
          | none => rfl
          | some s => simp [hs] at this
        · cases this
      obtain ⟨b, p, sp⟩ := a
      simp only at hsp
      subst hsp
      refine ⟨b, p, rfl, fun i y hi => ?_⟩
      obtain ⟨vs, e1, e2⟩ := l2 i y hi
      obtain ⟨_, r1, r2⟩ := World.cells?_some e1
      refine ⟨vs, r1, e2, fun j v hj => ?_⟩
      have hlt : j < t.size := by rw [← r1]; exact (List.getElem?_eq_some_iff.1 hj).1
      have := r2 j hlt
      rw [hj, add_at, add_at] at this
      exact this
  | .st b, n, fuel, cs, x, ht, h => by
    obtain ⟨fs, hu, hf, _⟩ := tyOk_st ht
    obtain ⟨xs, m, _, _, hl, hx, hi⟩ := DataW.trod_struct hu h
    have hsz : cs.length = (Ty.st b).size := by rw [hl]; exact (cellsOf_ok ht).1
    obtain ⟨y, hy⟩ := open_flds b fs.toList 0 cs m hf (by rw [hsz]; show b.size = _; omega) (fun i f hif => by
      have hif : fs[i]? = some f := by simpa using hif
      have := hi i f hif
      rw [List.getElem?_eq_getElem (show i < xs.length by rw [hx]; exact (Array.getElem?_eq_some_iff.1 hif).1)] at this
      exact ⟨_, this⟩)
    rw [List.drop_zero] at hy
    exact ⟨y, hy⟩
  | .unit, _, _, _, _, ht, _ => by simp [tyOk] at ht
  | .pair _ _, _, _, _, _, ht, _ => by simp [tyOk] at ht
theorem open_flds : ∀ (b : Ty) (fs : List Field) (p : Nat) (cs : List Value) (m : Nat), fldOk P b fs p = true → cs.length = p + b.size →
    (∀ (i : Nat) (f : Field), fs[i]? = some f → ∃ x : DataW H × List MemPlace, DataW.trod enc P w base spare held m f.type ((cs.drop f.offset).take (P.cellsOf f.type)) = some x) → ∃ y : b.D, rep (snap w) b (cs.drop p) y
  | .unit, [], p, cs, m, _, hl, _ => ⟨(), by show cs.drop p = []; exact List.drop_of_length_le (by rw [hl]; show p + 0 ≤ p; omega)⟩
  | .unit, _ :: _, _, _, _, h, _, _ => by simp [fldOk] at h
  | .pair a b, [], _, _, _, h, _, _ => by simp [fldOk] at h
  | .pair a b, f :: fs, p, cs, m, h, hl, hi => by
    simp only [fldOk, Bool.and_eq_true, decide_eq_true_eq] at h
    obtain ⟨⟨⟨⟨ho, _⟩, _⟩, ht⟩, hf⟩ := h
    have hl : cs.length = p + (a.size + b.size) := hl
    obtain ⟨x, hx⟩ := hi 0 f rfl
    rw [ho, (cellsOf_ok ht).1] at hx
    obtain ⟨y, hy⟩ := open_rep a f.type m _ x ht hx
    obtain ⟨z, hz⟩ := open_flds b fs (p + a.size) cs m hf (by omega) fun i g hg => hi (i + 1) g (by simpa using hg)
    refine ⟨(y, z), _, _, ?_, hy, hz⟩
    rw [← List.drop_drop]
    exact (List.take_append_drop a.size (cs.drop p)).symm
  | .bool, _, _, _, _, h, _, _ => by simp [fldOk] at h
  | .int _, _, _, _, _, h, _, _ => by simp [fldOk] at h
  | .str, _, _, _, _, h, _, _ => by simp [fldOk] at h
  | .sl _, _, _, _, _, h, _, _ => by simp [fldOk] at h
  | .st _, _, _, _, _, h, _, _ => by simp [fldOk] at h
end

/-- What a parameter is, if its type is a slice. -/
theorem open_sl {t : Ty} {n : TypeId} {v : Value} {d : DataW H} {ps : List MemPlace} (ht : tyOk P (.sl t) n = true) {a : Option Addr} {len cap : Nat} (hv : v = .slice a len cap) (h : DataW.Trod enc P w base spare held n v d ps) :
    ∃ l : List t.D, rv (snap w) id (.sl t .sh none l) (.slice a len cap) ∧ wfD (.sl t) l := by
  obtain ⟨fuel, h⟩ := h
  subst hv
  obtain ⟨y, hy⟩ := open_rep (.sl t) n fuel _ _ ht h
  obtain ⟨a', c, h1, h2, h3, h4, h5⟩ := hy
  have h1 : [Value.slice a len cap] = [Value.slice a' (List.length y) c] := h1
  injection h1 with h1 _
  exact ⟨y, ⟨a', c, h1, h2, h3, h4, h5, nofun, nofun⟩, rep_wf (.sl t) _ _ ⟨a', c, rfl, h2, h3, h4, h5⟩⟩
/-- Whether a slice is nil may be told. -/
theorem rv_nilb {M : Mem} {ι : Nat → Nat} {t : Ty} {l : List t.D} {a : Option Addr} {n c : Nat} (h : rv M ι (.sl t .sh none l) (.slice a n c)) : rv M ι (.sl t .sh (some a.isNone) l) (.slice a n c) := by
  obtain ⟨a', c', h1, h2, h3, h4, h5, _, _⟩ := h
  refine ⟨a', c', h1, h2, h3, h4, h5, fun b hb => ?_, nofun⟩
  injection h1 with h1
  cases hb
  rw [h1]
end
end Go.Proofs.Ytjongebmeoimoaa.Den
