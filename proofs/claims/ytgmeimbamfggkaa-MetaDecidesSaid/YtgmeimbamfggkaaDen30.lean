/- From a spec to a row's call: what was there before stays. No conditions: laws. -/
import Derived.Test.YtgmeimbamfggkaaDen29
import Derived.Below
namespace Go.Proofs.Ytgmeimbamfggkaa.Den
open Go Go.RowKit

/-- All that the world's blocks of cells hold. -/
def snap (W : World) : Mem := fun b i => W.cell? ⟨b, i, none⟩

theorem law_calls {P : Program} {g : FuncId} {fn : Func} {c : Code} {sp : Spec} (h : SpecOk P g sp) (hf : P.funcs[g]? = some fn) (hb : fn.body = some c) (hname : (fn.name == "runtime.NumGoroutine") = false)
    (hq : sp.qs = []) {xs : List TV} {V : List Value} {v : TV} {x : Value} {W : World} (hv : ∀ (M : Mem) (ι : Nat → Nat) (y : Value), rv M ι v y → y = x) (hr : sp.run xs [] (fun v S => some (v, S)) = some (v, []))
    (hV : rvs (snap W) id xs V) (hT : tcs W (snap W) (fun _ => none) (fun _ => false) 0 xs V) (hW : withins W [] xs V)
    (hg : g < YB := by decide) : Calls P g V.toArray W fun e W' => e = .returned x ∧ Below W.heap.size W W' := by
  have I : Inv W (snap W) { X := fun _ => False, n := 0, ι := id, S := [] } (beg sp []) W (snap W) id (fun _ => none) := by
    refine ⟨rfl, rfl, rfl, Nat.le_refl _, Mem.le_refl _, fun _ _ _ h => h, fun _ _ _ => ⟨rfl, fun _ => rfl⟩, fun i cs h => ?_, fun i j cs cs' h => ?_, (fun q g h hg => by cases hg), fun q h => ?_, (fun p q g _ _ hp => by cases hp), ⟨rfl, Nat.zero_le _, fun _ _ => rfl, fun i cs hi => absurd hi (Nat.not_lt_zero _)⟩, Shp.refl _⟩
    · have h : ([] : List Obj)[i]? = some cs := h
      simp at h
    · have h : ([] : List Obj)[i]? = some cs := h
      simp at h
    · have h : sp.qs.any (Nat.beq q) = true := h
      rw [hq] at h; cases h
  have hT' : tcs W (snap W) (fun _ => none) (beg sp []).O (beg sp []).c xs V := tcs_gen (by show 0 ≤ _; omega) (fun q hq => absurd hq (Nat.not_lt_zero _)) xs V hT
  have hcall := h.ok xs [] v [] hr W (snap W) _ id (fun _ => none) V I hV hT' hW
  have key : ∀ y W', (∃ M' ι' θ', Inv W (snap W) { X := fun _ => False, n := 0, ι := id, S := [] } (fin [] sp.toks 0) W' M' ι' θ' ∧ rv M' ι' v y ∧ tc W' M' θ' (fin [] sp.toks 0).O sp.toks v y ∧ within W' [] v y) → y = x ∧ Below W.heap.size W W' := by
    rintro y W' ⟨M', ι', θ', J, j1, _, _⟩
    exact ⟨hv _ _ _ j1, J.os, J.tape, J.output, J.size, fun k hk => (J.keep k hk (fun h => h)).1⟩
  rcases hcall.fn hg with ⟨fn', h1, h2, h3, h4⟩ | ⟨_, y, W', h1, _⟩
  · refine h4.mono ?_
    rintro e W' ⟨y, rfl, hy⟩
    obtain ⟨rfl, hB⟩ := key y W' hy
    exact ⟨rfl, hB⟩
  · exfalso
    have hbody : fn.body.isNone = false := by rw [hb]; rfl
    have : (callFunc g V.toArray).run P W = .ok (.enter g V.toArray) W := by
      simp only [callFunc, Sem.run_bind, run_program, Result.andThen_ok, hf, hbody, hname, Bool.false_eq_true, if_false, Sem.run_pure]
    rw [this] at h1
    injection h1 with e1
    cases e1

theorem rv_true (M : Mem) (ι : Nat → Nat) (y : Value) (h : rv M ι (.bool true) y) : y = .bool true := h

/-! ### Arguments -/

theorem rv_int {M : Mem} {ι : Nat → Nat} {k : IntKind} {n : Int} (h : (Lit.int k n).wf = true) : rv M ι (.int k n) (.int k n) := ⟨rfl, h⟩

theorem rv_row {W : World} {ι : Nat → Nat} {k : IntKind} {a : Option Addr} {len cap : Nat} {zs : List Int}
    (h : (a = none ∧ len = 0 ∧ cap = 0 ∧ zs = []) ∨
      ∃ x, a = some x ∧ len ≤ cap ∧ cap ≤ maxLen ∧ zs.length = cap ∧ (∀ i, i < zs.length → W.cell? (x.add i) = some (.int k (zs.getD i 0))) ∧ ∀ n ∈ zs, (Lit.int k n).wf = true) :
    rv (snap W) ι (.sl (.int k) .sh none (zs.take len)) (.slice a len cap) := by
  rcases h with ⟨rfl, rfl, rfl, rfl⟩ | ⟨x, rfl, h1, h2, h3, h4, h5⟩
  · exact ⟨none, 0, rfl, Nat.le_refl _, Nat.zero_le _, fun _ => rfl, fun h => absurd rfl h, nofun, nofun⟩
  · have hl : (zs.take len).length = len := by rw [List.length_take]; omega
    refine ⟨some x, cap, by rw [show List.length (α := (Ty.int k).D) (zs.take len) = len from hl], by rw [show List.length (α := (Ty.int k).D) (zs.take len) = len from hl]; exact h1, h2, nofun, fun hne => ?_, nofun, nofun⟩
    have hpos : 0 < zs.length := by
      have : len ≠ 0 := fun e => hne (by rw [e]; rfl)
      omega
    have hsp : x.spot = none := by
      have := h4 0 hpos
      unfold Addr.add World.cell? at this
      rw [if_pos rfl] at this
      split at this
      · cases hs : x.spot with
        | none => rfl
        | some s => simp [hs] at this
      · cases this
    obtain ⟨b, p, sp⟩ := x
    simp only at hsp
    subst hsp
    refine ⟨b, p, rfl, fun i y hi => ?_⟩
    have hi : (zs.take len)[i]? = some y := hi
    have hlt : i < len := by rw [← hl]; exact (List.getElem?_eq_some_iff.1 hi).1
    rw [List.getElem?_take_of_lt hlt] at hi
    have hz := h4 i (List.getElem?_eq_some_iff.1 hi).1
    rw [add_at, List.getD_eq_getElem?_getD, hi] at hz
    refine ⟨[.int k y], rfl, ⟨rfl, h5 y (List.mem_of_getElem? hi)⟩, fun j v hj => ?_⟩
    cases j with
    | zero =>
      simp at hj; subst hj
      show W.cell? ⟨b, p + i * 1 + 0, none⟩ = _
      rw [Nat.mul_one]; exact hz
    | succ j => simp at hj

theorem rv_bool {M : Mem} {ι : Nat → Nat} (b : Bool) : rv M ι (.bool b) (.bool b) := rfl
theorem rv_str {M : Mem} {ι : Nat → Nat} {s : ByteArray} (h : s.size ≤ maxLen) : rv M ι (.str (bytesOfS s)) (.string s) := ⟨s, rfl, rfl, h⟩

end Go.Proofs.Ytgmeimbamfggkaa.Den
