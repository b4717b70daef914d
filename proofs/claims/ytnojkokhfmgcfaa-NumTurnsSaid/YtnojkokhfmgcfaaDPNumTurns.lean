import Derived.Test.YtnojkokhfmgcfaaDNumTurns
import Derived.Test.YtnojkokhfmgcfaaBits
namespace Go.Proofs.Ytnojkokhfmgcfaa.Den
open Go Go.RowKit Go.Proofs.Ytnojkokhfmgcfaa.Bits

theorem zig20 (k : Nat) {a : Int} (h : -9223372036854775808 ≤ a ∧ a ≤ 9223372036854775807) : f20 k a = some (if 0 ≤ a then 2 * a else -2 * a - 1, ()) := by
  rw [f20_eq]
  unfold wr
  rw [zig_eq h]
theorem zig21 (k : Nat) {a : Int} (h : -9223372036854775808 ≤ a ∧ a ≤ 9223372036854775807) : f21 k a = some (if 0 ≤ a then 2 * a else -2 * a - 1, ()) := by
  rw [f21_eq]
  unfold wr
  simp only [wu64, wrap_i64]
  unfold wrap64
  by_cases h0 : 0 ≤ a
  · simp only [h0, decide_true, cond_true, if_true]
    congr 2
    omega
  · simp only [h0, decide_false, cond_false, if_false]
    congr 2
    omega
theorem zag22 (k : Nat) {u : Int} (h : 0 ≤ u ∧ u < 18446744073709551616) : f22 k u = some (if u % 2 = 0 then u / 2 else -1 - u / 2, ()) := by
  rw [f22_eq]
  unfold wr
  have := zag_eq h
  simp only [wrap_i64, Int.zero_sub]
  rw [this]
theorem flip23 (k : Nat) {a : Int} (h : -9223372036854775808 ≤ a ∧ a ≤ 9223372036854775807) : f23 k a = some (a + 9223372036854775808, ()) := by
  rw [f23_eq]
  unfold wr
  rw [flip_eq h]
theorem flip24 (k : Nat) {a : Int} (h : -9223372036854775808 ≤ a ∧ a ≤ 9223372036854775807) : f24 k a = some (a + 9223372036854775808, ()) := by
  rw [f24_eq]
  unfold wr
  simp only [wu64, wrap_i64]
  unfold wrap64
  by_cases h0 : 0 ≤ a
  · simp only [h0, decide_true, cond_true]
    congr 2
    omega
  · simp only [h0, decide_false, cond_false]
    congr 2
    omega
theorem unflip25 (k : Nat) {u : Int} (h : 0 ≤ u ∧ u < 18446744073709551616) : f25 k u = some (u - 9223372036854775808, ()) := by
  rw [f25_eq]
  unfold wr
  rw [wrap_i64, unflip_eq h]
theorem awake19 (k : Nat) : f19 k = some (true, ()) := by
  simp only [f19_eq, f32_eq, f63_eq, f62_eq, f20_eq, f23_eq]
  decide +kernel

theorem turns (k : Nat) {a b : Int} (ha : (Lit.int .i64 a).wf = true) (hb : (Lit.int .i64 b).wf = true) : f3 k a b = some (true, ()) := by
  have ha := wf_i64 ha
  have hb := wf_i64 hb
  have hz : 0 ≤ (if 0 ≤ a then 2 * a else -2 * a - 1) ∧ (if 0 ≤ a then 2 * a else -2 * a - 1) < 18446744073709551616 := by split <;> omega
  rw [f3_eq, awake19]
  simp only [Option.bind_some, Bool.not_true, cond_false, zig20 k ha, zig21 k ha, zag22 k hz, flip23 k ha, flip24 k ha, flip23 k hb]
  have e1 : (if (if 0 ≤ a then 2 * a else -2 * a - 1) % 2 = 0 then (if 0 ≤ a then 2 * a else -2 * a - 1) / 2 else -1 - (if 0 ≤ a then 2 * a else -2 * a - 1) / 2) = a := by
    split <;> split <;> omega
  rw [unflip25 k (u := a + 9223372036854775808) (by omega)]
  simp only [e1, decide_true, cond_true, Option.bind_some]
  rw [show decide (a + 9223372036854775808 - 9223372036854775808 = a) = true by simp]
  simp only [cond_true]
  have e2 : decide (a + 9223372036854775808 < b + 9223372036854775808) = decide (a < b) := by simp
  rw [e2]
  unfold beqB
  simp
end Go.Proofs.Ytnojkokhfmgcfaa.Den
namespace Go.Proofs.Ytnojkokhfmgcfaa.Den
open Go Go.RowKit
theorem run3_eq (a b : Int) {ρ : Type} (K : TV → List Obj → Option ρ) : (s3 1).run [.int .i64 a, .int .i64 b] [] K = (f3 1 a b).bind fun r => K (.bool r.1) [] := by kernel_rfl
theorem law3 {W : World} {a b : Int} (ha : (Lit.int .i64 a).wf = true) (hb : (Lit.int .i64 b).wf = true) :
    Calls Try.prog 3 #[.int .i64 a, .int .i64 b] W fun e W' => e = .returned (.bool true) ∧ Below W.heap.size W W' := by
  have hr : (s3 1).run [.int .i64 a, .int .i64 b] [] (fun v S => some (v, S)) = some (.bool true, []) := by
    rw [run3_eq, turns 1 ha hb]; rfl
  exact law_calls (V := [.int .i64 a, .int .i64 b]) (ok3 1) Try.func3 (c := bodyOf Try.f3) (by kernel_rfl) (by kernel_rfl) (by kernel_rfl) rv_true hr ⟨_, _, rfl, rv_int ha, _, _, rfl, rv_int hb, rfl⟩ ⟨trivial, trivial, trivial⟩ ⟨trivial, trivial, trivial⟩
end Go.Proofs.Ytnojkokhfmgcfaa.Den
