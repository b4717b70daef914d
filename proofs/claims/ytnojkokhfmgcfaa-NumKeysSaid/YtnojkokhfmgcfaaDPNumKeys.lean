import Derived.Test.YtnojkokhfmgcfaaDNumKeys
import Derived.Test.YtnojkokhfmgcfaaDen31
namespace Go.Proofs.Ytnojkokhfmgcfaa.Den
open Go Go.RowKit
set_option linter.unusedVariables false
theorem awake01_is (k : Nat) : law01_awake k = some (true, ()) := by
  simp only [law01_awake_eq, num_Add_eq, num_same_eq, num_kept_eq, num_Zig_eq, num_Flip_eq]
  decide +kernel
/-! ### Bytes of a number -/
def be : Nat → Nat → List Int
  | 0, _ => []
  | n + 1, u => ((u / 256 ^ n % 256 : Nat) : Int) :: be n u
theorem be_length : ∀ n u, (be n u).length = n
  | 0, _ => rfl
  | n + 1, u => congrArg (· + 1) (be_length n u)
theorem be_wf : ∀ n u x, x ∈ be n u → (Lit.int .u8 x).wf = true
  | n + 1, u, x, h => by
    rcases List.mem_cons.1 h with rfl | h
    · have := Nat.mod_lt (u / 256 ^ n) (show 0 < 256 by decide)
      simp [Lit.wf, IntKind.min, IntKind.max, IntKind.signed, IntKind.bits]; omega
    · exact be_wf n u x h
theorem mod_step (u n : Nat) : u % 256 ^ (n + 1) = u % 256 ^ n + 256 ^ n * (u / 256 ^ n % 256) := by
  rw [Nat.pow_succ]; exact Nat.mod_mul
theorem lt_step {p a b r s : Nat} (hr : r < p) (hs : s < p) : (decide (a < b) || (decide (a = b) && decide (r < s))) = decide (r + p * a < s + p * b) := by
  rcases Nat.lt_trichotomy a b with h | h | h
  · have h1 := Nat.mul_le_mul_left p (show a + 1 ≤ b from h)
    rw [Nat.mul_succ] at h1
    rw [decide_eq_true h, decide_eq_true (show r + p * a < s + p * b by omega)]; rfl
  · subst h
    simp
  · have h1 := Nat.mul_le_mul_left p (show b + 1 ≤ a from h)
    rw [Nat.mul_succ] at h1
    rw [decide_eq_false (show ¬ a < b by omega), decide_eq_false (show ¬ a = b by omega), decide_eq_false (show ¬ r + p * a < s + p * b by omega)]; rfl
theorem ltL_be : ∀ n u v, ltL (be n u) (be n v) = decide (u % 256 ^ n < v % 256 ^ n)
  | 0, _, _ => by simp [be, ltL, Nat.mod_one]
  | n + 1, u, v => by
    show (decide (((u / 256 ^ n % 256 : Nat) : Int) < ((v / 256 ^ n % 256 : Nat) : Int)) || (decide (((u / 256 ^ n % 256 : Nat) : Int) = ((v / 256 ^ n % 256 : Nat) : Int)) && ltL (be n u) (be n v))) = _
    rw [ltL_be n u v, mod_step, mod_step]
    have hp : 0 < 256 ^ n := Nat.pow_pos (by decide)
    rw [← lt_step (Nat.mod_lt u hp) (Nat.mod_lt v hp)]
    congr 2
    · simp only [Int.ofNat_lt]
    · simp only [Int.natCast_inj]
theorem be_eq {u v : Nat} : ∀ n, be n u = be n v → u % 256 ^ n = v % 256 ^ n
  | 0, _ => by simp [Nat.mod_one]
  | n + 1, h => by
    have h : ((u / 256 ^ n % 256 : Nat) : Int) :: be n u = ((v / 256 ^ n % 256 : Nat) : Int) :: be n v := h
    injection h with h1 h2
    rw [mod_step, mod_step, be_eq n h2, Int.natCast_inj.1 h1]
theorem beqL_be {u v : Nat} (hu : u < 18446744073709551616) (hv : v < 18446744073709551616) : beqL (be 8 u) (be 8 v) = decide (u = v) := by
  unfold beqL
  by_cases h : u = v
  · subst h; simp
  · have : ¬ be 8 u = be 8 v := fun e => h (by have := be_eq 8 e; omega)
    simp [h, this]
theorem shr_is {u j : Nat} (hj : j < 8) : shrK .u64 (u : Int) (wr .i64 (8 * (j : Int))) = some (((u / 256 ^ j : Nat)) : Int) := by
  rw [wr_i64 (by omega)]
  have hj : j = 0 ∨ j = 1 ∨ j = 2 ∨ j = 3 ∨ j = 4 ∨ j = 5 ∨ j = 6 ∨ j = 7 := by omega
  rcases hj with rfl | rfl | rfl | rfl | rfl | rfl | rfl | rfl <;> rfl
theorem set_last (m : Nat) (l : List Int) (x : Int) : (List.replicate (m + 1) (0 : Int) ++ l).set m x = List.replicate m 0 ++ x :: l := by
  rw [List.replicate_succ', List.append_assoc, List.set_append_right _ _ (by simp)]
  simp
theorem put_loop (k : Nat) {u w : Nat} (hw : w ≤ 8) : ∀ n j, j ≤ w → w - j < n → num_Put_l0 k n (u : Int) (w : Int) (w : Int) (j : Int) (List.replicate (w - j) 0 ++ be j u) = some (be w u, ())
  | 0, _, _, h => absurd h (Nat.not_lt_zero _)
  | n + 1, j, hj, hn => by
    rw [num_Put_l0_eq]
    by_cases c : j < w
    · obtain ⟨m, hm⟩ : ∃ m, w - j = m + 1 := ⟨w - j - 1, by omega⟩
      have e1 : wr .i64 (wr .i64 ((w : Int) - 1) - (j : Int)) = (m : Int) := by
        rw [wr_i64 (n := (w : Int) - 1) (by omega), wr_i64 (by omega)]; omega
      have hlen : (List.replicate (w - j) (0 : Int) ++ be j u).length = w := by simp [be_length]; omega
      have e2 : wr .u8 (((u / 256 ^ j : Nat)) : Int) = ((u / 256 ^ j % 256 : Nat) : Int) := by rw [wrm_u8]; rfl
      rw [bif_true (by simp; omega), shr_is (by omega), Option.bind_some, e1, hlen, must_true (by unfold inI; simp; omega), must_true (by simp [Nat.blt]; omega), e2, wr_i64 (by omega), hm, Int.toNat_natCast, set_last]
      have ih := put_loop k (u := u) hw n (j + 1) c (by omega)
      have e3 : w - (j + 1) = m := by omega
      rw [e3] at ih
      exact ih
    · have : j = w := by omega
      subst this
      rw [bif_false (by simp)]
      simp
theorem num_Put_is (k : Nat) {u w : Nat} (hw : w ≤ 8) : num_Put (k + 10) (u : Int) (w : Int) = some (be w u, ()) := by
  rw [num_Put_eq, bif_false (by simp), bif_false (by simp; omega), must_true (by simp [beqI]), Int.toNat_natCast, lim_ok (by omega)]
  have := put_loop (k + 10) (u := u) hw (k + 10) 0 (by omega) (by omega)
  simpa [be] using this
theorem Flip_is (k : Nat) {a : Int} (h : -9223372036854775808 ≤ a ∧ a ≤ 9223372036854775807) : num_Flip k a = some (a + 9223372036854775808, ()) := by
  rw [num_Flip_eq]
  unfold wr
  rw [flip_eq h]
theorem NumKeys_true (a b : Int) (ha : (Lit.int .i64 a).wf = true) (hb : (Lit.int .i64 b).wf = true) : law01_NumKeys 1000 a b = some (true, ()) := by
  have ha := wf_i64 ha
  have hb := wf_i64 hb
  rw [law01_NumKeys_eq, awake01_is, Flip_is _ ha, Flip_is _ hb]
  obtain ⟨u, hu⟩ := Int.eq_ofNat_of_zero_le (show 0 ≤ a + 9223372036854775808 by omega)
  obtain ⟨v, hv⟩ := Int.eq_ofNat_of_zero_le (show 0 ≤ b + 9223372036854775808 by omega)
  rw [hu, hv]
  simp only [Option.bind_some, Bool.not_true, cond_false]
  have p1 := num_Put_is 990 (u := u) (w := 8) (by omega)
  have p2 := num_Put_is 990 (u := v) (w := 8) (by omega)
  rw [show num_Put 1000 (u : Int) (8 : Int) = _ from p1, show num_Put 1000 (v : Int) (8 : Int) = _ from p2]
  simp only [Option.bind_some]
  rw [be_length, ltL_be, beqL_be (by omega) (by omega), bif_true (by decide)]
  have e1 : decide (u % 256 ^ 8 < v % 256 ^ 8) = decide (a < b) := by
    rw [show (256 : Nat) ^ 8 = 18446744073709551616 by decide]
    by_cases c : a < b
    · rw [decide_eq_true c, decide_eq_true (show u % 18446744073709551616 < v % 18446744073709551616 by omega)]
    · rw [decide_eq_false c, decide_eq_false (show ¬ u % 18446744073709551616 < v % 18446744073709551616 by omega)]
  have e2 : decide (u = v) = decide (a = b) := by
    by_cases c : a = b
    · rw [decide_eq_true c, decide_eq_true (show u = v by omega)]
    · rw [decide_eq_false c, decide_eq_false (show ¬ u = v by omega)]
  rw [e1, e2]
  simp [beqB]
end Go.Proofs.Ytnojkokhfmgcfaa.Den
