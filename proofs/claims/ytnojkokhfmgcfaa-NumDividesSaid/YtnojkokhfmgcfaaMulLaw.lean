/- Plain laws of products and quotients of 64-bit numbers. No Go here. -/
import Derived.RowKit
namespace Go.Proofs.Ytnojkokhfmgcfaa.MulLaw
open Go.RowKit

theorem wrap64_id {n : Int} (h : -9223372036854775808 ≤ n ∧ n ≤ 9223372036854775807) : wrap64 n = n := by unfold wrap64; omega

/-- The test that the program makes: the product, divided again, is the first number. -/
theorem tdiv_back {a b : Int} (_ha : -9223372036854775808 ≤ a ∧ a ≤ 9223372036854775807) (hb : -9223372036854775808 ≤ b ∧ b ≤ 9223372036854775807)
    (h0 : b ≠ 0) (h1 : b ≠ -1) (e : wrap64 (Int.tdiv (wrap64 (a * b)) b) = a) : -9223372036854775808 ≤ a * b ∧ a * b ≤ 9223372036854775807 := by
  have hw : -9223372036854775808 ≤ wrap64 (a * b) ∧ wrap64 (a * b) ≤ 9223372036854775807 := by unfold wrap64; omega
  have hmod : ∃ q, wrap64 (a * b) = a * b + q * 18446744073709551616 := by
    refine ⟨-((a * b + 9223372036854775808) / 18446744073709551616), ?_⟩
    unfold wrap64; omega
  obtain ⟨q, hq⟩ := hmod
  generalize hn : wrap64 (a * b) = n at *
  have habs : (Int.tdiv n b).natAbs ≤ n.natAbs := by
    rw [Int.natAbs_tdiv]; exact Nat.div_le_self _ _
  have htd : wrap64 (Int.tdiv n b) = Int.tdiv n b := by
    apply wrap64_id
    by_cases hx : n = -9223372036854775808
    · subst hx
      have hd : (Int.tdiv (-9223372036854775808) b).natAbs = 9223372036854775808 / b.natAbs := by rw [Int.natAbs_tdiv]; rfl
      have hb2 : b.natAbs = 1 ∨ 2 ≤ b.natAbs := by omega
      rcases hb2 with hb2 | hb2
      · have : b = 1 := by omega
        subst this
        rw [Int.tdiv_one]; omega
      · have : 9223372036854775808 / b.natAbs ≤ 9223372036854775808 / 2 := Nat.div_le_div_left hb2 (by decide)
        omega
    · omega
  rw [htd] at e
  have hr := Int.mul_tdiv_add_tmod n b
  have hlt : (Int.tmod n b).natAbs < b.natAbs := by
    rw [Int.natAbs_tmod]; exact Nat.mod_lt _ (by omega)
  rw [e] at hr
  have hcomm : b * a = a * b := Int.mul_comm b a
  have : q = 0 := by omega
  subst this
  omega

theorem tdiv_mul {a b : Int} (ha : -9223372036854775808 ≤ a ∧ a ≤ 9223372036854775807) (h0 : b ≠ 0)
    (h : -9223372036854775808 ≤ a * b ∧ a * b ≤ 9223372036854775807) : wrap64 (Int.tdiv (wrap64 (a * b)) b) = a := by
  rw [wrap64_id h, Int.mul_tdiv_cancel _ h0, wrap64_id ha]

end Go.Proofs.Ytnojkokhfmgcfaa.MulLaw
