/- The pure part of NumDivides: a quotient times the divisor, and the remainder, give the number again. No conditions. -/
import Derived.Test.YtnojkokhfmgcfaaPNumDividesx1
import Derived.Test.YtnojkokhfmgcfaaBits
import Derived.Test.YtnojkokhfmgcfaaMulLaw
namespace Go.Proofs.Ytnojkokhfmgcfaa.Pure
open Go.RowKit Go.Proofs.Ytnojkokhfmgcfaa.PNumDivides Go.Proofs.YtnojkokhfmgcfaaW.PrintWords Go.Proofs.YtnojkokhfmgcfaaW.PrintLast
open Go.Proofs.Ytnojkokhfmgcfaa.Bits Go.Proofs.Ytnojkokhfmgcfaa.MulLaw

namespace NumDividesAid
theorem awake : plenumlaw01_awake.f = some true := by decide +kernel

theorem add_eq {a b : Int} (ha : -9223372036854775808 ≤ a ∧ a ≤ 9223372036854775807) (hb : -9223372036854775808 ≤ b ∧ b ≤ 9223372036854775807) :
    num_Add.f a b = some (if -9223372036854775808 ≤ a + b ∧ a + b ≤ 9223372036854775807 then (a + b, true) else (0, false)) := by
  unfold num_Add.f num_same.f num_kept.f
  rw [same_eq ha hb, same_eq ha (b := wrap64 (a + b)) (by unfold wrap64; omega)]
  simp only [Option.bind_some]
  by_cases h1 : a < 0 <;> by_cases h2 : b < 0 <;> by_cases h3 : wrap64 (a + b) < 0 <;> simp [h1, h2, h3] <;> unfold wrap64 at * <;>
    first | omega | (split <;> first | (exfalso; omega) | (simp only [Prod.mk.injEq, and_true]; omega))

theorem neg_eq {a : Int} (ha : -9223372036854775808 ≤ a ∧ a ≤ 9223372036854775807) :
    num_Neg.f a = some (if a = -9223372036854775808 then (0, false) else (-a, true)) := by
  unfold num_Neg.f num_least.f num_kept.f
  rw [wu64]
  simp only [Option.bind_some]
  by_cases h : a = -9223372036854775808
  · subst h; rfl
  · have e : (a % 18446744073709551616 == 9223372036854775808) = false := by
      rw [beq_eq_false_iff_ne]; omega
    have e2 : wrap64 (-a) = -a := by unfold wrap64; omega
    rw [e, if_neg h, e2]; rfl

theorem mul_eq (k : Nat) {a b : Int} (ha : -9223372036854775808 ≤ a ∧ a ≤ 9223372036854775807) (hb : -9223372036854775808 ≤ b ∧ b ≤ 9223372036854775807) :
    num_Mul.f (k + 1) a b = some (if -9223372036854775808 ≤ a * b ∧ a * b ≤ 9223372036854775807 then (a * b, true) else (0, false)) := by
  unfold num_Mul.f
  simp only [num_Mul.j0]
  by_cases a0 : a = 0
  · subst a0; simp
  by_cases b0 : b = 0
  · subst b0; simp
  have eb : (b == 0) = false := beq_eq_false_iff_ne.mpr b0
  rw [if_neg a0, eb, if_neg (by decide), neg_eq ha, neg_eq hb]
  by_cases a1 : a = -1
  · subst a1
    rw [if_pos rfl]
    simp only [Option.bind_some, Int.neg_mul, Int.one_mul]
    split <;> split <;> first | rfl | (exfalso; omega)
  rw [if_neg a1]
  by_cases b1 : b = -1
  · subst b1
    rw [if_pos rfl]
    simp only [Option.bind_some, Int.mul_neg, Int.mul_one]
    split <;> split <;> first | rfl | (exfalso; omega)
  rw [if_neg b1, if_neg b0]
  unfold num_kept.f
  by_cases h : -9223372036854775808 ≤ a * b ∧ a * b ≤ 9223372036854775807
  · rw [if_pos h, tdiv_mul ha b0 h, wrap64_id h]; simp
  · have e : (wrap64 (Int.tdiv (wrap64 (a * b)) b) == a) = false := by
      rw [beq_eq_false_iff_ne]; intro e; exact h (tdiv_back ha hb b0 b1 e)
    rw [if_neg h, e]; simp
end NumDividesAid
open NumDividesAid

theorem NumDivides : plenumlaw01_NumDivides.Pure := by
  intro a b ha hb
  have ha := wf_i64 ha
  have hb := wf_i64 hb
  refine ⟨2, ?_⟩
  unfold plenumlaw01_NumDivides.f num_Div.f num_Mod.f
  rw [awake, neg_eq ha]
  simp only [Option.bind_some, if_true]
  by_cases b0 : b = 0
  · subst b0; simp [plenumlaw01_NumDivides.j0]
  rw [if_neg b0, if_neg b0]
  by_cases b1 : b = -1
  · subst b1
    by_cases h : a = -9223372036854775808
    · subst h; rfl
    · have hm := mul_eq 0 (a := -a) (b := -1) (by omega) (by omega)
      have e1 : -a * -1 = a := by omega
      rw [e1, if_pos ha] at hm
      have h2 := add_eq ha (b := 0) (by omega)
      rw [Int.add_zero, if_pos ha] at h2
      rw [if_pos rfl, if_pos rfl, if_neg h]
      simp [plenumlaw01_NumDivides.j0, hm, h2]
  · rw [if_neg b1, if_neg b1]
    have hd : (Int.tdiv a b).natAbs ≤ a.natAbs := by rw [Int.natAbs_tdiv]; exact Nat.div_le_self _ _
    have hd2 : -9223372036854775808 ≤ Int.tdiv a b ∧ Int.tdiv a b ≤ 9223372036854775807 := by
      by_cases hx : a = -9223372036854775808
      · subst hx
        have hd : (Int.tdiv (-9223372036854775808) b).natAbs = 9223372036854775808 / b.natAbs := by rw [Int.natAbs_tdiv]; rfl
        have hb2 : b.natAbs = 1 ∨ 2 ≤ b.natAbs := by omega
        rcases hb2 with hb2 | hb2
        · have : b = 1 := by omega
          subst this
          rw [Int.tdiv_one]; omega
        · have : 9223372036854775808 / b.natAbs ≤ 9223372036854775808 / 2 := Nat.div_le_div_left hb2 (by decide)
          omega
      · omega
    have hr := Int.mul_tdiv_add_tmod a b
    have hc : b * Int.tdiv a b = Int.tdiv a b * b := Int.mul_comm _ _
    have hmod : (Int.tmod a b).natAbs ≤ a.natAbs := by rw [Int.natAbs_tmod]; exact Nat.mod_le _ _
    have hlt : (Int.tmod a b).natAbs < b.natAbs := by rw [Int.natAbs_tmod]; exact Nat.mod_lt _ (by omega)
    have hmul : (Int.tdiv a b * b).natAbs ≤ a.natAbs := by
      rw [Int.natAbs_mul, Int.natAbs_tdiv]; exact Nat.div_mul_le_self _ _
    have hpos : 0 ≤ a → 0 ≤ Int.tdiv a b * b := by
      intro h; have := Int.tmod_nonneg b h
      have : Int.tmod a b ≤ a := by omega
      omega
    have hm := mul_eq 0 hd2 hb
    have hin : -9223372036854775808 ≤ Int.tdiv a b * b ∧ Int.tdiv a b * b ≤ 9223372036854775807 := by omega
    rw [if_pos hin] at hm
    have h2 := add_eq hin (b := Int.tmod a b) (by omega)
    have e : Int.tdiv a b * b + Int.tmod a b = a := by omega
    rw [e, if_pos ha] at h2
    simp [plenumlaw01_NumDivides.j0, wrap64_id hd2, hm, h2]

end Go.Proofs.Ytnojkokhfmgcfaa.Pure
