/- The pure part of NumDivs: quotients, remainders and negations of any two 64-bit numbers, or that they are none, are those of the reference. No conditions. -/
import Derived.Test.YtnojkokhfmgcfaaPNumDivsx1
import Derived.Test.YtnojkokhfmgcfaaBits
namespace Go.Proofs.Ytnojkokhfmgcfaa.Pure
open Go.RowKit Go.Proofs.Ytnojkokhfmgcfaa.PNumDivs Go.Proofs.YtnojkokhfmgcfaaW.PrintWords Go.Proofs.YtnojkokhfmgcfaaW.PrintLast
open Go.Proofs.Ytnojkokhfmgcfaa.Bits

namespace NumDivsAid
theorem awake : plenumlaw01_awake.f = some true := by decide +kernel

theorem neg_eq {a : Int} (ha : -9223372036854775808 ≤ a ∧ a ≤ 9223372036854775807) :
    num_Neg.f a = some (if a = -9223372036854775808 then (0, false) else (-a, true)) := by
  unfold num_Neg.f num_least.f num_kept.f
  rw [wu64]
  simp only [Option.bind_some]
  by_cases h : a = -9223372036854775808
  · subst h; rfl
  · have e : (a % 18446744073709551616 == 9223372036854775808) = false := by
      rw [beq_eq_false_iff_ne]; omega
    have e2 : wrap64 (-a) = -a := by unfold wrap64; omega
    rw [e, if_neg h, e2]; rfl

theorem ref_neg_eq {a : Int} (ha : -9223372036854775808 ≤ a ∧ a ≤ 9223372036854775807) :
    plenumref01_Neg.f a = some (if a = -9223372036854775808 then (0, false) else (-a, true)) := by
  unfold plenumref01_Neg.f
  by_cases h : a = -9223372036854775808
  · subst h; rfl
  · have e2 : wrap64 (-a) = -a := by unfold wrap64; omega
    rw [if_neg h, if_neg h, e2]

theorem div_eq {a b : Int} (ha : -9223372036854775808 ≤ a ∧ a ≤ 9223372036854775807) : num_Div.f a b = plenumref01_Div.f a b := by
  unfold num_Div.f plenumref01_Div.f
  rw [neg_eq ha]
  by_cases h0 : b = 0
  · rw [if_pos h0, if_pos h0]
  rw [if_neg h0, if_neg h0]
  by_cases h1 : b = -1
  · subst h1
    by_cases h2 : a = -9223372036854775808
    · subst h2; rfl
    · have e2 : wrap64 (-a) = -a := by unfold wrap64; omega
      rw [if_pos rfl, if_neg h2, if_neg h2, Int.tdiv_neg, Int.tdiv_one, e2]; rfl
  · rw [if_neg h1]
    split <;> rfl
end NumDivsAid
open NumDivsAid

theorem NumDivs : plenumlaw01_NumDivs.Pure := by
  intro a b ha hb
  have ha := wf_i64 ha
  have hb := wf_i64 hb
  unfold plenumlaw01_NumDivs.f
  have hm : num_Mod.f a b = plenumref01_Mod.f a b := rfl
  have t1 : ∃ p, plenumref01_Div.f a b = some p := by unfold plenumref01_Div.f; (repeat' split) <;> exact ⟨_, rfl⟩
  have t2 : ∃ p, plenumref01_Mod.f a b = some p := by unfold plenumref01_Mod.f; (repeat' split) <;> exact ⟨_, rfl⟩
  obtain ⟨p, hp⟩ := t1
  obtain ⟨q, hq⟩ := t2
  rw [awake, div_eq ha, hm, neg_eq ha, ref_neg_eq ha, hp, hq]
  simp

end Go.Proofs.Ytnojkokhfmgcfaa.Pure
