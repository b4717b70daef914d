/- The pure part of NumAdds: sums and differences of any two 64-bit numbers, or that they are none, are those of the reference. No conditions. -/
import Derived.Test.YtnojkokhfmgcfaaPNumAddsx1
import Derived.Test.YtnojkokhfmgcfaaBits
namespace Go.Proofs.Ytnojkokhfmgcfaa.Pure
open Go.RowKit Go.Proofs.Ytnojkokhfmgcfaa.PNumAdds Go.Proofs.YtnojkokhfmgcfaaW.PrintWords Go.Proofs.YtnojkokhfmgcfaaW.PrintLast
open Go.Proofs.Ytnojkokhfmgcfaa.Bits

namespace NumAddsAid
theorem awake : plenumlaw01_awake.f = some true := by decide +kernel

theorem add_eq {a b : Int} (ha : -9223372036854775808 ≤ a ∧ a ≤ 9223372036854775807) (hb : -9223372036854775808 ≤ b ∧ b ≤ 9223372036854775807) :
    num_Add.f a b = some (if -9223372036854775808 ≤ a + b ∧ a + b ≤ 9223372036854775807 then (a + b, true) else (0, false)) := by
  unfold num_Add.f num_same.f num_kept.f
  rw [same_eq ha hb, same_eq ha (b := wrap64 (a + b)) (by unfold wrap64; omega)]
  simp only [Option.bind_some]
  by_cases h1 : a < 0 <;> by_cases h2 : b < 0 <;> by_cases h3 : wrap64 (a + b) < 0 <;> simp [h1, h2, h3] <;> unfold wrap64 at * <;>
    first | omega | (split <;> first | (exfalso; omega) | (simp only [Prod.mk.injEq, and_true]; omega))

theorem ref_add_eq {a b : Int} (ha : -9223372036854775808 ≤ a ∧ a ≤ 9223372036854775807) (hb : -9223372036854775808 ≤ b ∧ b ≤ 9223372036854775807) :
    plenumref01_Add.f a b = some (if -9223372036854775808 ≤ a + b ∧ a + b ≤ 9223372036854775807 then (a + b, true) else (0, false)) := by
  unfold plenumref01_Add.f wrap64
  (repeat' split) <;> first | rfl | (exfalso; omega) | (simp; omega)

theorem sub_eq {a b : Int} (ha : -9223372036854775808 ≤ a ∧ a ≤ 9223372036854775807) (hb : -9223372036854775808 ≤ b ∧ b ≤ 9223372036854775807) :
    num_Sub.f a b = some (if -9223372036854775808 ≤ a - b ∧ a - b ≤ 9223372036854775807 then (a - b, true) else (0, false)) := by
  unfold num_Sub.f num_same.f num_kept.f
  rw [same_eq ha hb, same_eq ha (b := wrap64 (a - b)) (by unfold wrap64; omega)]
  simp only [Option.bind_some]
  by_cases h1 : a < 0 <;> by_cases h2 : b < 0 <;> by_cases h3 : wrap64 (a - b) < 0 <;> simp [h1, h2, h3] <;> unfold wrap64 at * <;>
    first | omega | (split <;> first | (exfalso; omega) | (simp only [Prod.mk.injEq, and_true]; omega))

theorem ref_sub_eq {a b : Int} (ha : -9223372036854775808 ≤ a ∧ a ≤ 9223372036854775807) (hb : -9223372036854775808 ≤ b ∧ b ≤ 9223372036854775807) :
    plenumref01_Sub.f a b = some (if -9223372036854775808 ≤ a - b ∧ a - b ≤ 9223372036854775807 then (a - b, true) else (0, false)) := by
  unfold plenumref01_Sub.f
  split
  · unfold wrap64
    (repeat' split) <;> first | rfl | (exfalso; omega) | (simp; omega)
  · have e : wrap64 (-b) = -b := by unfold wrap64; omega
    rw [e, ref_add_eq ha (by omega)]
    simp only [Option.bind_some]
    rw [Int.sub_eq_add_neg]
end NumAddsAid
open NumAddsAid

theorem NumAdds : plenumlaw01_NumAdds.Pure := by
  intro a b ha hb
  have ha := wf_i64 ha
  have hb := wf_i64 hb
  unfold plenumlaw01_NumAdds.f
  rw [awake, add_eq ha hb, ref_add_eq ha hb, sub_eq ha hb, ref_sub_eq ha hb]
  simp

end Go.Proofs.Ytnojkokhfmgcfaa.Pure
