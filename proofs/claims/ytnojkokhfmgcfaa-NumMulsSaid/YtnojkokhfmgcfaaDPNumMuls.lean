import Derived.Test.YtnojkokhfmgcfaaDNumMuls
import Derived.Test.YtnojkokhfmgcfaaDen31
namespace Go.Proofs.Ytnojkokhfmgcfaa.Den
open Go Go.RowKit
set_option linter.unusedVariables false
theorem wrap64_id {n : Int} (h : -9223372036854775808 ≤ n ∧ n ≤ 9223372036854775807) : wrap64 n = n := by unfold wrap64; omega

/-- The test that the program makes: the product, divided again, is the first number. -/
theorem tdiv_back {a b : Int} (_ha : -9223372036854775808 ≤ a ∧ a ≤ 9223372036854775807) (hb : -9223372036854775808 ≤ b ∧ b ≤ 9223372036854775807)
    (h0 : b ≠ 0) (h1 : b ≠ -1) (e : wrap64 (Int.tdiv (wrap64 (a * b)) b) = a) : -9223372036854775808 ≤ a * b ∧ a * b ≤ 9223372036854775807 := by
  have hw : -9223372036854775808 ≤ wrap64 (a * b) ∧ wrap64 (a * b) ≤ 9223372036854775807 := by unfold wrap64; omega
  have hmod : ∃ q, wrap64 (a * b) = a * b + q * 18446744073709551616 := by
    refine ⟨-((a * b + 9223372036854775808) / 18446744073709551616), ?_⟩
    unfold wrap64; omega
  obtain ⟨q, hq⟩ := hmod
  generalize hn : wrap64 (a * b) = n at *
  have habs : (Int.tdiv n b).natAbs ≤ n.natAbs := by
    rw [Int.natAbs_tdiv]; exact Nat.div_le_self _ _
  have htd : wrap64 (Int.tdiv n b) = Int.tdiv n b := by
    apply wrap64_id
    by_cases hx : n = -9223372036854775808
    · subst hx
      have hd : (Int.tdiv (-9223372036854775808) b).natAbs = 9223372036854775808 / b.natAbs := by rw [Int.natAbs_tdiv]; rfl
      have hb2 : b.natAbs = 1 ∨ 2 ≤ b.natAbs := by omega
      rcases hb2 with hb2 | hb2
      · have : b = 1 := by omega
        subst this
        rw [Int.tdiv_one]; omega
      · have : 9223372036854775808 / b.natAbs ≤ 9223372036854775808 / 2 := Nat.div_le_div_left hb2 (by decide)
        omega
    · omega
  rw [htd] at e
  have hr := Int.mul_tdiv_add_tmod n b
  have hlt : (Int.tmod n b).natAbs < b.natAbs := by
    rw [Int.natAbs_tmod]; exact Nat.mod_lt _ (by omega)
  rw [e] at hr
  have hcomm : b * a = a * b := Int.mul_comm b a
  have : q = 0 := by omega
  subst this
  omega

theorem tdiv_mul {a b : Int} (ha : -9223372036854775808 ≤ a ∧ a ≤ 9223372036854775807) (h0 : b ≠ 0)
    (h : -9223372036854775808 ≤ a * b ∧ a * b ≤ 9223372036854775807) : wrap64 (Int.tdiv (wrap64 (a * b)) b) = a := by
  rw [wrap64_id h, Int.mul_tdiv_cancel _ h0, wrap64_id ha]

theorem awake01_is (k : Nat) : law01_awake k = some (true, ()) := by
  simp only [law01_awake_eq, num_Add_eq, num_same_eq, num_kept_eq, num_Zig_eq, num_Flip_eq]
  decide +kernel
def inI64 (n : Int) : Bool := decide (-9223372036854775808 ≤ n) && decide (n ≤ 9223372036854775807)
def mulT (a b : Int) : Int × (Bool × Unit) := bif inI64 (a * b) then (a * b, (true, ())) else (0, (false, ()))
theorem neg_is (k : Nat) {a : Int} (ha : -9223372036854775808 ≤ a ∧ a ≤ 9223372036854775807) : num_Neg k a = some (mulT (-1) a, ()) := by
  rw [num_Neg_eq, num_least_eq, Option.bind_some, num_kept_eq, wrm_u64]
  unfold mulT inI64
  by_cases c : a = -9223372036854775808
  · subst c; decide +kernel
  · rw [show decide (a % 18446744073709551616 = 9223372036854775808) = false from decide_eq_false (by omega)]
    rw [wr_i64 (n := 0 - a) (by omega)]
    have e : -1 * a = 0 - a := by omega
    rw [e]
    simp only [Bool.not_false, Bool.not_true, cond_false, Option.bind_some]
    rw [bif_true (b := decide (-9223372036854775808 ≤ 0 - a) && decide (0 - a ≤ 9223372036854775807)) (by simp; omega)]
theorem mulT_comm (a b : Int) : mulT a b = mulT b a := by unfold mulT; rw [Int.mul_comm]
theorem Mul_is (k : Nat) {a b : Int} (ha : -9223372036854775808 ≤ a ∧ a ≤ 9223372036854775807) (hb : -9223372036854775808 ≤ b ∧ b ≤ 9223372036854775807) : num_Mul k a b = some (mulT a b, ()) := by
  rw [num_Mul_eq]
  by_cases c1 : a = 0
  · subst c1; rw [bif_true (by simp)]; unfold mulT; rw [Int.zero_mul]; rfl
  rw [bif_false (by simpa using c1)]
  by_cases c2 : b = 0
  · subst c2; rw [bif_true (by simp)]; unfold mulT; rw [Int.mul_zero]; rfl
  rw [bif_false (by simpa using c2)]
  by_cases c3 : a = -1
  · subst c3; rw [bif_true (by simp), neg_is k hb]; rfl
  rw [bif_false (by simpa using c3)]
  by_cases c4 : b = -1
  · subst c4; rw [bif_true (by simp), neg_is k ha, mulT_comm a]; rfl
  rw [bif_false (by simpa using c4)]
  have hw : wr .i64 (a * b) = wrap64 (a * b) := by unfold wr; exact wrap_i64 _
  have hq : quoK .i64 (wr .i64 (a * b)) b = some (wrap64 (Int.tdiv (wrap64 (a * b)) b)) := by
    unfold quoK; rw [if_neg c2, hw]; unfold wr; rw [wrap_i64]
  rw [hq, Option.bind_some, num_kept_eq]
  unfold mulT
  by_cases c : -9223372036854775808 ≤ a * b ∧ a * b ≤ 9223372036854775807
  · rw [tdiv_mul ha c2 c, wr_i64 c, bif_true (b := inI64 (a * b)) (by unfold inI64; simp; exact c)]; simp
  · have : ¬ wrap64 (Int.tdiv (wrap64 (a * b)) b) = a := fun e => c (tdiv_back ha hb c2 c4 e)
    rw [decide_eq_false this, bif_false (b := inI64 (a * b)) (by unfold inI64; simp; omega)]; simp
theorem size_is (k : Nat) {a : Int} (ha : -9223372036854775808 ≤ a ∧ a ≤ 9223372036854775807) : ref01_size k a = some ((a.natAbs : Int), ()) := by
  rw [ref01_size_eq]
  by_cases c : 0 ≤ a
  · rw [bif_true (by simpa using c), wr_u64 (by omega)]; congr 2; omega
  · rw [bif_false (by simpa using c), wr_i64 (n := a + 1) (by omega), wr_i64 (n := 0 - (a + 1)) (by omega), wr_u64 (n := 0 - (a + 1)) (by omega), wr_u64 (by omega)]; congr 2; omega
theorem fin_is (a b : Int) (x y : Nat) (hx : x = a.natAbs) (hy : y = b.natAbs) (hxy : x * y < 18446744073709551616) :
    (bif (beqB (decide (a < 0)) (decide (b < 0))) then (bif (decide (9223372036854775807 < (wr .u64 ((x : Int) * (y : Int))))) then some (((0 : Int), (false, ())), ()) else some (((wr .i64 (wr .u64 ((x : Int) * (y : Int)))), (true, ())), ())) else (bif (decide (9223372036854775808 < (wr .u64 ((x : Int) * (y : Int))))) then some (((0 : Int), (false, ())), ()) else (bif (decide ((wr .u64 ((x : Int) * (y : Int))) = 9223372036854775808)) then some ((((-9223372036854775808) : Int), (true, ())), ()) else some (((wr .i64 (0 - (wr .i64 (wr .u64 ((x : Int) * (y : Int)))))), (true, ())), ())))) = some (mulT a b, ()) := by
  have e : (x : Int) * (y : Int) = ((x * y : Nat) : Int) := by simp
  rw [e, wr_u64 (by omega)]
  have hs : a * b = if (a < 0) = (b < 0) then ((x * y : Nat) : Int) else - ((x * y : Nat) : Int) := by
    subst hx hy
    rw [Int.natCast_mul]
    by_cases p : a < 0 <;> by_cases q : b < 0
    · rw [if_pos (by simp [p, q]), Int.ofNat_natAbs_of_nonpos (by omega), Int.ofNat_natAbs_of_nonpos (by omega), Int.neg_mul_neg]
    · rw [if_neg (by simp [p, q]), Int.ofNat_natAbs_of_nonpos (by omega), Int.natAbs_of_nonneg (by omega), Int.neg_mul, Int.neg_neg]
    · rw [if_neg (by simp [p, q]), Int.natAbs_of_nonneg (by omega), Int.ofNat_natAbs_of_nonpos (by omega), Int.mul_neg, Int.neg_neg]
    · rw [if_pos (by simp [p, q]), Int.natAbs_of_nonneg (by omega), Int.natAbs_of_nonneg (by omega)]
  unfold mulT
  rw [hs]
  generalize x * y = z at *
  have hb : beqB (decide (a < 0)) (decide (b < 0)) = decide ((a < 0) = (b < 0)) := by
    unfold beqB; by_cases p : a < 0 <;> by_cases q : b < 0 <;> simp [p, q]
  rw [hb]
  by_cases c : (a < 0) = (b < 0)
  · rw [if_pos c, decide_eq_true c, cond_true]
    by_cases d : (9223372036854775807 : Int) < (z : Int)
    · rw [bif_true (by simpa using d), bif_false (b := inI64 _) (by unfold inI64; simp; omega)]
    · rw [bif_false (by simpa using d), bif_true (b := inI64 _) (by unfold inI64; simp; omega), wr_i64 (by omega)]
  · rw [if_neg c, decide_eq_false c, cond_false]
    by_cases d : (9223372036854775808 : Int) < (z : Int)
    · rw [bif_true (by simpa using d), bif_false (b := inI64 _) (by unfold inI64; simp; omega)]
    · rw [bif_false (by simpa using d), bif_true (b := inI64 _) (by unfold inI64; simp; omega)]
      by_cases d2 : (z : Int) = 9223372036854775808
      · rw [bif_true (by simpa using d2), d2]
      · rw [bif_false (by simpa using d2), wr_i64 (n := (z : Int)) (by omega), wr_i64 (by omega), Int.zero_sub]
theorem refMul_is (k : Nat) {a b : Int} (ha : -9223372036854775808 ≤ a ∧ a ≤ 9223372036854775807) (hb : -9223372036854775808 ≤ b ∧ b ≤ 9223372036854775807) : ref01_Mul k a b = some (mulT a b, ()) := by
  rw [ref01_Mul_eq, size_is k ha, size_is k hb, Option.bind_some, Option.bind_some]
  by_cases c : a.natAbs = 0
  · rw [bif_false (by simp; omega)]
    exact fin_is a b _ _ rfl rfl (by rw [c]; simp)
  · rw [bif_true (by simp; omega)]
    have hle := Nat.div_le_self 18446744073709551615 a.natAbs
    obtain ⟨q, hqd⟩ : ∃ q, q = 18446744073709551615 / a.natAbs := ⟨_, rfl⟩
    rw [← hqd] at hle
    have hq : quoK .u64 18446744073709551615 (a.natAbs : Int) = some (q : Int) := by
      unfold quoK; rw [if_neg (by omega)]
      have : Int.tdiv 18446744073709551615 (a.natAbs : Int) = (q : Int) := by rw [hqd]; rfl
      rw [this, wr_u64 (by omega)]
    rw [hq, Option.bind_some]
    by_cases d : q < b.natAbs
    · rw [bif_true (by simp; omega)]
      have hgt : 18446744073709551615 < a.natAbs * b.natAbs := by
        rw [hqd] at d
        have := (Nat.div_lt_iff_lt_mul (by omega)).1 d
        rw [Nat.mul_comm]; exact this
      unfold mulT
      have hn : (a * b).natAbs = a.natAbs * b.natAbs := Int.natAbs_mul a b
      rw [bif_false (b := inI64 _) (by unfold inI64; simp; omega)]
    · rw [bif_false (by simp; omega)]
      refine fin_is a b _ _ rfl rfl ?_
      rw [hqd] at d
      have := (Nat.le_div_iff_mul_le (show 0 < a.natAbs by omega)).1 (Nat.le_of_not_lt d)
      rw [Nat.mul_comm]; omega
theorem NumMuls_true (a b : Int) (ha : (Lit.int .i64 a).wf = true) (hb : (Lit.int .i64 b).wf = true) : law01_NumMuls 1000 a b = some (true, ()) := by
  have ha := wf_i64 ha
  have hb := wf_i64 hb
  rw [law01_NumMuls_eq, awake01_is, Mul_is _ ha hb, refMul_is _ ha hb, Mul_is _ hb ha, mulT_comm b a]
  simp [beqB]
end Go.Proofs.Ytnojkokhfmgcfaa.Den
