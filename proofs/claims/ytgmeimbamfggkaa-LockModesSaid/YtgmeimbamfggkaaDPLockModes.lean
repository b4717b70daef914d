import Derived.Test.YtgmeimbamfggkaaDLockModes
import Derived.Test.YtgmeimbamfggkaaDen35
namespace Go.Proofs.Ytgmeimbamfggkaa.Den
open Go Go.RowKit
set_option linter.unusedVariables false
abbrev Lk : Type := Int × (Int × (Int × ((List Int) × ((List Int) × Unit))))
theorem clone_v (k : Nat) (l : List Int) : slices_Clone_s_byte_byte k l = lim (0 + l.length) (some (l, ())) := by
  rw [slices_Clone_s_byte_byte_eq]
  cases l with
  | nil => exact twoW_self _
  | cons a l => rfl
theorem own_v (k : Nat) (a : Lk) : lock_own k a = (lim (0 + a.2.2.2.1.length) (lim (0 + a.2.2.2.2.1.length) (some ((a.1, (a.2.1, (a.2.2.1, (a.2.2.2.1, (a.2.2.2.2.1, ()))))), ((a.1, (a.2.1, (a.2.2.1, (a.2.2.2.1, (a.2.2.2.2.1, ()))))), ()))))) := by
  rw [lock_own_eq, clone_v, clone_v]
  unfold lim
  split
  · split <;> rfl
  · rfl
theorem ask1_v (k : Nat) : lock_Table_Ask (k + 10) ((1 : Int), ((1 : Int), ((3 : Int), ([97], ([], ()))))) 0 0 true [] [] = some ((true, (0, ())), ((1, (0, (true, ()))), ((), ((), (([(1, (1, (3, ([97], ([], ())))))], ()), (([], ()), ())))))) := by
  rw [lock_Table_Ask_eq]
  simp only [own_v]
  kernel_rfl
theorem ask2_v (k : Nat) : lock_Table_Ask (k + 10) ((2 : Int), ((1 : Int), ((4 : Int), ([98], ([99], ()))))) 1 0 true [(1, (1, (3, ([97], ([], ())))))] [] = some ((false, (0, ())), ((1, (1, (true, ()))), ((), ((), (([(1, (1, (3, ([97], ([], ())))))], ()), (([(2, (1, (4, ([98], ([99], ())))))], ()), ())))))) := by
  kernel_rfl
theorem awake14 : Ev (fun k => law14_awake k) (true, ()) := Ev.from 10 fun k => by
  rw [law14_awake_eq, lock_New_eq]
  simp only [Option.bind_some, ask1_v, ask2_v]
  rfl
theorem ltLk_asym : ∀ a b, ltL a b = true → ltL b a = false
  | [], [], h => by cases h
  | [], _ :: _, _ => rfl
  | _ :: _, [], h => by cases h
  | a :: x, b :: y, h => by
    have ih := ltLk_asym x y
    unfold ltL at h ⊢
    by_cases c : a < b
    · have : ¬ b < a := by omega
      have : ¬ b = a := by omega
      simp [*]
    · by_cases e : a = b
      · subst e
        simp at h ⊢
        exact ih h
      · simp [c, e] at h
theorem cmp_v : ∀ a b, cmpL a b = if ltL a b then -1 else if ltL b a then 1 else 0
  | [], [] => rfl
  | [], _ :: _ => rfl
  | _ :: _, [] => rfl
  | a :: x, b :: y => by
    have ih := cmp_v x y
    unfold cmpL ltL
    by_cases h : a < b
    · simp [h]
    · by_cases h2 : b < a
      · have : ¬ a = b := by omega
        simp [h, h2, this]
      · have : a = b := by omega
        simp [this, ih]
theorem cmp_gt (a b : List Int) : decide (0 < cmpL a b) = ltL b a := by
  rw [cmp_v]
  cases h : ltL a b with
  | true => rw [ltLk_asym _ _ h]; rfl
  | false => cases ltL b a <;> rfl
theorem cmp_le (a b : List Int) : decide (cmpL a b ≤ 0) = !ltL b a := by
  rw [cmp_v]
  cases h : ltL a b with
  | true => rw [ltLk_asym _ _ h]; rfl
  | false => cases ltL b a <;> rfl
theorem compare_v (k : Nat) (a b : List Int) : bytes_Compare k a b = some (cmpL a b, ()) := by
  rw [bytes_Compare_eq, internal_bytealg_Compare_eq]; rfl
/-- Whether a bound isn't above a key. -/
def endP (hi key : List Int) : Bool := decide (0 < (hi.length : Int)) && !ltL key hi
theorem ends_v (k : Nat) (h y : List Int) : lock_ends k h y = some (endP h y, ()) := by
  rw [lock_ends_eq, compare_v]
  unfold endP
  cases decide (0 < (h.length : Int))
  · rfl
  · show some (decide (cmpL h y ≤ 0), ()) = _
    rw [cmp_le]; rfl
theorem below_v (k : Nat) (h y : List Int) : ref12_below k h y = some (endP h y, ()) := by
  rw [ref12_below_eq]
  unfold endP
  cases decide (0 < (h.length : Int)) <;> rfl
def meetP (a b : Lk) : Bool := decide (a.2.1 = b.2.1) && (!endP a.2.2.2.2.1 b.2.2.2.1 && !endP b.2.2.2.2.1 a.2.2.2.1)
theorem meets_v (k : Nat) (a b : Lk) : lock_meets k a b = some (meetP a b, ()) := by
  rw [lock_meets_eq]
  simp only [ends_v, Option.bind_some]
  unfold meetP
  cases decide (a.2.1 = b.2.1) <;> cases endP a.2.2.2.2.1 b.2.2.2.1 <;> rfl
theorem rmeets_v (k : Nat) (a b : Lk) : ref12_meets k a b = some (meetP a b, ()) := by
  rw [ref12_meets_eq]
  simp only [below_v, Option.bind_some]
  unfold meetP
  cases decide (a.2.1 = b.2.1) <;> cases endP a.2.2.2.2.1 b.2.2.2.1 <;> rfl
def apartP (a b : Lk) : Bool := decide (a.1 = b.1) || !meetP a b
theorem apart_v (k : Nat) (a b : Lk) : lock_Apart k a b = some (apartP a b, ()) := by
  rw [lock_Apart_eq]
  simp only [meets_v, Option.bind_some]
  unfold apartP
  cases decide (a.1 = b.1) <;> rfl
theorem rapart_v (k : Nat) (a b : Lk) : ref12_Apart k a b = some (apartP a b, ()) := by
  rw [ref12_Apart_eq]
  simp only [rmeets_v, Option.bind_some]
  unfold apartP
  cases decide (a.1 = b.1) <;> rfl
theorem mode_v (k : Nat) (m : Int) : lock_mode k m = some (decide (1 ≤ m) && decide (m ≤ 4), ()) := by
  rw [lock_mode_eq]
  cases decide (1 ≤ m) <;> rfl
/-- Modes that fit; the lesser one first. -/
def fit1 (a b : Int) : Bool := bif decide (a < 1) then false else bif decide (4 < b) then false else bif decide (a = 1) then !decide (b = 4) else bif decide (a = 2) then decide (b = 2) else bif decide (a = 3) then decide (b = 3) else false
def fitP (a b : Int) : Bool := bif decide (b < a) then fit1 b a else fit1 a b
theorem rfits1_v (k : Nat) (a b : Int) : ref12_Fits_j0 (k + 1) a b = some (fit1 a b, ()) := by
  rw [ref12_Fits_j0_eq]
  unfold fit1
  cases decide (a < 1) <;> cases decide (4 < b) <;> cases decide (a = 1) <;> cases decide (a = 2) <;> cases decide (a = 3) <;> rfl
theorem rfits_v (k : Nat) (a b : Int) : ref12_Fits (k + 1) a b = some (fitP a b, ()) := by
  rw [ref12_Fits_eq]
  simp only [rfits1_v]
  unfold fitP
  cases decide (b < a) <;> rfl
theorem fits_v (k : Nat) (a b : Int) : lock_Fits k a b = some (fitP a b, ()) := by
  rw [lock_Fits_eq]
  simp only [mode_v, lock_fits_eq, Option.bind_some]
  by_cases ha : 1 ≤ a ∧ a ≤ 4
  · by_cases hb : 1 ≤ b ∧ b ≤ 4
    · have h1 : a = 1 ∨ a = 2 ∨ a = 3 ∨ a = 4 := by omega
      have h2 : b = 1 ∨ b = 2 ∨ b = 3 ∨ b = 4 := by omega
      rcases h1 with rfl | rfl | rfl | rfl <;> rcases h2 with rfl | rfl | rfl | rfl <;> rfl
    · have e : (decide (1 ≤ b) && decide (b ≤ 4)) = false := by simpa using hb
      rw [e, show (decide (1 ≤ a) && decide (a ≤ 4)) = true by simpa using ha]
      show some (false, ()) = _
      congr 2
      unfold fitP fit1
      by_cases c : b < a
      · rw [dT c]; have : b < 1 := by omega
        rw [dT this]; rfl
      · rw [dF c, dF (show ¬ a < 1 by omega)]
        by_cases c4 : 4 < b
        · rw [dT c4]; rfl
        · exact absurd ⟨by omega, by omega⟩ hb
  · have e : (decide (1 ≤ a) && decide (a ≤ 4)) = false := by simpa using ha
    rw [e]
    show some (false, ()) = _
    congr 2
    unfold fitP fit1
    by_cases c : b < a
    · rw [dT c]
      by_cases c1 : b < 1
      · rw [dT c1]; rfl
      · rw [dF c1, dT (show 4 < a by omega)]; rfl
    · rw [dF c]
      by_cases c1 : a < 1
      · rw [dT c1]; rfl
      · rw [dF c1, dT (show 4 < b by omega)]; rfl
theorem fitP_comm (a b : Int) : fitP a b = fitP b a := by
  unfold fitP
  by_cases c : b < a
  · rw [dT c, dF (show ¬ a < b by omega)]; rfl
  · by_cases c2 : a < b
    · rw [dF c, dT c2]; rfl
    · have : a = b := by omega
      subst this; rfl
def modeC (a b : Int) : Bool := decide (a = b) || (decide (a = 4) || (decide (b = 1) && (decide (a = 3) || decide (a = 2))))
def covP (a b : Lk) : Bool := decide (a.1 = b.1) && (decide (a.2.1 = b.2.1) && (!ltL b.2.2.2.1 a.2.2.2.1 && ((decide ((a.2.2.2.2.1.length : Int) = 0) || (decide (0 < (b.2.2.2.2.1.length : Int)) && !ltL a.2.2.2.2.1 b.2.2.2.2.1)) && modeC a.2.2.1 b.2.2.1)))
theorem pos_dec (l : List Int) : decide (0 < (l.length : Int)) = !decide ((l.length : Int) = 0) := by
  cases l with
  | nil => rfl
  | cons a l => rw [dT (by simp; try omega), dF (by simp; try omega)]; rfl
theorem covers_v (k : Nat) (a b : Lk) : lock_Covers k a b = some (covP a b, ()) := by
  rw [lock_Covers_eq]
  simp only [compare_v, Option.bind_some, cmp_gt, pos_dec]
  unfold covP modeC
  simp only [pos_dec]
  cases decide (a.1 = b.1) <;> (try rfl)
  cases decide (a.2.1 = b.2.1) <;> (try rfl)
  cases ltL b.2.2.2.1 a.2.2.2.1 <;> (try rfl)
  cases decide ((a.2.2.2.2.1.length : Int) = 0) <;> cases decide ((b.2.2.2.2.1.length : Int) = 0) <;> cases ltL a.2.2.2.2.1 b.2.2.2.2.1 <;> (try rfl) <;>
    (cases decide (a.2.2.1 = b.2.2.1) <;> cases decide (a.2.2.1 = 4) <;> cases decide (b.2.2.1 = 1) <;> cases decide (a.2.2.1 = 3) <;> rfl)
theorem rcovers_v (k : Nat) (a b : Lk) : ref12_Covers k a b = some (covP a b, ()) := by
  rw [ref12_Covers_eq]
  simp only [pos_dec]
  unfold covP modeC
  simp only [pos_dec]
  cases decide (a.1 = b.1) <;> cases decide (a.2.1 = b.2.1) <;> cases ltL b.2.2.2.1 a.2.2.2.1 <;>
  cases decide ((a.2.2.2.2.1.length : Int) = 0) <;> cases decide ((b.2.2.2.2.1.length : Int) = 0) <;> cases ltL a.2.2.2.2.1 b.2.2.2.2.1 <;>
  cases decide (a.2.2.1 = b.2.2.1) <;> cases decide (a.2.2.1 = 4) <;> cases decide (b.2.2.1 = 1) <;> cases decide (a.2.2.1 = 3) <;> rfl
theorem lockModes_ev (a b : Lk) (m n : Int) : Ev (fun k => law14_LockModes k a b m n) (true, ()) := by
  refine .up ?_
  simp only [law14_LockModes_eq]
  refine .bind (F := fun k => law14_awake (k + 1)) (r := (true, ())) ?_ (.from 0 fun k => ?_)
  · obtain ⟨K, hK⟩ := awake14
    exact ⟨K, fun k hk => hK (k + 1) (by omega)⟩
  · simp only [Nat.add_zero, fits_v, rfits_v, apart_v, rapart_v, covers_v, rcovers_v, Option.bind_some, fitP_comm n m]
    have hb : ∀ x : Bool, beqB x x = true := fun x => by cases x <;> rfl
    simp only [hb, Bool.not_true, cond_true, cond_false, Bool.cond_self]
theorem LockModes_true (a b : ((.st (.pair (.int .u64) (.pair (.int .i64) (.pair (.int .i64) (.pair (.sl (.int .u8)) (.pair (.sl (.int .u8)) .unit)))))) : Ty).D) (m n : Int)
    (f0 : wfD (.st (.pair (.int .u64) (.pair (.int .i64) (.pair (.int .i64) (.pair (.sl (.int .u8)) (.pair (.sl (.int .u8)) .unit)))))) a)
    (f1 : wfD (.st (.pair (.int .u64) (.pair (.int .i64) (.pair (.int .i64) (.pair (.sl (.int .u8)) (.pair (.sl (.int .u8)) .unit)))))) b)
    (w2 : (Lit.int .i64 m).wf = true) (w3 : (Lit.int .i64 n).wf = true) : ∃ k, law14_LockModes k a b m n = some (true, ()) := (lockModes_ev a b m n).ex
end Go.Proofs.Ytgmeimbamfggkaa.Den
