import Derived.Test.YtmngjegceoidhaaDExprSame
import Derived.Test.YtmngjegceoidhaaDen34
namespace Go.Proofs.Ytmngjegceoidhaa.Den
open Go Go.RowKit
set_option linter.unusedVariables false
attribute [local irreducible] cmp_Compare_int cmp_Compare_int64 cmp_isNaN_int cmp_isNaN_int64 expr_Eval expr_Eval_b expr_Eval_l0 expr_Same expr_Same_b expr_apply expr_apply_j0 expr_both expr_both_l0 expr_compare expr_compares expr_parts expr_parts_j0 expr_parts_j1 expr_parts_j2 expr_parts_j3 expr_parts_j4 expr_parts_j5 expr_reckon expr_sum expr_truth expr_truth_j0 expr_whole internal_bytealg_CompareString internal_bytealg_abigen_runtime_cmpstring law20_Light law20_Light_b law20_Light_l0 law22_ExprSame law22_awake num_Add num_Div num_Mod num_Mul num_Neg num_Sub num_kept num_least num_same okey_Less okey_order ref19_SameExpr ref19_SameExpr_b ref19_SameExprs ref19_SameExprs_l0 slices_EqualFunc_Expr_Expr_Expr_Expr_expr_Same slices_EqualFunc_Expr_Expr_Expr_Expr_expr_Same_l0 strings_Compare
abbrev VT := Int × (Int × ((List Int) × Unit))
def nv : VT := (0, (0, ([], ())))
def tv (b : Bool) : VT := (1, ((if b then 1 else 0), ([], ())))
abbrev OutT := (VT × (Int × Unit)) × (VT × Unit)
def pk (p : VT × Int) : OutT := ((p.1, (p.2, ())), (p.1, ()))
def partsM (op : Int) : Int := if op = 1 ∨ op = 2 ∨ op = 3 ∨ op = 20 then 0 else if op = 4 ∨ op = 16 ∨ op = 19 ∨ (21 ≤ op ∧ op ≤ 23) then 1 else if 5 ≤ op ∧ op ≤ 18 then 2 else -1
theorem parts_is (k : Nat) (op : Int) : expr_parts (k + 1) op = some (partsM op, ()) := by
  have j1 : ∀ b, expr_parts_j1 (k + 1) op b = some ((if b = true then 1 else if 5 ≤ op ∧ op ≤ 18 then 2 else -1), ()) := by
    intro b
    rw [expr_parts_j1_eq]
    cases b
    · rw [cond_false]
      by_cases h : 5 ≤ op
      · rw [bt h]
        by_cases h2 : op ≤ 18
        · rw [bt h2, if_neg (by simp), if_pos ⟨h, h2⟩]
        · rw [bf h2, if_neg (by simp), if_neg (by omega)]
      · rw [bf h, if_neg (by simp), if_neg (by omega)]
    · rw [cond_true, if_pos rfl]
  have j2 : ∀ b, expr_parts_j2 (k + 1) op b = some ((if b = true then 1 else if 5 ≤ op ∧ op ≤ 18 then 2 else -1), ()) := fun b => by rw [expr_parts_j2_eq, j1]
  have j3 : ∀ b, expr_parts_j3 (k + 1) op b = some ((if b = true then 1 else if 5 ≤ op ∧ op ≤ 18 then 2 else -1), ()) := fun b => by rw [expr_parts_j3_eq, j2]
  have j0 : ∀ b, expr_parts_j0 (k + 1) op b = some ((if b = true then 0 else if op = 4 ∨ op = 16 ∨ op = 19 ∨ (21 ≤ op ∧ op ≤ 23) then 1 else if 5 ≤ op ∧ op ≤ 18 then 2 else -1), ()) := by
    intro b
    rw [expr_parts_j0_eq]
    cases b
    · rw [cond_false, if_neg (show ¬ false = true by simp)]
      by_cases h4 : op = 4
      · rw [bt h4, j1, dT h4, if_pos rfl, if_pos (by omega)]
      rw [bf h4]
      by_cases h16 : op = 16
      · rw [bt h16, j2, dT h16, if_pos rfl, if_pos (by omega)]
      rw [bf h16]
      by_cases h19 : op = 19
      · rw [bt h19, j3, dT h19, if_pos rfl, if_pos (by omega)]
      rw [bf h19]
      by_cases h21 : 21 ≤ op
      · rw [bt h21, j3]
        by_cases h23 : op ≤ 23
        · rw [dT h23, if_pos rfl, if_pos (by omega)]
        · rw [dF h23, if_neg (by simp), if_neg (show ¬ (op = 4 ∨ op = 16 ∨ op = 19 ∨ 21 ≤ op ∧ op ≤ 23) by omega)]
      · rw [bf h21, j3, if_neg (by simp), if_neg (show ¬ (op = 4 ∨ op = 16 ∨ op = 19 ∨ 21 ≤ op ∧ op ≤ 23) by omega)]
    · rw [cond_true, if_pos rfl]
  rw [expr_parts_eq]
  unfold partsM
  by_cases h1 : op = 1
  · rw [bt h1, j0, dT h1, if_pos rfl, if_pos (by omega)]
  rw [bf h1]
  by_cases h2 : op = 2
  · rw [bt h2, expr_parts_j4_eq, j0, dT h2, if_pos rfl, if_pos (by omega)]
  rw [bf h2]
  by_cases h3 : op = 3
  · rw [bt h3, expr_parts_j5_eq, expr_parts_j4_eq, j0, dT h3, if_pos rfl, if_pos (by omega)]
  rw [bf h3, expr_parts_j5_eq, expr_parts_j4_eq, j0]
  by_cases h20 : op = 20
  · rw [dT h20, if_pos rfl, if_pos (by omega)]
  · rw [dF h20, if_neg (by simp), if_neg (show ¬ (op = 1 ∨ op = 2 ∨ op = 3 ∨ op = 20) by omega)]
theorem sum_is (k : Nat) (op : Int) : expr_sum k op = some (decide (20 ≤ op ∧ op ≤ 23), ()) := by
  rw [expr_sum_eq]
  by_cases h : 20 ≤ op
  · rw [bt h]
    by_cases h2 : op ≤ 23
    · rw [dT h2, dT ⟨h, h2⟩]
    · rw [dF h2, dF (by omega)]
  · rw [bf h, dF (by omega)]
theorem compares_is (k : Nat) (op : Int) : expr_compares k op = some (decide (10 ≤ op ∧ op ≤ 15), ()) := by
  rw [expr_compares_eq]
  by_cases h : 10 ≤ op
  · rw [bt h]
    by_cases h2 : op ≤ 15
    · rw [dT h2, dT ⟨h, h2⟩]
    · rw [dF h2, dF (by omega)]
  · rw [bf h, dF (by omega)]
theorem truth_is (k : Nat) (b : Bool) : expr_truth (k + 1) b = some (tv b, (tv b, ())) := by
  rw [expr_truth_eq]
  cases b
  · rw [cond_false, expr_truth_j0_eq]; rfl
  · rw [cond_true, expr_truth_j0_eq]; rfl
def wholeM (v : VT) : VT := if v.1 = 1 then v else nv
theorem whole_is (k : Nat) (v : VT) : expr_whole k v = some (wholeM v, (wholeM v, ())) := by
  rw [expr_whole_eq]
  unfold wholeM
  by_cases h : v.1 = 1
  · rw [dT h, Bool.not_true, cond_false, if_pos h]
  · rw [dF h, Bool.not_false, cond_true, if_neg h]; rfl
theorem isNaN_is (k : Nat) (a : Int) : cmp_isNaN_int k a = some (false, ()) := by rw [cmp_isNaN_int_eq, dT rfl]; rfl
theorem isNaN64_is (k : Nat) (a : Int) : cmp_isNaN_int64 k a = some (false, ()) := by rw [cmp_isNaN_int64_eq, dT rfl]; rfl
theorem cmpInt_is (k : Nat) (a b : Int) : cmp_Compare_int k a b = some ((if a < b then -1 else if b < a then 1 else 0), ()) := by
  rw [cmp_Compare_int_eq, isNaN_is, isNaN_is, Option.bind_some, Option.bind_some, cond_false, cond_false]
  by_cases h : a < b
  · rw [bt h, if_pos h]
  · rw [bf h, if_neg h]
    by_cases h2 : b < a
    · rw [bt h2, if_pos h2]
    · rw [bf h2, if_neg h2]
theorem cmpInt64_is (k : Nat) (a b : Int) : cmp_Compare_int64 k a b = some ((if a < b then -1 else if b < a then 1 else 0), ()) := by
  rw [cmp_Compare_int64_eq, isNaN64_is, isNaN64_is, Option.bind_some, Option.bind_some, cond_false, cond_false]
  by_cases h : a < b
  · rw [bt h, if_pos h]
  · rw [bf h, if_neg h]
    by_cases h2 : b < a
    · rw [bt h2, if_pos h2]
    · rw [bf h2, if_neg h2]
def sgn (a b : Int) : Int := if a < b then -1 else if b < a then 1 else 0
def ordM (a b : VT) : Int := if a.1 = b.1 then (if a.1 = 1 then sgn a.2.1 b.2.1 else if a.1 = 2 then cmpL a.2.2.1 b.2.2.1 else 0) else sgn a.1 b.1
theorem order_is (k : Nat) (a b : VT) : okey_order k a b = some (ordM a b, ()) := by
  rw [okey_order_eq]
  unfold ordM
  by_cases h : a.1 = b.1
  · rw [dT h, Bool.not_true, cond_false, if_pos h]
    by_cases h1 : a.1 = 1
    · rw [bt h1, if_pos h1, cmpInt64_is]; rfl
    · rw [bf h1, if_neg h1]
      by_cases h2 : a.1 = 2
      · rw [bt h2, if_pos h2, strings_Compare_eq, internal_bytealg_CompareString_eq, internal_bytealg_abigen_runtime_cmpstring_eq]; rfl
      · rw [bf h2, if_neg h2]
  · rw [dF h, Bool.not_false, cond_true, if_neg h, cmpInt_is]; rfl
def lessM (a b : VT) : Bool := decide (ordM a b < 0)
theorem less_is (k : Nat) (a b : VT) : okey_Less k a b = some (lessM a b, ()) := by
  rw [okey_Less_eq, show ((a.1, (a.2.1, (a.2.2.1, ()))) : VT) = a from rfl, show ((b.1, (b.2.1, (b.2.2.1, ()))) : VT) = b from rfl, order_is]; rfl
def cmpM (op : Int) (a b : VT) : VT :=
  if a.1 = 0 ∨ b.1 = 0 then nv else
  tv (if op = 10 then !lessM a b && !lessM b a else if op = 11 then lessM a b || lessM b a else if op = 12 then lessM a b else if op = 13 then !lessM b a else if op = 14 then lessM b a else !lessM a b)
theorem compare_is (k : Nat) (op : Int) (a b : VT) : expr_compare (k + 1) op a b = some (cmpM op a b, (cmpM op a b, ())) := by
  rw [expr_compare_eq]
  unfold cmpM
  by_cases h : a.1 = 0
  · rw [bt h, if_pos (.inl h)]; rfl
  rw [bf h]
  by_cases h2 : b.1 = 0
  · rw [bt h2, if_pos (.inr h2)]; rfl
  rw [bf h2, if_neg (show ¬ (a.1 = 0 ∨ b.1 = 0) by omega), show ((a.1, (a.2.1, (a.2.2.1, ()))) : VT) = a from rfl, show ((b.1, (b.2.1, (b.2.2.1, ()))) : VT) = b from rfl, less_is, less_is, Option.bind_some, Option.bind_some]
  simp only [truth_is, Option.bind_some]
  by_cases c : op = 10
  · rw [bt c, if_pos c]
    cases lessM a b <;> rfl
  rw [bf c, if_neg c]
  by_cases c : op = 11
  · rw [bt c, if_pos c]
    cases lessM a b <;> rfl
  rw [bf c, if_neg c]
  by_cases c : op = 12
  · rw [bt c, if_pos c]
  rw [bf c, if_neg c]
  by_cases c : op = 13
  · rw [bt c, if_pos c]
  rw [bf c, if_neg c]
  by_cases c : op = 14
  · rw [bt c, if_pos c]
  rw [bf c, if_neg c]
def bothM (o : Bool) (a b : VT) : VT :=
  if (a.1 = 1 ∧ decide (a.2.1 ≠ 0) = o) ∨ (b.1 = 1 ∧ decide (b.2.1 ≠ 0) = o) then tv o else if a.1 = 0 ∨ b.1 = 0 then nv else tv (!o)
theorem both_is (k : Nat) (o : Bool) (a b : VT) : expr_both (k + 3) o a b = some (bothM o a b, (bothM o a b, ())) := by
  have w01 : wr .i64 (0 + 1) = 1 := rfl
  have w12 : wr .i64 (1 + 1) = 2 := rfl
  rw [expr_both_eq, truth_is, Option.bind_some]
  have r2 : ∀ n w1 w2 w3, expr_both_l0 (k + 3) (n + 1) o (a, (b, ())) 2 a.1 a.2.1 a.2.2.1 b.1 b.2.1 b.2.2.1 w1 w2 w3 (tv o).1 (tv o).2.1 (tv o).2.2.1 = some ((if a.1 = 0 ∨ b.1 = 0 then nv else tv (!o)), ((if a.1 = 0 ∨ b.1 = 0 then nv else tv (!o)), ())) := by
    intro n w1 w2 w3
    rw [expr_both_l0_eq, bf (by omega)]
    by_cases h : a.1 = 0
    · rw [bt h, if_pos (.inl h)]; rfl
    rw [bf h]
    by_cases h2 : b.1 = 0
    · rw [bt h2, if_pos (.inr h2)]; rfl
    rw [bf h2, if_neg (show ¬ (a.1 = 0 ∨ b.1 = 0) by omega), truth_is]; rfl
  have bq : ∀ x : Int, beqB (!decide (x = 0)) o = decide (decide (x ≠ 0) = o) := by
    intro x; by_cases h : x = 0 <;> cases o <;> simp [beqB, h]
  have r1 : ∀ n w1 w2 w3, expr_both_l0 (k + 3) (n + 1 + 1) o (a, (b, ())) 1 a.1 a.2.1 a.2.2.1 b.1 b.2.1 b.2.2.1 w1 w2 w3 (tv o).1 (tv o).2.1 (tv o).2.2.1 = some ((if b.1 = 1 ∧ decide (b.2.1 ≠ 0) = o then tv o else if a.1 = 0 ∨ b.1 = 0 then nv else tv (!o)), ((if b.1 = 1 ∧ decide (b.2.1 ≠ 0) = o then tv o else if a.1 = 0 ∨ b.1 = 0 then nv else tv (!o)), ())) := by
    intro n w1 w2 w3
    rw [expr_both_l0_eq, bt (by omega), bf (by omega), bt rfl, w12, r2]
    by_cases h : b.1 = 1
    · rw [bt h, bq]
      by_cases h2 : decide (b.2.1 ≠ 0) = o
      · rw [bt h2, if_pos ⟨h, h2⟩]
      · rw [bf h2, if_neg (show ¬ (b.1 = 1 ∧ decide (b.2.1 ≠ 0) = o) from fun q => h2 q.2)]
    · rw [bf h, if_neg (show ¬ (b.1 = 1 ∧ decide (b.2.1 ≠ 0) = o) from fun q => h q.1)]
  show expr_both_l0 (k + 3) (k + 1 + 1 + 1) o (a, (b, ())) 0 a.1 a.2.1 a.2.2.1 b.1 b.2.1 b.2.2.1 0 0 [] (tv o).1 (tv o).2.1 (tv o).2.2.1 = _
  rw [expr_both_l0_eq, bt (by omega), bt rfl, w01, r1]
  unfold bothM
  by_cases h : a.1 = 1
  · rw [bt h, bq]
    by_cases h2 : decide (a.2.1 ≠ 0) = o
    · rw [bt h2, if_pos (.inl ⟨h, h2⟩)]
    · rw [bf h2]
      by_cases h3 : b.1 = 1 ∧ decide (b.2.1 ≠ 0) = o
      · rw [if_pos h3, if_pos (.inr h3)]
      · rw [if_neg h3, if_neg (show ¬ ((a.1 = 1 ∧ decide (a.2.1 ≠ 0) = o) ∨ (b.1 = 1 ∧ decide (b.2.1 ≠ 0) = o)) from fun q => q.elim (fun q => h2 q.2) h3)]
  · rw [bf h]
    by_cases h3 : b.1 = 1 ∧ decide (b.2.1 ≠ 0) = o
    · rw [if_pos h3, if_pos (.inr h3)]
    · rw [if_neg h3, if_neg (show ¬ ((a.1 = 1 ∧ decide (a.2.1 ≠ 0) = o) ∨ (b.1 = 1 ∧ decide (b.2.1 ≠ 0) = o)) from fun q => q.elim (fun q => h q.1) h3)]
def pkN (p : Int × Bool) : (Int × (Bool × Unit)) × Unit := ((p.1, (p.2, ())), ())
theorem neg_is (k : Nat) (a : Int) : ∃ p : Int × Bool, ∀ k, num_Neg k a = some (pkN p) := by
  by_cases h : decide ((wr .u64 a) = 9223372036854775808) = true
  · refine ⟨(0, false), fun k => ?_⟩
    rw [num_Neg_eq, num_least_eq, Option.bind_some, num_kept_eq]
    simp only [h]; rfl
  · refine ⟨(wr .i64 (0 - a), true), fun k => ?_⟩
    rw [num_Neg_eq, num_least_eq, Option.bind_some, num_kept_eq]
    simp only [h]; rfl
theorem kept_is (a : Int) (b : Bool) : ∃ p : Int × Bool, ∀ k, num_kept k a b = some (pkN p) := by
  cases b
  · exact ⟨(0, false), fun k => by rw [num_kept_eq]; rfl⟩
  · exact ⟨(a, true), fun k => by rw [num_kept_eq]; rfl⟩
theorem bindN {α : Type} {f : Nat → Option ((Int × (Bool × Unit)) × Unit)} (h : ∃ p : Int × Bool, ∀ k, f k = some (pkN p)) : ∃ p : Int × Bool, ∀ k, ((f k).bind fun r => some ((r.1.1, (r.1.2.1, ())), ())) = some (pkN p) := by
  obtain ⟨p, hp⟩ := h
  exact ⟨p, fun k => by rw [hp]; rfl⟩
theorem add_is (a b : Int) : ∃ p : Int × Bool, ∀ k, num_Add k a b = some (pkN p) := by
  simp only [num_Add_eq, num_same_eq, Option.bind_some]
  generalize decide (((Go.bits .xor .i64 a b) / 9223372036854775808) = 0) = c
  cases c
  · simp only [Bool.not_false, cond_true]
    exact bindN (α := Unit) (kept_is _ _)
  · simp only [Bool.not_true, cond_false]
    exact bindN (α := Unit) (kept_is _ _)
theorem sub_is (a b : Int) : ∃ p : Int × Bool, ∀ k, num_Sub k a b = some (pkN p) := by
  simp only [num_Sub_eq, num_same_eq, Option.bind_some]
  generalize decide (((Go.bits .xor .i64 a b) / 9223372036854775808) = 0) = c
  cases c
  · simp only [cond_false]
    exact bindN (α := Unit) (kept_is _ _)
  · simp only [cond_true]
    exact bindN (α := Unit) (kept_is _ _)
theorem mul_is (a b : Int) : ∃ p : Int × Bool, ∀ k, num_Mul k a b = some (pkN p) := by
  simp only [num_Mul_eq]
  by_cases h : a = 0
  · exact ⟨(0, true), fun k => by rw [bt h]; rfl⟩
  by_cases h2 : b = 0
  · exact ⟨(0, true), fun k => by rw [bf h, bt h2]; rfl⟩
  by_cases h3 : a = -1
  · simp only [bf h, bf h2, bt h3]
    exact bindN (α := Unit) (neg_is 0 _)
  by_cases h4 : b = -1
  · simp only [bf h, bf h2, bf h3, bt h4]
    exact bindN (α := Unit) (neg_is 0 _)
  simp only [bf h, bf h2, bf h3, bf h4, quoK, if_neg h2, Option.bind_some]
  exact bindN (α := Unit) (kept_is _ _)
theorem div_is (a b : Int) : ∃ p : Int × Bool, ∀ k, num_Div k a b = some (pkN p) := by
  simp only [num_Div_eq]
  by_cases h2 : b = 0
  · exact ⟨(0, false), fun k => by rw [bt h2]; rfl⟩
  by_cases h4 : b = -1
  · simp only [bf h2, bt h4]
    exact bindN (α := Unit) (neg_is 0 _)
  simp only [bf h2, bf h4, quoK, if_neg h2, Option.bind_some]
  exact ⟨(_, true), fun k => rfl⟩
theorem mod_is (a b : Int) : ∃ p : Int × Bool, ∀ k, num_Mod k a b = some (pkN p) := by
  simp only [num_Mod_eq]
  by_cases h2 : b = 0
  · exact ⟨(0, false), fun k => by rw [bt h2]; rfl⟩
  by_cases h4 : b = -1
  · exact ⟨(0, true), fun k => by rw [bf h2, bt h4]; rfl⟩
  simp only [bf h2, bf h4, remK, if_neg h2, Option.bind_some]
  exact ⟨(_, true), fun k => rfl⟩
theorem reckon_ex (op a b : Int) : ∃ p : Int × Bool, ∀ k, expr_reckon k op a b = some (pkN p) := by
  simp only [expr_reckon_eq]
  by_cases c : op = 4
  · simp only [bt c]; exact bindN (α := Unit) (neg_is 0 _)
  simp only [bf c]
  by_cases c : op = 5
  · simp only [bt c]; exact bindN (α := Unit) (add_is _ _)
  simp only [bf c]
  by_cases c : op = 6
  · simp only [bt c]; exact bindN (α := Unit) (sub_is _ _)
  simp only [bf c]
  by_cases c : op = 7
  · simp only [bt c]; exact bindN (α := Unit) (mul_is _ _)
  simp only [bf c]
  by_cases c : op = 8
  · simp only [bt c]; exact bindN (α := Unit) (div_is _ _)
  simp only [bf c]
  exact bindN (α := Unit) (mod_is _ _)
noncomputable def reckM (op a b : Int) : Int × Bool := Classical.choose (reckon_ex op a b)
theorem reckon_is (k : Nat) (op a b : Int) : expr_reckon k op a b = some (pkN (reckM op a b)) := Classical.choose_spec (reckon_ex op a b) k
noncomputable def applyM (op : Int) (a b : VT) : VT × Int :=
  if op = 16 then (if a = nv then (nv, 0) else (tv (decide (a.2.1 = 0)), 0)) else
  if op = 17 ∨ op = 18 then (bothM (decide (op = 18)) a b, 0) else
  if a = nv ∨ (b = nv ∧ op ≠ 4) then (nv, 0) else
  if (reckM op a.2.1 b.2.1).2 = true then ((1, ((reckM op a.2.1 b.2.1).1, ([], ()))), 0) else if b.2.1 = 0 ∧ (op = 8 ∨ op = 9) then (nv, 11) else (nv, 10)
abbrev TV3 : Ty := .st (.pair (.int .i64) (.pair (.int .i64) (.pair .str .unit)))
theorem decEqV (a b : VT) : Ty.decEq TV3 a b = decide (a = b) := by
  obtain ⟨a1, a2, a3, ⟨⟩⟩ := a
  obtain ⟨b1, b2, b3, ⟨⟩⟩ := b
  show (beqI a1 b1 && (beqI a2 b2 && (beqL a3 b3 && true))) = _
  by_cases h : a1 = b1
  · by_cases h2 : a2 = b2
    · by_cases h3 : a3 = b3
      · subst h h2 h3; simp [beqI, beqL]
      · simp [beqI, beqL, h, h2, h3]
    · simp [beqI, beqL, h, h2]
  · simp [beqI, h]
theorem decEqN (a : VT) : Ty.decEq (.st (.pair (.int .i64) (.pair (.int .i64) (.pair .str .unit)))) (a.1, (a.2.1, (a.2.2.1, ()))) ((0 : Int), ((0 : Int), ([], ()))) = decide (a = nv) := decEqV a nv
theorem apply_j0 (k : Nat) (op : Int) (c : Bool) (a b : VT) (w1 w2 : Int) (w3 : List Int) (hc : c = true ↔ (op = 17 ∨ op = 18)) (h16 : op ≠ 16) :
    expr_apply_j0 (k + 3) op c a.1 a.2.1 a.2.2.1 b.1 b.2.1 b.2.2.1 w1 w2 w3 0 0 [] = some (pk (applyM op a b)) := by
  rw [expr_apply_j0_eq (k + 2), show ((a.1, (a.2.1, (a.2.2.1, ()))) : VT) = a from rfl, show ((b.1, (b.2.1, (b.2.2.1, ()))) : VT) = b from rfl, show (((0 : Int), ((0 : Int), ([], ()))) : VT) = nv from rfl]
  unfold applyM
  rw [if_neg h16]
  by_cases h : op = 17 ∨ op = 18
  · rw [hc.2 h, cond_true, if_pos h, both_is]; rfl
  · have : c = false := by
      cases c
      · rfl
      · exact absurd (hc.1 rfl) h
    rw [this, cond_false, if_neg h, decEqN, decEqN, reckon_is]
    by_cases ha : a = nv
    · rw [bt ha, if_pos (.inl ha)]; rfl
    rw [bf ha]
    have tl : (some (pkN (reckM op a.2.1 b.2.1))).bind (fun r253 => (bif r253.1.2.1 then some ((((1 : Int), (r253.1.1, ([], ()))), ((0 : Int), ())), (((1 : Int), (r253.1.1, ([], ()))), ())) else (bif (decide (b.2.1 = 0)) then (bif (decide (op = 8)) then some ((nv, ((11 : Int), ())), (nv, ())) else (bif (decide (op = 9)) then some ((nv, ((11 : Int), ())), (nv, ())) else some ((nv, ((10 : Int), ())), (nv, ())))) else some ((nv, ((10 : Int), ())), (nv, ()))))) =
        some (pk (if (reckM op a.2.1 b.2.1).2 = true then (((1, ((reckM op a.2.1 b.2.1).1, ([], ()))) : VT), (0 : Int)) else if b.2.1 = 0 ∧ (op = 8 ∨ op = 9) then (nv, 11) else (nv, 10))) := by
      generalize reckM op a.2.1 b.2.1 = p
      obtain ⟨n, ok⟩ := p
      rw [Option.bind_some]
      cases ok
      · show (bif false then _ else _) = _
        rw [cond_false, if_neg (by simp)]
        by_cases hb : b.2.1 = 0
        · rw [bt hb]
          by_cases h8 : op = 8
          · rw [bt h8, if_pos ⟨hb, .inl h8⟩]; rfl
          rw [bf h8]
          by_cases h9 : op = 9
          · rw [bt h9, if_pos ⟨hb, .inr h9⟩]; rfl
          rw [bf h9, if_neg (by omega)]; rfl
        · rw [bf hb, if_neg (by omega)]; rfl
      · rfl
    by_cases hb : b = nv
    · rw [bt hb]
      by_cases h4 : op = 4
      · rw [dT h4, Bool.not_true, cond_false, if_neg (show ¬ (a = nv ∨ b = nv ∧ op ≠ 4) from fun q => q.elim ha (fun q => q.2 h4))]
        exact tl
      · rw [dF h4, Bool.not_false, cond_true, if_pos (.inr ⟨hb, h4⟩)]; rfl
    · rw [bf hb, if_neg (show ¬ (a = nv ∨ b = nv ∧ op ≠ 4) from fun q => q.elim ha (fun q => hb q.1))]
      exact tl
theorem apply_is (k : Nat) (op : Int) (a b : VT) : expr_apply (k + 3) op a b = some (pk (applyM op a b)) := by
  rw [expr_apply_eq, decEqN]
  by_cases h : op = 16
  · rw [bt h]
    unfold applyM
    rw [if_pos h]
    by_cases ha : a = nv
    · rw [bt ha, if_pos ha]; rfl
    · rw [bf ha, if_neg ha, truth_is (k + 2)]; rfl
  · rw [bf h]
    by_cases h17 : op = 17
    · rw [bt h17]
      exact apply_j0 k op _ a b 0 0 [] ⟨fun _ => .inl h17, fun _ => dT h17⟩ h
    · rw [bf h17]
      refine apply_j0 k op _ a b 0 0 [] ⟨fun q => .inr (of_decide_eq_true q), fun q => dT (by omega)⟩ h
/-- What is done with the parts. -/
noncomputable def finM (op : Int) (a b : VT) : VT × Int :=
  if op = 19 then (tv (decide (a.1 = 0)), 0) else if 10 ≤ op ∧ op ≤ 15 then (cmpM op a b, 0) else applyM op (wholeM a) (wholeM b)
abbrev FT := (Int × ((List Int) × ((List Int) × (Int × ((Int × (Int × ((List Int) × Unit))) × ((List Ex) × Unit)))))) → (List (Int × (Int × ((List Int) × Unit)))) → Option (((Int × (Int × ((List Int) × Unit))) × (Int × Unit)) × ((Int × (Int × ((List Int) × Unit))) × Unit))
noncomputable abbrev lp (F : FT) (k n : Nat) (r : List VT) (es : List Ex) (i : Int) (x : ExD) (w : VT) (a b : VT) : Option OutT :=
  expr_Eval_l0 F k n r es (es.length : Int) i x.1 x.2.1 x.2.2.1 x.2.2.2.1 x.2.2.2.2.1.1 x.2.2.2.2.1.2.1 x.2.2.2.2.1.2.2.1 x.2.2.2.2.2.1 w.1 w.2.1 w.2.2.1 a.1 a.2.1 a.2.2.1 b.1 b.2.1 b.2.2.1
theorem lp_end (F : FT) (k n : Nat) (r : List VT) (es : List Ex) (i : Int) (x : ExD) (w a b : VT) (h : ¬ i < es.length) : lp F (k + 3) (n + 1) r es i x w a b = some (pk (finM x.1 a b)) := by
  unfold lp
  rw [expr_Eval_l0_eq, bf h, show ((a.1, (a.2.1, (a.2.2.1, ()))) : VT) = a from rfl, show ((b.1, (b.2.1, (b.2.2.1, ()))) : VT) = b from rfl, truth_is, compares_is, compare_is, whole_is, whole_is]
  unfold finM
  by_cases c : x.1 = 19
  · rw [bt c, if_pos c]; rfl
  · rw [bf c, if_neg c, Option.bind_some]
    by_cases c2 : 10 ≤ x.1 ∧ x.1 ≤ 15
    · rw [bt c2, if_pos c2]; rfl
    · rw [bf c2, if_neg c2, Option.bind_some, Option.bind_some, apply_is]; rfl
theorem lp_bad (F : FT) (k n : Nat) (r : List VT) (es : List Ex) (i : Nat) (e : Ex) (x : ExD) (w a b v : VT) (c : Int) (he : es[i]? = some e) (h : F e.un r = some (pk (v, c))) (hc : c ≠ 0) :
    lp F k (n + 1) r es i x w a b = some (pk (nv, c)) := by
  have hl : (i : Int) < es.length := by have := (List.getElem?_eq_some_iff.1 he).1; omega
  unfold lp
  rw [expr_Eval_l0_eq, bt hl, nth_get he, Option.bind_some]
  refine (congrArg (fun o => Option.bind o _) h).trans ?_
  rw [Option.bind_some]
  show (bif (!decide (c = 0)) then _ else _) = _
  rw [dF hc]; rfl
theorem lp_0 (F : FT) (k n : Nat) (r : List VT) (es : List Ex) (e : Ex) (x : ExD) (w a b v : VT) (he : es[0]? = some e) (h : F e.un r = some (pk (v, 0))) :
    lp F k (n + 1) r es 0 x w a b = lp F k n r es 1 x w v b := by
  have hl : (0 : Int) < es.length := by have := (List.getElem?_eq_some_iff.1 he).1; omega
  unfold lp
  rw [expr_Eval_l0_eq, bt hl, show nth es 0 = some e from nth_get (j := 0) he, Option.bind_some]
  refine (congrArg (fun o => Option.bind o _) h).trans ?_
  rw [Option.bind_some]
  rfl
theorem lp_1 (F : FT) (k n : Nat) (r : List VT) (es : List Ex) (e : Ex) (x : ExD) (w a b v : VT) (he : es[1]? = some e) (h : F e.un r = some (pk (v, 0))) :
    lp F k (n + 1) r es 1 x w a b = lp F k n r es 2 x w a v := by
  have hl : (1 : Int) < es.length := by have := (List.getElem?_eq_some_iff.1 he).1; omega
  unfold lp
  rw [expr_Eval_l0_eq, bt hl, show nth es 1 = some e from nth_get (j := 1) he, Option.bind_some]
  refine (congrArg (fun o => Option.bind o _) h).trans ?_
  rw [Option.bind_some]
  rfl
def EV (x : ExD) (r : List VT) (p : VT × Int) : Prop := Ev (fun k => expr_Eval k x r) (pk p)
theorem partsM_cases (op : Int) : (op = 1 ∨ op = 2 ∨ op = 3 ∨ op = 20) ∧ partsM op = 0 ∨ (op = 4 ∨ op = 16 ∨ op = 19 ∨ (21 ≤ op ∧ op ≤ 23)) ∧ partsM op = 1 ∨ (5 ≤ op ∧ op ≤ 18 ∧ op ≠ 16) ∧ partsM op = 2 ∨ partsM op = -1 := by
  unfold partsM
  by_cases h : op = 1 ∨ op = 2 ∨ op = 3 ∨ op = 20
  · exact .inl ⟨h, if_pos h⟩
  rw [if_neg h]
  by_cases h2 : op = 4 ∨ op = 16 ∨ op = 19 ∨ (21 ≤ op ∧ op ≤ 23)
  · exact .inr (.inl ⟨h2, if_pos h2⟩)
  rw [if_neg h2]
  by_cases h3 : 5 ≤ op ∧ op ≤ 18
  · exact .inr (.inr (.inl ⟨by omega, if_pos h3⟩))
  · exact .inr (.inr (.inr (if_neg h3)))
def evBad (x : ExD) : Prop := partsM x.1 ≠ x.2.2.2.2.2.1.length ∨ x.1 = 2 ∨ (20 ≤ x.1 ∧ x.1 ≤ 23)
theorem eval_bad (x : ExD) (r : List VT) (h : evBad x) : EV x r (nv, 220) := by
  refine .from 2 fun k => ?_
  rw [expr_Eval_succ, expr_Eval_b_eq, parts_is, Option.bind_some, sum_is]
  by_cases c : partsM x.1 = x.2.2.2.2.2.1.length
  · rw [dT c, Bool.not_true, cond_false]
    by_cases c2 : x.1 = 2
    · rw [bt c2]; rfl
    · rw [bf c2, Option.bind_some, bt (h.elim (absurd c) fun q => q.elim (absurd · c2) id)]; rfl
  · rw [dF c]; rfl
theorem eval_go (k : Nat) (x : ExD) (r : List VT) (h : ¬ evBad x) (h1 : x.1 ≠ 1) (h3 : x.1 ≠ 3) : expr_Eval (k + 1) x r = lp (expr_Eval k) (k + 1) (k + 1) r x.2.2.2.2.2.1 0 x nv nv nv := by
  unfold evBad at h
  rw [expr_Eval_succ, expr_Eval_b_eq, parts_is, Option.bind_some, sum_is, dT (by omega), Bool.not_true, cond_false, bf (by omega), Option.bind_some, bf (by omega), bf h1, bf h3]
  rfl
theorem eval_lit (x : ExD) (r : List VT) (h : ¬ evBad x) (h1 : x.1 = 1) : EV x r (x.2.2.2.2.1, 0) := by
  refine .from 2 fun k => ?_
  unfold evBad at h
  rw [expr_Eval_succ, expr_Eval_b_eq, parts_is, Option.bind_some, sum_is, dT (by omega), Bool.not_true, cond_false, bf (by omega), Option.bind_some, bf (by omega), bt h1]
  rfl
theorem eval_pos (x : ExD) (r : List VT) (h : ¬ evBad x) (h3 : x.1 = 3) : EV x r ((if 0 ≤ x.2.2.2.1 then r[x.2.2.2.1.toNat]?.getD nv else nv), 0) := by
  refine .from 2 fun k => ?_
  unfold evBad at h
  rw [expr_Eval_succ, expr_Eval_b_eq, parts_is, Option.bind_some, sum_is, dT (by omega), Bool.not_true, cond_false, bf (by omega), Option.bind_some, bf (by omega), bf (by omega), bt h3]
  generalize x.2.2.2.1 = n
  by_cases c : n < 0
  · rw [bt c, if_neg (by omega)]; rfl
  · rw [bf c, if_pos (by omega)]
    by_cases c2 : (r.length : Int) ≤ n
    · rw [bt c2, List.getElem?_eq_none (by omega)]; rfl
    · rw [bf c2]
      have hl : n.toNat < r.length := by omega
      unfold nth
      rw [if_pos (by omega), List.getElem?_eq_getElem hl]; rfl
theorem eval_one (x : ExD) (r : List VT) (h : ¬ evBad x) (a : Ex) (ha : x.2.2.2.2.2.1 = [a]) {p : VT × Int} (h1 : EV a.un r p) : EV x r (if p.2 = 0 then finM x.1 p.1 nv else (nv, p.2)) := by
  have hp : partsM x.1 = 1 := by unfold evBad at h; rw [ha] at h; simp at h; exact h.1
  have := partsM_cases x.1
  obtain ⟨v, c⟩ := p
  obtain ⟨K, hK⟩ := h1
  refine ⟨K + 5, fun k hk => ?_⟩
  obtain ⟨j, rfl⟩ : ∃ j, k = j + 1 := ⟨k - 1, by omega⟩
  obtain ⟨i, rfl⟩ : ∃ i, j = i + 3 := ⟨j - 3, by omega⟩
  show expr_Eval (i + 3 + 1) x r = _
  rw [eval_go _ x r h (by omega) (by omega), ha]
  have hF : expr_Eval (i + 3) a.un r = some (pk (v, c)) := hK (i + 3) (by omega)
  by_cases hc : c = 0
  · subst hc
    rw [if_pos rfl, show lp (expr_Eval (i + 3)) (i + 3 + 1) (i + 3 + 1) r [a] 0 x nv nv nv = _ from lp_0 _ (i + 3 + 1) (i + 3) r [a] a x nv nv nv v rfl hF]
    exact lp_end _ (i + 1) (i + 2) r [a] 1 x nv v nv (by simp)
  · rw [if_neg hc]
    exact lp_bad _ (i + 3 + 1) (i + 3) r [a] 0 a x nv nv nv v c rfl hF hc
theorem eval_two1 (x : ExD) (r : List VT) (h : ¬ evBad x) (a b : Ex) (ha : x.2.2.2.2.2.1 = [a, b]) {p : VT × Int} (h1 : EV a.un r p) (hc : p.2 ≠ 0) : EV x r (nv, p.2) := by
  have hp : partsM x.1 = 2 := by unfold evBad at h; rw [ha] at h; simp at h; exact h.1
  have := partsM_cases x.1
  obtain ⟨v, c⟩ := p
  obtain ⟨K, hK⟩ := h1
  refine ⟨K + 5, fun k hk => ?_⟩
  obtain ⟨j, rfl⟩ : ∃ j, k = j + 1 := ⟨k - 1, by omega⟩
  show expr_Eval (j + 1) x r = _
  rw [eval_go _ x r h (by omega) (by omega), ha]
  exact lp_bad _ (j + 1) j r [a, b] 0 a x nv nv nv v c rfl (hK j (by omega)) hc
theorem eval_two (x : ExD) (r : List VT) (h : ¬ evBad x) (a b : Ex) (ha : x.2.2.2.2.2.1 = [a, b]) {v : VT} {p : VT × Int} (h1 : EV a.un r (v, 0)) (h2 : EV b.un r p) : EV x r (if p.2 = 0 then finM x.1 v p.1 else (nv, p.2)) := by
  have hp : partsM x.1 = 2 := by unfold evBad at h; rw [ha] at h; simp at h; exact h.1
  have := partsM_cases x.1
  obtain ⟨w, c⟩ := p
  obtain ⟨K, hK⟩ := h1
  obtain ⟨L, hL⟩ := h2
  refine ⟨K + L + 5, fun k hk => ?_⟩
  obtain ⟨j, rfl⟩ : ∃ j, k = j + 1 := ⟨k - 1, by omega⟩
  obtain ⟨i, rfl⟩ : ∃ i, j = i + 3 := ⟨j - 3, by omega⟩
  show expr_Eval (i + 3 + 1) x r = _
  rw [eval_go _ x r h (by omega) (by omega), ha]
  rw [show lp (expr_Eval (i + 3)) (i + 3 + 1) (i + 3 + 1) r [a, b] 0 x nv nv nv = _ from lp_0 _ (i + 3 + 1) (i + 3) r [a, b] a x nv nv nv v rfl (hK (i + 3) (by omega))]
  have hF : expr_Eval (i + 3) b.un r = some (pk (w, c)) := hL (i + 3) (by omega)
  by_cases hc : c = 0
  · subst hc
    rw [if_pos rfl, show lp (expr_Eval (i + 3)) (i + 3 + 1) (i + 3) r [a, b] 1 x nv v nv = _ from lp_1 _ (i + 3 + 1) (i + 2) r [a, b] b x nv v nv w rfl hF]
    exact lp_end _ (i + 1) (i + 1) r [a, b] 2 x nv v w (by simp)
  · rw [if_neg hc]
    exact lp_bad _ (i + 3 + 1) (i + 2) r [a, b] 1 b x nv v nv w c rfl hF hc
theorem eval_ex : (e : Ex) → (r : List VT) → ∃ p, EV e.un r p
  | .mk op t n m v es, r => by
    by_cases h : evBad (Ex.mk op t n m v es).un
    · exact ⟨_, eval_bad _ r h⟩
    have hp : partsM op = es.length := Classical.byContradiction fun q => h (.inl q)
    have := partsM_cases op
    match es, h, hp with
    | [], h, hp =>
      simp at hp
      by_cases h1 : op = 1
      · exact ⟨_, eval_lit _ r h h1⟩
      · have h3 : op = 3 := Classical.byContradiction fun q => h (.inr (by show op = 2 ∨ (20 ≤ op ∧ op ≤ 23); omega))
        exact ⟨_, eval_pos _ r h h3⟩
    | [a], h, hp =>
      obtain ⟨p, hp⟩ := eval_ex a r
      exact ⟨_, eval_one _ r h a rfl hp⟩
    | [a, b], h, hp =>
      obtain ⟨p, hp⟩ := eval_ex a r
      by_cases hc : p.2 = 0
      · obtain ⟨v, c⟩ := p
        cases hc
        obtain ⟨q, hq⟩ := eval_ex b r
        exact ⟨_, eval_two _ r h a b rfl hp hq⟩
      · exact ⟨_, eval_two1 _ r h a b rfl hp hc⟩
    | a :: b :: c :: es, h, hp => simp at hp; omega
/-- Few parts everywhere. -/
inductive Small : Ex → Prop
  | mk (op : Int) (t n : List Int) (m : Int) (v : Int × (Int × (List Int × Unit))) (es : List Ex) : es.length ≤ 3 → (∀ x ∈ es, Small x) → Small (.mk op t n m v es)
theorem light_loop (es : List Ex) (d : Int) (hl : es.length ≤ 3) (ih : ∀ x ∈ es, ∃ b, (b = true → Small x) ∧ Ev (fun k => law20_Light k x.un (wr .i64 (d - 1))) (b, ())) :
    ∀ m j, j + m = es.length → ∃ b, (b = true → ∀ x ∈ es.drop j, Small x) ∧ ∃ K, ∀ k n, K ≤ k → m < n → law20_Light_l0 (law20_Light k) (k + 1) n d es (es.length : Int) (j : Int) = some (b, ())
  | 0, j, hj => ⟨true, fun _ => by rw [List.drop_eq_nil_of_le (by omega)]; simp, 0, fun k n _ hn => by
      obtain ⟨i, rfl⟩ : ∃ i, n = i + 1 := ⟨n - 1, by omega⟩
      rw [law20_Light_l0_eq, bf (by omega)]⟩
  | m + 1, j, hj => by
    have hx : es[j]? = some es[j] := List.getElem?_eq_getElem (by omega)
    obtain ⟨b, sb, K, hK⟩ := ih es[j] (List.getElem_mem _)
    obtain ⟨c, sc, L, hL⟩ := light_loop es d hl ih m (j + 1) (by omega)
    refine ⟨b && c, fun h => ?_, K + L, fun k n hk hn => ?_⟩
    · rw [Bool.and_eq_true] at h
      rw [List.drop_eq_getElem_cons (by omega)]
      intro x hx
      rcases List.mem_cons.1 hx with rfl | hx
      · exact sb h.1
      · exact sc h.2 x hx
    obtain ⟨i, rfl⟩ : ∃ i, n = i + 1 := ⟨n - 1, by omega⟩
    rw [law20_Light_l0_eq, bt (by omega), nth_get hx, Option.bind_some]
    refine (congrArg (fun o => Option.bind o _) (hK k (by omega))).trans ?_
    rw [Option.bind_some]
    show (bif (!b) then _ else _) = _
    cases b
    · rfl
    · rw [Bool.not_true, cond_false, wr_i64 (by omega)]
      exact hL k i (by omega) (by omega)
theorem light_ex : (e : Ex) → (d : Int) → ∃ b, (b = true → Small e) ∧ Ev (fun k => law20_Light k e.un d) (b, ())
  | .mk op t n m v es, d => by
    by_cases h0 : d = 0
    · exact ⟨false, nofun, .from 1 fun k => by rw [law20_Light_succ, law20_Light_b_eq, bt h0]⟩
    by_cases h1 : 3 < (es.length : Int)
    · refine ⟨false, nofun, .from 1 fun k => ?_⟩
      rw [law20_Light_succ, law20_Light_b_eq, bf h0]
      show (bif (decide (3 < (es.length : Int))) then _ else _) = _
      rw [bt h1]
    by_cases h2 : 200 < (wr .i64 ((wr .i64 ((n.length : Int) + (t.length : Int))) + (v.2.2.1.length : Int)))
    · refine ⟨false, nofun, .from 1 fun k => ?_⟩
      rw [law20_Light_succ, law20_Light_b_eq, bf h0]
      show (bif (decide (3 < (es.length : Int))) then _ else (bif (decide (200 < (wr .i64 ((wr .i64 ((n.length : Int) + (t.length : Int))) + (v.2.2.1.length : Int))))) then _ else _)) = _
      rw [bf h1, bt h2]
    have ih : ∀ x ∈ es, ∃ b, (b = true → Small x) ∧ Ev (fun k => law20_Light k x.un (wr .i64 (d - 1))) (b, ()) := fun x hx => light_ex x _
    obtain ⟨b, sb, K, hK⟩ := light_loop es d (by omega) ih es.length 0 (by omega)
    refine ⟨b, fun h => .mk _ _ _ _ _ _ (by omega) (sb h), K + es.length + 1, fun k hk => ?_⟩
    obtain ⟨i, rfl⟩ : ∃ i, k = i + 1 := ⟨k - 1, by omega⟩
    show law20_Light (i + 1) _ d = _
    rw [law20_Light_succ, law20_Light_b_eq, bf h0]
    show (bif (decide (3 < (es.length : Int))) then _ else (bif (decide (200 < (wr .i64 ((wr .i64 ((n.length : Int) + (t.length : Int))) + (v.2.2.1.length : Int))))) then _ else _)) = _
    rw [bf h1, bf h2]
    exact hK i (i + 1) (by omega) (by omega)
termination_by e d => SizeOf.sizeOf e
decreasing_by
  have := List.sizeOf_lt_of_mem hx
  simp; omega
def litD (v : VT) : ExD := (1, ([], ([], (0, (v, ([], ()))))))
def opD (op : Int) (es : List Ex) : ExD := (op, ([], ([], (0, (nv, (es, ()))))))
theorem lit_ev (v : VT) (r : List VT) : EV (litD v) r (v, 0) := eval_lit (litD v) r (by unfold evBad; simp [litD, partsM]) rfl
theorem fin_and (o : Bool) (a b : VT) : finM (if o then 18 else 17) a b = (bothM o (wholeM a) (wholeM b), 0) := by
  cases o <;> simp [finM, applyM]
theorem awake22 : Ev (fun k => law22_awake k) (true, ()) := by
  have h1 : EV (opD 17 [Ex.re (litD nv), Ex.re (litD (1, (0, ([], ()))))]) [] ((1, (0, ([], ()))), 0) := by
    have := eval_two (opD 17 [Ex.re (litD nv), Ex.re (litD (1, (0, ([], ()))))]) [] (by unfold evBad; simp [opD, partsM]) _ _ rfl (lit_ev nv []) (lit_ev (1, (0, ([], ()))) [])
    exact this
  have hr : reckM 8 0 0 = (0, false) := by
    have h := reckon_is 0 8 0 0
    have h2 : expr_reckon 0 8 0 0 = some (((0 : Int), (false, ())), ()) := by
      rw [expr_reckon_eq, bf (by omega), bf (by omega), bf (by omega), bf (by omega), bt rfl, num_Div_eq, bt rfl]; rfl
    rw [h2] at h
    have h := Option.some.inj h
    unfold pkN at h
    simp only [Prod.mk.injEq, and_true] at h
    exact Prod.ext h.1.symm h.2.symm
  have h2 : EV (opD 8 [Ex.re (litD (1, (0, ([], ())))), Ex.re (litD (1, (0, ([], ()))))]) [] (nv, 11) := by
    have := eval_two (opD 8 [Ex.re (litD (1, (0, ([], ())))), Ex.re (litD (1, (0, ([], ()))))]) [] (by unfold evBad; simp [opD, partsM]) _ _ rfl (lit_ev (1, (0, ([], ()))) []) (lit_ev (1, (0, ([], ()))) [])
    rw [if_pos rfl] at this
    have e : finM 8 (1, (0, ([], ()))) (1, (0, ([], ()))) = (nv, 11) := by simp [finM, applyM, wholeM, hr, nv]
    rw [show (opD 8 [Ex.re (litD (1, (0, ([], ())))), Ex.re (litD (1, (0, ([], ()))))]).1 = 8 from rfl, e] at this
    exact this
  simp only [law22_awake_eq]
  refine Ev.bind h1 (Ev.bind h2 ?_)
  exact .from 0 fun k => rfl
theorem same_loop (es fs : List Ex) (hl : es.length = fs.length) (hs : es.length ≤ 3) (ih : ∀ x ∈ es, ∀ y, ∃ b, (b = true ↔ x = y) ∧ Ev (fun k => expr_Same k x.un y.un) (b, ()) ∧ Ev (fun k => ref19_SameExpr k x.un y.un) (b, ())) :
    ∀ m j, j + m = es.length → ∃ b, (b = true ↔ es.drop j = fs.drop j) ∧ ∃ K, ∀ k n, K ≤ k → m < n →
      slices_EqualFunc_Expr_Expr_Expr_Expr_expr_Same_l0 (expr_Same k) (k + 1) n fs es (es.length : Int) (j : Int) = some (b, ()) ∧
      ref19_SameExprs_l0 (ref19_SameExpr k) (k + 1) n es fs (es.length : Int) (j : Int) = some (b, ())
  | 0, j, hj => ⟨true, by rw [List.drop_eq_nil_of_le (by omega), List.drop_eq_nil_of_le (by omega)]; simp, 0, fun k n _ hn => by
      obtain ⟨i, rfl⟩ : ∃ i, n = i + 1 := ⟨n - 1, by omega⟩
      rw [slices_EqualFunc_Expr_Expr_Expr_Expr_expr_Same_l0_eq, bf (by omega), ref19_SameExprs_l0_eq, bf (by omega)]
      exact ⟨rfl, rfl⟩⟩
  | m + 1, j, hj => by
    have hx : es[j]? = some es[j] := List.getElem?_eq_getElem (by omega)
    have hy : fs[j]? = some fs[j] := List.getElem?_eq_getElem (by omega)
    obtain ⟨b, sb, ⟨K, hK⟩, K', hK'⟩ := ih es[j] (List.getElem_mem _) fs[j]
    obtain ⟨c, sc, L, hL⟩ := same_loop es fs hl hs ih m (j + 1) (by omega)
    refine ⟨b && c, ?_, K + K' + L, fun k n hk hn => ?_⟩
    · rw [Bool.and_eq_true, sb, sc, List.drop_eq_getElem_cons (show j < es.length by omega), List.drop_eq_getElem_cons (show j < fs.length by omega), List.cons.injEq]
    obtain ⟨i, rfl⟩ : ∃ i, n = i + 1 := ⟨n - 1, by omega⟩
    obtain ⟨g1, g2⟩ := hL k i (by omega) (by omega)
    constructor
    · rw [slices_EqualFunc_Expr_Expr_Expr_Expr_expr_Same_l0_eq, bt (by omega), nth_get hx, nth_get hy, Option.bind_some, Option.bind_some]
      refine (congrArg (fun o => Option.bind o _) (hK k (by omega))).trans ?_
      rw [Option.bind_some]
      show (bif (!b) then _ else _) = _
      cases b
      · rfl
      · rw [Bool.not_true, cond_false, wr_i64 (by omega)]
        exact g1
    · rw [ref19_SameExprs_l0_eq, bt (by omega), nth_get hx, nth_get hy, Option.bind_some, Option.bind_some]
      refine (congrArg (fun o => Option.bind o _) (hK' k (by omega))).trans ?_
      rw [Option.bind_some]
      show (bif (!b) then _ else _) = _
      cases b
      · rfl
      · rw [Bool.not_true, cond_false, wr_i64 (by omega)]
        exact g2
theorem beqLd (a b : List Int) : beqL a b = decide (a = b) := rfl
theorem same_ex : (e : Ex) → Small e → (f : Ex) → ∃ b, (b = true ↔ e = f) ∧ Ev (fun k => expr_Same k e.un f.un) (b, ()) ∧ Ev (fun k => ref19_SameExpr k e.un f.un) (b, ())
  | .mk op t n m v es, hs, .mk op' t' n' m' v' fs => by
    have hl : es.length ≤ 3 := by cases hs; assumption
    have hm : ∀ x ∈ es, Small x := by cases hs; assumption
    by_cases h1 : op = op'
    case neg =>
      exact ⟨false, by simp [h1], .from 1 fun k => by rw [expr_Same_succ, expr_Same_b_eq]; exact bf h1, .from 1 fun k => by rw [ref19_SameExpr_succ, ref19_SameExpr_b_eq]; exact bf h1⟩
    by_cases h2 : t = t'
    case neg =>
      exact ⟨false, by simp [h2], .from 1 fun k => by rw [expr_Same_succ, expr_Same_b_eq]; exact (bt h1).trans (bf h2), .from 1 fun k => by rw [ref19_SameExpr_succ, ref19_SameExpr_b_eq]; exact (bt h1).trans (bf h2)⟩
    by_cases h3 : n = n'
    case neg =>
      exact ⟨false, by simp [h3], .from 1 fun k => by rw [expr_Same_succ, expr_Same_b_eq]; exact (bt h1).trans ((bt h2).trans (bf h3)), .from 1 fun k => by rw [ref19_SameExpr_succ, ref19_SameExpr_b_eq]; exact (bt h1).trans ((bt h2).trans (bf h3))⟩
    by_cases h4 : m = m'
    case neg =>
      exact ⟨false, by simp [h4], .from 1 fun k => by rw [expr_Same_succ, expr_Same_b_eq]; exact (bt h1).trans ((bt h2).trans ((bt h3).trans (bf h4))), .from 1 fun k => by rw [ref19_SameExpr_succ, ref19_SameExpr_b_eq]; exact (bt h1).trans ((bt h2).trans ((bt h3).trans (bf h4)))⟩
    have hv := decEqV v v'
    by_cases h5 : v = v'
    case neg =>
      rw [decide_eq_false h5] at hv
      have g {α : Type} {x y : α} : (bif Ty.decEq TV3 v v' then x else y) = y := by rw [hv]; rfl
      exact ⟨false, by simp [h5], .from 1 fun k => by rw [expr_Same_succ, expr_Same_b_eq]; exact (bt h1).trans ((bt h2).trans ((bt h3).trans ((bt h4).trans g))), .from 1 fun k => by rw [ref19_SameExpr_succ, ref19_SameExpr_b_eq]; exact (bt h1).trans ((bt h2).trans ((bt h3).trans ((bt h4).trans g)))⟩
    rw [decide_eq_true h5] at hv
    have g {α : Type} {x y : α} : (bif Ty.decEq TV3 v v' then x else y) = x := by rw [hv]; rfl
    have e1 : ∀ k, expr_Same (k + 1) (Ex.mk op t n m v es).un (Ex.mk op' t' n' m' v' fs).un = (slices_EqualFunc_Expr_Expr_Expr_Expr_expr_Same (expr_Same k) (k + 1) es fs).bind fun r286 => some (r286.1, ()) := fun k => by
      rw [expr_Same_succ, expr_Same_b_eq]; exact (bt h1).trans ((bt h2).trans ((bt h3).trans ((bt h4).trans g)))
    have e2 : ∀ k, ref19_SameExpr (k + 1) (Ex.mk op t n m v es).un (Ex.mk op' t' n' m' v' fs).un = (ref19_SameExprs (ref19_SameExpr k) (k + 1) es fs).bind fun r286 => some (r286.1, ()) := fun k => by
      rw [ref19_SameExpr_succ, ref19_SameExpr_b_eq]; exact (bt h1).trans ((bt h2).trans ((bt h3).trans ((bt h4).trans g)))
    by_cases h6 : es.length = fs.length
    case neg =>
      refine ⟨false, by simp; intro _ _ _ _ _ q; exact h6 (by rw [q]), .from 1 fun k => ?_, .from 1 fun k => ?_⟩
      · rw [e1, slices_EqualFunc_Expr_Expr_Expr_Expr_expr_Same_eq, dF (by omega)]; rfl
      · rw [e2, ref19_SameExprs_eq, dF (by omega)]; rfl
    have ih : ∀ x ∈ es, ∀ y, ∃ b, (b = true ↔ x = y) ∧ Ev (fun k => expr_Same k x.un y.un) (b, ()) ∧ Ev (fun k => ref19_SameExpr k x.un y.un) (b, ()) := fun x hx y => same_ex x (hm x hx) y
    obtain ⟨b, sb, K, hK⟩ := same_loop es fs h6 hl ih es.length 0 (by omega)
    refine ⟨b, ?_, ⟨K + es.length + 1, fun k hk => ?_⟩, ⟨K + es.length + 1, fun k hk => ?_⟩⟩
    · rw [sb, List.drop_zero, List.drop_zero]; subst h1 h2 h3 h4 h5; simp
    · obtain ⟨i, rfl⟩ : ∃ i, k = i + 1 := ⟨k - 1, by omega⟩
      show expr_Same (i + 1) _ _ = _
      rw [e1, slices_EqualFunc_Expr_Expr_Expr_Expr_expr_Same_eq, dT (by omega), Bool.not_true, cond_false]
      refine (congrArg (fun o => Option.bind o _) (hK i (i + 1) (by omega) (by omega)).1).trans ?_
      rfl
    · obtain ⟨i, rfl⟩ : ∃ i, k = i + 1 := ⟨k - 1, by omega⟩
      show ref19_SameExpr (i + 1) _ _ = _
      rw [e2, ref19_SameExprs_eq, dT (by omega), Bool.not_true, cond_false]
      refine (congrArg (fun o => Option.bind o _) (hK i (i + 1) (by omega) (by omega)).2).trans ?_
      rfl
termination_by e _ _ => SizeOf.sizeOf e
decreasing_by
  have := List.sizeOf_lt_of_mem hx
  simp; omega
theorem same_core (x y : ExD) : ∃ k, law22_ExprSame k x y = some (true, ()) := by
  apply Ev.ex
  simp only [law22_ExprSame_eq]
  refine Ev.bind awake22 ?_
  simp only [Bool.not_true, cond_false]
  obtain ⟨b1, s1, hb1⟩ := light_ex (Ex.re x) 10
  refine Ev.bind hb1 ?_
  cases b1
  · exact Ev.ret
  simp only [Bool.not_true, cond_false]
  obtain ⟨b2, _, hb2⟩ := light_ex (Ex.re y) 10
  refine Ev.bind hb2 ?_
  cases b2
  · exact Ev.ret
  simp only [Bool.not_true, cond_false]
  obtain ⟨b, _, p1, p2⟩ := same_ex (Ex.re x) (s1 rfl) (Ex.re y)
  obtain ⟨c, hc, q1, _⟩ := same_ex (Ex.re x) (s1 rfl) (Ex.re x)
  refine Ev.bind p1 (Ev.bind p2 ?_)
  have hb : beqB b b = true := by simp [beqB]
  simp only [hb, cond_true]
  refine Ev.bind q1 ?_
  rw [hc.2 rfl]
  exact Ev.ret
theorem ExprSame_true (x y : (.st (.pair (.int .i64) (.pair .str (.pair .str (.pair (.int .i64) (.pair TV3 (.pair (.sl .ex) .unit)))))) : Ty).D) (h1 : wfD (.st (.pair (.int .i64) (.pair .str (.pair .str (.pair (.int .i64) (.pair TV3 (.pair (.sl .ex) .unit))))))) x) (h2 : wfD (.st (.pair (.int .i64) (.pair .str (.pair .str (.pair (.int .i64) (.pair TV3 (.pair (.sl .ex) .unit))))))) y) :
    ∃ k, law22_ExprSame k x y = some (true, ()) := same_core x y
end Go.Proofs.Ytmngjegceoidhaa.Den
