import Derived.Test.YtmngjegceoidhaaDExprTyped
import Derived.Test.YtmngjegceoidhaaDen34
namespace Go.Proofs.Ytmngjegceoidhaa.Den
open Go Go.RowKit
set_option linter.unusedVariables false
attribute [local irreducible] cat_Column cat_Column_j0 cat_Column_l0 cat_Column_l1 cmp_Compare_int cmp_Compare_int64 cmp_isNaN_int cmp_isNaN_int64 expr_Bind expr_Bind_b expr_Bind_j0 expr_Bind_l0 expr_Eval expr_Eval_b expr_Eval_l0 expr_Sums expr_Sums_b expr_apply expr_apply_j0 expr_both expr_both_l0 expr_compare expr_compares expr_fits expr_kind expr_kind_l0 expr_literal expr_parts expr_parts_j0 expr_parts_j1 expr_parts_j2 expr_parts_j3 expr_parts_j4 expr_parts_j5 expr_place expr_reckon expr_sum expr_truth expr_truth_j0 expr_whole internal_bytealg_CompareString internal_bytealg_abigen_runtime_cmpstring law02_Few law02_Few_l0 law20_Light law20_Light_b law20_Light_l0 law21_Small law21_Small_l0 law22_ExprTyped law22_ExprTyped_l0 law22_ExprTyped_l1 law22_ExprTyped_l2 law22_ExprTyped_l3 law22_ExprTyped_l4 law22_Scoped law22_Scoped_l0 law22_awake num_Add num_Div num_Mod num_Mul num_Neg num_Sub num_kept num_least num_same okey_Less okey_order slices_ContainsFunc_Expr_Expr_expr_Sums slices_Contains_s_int_int slices_IndexFunc_Expr_Expr_expr_Sums slices_IndexFunc_Expr_Expr_expr_Sums_l0 slices_Index_s_int_int slices_Index_s_int_int_l0 strings_Compare
abbrev ValT := Int × (Int × ((List Int) × Unit))
def fewB (l : List ValT) (r : List ValT) : Bool := r.all (fun x => decide (x.2.2.1.length ≤ 100)) && decide (l.length ≤ 20)
theorem few_l0 (k : Nat) {l : List ValT} (hm : l.length ≤ 9223372036854775807) : ∀ n j, j ≤ l.length → l.length - j < n → law02_Few_l0 k n l l (l.length : Int) (j : Int) = some (fewB l (l.drop j), ())
  | 0, _, _, h => absurd h (Nat.not_lt_zero _)
  | n + 1, j, hj, hn => by
    rw [law02_Few_l0_eq]
    by_cases c : j < l.length
    · have hx := List.getElem?_eq_getElem c
      rw [bt (by omega), nth_get hx, Option.bind_some, List.drop_eq_getElem_cons c]
      by_cases c1 : 100 < (l[j].2.2.1.length : Int)
      · rw [bt c1, show fewB l (l[j] :: l.drop (j + 1)) = false from by unfold fewB; rw [List.all_cons, dF (by omega)]; rfl]
      rw [bf c1, wr_i64 (by omega)]
      refine (few_l0 k hm n (j + 1) c (by omega)).trans ?_
      rw [show fewB l (l[j] :: l.drop (j + 1)) = fewB l (l.drop (j + 1)) from by unfold fewB; rw [List.all_cons, dT (by omega)]; rfl]
    · have : j = l.length := by omega
      subst this
      rw [bf (by omega), List.drop_length]
      have : decide ((l.length : Int) ≤ 20) = decide (l.length ≤ 20) := by
        by_cases h : l.length ≤ 20
        · rw [dT h, dT (by omega)]
        · rw [dF h, dF (by omega)]
      rw [this]; rfl
theorem few_ev' {l : List ValT} (h : l.length ≤ 9223372036854775807) : Ev (fun k => law02_Few k l) (fewB l l, ()) := by
  refine ⟨l.length + 1, fun k hk => ?_⟩
  show law02_Few k l = _
  rw [law02_Few_eq]
  exact few_l0 k h k 0 (by omega) (by omega)
abbrev VT := Int × (Int × ((List Int) × Unit))
def nv : VT := (0, (0, ([], ())))
def tv (b : Bool) : VT := (1, ((if b then 1 else 0), ([], ())))
abbrev OutT := (VT × (Int × Unit)) × (VT × Unit)
def pk (p : VT × Int) : OutT := ((p.1, (p.2, ())), (p.1, ()))
def partsM (op : Int) : Int := if op = 1 ∨ op = 2 ∨ op = 3 ∨ op = 20 then 0 else if op = 4 ∨ op = 16 ∨ op = 19 ∨ (21 ≤ op ∧ op ≤ 23) then 1 else if 5 ≤ op ∧ op ≤ 18 then 2 else -1
theorem parts_is (k : Nat) (op : Int) : expr_parts (k + 1) op = some (partsM op, ()) := by
  have j1 : ∀ b, expr_parts_j1 (k + 1) op b = some ((if b = true then 1 else if 5 ≤ op ∧ op ≤ 18 then 2 else -1), ()) := by
    intro b
    rw [expr_parts_j1_eq]
    cases b
    · rw [cond_false]
      by_cases h : 5 ≤ op
      · rw [bt h]
        by_cases h2 : op ≤ 18
        · rw [bt h2, if_neg (by simp), if_pos ⟨h, h2⟩]
        · rw [bf h2, if_neg (by simp), if_neg (by omega)]
      · rw [bf h, if_neg (by simp), if_neg (by omega)]
    · rw [cond_true, if_pos rfl]
  have j2 : ∀ b, expr_parts_j2 (k + 1) op b = some ((if b = true then 1 else if 5 ≤ op ∧ op ≤ 18 then 2 else -1), ()) := fun b => by rw [expr_parts_j2_eq, j1]
  have j3 : ∀ b, expr_parts_j3 (k + 1) op b = some ((if b = true then 1 else if 5 ≤ op ∧ op ≤ 18 then 2 else -1), ()) := fun b => by rw [expr_parts_j3_eq, j2]
  have j0 : ∀ b, expr_parts_j0 (k + 1) op b = some ((if b = true then 0 else if op = 4 ∨ op = 16 ∨ op = 19 ∨ (21 ≤ op ∧ op ≤ 23) then 1 else if 5 ≤ op ∧ op ≤ 18 then 2 else -1), ()) := by
    intro b
    rw [expr_parts_j0_eq]
    cases b
    · rw [cond_false, if_neg (show ¬ false = true by simp)]
      by_cases h4 : op = 4
      · rw [bt h4, j1, dT h4, if_pos rfl, if_pos (by omega)]
      rw [bf h4]
      by_cases h16 : op = 16
      · rw [bt h16, j2, dT h16, if_pos rfl, if_pos (by omega)]
      rw [bf h16]
      by_cases h19 : op = 19
      · rw [bt h19, j3, dT h19, if_pos rfl, if_pos (by omega)]
      rw [bf h19]
      by_cases h21 : 21 ≤ op
      · rw [bt h21, j3]
        by_cases h23 : op ≤ 23
        · rw [dT h23, if_pos rfl, if_pos (by omega)]
        · rw [dF h23, if_neg (by simp), if_neg (show ¬ (op = 4 ∨ op = 16 ∨ op = 19 ∨ 21 ≤ op ∧ op ≤ 23) by omega)]
      · rw [bf h21, j3, if_neg (by simp), if_neg (show ¬ (op = 4 ∨ op = 16 ∨ op = 19 ∨ 21 ≤ op ∧ op ≤ 23) by omega)]
    · rw [cond_true, if_pos rfl]
  rw [expr_parts_eq]
  unfold partsM
  by_cases h1 : op = 1
  · rw [bt h1, j0, dT h1, if_pos rfl, if_pos (by omega)]
  rw [bf h1]
  by_cases h2 : op = 2
  · rw [bt h2, expr_parts_j4_eq, j0, dT h2, if_pos rfl, if_pos (by omega)]
  rw [bf h2]
  by_cases h3 : op = 3
  · rw [bt h3, expr_parts_j5_eq, expr_parts_j4_eq, j0, dT h3, if_pos rfl, if_pos (by omega)]
  rw [bf h3, expr_parts_j5_eq, expr_parts_j4_eq, j0]
  by_cases h20 : op = 20
  · rw [dT h20, if_pos rfl, if_pos (by omega)]
  · rw [dF h20, if_neg (by simp), if_neg (show ¬ (op = 1 ∨ op = 2 ∨ op = 3 ∨ op = 20) by omega)]
theorem sum_is (k : Nat) (op : Int) : expr_sum k op = some (decide (20 ≤ op ∧ op ≤ 23), ()) := by
  rw [expr_sum_eq]
  by_cases h : 20 ≤ op
  · rw [bt h]
    by_cases h2 : op ≤ 23
    · rw [dT h2, dT ⟨h, h2⟩]
    · rw [dF h2, dF (by omega)]
  · rw [bf h, dF (by omega)]
theorem compares_is (k : Nat) (op : Int) : expr_compares k op = some (decide (10 ≤ op ∧ op ≤ 15), ()) := by
  rw [expr_compares_eq]
  by_cases h : 10 ≤ op
  · rw [bt h]
    by_cases h2 : op ≤ 15
    · rw [dT h2, dT ⟨h, h2⟩]
    · rw [dF h2, dF (by omega)]
  · rw [bf h, dF (by omega)]
theorem truth_is (k : Nat) (b : Bool) : expr_truth (k + 1) b = some (tv b, (tv b, ())) := by
  rw [expr_truth_eq]
  cases b
  · rw [cond_false, expr_truth_j0_eq]; rfl
  · rw [cond_true, expr_truth_j0_eq]; rfl
def wholeM (v : VT) : VT := if v.1 = 1 then v else nv
theorem whole_is (k : Nat) (v : VT) : expr_whole k v = some (wholeM v, (wholeM v, ())) := by
  rw [expr_whole_eq]
  unfold wholeM
  by_cases h : v.1 = 1
  · rw [dT h, Bool.not_true, cond_false, if_pos h]
  · rw [dF h, Bool.not_false, cond_true, if_neg h]; rfl
theorem isNaN_is (k : Nat) (a : Int) : cmp_isNaN_int k a = some (false, ()) := by rw [cmp_isNaN_int_eq, dT rfl]; rfl
theorem isNaN64_is (k : Nat) (a : Int) : cmp_isNaN_int64 k a = some (false, ()) := by rw [cmp_isNaN_int64_eq, dT rfl]; rfl
theorem cmpInt_is (k : Nat) (a b : Int) : cmp_Compare_int k a b = some ((if a < b then -1 else if b < a then 1 else 0), ()) := by
  rw [cmp_Compare_int_eq, isNaN_is, isNaN_is, Option.bind_some, Option.bind_some, cond_false, cond_false]
  by_cases h : a < b
  · rw [bt h, if_pos h]
  · rw [bf h, if_neg h]
    by_cases h2 : b < a
    · rw [bt h2, if_pos h2]
    · rw [bf h2, if_neg h2]
theorem cmpInt64_is (k : Nat) (a b : Int) : cmp_Compare_int64 k a b = some ((if a < b then -1 else if b < a then 1 else 0), ()) := by
  rw [cmp_Compare_int64_eq, isNaN64_is, isNaN64_is, Option.bind_some, Option.bind_some, cond_false, cond_false]
  by_cases h : a < b
  · rw [bt h, if_pos h]
  · rw [bf h, if_neg h]
    by_cases h2 : b < a
    · rw [bt h2, if_pos h2]
    · rw [bf h2, if_neg h2]
def sgn (a b : Int) : Int := if a < b then -1 else if b < a then 1 else 0
def ordM (a b : VT) : Int := if a.1 = b.1 then (if a.1 = 1 then sgn a.2.1 b.2.1 else if a.1 = 2 then cmpL a.2.2.1 b.2.2.1 else 0) else sgn a.1 b.1
theorem order_is (k : Nat) (a b : VT) : okey_order k a b = some (ordM a b, ()) := by
  rw [okey_order_eq]
  unfold ordM
  by_cases h : a.1 = b.1
  · rw [dT h, Bool.not_true, cond_false, if_pos h]
    by_cases h1 : a.1 = 1
    · rw [bt h1, if_pos h1, cmpInt64_is]; rfl
    · rw [bf h1, if_neg h1]
      by_cases h2 : a.1 = 2
      · rw [bt h2, if_pos h2, strings_Compare_eq, internal_bytealg_CompareString_eq, internal_bytealg_abigen_runtime_cmpstring_eq]; rfl
      · rw [bf h2, if_neg h2]
  · rw [dF h, Bool.not_false, cond_true, if_neg h, cmpInt_is]; rfl
def lessM (a b : VT) : Bool := decide (ordM a b < 0)
theorem less_is (k : Nat) (a b : VT) : okey_Less k a b = some (lessM a b, ()) := by
  rw [okey_Less_eq, show ((a.1, (a.2.1, (a.2.2.1, ()))) : VT) = a from rfl, show ((b.1, (b.2.1, (b.2.2.1, ()))) : VT) = b from rfl, order_is]; rfl
def cmpM (op : Int) (a b : VT) : VT :=
  if a.1 = 0 ∨ b.1 = 0 then nv else
  tv (if op = 10 then !lessM a b && !lessM b a else if op = 11 then lessM a b || lessM b a else if op = 12 then lessM a b else if op = 13 then !lessM b a else if op = 14 then lessM b a else !lessM a b)
theorem compare_is (k : Nat) (op : Int) (a b : VT) : expr_compare (k + 1) op a b = some (cmpM op a b, (cmpM op a b, ())) := by
  rw [expr_compare_eq]
  unfold cmpM
  by_cases h : a.1 = 0
  · rw [bt h, if_pos (.inl h)]; rfl
  rw [bf h]
  by_cases h2 : b.1 = 0
  · rw [bt h2, if_pos (.inr h2)]; rfl
  rw [bf h2, if_neg (show ¬ (a.1 = 0 ∨ b.1 = 0) by omega), show ((a.1, (a.2.1, (a.2.2.1, ()))) : VT) = a from rfl, show ((b.1, (b.2.1, (b.2.2.1, ()))) : VT) = b from rfl, less_is, less_is, Option.bind_some, Option.bind_some]
  simp only [truth_is, Option.bind_some]
  by_cases c : op = 10
  · rw [bt c, if_pos c]
    cases lessM a b <;> rfl
  rw [bf c, if_neg c]
  by_cases c : op = 11
  · rw [bt c, if_pos c]
    cases lessM a b <;> rfl
  rw [bf c, if_neg c]
  by_cases c : op = 12
  · rw [bt c, if_pos c]
  rw [bf c, if_neg c]
  by_cases c : op = 13
  · rw [bt c, if_pos c]
  rw [bf c, if_neg c]
  by_cases c : op = 14
  · rw [bt c, if_pos c]
  rw [bf c, if_neg c]
def bothM (o : Bool) (a b : VT) : VT :=
  if (a.1 = 1 ∧ decide (a.2.1 ≠ 0) = o) ∨ (b.1 = 1 ∧ decide (b.2.1 ≠ 0) = o) then tv o else if a.1 = 0 ∨ b.1 = 0 then nv else tv (!o)
theorem both_is (k : Nat) (o : Bool) (a b : VT) : expr_both (k + 3) o a b = some (bothM o a b, (bothM o a b, ())) := by
  have w01 : wr .i64 (0 + 1) = 1 := rfl
  have w12 : wr .i64 (1 + 1) = 2 := rfl
  rw [expr_both_eq, truth_is, Option.bind_some]
  have r2 : ∀ n w1 w2 w3, expr_both_l0 (k + 3) (n + 1) o (a, (b, ())) 2 a.1 a.2.1 a.2.2.1 b.1 b.2.1 b.2.2.1 w1 w2 w3 (tv o).1 (tv o).2.1 (tv o).2.2.1 = some ((if a.1 = 0 ∨ b.1 = 0 then nv else tv (!o)), ((if a.1 = 0 ∨ b.1 = 0 then nv else tv (!o)), ())) := by
    intro n w1 w2 w3
    rw [expr_both_l0_eq, bf (by omega)]
    by_cases h : a.1 = 0
    · rw [bt h, if_pos (.inl h)]; rfl
    rw [bf h]
    by_cases h2 : b.1 = 0
    · rw [bt h2, if_pos (.inr h2)]; rfl
    rw [bf h2, if_neg (show ¬ (a.1 = 0 ∨ b.1 = 0) by omega), truth_is]; rfl
  have bq : ∀ x : Int, beqB (!decide (x = 0)) o = decide (decide (x ≠ 0) = o) := by
    intro x; by_cases h : x = 0 <;> cases o <;> simp [beqB, h]
  have r1 : ∀ n w1 w2 w3, expr_both_l0 (k + 3) (n + 1 + 1) o (a, (b, ())) 1 a.1 a.2.1 a.2.2.1 b.1 b.2.1 b.2.2.1 w1 w2 w3 (tv o).1 (tv o).2.1 (tv o).2.2.1 = some ((if b.1 = 1 ∧ decide (b.2.1 ≠ 0) = o then tv o else if a.1 = 0 ∨ b.1 = 0 then nv else tv (!o)), ((if b.1 = 1 ∧ decide (b.2.1 ≠ 0) = o then tv o else if a.1 = 0 ∨ b.1 = 0 then nv else tv (!o)), ())) := by
    intro n w1 w2 w3
    rw [expr_both_l0_eq, bt (by omega), bf (by omega), bt rfl, w12, r2]
    by_cases h : b.1 = 1
    · rw [bt h, bq]
      by_cases h2 : decide (b.2.1 ≠ 0) = o
      · rw [bt h2, if_pos ⟨h, h2⟩]
      · rw [bf h2, if_neg (show ¬ (b.1 = 1 ∧ decide (b.2.1 ≠ 0) = o) from fun q => h2 q.2)]
    · rw [bf h, if_neg (show ¬ (b.1 = 1 ∧ decide (b.2.1 ≠ 0) = o) from fun q => h q.1)]
  show expr_both_l0 (k + 3) (k + 1 + 1 + 1) o (a, (b, ())) 0 a.1 a.2.1 a.2.2.1 b.1 b.2.1 b.2.2.1 0 0 [] (tv o).1 (tv o).2.1 (tv o).2.2.1 = _
  rw [expr_both_l0_eq, bt (by omega), bt rfl, w01, r1]
  unfold bothM
  by_cases h : a.1 = 1
  · rw [bt h, bq]
    by_cases h2 : decide (a.2.1 ≠ 0) = o
    · rw [bt h2, if_pos (.inl ⟨h, h2⟩)]
    · rw [bf h2]
      by_cases h3 : b.1 = 1 ∧ decide (b.2.1 ≠ 0) = o
      · rw [if_pos h3, if_pos (.inr h3)]
      · rw [if_neg h3, if_neg (show ¬ ((a.1 = 1 ∧ decide (a.2.1 ≠ 0) = o) ∨ (b.1 = 1 ∧ decide (b.2.1 ≠ 0) = o)) from fun q => q.elim (fun q => h2 q.2) h3)]
  · rw [bf h]
    by_cases h3 : b.1 = 1 ∧ decide (b.2.1 ≠ 0) = o
    · rw [if_pos h3, if_pos (.inr h3)]
    · rw [if_neg h3, if_neg (show ¬ ((a.1 = 1 ∧ decide (a.2.1 ≠ 0) = o) ∨ (b.1 = 1 ∧ decide (b.2.1 ≠ 0) = o)) from fun q => q.elim (fun q => h q.1) h3)]
def pkN (p : Int × Bool) : (Int × (Bool × Unit)) × Unit := ((p.1, (p.2, ())), ())
theorem neg_is (k : Nat) (a : Int) : ∃ p : Int × Bool, ∀ k, num_Neg k a = some (pkN p) := by
  by_cases h : decide ((wr .u64 a) = 9223372036854775808) = true
  · refine ⟨(0, false), fun k => ?_⟩
    rw [num_Neg_eq, num_least_eq, Option.bind_some, num_kept_eq]
    simp only [h]; rfl
  · refine ⟨(wr .i64 (0 - a), true), fun k => ?_⟩
    rw [num_Neg_eq, num_least_eq, Option.bind_some, num_kept_eq]
    simp only [h]; rfl
theorem kept_is (a : Int) (b : Bool) : ∃ p : Int × Bool, ∀ k, num_kept k a b = some (pkN p) := by
  cases b
  · exact ⟨(0, false), fun k => by rw [num_kept_eq]; rfl⟩
  · exact ⟨(a, true), fun k => by rw [num_kept_eq]; rfl⟩
theorem bindN {α : Type} {f : Nat → Option ((Int × (Bool × Unit)) × Unit)} (h : ∃ p : Int × Bool, ∀ k, f k = some (pkN p)) : ∃ p : Int × Bool, ∀ k, ((f k).bind fun r => some ((r.1.1, (r.1.2.1, ())), ())) = some (pkN p) := by
  obtain ⟨p, hp⟩ := h
  exact ⟨p, fun k => by rw [hp]; rfl⟩
theorem add_is (a b : Int) : ∃ p : Int × Bool, ∀ k, num_Add k a b = some (pkN p) := by
  simp only [num_Add_eq, num_same_eq, Option.bind_some]
  generalize decide (((Go.bits .xor .i64 a b) / 9223372036854775808) = 0) = c
  cases c
  · simp only [Bool.not_false, cond_true]
    exact bindN (α := Unit) (kept_is _ _)
  · simp only [Bool.not_true, cond_false]
    exact bindN (α := Unit) (kept_is _ _)
theorem sub_is (a b : Int) : ∃ p : Int × Bool, ∀ k, num_Sub k a b = some (pkN p) := by
  simp only [num_Sub_eq, num_same_eq, Option.bind_some]
  generalize decide (((Go.bits .xor .i64 a b) / 9223372036854775808) = 0) = c
  cases c
  · simp only [cond_false]
    exact bindN (α := Unit) (kept_is _ _)
  · simp only [cond_true]
    exact bindN (α := Unit) (kept_is _ _)
theorem mul_is (a b : Int) : ∃ p : Int × Bool, ∀ k, num_Mul k a b = some (pkN p) := by
  simp only [num_Mul_eq]
  by_cases h : a = 0
  · exact ⟨(0, true), fun k => by rw [bt h]; rfl⟩
  by_cases h2 : b = 0
  · exact ⟨(0, true), fun k => by rw [bf h, bt h2]; rfl⟩
  by_cases h3 : a = -1
  · simp only [bf h, bf h2, bt h3]
    exact bindN (α := Unit) (neg_is 0 _)
  by_cases h4 : b = -1
  · simp only [bf h, bf h2, bf h3, bt h4]
    exact bindN (α := Unit) (neg_is 0 _)
  simp only [bf h, bf h2, bf h3, bf h4, quoK, if_neg h2, Option.bind_some]
  exact bindN (α := Unit) (kept_is _ _)
theorem div_is (a b : Int) : ∃ p : Int × Bool, ∀ k, num_Div k a b = some (pkN p) := by
  simp only [num_Div_eq]
  by_cases h2 : b = 0
  · exact ⟨(0, false), fun k => by rw [bt h2]; rfl⟩
  by_cases h4 : b = -1
  · simp only [bf h2, bt h4]
    exact bindN (α := Unit) (neg_is 0 _)
  simp only [bf h2, bf h4, quoK, if_neg h2, Option.bind_some]
  exact ⟨(_, true), fun k => rfl⟩
theorem mod_is (a b : Int) : ∃ p : Int × Bool, ∀ k, num_Mod k a b = some (pkN p) := by
  simp only [num_Mod_eq]
  by_cases h2 : b = 0
  · exact ⟨(0, false), fun k => by rw [bt h2]; rfl⟩
  by_cases h4 : b = -1
  · exact ⟨(0, true), fun k => by rw [bf h2, bt h4]; rfl⟩
  simp only [bf h2, bf h4, remK, if_neg h2, Option.bind_some]
  exact ⟨(_, true), fun k => rfl⟩
theorem reckon_ex (op a b : Int) : ∃ p : Int × Bool, ∀ k, expr_reckon k op a b = some (pkN p) := by
  simp only [expr_reckon_eq]
  by_cases c : op = 4
  · simp only [bt c]; exact bindN (α := Unit) (neg_is 0 _)
  simp only [bf c]
  by_cases c : op = 5
  · simp only [bt c]; exact bindN (α := Unit) (add_is _ _)
  simp only [bf c]
  by_cases c : op = 6
  · simp only [bt c]; exact bindN (α := Unit) (sub_is _ _)
  simp only [bf c]
  by_cases c : op = 7
  · simp only [bt c]; exact bindN (α := Unit) (mul_is _ _)
  simp only [bf c]
  by_cases c : op = 8
  · simp only [bt c]; exact bindN (α := Unit) (div_is _ _)
  simp only [bf c]
  exact bindN (α := Unit) (mod_is _ _)
noncomputable def reckM (op a b : Int) : Int × Bool := Classical.choose (reckon_ex op a b)
theorem reckon_is (k : Nat) (op a b : Int) : expr_reckon k op a b = some (pkN (reckM op a b)) := Classical.choose_spec (reckon_ex op a b) k
noncomputable def applyM (op : Int) (a b : VT) : VT × Int :=
  if op = 16 then (if a = nv then (nv, 0) else (tv (decide (a.2.1 = 0)), 0)) else
  if op = 17 ∨ op = 18 then (bothM (decide (op = 18)) a b, 0) else
  if a = nv ∨ (b = nv ∧ op ≠ 4) then (nv, 0) else
  if (reckM op a.2.1 b.2.1).2 = true then ((1, ((reckM op a.2.1 b.2.1).1, ([], ()))), 0) else if b.2.1 = 0 ∧ (op = 8 ∨ op = 9) then (nv, 11) else (nv, 10)
abbrev TV3 : Ty := .st (.pair (.int .i64) (.pair (.int .i64) (.pair .str .unit)))
theorem decEqV (a b : VT) : Ty.decEq TV3 a b = decide (a = b) := by
  obtain ⟨a1, a2, a3, ⟨⟩⟩ := a
  obtain ⟨b1, b2, b3, ⟨⟩⟩ := b
  show (beqI a1 b1 && (beqI a2 b2 && (beqL a3 b3 && true))) = _
  by_cases h : a1 = b1
  · by_cases h2 : a2 = b2
    · by_cases h3 : a3 = b3
      · subst h h2 h3; simp [beqI, beqL]
      · simp [beqI, beqL, h, h2, h3]
    · simp [beqI, beqL, h, h2]
  · simp [beqI, h]
theorem decEqN (a : VT) : Ty.decEq (.st (.pair (.int .i64) (.pair (.int .i64) (.pair .str .unit)))) (a.1, (a.2.1, (a.2.2.1, ()))) ((0 : Int), ((0 : Int), ([], ()))) = decide (a = nv) := decEqV a nv
theorem apply_j0 (k : Nat) (op : Int) (c : Bool) (a b : VT) (w1 w2 : Int) (w3 : List Int) (hc : c = true ↔ (op = 17 ∨ op = 18)) (h16 : op ≠ 16) :
    expr_apply_j0 (k + 3) op c a.1 a.2.1 a.2.2.1 b.1 b.2.1 b.2.2.1 w1 w2 w3 0 0 [] = some (pk (applyM op a b)) := by
  rw [expr_apply_j0_eq (k + 2), show ((a.1, (a.2.1, (a.2.2.1, ()))) : VT) = a from rfl, show ((b.1, (b.2.1, (b.2.2.1, ()))) : VT) = b from rfl, show (((0 : Int), ((0 : Int), ([], ()))) : VT) = nv from rfl]
  unfold applyM
  rw [if_neg h16]
  by_cases h : op = 17 ∨ op = 18
  · rw [hc.2 h, cond_true, if_pos h, both_is]; rfl
  · have : c = false := by
      cases c
      · rfl
      · exact absurd (hc.1 rfl) h
    rw [this, cond_false, if_neg h, decEqN, decEqN, reckon_is]
    by_cases ha : a = nv
    · rw [bt ha, if_pos (.inl ha)]; rfl
    rw [bf ha]
    have tl : (some (pkN (reckM op a.2.1 b.2.1))).bind (fun r253 => (bif r253.1.2.1 then some ((((1 : Int), (r253.1.1, ([], ()))), ((0 : Int), ())), (((1 : Int), (r253.1.1, ([], ()))), ())) else (bif (decide (b.2.1 = 0)) then (bif (decide (op = 8)) then some ((nv, ((11 : Int), ())), (nv, ())) else (bif (decide (op = 9)) then some ((nv, ((11 : Int), ())), (nv, ())) else some ((nv, ((10 : Int), ())), (nv, ())))) else some ((nv, ((10 : Int), ())), (nv, ()))))) =
        some (pk (if (reckM op a.2.1 b.2.1).2 = true then (((1, ((reckM op a.2.1 b.2.1).1, ([], ()))) : VT), (0 : Int)) else if b.2.1 = 0 ∧ (op = 8 ∨ op = 9) then (nv, 11) else (nv, 10))) := by
      generalize reckM op a.2.1 b.2.1 = p
      obtain ⟨n, ok⟩ := p
      rw [Option.bind_some]
      cases ok
      · show (bif false then _ else _) = _
        rw [cond_false, if_neg (by simp)]
        by_cases hb : b.2.1 = 0
        · rw [bt hb]
          by_cases h8 : op = 8
          · rw [bt h8, if_pos ⟨hb, .inl h8⟩]; rfl
          rw [bf h8]
          by_cases h9 : op = 9
          · rw [bt h9, if_pos ⟨hb, .inr h9⟩]; rfl
          rw [bf h9, if_neg (by omega)]; rfl
        · rw [bf hb, if_neg (by omega)]; rfl
      · rfl
    by_cases hb : b = nv
    · rw [bt hb]
      by_cases h4 : op = 4
      · rw [dT h4, Bool.not_true, cond_false, if_neg (show ¬ (a = nv ∨ b = nv ∧ op ≠ 4) from fun q => q.elim ha (fun q => q.2 h4))]
        exact tl
      · rw [dF h4, Bool.not_false, cond_true, if_pos (.inr ⟨hb, h4⟩)]; rfl
    · rw [bf hb, if_neg (show ¬ (a = nv ∨ b = nv ∧ op ≠ 4) from fun q => q.elim ha (fun q => hb q.1))]
      exact tl
theorem apply_is (k : Nat) (op : Int) (a b : VT) : expr_apply (k + 3) op a b = some (pk (applyM op a b)) := by
  rw [expr_apply_eq, decEqN]
  by_cases h : op = 16
  · rw [bt h]
    unfold applyM
    rw [if_pos h]
    by_cases ha : a = nv
    · rw [bt ha, if_pos ha]; rfl
    · rw [bf ha, if_neg ha, truth_is (k + 2)]; rfl
  · rw [bf h]
    by_cases h17 : op = 17
    · rw [bt h17]
      exact apply_j0 k op _ a b 0 0 [] ⟨fun _ => .inl h17, fun _ => dT h17⟩ h
    · rw [bf h17]
      refine apply_j0 k op _ a b 0 0 [] ⟨fun q => .inr (of_decide_eq_true q), fun q => dT (by omega)⟩ h
/-- What is done with the parts. -/
noncomputable def finM (op : Int) (a b : VT) : VT × Int :=
  if op = 19 then (tv (decide (a.1 = 0)), 0) else if 10 ≤ op ∧ op ≤ 15 then (cmpM op a b, 0) else applyM op (wholeM a) (wholeM b)
abbrev FT := (Int × ((List Int) × ((List Int) × (Int × ((Int × (Int × ((List Int) × Unit))) × ((List Ex) × Unit)))))) → (List (Int × (Int × ((List Int) × Unit)))) → Option (((Int × (Int × ((List Int) × Unit))) × (Int × Unit)) × ((Int × (Int × ((List Int) × Unit))) × Unit))
noncomputable abbrev lp (F : FT) (k n : Nat) (r : List VT) (es : List Ex) (i : Int) (x : ExD) (w : VT) (a b : VT) : Option OutT :=
  expr_Eval_l0 F k n r es (es.length : Int) i x.1 x.2.1 x.2.2.1 x.2.2.2.1 x.2.2.2.2.1.1 x.2.2.2.2.1.2.1 x.2.2.2.2.1.2.2.1 x.2.2.2.2.2.1 w.1 w.2.1 w.2.2.1 a.1 a.2.1 a.2.2.1 b.1 b.2.1 b.2.2.1
theorem lp_end (F : FT) (k n : Nat) (r : List VT) (es : List Ex) (i : Int) (x : ExD) (w a b : VT) (h : ¬ i < es.length) : lp F (k + 3) (n + 1) r es i x w a b = some (pk (finM x.1 a b)) := by
  unfold lp
  rw [expr_Eval_l0_eq, bf h, show ((a.1, (a.2.1, (a.2.2.1, ()))) : VT) = a from rfl, show ((b.1, (b.2.1, (b.2.2.1, ()))) : VT) = b from rfl, truth_is, compares_is, compare_is, whole_is, whole_is]
  unfold finM
  by_cases c : x.1 = 19
  · rw [bt c, if_pos c]; rfl
  · rw [bf c, if_neg c, Option.bind_some]
    by_cases c2 : 10 ≤ x.1 ∧ x.1 ≤ 15
    · rw [bt c2, if_pos c2]; rfl
    · rw [bf c2, if_neg c2, Option.bind_some, Option.bind_some, apply_is]; rfl
theorem lp_bad (F : FT) (k n : Nat) (r : List VT) (es : List Ex) (i : Nat) (e : Ex) (x : ExD) (w a b v : VT) (c : Int) (he : es[i]? = some e) (h : F e.un r = some (pk (v, c))) (hc : c ≠ 0) :
    lp F k (n + 1) r es i x w a b = some (pk (nv, c)) := by
  have hl : (i : Int) < es.length := by have := (List.getElem?_eq_some_iff.1 he).1; omega
  unfold lp
  rw [expr_Eval_l0_eq, bt hl, nth_get he, Option.bind_some]
  refine (congrArg (fun o => Option.bind o _) h).trans ?_
  rw [Option.bind_some]
  show (bif (!decide (c = 0)) then _ else _) = _
  rw [dF hc]; rfl
theorem lp_0 (F : FT) (k n : Nat) (r : List VT) (es : List Ex) (e : Ex) (x : ExD) (w a b v : VT) (he : es[0]? = some e) (h : F e.un r = some (pk (v, 0))) :
    lp F k (n + 1) r es 0 x w a b = lp F k n r es 1 x w v b := by
  have hl : (0 : Int) < es.length := by have := (List.getElem?_eq_some_iff.1 he).1; omega
  unfold lp
  rw [expr_Eval_l0_eq, bt hl, show nth es 0 = some e from nth_get (j := 0) he, Option.bind_some]
  refine (congrArg (fun o => Option.bind o _) h).trans ?_
  rw [Option.bind_some]
  rfl
theorem lp_1 (F : FT) (k n : Nat) (r : List VT) (es : List Ex) (e : Ex) (x : ExD) (w a b v : VT) (he : es[1]? = some e) (h : F e.un r = some (pk (v, 0))) :
    lp F k (n + 1) r es 1 x w a b = lp F k n r es 2 x w a v := by
  have hl : (1 : Int) < es.length := by have := (List.getElem?_eq_some_iff.1 he).1; omega
  unfold lp
  rw [expr_Eval_l0_eq, bt hl, show nth es 1 = some e from nth_get (j := 1) he, Option.bind_some]
  refine (congrArg (fun o => Option.bind o _) h).trans ?_
  rw [Option.bind_some]
  rfl
def EV (x : ExD) (r : List VT) (p : VT × Int) : Prop := Ev (fun k => expr_Eval k x r) (pk p)
theorem partsM_cases (op : Int) : (op = 1 ∨ op = 2 ∨ op = 3 ∨ op = 20) ∧ partsM op = 0 ∨ (op = 4 ∨ op = 16 ∨ op = 19 ∨ (21 ≤ op ∧ op ≤ 23)) ∧ partsM op = 1 ∨ (5 ≤ op ∧ op ≤ 18 ∧ op ≠ 16) ∧ partsM op = 2 ∨ partsM op = -1 := by
  unfold partsM
  by_cases h : op = 1 ∨ op = 2 ∨ op = 3 ∨ op = 20
  · exact .inl ⟨h, if_pos h⟩
  rw [if_neg h]
  by_cases h2 : op = 4 ∨ op = 16 ∨ op = 19 ∨ (21 ≤ op ∧ op ≤ 23)
  · exact .inr (.inl ⟨h2, if_pos h2⟩)
  rw [if_neg h2]
  by_cases h3 : 5 ≤ op ∧ op ≤ 18
  · exact .inr (.inr (.inl ⟨by omega, if_pos h3⟩))
  · exact .inr (.inr (.inr (if_neg h3)))
def evBad (x : ExD) : Prop := partsM x.1 ≠ x.2.2.2.2.2.1.length ∨ x.1 = 2 ∨ (20 ≤ x.1 ∧ x.1 ≤ 23)
theorem eval_bad (x : ExD) (r : List VT) (h : evBad x) : EV x r (nv, 220) := by
  refine .from 2 fun k => ?_
  rw [expr_Eval_succ, expr_Eval_b_eq, parts_is, Option.bind_some, sum_is]
  by_cases c : partsM x.1 = x.2.2.2.2.2.1.length
  · rw [dT c, Bool.not_true, cond_false]
    by_cases c2 : x.1 = 2
    · rw [bt c2]; rfl
    · rw [bf c2, Option.bind_some, bt (h.elim (absurd c) fun q => q.elim (absurd · c2) id)]; rfl
  · rw [dF c]; rfl
theorem eval_go (k : Nat) (x : ExD) (r : List VT) (h : ¬ evBad x) (h1 : x.1 ≠ 1) (h3 : x.1 ≠ 3) : expr_Eval (k + 1) x r = lp (expr_Eval k) (k + 1) (k + 1) r x.2.2.2.2.2.1 0 x nv nv nv := by
  unfold evBad at h
  rw [expr_Eval_succ, expr_Eval_b_eq, parts_is, Option.bind_some, sum_is, dT (by omega), Bool.not_true, cond_false, bf (by omega), Option.bind_some, bf (by omega), bf h1, bf h3]
  rfl
theorem eval_lit (x : ExD) (r : List VT) (h : ¬ evBad x) (h1 : x.1 = 1) : EV x r (x.2.2.2.2.1, 0) := by
  refine .from 2 fun k => ?_
  unfold evBad at h
  rw [expr_Eval_succ, expr_Eval_b_eq, parts_is, Option.bind_some, sum_is, dT (by omega), Bool.not_true, cond_false, bf (by omega), Option.bind_some, bf (by omega), bt h1]
  rfl
theorem eval_pos (x : ExD) (r : List VT) (h : ¬ evBad x) (h3 : x.1 = 3) : EV x r ((if 0 ≤ x.2.2.2.1 then r[x.2.2.2.1.toNat]?.getD nv else nv), 0) := by
  refine .from 2 fun k => ?_
  unfold evBad at h
  rw [expr_Eval_succ, expr_Eval_b_eq, parts_is, Option.bind_some, sum_is, dT (by omega), Bool.not_true, cond_false, bf (by omega), Option.bind_some, bf (by omega), bf (by omega), bt h3]
  generalize x.2.2.2.1 = n
  by_cases c : n < 0
  · rw [bt c, if_neg (by omega)]; rfl
  · rw [bf c, if_pos (by omega)]
    by_cases c2 : (r.length : Int) ≤ n
    · rw [bt c2, List.getElem?_eq_none (by omega)]; rfl
    · rw [bf c2]
      have hl : n.toNat < r.length := by omega
      unfold nth
      rw [if_pos (by omega), List.getElem?_eq_getElem hl]; rfl
theorem eval_one (x : ExD) (r : List VT) (h : ¬ evBad x) (a : Ex) (ha : x.2.2.2.2.2.1 = [a]) {p : VT × Int} (h1 : EV a.un r p) : EV x r (if p.2 = 0 then finM x.1 p.1 nv else (nv, p.2)) := by
  have hp : partsM x.1 = 1 := by unfold evBad at h; rw [ha] at h; simp at h; exact h.1
  have := partsM_cases x.1
  obtain ⟨v, c⟩ := p
  obtain ⟨K, hK⟩ := h1
  refine ⟨K + 5, fun k hk => ?_⟩
  obtain ⟨j, rfl⟩ : ∃ j, k = j + 1 := ⟨k - 1, by omega⟩
  obtain ⟨i, rfl⟩ : ∃ i, j = i + 3 := ⟨j - 3, by omega⟩
  show expr_Eval (i + 3 + 1) x r = _
  rw [eval_go _ x r h (by omega) (by omega), ha]
  have hF : expr_Eval (i + 3) a.un r = some (pk (v, c)) := hK (i + 3) (by omega)
  by_cases hc : c = 0
  · subst hc
    rw [if_pos rfl, show lp (expr_Eval (i + 3)) (i + 3 + 1) (i + 3 + 1) r [a] 0 x nv nv nv = _ from lp_0 _ (i + 3 + 1) (i + 3) r [a] a x nv nv nv v rfl hF]
    exact lp_end _ (i + 1) (i + 2) r [a] 1 x nv v nv (by simp)
  · rw [if_neg hc]
    exact lp_bad _ (i + 3 + 1) (i + 3) r [a] 0 a x nv nv nv v c rfl hF hc
theorem eval_two1 (x : ExD) (r : List VT) (h : ¬ evBad x) (a b : Ex) (ha : x.2.2.2.2.2.1 = [a, b]) {p : VT × Int} (h1 : EV a.un r p) (hc : p.2 ≠ 0) : EV x r (nv, p.2) := by
  have hp : partsM x.1 = 2 := by unfold evBad at h; rw [ha] at h; simp at h; exact h.1
  have := partsM_cases x.1
  obtain ⟨v, c⟩ := p
  obtain ⟨K, hK⟩ := h1
  refine ⟨K + 5, fun k hk => ?_⟩
  obtain ⟨j, rfl⟩ : ∃ j, k = j + 1 := ⟨k - 1, by omega⟩
  show expr_Eval (j + 1) x r = _
  rw [eval_go _ x r h (by omega) (by omega), ha]
  exact lp_bad _ (j + 1) j r [a, b] 0 a x nv nv nv v c rfl (hK j (by omega)) hc
theorem eval_two (x : ExD) (r : List VT) (h : ¬ evBad x) (a b : Ex) (ha : x.2.2.2.2.2.1 = [a, b]) {v : VT} {p : VT × Int} (h1 : EV a.un r (v, 0)) (h2 : EV b.un r p) : EV x r (if p.2 = 0 then finM x.1 v p.1 else (nv, p.2)) := by
  have hp : partsM x.1 = 2 := by unfold evBad at h; rw [ha] at h; simp at h; exact h.1
  have := partsM_cases x.1
  obtain ⟨w, c⟩ := p
  obtain ⟨K, hK⟩ := h1
  obtain ⟨L, hL⟩ := h2
  refine ⟨K + L + 5, fun k hk => ?_⟩
  obtain ⟨j, rfl⟩ : ∃ j, k = j + 1 := ⟨k - 1, by omega⟩
  obtain ⟨i, rfl⟩ : ∃ i, j = i + 3 := ⟨j - 3, by omega⟩
  show expr_Eval (i + 3 + 1) x r = _
  rw [eval_go _ x r h (by omega) (by omega), ha]
  rw [show lp (expr_Eval (i + 3)) (i + 3 + 1) (i + 3 + 1) r [a, b] 0 x nv nv nv = _ from lp_0 _ (i + 3 + 1) (i + 3) r [a, b] a x nv nv nv v rfl (hK (i + 3) (by omega))]
  have hF : expr_Eval (i + 3) b.un r = some (pk (w, c)) := hL (i + 3) (by omega)
  by_cases hc : c = 0
  · subst hc
    rw [if_pos rfl, show lp (expr_Eval (i + 3)) (i + 3 + 1) (i + 3) r [a, b] 1 x nv v nv = _ from lp_1 _ (i + 3 + 1) (i + 2) r [a, b] b x nv v nv w rfl hF]
    exact lp_end _ (i + 1) (i + 1) r [a, b] 2 x nv v w (by simp)
  · rw [if_neg hc]
    exact lp_bad _ (i + 3 + 1) (i + 2) r [a, b] 1 b x nv v nv w c rfl hF hc
theorem eval_ex : (e : Ex) → (r : List VT) → ∃ p, EV e.un r p
  | .mk op t n m v es, r => by
    by_cases h : evBad (Ex.mk op t n m v es).un
    · exact ⟨_, eval_bad _ r h⟩
    have hp : partsM op = es.length := Classical.byContradiction fun q => h (.inl q)
    have := partsM_cases op
    match es, h, hp with
    | [], h, hp =>
      simp at hp
      by_cases h1 : op = 1
      · exact ⟨_, eval_lit _ r h h1⟩
      · have h3 : op = 3 := Classical.byContradiction fun q => h (.inr (by show op = 2 ∨ (20 ≤ op ∧ op ≤ 23); omega))
        exact ⟨_, eval_pos _ r h h3⟩
    | [a], h, hp =>
      obtain ⟨p, hp⟩ := eval_ex a r
      exact ⟨_, eval_one _ r h a rfl hp⟩
    | [a, b], h, hp =>
      obtain ⟨p, hp⟩ := eval_ex a r
      by_cases hc : p.2 = 0
      · obtain ⟨v, c⟩ := p
        cases hc
        obtain ⟨q, hq⟩ := eval_ex b r
        exact ⟨_, eval_two _ r h a b rfl hp hq⟩
      · exact ⟨_, eval_two1 _ r h a b rfl hp hc⟩
    | a :: b :: c :: es, h, hp => simp at hp; omega
/-- Few parts everywhere. -/
inductive Small : Ex → Prop
  | mk (op : Int) (t n : List Int) (m : Int) (v : Int × (Int × (List Int × Unit))) (es : List Ex) : es.length ≤ 3 → (∀ x ∈ es, Small x) → Small (.mk op t n m v es)
theorem light_loop (es : List Ex) (d : Int) (hl : es.length ≤ 3) (ih : ∀ x ∈ es, ∃ b, (b = true → Small x) ∧ Ev (fun k => law20_Light k x.un (wr .i64 (d - 1))) (b, ())) :
    ∀ m j, j + m = es.length → ∃ b, (b = true → ∀ x ∈ es.drop j, Small x) ∧ ∃ K, ∀ k n, K ≤ k → m < n → law20_Light_l0 (law20_Light k) (k + 1) n d es (es.length : Int) (j : Int) = some (b, ())
  | 0, j, hj => ⟨true, fun _ => by rw [List.drop_eq_nil_of_le (by omega)]; simp, 0, fun k n _ hn => by
      obtain ⟨i, rfl⟩ : ∃ i, n = i + 1 := ⟨n - 1, by omega⟩
      rw [law20_Light_l0_eq, bf (by omega)]⟩
  | m + 1, j, hj => by
    have hx : es[j]? = some es[j] := List.getElem?_eq_getElem (by omega)
    obtain ⟨b, sb, K, hK⟩ := ih es[j] (List.getElem_mem _)
    obtain ⟨c, sc, L, hL⟩ := light_loop es d hl ih m (j + 1) (by omega)
    refine ⟨b && c, fun h => ?_, K + L, fun k n hk hn => ?_⟩
    · rw [Bool.and_eq_true] at h
      rw [List.drop_eq_getElem_cons (by omega)]
      intro x hx
      rcases List.mem_cons.1 hx with rfl | hx
      · exact sb h.1
      · exact sc h.2 x hx
    obtain ⟨i, rfl⟩ : ∃ i, n = i + 1 := ⟨n - 1, by omega⟩
    rw [law20_Light_l0_eq, bt (by omega), nth_get hx, Option.bind_some]
    refine (congrArg (fun o => Option.bind o _) (hK k (by omega))).trans ?_
    rw [Option.bind_some]
    show (bif (!b) then _ else _) = _
    cases b
    · rfl
    · rw [Bool.not_true, cond_false, wr_i64 (by omega)]
      exact hL k i (by omega) (by omega)
theorem light_ex : (e : Ex) → (d : Int) → ∃ b, (b = true → Small e) ∧ Ev (fun k => law20_Light k e.un d) (b, ())
  | .mk op t n m v es, d => by
    by_cases h0 : d = 0
    · exact ⟨false, nofun, .from 1 fun k => by rw [law20_Light_succ, law20_Light_b_eq, bt h0]⟩
    by_cases h1 : 3 < (es.length : Int)
    · refine ⟨false, nofun, .from 1 fun k => ?_⟩
      rw [law20_Light_succ, law20_Light_b_eq, bf h0]
      show (bif (decide (3 < (es.length : Int))) then _ else _) = _
      rw [bt h1]
    by_cases h2 : 200 < (wr .i64 ((wr .i64 ((n.length : Int) + (t.length : Int))) + (v.2.2.1.length : Int)))
    · refine ⟨false, nofun, .from 1 fun k => ?_⟩
      rw [law20_Light_succ, law20_Light_b_eq, bf h0]
      show (bif (decide (3 < (es.length : Int))) then _ else (bif (decide (200 < (wr .i64 ((wr .i64 ((n.length : Int) + (t.length : Int))) + (v.2.2.1.length : Int))))) then _ else _)) = _
      rw [bf h1, bt h2]
    have ih : ∀ x ∈ es, ∃ b, (b = true → Small x) ∧ Ev (fun k => law20_Light k x.un (wr .i64 (d - 1))) (b, ()) := fun x hx => light_ex x _
    obtain ⟨b, sb, K, hK⟩ := light_loop es d (by omega) ih es.length 0 (by omega)
    refine ⟨b, fun h => .mk _ _ _ _ _ _ (by omega) (sb h), K + es.length + 1, fun k hk => ?_⟩
    obtain ⟨i, rfl⟩ : ∃ i, k = i + 1 := ⟨k - 1, by omega⟩
    show law20_Light (i + 1) _ d = _
    rw [law20_Light_succ, law20_Light_b_eq, bf h0]
    show (bif (decide (3 < (es.length : Int))) then _ else (bif (decide (200 < (wr .i64 ((wr .i64 ((n.length : Int) + (t.length : Int))) + (v.2.2.1.length : Int))))) then _ else _)) = _
    rw [bf h1, bf h2]
    exact hK i (i + 1) (by omega) (by omega)
termination_by e d => SizeOf.sizeOf e
decreasing_by
  have := List.sizeOf_lt_of_mem hx
  simp; omega
def litD (v : VT) : ExD := (1, ([], ([], (0, (v, ([], ()))))))
def opD (op : Int) (es : List Ex) : ExD := (op, ([], ([], (0, (nv, (es, ()))))))
theorem lit_ev (v : VT) (r : List VT) : EV (litD v) r (v, 0) := eval_lit (litD v) r (by unfold evBad; simp [litD, partsM]) rfl
theorem fin_and (o : Bool) (a b : VT) : finM (if o then 18 else 17) a b = (bothM o (wholeM a) (wholeM b), 0) := by
  cases o <;> simp [finM, applyM]
theorem awake22 : Ev (fun k => law22_awake k) (true, ()) := by
  have h1 : EV (opD 17 [Ex.re (litD nv), Ex.re (litD (1, (0, ([], ()))))]) [] ((1, (0, ([], ()))), 0) := by
    have := eval_two (opD 17 [Ex.re (litD nv), Ex.re (litD (1, (0, ([], ()))))]) [] (by unfold evBad; simp [opD, partsM]) _ _ rfl (lit_ev nv []) (lit_ev (1, (0, ([], ()))) [])
    exact this
  have hr : reckM 8 0 0 = (0, false) := by
    have h := reckon_is 0 8 0 0
    have h2 : expr_reckon 0 8 0 0 = some (((0 : Int), (false, ())), ()) := by
      rw [expr_reckon_eq, bf (by omega), bf (by omega), bf (by omega), bf (by omega), bt rfl, num_Div_eq, bt rfl]; rfl
    rw [h2] at h
    have h := Option.some.inj h
    unfold pkN at h
    simp only [Prod.mk.injEq, and_true] at h
    exact Prod.ext h.1.symm h.2.symm
  have h2 : EV (opD 8 [Ex.re (litD (1, (0, ([], ())))), Ex.re (litD (1, (0, ([], ()))))]) [] (nv, 11) := by
    have := eval_two (opD 8 [Ex.re (litD (1, (0, ([], ())))), Ex.re (litD (1, (0, ([], ()))))]) [] (by unfold evBad; simp [opD, partsM]) _ _ rfl (lit_ev (1, (0, ([], ()))) []) (lit_ev (1, (0, ([], ()))) [])
    rw [if_pos rfl] at this
    have e : finM 8 (1, (0, ([], ()))) (1, (0, ([], ()))) = (nv, 11) := by simp [finM, applyM, wholeM, hr, nv]
    rw [show (opD 8 [Ex.re (litD (1, (0, ([], ())))), Ex.re (litD (1, (0, ([], ()))))]).1 = 8 from rfl, e] at this
    exact this
  simp only [law22_awake_eq]
  refine Ev.bind h1 (Ev.bind h2 ?_)
  exact .from 0 fun k => rfl
abbrev ColT := (List Int) × (Int × (Bool × Unit))
abbrev TabT := Int × ((List Int) × ((List ColT) × (Int × ((List Int) × Unit))))
abbrev ScT := (List Int) × (TabT × (Int × Unit))
def smallB (t : TabT) (r : List ((List Int) × (Int × (Bool × Unit)))) : Bool := r.all (fun c => decide (c.1.length ≤ 100)) && (decide (t.2.2.1.length ≤ 14) && (decide (t.2.2.2.2.1.length ≤ 6) && decide (t.2.1.length ≤ 100)))
theorem small_l0 (k : Nat) {t : TabT} (hm : t.2.2.1.length ≤ 9223372036854775807) : ∀ n j, j ≤ t.2.2.1.length → t.2.2.1.length - j < n → law21_Small_l0 k n t.2.2.1 (t.2.2.1.length : Int) (j : Int) t.1 t.2.1 t.2.2.1 t.2.2.2.1 t.2.2.2.2.1 = some (smallB t (t.2.2.1.drop j), ())
  | 0, _, _, h => absurd h (Nat.not_lt_zero _)
  | n + 1, j, hj, hn => by
    rw [law21_Small_l0_eq]
    by_cases c : j < t.2.2.1.length
    · have hx := List.getElem?_eq_getElem c
      rw [bt (by omega), nth_get hx, Option.bind_some, List.drop_eq_getElem_cons c]
      by_cases c1 : 100 < (t.2.2.1[j].1.length : Int)
      · rw [bt c1, show smallB t (t.2.2.1[j] :: t.2.2.1.drop (j + 1)) = false from by unfold smallB; rw [List.all_cons, dF (by omega)]; rfl]
      rw [bf c1, wr_i64 (by omega)]
      refine (small_l0 k hm n (j + 1) c (by omega)).trans ?_
      rw [show smallB t (t.2.2.1[j] :: t.2.2.1.drop (j + 1)) = smallB t (t.2.2.1.drop (j + 1)) from by unfold smallB; rw [List.all_cons, dT (p := t.2.2.1[j].1.length ≤ 100) (by omega)]; rfl]
    · have : j = t.2.2.1.length := by omega
      subst this
      rw [bf (by omega), List.drop_length]
      unfold smallB
      by_cases h1 : t.2.2.1.length ≤ 14
      · rw [bt (by omega), dT h1]
        by_cases h2 : t.2.2.2.2.1.length ≤ 6
        · rw [bt (by omega), dT h2]
          by_cases h3 : t.2.1.length ≤ 100
          · rw [dT (p := ((t.2.1.length : Int) ≤ 100)) (by omega), dT h3]; rfl
          · rw [dF (p := ((t.2.1.length : Int) ≤ 100)) (by omega), dF h3]; rfl
        · rw [bf (by omega), dF h2]; rfl
      · rw [bf (by omega), dF h1]; rfl
theorem small_ev {t : TabT} (hm : t.2.2.1.length ≤ 9223372036854775807) : Ev (fun k => law21_Small k t) (smallB t t.2.2.1, ()) := by
  refine ⟨t.2.2.1.length + 1, fun k hk => ?_⟩
  show law21_Small k t = _
  rw [law21_Small_eq]
  exact small_l0 k hm k 0 (by omega) (by omega)
theorem small_of {t : TabT} (h : smallB t t.2.2.1 = true) : t.2.2.1.length ≤ 14 ∧ t.2.2.2.2.1.length ≤ 6 ∧ t.2.1.length ≤ 100 ∧ ∀ c ∈ t.2.2.1, c.1.length ≤ 100 := by
  unfold smallB at h
  simp only [Bool.and_eq_true, List.all_eq_true, decide_eq_true_eq] at h
  exact ⟨h.2.1, h.2.2.1, h.2.2.2, h.1⟩
theorem wr_nx {j n : Nat} (h : j < n) (hn : n ≤ 9223372036854775807) : wr .i64 ((j : Int) + 1) = ((j + 1 : Nat) : Int) := by rw [wr_i64 (by omega)]; omega
def kindM : List ScT → Int → Int
  | [], _ => 0
  | s :: r, a => if 0 ≤ wr .i64 (a - s.2.2.1) ∧ wr .i64 (a - s.2.2.1) < s.2.1.2.2.1.length then ((s.2.1.2.2.1[(wr .i64 (a - s.2.2.1)).toNat]?).map (·.2.1)).getD 0 else kindM r a
theorem kind_loop (l : List ScT) (a : Int) (hl : l.length ≤ 9223372036854775807) : ∀ m j, j + m = l.length → Ev2 (fun k n => expr_kind_l0 k n a l (l.length : Int) (j : Int)) (kindM (l.drop j) a, ())
  | 0, j, hj => by
    refine .up ?_
    simp only [expr_kind_l0_eq, bf (show ¬ (j : Int) < l.length by omega)]
    rw [List.drop_eq_nil_of_le (by omega)]
    exact .ret
  | m + 1, j, hj => by
    have hx : l[j]? = some l[j] := List.getElem?_eq_getElem (by omega)
    refine .up ?_
    simp only [expr_kind_l0_eq, bt (show (j : Int) < l.length by omega), nth_get hx, Option.bind_some, wr_nx (show j < l.length by omega) hl]
    have ih := kind_loop l a hl m (j + 1) (by omega)
    rw [List.drop_eq_getElem_cons (show j < l.length by omega)]
    unfold kindM
    by_cases h1 : 0 ≤ wr .i64 (a - l[j].2.2.1)
    · by_cases h2 : wr .i64 (a - l[j].2.2.1) < l[j].2.1.2.2.1.length
      · have hlt : (wr .i64 (a - l[j].2.2.1)).toNat < l[j].2.1.2.2.1.length := by omega
        have hn : nth l[j].2.1.2.2.1 (wr .i64 (a - l[j].2.2.1)) = some (l[j].2.1.2.2.1[(wr .i64 (a - l[j].2.2.1)).toNat]) := by
          unfold nth; rw [if_pos h1, List.getElem?_eq_getElem hlt]
        simp only [bt h1, bt h2, hn, Option.bind_some, if_pos (And.intro h1 h2), List.getElem?_eq_getElem hlt]
        exact .ret
      · simp only [bt h1, bf h2, if_neg (show ¬ (0 ≤ wr .i64 (a - l[j].2.2.1) ∧ wr .i64 (a - l[j].2.2.1) < l[j].2.1.2.2.1.length) from fun q => h2 q.2)]
        exact ih
    · simp only [bf h1, if_neg (show ¬ (0 ≤ wr .i64 (a - l[j].2.2.1) ∧ wr .i64 (a - l[j].2.2.1) < l[j].2.1.2.2.1.length) from fun q => h1 q.1)]
      exact ih
theorem kind_ev (l : List ScT) (a : Int) (hl : l.length ≤ 9223372036854775807) : Ev (fun k => expr_kind k l a) (kindM l a, ()) := by
  simp only [expr_kind_eq]
  have := kind_loop l a hl l.length 0 (by omega)
  exact this.dg
def placeM (l : List ScT) (n : Int) : Int := if n < 0 ∨ 1048576 < n then 0 else kindM l n
theorem place_ev (l : List ScT) (a : Int) (hl : l.length ≤ 9223372036854775807) : Ev (fun k => expr_place k l a) (placeM l a, ()) := by
  simp only [expr_place_eq]
  unfold placeM
  by_cases h : a < 0
  · simp only [bt h, if_pos (Or.inl h : a < 0 ∨ 1048576 < a)]; exact .ret
  by_cases h2 : 1048576 < a
  · simp only [bf h, bt h2, if_pos (Or.inr h2 : a < 0 ∨ 1048576 < a)]; exact .ret
  simp only [bf h, bf h2, if_neg (show ¬ (a < 0 ∨ 1048576 < a) by omega)]
  exact (kind_ev l a hl).bind .ret
theorem col_l1 (t n : List Int) (l : List ScT) (s : ScT) (i : Int) (hl : s.2.1.2.2.1.length ≤ 9223372036854775807)
    (next : ∀ a c, ∃ r : Int × Int, Ev2 (fun k m => cat_Column_l0 k m t n a c l (l.length : Int) (wr .i64 (i + 1))) ((r.1, (r.2, ())), ())) :
    ∀ m j a c, j + m = s.2.1.2.2.1.length → ∃ r : Int × Int, Ev3 (fun k m n1 => cat_Column_l1 k m n1 t n a c l (l.length : Int) i s.2.1.2.2.1 (s.2.1.2.2.1.length : Int) (j : Int) s.1 s.2.1.1 s.2.1.2.1 s.2.1.2.2.1 s.2.1.2.2.2.1 s.2.1.2.2.2.2.1 s.2.2.1) ((r.1, (r.2, ())), ())
  | 0, j, a, c, hj => by
    obtain ⟨r, hr⟩ := next a c
    refine ⟨r, .up ?_⟩
    simp only [cat_Column_l1_eq, bf (show ¬ (j : Int) < s.2.1.2.2.1.length by omega)]
    exact hr.e3
  | m + 1, j, a, c, hj => by
    have hx : s.2.1.2.2.1[j]? = some s.2.1.2.2.1[j] := List.getElem?_eq_getElem (by omega)
    by_cases h : s.2.1.2.2.1[j].1 = n
    · obtain ⟨r, hr⟩ := col_l1 t n l s i hl next m (j + 1) (wr .i64 (s.2.2.1 + j)) (wr .i64 (c + 1)) (by omega)
      refine ⟨r, .up (.upk ?_)⟩
      simp only [cat_Column_l1_eq, bt (show (j : Int) < s.2.1.2.2.1.length by omega), nth_get hx, Option.bind_some, beqL, bt h, cat_Column_j0_eq, wr_nx (show j < s.2.1.2.2.1.length by omega) hl]
      obtain ⟨K, hK⟩ := hr
      exact ⟨K, fun k n m hk hn hm => hK (k + 1) n m (by omega) hn hm⟩
    · obtain ⟨r, hr⟩ := col_l1 t n l s i hl next m (j + 1) a c (by omega)
      refine ⟨r, .up (.upk ?_)⟩
      simp only [cat_Column_l1_eq, bt (show (j : Int) < s.2.1.2.2.1.length by omega), nth_get hx, Option.bind_some, beqL, bf h, cat_Column_j0_eq, wr_nx (show j < s.2.1.2.2.1.length by omega) hl]
      obtain ⟨K, hK⟩ := hr
      exact ⟨K, fun k n m hk hn hm => hK (k + 1) n m (by omega) hn hm⟩
theorem col_l0 (t n : List Int) (l : List ScT) (hl : l.length ≤ 9223372036854775807) (hc : ∀ s ∈ l, s.2.1.2.2.1.length ≤ 9223372036854775807) :
    ∀ m j a c, j + m = l.length → ∃ r : Int × Int, Ev2 (fun k m => cat_Column_l0 k m t n a c l (l.length : Int) (j : Int)) ((r.1, (r.2, ())), ())
  | 0, j, a, c, hj => by
    by_cases h : c = 1
    · refine ⟨(a, 0), .up ?_⟩
      simp only [cat_Column_l0_eq, bf (show ¬ (j : Int) < l.length by omega), dT h, Bool.not_true, cond_false]
      exact .ret
    · refine ⟨(0, 221), .up ?_⟩
      simp only [cat_Column_l0_eq, bf (show ¬ (j : Int) < l.length by omega), dF h, Bool.not_false, cond_true]
      exact .ret
  | m + 1, j, a, c, hj => by
    have hx : l[j]? = some l[j] := List.getElem?_eq_getElem (by omega)
    have e : wr .i64 ((j : Int) + 1) = ((j + 1 : Nat) : Int) := wr_nx (show j < l.length by omega) hl
    have ih := fun a c => col_l0 t n l hl hc m (j + 1) a c (by omega)
    have l1 := col_l1 t n l l[j] j (hc _ (List.getElem_mem _)) (by rw [e]; exact ih) l[j].2.1.2.2.1.length 0 a c (by omega)
    by_cases h1 : t = []
    · obtain ⟨r, hr⟩ := l1
      refine ⟨r, .up ?_⟩
      simp only [cat_Column_l0_eq, bt (show (j : Int) < l.length by omega), nth_get hx, Option.bind_some, beqL, dT h1, Bool.not_true, cond_false]
      exact hr.dg
    · by_cases h2 : l[j].1 = t
      · obtain ⟨r, hr⟩ := l1
        refine ⟨r, .up ?_⟩
        simp only [cat_Column_l0_eq, bt (show (j : Int) < l.length by omega), nth_get hx, Option.bind_some, beqL, dF h1, Bool.not_false, cond_true, dT h2, Bool.not_true, cond_false]
        exact hr.dg
      · obtain ⟨r, hr⟩ := ih a c
        refine ⟨r, .up ?_⟩
        simp only [cat_Column_l0_eq, bt (show (j : Int) < l.length by omega), nth_get hx, Option.bind_some, beqL, dF h1, Bool.not_false, cond_true, dF h2, e]
        exact hr
theorem col_ex (l : List ScT) (t n : List Int) (hl : l.length ≤ 9223372036854775807) (hc : ∀ s ∈ l, s.2.1.2.2.1.length ≤ 9223372036854775807) : ∃ r : Int × Int, Ev (fun k => cat_Column k l t n) ((r.1, (r.2, ())), ()) := by
  obtain ⟨r, hr⟩ := col_l0 t n l hl hc l.length 0 0 0 (by omega)
  refine ⟨r, ?_⟩
  simp only [cat_Column_eq]
  exact hr.dg
theorem scoped_l0 (l : List ScT) (hl : l.length ≤ 9223372036854775807) (hc : ∀ s ∈ l, s.2.1.2.2.1.length ≤ 9223372036854775807) :
    ∀ m j, j + m = l.length → ∃ b, (b = true → l.length ≤ 4 ∧ ∀ s ∈ l.drop j, 0 ≤ s.2.2.1 ∧ s.2.2.1 ≤ 1000 ∧ s.2.1.2.2.1.length ≤ 14) ∧ Ev2 (fun k n => law22_Scoped_l0 k n l l (l.length : Int) (j : Int)) (b, ())
  | 0, j, hj => by
    refine ⟨decide ((l.length : Int) ≤ 4), fun h => ⟨by have := of_decide_eq_true h; omega, by rw [List.drop_eq_nil_of_le (by omega)]; simp⟩, .up ?_⟩
    simp only [law22_Scoped_l0_eq, bf (show ¬ (j : Int) < l.length by omega)]
    exact .ret
  | m + 1, j, hj => by
    have hx : l[j]? = some l[j] := List.getElem?_eq_getElem (by omega)
    have hs := small_ev (t := l[j].2.1) (hc _ (List.getElem_mem _))
    have e : wr .i64 ((j : Int) + 1) = ((j + 1 : Nat) : Int) := wr_nx (show j < l.length by omega) hl
    have st : ∀ {r}, Ev2 (fun k n => (bif (!smallB l[j].2.1 l[j].2.1.2.2.1) then some (false, ()) else (bif (decide (100 < (l[j].1.length : Int))) then some (false, ()) else (bif (decide (l[j].2.2.1 < 0)) then some (false, ()) else (bif (decide (1000 < l[j].2.2.1)) then some (false, ()) else law22_Scoped_l0 k n l l (l.length : Int) (wr .i64 ((j : Int) + 1))))))) r →
        Ev2 (fun k n => law22_Scoped_l0 k n l l (l.length : Int) (j : Int)) r := fun h => by
      refine .up ?_
      simp only [law22_Scoped_l0_eq, bt (show (j : Int) < l.length by omega), nth_get hx, Option.bind_some]
      exact hs.e2.bind h
    cases h0 : smallB l[j].2.1 l[j].2.1.2.2.1 with
    | false => refine ⟨false, nofun, st ?_⟩; simp only [h0, Bool.not_false, cond_true]; exact .ret
    | true =>
    by_cases h1 : 100 < (l[j].1.length : Int)
    · refine ⟨false, nofun, st ?_⟩; simp only [h0, Bool.not_true, cond_false, bt h1]; exact .ret
    by_cases h2 : l[j].2.2.1 < 0
    · refine ⟨false, nofun, st ?_⟩; simp only [h0, Bool.not_true, cond_false, bf h1, bt h2]; exact .ret
    by_cases h3 : 1000 < l[j].2.2.1
    · refine ⟨false, nofun, st ?_⟩; simp only [h0, Bool.not_true, cond_false, bf h1, bf h2, bt h3]; exact .ret
    obtain ⟨b, hb, hE⟩ := scoped_l0 l hl hc m (j + 1) (by omega)
    refine ⟨b, fun h => ⟨(hb h).1, ?_⟩, st ?_⟩
    · rw [List.drop_eq_getElem_cons (show j < l.length by omega)]
      intro s hs
      rcases List.mem_cons.1 hs with rfl | hs
      · exact ⟨by omega, by omega, (small_of h0).1⟩
      · exact (hb h).2 s hs
    · simp only [h0, Bool.not_true, cond_false, bf h1, bf h2, bf h3, e]; exact hE
theorem scoped_ex (l : List ScT) (hl : l.length ≤ 9223372036854775807) (hc : ∀ s ∈ l, s.2.1.2.2.1.length ≤ 9223372036854775807) :
    ∃ b, (b = true → l.length ≤ 4 ∧ ∀ s ∈ l, 0 ≤ s.2.2.1 ∧ s.2.2.1 ≤ 1000 ∧ s.2.1.2.2.1.length ≤ 14) ∧ Ev (fun k => law22_Scoped k l) (b, ()) := by
  obtain ⟨b, hb, hE⟩ := scoped_l0 l hl hc l.length 0 (by omega)
  refine ⟨b, hb, ?_⟩
  simp only [law22_Scoped_eq]
  exact hE.dg
theorem sums_loop (es : List Ex) (hl : es.length ≤ 3) (ih : ∀ x ∈ es, ∃ b, Ev (fun k => expr_Sums k x.un) (b, ())) :
    ∀ m j, j + m = es.length → ∃ r : Int, (0 ≤ r ∨ (r = -1 ∧ ∀ x ∈ es.drop j, Ev (fun k => expr_Sums k x.un) (false, ()))) ∧ ∃ K, ∀ k n, K ≤ k → m < n →
      slices_IndexFunc_Expr_Expr_expr_Sums_l0 (expr_Sums k) (k + 1) n es (es.length : Int) (j : Int) = some (r, ())
  | 0, j, hj => ⟨-1, .inr ⟨rfl, by rw [List.drop_eq_nil_of_le (by omega)]; simp⟩, 0, fun k n _ hn => by
      obtain ⟨i, rfl⟩ : ∃ i, n = i + 1 := ⟨n - 1, by omega⟩
      rw [slices_IndexFunc_Expr_Expr_expr_Sums_l0_eq, bf (by omega)]⟩
  | m + 1, j, hj => by
    have hx : es[j]? = some es[j] := List.getElem?_eq_getElem (by omega)
    obtain ⟨b, K, hK⟩ := ih es[j] (List.getElem_mem _)
    obtain ⟨r, hr, L, hL⟩ := sums_loop es hl ih m (j + 1) (by omega)
    cases b with
    | true =>
      refine ⟨j, .inl (by omega), K, fun k n hk hn => ?_⟩
      obtain ⟨i, rfl⟩ : ∃ i, n = i + 1 := ⟨n - 1, by omega⟩
      rw [slices_IndexFunc_Expr_Expr_expr_Sums_l0_eq, bt (by omega), nth_get hx, Option.bind_some]
      exact (congrArg (fun o => Option.bind o _) (hK k (by omega))).trans rfl
    | false =>
      refine ⟨r, hr.imp id fun q => ⟨q.1, ?_⟩, K + L, fun k n hk hn => ?_⟩
      · rw [List.drop_eq_getElem_cons (by omega)]
        intro x hx
        rcases List.mem_cons.1 hx with rfl | hx
        · exact ⟨K, hK⟩
        · exact q.2 x hx
      obtain ⟨i, rfl⟩ : ∃ i, n = i + 1 := ⟨n - 1, by omega⟩
      rw [slices_IndexFunc_Expr_Expr_expr_Sums_l0_eq, bt (by omega), nth_get hx, Option.bind_some]
      refine (congrArg (fun o => Option.bind o _) (hK k (by omega))).trans ?_
      rw [Option.bind_some]
      show slices_IndexFunc_Expr_Expr_expr_Sums_l0 (expr_Sums k) (k + 1) i es (es.length : Int) (wr .i64 ((j : Int) + 1)) = _
      rw [wr_i64 (by omega)]
      exact hL k i (by omega) (by omega)
theorem sums_ex : (e : Ex) → Small e → ∃ b, Ev (fun k => expr_Sums k e.un) (b, ()) ∧ (b = false → ¬ (20 ≤ e.un.1 ∧ e.un.1 ≤ 23) ∧ ∀ x ∈ e.un.2.2.2.2.2.1, Ev (fun k => expr_Sums k x.un) (false, ()))
  | .mk op t n m v es, hs => by
    have hl : es.length ≤ 3 := by cases hs; assumption
    have hm : ∀ x ∈ es, Small x := by cases hs; assumption
    by_cases h : 20 ≤ op ∧ op ≤ 23
    · refine ⟨true, .from 1 fun k => ?_, nofun⟩
      rw [expr_Sums_succ, expr_Sums_b_eq, sum_is]
      show (bif decide (20 ≤ op ∧ op ≤ 23) then _ else _) = _
      rw [bt h]
    have ih : ∀ x ∈ es, ∃ b, Ev (fun k => expr_Sums k x.un) (b, ()) := fun x hx => by
      obtain ⟨b, hb, _⟩ := sums_ex x (hm x hx)
      exact ⟨b, hb⟩
    obtain ⟨r, hr, K, hK⟩ := sums_loop es hl ih es.length 0 (by omega)
    refine ⟨decide (0 ≤ r), ⟨K + es.length + 1, fun k hk => ?_⟩, fun hb => ⟨h, ?_⟩⟩
    · obtain ⟨i, rfl⟩ : ∃ i, k = i + 1 := ⟨k - 1, by omega⟩
      show expr_Sums (i + 1) _ = _
      rw [expr_Sums_succ, expr_Sums_b_eq, sum_is]
      show (bif decide (20 ≤ op ∧ op ≤ 23) then _ else _) = _
      rw [bf h, slices_ContainsFunc_Expr_Expr_expr_Sums_eq, slices_IndexFunc_Expr_Expr_expr_Sums_eq]
      have := hK i (i + 1) (by omega) (by omega)
      refine (congrArg (fun o => Option.bind (Option.bind o _) _) this).trans ?_
      rfl
    · have hb := of_decide_eq_false hb
      rcases hr with hr | ⟨_, hr⟩
      · exact absurd hr hb
      · exact hr
termination_by e _ => SizeOf.sizeOf e
decreasing_by
  have := List.sizeOf_lt_of_mem hx
  simp; omega
abbrev BOut := (ExD × (Int × (Int × Unit))) × ((Int × ((List Int) × ((List Int) × (Int × (Int × (Int × ((List Int) × ((List Ex) × Unit)))))))) × Unit)
def outB (y : ExD) (kd bad : Int) : BOut := ((y, (kd, (bad, ()))), ((y.1, (y.2.1, (y.2.2.1, (y.2.2.2.1, (y.2.2.2.2.1.1, (y.2.2.2.2.1.2.1, (y.2.2.2.2.1.2.2.1, (y.2.2.2.2.2.1, ())))))))), ()))
def zE : ExD := (0, ([], ([], (0, (nv, ([], ()))))))
def outX (x : ExD) (ys : List Ex) : ExD := (x.1, (x.2.1, (x.2.2.1, (x.2.2.2.1, (x.2.2.2.2.1, (ys, ()))))))
abbrev FB := (List ScT) → ExD → Option BOut
def BV (l : List ScT) (x : ExD) (y : ExD) (kd bad : Int) : Prop := Ev (fun k => expr_Bind k l x) (outB y kd bad)
noncomputable abbrev lpB (F : FB) (k n : Nat) (l : List ScT) (nl : Bool) (ks : List Int) (es : List Ex) (i : Int) (x : ExD) (ys : List Ex) : Option BOut :=
  expr_Bind_l0 F k n l nl ks es (es.length : Int) i x.1 x.2.1 x.2.2.1 x.2.2.2.1 x.2.2.2.2.1.1 x.2.2.2.2.1.2.1 x.2.2.2.2.1.2.2.1 x.2.2.2.2.2.1 0 [] [] 0 0 0 [] [] x.1 x.2.1 x.2.2.1 x.2.2.2.1 x.2.2.2.2.1.1 x.2.2.2.2.1.2.1 x.2.2.2.2.1.2.2.1 ys
theorem lpB_bad (F : FB) (k n : Nat) (l : List ScT) (nl : Bool) (ks : List Int) (es : List Ex) (i : Nat) (e : Ex) (x : ExD) (ys : List Ex) (y : ExD) (kd bad : Int) (he : es[i]? = some e) (h : F l e.un = some (outB y kd bad)) (hb : bad ≠ 0) :
    lpB F k (n + 1) l nl ks es i x ys = some (outB zE 0 bad) := by
  have hl : (i : Int) < es.length := by have := (List.getElem?_eq_some_iff.1 he).1; omega
  unfold lpB
  rw [expr_Bind_l0_eq, bt hl, nth_get he, Option.bind_some]
  refine (congrArg (fun o => Option.bind o _) h).trans ?_
  rw [Option.bind_some]
  show (bif (!decide (bad = 0)) then _ else _) = _
  rw [dF hb]; rfl
theorem lim_le {α : Type} {n : Nat} {x : Option α} (h : n ≤ 100) : lim n x = x := by unfold lim; rw [if_pos]; exact Nat.le_trans h (by decide)
theorem lpB_next (F : FB) (k n : Nat) (l : List ScT) (nl : Bool) (ks : List Int) (es : List Ex) (i : Nat) (e : Ex) (x : ExD) (ys : List Ex) (y : ExD) (kd : Int) (he : es[i]? = some e) (h : F l e.un = some (outB y kd 0)) (hs : ¬ (20 ≤ x.1 ∧ x.1 ≤ 23))
    (h1 : ys.length ≤ 50) (h2 : ks.length ≤ 50) (hlen : es.length ≤ 3) :
    lpB F k (n + 1) l nl ks es i x ys = lpB F k n l (nl && [kd].isEmpty) (ks ++ [kd]) es ((i + 1 : Nat) : Int) x (ys ++ [Ex.re y]) := by
  have hl : (i : Int) < es.length := by have := (List.getElem?_eq_some_iff.1 he).1; omega
  unfold lpB
  rw [expr_Bind_l0_eq, bt hl, nth_get he, Option.bind_some]
  refine (congrArg (fun o => Option.bind o _) h).trans ?_
  rw [Option.bind_some]
  show (bif (!decide ((0 : Int) = 0)) then _ else (expr_sum k x.1).bind _) = _
  rw [dT rfl, Bool.not_true, cond_false, sum_is, Option.bind_some]
  show (bif decide (20 ≤ x.1 ∧ x.1 ≤ 23) then _ else lim _ (lim _ _)) = _
  rw [bf hs, lim_le (by simp; omega), lim_le (by simp; omega), wr_nx (show i < es.length by omega) (by omega)]
  rfl
theorem lpB_sum (F : FB) (k n : Nat) (l : List ScT) (nl : Bool) (ks : List Int) (es : List Ex) (i : Nat) (e : Ex) (x : ExD) (ys : List Ex) (y : ExD) (kd : Int) (he : es[i]? = some e) (h : F l e.un = some (outB y kd 0)) (hs : (20 ≤ x.1 ∧ x.1 ≤ 23))
    (h1 : ys.length ≤ 50) (h2 : ks.length ≤ 50) (hlen : es.length ≤ 3) (s : Bool) (hS : expr_Sums k y = some (s, ())) :
    lpB F k (n + 1) l nl ks es i x ys = bif s then some (outB zE 0 220) else lpB F k n l (nl && [kd].isEmpty) (ks ++ [kd]) es ((i + 1 : Nat) : Int) x (ys ++ [Ex.re y]) := by
  have hl : (i : Int) < es.length := by have := (List.getElem?_eq_some_iff.1 he).1; omega
  unfold lpB
  rw [expr_Bind_l0_eq, bt hl, nth_get he, Option.bind_some]
  refine (congrArg (fun o => Option.bind o _) h).trans ?_
  rw [Option.bind_some]
  show (bif (!decide ((0 : Int) = 0)) then _ else (expr_sum k x.1).bind _) = _
  rw [dT rfl, Bool.not_true, cond_false, sum_is, Option.bind_some]
  show (bif decide (20 ≤ x.1 ∧ x.1 ≤ 23) then (expr_Sums k y).bind _ else _) = _
  rw [bt hs, hS, Option.bind_some]
  cases s
  · show lim _ (lim _ _) = _
    rw [lim_le (by simp; omega), lim_le (by simp; omega), wr_nx (show i < es.length by omega) (by omega)]
    rfl
  · rfl
theorem idx_ex (ks : List Int) (v : Int) (hl : ks.length ≤ 50) : ∀ m j, j + m = ks.length → ∃ r, ∀ k n, m < n → slices_Index_s_int_int_l0 k n ks v (ks.length : Int) (j : Int) = some (r, ())
  | 0, j, hj => ⟨-1, fun k n hn => by
      obtain ⟨i, rfl⟩ : ∃ i, n = i + 1 := ⟨n - 1, by omega⟩
      rw [slices_Index_s_int_int_l0_eq, bf (by omega)]⟩
  | m + 1, j, hj => by
    have hx : ks[j]? = some ks[j] := List.getElem?_eq_getElem (by omega)
    by_cases h : v = ks[j]
    · refine ⟨j, fun k n hn => ?_⟩
      obtain ⟨i, rfl⟩ : ∃ i, n = i + 1 := ⟨n - 1, by omega⟩
      rw [slices_Index_s_int_int_l0_eq, bt (by omega), nth_get hx, Option.bind_some, bt h]
    · obtain ⟨r, hr⟩ := idx_ex ks v hl m (j + 1) (by omega)
      refine ⟨r, fun k n hn => ?_⟩
      obtain ⟨i, rfl⟩ : ∃ i, n = i + 1 := ⟨n - 1, by omega⟩
      rw [slices_Index_s_int_int_l0_eq, bt (by omega), nth_get hx, Option.bind_some, bf h, wr_nx (show j < ks.length by omega) (by omega)]
      exact hr k i (by omega)
theorem contains_ex (ks : List Int) (v : Int) (hl : ks.length ≤ 50) : ∃ b, ∀ k, ks.length < k → slices_Contains_s_int_int k ks v = some (b, ()) := by
  obtain ⟨r, hr⟩ := idx_ex ks v hl ks.length 0 (by omega)
  refine ⟨decide (0 ≤ r), fun k hk => ?_⟩
  rw [slices_Contains_s_int_int_eq, slices_Index_s_int_int_eq]
  refine (congrArg (fun o => Option.bind o _) (hr k k hk)).trans rfl
theorem fits_ex (op : Int) (ks : List Int) (hl : ks.length ≤ 50) (h : 10 ≤ op ∧ op ≤ 15 → ks.length = 2) : ∃ b, ∀ k, ks.length < k → expr_fits k op ks = some (b, ()) := by
  by_cases h19 : op = 19
  · exact ⟨true, fun k _ => by rw [expr_fits_eq, bt h19]⟩
  by_cases hc : 10 ≤ op ∧ op ≤ 15
  · obtain ⟨a, b, rfl⟩ : ∃ a b, ks = [a, b] := by
      match ks, h hc with
      | [a, b], _ => exact ⟨a, b, rfl⟩
    have e0 : nth [a, b] 0 = some a := rfl
    have e1 : nth [a, b] 1 = some b := rfl
    by_cases h1 : a = b
    · exact ⟨true, fun k _ => by rw [expr_fits_eq, bf h19, compares_is, Option.bind_some, bt hc, e0, e1, Option.bind_some, Option.bind_some, bt h1]⟩
    by_cases h2 : a = 0
    · exact ⟨true, fun k _ => by rw [expr_fits_eq, bf h19, compares_is, Option.bind_some, bt hc, e0, e1, Option.bind_some, Option.bind_some, bf h1, Option.bind_some, bt h2]⟩
    · exact ⟨decide (b = 0), fun k _ => by rw [expr_fits_eq, bf h19, compares_is, Option.bind_some, bt hc, e0, e1, Option.bind_some, Option.bind_some, bf h1, Option.bind_some, bf h2, Option.bind_some]⟩
  · obtain ⟨b, hb⟩ := contains_ex ks 2 hl
    refine ⟨!b, fun k hk => ?_⟩
    rw [expr_fits_eq, bf h19, compares_is, Option.bind_some, bf hc, hb k hk]; rfl
theorem end_other (l : List ScT) (nl : Bool) (ks : List Int) (es : List Ex) (i : Int) (x : ExD) (ys : List Ex) (hi : ¬ i < es.length) (h1 : x.1 ≠ 1) (h2 : x.1 ≠ 2) (h3 : x.1 ≠ 3) (h22 : x.1 ≠ 22) (h23 : x.1 ≠ 23) (hk : ks.length ≤ 50) (hc : 10 ≤ x.1 ∧ x.1 ≤ 15 → ks.length = 2) :
    ∃ b : Bool, ∀ (F : FB) k n, ks.length ≤ k → lpB F (k + 1) (n + 1) l nl ks es i x ys = some (bif b then outB (outX x ys) 1 0 else outB zE 0 220) := by
  obtain ⟨b, hb⟩ := fits_ex x.1 ks hk hc
  refine ⟨b, fun F k n hn => ?_⟩
  unfold lpB
  rw [expr_Bind_l0_eq, bf hi, bf h1, bf h2, bf h3, bf h22, dF h23, expr_Bind_j0_eq, cond_false, hb (k + 1) (by omega), Option.bind_some]
  cases b <;> rfl
theorem end_min (F : FB) (l : List ScT) (nl : Bool) (k0 : Int) (ks : List Int) (es : List Ex) (i : Int) (x : ExD) (ys : List Ex) (hi : ¬ i < es.length) (h : x.1 = 22 ∨ x.1 = 23) :
    ∀ k n, lpB F (k + 1) (n + 1) l nl (k0 :: ks) es i x ys = some (outB (outX x ys) k0 0) := by
  intro k n
  have e0 : nth (k0 :: ks) 0 = some k0 := rfl
  unfold lpB
  rw [expr_Bind_l0_eq, bf hi, bf (by omega), bf (by omega), bf (by omega)]
  by_cases h22 : x.1 = 22
  · rw [bt h22, dT h22, expr_Bind_j0_eq, cond_true, e0]; rfl
  · rw [bf h22, dT (by omega), expr_Bind_j0_eq, cond_true, e0]; rfl
theorem end_lit (F : FB) (l : List ScT) (nl : Bool) (ks : List Int) (es : List Ex) (i : Int) (x : ExD) (ys : List Ex) (hi : ¬ i < es.length) (h : x.1 = 1) :
    ∀ k n, lpB F k (n + 1) l nl ks es i x ys = some (if 0 ≤ x.2.2.2.2.1.1 ∧ x.2.2.2.2.1.1 ≤ 2 then outB (outX x ys) x.2.2.2.2.1.1 0 else outB zE 0 220) := by
  intro k n
  unfold lpB
  rw [expr_Bind_l0_eq, bf hi, bt h, expr_literal_eq]
  show (bif decide (x.2.2.2.2.1.1 < 0) then _ else (bif decide (2 < x.2.2.2.2.1.1) then _ else _ : Option BOut)).bind _ = _
  by_cases c1 : x.2.2.2.2.1.1 < 0
  · rw [bt c1, if_neg (by omega)]; rfl
  · rw [bf c1]
    by_cases c2 : 2 < x.2.2.2.2.1.1
    · rw [bt c2, if_neg (by omega)]; rfl
    · rw [bf c2, if_pos (by omega)]; rfl
theorem end_pos (F : FB) (l : List ScT) (nl : Bool) (ks : List Int) (es : List Ex) (i : Int) (x : ExD) (ys : List Ex) (hi : ¬ i < es.length) (h : x.1 = 3) (k n : Nat) (kd : Int) (hp : expr_place k l x.2.2.2.1 = some (kd, ())) :
    lpB F k (n + 1) l nl ks es i x ys = some (outB (outX x ys) kd 0) := by
  unfold lpB
  rw [expr_Bind_l0_eq, bf hi, bf (by omega), bf (by omega), bt h, hp]; rfl
def posE (a : Int) : ExD := (3, ([], ([], (a, (nv, ([], ()))))))
theorem end_col (F : FB) (l : List ScT) (nl : Bool) (ks : List Int) (es : List Ex) (i : Int) (x : ExD) (ys : List Ex) (hi : ¬ i < es.length) (h : x.1 = 2) (k n : Nat) (r : Int × Int) (kd : Int) (hp : cat_Column k l x.2.1 x.2.2.1 = some ((r.1, (r.2, ())), ())) (hk : expr_kind k l r.1 = some (kd, ())) :
    lpB F k (n + 1) l nl ks es i x ys = some (if r.2 = 0 then outB (posE r.1) kd 0 else outB zE 0 r.2) := by
  unfold lpB
  rw [expr_Bind_l0_eq, bf hi, bf (by omega), bt h, hp, Option.bind_some, hk]
  by_cases c : r.2 = 0
  · rw [dT c, Bool.not_true, cond_false, if_pos c]; rfl
  · rw [dF c, Bool.not_false, cond_true, if_neg c]; rfl
theorem bind_go (k : Nat) (l : List ScT) (x : ExD) (hp : partsM x.1 = x.2.2.2.2.2.1.length) : expr_Bind (k + 1) l x = lpB (expr_Bind k) (k + 1) (k + 1) l true [] x.2.2.2.2.2.1 0 x [] := by
  rw [expr_Bind_succ, expr_Bind_b_eq, parts_is, Option.bind_some, dT hp, Bool.not_true, cond_false]
theorem bind_no (l : List ScT) (x : ExD) (hp : partsM x.1 ≠ x.2.2.2.2.2.1.length) : BV l x zE 0 220 := by
  refine .from 1 fun k => ?_
  rw [expr_Bind_succ, expr_Bind_b_eq, parts_is, Option.bind_some, dF hp, Bool.not_false, cond_true]; rfl
theorem bothM_ok (o : Bool) (a b : VT) : (bothM o a b).1 = 0 ∨ (bothM o a b).1 = 1 := by
  unfold bothM
  split
  · exact .inr rfl
  · split
    · exact .inl rfl
    · exact .inr rfl
def okR (p : VT × Int) (kd : Int) : Prop := (p.2 = 0 → p.1.1 = 0 ∨ p.1.1 = kd) ∧ (p.2 ≠ 0 → p.2 = 10 ∨ p.2 = 11)
theorem applyM_ok (op : Int) (a b : VT) : okR (applyM op a b) 1 := by
  unfold applyM
  split
  · split
    · exact ⟨fun _ => .inl rfl, fun h => absurd rfl h⟩
    · exact ⟨fun _ => .inr rfl, fun h => absurd rfl h⟩
  split
  · exact ⟨fun _ => bothM_ok _ _ _, fun h => absurd rfl h⟩
  split
  · exact ⟨fun _ => .inl rfl, fun h => absurd rfl h⟩
  split
  · exact ⟨fun _ => .inr rfl, fun h => absurd rfl h⟩
  split
  · exact ⟨fun _ => .inl rfl, fun _ => .inr rfl⟩
  · exact ⟨fun _ => .inl rfl, fun _ => .inl rfl⟩
theorem finM_ok (op : Int) (a b : VT) : okR (finM op a b) 1 := by
  unfold finM
  split
  · exact ⟨fun _ => .inr rfl, fun h => absurd rfl h⟩
  split
  · refine ⟨fun _ => ?_, fun h => absurd rfl h⟩
    show (cmpM op a b).1 = 0 ∨ (cmpM op a b).1 = 1
    unfold cmpM
    split
    · exact .inl rfl
    · exact .inr rfl
  · exact applyM_ok _ _ _
/-- What rows are of the kinds that are told. -/
def HR (l : List ScT) (r : List VT) : Prop := r.length ≤ 20 ∧ ∀ (n : Nat) v, r[n]? = some v → v.1 = 0 ∨ v.1 = kindM l n
def TY (l : List ScT) (y : ExD) (kd : Int) : Prop := Ev (fun k => expr_Sums k y) (false, ()) → ∀ r, HR l r → ∃ p : VT × Int, EV y r p ∧ okR p kd
theorem sums_of {y : ExD} (hs : Small (Ex.re y)) (h : Ev (fun k => expr_Sums k y) (false, ())) : ¬ (20 ≤ y.1 ∧ y.1 ≤ 23) ∧ ∀ x ∈ y.2.2.2.2.2.1, Ev (fun k => expr_Sums k x.un) (false, ()) := by
  obtain ⟨b, hb, k⟩ := sums_ex (Ex.re y) hs
  have : ((b, ()) : Bool × Unit) = (false, ()) := Ev.det hb h
  simp only [Prod.mk.injEq, and_true] at this
  exact k this
theorem ty_one (l : List ScT) (x y1 : ExD) (kd1 : Int) (hx : partsM x.1 = 1) (hs : Small (Ex.re (outX x [Ex.re y1]))) (h1 : TY l y1 kd1) : TY l (outX x [Ex.re y1]) 1 := by
  intro hS r hr
  obtain ⟨s1, s2⟩ := sums_of hs hS
  have s1 : ¬ (20 ≤ x.1 ∧ x.1 ≤ 23) := s1
  obtain ⟨p, hp, ok⟩ := h1 (s2 (Ex.re y1) (List.mem_singleton.2 rfl)) r hr
  have hb : ¬ evBad (outX x [Ex.re y1]) := by
    have := partsM_cases x.1
    rintro (q | q | q)
    · exact q hx
    · have q : x.1 = 2 := q; omega
    · exact s1 q
  refine ⟨_, eval_one _ r hb (Ex.re y1) rfl hp, ?_⟩
  by_cases c : p.2 = 0
  · rw [if_pos c]; exact finM_ok _ _ _
  · rw [if_neg c]; exact ⟨fun h => absurd h c, ok.2⟩
theorem ty_two (l : List ScT) (x y1 y2 : ExD) (kd1 kd2 : Int) (hx : partsM x.1 = 2) (hs : Small (Ex.re (outX x [Ex.re y1, Ex.re y2]))) (h1 : TY l y1 kd1) (h2 : TY l y2 kd2) : TY l (outX x [Ex.re y1, Ex.re y2]) 1 := by
  intro hS r hr
  obtain ⟨s1, s2⟩ := sums_of hs hS
  have s1 : ¬ (20 ≤ x.1 ∧ x.1 ≤ 23) := s1
  obtain ⟨p, hp, ok⟩ := h1 (s2 (Ex.re y1) (by simp [outX])) r hr
  obtain ⟨q, hq, ok2⟩ := h2 (s2 (Ex.re y2) (by simp [outX])) r hr
  have hb : ¬ evBad (outX x [Ex.re y1, Ex.re y2]) := by
    have := partsM_cases x.1
    rintro (q | q | q)
    · exact q hx
    · have q : x.1 = 2 := q; omega
    · exact s1 q
  by_cases c : p.2 = 0
  · obtain ⟨v, c'⟩ := p
    cases c
    refine ⟨_, eval_two _ r hb (Ex.re y1) (Ex.re y2) rfl hp hq, ?_⟩
    by_cases d : q.2 = 0
    · rw [if_pos d]; exact finM_ok _ _ _
    · rw [if_neg d]; exact ⟨fun h => absurd h d, ok2.2⟩
  · exact ⟨_, eval_two1 _ r hb (Ex.re y1) (Ex.re y2) rfl hp c, fun h => absurd h c, ok.2⟩
theorem ty_lit (l : List ScT) (x : ExD) (hx : x.1 = 1) : TY l (outX x []) x.2.2.2.2.1.1 := fun _ r _ =>
  ⟨_, eval_lit _ r (by
    rintro (q | q | q)
    · exact q (by show partsM x.1 = 0; rw [hx]; rfl)
    · have q : x.1 = 2 := q; omega
    · have q : 20 ≤ x.1 := q.1; omega) hx, fun _ => .inr rfl, fun h => absurd rfl h⟩
theorem pos_ok (l : List ScT) (r : List VT) (hr : HR l r) (a : Int) (kd : Int) (hk : 0 ≤ a → a < 20 → kd = kindM l a) : okR ((if 0 ≤ a then r[a.toNat]?.getD nv else nv), 0) kd := by
  refine ⟨fun _ => ?_, fun h => absurd rfl h⟩
  by_cases c : 0 ≤ a
  · rw [if_pos c]
    by_cases c2 : a.toNat < r.length
    · have e := List.getElem?_eq_getElem c2
      rw [e]
      show r[a.toNat].1 = 0 ∨ r[a.toNat].1 = kd
      have h1 := hr.1
      rw [hk c (by omega)]
      have := hr.2 a.toNat _ e
      rwa [Int.toNat_of_nonneg c] at this
    · rw [List.getElem?_eq_none (by omega)]; exact .inl rfl
  · rw [if_neg c]; exact .inl rfl
theorem ty_pos (l : List ScT) (x : ExD) (hx : x.1 = 3) : TY l (outX x []) (placeM l x.2.2.2.1) := fun _ r hr =>
  ⟨_, eval_pos _ r (by
    rintro (q | q | q)
    · exact q (by show partsM x.1 = 0; rw [hx]; rfl)
    · have q : x.1 = 2 := q; omega
    · have q : 20 ≤ x.1 := q.1; omega) hx, pos_ok l r hr _ _ fun h1 h2 => by unfold placeM; exact if_neg (show ¬ (x.2.2.2.1 < 0 ∨ 1048576 < x.2.2.2.1) by have h2 : x.2.2.2.1 < 20 := h2; have h1 : 0 ≤ x.2.2.2.1 := h1; omega)⟩
theorem ty_col (l : List ScT) (a : Int) : TY l (posE a) (kindM l a) := fun _ r hr =>
  ⟨_, eval_pos _ r (by unfold evBad; simp [posE, partsM]) rfl, pos_ok l r hr _ _ fun _ _ => rfl⟩
theorem ty_sum (l : List ScT) (y : ExD) (kd : Int) (hs : Small (Ex.re y)) (h : 20 ≤ y.1 ∧ y.1 ≤ 23) : TY l y kd := fun hS => absurd h (sums_of hs hS).1
theorem small_out (x : ExD) (ys : List Ex) (h : ys.length ≤ 3) (h2 : ∀ y ∈ ys, Small y) : Small (Ex.re (outX x ys)) := .mk _ _ _ _ _ _ h h2
theorem small_z : Small (Ex.re zE) := .mk _ _ _ _ _ _ (Nat.zero_le 3) (fun _ h => nomatch h)
theorem small_pos (a : Int) : Small (Ex.re (posE a)) := .mk _ _ _ _ _ _ (Nat.zero_le 3) (fun _ h => nomatch h)
theorem bind_ex (l : List ScT) (hl : l.length ≤ 9223372036854775807) (hc : ∀ s ∈ l, s.2.1.2.2.1.length ≤ 9223372036854775807) : (e : Ex) → Small e → ∃ y kd bad, BV l e.un y kd bad ∧ Small (Ex.re y) ∧ (bad = 0 → TY l y kd)
  | .mk op t n m v es, hs => by
    by_cases hp : partsM op = es.length
    case neg => exact ⟨_, _, _, bind_no l _ hp, small_z, fun h => absurd h (by omega)⟩
    have hm : ∀ x ∈ es, Small x := by cases hs; assumption
    have pc := partsM_cases op
    match es, hm, hp with
    | [], hm, hp =>
      have hp' : partsM op = 0 := hp
      have go : ∀ k, expr_Bind (k + 1) l (Ex.mk op t n m v []).un = lpB (expr_Bind k) (k + 1) (k + 1) l true [] [] 0 (Ex.mk op t n m v []).un [] := fun k => bind_go k l _ hp
      by_cases h1 : op = 1
      · by_cases c : 0 ≤ v.1 ∧ v.1 ≤ 2
        · refine ⟨outX (Ex.mk op t n m v []).un [], v.1, 0, .from 1 fun k => ?_, small_out _ _ (by simp) (by simp), fun _ => ty_lit l _ h1⟩
          rw [go, end_lit _ l true [] [] 0 _ [] (by simp) h1]; exact congrArg some (if_pos c)
        · refine ⟨zE, 0, 220, .from 1 fun k => ?_, small_z, fun h => absurd h (by omega)⟩
          rw [go, end_lit _ l true [] [] 0 _ [] (by simp) h1]; exact congrArg some (if_neg c)
      by_cases h2 : op = 2
      · obtain ⟨r, K, hK⟩ := col_ex l t n hl hc
        obtain ⟨L, hL⟩ := kind_ev l r.1 hl
        by_cases c : r.2 = 0
        · refine ⟨posE r.1, kindM l r.1, 0, ⟨K + L + 1, fun k hk => ?_⟩, small_pos _, fun _ => ty_col l r.1⟩
          obtain ⟨i, rfl⟩ : ∃ i, k = i + 1 := ⟨k - 1, by omega⟩
          show expr_Bind (i + 1) l _ = _
          rw [go, end_col _ l true [] [] 0 _ [] (by simp) h2 (i + 1) i r _ (hK _ (by omega)) (hL _ (by omega)), if_pos c]
        · refine ⟨zE, 0, r.2, ⟨K + L + 1, fun k hk => ?_⟩, small_z, fun h => absurd h c⟩
          obtain ⟨i, rfl⟩ : ∃ i, k = i + 1 := ⟨k - 1, by omega⟩
          show expr_Bind (i + 1) l _ = _
          rw [go, end_col _ l true [] [] 0 _ [] (by simp) h2 (i + 1) i r _ (hK _ (by omega)) (hL _ (by omega)), if_neg c]
      by_cases h3 : op = 3
      · obtain ⟨K, hK⟩ := place_ev l m hl
        refine ⟨outX (Ex.mk op t n m v []).un [], placeM l m, 0, ⟨K + 1, fun k hk => ?_⟩, small_out _ _ (by simp) (by simp), fun _ => ty_pos l _ h3⟩
        obtain ⟨i, rfl⟩ : ∃ i, k = i + 1 := ⟨k - 1, by omega⟩
        show expr_Bind (i + 1) l _ = _
        rw [go, end_pos _ l true [] [] 0 _ [] (by simp) h3 (i + 1) i _ (hK _ (by omega))]
      · have h20 : op = 20 := by omega
        obtain ⟨b, hb⟩ := end_other l true [] [] 0 (Ex.mk op t n m v []).un [] (by simp) h1 h2 h3 (by show op ≠ 22; omega) (by show op ≠ 23; omega) (by simp) (fun h => absurd h (by show ¬ (10 ≤ op ∧ op ≤ 15); omega))
        have ty := ty_sum l (outX (Ex.mk op t n m v []).un []) 1 (small_out _ _ (by simp) (by simp)) (by show 20 ≤ op ∧ op ≤ 23; omega)
        have key : ∀ k, expr_Bind (k + 1) l (Ex.mk op t n m v []).un = some (bif b then outB (outX (Ex.mk op t n m v []).un []) 1 0 else outB zE 0 220) := fun k => (go k).trans (hb _ k k (Nat.zero_le _))
        cases b with
        | true => exact ⟨_, _, _, .from 1 key, small_out _ _ (by simp) (by simp), fun _ => ty⟩
        | false => exact ⟨_, _, _, .from 1 key, small_z, fun h => absurd h (by omega)⟩
    | [a], hm, hp =>
      have hp' : partsM op = 1 := hp
      obtain ⟨y1, k1, b1, ⟨K, hK⟩, s1, t1⟩ := bind_ex l hl hc a (hm a (by simp))
      have go : ∀ k, expr_Bind (k + 1) l (Ex.mk op t n m v [a]).un = lpB (expr_Bind k) (k + 1) (k + 1) l true [] [a] 0 (Ex.mk op t n m v [a]).un [] := fun k => bind_go k l _ hp
      by_cases c1 : b1 = 0
      case neg =>
        refine ⟨zE, 0, b1, ⟨K + 1, fun k hk => ?_⟩, small_z, fun h => absurd h c1⟩
        obtain ⟨i, rfl⟩ : ∃ i, k = i + 1 := ⟨k - 1, by omega⟩
        exact (go i).trans (lpB_bad _ _ i l true [] [a] 0 a _ [] y1 k1 b1 rfl (hK i (by omega)) c1)
      subst c1
      have so : Small (Ex.re (outX (Ex.mk op t n m v [a]).un [Ex.re y1])) := small_out _ _ (by simp) (by intro y hy; rw [List.mem_singleton.1 hy]; exact s1)
      by_cases hsum : 20 ≤ op ∧ op ≤ 23
      · obtain ⟨s, ⟨L, hL⟩, _⟩ := sums_ex (Ex.re y1) s1
        have st : ∀ i, K + L ≤ i → expr_Bind (i + 1) l (Ex.mk op t n m v [a]).un = bif s then some (outB zE 0 220) else lpB (expr_Bind i) (i + 1) i l (true && [k1].isEmpty) ([] ++ [k1]) [a] ((0 + 1 : Nat) : Int) (Ex.mk op t n m v [a]).un ([] ++ [Ex.re y1]) := fun i hi =>
          (go i).trans (lpB_sum _ _ i l true [] [a] 0 a _ [] y1 k1 rfl (hK i (by omega)) hsum (by simp) (by simp) (by simp) s (hL (i + 1) (by omega)))
        cases s with
        | true =>
          refine ⟨zE, 0, 220, ⟨K + L + 1, fun k hk => ?_⟩, small_z, fun h => absurd h (by omega)⟩
          obtain ⟨i, rfl⟩ : ∃ i, k = i + 1 := ⟨k - 1, by omega⟩
          exact st i (by omega)
        | false =>
          by_cases h22 : op = 22 ∨ op = 23
          · refine ⟨outX (Ex.mk op t n m v [a]).un [Ex.re y1], k1, 0, ⟨K + L + 3, fun k hk => ?_⟩, so, fun _ => ty_sum l _ _ so hsum⟩
            obtain ⟨i, rfl⟩ : ∃ i, k = i + 1 := ⟨k - 1, by omega⟩
            obtain ⟨j, rfl⟩ : ∃ j, i = j + 1 := ⟨i - 1, by omega⟩
            exact (st (j + 1) (by omega)).trans (end_min _ l _ k1 [] [a] _ _ [Ex.re y1] (by simp) h22 (j + 1) j)
          · obtain ⟨b, hb⟩ := end_other l (true && [k1].isEmpty) [k1] [a] ((0 + 1 : Nat) : Int) (Ex.mk op t n m v [a]).un [Ex.re y1] (by simp) (by show op ≠ 1; omega) (by show op ≠ 2; omega) (by show op ≠ 3; omega) (by show op ≠ 22; omega) (by show op ≠ 23; omega) (by simp) (fun h => absurd h (by show ¬ (10 ≤ op ∧ op ≤ 15); omega))
            have key : ∀ k, K + L + 3 ≤ k → expr_Bind k l (Ex.mk op t n m v [a]).un = some (bif b then outB (outX (Ex.mk op t n m v [a]).un [Ex.re y1]) 1 0 else outB zE 0 220) := fun k hk => by
              obtain ⟨i, rfl⟩ : ∃ i, k = i + 1 := ⟨k - 1, by omega⟩
              obtain ⟨j, rfl⟩ : ∃ j, i = j + 1 := ⟨i - 1, by omega⟩
              exact (st (j + 1) (by omega)).trans (hb _ (j + 1) j (by simp))
            cases b with
            | true => exact ⟨_, _, _, ⟨_, key⟩, so, fun _ => ty_sum l _ _ so hsum⟩
            | false => exact ⟨_, _, _, ⟨_, key⟩, small_z, fun h => absurd h (by omega)⟩
      · have st : ∀ i, K ≤ i → expr_Bind (i + 1) l (Ex.mk op t n m v [a]).un = lpB (expr_Bind i) (i + 1) i l (true && [k1].isEmpty) ([] ++ [k1]) [a] ((0 + 1 : Nat) : Int) (Ex.mk op t n m v [a]).un ([] ++ [Ex.re y1]) := fun i hi =>
          (go i).trans (lpB_next _ _ i l true [] [a] 0 a _ [] y1 k1 rfl (hK i (by omega)) hsum (by simp) (by simp) (by simp))
        obtain ⟨b, hb⟩ := end_other l (true && [k1].isEmpty) [k1] [a] ((0 + 1 : Nat) : Int) (Ex.mk op t n m v [a]).un [Ex.re y1] (by simp) (by show op ≠ 1; omega) (by show op ≠ 2; omega) (by show op ≠ 3; omega) (by show op ≠ 22; omega) (by show op ≠ 23; omega) (by simp) (fun h => absurd h (by show ¬ (10 ≤ op ∧ op ≤ 15); omega))
        have key : ∀ k, K + 3 ≤ k → expr_Bind k l (Ex.mk op t n m v [a]).un = some (bif b then outB (outX (Ex.mk op t n m v [a]).un [Ex.re y1]) 1 0 else outB zE 0 220) := fun k hk => by
          obtain ⟨i, rfl⟩ : ∃ i, k = i + 1 := ⟨k - 1, by omega⟩
          obtain ⟨j, rfl⟩ : ∃ j, i = j + 1 := ⟨i - 1, by omega⟩
          exact (st (j + 1) (by omega)).trans (hb _ (j + 1) j (by simp))
        cases b with
        | true => exact ⟨_, _, _, ⟨_, key⟩, so, fun _ => ty_one l _ y1 k1 hp' so (t1 rfl)⟩
        | false => exact ⟨_, _, _, ⟨_, key⟩, small_z, fun h => absurd h (by omega)⟩
    | [a, b], hm, hp =>
      have hp' : partsM op = 2 := hp
      have hsum : ¬ (20 ≤ op ∧ op ≤ 23) := by omega
      obtain ⟨y1, k1, b1, ⟨K, hK⟩, s1, t1⟩ := bind_ex l hl hc a (hm a (by simp))
      obtain ⟨y2, k2, b2, ⟨L, hL⟩, s2, t2⟩ := bind_ex l hl hc b (hm b (by simp))
      have go : ∀ k, expr_Bind (k + 1) l (Ex.mk op t n m v [a, b]).un = lpB (expr_Bind k) (k + 1) (k + 1) l true [] [a, b] 0 (Ex.mk op t n m v [a, b]).un [] := fun k => bind_go k l _ hp
      by_cases c1 : b1 = 0
      case neg =>
        refine ⟨zE, 0, b1, ⟨K + 1, fun k hk => ?_⟩, small_z, fun h => absurd h c1⟩
        obtain ⟨i, rfl⟩ : ∃ i, k = i + 1 := ⟨k - 1, by omega⟩
        exact (go i).trans (lpB_bad _ _ i l true [] [a, b] 0 a _ [] y1 k1 b1 rfl (hK i (by omega)) c1)
      subst c1
      have st : ∀ i, K ≤ i → expr_Bind (i + 1) l (Ex.mk op t n m v [a, b]).un = lpB (expr_Bind i) (i + 1) i l (true && [k1].isEmpty) ([] ++ [k1]) [a, b] ((0 + 1 : Nat) : Int) (Ex.mk op t n m v [a, b]).un ([] ++ [Ex.re y1]) := fun i hi =>
        (go i).trans (lpB_next _ _ i l true [] [a, b] 0 a _ [] y1 k1 rfl (hK i (by omega)) hsum (by simp) (by simp) (by simp))
      by_cases c2 : b2 = 0
      case neg =>
        refine ⟨zE, 0, b2, ⟨K + L + 3, fun k hk => ?_⟩, small_z, fun h => absurd h c2⟩
        obtain ⟨i, rfl⟩ : ∃ i, k = i + 1 := ⟨k - 1, by omega⟩
        obtain ⟨j, rfl⟩ : ∃ j, i = j + 1 := ⟨i - 1, by omega⟩
        exact (st (j + 1) (by omega)).trans (lpB_bad _ _ j l _ _ [a, b] 1 b _ _ y2 k2 b2 rfl (hL (j + 1) (by omega)) c2)
      subst c2
      have st2 : ∀ j, K + L ≤ j → expr_Bind (j + 1 + 1) l (Ex.mk op t n m v [a, b]).un = lpB (expr_Bind (j + 1)) (j + 1 + 1) j l ((true && [k1].isEmpty) && [k2].isEmpty) (([] ++ [k1]) ++ [k2]) [a, b] ((1 + 1 : Nat) : Int) (Ex.mk op t n m v [a, b]).un (([] ++ [Ex.re y1]) ++ [Ex.re y2]) := fun j hj =>
        (st (j + 1) (by omega)).trans (lpB_next _ _ j l _ _ [a, b] 1 b _ _ y2 k2 rfl (hL (j + 1) (by omega)) hsum (by simp) (by simp) (by simp))
      have so : Small (Ex.re (outX (Ex.mk op t n m v [a, b]).un [Ex.re y1, Ex.re y2])) := small_out _ _ (by simp) (by
        intro y hy
        rcases List.mem_cons.1 hy with rfl | hy
        · exact s1
        · rw [List.mem_singleton.1 hy]; exact s2)
      obtain ⟨b', hb⟩ := end_other l ((true && [k1].isEmpty) && [k2].isEmpty) [k1, k2] [a, b] ((1 + 1 : Nat) : Int) (Ex.mk op t n m v [a, b]).un [Ex.re y1, Ex.re y2] (by simp) (by show op ≠ 1; omega) (by show op ≠ 2; omega) (by show op ≠ 3; omega) (by show op ≠ 22; omega) (by show op ≠ 23; omega) (by simp) (fun _ => rfl)
      have key : ∀ k, K + L + 5 ≤ k → expr_Bind k l (Ex.mk op t n m v [a, b]).un = some (bif b' then outB (outX (Ex.mk op t n m v [a, b]).un [Ex.re y1, Ex.re y2]) 1 0 else outB zE 0 220) := fun k hk => by
        obtain ⟨i, rfl⟩ : ∃ i, k = i + 1 + 1 + 1 := ⟨k - 3, by omega⟩
        exact (st2 (i + 1) (by omega)).trans (hb _ (i + 1 + 1) i (by simp))
      cases b' with
      | true => exact ⟨_, _, _, ⟨_, key⟩, so, fun _ => ty_two l _ y1 y2 k1 k2 hp' so (t1 rfl) (t2 rfl)⟩
      | false => exact ⟨_, _, _, ⟨_, key⟩, small_z, fun h => absurd h (by omega)⟩
    | a :: b :: c :: es, hm, hp => simp at hp; omega
def knownP (l : List ScT) (i : Int) : Prop := ∃ s ∈ l, 0 ≤ i - s.2.2.1 ∧ i - s.2.2.1 < s.2.1.2.2.1.length
def scOk (l : List ScT) : Prop := l.length ≤ 4 ∧ ∀ s ∈ l, 0 ≤ s.2.2.1 ∧ s.2.2.1 ≤ 1000 ∧ s.2.1.2.2.1.length ≤ 14
def colsOk (r : List VT) (s : ScT) (j : Nat) : Prop := ∀ (i : Nat) c, i < j → s.2.1.2.2.1[i]? = some c → ∀ v, r[(s.2.2.1 + i).toNat]? = some v → v.1 = 0 ∨ v.1 = c.2.1
theorem kindM_of (r : List VT) (N : Nat) (v : VT) (hN : N < 20) (hv : r[N]? = some v) : ∀ (l : List ScT), (∀ s ∈ l, 0 ≤ s.2.2.1 ∧ s.2.2.1 ≤ 1000 ∧ s.2.1.2.2.1.length ≤ 14) → (∀ s ∈ l, colsOk r s s.2.1.2.2.1.length) →
    (v.1 = 0 ∨ v.1 = kindM l N) ∨ ¬ knownP l N
  | [], _, _ => .inr (by rintro ⟨s, hs, _⟩; cases hs)
  | s :: l, hb, hc => by
    have b := hb s (by simp)
    have hw : wr .i64 ((N : Int) - s.2.2.1) = (N : Int) - s.2.2.1 := wr_i64 (by omega)
    unfold kindM
    rw [hw]
    by_cases c : 0 ≤ (N : Int) - s.2.2.1 ∧ (N : Int) - s.2.2.1 < s.2.1.2.2.1.length
    · rw [if_pos c]
      have hlt : ((N : Int) - s.2.2.1).toNat < s.2.1.2.2.1.length := by omega
      have e := List.getElem?_eq_getElem hlt
      rw [e]
      have := hc s (by simp) ((N : Int) - s.2.2.1).toNat _ hlt e v (by
        rw [show (s.2.2.1 + (((N : Int) - s.2.2.1).toNat : Int)).toNat = N by omega]; exact hv)
      exact .inl this
    · rw [if_neg c]
      rcases kindM_of r N v hN hv l (fun t ht => hb t (List.mem_cons_of_mem _ ht)) (fun t ht => hc t (List.mem_cons_of_mem _ ht)) with h | h
      · exact .inl h
      · refine .inr ?_
        rintro ⟨t, ht, hk⟩
        rcases List.mem_cons.1 ht with rfl | ht
        · exact c hk
        · exact h ⟨t, ht, hk⟩
theorem typed_tail (l : List ScT) (hl : l.length ≤ 9223372036854775807) (hc : ∀ s ∈ l, s.2.1.2.2.1.length ≤ 9223372036854775807) (r : List VT) (hr : HR l r) (x : ExD) (hx : Small (Ex.re x)) (n : Int) (hn : ¬ n < (r.length : Int)) :
    Ev2 (fun k m => law22_ExprTyped_l3 k (m + 1) l r r (r.length : Int) n x.1 x.2.1 x.2.2.1 x.2.2.2.1 x.2.2.2.2.1.1 x.2.2.2.2.1.2.1 x.2.2.2.2.1.2.2.1 x.2.2.2.2.2.1) (true, ()) := by
  simp only [law22_ExprTyped_l3_eq, bf hn]
  refine Ev.e2 ?_
  obtain ⟨y, kd, bad, hB, sy, ty⟩ := bind_ex l hl hc (Ex.re x) hx
  refine Ev.bind hB ?_
  by_cases hb : bad = 0
  case neg =>
    refine .from 0 fun k => ?_
    show (bif (!decide (bad = 0)) then _ else _) = _
    rw [dF hb]; rfl
  subst hb
  obtain ⟨s, hS, _⟩ := sums_ex (Ex.re y) sy
  refine Ev.bind (show Ev _ (s, ()) from hS) ?_
  cases s with
  | true => exact .ret
  | false =>
    obtain ⟨p, hp, ok⟩ := ty rfl hS r hr
    refine Ev.bind hp ?_
    refine .from 0 fun k => ?_
    show (bif (!decide (p.2 = 0)) then (bif decide (p.2 = 10) then _ else _) else (bif decide (p.1.1 = 0) then _ else _)) = _
    by_cases h : p.2 = 0
    · rw [dT h, Bool.not_true, cond_false]
      by_cases h2 : p.1.1 = 0
      · rw [bt h2]
      · rw [bf h2]
        have : p.1.1 = kd := (ok.1 h).resolve_left h2
        exact congrArg (fun b => some (b, ())) (dT this)
    · rw [dF h, Bool.not_false, cond_true]
      rcases ok.2 h with h2 | h2
      · rw [bt h2]
      · rw [bf (by omega)]; exact congrArg (fun b => some (b, ())) (dT h2)
theorem typed_l4 (l : List ScT) (hs : scOk l) (r : List VT) (x : ExD) (i : Nat) (v : VT) (hi : i < 1000)
    (next : (knownP l i ∨ v.1 = 0) → Ev2 (fun k n => law22_ExprTyped_l3 k n l r r (r.length : Int) (wr .i64 ((i : Int) + 1)) x.1 x.2.1 x.2.2.1 x.2.2.2.1 x.2.2.2.2.1.1 x.2.2.2.2.1.2.1 x.2.2.2.2.1.2.2.1 x.2.2.2.2.2.1) (true, ())) :
    ∀ m j kn, j + m = l.length → (kn = true → knownP l i) → Ev3 (fun k n n1 => law22_ExprTyped_l4 k n n1 l r (i : Int) kn r (r.length : Int) (i : Int) l (l.length : Int) (j : Int) x.1 x.2.1 x.2.2.1 x.2.2.2.1 x.2.2.2.2.1.1 x.2.2.2.2.1.2.1 x.2.2.2.2.1.2.2.1 x.2.2.2.2.2.1 v.1 v.2.1 v.2.2.1) (true, ())
  | 0, j, kn, hj, hk => by
    refine .up ?_
    simp only [law22_ExprTyped_l4_eq, bf (show ¬ (j : Int) < l.length by omega)]
    cases kn with
    | true => exact (next (.inl (hk rfl))).e3
    | false =>
      by_cases h : v.1 = 0
      · simp only [Bool.not_false, cond_true, dT h, Bool.not_true, cond_false]
        exact (next (.inr h)).e3
      · simp only [Bool.not_false, cond_true, dF h]
        exact .ret
  | m + 1, j, kn, hj, hk => by
    have hx : l[j]? = some l[j] := List.getElem?_eq_getElem (by omega)
    have b := hs.2 _ (List.getElem_mem (show j < l.length by omega))
    have e : wr .i64 ((j : Int) + 1) = ((j + 1 : Nat) : Int) := wr_nx (show j < l.length by omega) (by have := hs.1; omega)
    have ih := fun kn => typed_l4 l hs r x i v hi next m (j + 1) kn (by omega)
    refine .up ?_
    simp only [law22_ExprTyped_l4_eq, bt (show (j : Int) < l.length by omega), nth_get hx, Option.bind_some, e]
    cases kn with
    | true => simp only [cond_true]; exact ih true hk
    | false =>
      simp only [cond_false]
      by_cases c : l[j].2.2.1 ≤ i
      · simp only [bt c, show wr .i64 ((i : Int) - l[j].2.2.1) = (i : Int) - l[j].2.2.1 from wr_i64 (by omega)]
        refine ih _ fun h => ?_
        have h := of_decide_eq_true h
        exact ⟨_, List.getElem_mem (show j < l.length by omega), by omega, h⟩
      · simp only [bf c]
        exact ih false nofun
theorem typed_l3 (l : List ScT) (hs : scOk l) (hl : l.length ≤ 9223372036854775807) (hc : ∀ s ∈ l, s.2.1.2.2.1.length ≤ 9223372036854775807) (r : List VT) (hr20 : r.length ≤ 20) (x : ExD) (hx : Small (Ex.re x)) (hcols : ∀ s ∈ l, colsOk r s s.2.1.2.2.1.length) :
    ∀ m j, j + m = r.length → (∀ (n : Nat) v, n < j → r[n]? = some v → knownP l n ∨ v.1 = 0) → Ev2 (fun k n => law22_ExprTyped_l3 k n l r r (r.length : Int) (j : Int) x.1 x.2.1 x.2.2.1 x.2.2.2.1 x.2.2.2.2.1.1 x.2.2.2.2.1.2.1 x.2.2.2.2.1.2.2.1 x.2.2.2.2.2.1) (true, ())
  | 0, j, hj, hk => by
    refine .up (typed_tail l hl hc r ⟨hr20, fun n v hv => ?_⟩ x hx (j : Int) (by omega))
    have hn : n < r.length := (List.getElem?_eq_some_iff.1 hv).1
    rcases kindM_of r n v (by omega) hv l hs.2 hcols with h | h
    · exact h
    · rcases hk n v (by omega) hv with q | q
      · exact absurd q h
      · exact .inl q
  | m + 1, j, hj, hk => by
    have hv : r[j]? = some r[j] := List.getElem?_eq_getElem (by omega)
    have e : wr .i64 ((j : Int) + 1) = ((j + 1 : Nat) : Int) := wr_nx (show j < r.length by omega) (by omega)
    refine .up ?_
    simp only [law22_ExprTyped_l3_eq, bt (show (j : Int) < r.length by omega), nth_get hv, Option.bind_some]
    refine Ev3.dg (typed_l4 l hs r x j r[j] (by omega) (fun h => ?_) l.length 0 false (by omega) nofun)
    rw [e]
    refine typed_l3 l hs hl hc r hr20 x hx hcols m (j + 1) (by omega) fun n v hn hv' => ?_
    by_cases c : n = j
    · subst c
      rw [hv] at hv'
      cases hv'; exact h
    · exact hk n v (by omega) hv'
theorem typed_l2 (l : List ScT) (hs : scOk l) (r : List VT) (x : ExD) (i : Int) (s : ScT)
    (next : Ev2 (fun k n => law22_ExprTyped_l0 k n l r l (l.length : Int) (wr .i64 (i + 1)) x.1 x.2.1 x.2.2.1 x.2.2.2.1 x.2.2.2.2.1.1 x.2.2.2.2.1.2.1 x.2.2.2.2.1.2.2.1 x.2.2.2.2.2.1) (true, ())) :
    ∀ m j, j + m = l.length → Ev3 (fun k n n1 => law22_ExprTyped_l2 k n n1 l r l (l.length : Int) i l (l.length : Int) (j : Int) x.1 x.2.1 x.2.2.1 x.2.2.2.1 x.2.2.2.2.1.1 x.2.2.2.2.1.2.1 x.2.2.2.2.1.2.2.1 x.2.2.2.2.2.1 s.1 s.2.1.1 s.2.1.2.1 s.2.1.2.2.1 s.2.1.2.2.2.1 s.2.1.2.2.2.2.1 s.2.2.1) (true, ())
  | 0, j, hj => by
    refine .up ?_
    simp only [law22_ExprTyped_l2_eq, bf (show ¬ (j : Int) < l.length by omega)]
    exact next.e3
  | m + 1, j, hj => by
    have hx : l[j]? = some l[j] := List.getElem?_eq_getElem (by omega)
    have e : wr .i64 ((j : Int) + 1) = ((j + 1 : Nat) : Int) := wr_nx (show j < l.length by omega) (by have := hs.1; omega)
    have ih := typed_l2 l hs r x i s next m (j + 1) (by omega)
    refine .up ?_
    simp only [law22_ExprTyped_l2_eq, bt (show (j : Int) < l.length by omega), nth_get hx, Option.bind_some, e]
    by_cases c1 : l[j].2.2.1 = s.2.2.1
    · simp only [dT c1, Bool.not_true, cond_false]; exact ih
    · simp only [dF c1, Bool.not_false, cond_true]
      by_cases c2 : l[j].2.2.1 < wr .i64 (s.2.2.1 + (s.2.1.2.2.1.length : Int))
      · simp only [bt c2]
        by_cases c3 : s.2.2.1 < wr .i64 (l[j].2.2.1 + (l[j].2.1.2.2.1.length : Int))
        · simp only [bt c3]; exact .ret
        · simp only [bf c3]; exact ih
      · simp only [bf c2]; exact ih
theorem typed_l1 (l : List ScT) (hs : scOk l) (r : List VT) (hr20 : r.length ≤ 20) (x : ExD) (i : Int) (s : ScT) (hsm : s ∈ l)
    (next : colsOk r s s.2.1.2.2.1.length → Ev2 (fun k n => law22_ExprTyped_l0 k n l r l (l.length : Int) (wr .i64 (i + 1)) x.1 x.2.1 x.2.2.1 x.2.2.2.1 x.2.2.2.2.1.1 x.2.2.2.2.1.2.1 x.2.2.2.2.1.2.2.1 x.2.2.2.2.2.1) (true, ())) :
    ∀ m j, j + m = s.2.1.2.2.1.length → colsOk r s j → Ev3 (fun k n n1 => law22_ExprTyped_l1 k n n1 l r l (l.length : Int) i s.2.1.2.2.1 (s.2.1.2.2.1.length : Int) (j : Int) x.1 x.2.1 x.2.2.1 x.2.2.2.1 x.2.2.2.2.1.1 x.2.2.2.2.1.2.1 x.2.2.2.2.1.2.2.1 x.2.2.2.2.2.1 s.1 s.2.1.1 s.2.1.2.1 s.2.1.2.2.1 s.2.1.2.2.2.1 s.2.1.2.2.2.2.1 s.2.2.1) (true, ())
  | 0, j, hj, hk => by
    have hj : j = s.2.1.2.2.1.length := by omega
    refine .up ?_
    simp only [law22_ExprTyped_l1_eq, bf (show ¬ (j : Int) < s.2.1.2.2.1.length by omega)]
    exact (typed_l2 l hs r x i s (next (hj ▸ hk)) l.length 0 (by omega)).dg.e3
  | m + 1, j, hj, hk => by
    have b := hs.2 s hsm
    have hx : s.2.1.2.2.1[j]? = some s.2.1.2.2.1[j] := List.getElem?_eq_getElem (by omega)
    have e : wr .i64 ((j : Int) + 1) = ((j + 1 : Nat) : Int) := wr_nx (show j < s.2.1.2.2.1.length by omega) (by omega)
    have ew : wr .i64 (s.2.2.1 + (j : Int)) = s.2.2.1 + j := wr_i64 (by omega)
    have ih := fun h => typed_l1 l hs r hr20 x i s hsm next m (j + 1) (by omega) h
    have up : (∀ v, r[(s.2.2.1 + (j : Int)).toNat]? = some v → v.1 = 0 ∨ v.1 = (s.2.1.2.2.1[j]).2.1) → colsOk r s (j + 1) := fun h n c hn hc v hv => by
      by_cases q : n = j
      · subst q
        rw [hx] at hc
        cases hc; exact h v hv
      · exact hk n c (by omega) hc v hv
    refine .up ?_
    simp only [law22_ExprTyped_l1_eq, bt (show (j : Int) < s.2.1.2.2.1.length by omega), nth_get hx, Option.bind_some, e, ew]
    by_cases c1 : s.2.2.1 + (j : Int) < r.length
    · have hlt : (s.2.2.1 + (j : Int)).toNat < r.length := by omega
      have e2 := List.getElem?_eq_getElem hlt
      have e3 : nth r (s.2.2.1 + (j : Int)) = some (r[(s.2.2.1 + (j : Int)).toNat]) := by unfold nth; rw [if_pos (by omega), e2]
      simp only [bt c1, e3, Option.bind_some]
      by_cases c2 : (r[(s.2.2.1 + (j : Int)).toNat]).1 = 0
      · simp only [dT c2, Bool.not_true, cond_false]
        refine ih (up fun v hv => ?_)
        rw [e2] at hv; cases hv; exact .inl c2
      · simp only [dF c2, Bool.not_false, cond_true]
        by_cases c3 : (r[(s.2.2.1 + (j : Int)).toNat]).1 = (s.2.1.2.2.1[j]).2.1
        · simp only [dT c3, Bool.not_true, cond_false]
          refine ih (up fun v hv => ?_)
          rw [e2] at hv; cases hv; exact .inr c3
        · simp only [dF c3, Bool.not_false, cond_true]; exact .ret
    · simp only [bf c1]
      refine ih (up fun v hv => ?_)
      rw [List.getElem?_eq_none (by omega)] at hv; cases hv
theorem typed_l0 (l : List ScT) (hs : scOk l) (hl : l.length ≤ 9223372036854775807) (hc : ∀ s ∈ l, s.2.1.2.2.1.length ≤ 9223372036854775807) (r : List VT) (hr20 : r.length ≤ 20) (x : ExD) (hx : Small (Ex.re x)) :
    ∀ m j, j + m = l.length → (∀ (i : Nat) s, i < j → l[i]? = some s → colsOk r s s.2.1.2.2.1.length) → Ev2 (fun k n => law22_ExprTyped_l0 k n l r l (l.length : Int) (j : Int) x.1 x.2.1 x.2.2.1 x.2.2.2.1 x.2.2.2.2.1.1 x.2.2.2.2.1.2.1 x.2.2.2.2.1.2.2.1 x.2.2.2.2.2.1) (true, ())
  | 0, j, hj, hk => by
    refine .up ?_
    simp only [law22_ExprTyped_l0_eq, bf (show ¬ (j : Int) < l.length by omega)]
    refine Ev.e2 (Ev2.dg (typed_l3 l hs hl hc r hr20 x hx (fun s hsm => ?_) r.length 0 (by omega) (fun n v hn => absurd hn (Nat.not_lt_zero _))))
    obtain ⟨i, hi, rfl⟩ := List.getElem_of_mem hsm
    exact hk i _ (by omega) (List.getElem?_eq_getElem hi)
  | m + 1, j, hj, hk => by
    have hx' : l[j]? = some l[j] := List.getElem?_eq_getElem (by omega)
    have e : wr .i64 ((j : Int) + 1) = ((j + 1 : Nat) : Int) := wr_nx (show j < l.length by omega) (by have := hs.1; omega)
    refine .up ?_
    simp only [law22_ExprTyped_l0_eq, bt (show (j : Int) < l.length by omega), nth_get hx', Option.bind_some]
    refine Ev3.dg (typed_l1 l hs r hr20 x (j : Int) l[j] (List.getElem_mem _) (fun h => ?_) _ 0 (Nat.zero_add _) (fun i c hi => absurd hi (Nat.not_lt_zero _)))
    rw [e]
    refine typed_l0 l hs hl hc r hr20 x hx m (j + 1) (by omega) fun i s hi hs' => ?_
    by_cases c : i = j
    · subst c
      rw [hx'] at hs'
      cases hs'; exact h
    · exact hk i s (by omega) hs'
theorem typed_core (l : List ScT) (x : ExD) (r : List VT) (hl : l.length ≤ 9223372036854775807) (hc : ∀ s ∈ l, s.2.1.2.2.1.length ≤ 9223372036854775807) (h3 : r.length ≤ 9223372036854775807) : ∃ k, law22_ExprTyped k l x r = some (true, ()) := by
  apply Ev.ex
  simp only [law22_ExprTyped_eq]
  refine Ev.bind awake22 ?_
  simp only [Bool.not_true, cond_false]
  obtain ⟨b0, s0, hb0⟩ := scoped_ex l hl hc
  refine Ev.bind hb0 ?_
  cases b0
  · exact Ev.ret
  simp only [Bool.not_true, cond_false]
  obtain ⟨b1, s1, hb1⟩ := light_ex (Ex.re x) 10
  refine Ev.bind hb1 ?_
  cases b1
  · exact Ev.ret
  simp only [Bool.not_true, cond_false]
  refine Ev.bind (few_ev' h3) ?_
  cases h : fewB r r
  · exact Ev.ret
  have h20 : r.length ≤ 20 := by
    unfold fewB at h
    rw [Bool.and_eq_true] at h
    exact of_decide_eq_true h.2
  simp only [Bool.not_true, cond_false]
  exact (typed_l0 l (s0 rfl) hl hc r h20 x (s1 rfl) l.length 0 (by omega) (fun i s hi => absurd hi (Nat.not_lt_zero _))).dg
abbrev TSc : Ty := .st (.pair .str (.pair (.st (.pair (.int .i64) (.pair .str (.pair (.sl (.st (.pair .str (.pair (.int .i64) (.pair .bool .unit))))) (.pair (.int .i64) (.pair (.sl (.int .i64)) .unit)))))) (.pair (.int .i64) .unit)))
theorem ExprTyped_true (l : List (TSc : Ty).D) (x : (.st (.pair (.int .i64) (.pair .str (.pair .str (.pair (.int .i64) (.pair TV3 (.pair (.sl .ex) .unit)))))) : Ty).D) (r : List (TV3 : Ty).D) (h1 : wfD (.sl TSc) l) (h2 : wfD (.st (.pair (.int .i64) (.pair .str (.pair .str (.pair (.int .i64) (.pair TV3 (.pair (.sl .ex) .unit))))))) x) (h3 : wfD (.sl TV3) r) :
    ∃ k, law22_ExprTyped k l x r = some (true, ()) := by
  refine typed_core l x r h1.1 (fun s hs => ?_) h3.1
  obtain ⟨_, ⟨_, _, q, _⟩, _⟩ := h1.2 s hs
  exact q.1
end Go.Proofs.Ytmngjegceoidhaa.Den
