import Derived.Test.YtjongebmeoimoaaDRowNone
import Derived.Test.YtjongebmeoimoaaDen32
namespace Go.Proofs.Ytjongebmeoimoaa.Den
open Go Go.RowKit
set_option linter.unusedVariables false
theorem bt {α : Type} {p : Prop} [Decidable p] {x y : α} (h : p) : (bif decide p then x else y) = x := by rw [decide_eq_true h]; rfl
theorem bf {α : Type} {p : Prop} [Decidable p] {x y : α} (h : ¬ p) : (bif decide p then x else y) = y := by rw [decide_eq_false h]; rfl
/-! ### Numbers in groups of seven bits -/
def wt : Nat → Nat → List Int
  | 0, _ => []
  | m + 1, n => (((n / 128 ^ (m + 1) % 128 + 128 : Nat)) : Int) :: wt m n
theorem wt_length : ∀ m n, (wt m n).length = m
  | 0, _ => rfl
  | m + 1, n => congrArg (· + 1) (wt_length m n)
def Grp (m n : Nat) : Prop := n / 128 ^ m < 128 ∧ ∀ i, i < m → 128 ≤ n / 128 ^ i
theorem grp_ex : ∀ (m n : Nat), n / 128 ^ m < 128 → ∃ i, i ≤ m ∧ Grp i n
  | 0, n, h => ⟨0, Nat.le_refl _, h, fun i hi => absurd hi (Nat.not_lt_zero _)⟩
  | m + 1, n, h => by
    by_cases c : n / 128 ^ m < 128
    · obtain ⟨i, h1, h2⟩ := grp_ex m n c
      exact ⟨i, by omega, h2⟩
    · refine ⟨m + 1, Nat.le_refl _, h, fun i hi => ?_⟩
      have h1 : 128 ^ i ≤ 128 ^ m := Nat.pow_le_pow_right (by decide) (by omega)
      have h2 : n / 128 ^ m ≤ n / 128 ^ i := Nat.div_le_div_left h1 (Nat.pow_pos (by decide))
      omega
theorem shr7 {u i : Nat} (hi : i ≤ 9) : shrK .u64 (u : Int) ((7 * i : Nat) : Int) = some (((u / 128 ^ i : Nat)) : Int) := by
  have hi : i = 0 ∨ i = 1 ∨ i = 2 ∨ i = 3 ∨ i = 4 ∨ i = 5 ∨ i = 6 ∨ i = 7 ∨ i = 8 ∨ i = 9 := by omega
  rcases hi with rfl | rfl | rfl | rfl | rfl | rfl | rfl | rfl | rfl | rfl <;> rfl
theorem or128 : ∀ y : Fin 256, Go.bits .or .u8 ((y.val : Nat) : Int) 128 = (((y.val % 128 + 128 : Nat)) : Int) := by decide +kernel
theorem not128 : ∀ y : Fin 256, Go.bits .andNot .u8 ((y.val : Nat) : Int) 128 = (((y.val % 128 : Nat)) : Int) := by decide +kernel
theorem or_is (x : Nat) : Go.bits .or .u8 (wr .u8 (x : Int)) 128 = (((x % 128 + 128 : Nat)) : Int) := by
  have := or128 ⟨x % 256, Nat.mod_lt _ (by decide)⟩
  rw [show wr .u8 (x : Int) = ((x % 256 : Nat) : Int) by rw [wrm_u8]; rfl]
  refine this.trans ?_
  show (((x % 256 % 128 + 128 : Nat)) : Int) = _
  omega
theorem not_is (x : Nat) : Go.bits .andNot .u8 (wr .u8 (x : Int)) 128 = (((x % 128 : Nat)) : Int) := by
  have := not128 ⟨x % 256, Nat.mod_lt _ (by decide)⟩
  rw [show wr .u8 (x : Int) = ((x % 256 : Nat) : Int) by rw [wrm_u8]; rfl]
  refine this.trans ?_
  show (((x % 256 % 128 : Nat)) : Int) = _
  omega
theorem w_l1 (k n : Nat) {u m : Nat} (hm : m ≤ 9) (h : Grp m u) (l : List Int) (a j : Int) (out : List Int) : ∀ n1 i, i ≤ m → m - i < n1 →
    row_Writer_N_l1 k n n1 (u : Int) ((7 * i : Nat) : Int) l a j out = row_Writer_N_l2 k n k (u : Int) ((7 * m : Nat) : Int) l a j out
  | 0, _, _, h => absurd h (Nat.not_lt_zero _)
  | n1 + 1, i, hi, hn => by
    rw [row_Writer_N_l1_eq, shr7 (by omega), Option.bind_some]
    by_cases c : i < m
    · have := h.2 i c
      rw [bt (by omega), wr_i64 (by omega)]
      exact w_l1 k n hm h l a j out n1 (i + 1) c (by omega)
    · have : i = m := by omega
      subst this
      have := h.1
      rw [bf (by omega)]
theorem w_l2 (k n : Nat) {u : Nat} (l : List Int) (a j : Int) : ∀ n1 i out, i ≤ 9 → i < n1 → out.length + i ≤ 1000000 →
    row_Writer_N_l2 k n n1 (u : Int) ((7 * i : Nat) : Int) l a j out = row_Writer_N_l0 k n l a (wr .i64 (j + 1)) (out ++ (wt i u ++ [((u % 128 : Nat) : Int)]))
  | 0, _, _, _, h, _ => absurd h (Nat.not_lt_zero _)
  | n1 + 1, 0, out, _, _, ho => by
    rw [row_Writer_N_l2_eq, bf (by simp), lim_ok (by simp; omega), not_is]
    rfl
  | n1 + 1, i + 1, out, hi, hn, ho => by
    rw [row_Writer_N_l2_eq, bt (by omega), shr7 (by omega), Option.bind_some, lim_ok (by simp; omega), or_is, wr_i64 (by omega)]
    have e : ((7 * (i + 1) : Nat) : Int) - 7 = ((7 * i : Nat) : Int) := by omega
    rw [e, w_l2 k n l a j n1 i _ (by omega) (by omega) (by simp; omega), List.append_assoc]
    rfl
theorem w_N (k : Nat) {u m : Nat} (hm : m ≤ 9) (h : Grp m u) (out : List Int) (ho : out.length + 10 ≤ 1000000) :
    row_Writer_N (k + 20) [(u : Int)] out = some ((), ((out ++ (wt m u ++ [((u % 128 : Nat) : Int)]), ()), ())) := by
  have h1 := w_l1 (k + 20) (k + 19) hm h [(u : Int)] 1 0 out (k + 20) 0 (by omega) (by omega)
  have h2 := w_l2 (k + 20) (k + 19) (u := u) [(u : Int)] 1 0 (k + 20) m out hm (by omega) (by omega)
  rw [row_Writer_N_eq]
  show row_Writer_N_l0 (k + 20) (k + 19 + 1) _ 1 _ _ = _
  rw [row_Writer_N_l0_eq, bt (by decide), show nth [(u : Int)] 0 = some (u : Int) from rfl, Option.bind_some]
  refine h1.trans (h2.trans ?_)
  show row_Writer_N_l0 (k + 20) (k + 18 + 1) _ _ _ _ = _
  rw [row_Writer_N_l0_eq, bf (by decide)]
theorem number_bad (k : Nat) : row_number (k + 20) [(128 : Int), (5 : Int)] = some (((0 : Int), ((0 : Int), ())), ()) := by
  rw [row_number_eq]
  show row_number_l0 (k + 20) (k + 19 + 1) _ _ _ _ = _
  rw [row_number_l0_eq]
  rfl
theorem awake03_is (k : Nat) : law03_awake (k + 20) = some (true, ()) := by
  have hg : Grp 1 300 := ⟨by decide, fun i hi => by
    have : i = 0 := by omega
    subst this; decide⟩
  rw [law03_awake_eq, show row_Writer_N (k + 20) [(300 : Int)] [] = _ from w_N k (u := 300) (by omega) hg [] (by simp), Option.bind_some, row_Writer_Bytes_eq, lim_ok (by simp [wt_length]), Option.bind_some, row_Read_eq, lim_ok (by simp), Option.bind_some]
  simp only [row_Reader_ok_eq, row_Reader_N_eq, row_Reader_fail_eq, row_Reader_End_eq, List.nil_append, number_bad, Option.bind_some, Bool.not_true, cond_false]
  decide +kernel
theorem vw_nil (v : Int × (Int × ((List Int) × Unit))) : row_Writer_Value_nil 1000 v = some ((), ()) := by
  have j0 := row_Writer_Value_nil_j0_eq 999
  have j1 := row_Writer_Value_nil_j1_eq 999
  rw [row_Writer_Value_nil_eq]
  simp only [row_Writer_N_nil_eq, row_Writer_I_nil_eq, num_Zig_eq, row_Writer_Text_nil_eq, Option.bind_some]
  cases decide (v.1 = 1) <;> cases decide (v.1 = 2) <;> simp only [cond_true, cond_false] <;> first | exact j0 | (refine (j1).trans ?_; exact j0)
theorem rn_nil (k : Nat) (a : Int) : row_Reader_N_nil k a = some ((0 : Int), ()) := by
  rw [row_Reader_N_nil_eq, row_Reader_ok_nil_eq]; rfl
theorem ri_nil (k : Nat) : row_Reader_I_nil k = some ((0 : Int), ()) := by
  rw [row_Reader_I_nil_eq, rn_nil, Option.bind_some, num_Zag_eq]
  decide +kernel
theorem rt_nil (k : Nat) (a : Int) : row_Reader_Text_nil k a = some ([], ()) := by
  rw [row_Reader_Text_nil_eq, row_Reader_fail_nil_eq, rn_nil, row_Reader_ok_nil_eq]
  cases decide (a < 0) <;> rfl
theorem rv_nil : row_Reader_Value_nil 1000 = some (((0 : Int), ((0 : Int), ([], ()))), (((0 : Int), ((0 : Int), ([], ()))), ())) := by
  have j0 := row_Reader_Value_nil_j0_eq 999
  have j1 := row_Reader_Value_nil_j1_eq 999
  rw [row_Reader_Value_nil_eq, rn_nil, Option.bind_some]
  rw [bif_false (by decide +kernel), bif_false (by decide +kernel)]
  refine (j1 _ _ _ _ _ _).trans ((j0 _ _ _ _ _ _).trans ?_)
  rw [row_Reader_ok_nil_eq]; rfl
theorem RowNone_true (a0 : Int) (l : List Int) (a2 : Int) (h0 : (Lit.int .u64 a0).wf = true) (h : ∀ x ∈ l, (Lit.int .u8 x).wf = true) (h2 : (Lit.int .i64 a2).wf = true) : law03_RowNone 1000 a0 l a2 = some (true, ()) := by
  rw [law03_RowNone_eq, awake03_is 980]
  simp only [Option.bind_some, Bool.not_true, cond_false]
  by_cases c : 300 < (l.length : Int)
  · rw [bt c]
  rw [bf c]
  simp only [row_Writer_N_nil_eq, row_Writer_I_nil_eq, num_Zig_eq, row_Writer_Text_nil_eq, row_Writer_Bytes_nil_eq, vw_nil, rn_nil, ri_nil, rt_nil, rv_nil, row_Reader_Left_nil_eq, row_Reader_End_nil_eq, row_Reader_ok_nil_eq, row_Reader_N_eq, row_Reader_ok_eq, row_Reader_End_eq, Option.bind_some, Bool.not_false, Bool.not_true, cond_true, cond_false]
  decide +kernel
end Go.Proofs.Ytjongebmeoimoaa.Den
