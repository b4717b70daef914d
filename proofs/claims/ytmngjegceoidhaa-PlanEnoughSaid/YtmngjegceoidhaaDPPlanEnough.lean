import Derived.Test.YtmngjegceoidhaaDPlanEnough
import Derived.Test.YtmngjegceoidhaaDen35
namespace Go.Proofs.Ytmngjegceoidhaa.Den
open Go Go.RowKit
set_option linter.unusedVariables false
attribute [local irreducible] bytes_Clone cat_Column cat_Column_j0 cat_Column_l0 cat_Column_l1 cat_Index cat_IndexKey cat_RowKey cat_Rows cat_at cat_column cat_under cat_whole cmp_Compare_int cmp_Compare_int64 cmp_isNaN_int cmp_isNaN_int64 expr_Bind expr_Bind_b expr_Bind_j0 expr_Bind_l0 expr_Eval expr_Eval_b expr_Eval_l0 expr_Holds expr_Sums expr_Sums_b expr_apply expr_apply_j0 expr_both expr_both_l0 expr_compare expr_compares expr_fits expr_kind expr_kind_l0 expr_literal expr_parts expr_parts_j0 expr_parts_j1 expr_parts_j2 expr_parts_j3 expr_parts_j4 expr_parts_j5 expr_place expr_reckon expr_sum expr_truth expr_truth_j0 expr_whole internal_bytealg_CompareString internal_bytealg_abigen_runtime_cmpstring law02_Few law02_Few_l0 law20_Light law20_Light_b law20_Light_l0 law21_Small law21_Small_l0 law23_PlanEnough law23_PlanEnough_j0 law23_PlanEnough_l0 law23_PlanEnough_l1 law23_PlanEnough_l2 law23_awake num_Add num_Div num_Flip num_Mod num_Mul num_Neg num_Put num_Put_l0 num_Sub num_kept num_least num_same okey_Less okey_Next okey_Next_l0 okey_Put okey_Put_j0 okey_Put_j1 okey_Put_j2 okey_Put_l0 okey_Put_l1 okey_order plan_Bounds plan_Bounds_j0 plan_Bounds_j1 plan_Bounds_j2 plan_Choose plan_Choose_l0 plan_Choose_l1 plan_Parts plan_Parts_b plan_bounded plan_bounded_j0 plan_bounded_j1 plan_bounded_l0 plan_is plan_turned plan_within plan_within_j0 plan_within_j1 ref01_Plain ref01_Within ref21_Scopes ref21_Scopes_l0 slices_ContainsFunc_Expr_Expr_expr_Sums slices_Contains_s_int_int slices_IndexFunc_Expr_Expr_expr_Sums slices_IndexFunc_Expr_Expr_expr_Sums_l0 slices_Index_s_int_int slices_Index_s_int_int_l0 strings_Compare
/-! ### Bytes of a number -/
def be : Nat → Nat → List Int
  | 0, _ => []
  | n + 1, u => ((u / 256 ^ n % 256 : Nat) : Int) :: be n u
theorem be_length : ∀ n u, (be n u).length = n
  | 0, _ => rfl
  | n + 1, u => congrArg (· + 1) (be_length n u)
theorem be_wf : ∀ n u x, x ∈ be n u → (Lit.int .u8 x).wf = true
  | n + 1, u, x, h => by
    rcases List.mem_cons.1 h with rfl | h
    · have := Nat.mod_lt (u / 256 ^ n) (show 0 < 256 by decide)
      simp [Lit.wf, IntKind.min, IntKind.max, IntKind.signed, IntKind.bits]; omega
    · exact be_wf n u x h
theorem mod_step (u n : Nat) : u % 256 ^ (n + 1) = u % 256 ^ n + 256 ^ n * (u / 256 ^ n % 256) := by
  rw [Nat.pow_succ]; exact Nat.mod_mul
theorem lt_step {p a b r s : Nat} (hr : r < p) (hs : s < p) : (decide (a < b) || (decide (a = b) && decide (r < s))) = decide (r + p * a < s + p * b) := by
  rcases Nat.lt_trichotomy a b with h | h | h
  · have h1 := Nat.mul_le_mul_left p (show a + 1 ≤ b from h)
    rw [Nat.mul_succ] at h1
    rw [decide_eq_true h, decide_eq_true (show r + p * a < s + p * b by omega)]; rfl
  · subst h
    simp
  · have h1 := Nat.mul_le_mul_left p (show b + 1 ≤ a from h)
    rw [Nat.mul_succ] at h1
    rw [decide_eq_false (show ¬ a < b by omega), decide_eq_false (show ¬ a = b by omega), decide_eq_false (show ¬ r + p * a < s + p * b by omega)]; rfl
theorem ltL_be : ∀ n u v, ltL (be n u) (be n v) = decide (u % 256 ^ n < v % 256 ^ n)
  | 0, _, _ => by simp [be, ltL, Nat.mod_one]
  | n + 1, u, v => by
    show (decide (((u / 256 ^ n % 256 : Nat) : Int) < ((v / 256 ^ n % 256 : Nat) : Int)) || (decide (((u / 256 ^ n % 256 : Nat) : Int) = ((v / 256 ^ n % 256 : Nat) : Int)) && ltL (be n u) (be n v))) = _
    rw [ltL_be n u v, mod_step, mod_step]
    have hp : 0 < 256 ^ n := Nat.pow_pos (by decide)
    rw [← lt_step (Nat.mod_lt u hp) (Nat.mod_lt v hp)]
    congr 2
    · simp only [Int.ofNat_lt]
    · simp only [Int.natCast_inj]
theorem be_eq {u v : Nat} : ∀ n, be n u = be n v → u % 256 ^ n = v % 256 ^ n
  | 0, _ => by simp [Nat.mod_one]
  | n + 1, h => by
    have h : ((u / 256 ^ n % 256 : Nat) : Int) :: be n u = ((v / 256 ^ n % 256 : Nat) : Int) :: be n v := h
    injection h with h1 h2
    rw [mod_step, mod_step, be_eq n h2, Int.natCast_inj.1 h1]
theorem beqL_be {u v : Nat} (hu : u < 18446744073709551616) (hv : v < 18446744073709551616) : beqL (be 8 u) (be 8 v) = decide (u = v) := by
  unfold beqL
  by_cases h : u = v
  · subst h; simp
  · have : ¬ be 8 u = be 8 v := fun e => h (by have := be_eq 8 e; omega)
    simp [h, this]
theorem shr_is {u j : Nat} (hj : j < 8) : shrK .u64 (u : Int) (wr .i64 (8 * (j : Int))) = some (((u / 256 ^ j : Nat)) : Int) := by
  rw [wr_i64 (by omega)]
  have hj : j = 0 ∨ j = 1 ∨ j = 2 ∨ j = 3 ∨ j = 4 ∨ j = 5 ∨ j = 6 ∨ j = 7 := by omega
  rcases hj with rfl | rfl | rfl | rfl | rfl | rfl | rfl | rfl <;> rfl
theorem set_last (m : Nat) (l : List Int) (x : Int) : (List.replicate (m + 1) (0 : Int) ++ l).set m x = List.replicate m 0 ++ x :: l := by
  rw [List.replicate_succ', List.append_assoc, List.set_append_right _ _ (by simp)]
  simp
theorem put_loop (k : Nat) {u w : Nat} (hw : w ≤ 8) : ∀ n j, j ≤ w → w - j < n → num_Put_l0 k n (u : Int) (w : Int) (w : Int) (j : Int) (List.replicate (w - j) 0 ++ be j u) = some (be w u, ())
  | 0, _, _, h => absurd h (Nat.not_lt_zero _)
  | n + 1, j, hj, hn => by
    rw [num_Put_l0_eq]
    by_cases c : j < w
    · obtain ⟨m, hm⟩ : ∃ m, w - j = m + 1 := ⟨w - j - 1, by omega⟩
      have e1 : wr .i64 (wr .i64 ((w : Int) - 1) - (j : Int)) = (m : Int) := by
        rw [wr_i64 (n := (w : Int) - 1) (by omega), wr_i64 (by omega)]; omega
      have hlen : (List.replicate (w - j) (0 : Int) ++ be j u).length = w := by simp [be_length]; omega
      have e2 : wr .u8 (((u / 256 ^ j : Nat)) : Int) = ((u / 256 ^ j % 256 : Nat) : Int) := by rw [wrm_u8]; rfl
      rw [bif_true (by simp; omega), shr_is (by omega), Option.bind_some, e1, hlen, must_true (by unfold inI; simp; omega), must_true (by simp [Nat.blt]; omega), e2, wr_i64 (by omega), hm, Int.toNat_natCast, set_last]
      have ih := put_loop k (u := u) hw n (j + 1) c (by omega)
      have e3 : w - (j + 1) = m := by omega
      rw [e3] at ih
      exact ih
    · have : j = w := by omega
      subst this
      rw [bif_false (by simp)]
      simp
theorem num_Put_is (k : Nat) {u w : Nat} (hw : w ≤ 8) : num_Put (k + 10) (u : Int) (w : Int) = some (be w u, ()) := by
  rw [num_Put_eq, bif_false (by simp), bif_false (by simp; omega), must_true (by simp [beqI]), Int.toNat_natCast, lim_ok (by omega)]
  have := put_loop (k + 10) (u := u) hw (k + 10) 0 (by omega) (by omega)
  simpa [be] using this
/-! ### Keys -/
abbrev ValT := Int × (Int × ((List Int) × Unit))
def esc (s : List Int) : List Int := s.flatMap fun x => if x = 0 then [x, 255] else [x]
def encV (v : ValT) : List Int := if v.1 = 1 then 2 :: be 8 (v.2.1 + 9223372036854775808).toNat else if v.1 = 2 then 3 :: (esc v.2.2.1 ++ [0, 1]) else [1]
theorem esc_cons (x : Int) (s : List Int) : esc (x :: s) = (if x = 0 then [x, 255] else [x]) ++ esc s := rfl
theorem esc_length : ∀ s : List Int, (esc s).length ≤ 2 * s.length
  | [] => by simp [esc]
  | x :: s => by
    have := esc_length s
    rw [esc_cons]
    split <;> simp <;> omega
def valOk (v : ValT) : Prop := (-9223372036854775808 ≤ v.2.1 ∧ v.2.1 ≤ 9223372036854775807) ∧ v.2.2.1.length ≤ 400
theorem encV_length {v : ValT} (h : valOk v) : (encV v).length ≤ 1000 := by
  have := esc_length v.2.2.1
  have := h.2
  unfold encV
  split
  · simp [be_length]
  · split <;> simp <;> omega
theorem oFlip_is (k : Nat) {a : Int} (h : -9223372036854775808 ≤ a ∧ a ≤ 9223372036854775807) : num_Flip k a = some (a + 9223372036854775808, ()) := by
  rw [num_Flip_eq]
  unfold wr
  rw [flip_eq h]
theorem oPut_l1 (k n : Nat) (l : List ValT) (len j : Int) (c : Bool) {s : List Int} (hs : s.length ≤ 400) : ∀ n1 i b out, i ≤ s.length → s.length - i < n1 → List.length out + 2 * (s.length - i) ≤ 60000000 →
    okey_Put_l1 (k + 1) n n1 b out l len j c s (s.length : Int) (i : Int) = okey_Put_j2 (k + 1) n false (out ++ (esc (s.drop i) ++ [0, 1])) l len j
  | 0, _, _, _, _, h, _ => absurd h (Nat.not_lt_zero _)
  | n1 + 1, i, b, out, hi, hn, ho => by
    rw [okey_Put_l1_eq]
    by_cases d : i < s.length
    · have hx := List.getElem?_eq_getElem d
      have hd : s.drop i = s[i] :: s.drop (i + 1) := List.drop_eq_getElem_cons d
      rw [bt (by omega), nth_get hx, Option.bind_some, lim_ok (by simp; omega), hd, esc_cons]
      by_cases e : s[i] = 0
      · rw [bt e, if_pos e, lim_ok (by simp; omega), okey_Put_j1_eq, wr_next d (by omega)]
        refine (oPut_l1 k n l len j c hs n1 (i + 1) ((b && [s[i]].isEmpty) && [(255 : Int)].isEmpty) ((out ++ [s[i]]) ++ [(255 : Int)]) d (by omega) (by simp; omega)).trans ?_
        simp
      · rw [bf e, if_neg e, okey_Put_j1_eq, wr_next d (by omega)]
        refine (oPut_l1 k n l len j c hs n1 (i + 1) (b && [s[i]].isEmpty) (out ++ [s[i]]) d (by omega) (by simp; omega)).trans ?_
        simp
    · have : i = s.length := by omega
      subst this
      rw [bf (by omega), lim_ok (by simp; omega), List.drop_length, show (b && [(0 : Int), (1 : Int)].isEmpty) = false from Bool.and_false b]
      rfl
theorem oPut_loop (k : Nat) {l : List ValT} (hl : ∀ v ∈ l, valOk v) (hlen : l.length ≤ 400) : ∀ n j b out, j ≤ l.length → l.length - j < n → List.length out + 1000 * (l.length - j) ≤ 50000000 →
    okey_Put_l0 (k + 500) n b out l (l.length : Int) (j : Int) = some ((b && (l.drop j).isEmpty, out ++ (l.drop j).flatMap encV), ())
  | 0, _, _, _, _, h, _ => absurd h (Nat.not_lt_zero _)
  | n + 1, j, b, out, hj, hn, ho => by
    rw [okey_Put_l0_eq]
    by_cases d : j < l.length
    · have hx := List.getElem?_eq_getElem d
      have hd : l.drop j = l[j] :: l.drop (j + 1) := List.drop_eq_getElem_cons d
      have hv := hl _ (List.getElem_mem d)
      have hle := encV_length hv
      rw [bt (by omega), nth_get hx, Option.bind_some, hd, List.flatMap_cons, show ∀ x : ValT, (b && (x :: l.drop (j + 1)).isEmpty) = false from fun _ => Bool.and_false b]
      generalize l[j] = v at *
      have next : okey_Put_j0 (k + 500) n false (out ++ encV v) l (l.length : Int) (j : Int) = some ((false, out ++ (encV v ++ (l.drop (j + 1)).flatMap encV)), ()) := by
        show okey_Put_j0 (k + 499 + 1) n _ _ _ _ _ = _
        rw [okey_Put_j0_eq, wr_next d (by omega)]
        have := oPut_loop k hl hlen n (j + 1) false (out ++ encV v) d (by omega) (by simp; omega)
        rw [List.append_assoc] at this
        exact this
      have next2 : okey_Put_j2 (k + 500) n false (out ++ encV v) l (l.length : Int) (j : Int) = some ((false, out ++ (encV v ++ (l.drop (j + 1)).flatMap encV)), ()) := by
        show okey_Put_j2 (k + 499 + 1) n _ _ _ _ _ = _
        rw [okey_Put_j2_eq]
        exact next
      by_cases c1 : v.1 = 1
      · have he : encV v = 2 :: be 8 (v.2.1 + 9223372036854775808).toNat := if_pos c1
        obtain ⟨u, hu⟩ := Int.eq_ofNat_of_zero_le (show 0 ≤ v.2.1 + 9223372036854775808 by have := hv.1; omega)
        rw [bt c1, lim_ok (by simp; omega), oFlip_is _ hv.1, Option.bind_some, hu, show num_Put (k + 500) (u : Int) (8 : Int) = _ from num_Put_is (k + 490) (u := u) (w := 8) (by omega), Option.bind_some, lim_ok (by simp [be_length]; omega)]
        have e2 : (out ++ [(2 : Int)]) ++ be 8 u = out ++ encV v := by rw [he, hu]; simp
        rw [e2, show ((b && [(2 : Int)].isEmpty) && (be 8 u).isEmpty) = false by simp]
        exact next
      rw [bf c1]
      by_cases c2 : v.1 = 2
      · have he : encV v = 3 :: (esc v.2.2.1 ++ [0, 1]) := by unfold encV; rw [if_neg c1, if_pos c2]
        have hs := hv.2
        have h := oPut_l1 (k + 499) n l (l.length : Int) (j : Int) false hs (k + 500) 0 (b && [(3 : Int)].isEmpty) (out ++ [(3 : Int)]) (by omega) (by omega) (by simp; omega)
        rw [bt c2, lim_ok (by simp; omega)]
        refine h.trans ?_
        have e2 : (out ++ [(3 : Int)]) ++ (esc (v.2.2.1.drop 0) ++ [0, 1]) = out ++ encV v := by rw [he]; simp
        rw [e2]
        exact next2
      · have he : encV v = [1] := by unfold encV; rw [if_neg c1, if_neg c2]
        rw [bf c2, lim_ok (by simp; omega), ← he, show (b && (encV v).isEmpty) = false by rw [he]; exact Bool.and_false b]
        exact next2
    · have : j = l.length := by omega
      subst this
      rw [bf (by omega), List.drop_length]
      simp
theorem okey_Put_is (k : Nat) {l : List ValT} (hl : ∀ v ∈ l, valOk v) (hlen : l.length ≤ 400) : okey_Put (k + 500) l = some ((l.isEmpty, l.flatMap encV), ()) := by
  rw [okey_Put_eq]
  have := oPut_loop k hl hlen (k + 500) 0 true [] (by omega) (by omega) (by simp; omega)
  simpa using this
/-! ### The next bytes -/
def nx : List Int → List Int
  | [] => []
  | x :: r => match nx r with
    | [] => if x = 255 then [] else [x + 1]
    | y :: t => x :: y :: t
theorem nx_n {x : Int} {r : List Int} (h : nx r = []) : nx (x :: r) = if x = 255 then [] else [x + 1] := by
  conv => lhs; unfold nx
  rw [h]
theorem nx_k {x y : Int} {r s : List Int} (h : nx r = y :: s) : nx (x :: r) = x :: nx r := by
  conv => lhs; unfold nx
  rw [h]
theorem nx_255 : ∀ l, nx (l ++ [255]) = nx l
  | [] => rfl
  | x :: r => by
    show (match nx (r ++ [255]) with | [] => if x = 255 then [] else [x + 1] | y :: t => x :: y :: t) = _
    rw [nx_255 r]; rfl
theorem nx_c {c : Int} (hc : c ≠ 255) : ∀ l, nx (l ++ [c]) = l ++ [c + 1]
  | [] => if_neg hc
  | x :: r => by
    show (match nx (r ++ [c]) with | [] => if x = 255 then [] else [x + 1] | y :: t => x :: y :: t) = _
    rw [nx_c hc r]
    cases r <;> rfl
abbrev Byt (l : List Int) : Prop := ∀ x ∈ l, (Lit.int .u8 x).wf = true
theorem take_snoc {l : List Int} {j : Nat} (h : j < l.length) : l.take (j + 1) = l.take j ++ [l[j]] := List.take_succ_eq_append_getElem h
theorem okNext_l0 (k : Nat) {b : Bool} {l : List Int} (hb : b = true → l = []) (hl : l.length ≤ 1000000) (hw : Byt l) : ∀ n j, j ≤ l.length → j < n → okey_Next_l0 k n b l ((j : Int) - 1) = some (nx (l.take j), ())
  | 0, _, _, h => absurd h (Nat.not_lt_zero _)
  | n + 1, 0, _, _ => by
    rw [okey_Next_l0_eq, bf (by omega)]; rfl
  | n + 1, j + 1, hj, hn => by
    have hlt : j < l.length := hj
    have e : ((j + 1 : Nat) : Int) - 1 = (j : Int) := by omega
    rw [e, okey_Next_l0_eq, bt (by omega), nth_get (List.getElem?_eq_getElem hlt), Option.bind_some, take_snoc hlt]
    have hx := wf_u8 (hw _ (List.getElem_mem hlt))
    by_cases c : l[j] = 255
    · rw [bif_false (by simp [c]), c, nx_255, wr_i64 (by omega)]
      exact okNext_l0 k hb hl hw n j (by omega) (by omega)
    · have hb0 : b = false := by
        cases b with
        | false => rfl
        | true => have := hb rfl; subst this; simp at hlt
      have ht : (l.take (j + 1)).length = j + 1 := by simp; omega
      have hg : (l.take (j + 1))[j]? = some l[j] := by rw [List.getElem?_take_of_lt (by omega)]; exact List.getElem?_eq_getElem hlt
      rw [bif_true (by simp [c]), nx_c c, wr_next hlt (by omega), cut_all (by omega), Option.bind_some, bytes_Clone_eq, hb0, bif_false rfl, ht, lim_ok (by omega), Option.bind_some]
      show must (inI (j : Int) (l.take (j + 1)).length) (((l.take (j + 1))[(j : Int).toNat]?).bind _) = _
      rw [Int.toNat_natCast, hg, Option.bind_some, ht, must_true (inI_t (by omega) (by omega)), must_true (inI_t (by omega) (by omega)), must_true (blt_t (by omega)), wr_u8 (by omega), take_snoc hlt, List.set_append_right _ _ (by simp; omega)]
      have : j - (l.take j).length = 0 := by simp; omega
      rw [this]; rfl
theorem okNext_ev {b : Bool} {l : List Int} (hb : b = true → l = []) (hl : l.length ≤ 1000000) (hw : Byt l) : Ev (fun k => okey_Next k b l) (nx l, ()) := by
  refine ⟨l.length + 1, fun k hk => ?_⟩
  show okey_Next k b l = _
  rw [okey_Next_eq]
  show okey_Next_l0 k k b l (wr .i64 ((l.length : Int) - 1)) = _
  rw [wr_i64 (by omega), okNext_l0 k hb hl hw k l.length (by omega) (by omega), List.take_length]

/-! ### The order of bytes -/
theorem cmp_lt : ∀ a b, (cmpL a b < 0) ↔ ltL a b = true
  | [], [] => by simp [cmpL, ltL]
  | [], _ :: _ => by simp [cmpL, ltL]
  | _ :: _, [] => by simp [cmpL, ltL]
  | a :: x, b :: y => by
    have ih := cmp_lt x y
    unfold cmpL ltL
    by_cases h : a < b
    · simp [h]
    · by_cases h2 : b < a
      · have : ¬ a = b := by omega
        simp [h, h2, this]
      · have : a = b := by omega
        simp [this, ih]
theorem ltL_asym : ∀ a b, ltL a b = true → ltL b a = false
  | [], [], _ => rfl
  | [], _ :: _, _ => rfl
  | _ :: _, [], h => by simp [ltL] at h
  | a :: x, b :: y, h => by
    simp only [ltL, Bool.or_eq_true, Bool.and_eq_true, decide_eq_true_eq] at h
    simp only [ltL, Bool.or_eq_false_iff, Bool.and_eq_false_iff, decide_eq_false_iff_not]
    rcases h with h | ⟨h, h2⟩
    · exact ⟨by omega, .inl (by omega)⟩
    · exact ⟨by omega, .inr (ltL_asym x y h2)⟩
theorem ltL_irr : ∀ a, ltL a a = false
  | [] => rfl
  | x :: r => by simp [ltL, ltL_irr r]
theorem ltL_app : ∀ p t, ltL (p ++ t) p = false
  | [], t => by cases t <;> rfl
  | x :: r, t => by simp [ltL, ltL_app r t]
theorem ltL_nx : ∀ p t, nx p ≠ [] → ltL (p ++ t) (nx p) = true
  | [], _, h => absurd rfl h
  | x :: r, t, h => by
    cases hn : nx r with
    | nil =>
      rw [nx_n hn] at h ⊢
      by_cases hx : x = 255
      · rw [if_pos hx] at h; exact absurd rfl h
      · rw [if_neg hx]
        have : x < x + 1 := by omega
        simp [ltL, this]
    | cons y s =>
      rw [nx_k hn]
      have := ltL_nx r t (by rw [hn]; simp)
      simp [ltL, this]
theorem pre_of_nx : ∀ r s, Byt s → nx r = [] → Byt r → ltL s r = false → ∃ t, s = r ++ t
  | [], s, _, _, _, _ => ⟨s, rfl⟩
  | x :: r, s, hs, hn, hr, hl => by
    have h1 : nx r = [] := by
      cases h : nx r with
      | nil => rfl
      | cons y t => unfold nx at hn; rw [h] at hn; simp at hn
    have h2 : x = 255 := by
      unfold nx at hn; rw [h1] at hn
      by_cases hx : x = 255
      · exact hx
      · simp [hx] at hn
    cases s with
    | nil => simp [ltL] at hl
    | cons c s =>
      have hc := wf_u8 (hs c List.mem_cons_self)
      simp [ltL] at hl
      obtain ⟨l1, l2⟩ := hl
      have hc2 : c = x := by omega
      obtain ⟨t, ht⟩ := pre_of_nx r s (fun y hy => hs y (List.mem_cons_of_mem _ hy)) h1 (fun y hy => hr y (List.mem_cons_of_mem _ hy)) (l2 hc2)
      exact ⟨t, by rw [ht, hc2]; rfl⟩
theorem nx_out : ∀ p a, Byt a → Byt p → nx p ≠ [] → ltL a p = false → (¬ ∃ t, a = p ++ t) → ltL a (nx p) = false
  | [], a, _, _, h, _, _ => absurd rfl h
  | x :: r, [], _, _, _, h, _ => by simp [ltL] at h
  | x :: r, c :: s, ha, hp, hne, hl, hno => by
    have hs : Byt s := fun y hy => ha y (List.mem_cons_of_mem _ hy)
    have hr : Byt r := fun y hy => hp y (List.mem_cons_of_mem _ hy)
    simp [ltL] at hl
    obtain ⟨l1, l2⟩ := hl
    have hno2 : c = x → ¬ ∃ t, s = r ++ t := fun e ⟨t, ht⟩ => hno ⟨t, by rw [ht, e]; rfl⟩
    cases hn : nx r with
    | nil =>
      rw [nx_n hn] at hne ⊢
      by_cases hx : x = 255
      · rw [if_pos hx] at hne; exact absurd rfl hne
      · rw [if_neg hx]
        have hcx : c ≠ x := fun e => hno2 e (pre_of_nx r s hs hn hr (l2 e))
        have : ¬ c < x + 1 := by omega
        cases s <;> simp [ltL, this]
    | cons y t =>
      rw [nx_k hn]
      simp only [ltL, Bool.or_eq_false_iff, Bool.and_eq_false_iff, decide_eq_false_iff_not]
      refine ⟨by omega, ?_⟩
      by_cases hc : c = x
      · exact .inr (nx_out r s hs hr (by rw [hn]; simp) (l2 hc) (hno2 hc))
      · exact .inl hc
theorem encV_bytes {v : ValT} (hv : valOk v) (hw : ∀ x ∈ v.2.2.1, (Lit.int .u8 x).wf = true) : ∀ x ∈ encV v, (Lit.int .u8 x).wf = true := by
  have he : ∀ x ∈ esc v.2.2.1, (Lit.int .u8 x).wf = true := by
    intro x hx
    obtain ⟨y, hy, hxy⟩ := List.mem_flatMap.1 hx
    have := hw y hy
    split at hxy
    · simp at hxy
      rcases hxy with rfl | rfl
      · exact this
      · decide
    · simp at hxy; subst hxy; exact this
  intro x hx
  unfold encV at hx
  split at hx
  · rcases List.mem_cons.1 hx with rfl | hx
    · decide
    · exact be_wf _ _ x hx
  · split at hx
    · rcases List.mem_cons.1 hx with rfl | hx
      · decide
      · rcases List.mem_append.1 hx with hx | hx
        · exact he x hx
        · simp at hx; rcases hx with rfl | rfl <;> decide
    · simp at hx; subst hx; decide
theorem flat_len : ∀ l : List ValT, (∀ v ∈ l, valOk v) → (l.flatMap encV).length ≤ 1000 * l.length
  | [], _ => by simp
  | v :: l, hv => by
    have := encV_length (hv v List.mem_cons_self)
    have ih := flat_len l fun w hw => hv w (List.mem_cons_of_mem _ hw)
    rw [List.flatMap_cons, List.length_append, List.length_cons]
    omega
theorem put_ev {l : List ValT} (hl : ∀ v ∈ l, valOk v) (hlen : l.length ≤ 400) : Ev (fun k => okey_Put k l) ((l.isEmpty, l.flatMap encV), ()) := .from 500 fun k => okey_Put_is k hl hlen
/-! ### Keys of tables -/
abbrev TabT := Int × ((List Int) × ((List ((List Int) × (Int × (Bool × Unit)))) × (Int × ((List Int) × Unit))))
def wv (n : Int) : ValT := (1, (n, ([], ())))
def zv : ValT := (0, (0, ([], ())))
def I64 (n : Int) : Prop := -9223372036854775808 ≤ n ∧ n ≤ 9223372036854775807
theorem wv_ok {n : Int} (h : I64 n) : valOk (wv n) := ⟨h, by show ([] : List Int).length ≤ 400; simp⟩
theorem zv_ok : valOk zv := ⟨by constructor <;> decide, by show ([] : List Int).length ≤ 400; simp⟩
def atV (r : List ValT) (i : Int) : ValT := if i < 0 then zv else (r[i.toNat]?).getD zv
theorem at_is (k : Nat) (r : List ValT) (i : Int) : cat_at k r i = some (atV r i, (atV r i, ())) := by
  rw [cat_at_eq]
  unfold atV
  by_cases c : i < 0
  · rw [bt c, if_pos c]; rfl
  · rw [bf c, if_neg c]
    obtain ⟨j, rfl⟩ := Int.eq_ofNat_of_zero_le (show 0 ≤ i by omega)
    rw [Int.toNat_natCast]
    by_cases d : j < r.length
    · rw [bf (by omega), nth_get (List.getElem?_eq_getElem d), Option.bind_some, List.getElem?_eq_getElem d]; rfl
    · rw [bt (by omega), List.getElem?_eq_none (by omega)]; rfl
theorem atV_ok {r : List ValT} (h : ∀ v ∈ r, valOk v) (i : Int) : valOk (atV r i) := by
  unfold atV
  split
  · exact zv_ok
  · cases e : r[i.toNat]? with
    | none => exact zv_ok
    | some v => exact h v (List.mem_of_getElem? e)
theorem atV_get {r : List ValT} {j : Nat} (h : j < r.length) : atV r (j : Int) = r[j] := by
  unfold atV
  rw [if_neg (by omega), Int.toNat_natCast, List.getElem?_eq_getElem h]; rfl
def trowK (t : TabT) (r : List ValT) : List Int := [wv t.1, wv 0, atV r t.2.2.2.1].flatMap encV
theorem rowkey_ev {t : TabT} (ht : I64 t.1) {r : List ValT} (hr : ∀ v ∈ r, valOk v) : Ev (fun k => cat_RowKey k t r) (trowK t r, ()) := by
  simp only [cat_RowKey_eq, cat_whole_eq, at_is, Option.bind_some]
  refine .bind (F := fun k => okey_Put k [wv t.1, wv 0, atV r t.2.2.2.1]) (put_ev (by
    intro v hv
    simp only [List.mem_cons, List.not_mem_nil, or_false] at hv
    rcases hv with rfl | rfl | rfl
    · exact wv_ok ht
    · exact wv_ok (by constructor <;> decide)
    · exact atV_ok hr _) (by simp)) .ret
def idxV (t : TabT) (i : Int) : Option Int := if i < 0 then none else t.2.2.2.2.1[i.toNat]?
theorem column_is (k : Nat) (t : TabT) (i : Int) : cat_column k t i = some (((idxV t i).getD 0, ((idxV t i).isSome, ())), ()) := by
  rw [cat_column_eq]
  unfold idxV
  by_cases c : i < 0
  · rw [bt c, if_pos c]; rfl
  · rw [bf c, if_neg c]
    obtain ⟨j, rfl⟩ := Int.eq_ofNat_of_zero_le (show 0 ≤ i by omega)
    rw [Int.toNat_natCast]
    by_cases d : j < t.2.2.2.2.1.length
    · rw [bf (by omega), nth_get (List.getElem?_eq_getElem d), Option.bind_some, List.getElem?_eq_getElem d]; rfl
    · rw [bt (by omega), List.getElem?_eq_none (by omega)]; rfl
theorem idx_lt {t : TabT} {i c : Int} (h : idxV t i = some c) : 0 ≤ i ∧ i < t.2.2.2.2.1.length := by
  unfold idxV at h
  split at h
  · cases h
  · have := (List.getElem?_eq_some_iff.1 h).1
    omega
def tundK (t : TabT) (n : Int) : List Int := [wv t.1, wv n].flatMap encV
theorem enc_byt_w {n : Int} (h : I64 n) : Byt (encV (wv n)) := encV_bytes (wv_ok h) (fun x hx => by cases hx)
theorem tundK_byt {t : TabT} (ht : I64 t.1) {n : Int} (hn : I64 n) : Byt (tundK t n) := by
  intro x hx
  obtain ⟨v, hv, hx⟩ := List.mem_flatMap.1 hx
  simp only [List.mem_cons, List.not_mem_nil, or_false] at hv
  rcases hv with rfl | rfl
  · exact enc_byt_w ht x hx
  · exact enc_byt_w hn x hx
theorem encV_ne0 (v : ValT) : encV v ≠ [] := by
  unfold encV
  split
  · simp
  · split <;> simp
theorem under_ev {t : TabT} (ht : I64 t.1) {n : Int} (hn : I64 n) : Ev (fun k => cat_under k t n) ((tundK t n, (nx (tundK t n), ())), ((tundK t n, (nx (tundK t n), ())), ())) := by
  simp only [cat_under_eq, cat_whole_eq, Option.bind_some]
  have hv : ∀ v ∈ [wv t.1, wv n], valOk v := by
    intro v hv
    simp only [List.mem_cons, List.not_mem_nil, or_false] at hv
    rcases hv with rfl | rfl
    · exact wv_ok ht
    · exact wv_ok hn
  have hlen := flat_len _ hv
  refine .bind (F := fun k => okey_Put k [wv t.1, wv n]) (put_ev hv (by simp)) ?_
  refine .bind (F := fun k => okey_Next k ([wv t.1, wv n].isEmpty) (tundK t n)) (okNext_ev (fun h => by cases h) (by unfold tundK; simp at hlen ⊢; omega) (tundK_byt ht hn)) .ret
theorem rows_ev {t : TabT} (ht : I64 t.1) : Ev (fun k => cat_Rows k t) ((tundK t 0, (nx (tundK t 0), ())), ((tundK t 0, (nx (tundK t 0), ())), ())) := by
  simp only [cat_Rows_eq]
  exact .bind (F := fun k => cat_under k t 0) (under_ev ht (by constructor <;> decide)) .ret
def indS (t : TabT) (i : Int) : List Int × (List Int × Unit) := match idxV t i with
  | none => ([], ([], ()))
  | some _ => (tundK t (i + 1), (nx (tundK t (i + 1)), ()))
theorem index_ev {t : TabT} (ht : I64 t.1) (hl : t.2.2.2.2.1.length ≤ 1000) (i : Int) : Ev (fun k => cat_Index k t i) (indS t i, (indS t i, ())) := by
  simp only [cat_Index_eq]
  have hc : ∀ k, cat_column k (t.1, (t.2.1, (t.2.2.1, (t.2.2.2.1, (t.2.2.2.2.1, ()))))) i = some (((idxV t i).getD 0, ((idxV t i).isSome, ())), ()) := fun k => column_is k t i
  simp only [hc, Option.bind_some]
  unfold indS
  cases hi : idxV t i with
  | none => exact .ret
  | some c =>
    have hlt := idx_lt hi
    simp only [Option.isSome_some, Bool.not_true, cond_false]
    rw [wr_i64 (by omega)]
    exact .bind (F := fun k => cat_under k t (i + 1)) (under_ev ht ⟨by omega, by omega⟩) .ret
def tidxK (t : TabT) (i : Int) (r : List ValT) : List Int := match idxV t i with
  | none => []
  | some c => [wv t.1, wv (i + 1), atV r c, atV r t.2.2.2.1].flatMap encV
theorem idxkey_ev {t : TabT} (ht : I64 t.1) (hl : t.2.2.2.2.1.length ≤ 1000) {r : List ValT} (hr : ∀ v ∈ r, valOk v) (i : Int) : Ev (fun k => cat_IndexKey k t i r) (tidxK t i r, ()) := by
  simp only [cat_IndexKey_eq]
  have hc : ∀ k, cat_column k (t.1, (t.2.1, (t.2.2.1, (t.2.2.2.1, (t.2.2.2.2.1, ()))))) i = some (((idxV t i).getD 0, ((idxV t i).isSome, ())), ()) := fun k => column_is k t i
  simp only [hc, Option.bind_some]
  unfold tidxK
  cases hi : idxV t i with
  | none => exact .ret
  | some c =>
    have hlt := idx_lt hi
    simp only [Option.isSome_some, Bool.not_true, cond_false, Option.getD_some, cat_whole_eq, at_is, Option.bind_some]
    rw [wr_i64 (by omega)]
    refine .bind (F := fun k => okey_Put k [wv t.1, wv (i + 1), atV r c, atV r t.2.2.2.1]) (put_ev (by
      intro v hv
      simp only [List.mem_cons, List.not_mem_nil, or_false] at hv
      rcases hv with rfl | rfl | rfl | rfl
      · exact wv_ok ht
      · exact wv_ok ⟨by omega, by omega⟩
      · exact atV_ok hr _
      · exact atV_ok hr _) (by simp)) .ret
def smallB (t : TabT) (r : List ((List Int) × (Int × (Bool × Unit)))) : Bool := r.all (fun c => decide (c.1.length ≤ 100)) && (decide (t.2.2.1.length ≤ 14) && (decide (t.2.2.2.2.1.length ≤ 6) && decide (t.2.1.length ≤ 100)))
theorem small_l0 (k : Nat) {t : TabT} (hm : t.2.2.1.length ≤ 9223372036854775807) : ∀ n j, j ≤ t.2.2.1.length → t.2.2.1.length - j < n → law21_Small_l0 k n t.2.2.1 (t.2.2.1.length : Int) (j : Int) t.1 t.2.1 t.2.2.1 t.2.2.2.1 t.2.2.2.2.1 = some (smallB t (t.2.2.1.drop j), ())
  | 0, _, _, h => absurd h (Nat.not_lt_zero _)
  | n + 1, j, hj, hn => by
    rw [law21_Small_l0_eq]
    by_cases c : j < t.2.2.1.length
    · have hx := List.getElem?_eq_getElem c
      rw [bt (by omega), nth_get hx, Option.bind_some, List.drop_eq_getElem_cons c]
      by_cases c1 : 100 < (t.2.2.1[j].1.length : Int)
      · rw [bt c1, show smallB t (t.2.2.1[j] :: t.2.2.1.drop (j + 1)) = false from by unfold smallB; rw [List.all_cons, dF (by omega)]; rfl]
      rw [bf c1, wr_i64 (by omega)]
      refine (small_l0 k hm n (j + 1) c (by omega)).trans ?_
      rw [show smallB t (t.2.2.1[j] :: t.2.2.1.drop (j + 1)) = smallB t (t.2.2.1.drop (j + 1)) from by unfold smallB; rw [List.all_cons, dT (p := t.2.2.1[j].1.length ≤ 100) (by omega)]; rfl]
    · have : j = t.2.2.1.length := by omega
      subst this
      rw [bf (by omega), List.drop_length]
      unfold smallB
      by_cases h1 : t.2.2.1.length ≤ 14
      · rw [bt (by omega), dT h1]
        by_cases h2 : t.2.2.2.2.1.length ≤ 6
        · rw [bt (by omega), dT h2]
          by_cases h3 : t.2.1.length ≤ 100
          · rw [dT (p := ((t.2.1.length : Int) ≤ 100)) (by omega), dT h3]; rfl
          · rw [dF (p := ((t.2.1.length : Int) ≤ 100)) (by omega), dF h3]; rfl
        · rw [bf (by omega), dF h2]; rfl
      · rw [bf (by omega), dF h1]; rfl
theorem small_ev {t : TabT} (hm : t.2.2.1.length ≤ 9223372036854775807) : Ev (fun k => law21_Small k t) (smallB t t.2.2.1, ()) := by
  refine ⟨t.2.2.1.length + 1, fun k hk => ?_⟩
  show law21_Small k t = _
  rw [law21_Small_eq]
  exact small_l0 k hm k 0 (by omega) (by omega)
theorem small_of {t : TabT} (h : smallB t t.2.2.1 = true) : t.2.2.1.length ≤ 14 ∧ t.2.2.2.2.1.length ≤ 6 ∧ t.2.1.length ≤ 100 ∧ ∀ c ∈ t.2.2.1, c.1.length ≤ 100 := by
  unfold smallB at h
  simp only [Bool.and_eq_true, List.all_eq_true, decide_eq_true_eq] at h
  exact ⟨h.2.1, h.2.2.1, h.2.2.2, h.1⟩
def fewB (l : List ValT) (r : List ValT) : Bool := r.all (fun x => decide (x.2.2.1.length ≤ 100)) && decide (l.length ≤ 20)
theorem few_l0 (k : Nat) {l : List ValT} (hm : l.length ≤ 9223372036854775807) : ∀ n j, j ≤ l.length → l.length - j < n → law02_Few_l0 k n l l (l.length : Int) (j : Int) = some (fewB l (l.drop j), ())
  | 0, _, _, h => absurd h (Nat.not_lt_zero _)
  | n + 1, j, hj, hn => by
    rw [law02_Few_l0_eq]
    by_cases c : j < l.length
    · have hx := List.getElem?_eq_getElem c
      rw [bt (by omega), nth_get hx, Option.bind_some, List.drop_eq_getElem_cons c]
      by_cases c1 : 100 < (l[j].2.2.1.length : Int)
      · rw [bt c1, show fewB l (l[j] :: l.drop (j + 1)) = false from by unfold fewB; rw [List.all_cons, dF (by omega)]; rfl]
      rw [bf c1, wr_i64 (by omega)]
      refine (few_l0 k hm n (j + 1) c (by omega)).trans ?_
      rw [show fewB l (l[j] :: l.drop (j + 1)) = fewB l (l.drop (j + 1)) from by unfold fewB; rw [List.all_cons, dT (by omega)]; rfl]
    · have : j = l.length := by omega
      subst this
      rw [bf (by omega), List.drop_length]
      have : decide ((l.length : Int) ≤ 20) = decide (l.length ≤ 20) := by
        by_cases h : l.length ≤ 20
        · rw [dT h, dT (by omega)]
        · rw [dF h, dF (by omega)]
      rw [this]; rfl
theorem few_ev' {l : List ValT} (h : l.length ≤ 9223372036854775807) : Ev (fun k => law02_Few k l) (fewB l l, ()) := by
  refine ⟨l.length + 1, fun k hk => ?_⟩
  show law02_Few k l = _
  rw [law02_Few_eq]
  exact few_l0 k h k 0 (by omega) (by omega)
theorem cmp_eq0 : ∀ a b, cmpL a b = 0 ↔ a = b
  | [], [] => by simp [cmpL]
  | [], _ :: _ => by simp [cmpL]
  | _ :: _, [] => by simp [cmpL]
  | a :: x, b :: y => by
    have ih := cmp_eq0 x y
    unfold cmpL
    by_cases h : a < b
    · rw [if_pos h]; simp; try omega
    · rw [if_neg h]
      by_cases h2 : b < a
      · rw [if_pos h2]; simp; try omega
      · rw [if_neg h2, ih]; simp; try omega
theorem cmp_vals : ∀ a b, cmpL a b = if ltL a b then -1 else if ltL b a then 1 else 0
  | [], [] => rfl
  | [], _ :: _ => rfl
  | _ :: _, [] => rfl
  | a :: x, b :: y => by
    have ih := cmp_vals x y
    unfold cmpL ltL
    by_cases h : a < b
    · simp [h]
    · by_cases h2 : b < a
      · have : ¬ a = b := by omega
        simp [h, h2, this]
      · have : a = b := by omega
        simp [this, ih]
/-- The order of two values. -/
def ordV (a b : ValT) : Int := if a.1 < b.1 then -1 else if b.1 < a.1 then 1 else if a.1 = 1 then (if a.2.1 < b.2.1 then -1 else if b.2.1 < a.2.1 then 1 else 0) else if a.1 = 2 then cmpL a.2.2.1 b.2.2.1 else 0
def cmpV : List ValT → List ValT → Int
  | [], [] => 0
  | [], _ :: _ => -1
  | _ :: _, [] => 1
  | a :: x, b :: y => if ordV a b = 0 then cmpV x y else ordV a b
theorem cmpV_nil {a b : List ValT} (h : a = [] ∨ b = []) : cmpV a b = if (a.length : Int) < b.length then -1 else if (b.length : Int) < a.length then 1 else 0 := by
  cases a with
  | nil => cases b with
    | nil => rfl
    | cons y t => rw [if_pos (by simp; try omega)]; rfl
  | cons x s => cases b with
    | nil => rw [if_neg (by simp; try omega), if_pos (by simp; try omega)]; rfl
    | cons y t => rcases h with h | h <;> cases h
theorem drop_two {a b : List ValT} {j : Nat} (h : ¬ (j < a.length ∧ j < b.length)) (h1 : j ≤ a.length) (h2 : j ≤ b.length) : cmpV (a.drop j) (b.drop j) = if (a.length : Int) < b.length then -1 else if (b.length : Int) < a.length then 1 else 0 := by
  rw [cmpV_nil (by
    by_cases c : j < a.length
    · exact .inr (List.drop_eq_nil_of_le (by omega))
    · exact .inl (List.drop_eq_nil_of_le (by omega)))]
  simp only [List.length_drop]
  by_cases c1 : a.length < b.length
  · rw [if_pos (by omega), if_pos (by omega)]
  · rw [if_neg (by omega), if_neg (show ¬ (a.length : Int) < b.length by omega)]
    by_cases c2 : b.length < a.length
    · rw [if_pos (by omega), if_pos (by omega)]
    · rw [if_neg (by omega), if_neg (by omega)]
def plainV (v : ValT) : ValT := if v.1 = 1 then (1, (v.2.1, ([], ()))) else if v.1 = 2 then (2, (0, (v.2.2.1, ()))) else (0, (0, ([], ())))
theorem encV_ne (v : ValT) : ∃ x t, encV v = x :: t := by
  unfold encV
  split
  · exact ⟨_, _, rfl⟩
  · split <;> exact ⟨_, _, rfl⟩
theorem plain_is (k : Nat) (v : ValT) : ref01_Plain k v = some (plainV v, (plainV v, ())) := by
  rw [ref01_Plain_eq]
  unfold plainV
  by_cases c1 : v.1 = 1
  · rw [bt c1, if_pos c1]
  · rw [bf c1, if_neg c1]
    by_cases c2 : v.1 = 2
    · rw [bt c2, if_pos c2]
    · rw [bf c2, if_neg c2]
theorem ltL_eqlen : ∀ (p q r s : List Int), p.length = q.length → ltL (p ++ r) (q ++ s) = if p = q then ltL r s else ltL p q
  | [], [], r, s, _ => by simp
  | x :: p, y :: q, r, s, h => by
    have ih := ltL_eqlen p q r s (by simpa using h)
    show (decide (x < y) || (decide (x = y) && ltL (p ++ r) (q ++ s))) = if x :: p = y :: q then ltL r s else (decide (x < y) || (decide (x = y) && ltL p q))
    rw [ih]
    by_cases e : x = y
    · subst e
      by_cases e2 : p = q
      · subst e2; simp
      · simp [e2]
    · simp [e]
theorem ltL_esc : ∀ (x y r s : List Int), Byt x → Byt y → ltL (esc x ++ 0 :: 1 :: r) (esc y ++ 0 :: 1 :: s) = if x = y then ltL r s else ltL x y
  | [], [], r, s, _, _ => by simp [esc, ltL]
  | [], d :: y, r, s, _, hy => by
    have hd := wf_u8 (hy d List.mem_cons_self)
    rw [esc_cons]
    by_cases h : d = 0
    · subst h; simp [esc, ltL]
    · have : 0 < d := by omega
      simp [esc, ltL, h, this]
  | c :: x, [], r, s, hx, _ => by
    have hc := wf_u8 (hx c List.mem_cons_self)
    rw [esc_cons]
    by_cases h : c = 0
    · subst h; simp [esc, ltL]
    · have : ¬ c < 0 := by omega
      simp [esc, ltL, h, this]
  | c :: x, d :: y, r, s, hx, hy => by
    have hc := wf_u8 (hx c List.mem_cons_self)
    have hd := wf_u8 (hy d List.mem_cons_self)
    have ih := ltL_esc x y r s (fun z hz => hx z (List.mem_cons_of_mem _ hz)) (fun z hz => hy z (List.mem_cons_of_mem _ hz))
    rw [esc_cons, esc_cons]
    by_cases h : c = d
    · subst h
      by_cases h0 : c = 0
      · rw [if_pos h0]
        simp only [List.append_assoc, List.cons_append, List.nil_append]
        simp only [ltL, ih]
        by_cases e : x = y <;> simp [e]
      · rw [if_neg h0]
        simp only [List.append_assoc, List.cons_append, List.nil_append]
        simp only [ltL, ih]
        by_cases e : x = y <;> simp [e]
    · have hne : ¬ (c :: x = d :: y) := by simp [h]
      rw [if_neg hne]
      have first : ∀ u v : List Int, ltL (c :: u) (d :: v) = decide (c < d) := by intro u v; simp [ltL, h]
      rw [first]
      split <;> split <;> exact first _ _
def canV (v : ValT) : Prop := (valOk v ∧ Byt v.2.2.1) ∧ (v.1 = 0 ∨ v.1 = 1 ∨ v.1 = 2)
theorem ltL_enc {v w : ValT} (hv : canV v) (hw : canV w) (r s : List Int) : ltL (encV v ++ r) (encV w ++ s) = if ordV v w = 0 then ltL r s else decide (ordV v w < 0) := by
  obtain ⟨⟨v1, v2⟩, v3⟩ := hv
  obtain ⟨⟨w1, w2⟩, w3⟩ := hw
  have e0 : ∀ {x : ValT}, x.1 = 0 → encV x = [1] := fun h => by unfold encV; rw [if_neg (by omega), if_neg (by omega)]
  have e1 : ∀ {x : ValT}, x.1 = 1 → encV x = 2 :: be 8 (x.2.1 + 9223372036854775808).toNat := fun h => if_pos h
  have e2 : ∀ {x : ValT}, x.1 = 2 → encV x = 3 :: (esc x.2.2.1 ++ [0, 1]) := fun h => by unfold encV; rw [if_neg (by omega), if_pos h]
  unfold ordV
  rcases v3 with a | a | a <;> rcases w3 with b | b | b <;> rw [a, b]
  · rw [e0 a, e0 b]; simp [ltL]
  · rw [e0 a, e1 b]; simp [ltL]
  · rw [e0 a, e2 b]; simp [ltL]
  · rw [e1 a, e0 b]; simp [ltL]
  · rw [e1 a, e1 b]
    obtain ⟨u, hu⟩ := Int.eq_ofNat_of_zero_le (show 0 ≤ v.2.1 + 9223372036854775808 by have := v1.1; omega)
    obtain ⟨t, ht⟩ := Int.eq_ofNat_of_zero_le (show 0 ≤ w.2.1 + 9223372036854775808 by have := w1.1; omega)
    rw [hu, ht]
    have p1 := v1.1
    have p2 := w1.1
    simp only [Int.toNat_natCast, List.cons_append, ltL]
    rw [ltL_eqlen _ _ _ _ (by rw [be_length, be_length]), ltL_be, Nat.mod_eq_of_lt (by omega), Nat.mod_eq_of_lt (by omega)]
    have hbe : be 8 u = be 8 t ↔ u = t := ⟨fun h => by have := be_eq 8 h; omega, fun h => by rw [h]⟩
    by_cases c : u = t
    · subst c
      have : v.2.1 = w.2.1 := by omega
      simp [this]
    · by_cases d : u < t
      · have : v.2.1 < w.2.1 := by omega
        simp [hbe, c, d, this]
      · have h1 : ¬ v.2.1 < w.2.1 := by omega
        have h2 : w.2.1 < v.2.1 := by omega
        simp [hbe, c, d, h1, h2]
  · rw [e1 a, e2 b]; simp [ltL]
  · rw [e2 a, e0 b]; simp [ltL]
  · rw [e2 a, e1 b]; simp [ltL]
  · rw [e2 a, e2 b]
    simp only [List.append_assoc, List.cons_append, List.nil_append, ltL]
    rw [ltL_esc _ _ _ _ v2 w2]
    have c1 := cmp_eq0 v.2.2.1 w.2.2.1
    have c2 := cmp_lt v.2.2.1 w.2.2.1
    simp only [show ¬ ((2 : Int) < 2) by omega, show ¬ ((2 : Int) = 1) by omega, if_false, if_true, c1]
    by_cases e : v.2.2.1 = w.2.2.1
    · simp [e]
    · simp only [e, if_false]
      cases h : ltL v.2.2.1 w.2.2.1 with
      | true => simp [c2.2 h]
      | false => rw [h] at c2; simp at c2; simp; exact c2
theorem ltL_keys : ∀ a b : List ValT, (∀ v ∈ a, canV v) → (∀ v ∈ b, canV v) → ltL (a.flatMap encV) (b.flatMap encV) = decide (cmpV a b < 0)
  | [], [], _, _ => rfl
  | [], w :: b, _, _ => by
    obtain ⟨x, t, h⟩ := encV_ne w
    rw [List.flatMap_cons, h]; rfl
  | v :: a, [], _, _ => by
    show ltL _ [] = _
    cases (v :: a).flatMap encV <;> rfl
  | v :: a, w :: b, ha, hb => by
    rw [List.flatMap_cons, List.flatMap_cons, ltL_enc (ha v List.mem_cons_self) (hb w List.mem_cons_self), ltL_keys a b (fun x hx => ha x (List.mem_cons_of_mem _ hx)) (fun x hx => hb x (List.mem_cons_of_mem _ hx))]
    show _ = decide ((if ordV v w = 0 then cmpV a b else ordV v w) < 0)
    split <;> rfl
theorem ordV_anti (v w : ValT) : ordV w v = - ordV v w := by
  unfold ordV
  rw [cmp_vals, cmp_vals]
  by_cases h1 : v.1 < w.1
  · rw [if_neg (by omega), if_pos h1, if_pos h1]; rfl
  rw [if_neg h1]
  by_cases h2 : w.1 < v.1
  · rw [if_pos h2, if_pos h2, if_neg h1]
  rw [if_neg h2, if_neg h2, if_neg h1]
  have e : v.1 = w.1 := by omega
  rw [e]
  by_cases c1 : w.1 = 1
  · rw [if_pos c1, if_pos c1]
    by_cases d1 : v.2.1 < w.2.1
    · rw [if_neg (by omega), if_pos d1, if_pos d1]; rfl
    · rw [if_neg d1]
      by_cases d2 : w.2.1 < v.2.1
      · rw [if_pos d2, if_neg d1, if_pos d2]
      · rw [if_neg d2, if_neg d1, if_neg d2]; rfl
  rw [if_neg c1, if_neg c1]
  by_cases c2 : w.1 = 2
  · rw [if_pos c2, if_pos c2]
    have := cmp_vals v.2.2.1 w.2.2.1
    have t := cmp_vals w.2.2.1 v.2.2.1
    cases p : ltL v.2.2.1 w.2.2.1 <;> cases q : ltL w.2.2.1 v.2.2.1 <;> simp
    exact absurd (ltL_asym _ _ p) (by rw [q]; simp)
  · rw [if_neg c2, if_neg c2]; rfl
theorem cmpV_anti : ∀ a b, cmpV b a = - cmpV a b
  | [], [] => rfl
  | [], _ :: _ => rfl
  | _ :: _, [] => rfl
  | v :: a, w :: b => by
    show (if ordV w v = 0 then cmpV b a else ordV w v) = - (if ordV v w = 0 then cmpV a b else ordV v w)
    rw [ordV_anti v w, cmpV_anti a b]
    by_cases h : ordV v w = 0
    · rw [if_pos (by omega), if_pos h]
    · rw [if_neg (by omega), if_neg h]
/-- Few parts everywhere, so deep at most; texts that are short. -/
inductive SmallD : Nat → Ex → Prop
  | mk (d : Nat) (op : Int) (t n : List Int) (m : Int) (v : Int × (Int × (List Int × Unit))) (es : List Ex) : es.length ≤ 3 → v.2.2.1.length ≤ 200 → (∀ x ∈ es, SmallD d x) → SmallD (d + 1) (.mk op t n m v es)
theorem light_loopD (es : List Ex) (d : Nat) (hl : es.length ≤ 3) (ih : ∀ x ∈ es, ∃ b, (b = true → SmallD d x) ∧ Ev (fun k => law20_Light k x.un d) (b, ())) (hd : d ≤ 100) :
    ∀ m j, j + m = es.length → ∃ b, (b = true → ∀ x ∈ es.drop j, SmallD d x) ∧ ∃ K, ∀ k n, K ≤ k → m < n → law20_Light_l0 (law20_Light k) (k + 1) n ((d + 1 : Nat) : Int) es (es.length : Int) (j : Int) = some (b, ())
  | 0, j, hj => ⟨true, fun _ => by rw [List.drop_eq_nil_of_le (by omega)]; simp, 0, fun k n _ hn => by
      obtain ⟨i, rfl⟩ : ∃ i, n = i + 1 := ⟨n - 1, by omega⟩
      rw [law20_Light_l0_eq, bf (by omega)]⟩
  | m + 1, j, hj => by
    have hx : es[j]? = some es[j] := List.getElem?_eq_getElem (by omega)
    obtain ⟨b, sb, K, hK⟩ := ih es[j] (List.getElem_mem _)
    obtain ⟨c, sc, L, hL⟩ := light_loopD es d hl ih hd m (j + 1) (by omega)
    have ed : wr .i64 (((d + 1 : Nat) : Int) - 1) = (d : Int) := by rw [wr_i64 (by omega)]; omega
    refine ⟨b && c, fun h => ?_, K + L, fun k n hk hn => ?_⟩
    · rw [Bool.and_eq_true] at h
      rw [List.drop_eq_getElem_cons (by omega)]
      intro x hx
      rcases List.mem_cons.1 hx with rfl | hx
      · exact sb h.1
      · exact sc h.2 x hx
    obtain ⟨i, rfl⟩ : ∃ i, n = i + 1 := ⟨n - 1, by omega⟩
    rw [law20_Light_l0_eq, bt (by omega), nth_get hx, Option.bind_some, ed]
    refine (congrArg (fun o => Option.bind o _) (hK k (by omega))).trans ?_
    rw [Option.bind_some]
    show (bif (!b) then _ else _) = _
    cases b
    · rfl
    · rw [Bool.not_true, cond_false, wr_i64 (by omega)]
      exact hL k i (by omega) (by omega)
theorem szE_mk {op : Int} {t n : List Int} {m : Int} {v : Int × (Int × (List Int × Unit))} {es : List Ex} (h : szE (.mk op t n m v es)) : t.length ≤ reachBytes ∧ n.length ≤ reachBytes ∧ v.2.2.1.length ≤ reachBytes ∧ ∀ x ∈ es, szE x := by
  unfold szE at h
  rw [szEs_all] at h
  exact ⟨h.1, h.2.1, h.2.2.1, fun x hx => h.2.2.2 x hx⟩
theorem light_exD : (e : Ex) → szE e → (d : Nat) → d ≤ 100 → ∃ b, (b = true → SmallD d e) ∧ Ev (fun k => law20_Light k e.un d) (b, ())
  | .mk op t n m v es, hz, 0, hd => ⟨false, nofun, .from 1 fun k => by rw [law20_Light_succ, law20_Light_b_eq, bt (by rfl)]⟩
  | .mk op t n m v es, hz, d + 1, hd => by
    obtain ⟨z1, z2, z3, z4⟩ := szE_mk hz
    have hr : reachBytes = 140737488351232 := by decide
    have h0 : ¬ ((d + 1 : Nat) : Int) = 0 := by omega
    by_cases h1 : 3 < (es.length : Int)
    · refine ⟨false, nofun, .from 1 fun k => ?_⟩
      rw [law20_Light_succ, law20_Light_b_eq, bf h0]
      show (bif (decide (3 < (es.length : Int))) then _ else _) = _
      rw [bt h1]
    by_cases h2 : 200 < (wr .i64 ((wr .i64 ((n.length : Int) + (t.length : Int))) + (v.2.2.1.length : Int)))
    · refine ⟨false, nofun, .from 1 fun k => ?_⟩
      rw [law20_Light_succ, law20_Light_b_eq, bf h0]
      show (bif (decide (3 < (es.length : Int))) then _ else (bif (decide (200 < (wr .i64 ((wr .i64 ((n.length : Int) + (t.length : Int))) + (v.2.2.1.length : Int))))) then _ else _)) = _
      rw [bf h1, bt h2]
    have ih : ∀ x ∈ es, ∃ b, (b = true → SmallD d x) ∧ Ev (fun k => law20_Light k x.un d) (b, ()) := fun x hx => light_exD x (z4 x hx) d (by omega)
    obtain ⟨b, sb, K, hK⟩ := light_loopD es d (by omega) ih (by omega) es.length 0 (by omega)
    have hv : v.2.2.1.length ≤ 200 := by
      rw [wr_i64 (n := (n.length : Int) + (t.length : Int)) (by omega), wr_i64 (by omega)] at h2
      omega
    refine ⟨b, fun h => .mk _ _ _ _ _ _ _ (by omega) hv (sb h), K + es.length + 1, fun k hk => ?_⟩
    obtain ⟨i, rfl⟩ : ∃ i, k = i + 1 := ⟨k - 1, by omega⟩
    show law20_Light (i + 1) _ _ = _
    rw [law20_Light_succ, law20_Light_b_eq, bf h0]
    show (bif (decide (3 < (es.length : Int))) then _ else (bif (decide (200 < (wr .i64 ((wr .i64 ((n.length : Int) + (t.length : Int))) + (v.2.2.1.length : Int))))) then _ else _)) = _
    rw [bf h1, bf h2]
    exact hK i (i + 1) (by omega) (by omega)
termination_by e _ d _ => d
decreasing_by omega
abbrev VT := Int × (Int × ((List Int) × Unit))
theorem wr_nx {j n : Nat} (h : j < n) (hn : n ≤ 9223372036854775807) : wr .i64 ((j : Int) + 1) = ((j + 1 : Nat) : Int) := by rw [wr_i64 (by omega)]; omega
theorem lim_L {α : Type} {n : Nat} {x : Option α} (h : n ≤ 60000000) : lim n x = x := by unfold lim; rw [if_pos]; exact Nat.le_trans h (by decide)
/-- What is and-ed. -/
def partsL : Ex → List Ex
  | .mk op t n m v [a, b] => if op = 17 then partsL a ++ partsL b else [.mk op t n m v [a, b]]
  | e => [e]
theorem partsL_and {op : Int} {t n : List Int} {m : Int} {v : Int × (Int × (List Int × Unit))} {a b : Ex} (h : op = 17) : partsL (.mk op t n m v [a, b]) = partsL a ++ partsL b := by
  rw [partsL]; exact if_pos h
theorem partsL_len : ∀ {d : Nat} {e : Ex}, SmallD d e → (partsL e).length ≤ 2 ^ d
  | d, .mk op t n m v es, h => by
    cases h with
    | mk d _ _ _ _ _ _ h1 h2 h3 =>
    have h1' : 1 ≤ 2 ^ (d + 1) := Nat.one_le_two_pow
    match es, h3 with
    | [a, b], h3 =>
      unfold partsL
      split
      · have ha := partsL_len (h3 a (by simp))
        have hb := partsL_len (h3 b (by simp))
        rw [List.length_append, Nat.pow_succ]; omega
      · exact h1'
    | [], _ => exact h1'
    | [_], _ => exact h1'
    | _ :: _ :: _ :: _, _ => exact h1'
theorem parts_ev : ∀ {d : Nat} {e : Ex}, SmallD d e → d ≤ 20 → Ev (fun k => plan_Parts k e.un) (partsL e, ())
  | d, .mk op t n m v es, h, hd => by
    by_cases c : op = 17 ∧ es.length = 2
    · obtain ⟨c1, c2⟩ := c
      cases h with
      | mk d _ _ _ _ _ _ h1 h2 h3 =>
      match es, c2, h3 with
      | [a, b], _, h3 =>
        obtain ⟨K, hK⟩ := parts_ev (h3 a (by simp)) (by omega)
        obtain ⟨L, hL⟩ := parts_ev (h3 b (by simp)) (by omega)
        have la := partsL_len (h3 a (by simp))
        have lb := partsL_len (h3 b (by simp))
        have hp : 2 ^ d ≤ 2 ^ 20 := Nat.pow_le_pow_right (by omega) (by omega)
        refine ⟨K + L + 1, fun k hk => ?_⟩
        obtain ⟨i, rfl⟩ : ∃ i, k = i + 1 := ⟨k - 1, by omega⟩
        show plan_Parts (i + 1) _ = _
        rw [plan_Parts_succ, plan_Parts_b_eq]
        show (bif (!decide (op = 17)) then _ else (bif (!decide ((([a, b] : List Ex).length : Int) = 2)) then _ else (plan_Parts i a.un).bind fun r => (plan_Parts i b.un).bind fun s => _)) = _
        rw [dT c1, Bool.not_true, cond_false, dT (show (([a, b] : List Ex).length : Int) = 2 from rfl), Bool.not_true, cond_false]
        refine (congrArg (fun o => Option.bind o _) (hK i (by omega))).trans ?_
        rw [Option.bind_some]
        refine (congrArg (fun o => Option.bind o _) (hL i (by omega))).trans ?_
        rw [Option.bind_some]
        show lim ((partsL a).length + (partsL b).length) (some ((partsL a ++ partsL b), ())) = _
        rw [lim_L (by omega), partsL_and c1]
    · have hp : partsL (.mk op t n m v es) = [.mk op t n m v es] := by
        match es, c with
        | [a, b], c => unfold partsL; rw [if_neg (fun h => c ⟨h, rfl⟩)]
        | [], _ => rfl
        | [_], _ => rfl
        | _ :: _ :: _ :: _, _ => rfl
      refine .from 1 fun k => ?_
      rw [plan_Parts_succ, plan_Parts_b_eq, hp]
      show (bif (!decide (op = 17)) then _ else (bif (!decide ((es.length : Int) = 2)) then _ else _)) = _
      by_cases c1 : op = 17
      · rw [dT c1, Bool.not_true, cond_false, dF (by omega)]; rfl
      · rw [dF c1]; rfl
def oB : Option VT → Bool × List VT
  | none => (true, [])
  | some v => (false, [v])
def isM (e : ExD) (p : Int) : Bool := decide (e.1 = 3 ∧ e.2.2.2.1 = p)
theorem is_is (k : Nat) (e : ExD) (p : Int) : plan_is k e p = some (isM e p, ()) := by
  rw [plan_is_eq]
  unfold isM
  by_cases h : e.1 = 3
  · rw [bt h]
    by_cases h2 : e.2.2.2.1 = p
    · rw [dT h2, dT ⟨h, h2⟩]
    · rw [dF h2, dF (fun q => h2 q.2)]
  · rw [bf h, dF (fun q => h q.1)]
def turnM (op : Int) : Int := if op = 12 then 14 else if op = 13 then 15 else if op = 14 then 12 else if op = 15 then 13 else op
theorem turn_is (k : Nat) (op : Int) : plan_turned k op = some (turnM op, ()) := by
  rw [plan_turned_eq]
  unfold turnM
  by_cases h : op = 12
  · rw [bt h, if_pos h]
  rw [bf h, if_neg h]
  by_cases h : op = 13
  · rw [bt h, if_pos h]
  rw [bf h, if_neg h]
  by_cases h : op = 14
  · rw [bt h, if_pos h]
  rw [bf h, if_neg h]
  by_cases h : op = 15
  · rw [bt h, if_pos h]
  rw [bf h, if_neg h]
abbrev BndT := Option VT × Option VT × Bool
/-- The bounds that a comparison of a column and a literal tells. -/
def litB (op p : Int) (a b : ExD) : BndT :=
  if isM a p = true ∧ b.1 = 1 ∧ b.2.2.2.2.1.1 ≠ 0 then
    (if op = 10 then (some b.2.2.2.2.1, some b.2.2.2.2.1, true) else if op = 12 ∨ op = 13 then (none, some b.2.2.2.2.1, true) else if op = 14 ∨ op = 15 then (some b.2.2.2.2.1, none, true) else (none, none, false))
  else (none, none, false)
def bndM (x : ExD) (p : Int) : BndT :=
  match x.2.2.2.2.2.1 with
  | [a, b] => if isM a.un p = true then litB x.1 p a.un b.un else litB (turnM x.1) p b.un a.un
  | _ => (none, none, false)
def pkBd (r : BndT) : ((Bool × List VT) × ((Bool × List VT) × (Bool × Unit))) × Unit := ((oB r.1, (oB r.2.1, (r.2.2, ()))), ())
theorem bnd_j0 (k : Nat) (p op : Int) (a b : ExD) : plan_Bounds_j0 (k + 1) p op a.1 a.2.1 a.2.2.1 a.2.2.2.1 a.2.2.2.2.1.1 a.2.2.2.2.1.2.1 a.2.2.2.2.1.2.2.1 a.2.2.2.2.2.1 b.1 b.2.1 b.2.2.1 b.2.2.2.1 b.2.2.2.2.1.1 b.2.2.2.2.1.2.1 b.2.2.2.2.1.2.2.1 b.2.2.2.2.2.1 = some (pkBd (litB op p a b)) := by
  rw [plan_Bounds_j0_eq, show ((a.1, (a.2.1, (a.2.2.1, (a.2.2.2.1, ((a.2.2.2.2.1.1, (a.2.2.2.2.1.2.1, (a.2.2.2.2.1.2.2.1, ()))), (a.2.2.2.2.2.1, ())))))) : ExD) = a from rfl, is_is, Option.bind_some]
  unfold litB
  cases h : isM a p with
  | false => rw [if_neg (by simp)]; rfl
  | true =>
    by_cases h1 : b.1 = 1
    · by_cases h2 : b.2.2.2.2.1.1 = 0
      · rw [if_neg (fun q => q.2.2 h2)]
        show (bif (!decide (b.1 = 1)) then _ else (bif decide (b.2.2.2.2.1.1 = 0) then _ else _)) = _
        rw [dT h1, Bool.not_true, cond_false, bt h2]; rfl
      · rw [if_pos ⟨rfl, h1, h2⟩]
        show (bif (!decide (b.1 = 1)) then _ else (bif decide (b.2.2.2.2.1.1 = 0) then _ else (bif decide (op = 10) then _ else (bif decide (op = 12) then _ else _)))) = _
        rw [dT h1, Bool.not_true, cond_false, bf h2]
        by_cases c : op = 10
        · rw [bt c, if_pos c]; rfl
        rw [bf c, if_neg c]
        by_cases c2 : op = 12
        · rw [bt c2, plan_Bounds_j1_eq, bt c2, if_pos (.inl c2)]; rfl
        rw [bf c2, plan_Bounds_j1_eq]
        by_cases c3 : op = 13
        · rw [bt c3, if_pos (.inr c3)]; rfl
        rw [bf c3, if_neg (show ¬ (op = 12 ∨ op = 13) by omega)]
        by_cases c4 : op = 14
        · rw [bt c4, plan_Bounds_j2_eq, bt c4, if_pos (.inl c4)]; rfl
        rw [bf c4, plan_Bounds_j2_eq]
        by_cases c5 : op = 15
        · rw [bt c5, if_pos (.inr c5)]; rfl
        · rw [bf c5, if_neg (show ¬ (op = 14 ∨ op = 15) by omega)]; rfl
    · rw [if_neg (fun q => h1 q.2.1)]
      show (bif (!decide (b.1 = 1)) then _ else _) = _
      rw [dF h1]; rfl
theorem bnd_is (k : Nat) (x : ExD) (p : Int) : plan_Bounds (k + 1) x p = some (pkBd (bndM x p)) := by
  rw [plan_Bounds_eq]
  unfold bndM
  by_cases hl : x.2.2.2.2.2.1.length = 2
  · rw [dT (by omega), Bool.not_true, cond_false, twoW_self]
    generalize hx : x.2.2.2.2.2.1 = es at hl
    match es, hl with
    | [a, b], _ =>
      show (plan_is (k + 1) a.un p).bind _ = some (pkBd (if isM a.un p = true then litB x.1 p a.un b.un else litB (turnM x.1) p b.un a.un))
      rw [is_is, Option.bind_some, turn_is]
      cases h : isM a.un p with
      | false =>
        rw [if_neg (by simp)]
        exact bnd_j0 k p (turnM x.1) b.un a.un
      | true =>
        rw [if_pos rfl]
        exact bnd_j0 k p x.1 a.un b.un
  · rw [dF (by omega)]
    split
    · rename_i a b h; rw [h] at hl; exact absurd rfl hl
    · rfl
def stepB {α : Type} (k : Option VT → Option VT → α) (ret : Option VT × Option VT → α) (lo hi : Option VT) : BndT → α
  | (_, _, false) => k lo hi
  | (some a, some b, true) => ret (some a, some b)
  | (some a, none, true) => match lo with
    | none => k (some a) hi
    | some l => k (some l) hi
  | (none, some b, true) => match hi with
    | none => k lo (some b)
    | some h => k lo (some h)
  | (none, none, true) => k lo hi
def bddM : List Ex → Int → Option VT → Option VT → Option VT × Option VT
  | [], _, lo, hi => (lo, hi)
  | e :: r, p, lo, hi => stepB (bddM r p) id lo hi (bndM e.un p)
def pkBb (r : Option VT × Option VT) : ((Bool × List VT) × ((Bool × List VT) × Unit)) × Unit := ((oB r.1, (oB r.2, ())), ())
theorem oB_1 (o : Option VT) : (oB o).1 = o.isNone := by cases o <;> rfl
theorem bdd_loop (es : List Ex) (p : Int) (hl : es.length ≤ 9223372036854775807) : ∀ m j lo hi, j + m = es.length → Ev2 (fun k n => plan_bounded_l0 k n p (oB lo).1 (oB lo).2 (oB hi).1 (oB hi).2 es (es.length : Int) (j : Int)) (pkBb (bddM (es.drop j) p lo hi))
  | 0, j, lo, hi, hj => by
    refine .up ?_
    simp only [plan_bounded_l0_eq, bf (show ¬ (j : Int) < es.length by omega)]
    rw [List.drop_eq_nil_of_le (by omega)]
    exact .ret
  | m + 1, j, lo, hi, hj => by
    have hx : es[j]? = some es[j] := List.getElem?_eq_getElem (by omega)
    have ih := fun lo hi => bdd_loop es p hl m (j + 1) lo hi (by omega)
    have e : wr .i64 ((j : Int) + 1) = ((j + 1 : Nat) : Int) := wr_nx (show j < es.length by omega) hl
    rw [List.drop_eq_getElem_cons (show j < es.length by omega)]
    unfold bddM
    have ihk : ∀ lo hi, Ev2 (fun k n => plan_bounded_l0 (k + 1) n p (oB lo).1 (oB lo).2 (oB hi).1 (oB hi).2 es (es.length : Int) ((j + 1 : Nat) : Int)) (pkBb (bddM (es.drop (j + 1)) p lo hi)) := fun lo hi => by
      obtain ⟨K, hK⟩ := ih lo hi
      exact ⟨K, fun k n hk hn => hK (k + 1) n (by omega) hn⟩
    refine .up (.upk ?_)
    simp only [plan_bounded_l0_eq, bt (show (j : Int) < es.length by omega), nth_get hx, Option.bind_some, e, plan_bounded_j0_eq, plan_bounded_j1_eq]
    have hb : ∀ k, plan_Bounds (k + 1) (es[j].un.1, (es[j].un.2.1, (es[j].un.2.2.1, (es[j].un.2.2.2.1, ((es[j].un.2.2.2.2.1.1, (es[j].un.2.2.2.2.1.2.1, (es[j].un.2.2.2.2.1.2.2.1, ()))), (es[j].un.2.2.2.2.2.1, ())))))) p = some (pkBd (bndM es[j].un p)) := fun k => bnd_is k es[j].un p
    simp only [hb, Option.bind_some]
    generalize bndM es[j].un p = r
    obtain ⟨a, b, ok⟩ := r
    cases ok with
    | false =>
      simp only [stepB, pkBd, Bool.not_false, cond_true]
      exact ihk lo hi
    | true =>
      cases a with
      | none =>
        cases b with
        | none =>
          simp only [stepB, pkBd, oB, Bool.not_true, cond_false]
          exact ihk lo hi
        | some w =>
          cases hi with
          | none =>
            have := ihk lo (some w)
            simp only [stepB, pkBd, oB, Bool.not_true, Bool.not_false, cond_false, cond_true] at this ⊢
            exact this
          | some h =>
            have := ihk lo (some h)
            simp only [stepB, pkBd, oB, Bool.not_true, Bool.not_false, cond_false, cond_true] at this ⊢
            exact this
      | some v =>
        cases b with
        | none =>
          cases lo with
          | none =>
            have := ihk (some v) hi
            simp only [stepB, pkBd, oB, Bool.not_true, Bool.not_false, cond_false, cond_true] at this ⊢
            exact this
          | some l =>
            have := ihk (some l) hi
            simp only [stepB, pkBd, oB, Bool.not_true, Bool.not_false, cond_false, cond_true] at this ⊢
            exact this
        | some w =>
          simp only [stepB, pkBd, oB, Bool.not_true, Bool.not_false, cond_false, cond_true]
          exact Ev2.ret
theorem bdd_ev (es : List Ex) (p : Int) (hl : es.length ≤ 9223372036854775807) : Ev (fun k => plan_bounded k es p) (pkBb (bddM es p none none)) := by
  simp only [plan_bounded_eq]
  exact (bdd_loop es p hl es.length 0 none none (by omega)).dg
def GoodV (v : VT) : Prop := valOk v ∧ Byt v.2.2.1
def GoodO (o : Option VT) : Prop := ∀ v, o = some v → GoodV v
def GE (e : Ex) : Prop := ∀ a ∈ e.un.2.2.2.2.2.1, GoodV a.un.2.2.2.2.1
theorem good_of {d : Nat} {e : Ex} (h : SmallD d e) (hw : wfE e) : GoodV e.un.2.2.2.2.1 := by
  cases h with
  | mk d op t n m v es h1 h2 h3 =>
  unfold wfE at hw
  obtain ⟨_, _, _, _, ⟨_, w2, w3⟩, _, _⟩ := hw
  exact ⟨⟨wf_i64 w2, by show v.2.2.1.length ≤ 400; omega⟩, fun x hx => w3.2 x hx⟩
theorem args_of {d : Nat} {op : Int} {t n : List Int} {m : Int} {v : Int × (Int × (List Int × Unit))} {es : List Ex} (h : SmallD d (.mk op t n m v es)) (hw : wfE (.mk op t n m v es)) : ∀ x ∈ es, (∃ d', SmallD d' x) ∧ wfE x := by
  cases h with
  | mk d _ _ _ _ _ _ h1 h2 h3 =>
  unfold wfE at hw
  rw [wfEs_all] at hw
  exact fun x hx => ⟨⟨d, h3 x hx⟩, hw.2.2.2.2.2.2 x hx⟩
theorem ge_of {d : Nat} {e : Ex} (h : SmallD d e) (hw : wfE e) : GE e := by
  cases e with
  | mk op t n m v es =>
  intro a ha
  obtain ⟨⟨d', h'⟩, w'⟩ := args_of h hw a ha
  exact good_of h' w'
theorem partsL_good : ∀ {d : Nat} {e : Ex}, SmallD d e → wfE e → ∀ x ∈ partsL e, GE x
  | d, .mk op t n m v es, h, hw => by
    by_cases c : op = 17 ∧ es.length = 2
    · obtain ⟨c1, c2⟩ := c
      have ha := args_of h hw
      cases h with
      | mk d _ _ _ _ _ _ h1 h2 h3 =>
      match es, c2, h3, ha with
      | [a, b], _, h3, ha =>
        rw [partsL_and c1]
        intro x hx
        rcases List.mem_append.1 hx with hx | hx
        · exact partsL_good (h3 a (by simp)) (ha a (by simp)).2 x hx
        · exact partsL_good (h3 b (by simp)) (ha b (by simp)).2 x hx
    · have hp : partsL (.mk op t n m v es) = [.mk op t n m v es] := by
        match es, c with
        | [a, b], c => unfold partsL; rw [if_neg (fun h => c ⟨h, rfl⟩)]
        | [], _ => rfl
        | [_], _ => rfl
        | _ :: _ :: _ :: _, _ => rfl
      rw [hp]
      intro x hx
      rw [List.mem_singleton.1 hx]
      exact ge_of h hw
theorem litB_good {op p : Int} {a b : ExD} (h : GoodV b.2.2.2.2.1) : GoodO (litB op p a b).1 ∧ GoodO (litB op p a b).2.1 := by
  have hn : GoodO none := fun v hv => by cases hv
  have hs : GoodO (some b.2.2.2.2.1) := fun v hv => by cases hv; exact h
  unfold litB
  split
  · split
    · exact ⟨hs, hs⟩
    · split
      · exact ⟨hn, hs⟩
      · split
        · exact ⟨hs, hn⟩
        · exact ⟨hn, hn⟩
  · exact ⟨hn, hn⟩
theorem bndM_good {e : Ex} (h : GE e) (p : Int) : GoodO (bndM e.un p).1 ∧ GoodO (bndM e.un p).2.1 := by
  unfold bndM
  split
  · rename_i a b he
    have ha := h a (by rw [he]; simp)
    have hb := h b (by rw [he]; simp)
    split
    · exact litB_good hb
    · exact litB_good ha
  · have hn : GoodO none := fun v hv => by cases hv
    exact ⟨hn, hn⟩
theorem bddM_good (p : Int) : ∀ (es : List Ex) (lo hi : Option VT), (∀ x ∈ es, GE x) → GoodO lo → GoodO hi → GoodO (bddM es p lo hi).1 ∧ GoodO (bddM es p lo hi).2
  | [], lo, hi, _, h1, h2 => ⟨h1, h2⟩
  | e :: es, lo, hi, h, h1, h2 => by
    have ih := fun lo hi => bddM_good p es lo hi (fun x hx => h x (List.mem_cons_of_mem _ hx))
    obtain ⟨g1, g2⟩ := bndM_good (h e (by simp)) p
    unfold bddM
    generalize bndM e.un p = r at g1 g2
    obtain ⟨a, b, ok⟩ := r
    cases ok with
    | false => exact ih lo hi h1 h2
    | true =>
      cases a with
      | none =>
        cases b with
        | none => exact ih lo hi h1 h2
        | some w => cases hi with
          | none => exact ih lo (some w) h1 g2
          | some h => exact ih lo (some h) h1 h2
      | some v =>
        cases b with
        | none => cases lo with
          | none => exact ih (some v) hi g1 h2
          | some l => exact ih (some l) hi h1 h2
        | some w => exact ⟨g1, g2⟩
def encO : Option VT → List Int
  | none => []
  | some v => encV v
def withinM (s : List Int × List Int) (lo hi : Option VT) : List Int × List Int :=
  (s.1 ++ encO lo, match hi with
    | none => s.2
    | some v => nx (s.1 ++ encV v))
def pkS (s : List Int × List Int) : (List Int × (List Int × Unit)) × ((List Int × (List Int × Unit)) × Unit) := ((s.1, (s.2, ())), ((s.1, (s.2, ())), ()))
theorem put1 {v : VT} (h : GoodV v) : Ev (fun k => okey_Put k [v]) ((false, encV v), ()) := by
  have := put_ev (l := [v]) (by intro w hw; rw [List.mem_singleton.1 hw]; exact h.1) (by simp)
  rw [show [v].flatMap encV = encV v by simp] at this
  exact this
theorem lim0 {α : Type} {n : Nat} {x : Option α} (h : n ≤ 60000000) : lim (0 + n) x = x := lim_L (by omega)
theorem within_j0 (s : List Int × (List Int × Unit)) (h1 : s.1.length ≤ 3000) (hb : Byt s.1) (w1 w2 Lo : List Int) (hi : Option VT) (g : GoodO hi) :
    Ev (fun k => plan_within_j0 k (oB hi).1 (oB hi).2 s.1 s.2.1 w1 w2 Lo s.2.1) (pkS (Lo, (withinM (s.1, s.2.1) none hi).2)) := by
  refine .up ?_
  cases hi with
  | none =>
    refine .from 0 fun k => ?_
    show plan_within_j0 (k + 1) true [] s.1 s.2.1 w1 w2 Lo s.2.1 = _
    rw [plan_within_j0_eq, Bool.not_true, cond_false, plan_within_j1_eq]; rfl
  | some v =>
    obtain ⟨K, hK⟩ := put1 (g v rfl)
    have hl : (encV v).length ≤ 1000 := encV_length (g v rfl).1
    obtain ⟨L, hL⟩ := okNext_ev (b := (true && s.1.isEmpty) && (encV v).isEmpty) (l := s.1 ++ encV v) (fun h => by simp at h; rw [h.1, h.2]; rfl) (by rw [List.length_append]; omega) (fun x hx => by
      rcases List.mem_append.1 hx with hx | hx
      · exact hb x hx
      · exact encV_bytes (g v rfl).1 (g v rfl).2 x hx)
    refine ⟨K + L, fun k hk => ?_⟩
    show plan_within_j0 (k + 1) false [v] s.1 s.2.1 w1 w2 Lo s.2.1 = _
    rw [plan_within_j0_eq, Bool.not_false, cond_true, lim0 (by omega)]
    refine (congrArg (fun o => Option.bind o _) (hK (k + 1) (by omega))).trans ?_
    rw [Option.bind_some]
    show lim (([] ++ s.1).length + (encV v).length) ((okey_Next (k + 1) ((true && s.1.isEmpty) && (encV v).isEmpty) (s.1 ++ encV v)).bind _) = _
    rw [lim_L (by rw [List.nil_append]; omega)]
    refine (congrArg (fun o => Option.bind o _) (hL (k + 1) (by omega))).trans ?_
    rw [Option.bind_some, plan_within_j1_eq]; rfl
theorem within_ev (s : List Int × (List Int × Unit)) (h1 : s.1.length ≤ 3000) (hb : Byt s.1) (lo hi : Option VT) (g1 : GoodO lo) (g2 : GoodO hi) :
    Ev (fun k => plan_within k s (oB lo).1 (oB lo).2 (oB hi).1 (oB hi).2) (pkS (withinM (s.1, s.2.1) lo hi)) := by
  simp only [plan_within_eq]
  cases lo with
  | none =>
    have := within_j0 s h1 hb [] [] s.1 hi g2
    simp only [oB, Bool.not_true, cond_false]
    rw [show withinM (s.1, s.2.1) none hi = (s.1, (withinM (s.1, s.2.1) none hi).2) from by show (s.1 ++ [], _) = _; rw [List.append_nil]; rfl]
    exact this
  | some v =>
    have hl : (encV v).length ≤ 1000 := encV_length (g1 v rfl).1
    have := within_j0 s h1 hb [] [] (([] ++ s.1) ++ encV v) hi g2
    simp only [oB, Bool.not_false, cond_true, lim0 (show s.1.length ≤ 60000000 by omega)]
    refine Ev.bind (put1 (g1 v rfl)) ?_
    simp only [lim_L (show ([] ++ s.1).length + (encV v).length ≤ 60000000 by rw [List.nil_append]; omega)]
    rw [List.nil_append] at this
    exact this
abbrev ChT := Int × (List Int × List Int)
def pkC (c : ChT) : (Int × ((List Int × (List Int × Unit)) × Unit)) × ((Int × (List Int × (List Int × Unit))) × Unit) := ((c.1, ((c.2.1, (c.2.2, ())), ())), ((c.1, (c.2.1, (c.2.2, ()))), ()))
def rowsS (t : TabT) : List Int × List Int := (tundK t 0, nx (tundK t 0))
def idxS (t : TabT) (i : Int) : List Int × List Int := ((indS t i).1, (indS t i).2.1)
def idxM (t : TabT) (fr : Int) (ps : List Ex) : List Int → Nat → ChT
  | [], _ => (-1, rowsS t)
  | c :: r, i => if (bddM ps (wr .i64 (fr + c)) none none).1.isSome = true ∨ (bddM ps (wr .i64 (fr + c)) none none).2.isSome = true then ((i : Int), withinM (idxS t i) (bddM ps (wr .i64 (fr + c)) none none).1 (bddM ps (wr .i64 (fr + c)) none none).2) else idxM t fr ps r (i + 1)
def chooseM (t : TabT) (fr : Int) (ps : List Ex) : ChT :=
  if (bddM ps (wr .i64 (fr + t.2.2.2.1)) none none).1.isSome = true ∨ (bddM ps (wr .i64 (fr + t.2.2.2.1)) none none).2.isSome = true then (-1, withinM (rowsS t) (bddM ps (wr .i64 (fr + t.2.2.2.1)) none none).1 (bddM ps (wr .i64 (fr + t.2.2.2.1)) none none).2) else idxM t fr ps t.2.2.2.2.1 0
theorem tund_len {t : TabT} (ht : I64 t.1) {n : Int} (hn : I64 n) : (tundK t n).length ≤ 2000 := by
  unfold tundK
  have := flat_len [wv t.1, wv n] (by
    intro v hv
    rcases List.mem_cons.1 hv with rfl | hv
    · exact wv_ok ht
    · rw [List.mem_singleton.1 hv]; exact wv_ok hn)
  simpa using this
theorem i64_of {n : Int} (h1 : 0 ≤ n) (h2 : n ≤ 1000000) : I64 n := ⟨by omega, by omega⟩
theorem indS_fst {t : TabT} (ht : I64 t.1) {i : Int} (h : 0 ≤ i) (hl : t.2.2.2.2.1.length ≤ 1000) : ((indS t i).1.length ≤ 2000 ∧ Byt (indS t i).1) := by
  unfold indS
  cases c : idxV t i with
  | none => exact ⟨by simp, fun x hx => by cases hx⟩
  | some c' =>
    have := idx_lt c
    exact ⟨tund_len ht (i64_of (by omega) (by omega)), tundK_byt ht (i64_of (by omega) (by omega))⟩
theorem idx_loop {t : TabT} (ht : I64 t.1) (hl : t.2.2.2.2.1.length ≤ 1000) (fr : Int) (nl : Bool) (ps : List Ex) (hp : ps.length ≤ 9223372036854775807) (hg : ∀ x ∈ ps, GE x) (w1 : Int) (w2 w3 : List Int) :
    ∀ m j, j + m = t.2.2.2.2.1.length → Ev2 (fun k n => plan_Choose_l1 k n fr nl ps t.2.2.2.2.1 (t.2.2.2.2.1.length : Int) (j : Int) t.1 t.2.1 t.2.2.1 t.2.2.2.1 t.2.2.2.2.1 w1 w2 w3) (pkC (idxM t fr ps (t.2.2.2.2.1.drop j) j))
  | 0, j, hj => by
    refine .up ?_
    simp only [plan_Choose_l1_eq, bf (show ¬ (j : Int) < t.2.2.2.2.1.length by omega)]
    rw [List.drop_eq_nil_of_le (by omega)]
    exact (rows_ev ht).e2.bind .ret
  | m + 1, j, hj => by
    have hx : t.2.2.2.2.1[j]? = some t.2.2.2.2.1[j] := List.getElem?_eq_getElem (by omega)
    have e : wr .i64 ((j : Int) + 1) = ((j + 1 : Nat) : Int) := wr_nx (show j < t.2.2.2.2.1.length by omega) (by omega)
    have ih := idx_loop ht hl fr nl ps hp hg w1 w2 w3 m (j + 1) (by omega)
    rw [List.drop_eq_getElem_cons (show j < t.2.2.2.2.1.length by omega)]
    unfold idxM
    refine .up ?_
    simp only [plan_Choose_l1_eq, bt (show (j : Int) < t.2.2.2.2.1.length by omega), nth_get hx, Option.bind_some, e]
    refine (bdd_ev ps (wr .i64 (fr + t.2.2.2.2.1[j])) hp).e2.bind ?_
    obtain ⟨g1, g2⟩ := bddM_good (wr .i64 (fr + t.2.2.2.2.1[j])) ps none none hg (fun v hv => by cases hv) (fun v hv => by cases hv)
    generalize bddM ps (wr .i64 (fr + t.2.2.2.2.1[j])) none none = b at g1 g2
    obtain ⟨lo, hi⟩ := b
    obtain ⟨i1, i2⟩ := indS_fst ht (i := (j : Int)) (by omega) hl
    have wi := within_ev (indS t j) (by omega) i2 lo hi g1 g2
    have ix := index_ev ht hl (j : Int)
    cases lo with
    | some v =>
      rw [if_pos (.inl rfl)]
      simp only [pkBb, oB, Bool.not_false, cond_true]
      exact ix.e2.bind (wi.e2.bind .ret)
    | none =>
      cases hi with
      | some v =>
        rw [if_pos (.inr rfl)]
        simp only [pkBb, oB, Bool.not_false, Bool.not_true, cond_false, cond_true]
        exact ix.e2.bind (wi.e2.bind .ret)
      | none =>
        rw [if_neg (by simp)]
        simp only [pkBb, oB, Bool.not_true, cond_false]
        exact ih
theorem choose_end {t : TabT} (ht : I64 t.1) (hl : t.2.2.2.2.1.length ≤ 1000) (fr : Int) (nl : Bool) (ps : List Ex) (hp : ps.length ≤ 9223372036854775807) (hg : ∀ x ∈ ps, GE x) (w1 : Int) (w2 w3 : List Int) (es : List Ex) :
    Ev2 (fun k n => plan_Choose_l0 k (n + 1) fr nl ps es (es.length : Int) (es.length : Int) t.1 t.2.1 t.2.2.1 t.2.2.2.1 t.2.2.2.2.1 w1 w2 w3) (pkC (chooseM t fr ps)) := by
  simp only [plan_Choose_l0_eq, bf (show ¬ (es.length : Int) < es.length by omega)]
  refine (bdd_ev ps (wr .i64 (fr + t.2.2.2.1)) hp).e2.bind ?_
  unfold chooseM
  obtain ⟨g1, g2⟩ := bddM_good (wr .i64 (fr + t.2.2.2.1)) ps none none hg (fun v hv => by cases hv) (fun v hv => by cases hv)
  generalize bddM ps (wr .i64 (fr + t.2.2.2.1)) none none = b at g1 g2
  obtain ⟨lo, hi⟩ := b
  have h0 : I64 0 := i64_of (by omega) (by omega)
  have wi := within_ev (tundK t 0, (nx (tundK t 0), ())) (by have := tund_len ht h0; show (tundK t 0).length ≤ 3000; omega) (tundK_byt ht h0) lo hi g1 g2
  cases lo with
  | some v =>
    rw [if_pos (.inl rfl)]
    simp only [pkBb, oB, Bool.not_false, cond_true]
    exact (rows_ev ht).e2.bind (wi.e2.bind .ret)
  | none =>
    cases hi with
    | some v =>
      rw [if_pos (.inr rfl)]
      simp only [pkBb, oB, Bool.not_false, Bool.not_true, cond_false, cond_true]
      exact (rows_ev ht).e2.bind (wi.e2.bind .ret)
    | none =>
      rw [if_neg (by simp)]
      simp only [pkBb, oB, Bool.not_true, cond_false]
      exact ((idx_loop ht hl fr nl ps hp hg w1 w2 w3 t.2.2.2.2.1.length 0 (by omega)).dg).e2
theorem choose_loopG {t : TabT} (ht : I64 t.1) (hl : t.2.2.2.2.1.length ≤ 1000) (fr : Int) (w1 : Int) (w2 w3 : List Int) (es : List Ex) (he : es.length ≤ 10) (hs : ∀ x ∈ es, ∃ d, d ≤ 10 ∧ SmallD d x) (hw : ∀ x ∈ es, ∀ p ∈ partsL x, GE p) :
    ∀ m j nl (ps : List Ex), j + m = es.length → ps.length ≤ 1024 * j → (∀ x ∈ ps, GE x) → Ev2 (fun k n => plan_Choose_l0 k n fr nl ps es (es.length : Int) (j : Int) t.1 t.2.1 t.2.2.1 t.2.2.2.1 t.2.2.2.2.1 w1 w2 w3) (pkC (chooseM t fr (ps ++ (es.drop j).flatMap partsL)))
  | 0, j, nl, ps, hj, hp, hg => by
    have hj : j = es.length := by omega
    subst hj
    rw [List.drop_length]
    rw [show ps ++ ([] : List Ex).flatMap partsL = ps by simp]
    exact .up (choose_end ht hl fr nl ps (by omega) hg w1 w2 w3 es)
  | m + 1, j, nl, ps, hj, hp, hg => by
    have hx : es[j]? = some es[j] := List.getElem?_eq_getElem (by omega)
    have e : wr .i64 ((j : Int) + 1) = ((j + 1 : Nat) : Int) := wr_nx (show j < es.length by omega) (by omega)
    obtain ⟨d, hd, sd⟩ := hs es[j] (List.getElem_mem _)
    have pl := partsL_len sd
    have p2 : 2 ^ d ≤ 2 ^ 10 := Nat.pow_le_pow_right (by omega) hd
    have ih := choose_loopG ht hl fr w1 w2 w3 es he hs hw m (j + 1) (nl && (partsL es[j]).isEmpty) (ps ++ partsL es[j]) (by omega) (by rw [List.length_append]; omega) (fun x hx => by
      rcases List.mem_append.1 hx with hx | hx
      · exact hg x hx
      · exact hw _ (List.getElem_mem _) x hx)
    rw [List.drop_eq_getElem_cons (show j < es.length by omega)]
    refine .up ?_
    simp only [plan_Choose_l0_eq, bt (show (j : Int) < es.length by omega), nth_get hx, Option.bind_some, e]
    refine (parts_ev sd (by omega)).e2.bind ?_
    simp only [lim_L (show ps.length + (partsL es[j]).length ≤ 60000000 by omega)]
    rw [List.flatMap_cons, ← List.append_assoc]
    exact ih
theorem choose_evG {t : TabT} (ht : I64 t.1) (hl : t.2.2.2.2.1.length ≤ 1000) (fr : Int) (es : List Ex) (he : es.length ≤ 10) (hs : ∀ x ∈ es, ∃ d, d ≤ 10 ∧ SmallD d x) (hw : ∀ x ∈ es, ∀ p ∈ partsL x, GE p) :
    Ev (fun k => plan_Choose k t fr es) (pkC (chooseM t fr (es.flatMap partsL))) := by
  simp only [plan_Choose_eq]
  exact (choose_loopG ht hl fr 0 [] [] es he hs hw es.length 0 true [] (by omega) (by simp) (fun x hx => by cases hx)).dg
theorem choose_ev {t : TabT} (ht : I64 t.1) (hl : t.2.2.2.2.1.length ≤ 1000) (fr : Int) (es : List Ex) (he : es.length ≤ 10) (hs : ∀ x ∈ es, ∃ d, d ≤ 10 ∧ SmallD d x) (hw : ∀ x ∈ es, wfE x) :
    Ev (fun k => plan_Choose k t fr es) (pkC (chooseM t fr (es.flatMap partsL))) :=
  choose_evG ht hl fr es he hs fun x hx p hp => by
    obtain ⟨d, _, sd⟩ := hs x hx
    exact partsL_good sd (hw x hx) p hp
def five : Ex := .mk 1 [] [] 0 (1, (5, ([], ()))) []
def pos0 : Ex := .mk 3 [] [] 0 (0, (0, ([], ()))) []
def eq5 : Ex := .mk 10 [] [] 0 (0, (0, ([], ()))) [pos0, five]
theorem small_five (d : Nat) : SmallD (d + 1) five := .mk _ _ _ _ _ _ _ (Nat.zero_le 3) (Nat.zero_le 200) (fun _ h => nomatch h)
theorem small_pos0 (d : Nat) : SmallD (d + 1) pos0 := .mk _ _ _ _ _ _ _ (Nat.zero_le 3) (Nat.zero_le 200) (fun _ h => nomatch h)
theorem small_eq5 : SmallD 2 eq5 := .mk _ _ _ _ _ _ _ (show 2 ≤ 3 by omega) (Nat.zero_le 200) (fun x h => by
  rcases List.mem_cons.1 h with rfl | h
  · exact small_pos0 0
  · rw [List.mem_singleton.1 h]; exact small_five 0)
theorem wfS_nil : wfS [] := ⟨Nat.zero_le _, fun x h => by cases h⟩
theorem wf_eq5 : wfE eq5 := by
  have h5 : wfE five := by unfold five wfE; exact ⟨rfl, wfS_nil, wfS_nil, rfl, ⟨rfl, rfl, wfS_nil⟩, Nat.zero_le _, by unfold wfEs; trivial⟩
  have h0 : wfE pos0 := by unfold pos0 wfE; exact ⟨rfl, wfS_nil, wfS_nil, rfl, ⟨rfl, rfl, wfS_nil⟩, Nat.zero_le _, by unfold wfEs; trivial⟩
  unfold eq5 wfE
  refine ⟨rfl, wfS_nil, wfS_nil, rfl, ⟨rfl, rfl, wfS_nil⟩, by decide, ?_⟩
  unfold wfEs
  refine ⟨h0, ?_⟩
  unfold wfEs
  refine ⟨h5, ?_⟩
  unfold wfEs; trivial
def tab5 : TabT := (1, ([], ([([107], (1, (false, ())))], (0, ([], ())))))
theorem choose5 : chooseM tab5 0 ([eq5].flatMap partsL) = (-1, ([2, 128, 0, 0, 0, 0, 0, 0, 1, 2, 128, 0, 0, 0, 0, 0, 0, 0, 2, 128, 0, 0, 0, 0, 0, 0, 5], [2, 128, 0, 0, 0, 0, 0, 0, 1, 2, 128, 0, 0, 0, 0, 0, 0, 0, 2, 128, 0, 0, 0, 0, 0, 0, 6])) := by rfl
theorem awake23 : Ev (fun k => law23_awake k) (true, ()) := by
  simp only [law23_awake_eq]
  have h := choose_ev (t := tab5) (i64_of (by decide) (by decide)) (Nat.zero_le _) 0 [eq5] (show 1 ≤ 10 by omega) (fun x hx => by rw [List.mem_singleton.1 hx]; exact ⟨2, by omega, small_eq5⟩) (fun x hx => by rw [List.mem_singleton.1 hx]; exact wf_eq5)
  rw [choose5] at h
  refine Ev.bind h ?_
  exact .from 0 fun k => rfl
def nv : VT := (0, (0, ([], ())))
def tv (b : Bool) : VT := (1, ((if b then 1 else 0), ([], ())))
abbrev OutT := (VT × (Int × Unit)) × (VT × Unit)
def pk (p : VT × Int) : OutT := ((p.1, (p.2, ())), (p.1, ()))
def partsM (op : Int) : Int := if op = 1 ∨ op = 2 ∨ op = 3 ∨ op = 20 then 0 else if op = 4 ∨ op = 16 ∨ op = 19 ∨ (21 ≤ op ∧ op ≤ 23) then 1 else if 5 ≤ op ∧ op ≤ 18 then 2 else -1
theorem parts_is (k : Nat) (op : Int) : expr_parts (k + 1) op = some (partsM op, ()) := by
  have j1 : ∀ b, expr_parts_j1 (k + 1) op b = some ((if b = true then 1 else if 5 ≤ op ∧ op ≤ 18 then 2 else -1), ()) := by
    intro b
    rw [expr_parts_j1_eq]
    cases b
    · rw [cond_false]
      by_cases h : 5 ≤ op
      · rw [bt h]
        by_cases h2 : op ≤ 18
        · rw [bt h2, if_neg (by simp), if_pos ⟨h, h2⟩]
        · rw [bf h2, if_neg (by simp), if_neg (by omega)]
      · rw [bf h, if_neg (by simp), if_neg (by omega)]
    · rw [cond_true, if_pos rfl]
  have j2 : ∀ b, expr_parts_j2 (k + 1) op b = some ((if b = true then 1 else if 5 ≤ op ∧ op ≤ 18 then 2 else -1), ()) := fun b => by rw [expr_parts_j2_eq, j1]
  have j3 : ∀ b, expr_parts_j3 (k + 1) op b = some ((if b = true then 1 else if 5 ≤ op ∧ op ≤ 18 then 2 else -1), ()) := fun b => by rw [expr_parts_j3_eq, j2]
  have j0 : ∀ b, expr_parts_j0 (k + 1) op b = some ((if b = true then 0 else if op = 4 ∨ op = 16 ∨ op = 19 ∨ (21 ≤ op ∧ op ≤ 23) then 1 else if 5 ≤ op ∧ op ≤ 18 then 2 else -1), ()) := by
    intro b
    rw [expr_parts_j0_eq]
    cases b
    · rw [cond_false, if_neg (show ¬ false = true by simp)]
      by_cases h4 : op = 4
      · rw [bt h4, j1, dT h4, if_pos rfl, if_pos (by omega)]
      rw [bf h4]
      by_cases h16 : op = 16
      · rw [bt h16, j2, dT h16, if_pos rfl, if_pos (by omega)]
      rw [bf h16]
      by_cases h19 : op = 19
      · rw [bt h19, j3, dT h19, if_pos rfl, if_pos (by omega)]
      rw [bf h19]
      by_cases h21 : 21 ≤ op
      · rw [bt h21, j3]
        by_cases h23 : op ≤ 23
        · rw [dT h23, if_pos rfl, if_pos (by omega)]
        · rw [dF h23, if_neg (by simp), if_neg (show ¬ (op = 4 ∨ op = 16 ∨ op = 19 ∨ 21 ≤ op ∧ op ≤ 23) by omega)]
      · rw [bf h21, j3, if_neg (by simp), if_neg (show ¬ (op = 4 ∨ op = 16 ∨ op = 19 ∨ 21 ≤ op ∧ op ≤ 23) by omega)]
    · rw [cond_true, if_pos rfl]
  rw [expr_parts_eq]
  unfold partsM
  by_cases h1 : op = 1
  · rw [bt h1, j0, dT h1, if_pos rfl, if_pos (by omega)]
  rw [bf h1]
  by_cases h2 : op = 2
  · rw [bt h2, expr_parts_j4_eq, j0, dT h2, if_pos rfl, if_pos (by omega)]
  rw [bf h2]
  by_cases h3 : op = 3
  · rw [bt h3, expr_parts_j5_eq, expr_parts_j4_eq, j0, dT h3, if_pos rfl, if_pos (by omega)]
  rw [bf h3, expr_parts_j5_eq, expr_parts_j4_eq, j0]
  by_cases h20 : op = 20
  · rw [dT h20, if_pos rfl, if_pos (by omega)]
  · rw [dF h20, if_neg (by simp), if_neg (show ¬ (op = 1 ∨ op = 2 ∨ op = 3 ∨ op = 20) by omega)]
theorem sum_is (k : Nat) (op : Int) : expr_sum k op = some (decide (20 ≤ op ∧ op ≤ 23), ()) := by
  rw [expr_sum_eq]
  by_cases h : 20 ≤ op
  · rw [bt h]
    by_cases h2 : op ≤ 23
    · rw [dT h2, dT ⟨h, h2⟩]
    · rw [dF h2, dF (by omega)]
  · rw [bf h, dF (by omega)]
theorem compares_is (k : Nat) (op : Int) : expr_compares k op = some (decide (10 ≤ op ∧ op ≤ 15), ()) := by
  rw [expr_compares_eq]
  by_cases h : 10 ≤ op
  · rw [bt h]
    by_cases h2 : op ≤ 15
    · rw [dT h2, dT ⟨h, h2⟩]
    · rw [dF h2, dF (by omega)]
  · rw [bf h, dF (by omega)]
theorem truth_is (k : Nat) (b : Bool) : expr_truth (k + 1) b = some (tv b, (tv b, ())) := by
  rw [expr_truth_eq]
  cases b
  · rw [cond_false, expr_truth_j0_eq]; rfl
  · rw [cond_true, expr_truth_j0_eq]; rfl
def wholeM (v : VT) : VT := if v.1 = 1 then v else nv
theorem whole_is (k : Nat) (v : VT) : expr_whole k v = some (wholeM v, (wholeM v, ())) := by
  rw [expr_whole_eq]
  unfold wholeM
  by_cases h : v.1 = 1
  · rw [dT h, Bool.not_true, cond_false, if_pos h]
  · rw [dF h, Bool.not_false, cond_true, if_neg h]; rfl
theorem isNaN_is (k : Nat) (a : Int) : cmp_isNaN_int k a = some (false, ()) := by rw [cmp_isNaN_int_eq, dT rfl]; rfl
theorem isNaN64_is (k : Nat) (a : Int) : cmp_isNaN_int64 k a = some (false, ()) := by rw [cmp_isNaN_int64_eq, dT rfl]; rfl
theorem cmpInt_is (k : Nat) (a b : Int) : cmp_Compare_int k a b = some ((if a < b then -1 else if b < a then 1 else 0), ()) := by
  rw [cmp_Compare_int_eq, isNaN_is, isNaN_is, Option.bind_some, Option.bind_some, cond_false, cond_false]
  by_cases h : a < b
  · rw [bt h, if_pos h]
  · rw [bf h, if_neg h]
    by_cases h2 : b < a
    · rw [bt h2, if_pos h2]
    · rw [bf h2, if_neg h2]
theorem cmpInt64_is (k : Nat) (a b : Int) : cmp_Compare_int64 k a b = some ((if a < b then -1 else if b < a then 1 else 0), ()) := by
  rw [cmp_Compare_int64_eq, isNaN64_is, isNaN64_is, Option.bind_some, Option.bind_some, cond_false, cond_false]
  by_cases h : a < b
  · rw [bt h, if_pos h]
  · rw [bf h, if_neg h]
    by_cases h2 : b < a
    · rw [bt h2, if_pos h2]
    · rw [bf h2, if_neg h2]
def sgn (a b : Int) : Int := if a < b then -1 else if b < a then 1 else 0
def ordM (a b : VT) : Int := if a.1 = b.1 then (if a.1 = 1 then sgn a.2.1 b.2.1 else if a.1 = 2 then cmpL a.2.2.1 b.2.2.1 else 0) else sgn a.1 b.1
theorem order_is (k : Nat) (a b : VT) : okey_order k a b = some (ordM a b, ()) := by
  rw [okey_order_eq]
  unfold ordM
  by_cases h : a.1 = b.1
  · rw [dT h, Bool.not_true, cond_false, if_pos h]
    by_cases h1 : a.1 = 1
    · rw [bt h1, if_pos h1, cmpInt64_is]; rfl
    · rw [bf h1, if_neg h1]
      by_cases h2 : a.1 = 2
      · rw [bt h2, if_pos h2, strings_Compare_eq, internal_bytealg_CompareString_eq, internal_bytealg_abigen_runtime_cmpstring_eq]; rfl
      · rw [bf h2, if_neg h2]
  · rw [dF h, Bool.not_false, cond_true, if_neg h, cmpInt_is]; rfl
def lessM (a b : VT) : Bool := decide (ordM a b < 0)
theorem less_is (k : Nat) (a b : VT) : okey_Less k a b = some (lessM a b, ()) := by
  rw [okey_Less_eq, show ((a.1, (a.2.1, (a.2.2.1, ()))) : VT) = a from rfl, show ((b.1, (b.2.1, (b.2.2.1, ()))) : VT) = b from rfl, order_is]; rfl
def cmpM (op : Int) (a b : VT) : VT :=
  if a.1 = 0 ∨ b.1 = 0 then nv else
  tv (if op = 10 then !lessM a b && !lessM b a else if op = 11 then lessM a b || lessM b a else if op = 12 then lessM a b else if op = 13 then !lessM b a else if op = 14 then lessM b a else !lessM a b)
theorem compare_is (k : Nat) (op : Int) (a b : VT) : expr_compare (k + 1) op a b = some (cmpM op a b, (cmpM op a b, ())) := by
  rw [expr_compare_eq]
  unfold cmpM
  by_cases h : a.1 = 0
  · rw [bt h, if_pos (.inl h)]; rfl
  rw [bf h]
  by_cases h2 : b.1 = 0
  · rw [bt h2, if_pos (.inr h2)]; rfl
  rw [bf h2, if_neg (show ¬ (a.1 = 0 ∨ b.1 = 0) by omega), show ((a.1, (a.2.1, (a.2.2.1, ()))) : VT) = a from rfl, show ((b.1, (b.2.1, (b.2.2.1, ()))) : VT) = b from rfl, less_is, less_is, Option.bind_some, Option.bind_some]
  simp only [truth_is, Option.bind_some]
  by_cases c : op = 10
  · rw [bt c, if_pos c]
    cases lessM a b <;> rfl
  rw [bf c, if_neg c]
  by_cases c : op = 11
  · rw [bt c, if_pos c]
    cases lessM a b <;> rfl
  rw [bf c, if_neg c]
  by_cases c : op = 12
  · rw [bt c, if_pos c]
  rw [bf c, if_neg c]
  by_cases c : op = 13
  · rw [bt c, if_pos c]
  rw [bf c, if_neg c]
  by_cases c : op = 14
  · rw [bt c, if_pos c]
  rw [bf c, if_neg c]
def bothM (o : Bool) (a b : VT) : VT :=
  if (a.1 = 1 ∧ decide (a.2.1 ≠ 0) = o) ∨ (b.1 = 1 ∧ decide (b.2.1 ≠ 0) = o) then tv o else if a.1 = 0 ∨ b.1 = 0 then nv else tv (!o)
theorem both_is (k : Nat) (o : Bool) (a b : VT) : expr_both (k + 3) o a b = some (bothM o a b, (bothM o a b, ())) := by
  have w01 : wr .i64 (0 + 1) = 1 := rfl
  have w12 : wr .i64 (1 + 1) = 2 := rfl
  rw [expr_both_eq, truth_is, Option.bind_some]
  have r2 : ∀ n w1 w2 w3, expr_both_l0 (k + 3) (n + 1) o (a, (b, ())) 2 a.1 a.2.1 a.2.2.1 b.1 b.2.1 b.2.2.1 w1 w2 w3 (tv o).1 (tv o).2.1 (tv o).2.2.1 = some ((if a.1 = 0 ∨ b.1 = 0 then nv else tv (!o)), ((if a.1 = 0 ∨ b.1 = 0 then nv else tv (!o)), ())) := by
    intro n w1 w2 w3
    rw [expr_both_l0_eq, bf (by omega)]
    by_cases h : a.1 = 0
    · rw [bt h, if_pos (.inl h)]; rfl
    rw [bf h]
    by_cases h2 : b.1 = 0
    · rw [bt h2, if_pos (.inr h2)]; rfl
    rw [bf h2, if_neg (show ¬ (a.1 = 0 ∨ b.1 = 0) by omega), truth_is]; rfl
  have bq : ∀ x : Int, beqB (!decide (x = 0)) o = decide (decide (x ≠ 0) = o) := by
    intro x; by_cases h : x = 0 <;> cases o <;> simp [beqB, h]
  have r1 : ∀ n w1 w2 w3, expr_both_l0 (k + 3) (n + 1 + 1) o (a, (b, ())) 1 a.1 a.2.1 a.2.2.1 b.1 b.2.1 b.2.2.1 w1 w2 w3 (tv o).1 (tv o).2.1 (tv o).2.2.1 = some ((if b.1 = 1 ∧ decide (b.2.1 ≠ 0) = o then tv o else if a.1 = 0 ∨ b.1 = 0 then nv else tv (!o)), ((if b.1 = 1 ∧ decide (b.2.1 ≠ 0) = o then tv o else if a.1 = 0 ∨ b.1 = 0 then nv else tv (!o)), ())) := by
    intro n w1 w2 w3
    rw [expr_both_l0_eq, bt (by omega), bf (by omega), bt rfl, w12, r2]
    by_cases h : b.1 = 1
    · rw [bt h, bq]
      by_cases h2 : decide (b.2.1 ≠ 0) = o
      · rw [bt h2, if_pos ⟨h, h2⟩]
      · rw [bf h2, if_neg (show ¬ (b.1 = 1 ∧ decide (b.2.1 ≠ 0) = o) from fun q => h2 q.2)]
    · rw [bf h, if_neg (show ¬ (b.1 = 1 ∧ decide (b.2.1 ≠ 0) = o) from fun q => h q.1)]
  show expr_both_l0 (k + 3) (k + 1 + 1 + 1) o (a, (b, ())) 0 a.1 a.2.1 a.2.2.1 b.1 b.2.1 b.2.2.1 0 0 [] (tv o).1 (tv o).2.1 (tv o).2.2.1 = _
  rw [expr_both_l0_eq, bt (by omega), bt rfl, w01, r1]
  unfold bothM
  by_cases h : a.1 = 1
  · rw [bt h, bq]
    by_cases h2 : decide (a.2.1 ≠ 0) = o
    · rw [bt h2, if_pos (.inl ⟨h, h2⟩)]
    · rw [bf h2]
      by_cases h3 : b.1 = 1 ∧ decide (b.2.1 ≠ 0) = o
      · rw [if_pos h3, if_pos (.inr h3)]
      · rw [if_neg h3, if_neg (show ¬ ((a.1 = 1 ∧ decide (a.2.1 ≠ 0) = o) ∨ (b.1 = 1 ∧ decide (b.2.1 ≠ 0) = o)) from fun q => q.elim (fun q => h2 q.2) h3)]
  · rw [bf h]
    by_cases h3 : b.1 = 1 ∧ decide (b.2.1 ≠ 0) = o
    · rw [if_pos h3, if_pos (.inr h3)]
    · rw [if_neg h3, if_neg (show ¬ ((a.1 = 1 ∧ decide (a.2.1 ≠ 0) = o) ∨ (b.1 = 1 ∧ decide (b.2.1 ≠ 0) = o)) from fun q => q.elim (fun q => h q.1) h3)]
def pkN (p : Int × Bool) : (Int × (Bool × Unit)) × Unit := ((p.1, (p.2, ())), ())
theorem neg_is (k : Nat) (a : Int) : ∃ p : Int × Bool, ∀ k, num_Neg k a = some (pkN p) := by
  by_cases h : decide ((wr .u64 a) = 9223372036854775808) = true
  · refine ⟨(0, false), fun k => ?_⟩
    rw [num_Neg_eq, num_least_eq, Option.bind_some, num_kept_eq]
    simp only [h]; rfl
  · refine ⟨(wr .i64 (0 - a), true), fun k => ?_⟩
    rw [num_Neg_eq, num_least_eq, Option.bind_some, num_kept_eq]
    simp only [h]; rfl
theorem kept_is (a : Int) (b : Bool) : ∃ p : Int × Bool, ∀ k, num_kept k a b = some (pkN p) := by
  cases b
  · exact ⟨(0, false), fun k => by rw [num_kept_eq]; rfl⟩
  · exact ⟨(a, true), fun k => by rw [num_kept_eq]; rfl⟩
theorem bindN {α : Type} {f : Nat → Option ((Int × (Bool × Unit)) × Unit)} (h : ∃ p : Int × Bool, ∀ k, f k = some (pkN p)) : ∃ p : Int × Bool, ∀ k, ((f k).bind fun r => some ((r.1.1, (r.1.2.1, ())), ())) = some (pkN p) := by
  obtain ⟨p, hp⟩ := h
  exact ⟨p, fun k => by rw [hp]; rfl⟩
theorem add_is (a b : Int) : ∃ p : Int × Bool, ∀ k, num_Add k a b = some (pkN p) := by
  simp only [num_Add_eq, num_same_eq, Option.bind_some]
  generalize decide (((Go.bits .xor .i64 a b) / 9223372036854775808) = 0) = c
  cases c
  · simp only [Bool.not_false, cond_true]
    exact bindN (α := Unit) (kept_is _ _)
  · simp only [Bool.not_true, cond_false]
    exact bindN (α := Unit) (kept_is _ _)
theorem sub_is (a b : Int) : ∃ p : Int × Bool, ∀ k, num_Sub k a b = some (pkN p) := by
  simp only [num_Sub_eq, num_same_eq, Option.bind_some]
  generalize decide (((Go.bits .xor .i64 a b) / 9223372036854775808) = 0) = c
  cases c
  · simp only [cond_false]
    exact bindN (α := Unit) (kept_is _ _)
  · simp only [cond_true]
    exact bindN (α := Unit) (kept_is _ _)
theorem mul_is (a b : Int) : ∃ p : Int × Bool, ∀ k, num_Mul k a b = some (pkN p) := by
  simp only [num_Mul_eq]
  by_cases h : a = 0
  · exact ⟨(0, true), fun k => by rw [bt h]; rfl⟩
  by_cases h2 : b = 0
  · exact ⟨(0, true), fun k => by rw [bf h, bt h2]; rfl⟩
  by_cases h3 : a = -1
  · simp only [bf h, bf h2, bt h3]
    exact bindN (α := Unit) (neg_is 0 _)
  by_cases h4 : b = -1
  · simp only [bf h, bf h2, bf h3, bt h4]
    exact bindN (α := Unit) (neg_is 0 _)
  simp only [bf h, bf h2, bf h3, bf h4, quoK, if_neg h2, Option.bind_some]
  exact bindN (α := Unit) (kept_is _ _)
theorem div_is (a b : Int) : ∃ p : Int × Bool, ∀ k, num_Div k a b = some (pkN p) := by
  simp only [num_Div_eq]
  by_cases h2 : b = 0
  · exact ⟨(0, false), fun k => by rw [bt h2]; rfl⟩
  by_cases h4 : b = -1
  · simp only [bf h2, bt h4]
    exact bindN (α := Unit) (neg_is 0 _)
  simp only [bf h2, bf h4, quoK, if_neg h2, Option.bind_some]
  exact ⟨(_, true), fun k => rfl⟩
theorem mod_is (a b : Int) : ∃ p : Int × Bool, ∀ k, num_Mod k a b = some (pkN p) := by
  simp only [num_Mod_eq]
  by_cases h2 : b = 0
  · exact ⟨(0, false), fun k => by rw [bt h2]; rfl⟩
  by_cases h4 : b = -1
  · exact ⟨(0, true), fun k => by rw [bf h2, bt h4]; rfl⟩
  simp only [bf h2, bf h4, remK, if_neg h2, Option.bind_some]
  exact ⟨(_, true), fun k => rfl⟩
theorem reckon_ex (op a b : Int) : ∃ p : Int × Bool, ∀ k, expr_reckon k op a b = some (pkN p) := by
  simp only [expr_reckon_eq]
  by_cases c : op = 4
  · simp only [bt c]; exact bindN (α := Unit) (neg_is 0 _)
  simp only [bf c]
  by_cases c : op = 5
  · simp only [bt c]; exact bindN (α := Unit) (add_is _ _)
  simp only [bf c]
  by_cases c : op = 6
  · simp only [bt c]; exact bindN (α := Unit) (sub_is _ _)
  simp only [bf c]
  by_cases c : op = 7
  · simp only [bt c]; exact bindN (α := Unit) (mul_is _ _)
  simp only [bf c]
  by_cases c : op = 8
  · simp only [bt c]; exact bindN (α := Unit) (div_is _ _)
  simp only [bf c]
  exact bindN (α := Unit) (mod_is _ _)
noncomputable def reckM (op a b : Int) : Int × Bool := Classical.choose (reckon_ex op a b)
theorem reckon_is (k : Nat) (op a b : Int) : expr_reckon k op a b = some (pkN (reckM op a b)) := Classical.choose_spec (reckon_ex op a b) k
noncomputable def applyM (op : Int) (a b : VT) : VT × Int :=
  if op = 16 then (if a = nv then (nv, 0) else (tv (decide (a.2.1 = 0)), 0)) else
  if op = 17 ∨ op = 18 then (bothM (decide (op = 18)) a b, 0) else
  if a = nv ∨ (b = nv ∧ op ≠ 4) then (nv, 0) else
  if (reckM op a.2.1 b.2.1).2 = true then ((1, ((reckM op a.2.1 b.2.1).1, ([], ()))), 0) else if b.2.1 = 0 ∧ (op = 8 ∨ op = 9) then (nv, 11) else (nv, 10)
abbrev TV3 : Ty := .st (.pair (.int .i64) (.pair (.int .i64) (.pair .str .unit)))
theorem decEqV (a b : VT) : Ty.decEq TV3 a b = decide (a = b) := by
  obtain ⟨a1, a2, a3, ⟨⟩⟩ := a
  obtain ⟨b1, b2, b3, ⟨⟩⟩ := b
  show (beqI a1 b1 && (beqI a2 b2 && (beqL a3 b3 && true))) = _
  by_cases h : a1 = b1
  · by_cases h2 : a2 = b2
    · by_cases h3 : a3 = b3
      · subst h h2 h3; simp [beqI, beqL]
      · simp [beqI, beqL, h, h2, h3]
    · simp [beqI, beqL, h, h2]
  · simp [beqI, h]
theorem decEqN (a : VT) : Ty.decEq (.st (.pair (.int .i64) (.pair (.int .i64) (.pair .str .unit)))) (a.1, (a.2.1, (a.2.2.1, ()))) ((0 : Int), ((0 : Int), ([], ()))) = decide (a = nv) := decEqV a nv
theorem apply_j0 (k : Nat) (op : Int) (c : Bool) (a b : VT) (w1 w2 : Int) (w3 : List Int) (hc : c = true ↔ (op = 17 ∨ op = 18)) (h16 : op ≠ 16) :
    expr_apply_j0 (k + 3) op c a.1 a.2.1 a.2.2.1 b.1 b.2.1 b.2.2.1 w1 w2 w3 0 0 [] = some (pk (applyM op a b)) := by
  rw [expr_apply_j0_eq (k + 2), show ((a.1, (a.2.1, (a.2.2.1, ()))) : VT) = a from rfl, show ((b.1, (b.2.1, (b.2.2.1, ()))) : VT) = b from rfl, show (((0 : Int), ((0 : Int), ([], ()))) : VT) = nv from rfl]
  unfold applyM
  rw [if_neg h16]
  by_cases h : op = 17 ∨ op = 18
  · rw [hc.2 h, cond_true, if_pos h, both_is]; rfl
  · have : c = false := by
      cases c
      · rfl
      · exact absurd (hc.1 rfl) h
    rw [this, cond_false, if_neg h, decEqN, decEqN, reckon_is]
    by_cases ha : a = nv
    · rw [bt ha, if_pos (.inl ha)]; rfl
    rw [bf ha]
    have tl : (some (pkN (reckM op a.2.1 b.2.1))).bind (fun r253 => (bif r253.1.2.1 then some ((((1 : Int), (r253.1.1, ([], ()))), ((0 : Int), ())), (((1 : Int), (r253.1.1, ([], ()))), ())) else (bif (decide (b.2.1 = 0)) then (bif (decide (op = 8)) then some ((nv, ((11 : Int), ())), (nv, ())) else (bif (decide (op = 9)) then some ((nv, ((11 : Int), ())), (nv, ())) else some ((nv, ((10 : Int), ())), (nv, ())))) else some ((nv, ((10 : Int), ())), (nv, ()))))) =
        some (pk (if (reckM op a.2.1 b.2.1).2 = true then (((1, ((reckM op a.2.1 b.2.1).1, ([], ()))) : VT), (0 : Int)) else if b.2.1 = 0 ∧ (op = 8 ∨ op = 9) then (nv, 11) else (nv, 10))) := by
      generalize reckM op a.2.1 b.2.1 = p
      obtain ⟨n, ok⟩ := p
      rw [Option.bind_some]
      cases ok
      · show (bif false then _ else _) = _
        rw [cond_false, if_neg (by simp)]
        by_cases hb : b.2.1 = 0
        · rw [bt hb]
          by_cases h8 : op = 8
          · rw [bt h8, if_pos ⟨hb, .inl h8⟩]; rfl
          rw [bf h8]
          by_cases h9 : op = 9
          · rw [bt h9, if_pos ⟨hb, .inr h9⟩]; rfl
          rw [bf h9, if_neg (by omega)]; rfl
        · rw [bf hb, if_neg (by omega)]; rfl
      · rfl
    by_cases hb : b = nv
    · rw [bt hb]
      by_cases h4 : op = 4
      · rw [dT h4, Bool.not_true, cond_false, if_neg (show ¬ (a = nv ∨ b = nv ∧ op ≠ 4) from fun q => q.elim ha (fun q => q.2 h4))]
        exact tl
      · rw [dF h4, Bool.not_false, cond_true, if_pos (.inr ⟨hb, h4⟩)]; rfl
    · rw [bf hb, if_neg (show ¬ (a = nv ∨ b = nv ∧ op ≠ 4) from fun q => q.elim ha (fun q => hb q.1))]
      exact tl
theorem apply_is (k : Nat) (op : Int) (a b : VT) : expr_apply (k + 3) op a b = some (pk (applyM op a b)) := by
  rw [expr_apply_eq, decEqN]
  by_cases h : op = 16
  · rw [bt h]
    unfold applyM
    rw [if_pos h]
    by_cases ha : a = nv
    · rw [bt ha, if_pos ha]; rfl
    · rw [bf ha, if_neg ha, truth_is (k + 2)]; rfl
  · rw [bf h]
    by_cases h17 : op = 17
    · rw [bt h17]
      exact apply_j0 k op _ a b 0 0 [] ⟨fun _ => .inl h17, fun _ => dT h17⟩ h
    · rw [bf h17]
      refine apply_j0 k op _ a b 0 0 [] ⟨fun q => .inr (of_decide_eq_true q), fun q => dT (by omega)⟩ h
/-- What is done with the parts. -/
noncomputable def finM (op : Int) (a b : VT) : VT × Int :=
  if op = 19 then (tv (decide (a.1 = 0)), 0) else if 10 ≤ op ∧ op ≤ 15 then (cmpM op a b, 0) else applyM op (wholeM a) (wholeM b)
abbrev FT := (Int × ((List Int) × ((List Int) × (Int × ((Int × (Int × ((List Int) × Unit))) × ((List Ex) × Unit)))))) → (List (Int × (Int × ((List Int) × Unit)))) → Option (((Int × (Int × ((List Int) × Unit))) × (Int × Unit)) × ((Int × (Int × ((List Int) × Unit))) × Unit))
noncomputable abbrev lp (F : FT) (k n : Nat) (r : List VT) (es : List Ex) (i : Int) (x : ExD) (w : VT) (a b : VT) : Option OutT :=
  expr_Eval_l0 F k n r es (es.length : Int) i x.1 x.2.1 x.2.2.1 x.2.2.2.1 x.2.2.2.2.1.1 x.2.2.2.2.1.2.1 x.2.2.2.2.1.2.2.1 x.2.2.2.2.2.1 w.1 w.2.1 w.2.2.1 a.1 a.2.1 a.2.2.1 b.1 b.2.1 b.2.2.1
theorem lp_end (F : FT) (k n : Nat) (r : List VT) (es : List Ex) (i : Int) (x : ExD) (w a b : VT) (h : ¬ i < es.length) : lp F (k + 3) (n + 1) r es i x w a b = some (pk (finM x.1 a b)) := by
  unfold lp
  rw [expr_Eval_l0_eq, bf h, show ((a.1, (a.2.1, (a.2.2.1, ()))) : VT) = a from rfl, show ((b.1, (b.2.1, (b.2.2.1, ()))) : VT) = b from rfl, truth_is, compares_is, compare_is, whole_is, whole_is]
  unfold finM
  by_cases c : x.1 = 19
  · rw [bt c, if_pos c]; rfl
  · rw [bf c, if_neg c, Option.bind_some]
    by_cases c2 : 10 ≤ x.1 ∧ x.1 ≤ 15
    · rw [bt c2, if_pos c2]; rfl
    · rw [bf c2, if_neg c2, Option.bind_some, Option.bind_some, apply_is]; rfl
theorem lp_bad (F : FT) (k n : Nat) (r : List VT) (es : List Ex) (i : Nat) (e : Ex) (x : ExD) (w a b v : VT) (c : Int) (he : es[i]? = some e) (h : F e.un r = some (pk (v, c))) (hc : c ≠ 0) :
    lp F k (n + 1) r es i x w a b = some (pk (nv, c)) := by
  have hl : (i : Int) < es.length := by have := (List.getElem?_eq_some_iff.1 he).1; omega
  unfold lp
  rw [expr_Eval_l0_eq, bt hl, nth_get he, Option.bind_some]
  refine (congrArg (fun o => Option.bind o _) h).trans ?_
  rw [Option.bind_some]
  show (bif (!decide (c = 0)) then _ else _) = _
  rw [dF hc]; rfl
theorem lp_0 (F : FT) (k n : Nat) (r : List VT) (es : List Ex) (e : Ex) (x : ExD) (w a b v : VT) (he : es[0]? = some e) (h : F e.un r = some (pk (v, 0))) :
    lp F k (n + 1) r es 0 x w a b = lp F k n r es 1 x w v b := by
  have hl : (0 : Int) < es.length := by have := (List.getElem?_eq_some_iff.1 he).1; omega
  unfold lp
  rw [expr_Eval_l0_eq, bt hl, show nth es 0 = some e from nth_get (j := 0) he, Option.bind_some]
  refine (congrArg (fun o => Option.bind o _) h).trans ?_
  rw [Option.bind_some]
  rfl
theorem lp_1 (F : FT) (k n : Nat) (r : List VT) (es : List Ex) (e : Ex) (x : ExD) (w a b v : VT) (he : es[1]? = some e) (h : F e.un r = some (pk (v, 0))) :
    lp F k (n + 1) r es 1 x w a b = lp F k n r es 2 x w a v := by
  have hl : (1 : Int) < es.length := by have := (List.getElem?_eq_some_iff.1 he).1; omega
  unfold lp
  rw [expr_Eval_l0_eq, bt hl, show nth es 1 = some e from nth_get (j := 1) he, Option.bind_some]
  refine (congrArg (fun o => Option.bind o _) h).trans ?_
  rw [Option.bind_some]
  rfl
def EV (x : ExD) (r : List VT) (p : VT × Int) : Prop := Ev (fun k => expr_Eval k x r) (pk p)
theorem partsM_cases (op : Int) : (op = 1 ∨ op = 2 ∨ op = 3 ∨ op = 20) ∧ partsM op = 0 ∨ (op = 4 ∨ op = 16 ∨ op = 19 ∨ (21 ≤ op ∧ op ≤ 23)) ∧ partsM op = 1 ∨ (5 ≤ op ∧ op ≤ 18 ∧ op ≠ 16) ∧ partsM op = 2 ∨ partsM op = -1 := by
  unfold partsM
  by_cases h : op = 1 ∨ op = 2 ∨ op = 3 ∨ op = 20
  · exact .inl ⟨h, if_pos h⟩
  rw [if_neg h]
  by_cases h2 : op = 4 ∨ op = 16 ∨ op = 19 ∨ (21 ≤ op ∧ op ≤ 23)
  · exact .inr (.inl ⟨h2, if_pos h2⟩)
  rw [if_neg h2]
  by_cases h3 : 5 ≤ op ∧ op ≤ 18
  · exact .inr (.inr (.inl ⟨by omega, if_pos h3⟩))
  · exact .inr (.inr (.inr (if_neg h3)))
def evBad (x : ExD) : Prop := partsM x.1 ≠ x.2.2.2.2.2.1.length ∨ x.1 = 2 ∨ (20 ≤ x.1 ∧ x.1 ≤ 23)
theorem eval_bad (x : ExD) (r : List VT) (h : evBad x) : EV x r (nv, 220) := by
  refine .from 2 fun k => ?_
  rw [expr_Eval_succ, expr_Eval_b_eq, parts_is, Option.bind_some, sum_is]
  by_cases c : partsM x.1 = x.2.2.2.2.2.1.length
  · rw [dT c, Bool.not_true, cond_false]
    by_cases c2 : x.1 = 2
    · rw [bt c2]; rfl
    · rw [bf c2, Option.bind_some, bt (h.elim (absurd c) fun q => q.elim (absurd · c2) id)]; rfl
  · rw [dF c]; rfl
theorem eval_go (k : Nat) (x : ExD) (r : List VT) (h : ¬ evBad x) (h1 : x.1 ≠ 1) (h3 : x.1 ≠ 3) : expr_Eval (k + 1) x r = lp (expr_Eval k) (k + 1) (k + 1) r x.2.2.2.2.2.1 0 x nv nv nv := by
  unfold evBad at h
  rw [expr_Eval_succ, expr_Eval_b_eq, parts_is, Option.bind_some, sum_is, dT (by omega), Bool.not_true, cond_false, bf (by omega), Option.bind_some, bf (by omega), bf h1, bf h3]
  rfl
theorem eval_lit (x : ExD) (r : List VT) (h : ¬ evBad x) (h1 : x.1 = 1) : EV x r (x.2.2.2.2.1, 0) := by
  refine .from 2 fun k => ?_
  unfold evBad at h
  rw [expr_Eval_succ, expr_Eval_b_eq, parts_is, Option.bind_some, sum_is, dT (by omega), Bool.not_true, cond_false, bf (by omega), Option.bind_some, bf (by omega), bt h1]
  rfl
theorem eval_pos (x : ExD) (r : List VT) (h : ¬ evBad x) (h3 : x.1 = 3) : EV x r ((if 0 ≤ x.2.2.2.1 then r[x.2.2.2.1.toNat]?.getD nv else nv), 0) := by
  refine .from 2 fun k => ?_
  unfold evBad at h
  rw [expr_Eval_succ, expr_Eval_b_eq, parts_is, Option.bind_some, sum_is, dT (by omega), Bool.not_true, cond_false, bf (by omega), Option.bind_some, bf (by omega), bf (by omega), bt h3]
  generalize x.2.2.2.1 = n
  by_cases c : n < 0
  · rw [bt c, if_neg (by omega)]; rfl
  · rw [bf c, if_pos (by omega)]
    by_cases c2 : (r.length : Int) ≤ n
    · rw [bt c2, List.getElem?_eq_none (by omega)]; rfl
    · rw [bf c2]
      have hl : n.toNat < r.length := by omega
      unfold nth
      rw [if_pos (by omega), List.getElem?_eq_getElem hl]; rfl
theorem eval_one (x : ExD) (r : List VT) (h : ¬ evBad x) (a : Ex) (ha : x.2.2.2.2.2.1 = [a]) {p : VT × Int} (h1 : EV a.un r p) : EV x r (if p.2 = 0 then finM x.1 p.1 nv else (nv, p.2)) := by
  have hp : partsM x.1 = 1 := by unfold evBad at h; rw [ha] at h; simp at h; exact h.1
  have := partsM_cases x.1
  obtain ⟨v, c⟩ := p
  obtain ⟨K, hK⟩ := h1
  refine ⟨K + 5, fun k hk => ?_⟩
  obtain ⟨j, rfl⟩ : ∃ j, k = j + 1 := ⟨k - 1, by omega⟩
  obtain ⟨i, rfl⟩ : ∃ i, j = i + 3 := ⟨j - 3, by omega⟩
  show expr_Eval (i + 3 + 1) x r = _
  rw [eval_go _ x r h (by omega) (by omega), ha]
  have hF : expr_Eval (i + 3) a.un r = some (pk (v, c)) := hK (i + 3) (by omega)
  by_cases hc : c = 0
  · subst hc
    rw [if_pos rfl, show lp (expr_Eval (i + 3)) (i + 3 + 1) (i + 3 + 1) r [a] 0 x nv nv nv = _ from lp_0 _ (i + 3 + 1) (i + 3) r [a] a x nv nv nv v rfl hF]
    exact lp_end _ (i + 1) (i + 2) r [a] 1 x nv v nv (by simp)
  · rw [if_neg hc]
    exact lp_bad _ (i + 3 + 1) (i + 3) r [a] 0 a x nv nv nv v c rfl hF hc
theorem eval_two1 (x : ExD) (r : List VT) (h : ¬ evBad x) (a b : Ex) (ha : x.2.2.2.2.2.1 = [a, b]) {p : VT × Int} (h1 : EV a.un r p) (hc : p.2 ≠ 0) : EV x r (nv, p.2) := by
  have hp : partsM x.1 = 2 := by unfold evBad at h; rw [ha] at h; simp at h; exact h.1
  have := partsM_cases x.1
  obtain ⟨v, c⟩ := p
  obtain ⟨K, hK⟩ := h1
  refine ⟨K + 5, fun k hk => ?_⟩
  obtain ⟨j, rfl⟩ : ∃ j, k = j + 1 := ⟨k - 1, by omega⟩
  show expr_Eval (j + 1) x r = _
  rw [eval_go _ x r h (by omega) (by omega), ha]
  exact lp_bad _ (j + 1) j r [a, b] 0 a x nv nv nv v c rfl (hK j (by omega)) hc
theorem eval_two (x : ExD) (r : List VT) (h : ¬ evBad x) (a b : Ex) (ha : x.2.2.2.2.2.1 = [a, b]) {v : VT} {p : VT × Int} (h1 : EV a.un r (v, 0)) (h2 : EV b.un r p) : EV x r (if p.2 = 0 then finM x.1 v p.1 else (nv, p.2)) := by
  have hp : partsM x.1 = 2 := by unfold evBad at h; rw [ha] at h; simp at h; exact h.1
  have := partsM_cases x.1
  obtain ⟨w, c⟩ := p
  obtain ⟨K, hK⟩ := h1
  obtain ⟨L, hL⟩ := h2
  refine ⟨K + L + 5, fun k hk => ?_⟩
  obtain ⟨j, rfl⟩ : ∃ j, k = j + 1 := ⟨k - 1, by omega⟩
  obtain ⟨i, rfl⟩ : ∃ i, j = i + 3 := ⟨j - 3, by omega⟩
  show expr_Eval (i + 3 + 1) x r = _
  rw [eval_go _ x r h (by omega) (by omega), ha]
  rw [show lp (expr_Eval (i + 3)) (i + 3 + 1) (i + 3 + 1) r [a, b] 0 x nv nv nv = _ from lp_0 _ (i + 3 + 1) (i + 3) r [a, b] a x nv nv nv v rfl (hK (i + 3) (by omega))]
  have hF : expr_Eval (i + 3) b.un r = some (pk (w, c)) := hL (i + 3) (by omega)
  by_cases hc : c = 0
  · subst hc
    rw [if_pos rfl, show lp (expr_Eval (i + 3)) (i + 3 + 1) (i + 3) r [a, b] 1 x nv v nv = _ from lp_1 _ (i + 3 + 1) (i + 2) r [a, b] b x nv v nv w rfl hF]
    exact lp_end _ (i + 1) (i + 1) r [a, b] 2 x nv v w (by simp)
  · rw [if_neg hc]
    exact lp_bad _ (i + 3 + 1) (i + 2) r [a, b] 1 b x nv v nv w c rfl hF hc
theorem eval_ex : (e : Ex) → (r : List VT) → ∃ p, EV e.un r p
  | .mk op t n m v es, r => by
    by_cases h : evBad (Ex.mk op t n m v es).un
    · exact ⟨_, eval_bad _ r h⟩
    have hp : partsM op = es.length := Classical.byContradiction fun q => h (.inl q)
    have := partsM_cases op
    match es, h, hp with
    | [], h, hp =>
      simp at hp
      by_cases h1 : op = 1
      · exact ⟨_, eval_lit _ r h h1⟩
      · have h3 : op = 3 := Classical.byContradiction fun q => h (.inr (by show op = 2 ∨ (20 ≤ op ∧ op ≤ 23); omega))
        exact ⟨_, eval_pos _ r h h3⟩
    | [a], h, hp =>
      obtain ⟨p, hp⟩ := eval_ex a r
      exact ⟨_, eval_one _ r h a rfl hp⟩
    | [a, b], h, hp =>
      obtain ⟨p, hp⟩ := eval_ex a r
      by_cases hc : p.2 = 0
      · obtain ⟨v, c⟩ := p
        cases hc
        obtain ⟨q, hq⟩ := eval_ex b r
        exact ⟨_, eval_two _ r h a b rfl hp hq⟩
      · exact ⟨_, eval_two1 _ r h a b rfl hp hc⟩
    | a :: b :: c :: es, h, hp => simp at hp; omega
abbrev ColT := (List Int) × (Int × (Bool × Unit))
abbrev ScT := (List Int) × (TabT × (Int × Unit))
def kindM : List ScT → Int → Int
  | [], _ => 0
  | s :: r, a => if 0 ≤ wr .i64 (a - s.2.2.1) ∧ wr .i64 (a - s.2.2.1) < s.2.1.2.2.1.length then ((s.2.1.2.2.1[(wr .i64 (a - s.2.2.1)).toNat]?).map (·.2.1)).getD 0 else kindM r a
theorem kind_loop (l : List ScT) (a : Int) (hl : l.length ≤ 9223372036854775807) : ∀ m j, j + m = l.length → Ev2 (fun k n => expr_kind_l0 k n a l (l.length : Int) (j : Int)) (kindM (l.drop j) a, ())
  | 0, j, hj => by
    refine .up ?_
    simp only [expr_kind_l0_eq, bf (show ¬ (j : Int) < l.length by omega)]
    rw [List.drop_eq_nil_of_le (by omega)]
    exact .ret
  | m + 1, j, hj => by
    have hx : l[j]? = some l[j] := List.getElem?_eq_getElem (by omega)
    refine .up ?_
    simp only [expr_kind_l0_eq, bt (show (j : Int) < l.length by omega), nth_get hx, Option.bind_some, wr_nx (show j < l.length by omega) hl]
    have ih := kind_loop l a hl m (j + 1) (by omega)
    rw [List.drop_eq_getElem_cons (show j < l.length by omega)]
    unfold kindM
    by_cases h1 : 0 ≤ wr .i64 (a - l[j].2.2.1)
    · by_cases h2 : wr .i64 (a - l[j].2.2.1) < l[j].2.1.2.2.1.length
      · have hlt : (wr .i64 (a - l[j].2.2.1)).toNat < l[j].2.1.2.2.1.length := by omega
        have hn : nth l[j].2.1.2.2.1 (wr .i64 (a - l[j].2.2.1)) = some (l[j].2.1.2.2.1[(wr .i64 (a - l[j].2.2.1)).toNat]) := by
          unfold nth; rw [if_pos h1, List.getElem?_eq_getElem hlt]
        simp only [bt h1, bt h2, hn, Option.bind_some, if_pos (And.intro h1 h2), List.getElem?_eq_getElem hlt]
        exact .ret
      · simp only [bt h1, bf h2, if_neg (show ¬ (0 ≤ wr .i64 (a - l[j].2.2.1) ∧ wr .i64 (a - l[j].2.2.1) < l[j].2.1.2.2.1.length) from fun q => h2 q.2)]
        exact ih
    · simp only [bf h1, if_neg (show ¬ (0 ≤ wr .i64 (a - l[j].2.2.1) ∧ wr .i64 (a - l[j].2.2.1) < l[j].2.1.2.2.1.length) from fun q => h1 q.1)]
      exact ih
theorem kind_ev (l : List ScT) (a : Int) (hl : l.length ≤ 9223372036854775807) : Ev (fun k => expr_kind k l a) (kindM l a, ()) := by
  simp only [expr_kind_eq]
  have := kind_loop l a hl l.length 0 (by omega)
  exact this.dg
def placeM (l : List ScT) (n : Int) : Int := if n < 0 ∨ 1048576 < n then 0 else kindM l n
theorem place_ev (l : List ScT) (a : Int) (hl : l.length ≤ 9223372036854775807) : Ev (fun k => expr_place k l a) (placeM l a, ()) := by
  simp only [expr_place_eq]
  unfold placeM
  by_cases h : a < 0
  · simp only [bt h, if_pos (Or.inl h : a < 0 ∨ 1048576 < a)]; exact .ret
  by_cases h2 : 1048576 < a
  · simp only [bf h, bt h2, if_pos (Or.inr h2 : a < 0 ∨ 1048576 < a)]; exact .ret
  simp only [bf h, bf h2, if_neg (show ¬ (a < 0 ∨ 1048576 < a) by omega)]
  exact (kind_ev l a hl).bind .ret
theorem col_l1 (t n : List Int) (l : List ScT) (s : ScT) (i : Int) (hl : s.2.1.2.2.1.length ≤ 9223372036854775807)
    (next : ∀ a c, ∃ r : Int × Int, Ev2 (fun k m => cat_Column_l0 k m t n a c l (l.length : Int) (wr .i64 (i + 1))) ((r.1, (r.2, ())), ())) :
    ∀ m j a c, j + m = s.2.1.2.2.1.length → ∃ r : Int × Int, Ev3 (fun k m n1 => cat_Column_l1 k m n1 t n a c l (l.length : Int) i s.2.1.2.2.1 (s.2.1.2.2.1.length : Int) (j : Int) s.1 s.2.1.1 s.2.1.2.1 s.2.1.2.2.1 s.2.1.2.2.2.1 s.2.1.2.2.2.2.1 s.2.2.1) ((r.1, (r.2, ())), ())
  | 0, j, a, c, hj => by
    obtain ⟨r, hr⟩ := next a c
    refine ⟨r, .up ?_⟩
    simp only [cat_Column_l1_eq, bf (show ¬ (j : Int) < s.2.1.2.2.1.length by omega)]
    exact hr.e3
  | m + 1, j, a, c, hj => by
    have hx : s.2.1.2.2.1[j]? = some s.2.1.2.2.1[j] := List.getElem?_eq_getElem (by omega)
    by_cases h : s.2.1.2.2.1[j].1 = n
    · obtain ⟨r, hr⟩ := col_l1 t n l s i hl next m (j + 1) (wr .i64 (s.2.2.1 + j)) (wr .i64 (c + 1)) (by omega)
      refine ⟨r, .up (.upk ?_)⟩
      simp only [cat_Column_l1_eq, bt (show (j : Int) < s.2.1.2.2.1.length by omega), nth_get hx, Option.bind_some, beqL, bt h, cat_Column_j0_eq, wr_nx (show j < s.2.1.2.2.1.length by omega) hl]
      obtain ⟨K, hK⟩ := hr
      exact ⟨K, fun k n m hk hn hm => hK (k + 1) n m (by omega) hn hm⟩
    · obtain ⟨r, hr⟩ := col_l1 t n l s i hl next m (j + 1) a c (by omega)
      refine ⟨r, .up (.upk ?_)⟩
      simp only [cat_Column_l1_eq, bt (show (j : Int) < s.2.1.2.2.1.length by omega), nth_get hx, Option.bind_some, beqL, bf h, cat_Column_j0_eq, wr_nx (show j < s.2.1.2.2.1.length by omega) hl]
      obtain ⟨K, hK⟩ := hr
      exact ⟨K, fun k n m hk hn hm => hK (k + 1) n m (by omega) hn hm⟩
theorem col_l0 (t n : List Int) (l : List ScT) (hl : l.length ≤ 9223372036854775807) (hc : ∀ s ∈ l, s.2.1.2.2.1.length ≤ 9223372036854775807) :
    ∀ m j a c, j + m = l.length → ∃ r : Int × Int, Ev2 (fun k m => cat_Column_l0 k m t n a c l (l.length : Int) (j : Int)) ((r.1, (r.2, ())), ())
  | 0, j, a, c, hj => by
    by_cases h : c = 1
    · refine ⟨(a, 0), .up ?_⟩
      simp only [cat_Column_l0_eq, bf (show ¬ (j : Int) < l.length by omega), dT h, Bool.not_true, cond_false]
      exact .ret
    · refine ⟨(0, 221), .up ?_⟩
      simp only [cat_Column_l0_eq, bf (show ¬ (j : Int) < l.length by omega), dF h, Bool.not_false, cond_true]
      exact .ret
  | m + 1, j, a, c, hj => by
    have hx : l[j]? = some l[j] := List.getElem?_eq_getElem (by omega)
    have e : wr .i64 ((j : Int) + 1) = ((j + 1 : Nat) : Int) := wr_nx (show j < l.length by omega) hl
    have ih := fun a c => col_l0 t n l hl hc m (j + 1) a c (by omega)
    have l1 := col_l1 t n l l[j] j (hc _ (List.getElem_mem _)) (by rw [e]; exact ih) l[j].2.1.2.2.1.length 0 a c (by omega)
    by_cases h1 : t = []
    · obtain ⟨r, hr⟩ := l1
      refine ⟨r, .up ?_⟩
      simp only [cat_Column_l0_eq, bt (show (j : Int) < l.length by omega), nth_get hx, Option.bind_some, beqL, dT h1, Bool.not_true, cond_false]
      exact hr.dg
    · by_cases h2 : l[j].1 = t
      · obtain ⟨r, hr⟩ := l1
        refine ⟨r, .up ?_⟩
        simp only [cat_Column_l0_eq, bt (show (j : Int) < l.length by omega), nth_get hx, Option.bind_some, beqL, dF h1, Bool.not_false, cond_true, dT h2, Bool.not_true, cond_false]
        exact hr.dg
      · obtain ⟨r, hr⟩ := ih a c
        refine ⟨r, .up ?_⟩
        simp only [cat_Column_l0_eq, bt (show (j : Int) < l.length by omega), nth_get hx, Option.bind_some, beqL, dF h1, Bool.not_false, cond_true, dF h2, e]
        exact hr
theorem col_ex (l : List ScT) (t n : List Int) (hl : l.length ≤ 9223372036854775807) (hc : ∀ s ∈ l, s.2.1.2.2.1.length ≤ 9223372036854775807) : ∃ r : Int × Int, Ev (fun k => cat_Column k l t n) ((r.1, (r.2, ())), ()) := by
  obtain ⟨r, hr⟩ := col_l0 t n l hl hc l.length 0 0 0 (by omega)
  refine ⟨r, ?_⟩
  simp only [cat_Column_eq]
  exact hr.dg
/-- Few parts everywhere. -/
inductive Small : Ex → Prop
  | mk (op : Int) (t n : List Int) (m : Int) (v : Int × (Int × (List Int × Unit))) (es : List Ex) : es.length ≤ 3 → (∀ x ∈ es, Small x) → Small (.mk op t n m v es)
theorem sums_loop (es : List Ex) (hl : es.length ≤ 3) (ih : ∀ x ∈ es, ∃ b, Ev (fun k => expr_Sums k x.un) (b, ())) :
    ∀ m j, j + m = es.length → ∃ r : Int, (0 ≤ r ∨ (r = -1 ∧ ∀ x ∈ es.drop j, Ev (fun k => expr_Sums k x.un) (false, ()))) ∧ ∃ K, ∀ k n, K ≤ k → m < n →
      slices_IndexFunc_Expr_Expr_expr_Sums_l0 (expr_Sums k) (k + 1) n es (es.length : Int) (j : Int) = some (r, ())
  | 0, j, hj => ⟨-1, .inr ⟨rfl, by rw [List.drop_eq_nil_of_le (by omega)]; simp⟩, 0, fun k n _ hn => by
      obtain ⟨i, rfl⟩ : ∃ i, n = i + 1 := ⟨n - 1, by omega⟩
      rw [slices_IndexFunc_Expr_Expr_expr_Sums_l0_eq, bf (by omega)]⟩
  | m + 1, j, hj => by
    have hx : es[j]? = some es[j] := List.getElem?_eq_getElem (by omega)
    obtain ⟨b, K, hK⟩ := ih es[j] (List.getElem_mem _)
    obtain ⟨r, hr, L, hL⟩ := sums_loop es hl ih m (j + 1) (by omega)
    cases b with
    | true =>
      refine ⟨j, .inl (by omega), K, fun k n hk hn => ?_⟩
      obtain ⟨i, rfl⟩ : ∃ i, n = i + 1 := ⟨n - 1, by omega⟩
      rw [slices_IndexFunc_Expr_Expr_expr_Sums_l0_eq, bt (by omega), nth_get hx, Option.bind_some]
      exact (congrArg (fun o => Option.bind o _) (hK k (by omega))).trans rfl
    | false =>
      refine ⟨r, hr.imp id fun q => ⟨q.1, ?_⟩, K + L, fun k n hk hn => ?_⟩
      · rw [List.drop_eq_getElem_cons (by omega)]
        intro x hx
        rcases List.mem_cons.1 hx with rfl | hx
        · exact ⟨K, hK⟩
        · exact q.2 x hx
      obtain ⟨i, rfl⟩ : ∃ i, n = i + 1 := ⟨n - 1, by omega⟩
      rw [slices_IndexFunc_Expr_Expr_expr_Sums_l0_eq, bt (by omega), nth_get hx, Option.bind_some]
      refine (congrArg (fun o => Option.bind o _) (hK k (by omega))).trans ?_
      rw [Option.bind_some]
      show slices_IndexFunc_Expr_Expr_expr_Sums_l0 (expr_Sums k) (k + 1) i es (es.length : Int) (wr .i64 ((j : Int) + 1)) = _
      rw [wr_i64 (by omega)]
      exact hL k i (by omega) (by omega)
theorem sums_ex : (e : Ex) → Small e → ∃ b, Ev (fun k => expr_Sums k e.un) (b, ()) ∧ (b = false → ¬ (20 ≤ e.un.1 ∧ e.un.1 ≤ 23) ∧ ∀ x ∈ e.un.2.2.2.2.2.1, Ev (fun k => expr_Sums k x.un) (false, ()))
  | .mk op t n m v es, hs => by
    have hl : es.length ≤ 3 := by cases hs; assumption
    have hm : ∀ x ∈ es, Small x := by cases hs; assumption
    by_cases h : 20 ≤ op ∧ op ≤ 23
    · refine ⟨true, .from 1 fun k => ?_, nofun⟩
      rw [expr_Sums_succ, expr_Sums_b_eq, sum_is]
      show (bif decide (20 ≤ op ∧ op ≤ 23) then _ else _) = _
      rw [bt h]
    have ih : ∀ x ∈ es, ∃ b, Ev (fun k => expr_Sums k x.un) (b, ()) := fun x hx => by
      obtain ⟨b, hb, _⟩ := sums_ex x (hm x hx)
      exact ⟨b, hb⟩
    obtain ⟨r, hr, K, hK⟩ := sums_loop es hl ih es.length 0 (by omega)
    refine ⟨decide (0 ≤ r), ⟨K + es.length + 1, fun k hk => ?_⟩, fun hb => ⟨h, ?_⟩⟩
    · obtain ⟨i, rfl⟩ : ∃ i, k = i + 1 := ⟨k - 1, by omega⟩
      show expr_Sums (i + 1) _ = _
      rw [expr_Sums_succ, expr_Sums_b_eq, sum_is]
      show (bif decide (20 ≤ op ∧ op ≤ 23) then _ else _) = _
      rw [bf h, slices_ContainsFunc_Expr_Expr_expr_Sums_eq, slices_IndexFunc_Expr_Expr_expr_Sums_eq]
      have := hK i (i + 1) (by omega) (by omega)
      refine (congrArg (fun o => Option.bind (Option.bind o _) _) this).trans ?_
      rfl
    · have hb := of_decide_eq_false hb
      rcases hr with hr | ⟨_, hr⟩
      · exact absurd hr hb
      · exact hr
termination_by e _ => SizeOf.sizeOf e
decreasing_by
  have := List.sizeOf_lt_of_mem hx
  simp; omega
abbrev BOut := (ExD × (Int × (Int × Unit))) × ((Int × ((List Int) × ((List Int) × (Int × (Int × (Int × ((List Int) × ((List Ex) × Unit)))))))) × Unit)
def outB (y : ExD) (kd bad : Int) : BOut := ((y, (kd, (bad, ()))), ((y.1, (y.2.1, (y.2.2.1, (y.2.2.2.1, (y.2.2.2.2.1.1, (y.2.2.2.2.1.2.1, (y.2.2.2.2.1.2.2.1, (y.2.2.2.2.2.1, ())))))))), ()))
def zE : ExD := (0, ([], ([], (0, (nv, ([], ()))))))
def outX (x : ExD) (ys : List Ex) : ExD := (x.1, (x.2.1, (x.2.2.1, (x.2.2.2.1, (x.2.2.2.2.1, (ys, ()))))))
abbrev FB := (List ScT) → ExD → Option BOut
def BV (l : List ScT) (x : ExD) (y : ExD) (kd bad : Int) : Prop := Ev (fun k => expr_Bind k l x) (outB y kd bad)
noncomputable abbrev lpB (F : FB) (k n : Nat) (l : List ScT) (nl : Bool) (ks : List Int) (es : List Ex) (i : Int) (x : ExD) (ys : List Ex) : Option BOut :=
  expr_Bind_l0 F k n l nl ks es (es.length : Int) i x.1 x.2.1 x.2.2.1 x.2.2.2.1 x.2.2.2.2.1.1 x.2.2.2.2.1.2.1 x.2.2.2.2.1.2.2.1 x.2.2.2.2.2.1 0 [] [] 0 0 0 [] [] x.1 x.2.1 x.2.2.1 x.2.2.2.1 x.2.2.2.2.1.1 x.2.2.2.2.1.2.1 x.2.2.2.2.1.2.2.1 ys
theorem lpB_bad (F : FB) (k n : Nat) (l : List ScT) (nl : Bool) (ks : List Int) (es : List Ex) (i : Nat) (e : Ex) (x : ExD) (ys : List Ex) (y : ExD) (kd bad : Int) (he : es[i]? = some e) (h : F l e.un = some (outB y kd bad)) (hb : bad ≠ 0) :
    lpB F k (n + 1) l nl ks es i x ys = some (outB zE 0 bad) := by
  have hl : (i : Int) < es.length := by have := (List.getElem?_eq_some_iff.1 he).1; omega
  unfold lpB
  rw [expr_Bind_l0_eq, bt hl, nth_get he, Option.bind_some]
  refine (congrArg (fun o => Option.bind o _) h).trans ?_
  rw [Option.bind_some]
  show (bif (!decide (bad = 0)) then _ else _) = _
  rw [dF hb]; rfl
theorem lim_le {α : Type} {n : Nat} {x : Option α} (h : n ≤ 100) : lim n x = x := by unfold lim; rw [if_pos]; exact Nat.le_trans h (by decide)
theorem lpB_next (F : FB) (k n : Nat) (l : List ScT) (nl : Bool) (ks : List Int) (es : List Ex) (i : Nat) (e : Ex) (x : ExD) (ys : List Ex) (y : ExD) (kd : Int) (he : es[i]? = some e) (h : F l e.un = some (outB y kd 0)) (hs : ¬ (20 ≤ x.1 ∧ x.1 ≤ 23))
    (h1 : ys.length ≤ 50) (h2 : ks.length ≤ 50) (hlen : es.length ≤ 3) :
    lpB F k (n + 1) l nl ks es i x ys = lpB F k n l (nl && [kd].isEmpty) (ks ++ [kd]) es ((i + 1 : Nat) : Int) x (ys ++ [Ex.re y]) := by
  have hl : (i : Int) < es.length := by have := (List.getElem?_eq_some_iff.1 he).1; omega
  unfold lpB
  rw [expr_Bind_l0_eq, bt hl, nth_get he, Option.bind_some]
  refine (congrArg (fun o => Option.bind o _) h).trans ?_
  rw [Option.bind_some]
  show (bif (!decide ((0 : Int) = 0)) then _ else (expr_sum k x.1).bind _) = _
  rw [dT rfl, Bool.not_true, cond_false, sum_is, Option.bind_some]
  show (bif decide (20 ≤ x.1 ∧ x.1 ≤ 23) then _ else lim _ (lim _ _)) = _
  rw [bf hs, lim_le (by simp; omega), lim_le (by simp; omega), wr_nx (show i < es.length by omega) (by omega)]
  rfl
theorem lpB_sum (F : FB) (k n : Nat) (l : List ScT) (nl : Bool) (ks : List Int) (es : List Ex) (i : Nat) (e : Ex) (x : ExD) (ys : List Ex) (y : ExD) (kd : Int) (he : es[i]? = some e) (h : F l e.un = some (outB y kd 0)) (hs : (20 ≤ x.1 ∧ x.1 ≤ 23))
    (h1 : ys.length ≤ 50) (h2 : ks.length ≤ 50) (hlen : es.length ≤ 3) (s : Bool) (hS : expr_Sums k y = some (s, ())) :
    lpB F k (n + 1) l nl ks es i x ys = bif s then some (outB zE 0 220) else lpB F k n l (nl && [kd].isEmpty) (ks ++ [kd]) es ((i + 1 : Nat) : Int) x (ys ++ [Ex.re y]) := by
  have hl : (i : Int) < es.length := by have := (List.getElem?_eq_some_iff.1 he).1; omega
  unfold lpB
  rw [expr_Bind_l0_eq, bt hl, nth_get he, Option.bind_some]
  refine (congrArg (fun o => Option.bind o _) h).trans ?_
  rw [Option.bind_some]
  show (bif (!decide ((0 : Int) = 0)) then _ else (expr_sum k x.1).bind _) = _
  rw [dT rfl, Bool.not_true, cond_false, sum_is, Option.bind_some]
  show (bif decide (20 ≤ x.1 ∧ x.1 ≤ 23) then (expr_Sums k y).bind _ else _) = _
  rw [bt hs, hS, Option.bind_some]
  cases s
  · show lim _ (lim _ _) = _
    rw [lim_le (by simp; omega), lim_le (by simp; omega), wr_nx (show i < es.length by omega) (by omega)]
    rfl
  · rfl
theorem idx_ex (ks : List Int) (v : Int) (hl : ks.length ≤ 50) : ∀ m j, j + m = ks.length → ∃ r, ∀ k n, m < n → slices_Index_s_int_int_l0 k n ks v (ks.length : Int) (j : Int) = some (r, ())
  | 0, j, hj => ⟨-1, fun k n hn => by
      obtain ⟨i, rfl⟩ : ∃ i, n = i + 1 := ⟨n - 1, by omega⟩
      rw [slices_Index_s_int_int_l0_eq, bf (by omega)]⟩
  | m + 1, j, hj => by
    have hx : ks[j]? = some ks[j] := List.getElem?_eq_getElem (by omega)
    by_cases h : v = ks[j]
    · refine ⟨j, fun k n hn => ?_⟩
      obtain ⟨i, rfl⟩ : ∃ i, n = i + 1 := ⟨n - 1, by omega⟩
      rw [slices_Index_s_int_int_l0_eq, bt (by omega), nth_get hx, Option.bind_some, bt h]
    · obtain ⟨r, hr⟩ := idx_ex ks v hl m (j + 1) (by omega)
      refine ⟨r, fun k n hn => ?_⟩
      obtain ⟨i, rfl⟩ : ∃ i, n = i + 1 := ⟨n - 1, by omega⟩
      rw [slices_Index_s_int_int_l0_eq, bt (by omega), nth_get hx, Option.bind_some, bf h, wr_nx (show j < ks.length by omega) (by omega)]
      exact hr k i (by omega)
theorem contains_ex (ks : List Int) (v : Int) (hl : ks.length ≤ 50) : ∃ b, ∀ k, ks.length < k → slices_Contains_s_int_int k ks v = some (b, ()) := by
  obtain ⟨r, hr⟩ := idx_ex ks v hl ks.length 0 (by omega)
  refine ⟨decide (0 ≤ r), fun k hk => ?_⟩
  rw [slices_Contains_s_int_int_eq, slices_Index_s_int_int_eq]
  refine (congrArg (fun o => Option.bind o _) (hr k k hk)).trans rfl
theorem fits_ex (op : Int) (ks : List Int) (hl : ks.length ≤ 50) (h : 10 ≤ op ∧ op ≤ 15 → ks.length = 2) : ∃ b, ∀ k, ks.length < k → expr_fits k op ks = some (b, ()) := by
  by_cases h19 : op = 19
  · exact ⟨true, fun k _ => by rw [expr_fits_eq, bt h19]⟩
  by_cases hc : 10 ≤ op ∧ op ≤ 15
  · obtain ⟨a, b, rfl⟩ : ∃ a b, ks = [a, b] := by
      match ks, h hc with
      | [a, b], _ => exact ⟨a, b, rfl⟩
    have e0 : nth [a, b] 0 = some a := rfl
    have e1 : nth [a, b] 1 = some b := rfl
    by_cases h1 : a = b
    · exact ⟨true, fun k _ => by rw [expr_fits_eq, bf h19, compares_is, Option.bind_some, bt hc, e0, e1, Option.bind_some, Option.bind_some, bt h1]⟩
    by_cases h2 : a = 0
    · exact ⟨true, fun k _ => by rw [expr_fits_eq, bf h19, compares_is, Option.bind_some, bt hc, e0, e1, Option.bind_some, Option.bind_some, bf h1, Option.bind_some, bt h2]⟩
    · exact ⟨decide (b = 0), fun k _ => by rw [expr_fits_eq, bf h19, compares_is, Option.bind_some, bt hc, e0, e1, Option.bind_some, Option.bind_some, bf h1, Option.bind_some, bf h2, Option.bind_some]⟩
  · obtain ⟨b, hb⟩ := contains_ex ks 2 hl
    refine ⟨!b, fun k hk => ?_⟩
    rw [expr_fits_eq, bf h19, compares_is, Option.bind_some, bf hc, hb k hk]; rfl
theorem end_other (l : List ScT) (nl : Bool) (ks : List Int) (es : List Ex) (i : Int) (x : ExD) (ys : List Ex) (hi : ¬ i < es.length) (h1 : x.1 ≠ 1) (h2 : x.1 ≠ 2) (h3 : x.1 ≠ 3) (h22 : x.1 ≠ 22) (h23 : x.1 ≠ 23) (hk : ks.length ≤ 50) (hc : 10 ≤ x.1 ∧ x.1 ≤ 15 → ks.length = 2) :
    ∃ b : Bool, ∀ (F : FB) k n, ks.length ≤ k → lpB F (k + 1) (n + 1) l nl ks es i x ys = some (bif b then outB (outX x ys) 1 0 else outB zE 0 220) := by
  obtain ⟨b, hb⟩ := fits_ex x.1 ks hk hc
  refine ⟨b, fun F k n hn => ?_⟩
  unfold lpB
  rw [expr_Bind_l0_eq, bf hi, bf h1, bf h2, bf h3, bf h22, dF h23, expr_Bind_j0_eq, cond_false, hb (k + 1) (by omega), Option.bind_some]
  cases b <;> rfl
theorem end_min (F : FB) (l : List ScT) (nl : Bool) (k0 : Int) (ks : List Int) (es : List Ex) (i : Int) (x : ExD) (ys : List Ex) (hi : ¬ i < es.length) (h : x.1 = 22 ∨ x.1 = 23) :
    ∀ k n, lpB F (k + 1) (n + 1) l nl (k0 :: ks) es i x ys = some (outB (outX x ys) k0 0) := by
  intro k n
  have e0 : nth (k0 :: ks) 0 = some k0 := rfl
  unfold lpB
  rw [expr_Bind_l0_eq, bf hi, bf (by omega), bf (by omega), bf (by omega)]
  by_cases h22 : x.1 = 22
  · rw [bt h22, dT h22, expr_Bind_j0_eq, cond_true, e0]; rfl
  · rw [bf h22, dT (by omega), expr_Bind_j0_eq, cond_true, e0]; rfl
theorem end_lit (F : FB) (l : List ScT) (nl : Bool) (ks : List Int) (es : List Ex) (i : Int) (x : ExD) (ys : List Ex) (hi : ¬ i < es.length) (h : x.1 = 1) :
    ∀ k n, lpB F k (n + 1) l nl ks es i x ys = some (if 0 ≤ x.2.2.2.2.1.1 ∧ x.2.2.2.2.1.1 ≤ 2 then outB (outX x ys) x.2.2.2.2.1.1 0 else outB zE 0 220) := by
  intro k n
  unfold lpB
  rw [expr_Bind_l0_eq, bf hi, bt h, expr_literal_eq]
  show (bif decide (x.2.2.2.2.1.1 < 0) then _ else (bif decide (2 < x.2.2.2.2.1.1) then _ else _ : Option BOut)).bind _ = _
  by_cases c1 : x.2.2.2.2.1.1 < 0
  · rw [bt c1, if_neg (by omega)]; rfl
  · rw [bf c1]
    by_cases c2 : 2 < x.2.2.2.2.1.1
    · rw [bt c2, if_neg (by omega)]; rfl
    · rw [bf c2, if_pos (by omega)]; rfl
theorem end_pos (F : FB) (l : List ScT) (nl : Bool) (ks : List Int) (es : List Ex) (i : Int) (x : ExD) (ys : List Ex) (hi : ¬ i < es.length) (h : x.1 = 3) (k n : Nat) (kd : Int) (hp : expr_place k l x.2.2.2.1 = some (kd, ())) :
    lpB F k (n + 1) l nl ks es i x ys = some (outB (outX x ys) kd 0) := by
  unfold lpB
  rw [expr_Bind_l0_eq, bf hi, bf (by omega), bf (by omega), bt h, hp]; rfl
def posE (a : Int) : ExD := (3, ([], ([], (a, (nv, ([], ()))))))
theorem end_col (F : FB) (l : List ScT) (nl : Bool) (ks : List Int) (es : List Ex) (i : Int) (x : ExD) (ys : List Ex) (hi : ¬ i < es.length) (h : x.1 = 2) (k n : Nat) (r : Int × Int) (kd : Int) (hp : cat_Column k l x.2.1 x.2.2.1 = some ((r.1, (r.2, ())), ())) (hk : expr_kind k l r.1 = some (kd, ())) :
    lpB F k (n + 1) l nl ks es i x ys = some (if r.2 = 0 then outB (posE r.1) kd 0 else outB zE 0 r.2) := by
  unfold lpB
  rw [expr_Bind_l0_eq, bf hi, bf (by omega), bt h, hp, Option.bind_some, hk]
  by_cases c : r.2 = 0
  · rw [dT c, Bool.not_true, cond_false, if_pos c]; rfl
  · rw [dF c, Bool.not_false, cond_true, if_neg c]; rfl
theorem bind_go (k : Nat) (l : List ScT) (x : ExD) (hp : partsM x.1 = x.2.2.2.2.2.1.length) : expr_Bind (k + 1) l x = lpB (expr_Bind k) (k + 1) (k + 1) l true [] x.2.2.2.2.2.1 0 x [] := by
  rw [expr_Bind_succ, expr_Bind_b_eq, parts_is, Option.bind_some, dT hp, Bool.not_true, cond_false]
theorem bind_no (l : List ScT) (x : ExD) (hp : partsM x.1 ≠ x.2.2.2.2.2.1.length) : BV l x zE 0 220 := by
  refine .from 1 fun k => ?_
  rw [expr_Bind_succ, expr_Bind_b_eq, parts_is, Option.bind_some, dF hp, Bool.not_false, cond_true]; rfl
theorem small_out (x : ExD) (ys : List Ex) (h : ys.length ≤ 3) (h2 : ∀ y ∈ ys, Small y) : Small (Ex.re (outX x ys)) := .mk _ _ _ _ _ _ h h2
theorem small_z : Small (Ex.re zE) := .mk _ _ _ _ _ _ (Nat.zero_le 3) (fun _ h => nomatch h)
theorem small_pos (a : Int) : Small (Ex.re (posE a)) := .mk _ _ _ _ _ _ (Nat.zero_le 3) (fun _ h => nomatch h)
/-- What a bound expression is like. -/
inductive Nice : Nat → Ex → Prop
  | mk (d : Nat) (op : Int) (t n : List Int) (m : Int) (v : Int × (Int × (List Int × Unit))) (es : List Ex) : es.length ≤ 3 → v.2.2.1.length ≤ 200 → GoodV v → (op = 1 → 0 ≤ v.1 ∧ v.1 ≤ 2) → (∀ x ∈ es, Nice d x) → Nice (d + 1) (.mk op t n m v es)
theorem Nice.small : ∀ {d : Nat} {e : Ex}, Nice d e → SmallD d e
  | _, .mk op t n m v es, .mk d _ _ _ _ _ _ h1 h2 _ _ h5 => .mk d _ _ _ _ _ _ h1 h2 fun x hx => Nice.small (h5 x hx)
theorem Nice.ge {d : Nat} {e : Ex} (h : Nice d e) : GE e := by
  cases h with
  | mk d op t n m v es h1 h2 h3 h4 h5 =>
  intro a ha
  cases h5 a ha with
  | mk d op t n m v es h1 h2 h3 h4 h5 => exact h3
theorem Nice.args {d : Nat} {e : Ex} (h : Nice d e) : ∀ x ∈ e.un.2.2.2.2.2.1, ∃ d', Nice d' x := by
  cases h with
  | mk d op t n m v es h1 h2 h3 h4 h5 => exact fun x hx => ⟨d, h5 x hx⟩
theorem Nice.parts : ∀ {d : Nat} {e : Ex}, Nice d e → ∀ x ∈ partsL e, ∃ d', Nice d' x
  | d, .mk op t n m v es, h => by
    by_cases c : op = 17 ∧ es.length = 2
    · obtain ⟨c1, c2⟩ := c
      obtain ⟨a, b, rfl⟩ : ∃ a b, es = [a, b] := by
        match es, c2 with
        | [a, b], _ => exact ⟨a, b, rfl⟩
      rw [partsL_and c1]
      intro x hx
      rcases List.mem_append.1 hx with hx | hx
      · obtain ⟨d', h'⟩ := h.args a (by simp [Ex.un])
        exact Nice.parts h' x hx
      · obtain ⟨d', h'⟩ := h.args b (by simp [Ex.un])
        exact Nice.parts h' x hx
    · have hp : partsL (.mk op t n m v es) = [.mk op t n m v es] := by
        match es, c with
        | [a, b], c => unfold partsL; rw [if_neg (fun h => c ⟨h, rfl⟩)]
        | [], _ => rfl
        | [_], _ => rfl
        | _ :: _ :: _ :: _, _ => rfl
      rw [hp]
      intro x hx
      rw [List.mem_singleton.1 hx]; exact ⟨d, h⟩
theorem SmallD.small : ∀ {d : Nat} {e : Ex}, SmallD d e → Small e
  | _, .mk op t n m v es, .mk d _ _ _ _ _ _ h1 h2 h5 => .mk _ _ _ _ _ _ h1 fun x hx => SmallD.small (h5 x hx)
theorem goodN : GoodV nv := ⟨⟨⟨by decide, by decide⟩, Nat.zero_le 400⟩, fun x h => nomatch h⟩
theorem nice_pos (d : Nat) (a : Int) : Nice (d + 1) (Ex.re (posE a)) := .mk _ _ _ _ _ _ _ (Nat.zero_le 3) (Nat.zero_le 200) goodN (fun h => absurd (show (3 : Int) = 1 from h) (by decide)) (fun _ h => nomatch h)
theorem nice_out {d : Nat} {op : Int} {t n : List Int} {m : Int} {v : Int × (Int × (List Int × Unit))} {es ys : List Ex} (hv : v.2.2.1.length ≤ 200) (hg : GoodV v) (hk : op = 1 → 0 ≤ v.1 ∧ v.1 ≤ 2) (hl : ys.length ≤ 3) (hy : ∀ y ∈ ys, Nice d y) :
    Nice (d + 1) (Ex.re (outX (Ex.mk op t n m v es).un ys)) := .mk _ _ _ _ _ _ _ hl hv hg hk hy
theorem bind_nice (l : List ScT) (hl : l.length ≤ 9223372036854775807) (hc : ∀ s ∈ l, s.2.1.2.2.1.length ≤ 9223372036854775807) : (e : Ex) → (d : Nat) → SmallD d e → wfE e → ∃ y kd bad, BV l e.un y kd bad ∧ Small (Ex.re y) ∧ (bad = 0 → Nice d (Ex.re y))
  | .mk op t n m v es, 0, hs, hw => by cases hs
  | .mk op t n m v es, d + 1, hs, hw => by
    have hg : GoodV v := good_of hs hw
    have ha := args_of hs hw
    have hv : v.2.2.1.length ≤ 200 := by cases hs; assumption
    have hd : ∀ x ∈ es, SmallD d x := by cases hs; assumption
    have so : ∀ {ys : List Ex}, ys.length ≤ 3 → (∀ y ∈ ys, Small y) → Small (Ex.re (outX (Ex.mk op t n m v es).un ys)) := fun h1 h2 => small_out _ _ h1 h2
    by_cases hp : partsM op = es.length
    case neg => exact ⟨_, _, _, bind_no l _ hp, small_z, fun h => absurd h (by omega)⟩
    have pc := partsM_cases op
    match es, hd, ha, hp with
    | [], hd, ha, hp =>
      have hp' : partsM op = 0 := hp
      have go : ∀ k, expr_Bind (k + 1) l (Ex.mk op t n m v []).un = lpB (expr_Bind k) (k + 1) (k + 1) l true [] [] 0 (Ex.mk op t n m v []).un [] := fun k => bind_go k l _ hp
      by_cases h1 : op = 1
      · by_cases c : 0 ≤ v.1 ∧ v.1 ≤ 2
        · refine ⟨outX (Ex.mk op t n m v []).un [], v.1, 0, .from 1 fun k => ?_, small_out _ _ (by simp) (by simp), fun _ => nice_out hv hg (fun _ => c) (by simp) (by simp)⟩
          rw [go, end_lit _ l true [] [] 0 _ [] (by simp) h1]; exact congrArg some (if_pos c)
        · refine ⟨zE, 0, 220, .from 1 fun k => ?_, small_z, fun h => absurd h (by omega)⟩
          rw [go, end_lit _ l true [] [] 0 _ [] (by simp) h1]; exact congrArg some (if_neg c)
      by_cases h2 : op = 2
      · obtain ⟨r, K, hK⟩ := col_ex l t n hl hc
        obtain ⟨L, hL⟩ := kind_ev l r.1 hl
        by_cases c : r.2 = 0
        · refine ⟨posE r.1, kindM l r.1, 0, ⟨K + L + 1, fun k hk => ?_⟩, small_pos _, fun _ => nice_pos _ _⟩
          obtain ⟨i, rfl⟩ : ∃ i, k = i + 1 := ⟨k - 1, by omega⟩
          show expr_Bind (i + 1) l _ = _
          rw [go, end_col _ l true [] [] 0 _ [] (by simp) h2 (i + 1) i r _ (hK _ (by omega)) (hL _ (by omega)), if_pos c]
        · refine ⟨zE, 0, r.2, ⟨K + L + 1, fun k hk => ?_⟩, small_z, fun h => absurd h c⟩
          obtain ⟨i, rfl⟩ : ∃ i, k = i + 1 := ⟨k - 1, by omega⟩
          show expr_Bind (i + 1) l _ = _
          rw [go, end_col _ l true [] [] 0 _ [] (by simp) h2 (i + 1) i r _ (hK _ (by omega)) (hL _ (by omega)), if_neg c]
      by_cases h3 : op = 3
      · obtain ⟨K, hK⟩ := place_ev l m hl
        refine ⟨outX (Ex.mk op t n m v []).un [], placeM l m, 0, ⟨K + 1, fun k hk => ?_⟩, small_out _ _ (by simp) (by simp), fun _ => nice_out hv hg (fun h => absurd h h1) (by simp) (by simp)⟩
        obtain ⟨i, rfl⟩ : ∃ i, k = i + 1 := ⟨k - 1, by omega⟩
        show expr_Bind (i + 1) l _ = _
        rw [go, end_pos _ l true [] [] 0 _ [] (by simp) h3 (i + 1) i _ (hK _ (by omega))]
      · have h20 : op = 20 := by omega
        obtain ⟨b, hb⟩ := end_other l true [] [] 0 (Ex.mk op t n m v []).un [] (by simp) h1 h2 h3 (by show op ≠ 22; omega) (by show op ≠ 23; omega) (by simp) (fun h => absurd h (by show ¬ (10 ≤ op ∧ op ≤ 15); omega))
        have key : ∀ k, expr_Bind (k + 1) l (Ex.mk op t n m v []).un = some (bif b then outB (outX (Ex.mk op t n m v []).un []) 1 0 else outB zE 0 220) := fun k => (go k).trans (hb _ k k (Nat.zero_le _))
        cases b with
        | true => exact ⟨_, _, _, .from 1 key, small_out _ _ (by simp) (by simp), fun _ => nice_out hv hg (fun h => absurd h h1) (by simp) (by simp)⟩
        | false => exact ⟨_, _, _, .from 1 key, small_z, fun h => absurd h (by omega)⟩
    | [a], hd, ha, hp =>
      have hp' : partsM op = 1 := hp
      have h1n : op ≠ 1 := by omega
      obtain ⟨y1, k1, b1, ⟨K, hK⟩, s1, t1⟩ := bind_nice l hl hc a d (hd a (by simp)) (ha a (by simp)).2
      have go : ∀ k, expr_Bind (k + 1) l (Ex.mk op t n m v [a]).un = lpB (expr_Bind k) (k + 1) (k + 1) l true [] [a] 0 (Ex.mk op t n m v [a]).un [] := fun k => bind_go k l _ hp
      by_cases c1 : b1 = 0
      case neg =>
        refine ⟨zE, 0, b1, ⟨K + 1, fun k hk => ?_⟩, small_z, fun h => absurd h c1⟩
        obtain ⟨i, rfl⟩ : ∃ i, k = i + 1 := ⟨k - 1, by omega⟩
        exact (go i).trans (lpB_bad _ _ i l true [] [a] 0 a _ [] y1 k1 b1 rfl (hK i (by omega)) c1)
      subst c1
      have so : Small (Ex.re (outX (Ex.mk op t n m v [a]).un [Ex.re y1])) := small_out _ _ (by simp) (by intro y hy; rw [List.mem_singleton.1 hy]; exact s1)
      have no : Nice (d + 1) (Ex.re (outX (Ex.mk op t n m v [a]).un [Ex.re y1])) := nice_out hv hg (fun h => absurd h h1n) (by simp) (by intro y hy; rw [List.mem_singleton.1 hy]; exact t1 rfl)
      by_cases hsum : 20 ≤ op ∧ op ≤ 23
      · obtain ⟨s, ⟨L, hL⟩, _⟩ := sums_ex (Ex.re y1) s1
        have st : ∀ i, K + L ≤ i → expr_Bind (i + 1) l (Ex.mk op t n m v [a]).un = bif s then some (outB zE 0 220) else lpB (expr_Bind i) (i + 1) i l (true && [k1].isEmpty) ([] ++ [k1]) [a] ((0 + 1 : Nat) : Int) (Ex.mk op t n m v [a]).un ([] ++ [Ex.re y1]) := fun i hi =>
          (go i).trans (lpB_sum _ _ i l true [] [a] 0 a _ [] y1 k1 rfl (hK i (by omega)) hsum (by simp) (by simp) (by simp) s (hL (i + 1) (by omega)))
        cases s with
        | true =>
          refine ⟨zE, 0, 220, ⟨K + L + 1, fun k hk => ?_⟩, small_z, fun h => absurd h (by omega)⟩
          obtain ⟨i, rfl⟩ : ∃ i, k = i + 1 := ⟨k - 1, by omega⟩
          exact st i (by omega)
        | false =>
          by_cases h22 : op = 22 ∨ op = 23
          · refine ⟨outX (Ex.mk op t n m v [a]).un [Ex.re y1], k1, 0, ⟨K + L + 3, fun k hk => ?_⟩, so, fun _ => no⟩
            obtain ⟨i, rfl⟩ : ∃ i, k = i + 1 := ⟨k - 1, by omega⟩
            obtain ⟨j, rfl⟩ : ∃ j, i = j + 1 := ⟨i - 1, by omega⟩
            exact (st (j + 1) (by omega)).trans (end_min _ l _ k1 [] [a] _ _ [Ex.re y1] (by simp) h22 (j + 1) j)
          · obtain ⟨b, hb⟩ := end_other l (true && [k1].isEmpty) [k1] [a] ((0 + 1 : Nat) : Int) (Ex.mk op t n m v [a]).un [Ex.re y1] (by simp) (by show op ≠ 1; omega) (by show op ≠ 2; omega) (by show op ≠ 3; omega) (by show op ≠ 22; omega) (by show op ≠ 23; omega) (by simp) (fun h => absurd h (by show ¬ (10 ≤ op ∧ op ≤ 15); omega))
            have key : ∀ k, K + L + 3 ≤ k → expr_Bind k l (Ex.mk op t n m v [a]).un = some (bif b then outB (outX (Ex.mk op t n m v [a]).un [Ex.re y1]) 1 0 else outB zE 0 220) := fun k hk => by
              obtain ⟨i, rfl⟩ : ∃ i, k = i + 1 := ⟨k - 1, by omega⟩
              obtain ⟨j, rfl⟩ : ∃ j, i = j + 1 := ⟨i - 1, by omega⟩
              exact (st (j + 1) (by omega)).trans (hb _ (j + 1) j (by simp))
            cases b with
            | true => exact ⟨_, _, _, ⟨_, key⟩, so, fun _ => no⟩
            | false => exact ⟨_, _, _, ⟨_, key⟩, small_z, fun h => absurd h (by omega)⟩
      · have st : ∀ i, K ≤ i → expr_Bind (i + 1) l (Ex.mk op t n m v [a]).un = lpB (expr_Bind i) (i + 1) i l (true && [k1].isEmpty) ([] ++ [k1]) [a] ((0 + 1 : Nat) : Int) (Ex.mk op t n m v [a]).un ([] ++ [Ex.re y1]) := fun i hi =>
          (go i).trans (lpB_next _ _ i l true [] [a] 0 a _ [] y1 k1 rfl (hK i (by omega)) hsum (by simp) (by simp) (by simp))
        obtain ⟨b, hb⟩ := end_other l (true && [k1].isEmpty) [k1] [a] ((0 + 1 : Nat) : Int) (Ex.mk op t n m v [a]).un [Ex.re y1] (by simp) (by show op ≠ 1; omega) (by show op ≠ 2; omega) (by show op ≠ 3; omega) (by show op ≠ 22; omega) (by show op ≠ 23; omega) (by simp) (fun h => absurd h (by show ¬ (10 ≤ op ∧ op ≤ 15); omega))
        have key : ∀ k, K + 3 ≤ k → expr_Bind k l (Ex.mk op t n m v [a]).un = some (bif b then outB (outX (Ex.mk op t n m v [a]).un [Ex.re y1]) 1 0 else outB zE 0 220) := fun k hk => by
          obtain ⟨i, rfl⟩ : ∃ i, k = i + 1 := ⟨k - 1, by omega⟩
          obtain ⟨j, rfl⟩ : ∃ j, i = j + 1 := ⟨i - 1, by omega⟩
          exact (st (j + 1) (by omega)).trans (hb _ (j + 1) j (by simp))
        cases b with
        | true => exact ⟨_, _, _, ⟨_, key⟩, so, fun _ => no⟩
        | false => exact ⟨_, _, _, ⟨_, key⟩, small_z, fun h => absurd h (by omega)⟩
    | [a, b], hd, ha, hp =>
      have hp' : partsM op = 2 := hp
      have h1n : op ≠ 1 := by omega
      have hsum : ¬ (20 ≤ op ∧ op ≤ 23) := by omega
      obtain ⟨y1, k1, b1, ⟨K, hK⟩, s1, t1⟩ := bind_nice l hl hc a d (hd a (by simp)) (ha a (by simp)).2
      obtain ⟨y2, k2, b2, ⟨L, hL⟩, s2, t2⟩ := bind_nice l hl hc b d (hd b (by simp)) (ha b (by simp)).2
      have go : ∀ k, expr_Bind (k + 1) l (Ex.mk op t n m v [a, b]).un = lpB (expr_Bind k) (k + 1) (k + 1) l true [] [a, b] 0 (Ex.mk op t n m v [a, b]).un [] := fun k => bind_go k l _ hp
      by_cases c1 : b1 = 0
      case neg =>
        refine ⟨zE, 0, b1, ⟨K + 1, fun k hk => ?_⟩, small_z, fun h => absurd h c1⟩
        obtain ⟨i, rfl⟩ : ∃ i, k = i + 1 := ⟨k - 1, by omega⟩
        exact (go i).trans (lpB_bad _ _ i l true [] [a, b] 0 a _ [] y1 k1 b1 rfl (hK i (by omega)) c1)
      subst c1
      have st : ∀ i, K ≤ i → expr_Bind (i + 1) l (Ex.mk op t n m v [a, b]).un = lpB (expr_Bind i) (i + 1) i l (true && [k1].isEmpty) ([] ++ [k1]) [a, b] ((0 + 1 : Nat) : Int) (Ex.mk op t n m v [a, b]).un ([] ++ [Ex.re y1]) := fun i hi =>
        (go i).trans (lpB_next _ _ i l true [] [a, b] 0 a _ [] y1 k1 rfl (hK i (by omega)) hsum (by simp) (by simp) (by simp))
      by_cases c2 : b2 = 0
      case neg =>
        refine ⟨zE, 0, b2, ⟨K + L + 3, fun k hk => ?_⟩, small_z, fun h => absurd h c2⟩
        obtain ⟨i, rfl⟩ : ∃ i, k = i + 1 := ⟨k - 1, by omega⟩
        obtain ⟨j, rfl⟩ : ∃ j, i = j + 1 := ⟨i - 1, by omega⟩
        exact (st (j + 1) (by omega)).trans (lpB_bad _ _ j l _ _ [a, b] 1 b _ _ y2 k2 b2 rfl (hL (j + 1) (by omega)) c2)
      subst c2
      have st2 : ∀ j, K + L ≤ j → expr_Bind (j + 1 + 1) l (Ex.mk op t n m v [a, b]).un = lpB (expr_Bind (j + 1)) (j + 1 + 1) j l ((true && [k1].isEmpty) && [k2].isEmpty) (([] ++ [k1]) ++ [k2]) [a, b] ((1 + 1 : Nat) : Int) (Ex.mk op t n m v [a, b]).un (([] ++ [Ex.re y1]) ++ [Ex.re y2]) := fun j hj =>
        (st (j + 1) (by omega)).trans (lpB_next _ _ j l _ _ [a, b] 1 b _ _ y2 k2 rfl (hL (j + 1) (by omega)) hsum (by simp) (by simp) (by simp))
      have so : Small (Ex.re (outX (Ex.mk op t n m v [a, b]).un [Ex.re y1, Ex.re y2])) := small_out _ _ (by simp) (by
        intro y hy
        rcases List.mem_cons.1 hy with rfl | hy
        · exact s1
        · rw [List.mem_singleton.1 hy]; exact s2)
      have no : Nice (d + 1) (Ex.re (outX (Ex.mk op t n m v [a, b]).un [Ex.re y1, Ex.re y2])) := nice_out hv hg (fun h => absurd h h1n) (by simp) (by
        intro y hy
        rcases List.mem_cons.1 hy with rfl | hy
        · exact t1 rfl
        · rw [List.mem_singleton.1 hy]; exact t2 rfl)
      obtain ⟨b', hb⟩ := end_other l ((true && [k1].isEmpty) && [k2].isEmpty) [k1, k2] [a, b] ((1 + 1 : Nat) : Int) (Ex.mk op t n m v [a, b]).un [Ex.re y1, Ex.re y2] (by simp) (by show op ≠ 1; omega) (by show op ≠ 2; omega) (by show op ≠ 3; omega) (by show op ≠ 22; omega) (by show op ≠ 23; omega) (by simp) (fun _ => rfl)
      have key : ∀ k, K + L + 5 ≤ k → expr_Bind k l (Ex.mk op t n m v [a, b]).un = some (bif b' then outB (outX (Ex.mk op t n m v [a, b]).un [Ex.re y1, Ex.re y2]) 1 0 else outB zE 0 220) := fun k hk => by
        obtain ⟨i, rfl⟩ : ∃ i, k = i + 1 + 1 + 1 := ⟨k - 3, by omega⟩
        exact (st2 (i + 1) (by omega)).trans (hb _ (i + 1 + 1) i (by simp))
      cases b' with
      | true => exact ⟨_, _, _, ⟨_, key⟩, so, fun _ => no⟩
      | false => exact ⟨_, _, _, ⟨_, key⟩, small_z, fun h => absurd h (by omega)⟩
    | a :: b :: c :: es, hd, ha, hp => simp at hp; omega
theorem bndM_two {x : ExD} {p : Int} {a b : Ex} (h : x.2.2.2.2.2.1 = [a, b]) : bndM x p = if isM a.un p = true then litB x.1 p a.un b.un else litB (turnM x.1) p b.un a.un := by
  unfold bndM; rw [h]
theorem bndM_not {x : ExD} {p : Int} (h : x.2.2.2.2.2.1.length ≠ 2) : bndM x p = (none, none, false) := by
  unfold bndM
  split
  · rename_i a b he; rw [he] at h; exact absurd rfl h
  · rfl
theorem two_of {l : List Ex} (h : l.length = 2) : ∃ a b, l = [a, b] := by
  match l, h with
  | [a, b], _ => exact ⟨a, b, rfl⟩
def holdsP (e : Ex) (r : List VT) : Prop := ∃ v : VT, EV e.un r (v, 0) ∧ v.1 = 1 ∧ v.2.1 ≠ 0
theorem pk_inj {p q : VT × Int} (h : pk p = pk q) : p = q := by
  obtain ⟨v, c⟩ := p
  obtain ⟨w, d⟩ := q
  unfold pk at h
  simp only [Prod.mk.injEq, and_true] at h
  exact Prod.ext h.1.1 h.1.2
theorem EV.det {x : ExD} {r : List VT} {p q : VT × Int} (h : EV x r p) (h2 : EV x r q) : p = q := pk_inj (Ev.det h h2)
/-- An operator of two parts that comes to something: its parts did, and what was done with them. -/
theorem two_inv {e : Ex} {r : List VT} {v : VT} (h : EV e.un r (v, 0)) {a b : Ex} (ha : e.un.2.2.2.2.2.1 = [a, b]) : ¬ evBad e.un ∧ ∃ va vb, EV a.un r (va, 0) ∧ EV b.un r (vb, 0) ∧ finM e.un.1 va vb = (v, 0) := by
  by_cases hb : evBad e.un
  · have := EV.det h (eval_bad e.un r hb)
    simp at this
  refine ⟨hb, ?_⟩
  obtain ⟨pa, hpa⟩ := eval_ex a r
  obtain ⟨pb, hpb⟩ := eval_ex b r
  by_cases ca : pa.2 = 0
  case neg =>
    have := EV.det h (eval_two1 e.un r hb a b ha hpa ca)
    exact absurd (congrArg Prod.snd this).symm ca
  obtain ⟨va, c⟩ := pa
  have ca : c = 0 := ca
  subst ca
  have h2 := eval_two e.un r hb a b ha hpa hpb
  obtain ⟨vb, d⟩ := pb
  by_cases cb : d = 0
  · subst cb
    rw [if_pos rfl] at h2
    exact ⟨va, vb, hpa, hpb, (EV.det h h2).symm⟩
  · rw [if_neg cb] at h2
    exact absurd (congrArg Prod.snd (EV.det h h2)).symm cb
theorem and_inv {va vb v : VT} (h : finM 17 va vb = (v, 0)) (h1 : v.1 = 1) (h2 : v.2.1 ≠ 0) : (va.1 = 1 ∧ va.2.1 ≠ 0) ∧ (vb.1 = 1 ∧ vb.2.1 ≠ 0) := by
  have e : finM 17 va vb = (bothM false (wholeM va) (wholeM vb), 0) := by simp [finM, applyM]
  rw [e] at h
  have h : bothM false (wholeM va) (wholeM vb) = v := congrArg Prod.fst h
  subst h
  unfold bothM at h1 h2
  have w : ∀ u : VT, (wholeM u).1 = 1 ∧ wholeM u = u ∧ u.1 = 1 ∨ (wholeM u).1 = 0 := fun u => by
    unfold wholeM
    by_cases c : u.1 = 1
    · rw [if_pos c]; exact .inl ⟨c, rfl, c⟩
    · rw [if_neg c]; exact .inr rfl
  split at h1
  · rename_i c
    rw [if_pos c] at h2
    exact absurd rfl h2
  · rename_i c
    rw [if_neg c] at h2
    split at h1
    · cases h1
    · rename_i c2
      rcases w va with ⟨a1, a2, a3⟩ | a
      · rcases w vb with ⟨b1, b2, b3⟩ | b
        · refine ⟨⟨a3, fun q => c (.inl ⟨a1, ?_⟩)⟩, ⟨b3, fun q => c (.inr ⟨b1, ?_⟩)⟩⟩
          · rw [a2]; simp [q]
          · rw [b2]; simp [q]
        · exact absurd (.inr b) c2
      · exact absurd (.inl a) c2
theorem parts_hold : ∀ (e : Ex) (r : List VT), holdsP e r → ∀ p ∈ partsL e, holdsP p r
  | .mk op t n m v es, r, h => by
    by_cases c : op = 17 ∧ es.length = 2
    · obtain ⟨c1, c2⟩ := c
      match es, c2, h with
      | [a, b], _, h =>
        rw [partsL_and c1]
        obtain ⟨w, h0, h1, h2⟩ := h
        obtain ⟨_, va, vb, ha, hb, hf⟩ := two_inv h0 (a := a) (b := b) rfl
        have hf : finM op va vb = (w, 0) := hf
        rw [c1] at hf
        obtain ⟨ga, gb⟩ := and_inv hf h1 h2
        intro x hx
        rcases List.mem_append.1 hx with hx | hx
        · exact parts_hold a r ⟨va, ha, ga⟩ x hx
        · exact parts_hold b r ⟨vb, hb, gb⟩ x hx
    · have hp : partsL (.mk op t n m v es) = [.mk op t n m v es] := by
        match es, c with
        | [a, b], c => unfold partsL; rw [if_neg (fun h => c ⟨h, rfl⟩)]
        | [], _ => rfl
        | [_], _ => rfl
        | _ :: _ :: _ :: _, _ => rfl
      rw [hp]
      intro x hx
      rw [List.mem_singleton.1 hx]; exact h
/-- What a lower bound, an upper bound says of a value. -/
def k12 (v : VT) : Prop := v.1 = 1 ∨ v.1 = 2
def LoOk (w : VT) (o : Option VT) : Prop := ∀ v, o = some v → k12 v ∧ w.1 ≠ 0 ∧ ¬ ordM w v < 0
def HiOk (w : VT) (o : Option VT) : Prop := ∀ v, o = some v → k12 v ∧ w.1 ≠ 0 ∧ ¬ ordM v w < 0
theorem loN (w : VT) : LoOk w none := fun v h => by cases h
theorem hiN (w : VT) : HiOk w none := fun v h => by cases h
theorem lit_inv {d : Nat} {b : Ex} (hn : Nice d b) {r : List VT} {vb : VT} (h : EV b.un r (vb, 0)) (h1 : b.un.1 = 1) : vb = b.un.2.2.2.2.1 ∧ 0 ≤ vb.1 ∧ vb.1 ≤ 2 := by
  by_cases hb : evBad b.un
  · have := EV.det h (eval_bad b.un r hb)
    simp at this
  have e := EV.det h (eval_lit b.un r hb h1)
  have e1 : vb = b.un.2.2.2.2.1 := congrArg Prod.fst e
  refine ⟨e1, ?_⟩
  cases hn with
  | mk d op t n m v es _ _ _ h4 _ =>
    have := h4 h1
    rw [e1]; exact this
theorem pos_inv {a : Ex} {r : List VT} {va : VT} (h : EV a.un r (va, 0)) {c : Nat} {w : VT} (hw : r[c]? = some w) (hm : isM a.un (c : Int) = true) : va = w := by
  have hm := of_decide_eq_true hm
  by_cases hb : evBad a.un
  · have := EV.det h (eval_bad a.un r hb)
    simp at this
  have e := EV.det h (eval_pos a.un r hb hm.1)
  have e1 := congrArg Prod.fst e
  rw [hm.2] at e1
  refine (show va = (if 0 ≤ (c : Int) then r[(c : Int).toNat]?.getD nv else nv) from e1).trans ?_
  rw [if_pos (by omega), Int.toNat_natCast, hw]; rfl
theorem cmp_inv {op : Int} {a b v : VT} (ho : 10 ≤ op ∧ op ≤ 15) (h : finM op a b = (v, 0)) (h1 : v.1 = 1) (h2 : v.2.1 ≠ 0) : a.1 ≠ 0 ∧ b.1 ≠ 0 ∧ (if op = 10 then !lessM a b && !lessM b a else if op = 11 then lessM a b || lessM b a else if op = 12 then lessM a b else if op = 13 then !lessM b a else if op = 14 then lessM b a else !lessM a b) = true := by
  have e : finM op a b = (cmpM op a b, 0) := by
    unfold finM
    rw [if_neg (by omega), if_pos ho]
  rw [e] at h
  have h : cmpM op a b = v := congrArg Prod.fst h
  subst h
  unfold cmpM at h1 h2
  split at h1
  · cases h1
  · rename_i c
    rw [if_neg c] at h2
    refine ⟨fun q => c (.inl q), fun q => c (.inr q), ?_⟩
    generalize (if op = 10 then !lessM a b && !lessM b a else if op = 11 then lessM a b || lessM b a else if op = 12 then lessM a b else if op = 13 then !lessM b a else if op = 14 then lessM b a else !lessM a b) = x at h2
    cases x
    · exact absurd rfl h2
    · rfl
theorem less_t {a b : VT} (h : lessM a b = true) : ordM a b < 0 := of_decide_eq_true h
theorem less_f {a b : VT} (h : (!lessM a b) = true) : ¬ ordM a b < 0 := by
  have : lessM a b = false := by simpa using h
  exact of_decide_eq_false this
theorem sgn_asym {a b : Int} (h : sgn a b < 0) : ¬ sgn b a < 0 := by
  unfold sgn at h ⊢
  split at h
  · rw [if_neg (by omega), if_pos (by omega)]; decide
  · split at h <;> omega
theorem ord_asym {a b : VT} (h : ordM a b < 0) : ¬ ordM b a < 0 := by
  unfold ordM at h ⊢
  by_cases c : a.1 = b.1
  · rw [if_pos c] at h
    rw [if_pos c.symm]
    by_cases c1 : a.1 = 1
    · rw [if_pos c1] at h
      rw [if_pos (by omega)]; exact sgn_asym h
    · rw [if_neg c1] at h
      rw [if_neg (by omega)]
      by_cases c2 : a.1 = 2
      · rw [if_pos c2] at h
        rw [if_pos (by omega)]
        have h1 := (cmp_lt _ _).1 h
        intro h2
        have h2 := (cmp_lt _ _).1 h2
        rw [ltL_asym _ _ h1] at h2; cases h2
      · rw [if_neg c2] at h; omega
  · rw [if_neg c] at h
    rw [if_neg (fun q => c q.symm)]; exact sgn_asym h
theorem litB_hold {op : Int} {a b : ExD} {p : Int} {w v : VT} (hv : v = b.2.2.2.2.1) (hk : 0 ≤ v.1 ∧ v.1 ≤ 2) (hw : w.1 ≠ 0)
    (h10 : op = 10 → ¬ ordM w v < 0 ∧ ¬ ordM v w < 0) (h12 : op = 12 → ordM w v < 0) (h13 : op = 13 → ¬ ordM v w < 0) (h14 : op = 14 → ordM v w < 0) (h15 : op = 15 → ¬ ordM w v < 0) :
    LoOk w (litB op p a b).1 ∧ HiOk w (litB op p a b).2.1 := by
  unfold litB
  split
  · rename_i hc
    have h12' : k12 v := by have := hc.2.2; rw [← hv] at this; unfold k12; omega
    have lo : ¬ ordM w v < 0 → LoOk w (some b.2.2.2.2.1) := fun h u hu => by cases hu; rw [← hv]; exact ⟨h12', hw, h⟩
    have hi : ¬ ordM v w < 0 → HiOk w (some b.2.2.2.2.1) := fun h u hu => by cases hu; rw [← hv]; exact ⟨h12', hw, h⟩
    by_cases c : op = 10
    · rw [if_pos c]; exact ⟨lo (h10 c).1, hi (h10 c).2⟩
    rw [if_neg c]
    by_cases c2 : op = 12 ∨ op = 13
    · rw [if_pos c2]
      refine ⟨loN w, hi ?_⟩
      rcases c2 with c2 | c2
      · exact ord_asym (h12 c2)
      · exact h13 c2
    rw [if_neg c2]
    by_cases c3 : op = 14 ∨ op = 15
    · rw [if_pos c3]
      refine ⟨lo ?_, hiN w⟩
      rcases c3 with c3 | c3
      · exact ord_asym (h14 c3)
      · exact h15 c3
    · rw [if_neg c3]; exact ⟨loN w, hiN w⟩
  · exact ⟨loN w, hiN w⟩
theorem bnd_hold {d : Nat} {e : Ex} (hn : Nice d e) {r : List VT} (h : holdsP e r) {c : Nat} {w : VT} (hw : r[c]? = some w) : LoOk w (bndM e.un (c : Int)).1 ∧ HiOk w (bndM e.un (c : Int)).2.1 := by
  by_cases hl : e.un.2.2.2.2.2.1.length = 2
  case neg => rw [bndM_not hl]; exact ⟨loN w, hiN w⟩
  obtain ⟨a, b, hx⟩ := two_of hl
  rw [bndM_two hx]
  obtain ⟨v, h0, h1, h2⟩ := h
  obtain ⟨hb, va, vb, ha, hb', hf⟩ := two_inv h0 hx
  obtain ⟨da, na⟩ := hn.args a (by rw [hx]; simp)
  obtain ⟨db, nb⟩ := hn.args b (by rw [hx]; simp)
  generalize e.un.1 = op at hf
  have none_of : ∀ {op' p : Int} {x y : ExD}, (y.1 ≠ 1 ∨ (op' ≠ 10 ∧ op' ≠ 12 ∧ op' ≠ 13 ∧ op' ≠ 14 ∧ op' ≠ 15)) → LoOk w (litB op' p x y).1 ∧ HiOk w (litB op' p x y).2.1 := fun {op' p x y} h => by
    unfold litB
    split
    · rename_i hc
      rcases h with h | h
      · exact absurd hc.2.1 h
      · rw [if_neg h.1, if_neg (by omega), if_neg (by omega)]; exact ⟨loN w, hiN w⟩
    · exact ⟨loN w, hiN w⟩
  by_cases hm : isM a.un (c : Int) = true
  · rw [if_pos hm]
    by_cases hop : op ≠ 10 ∧ op ≠ 12 ∧ op ≠ 13 ∧ op ≠ 14 ∧ op ≠ 15
    · exact none_of (.inr hop)
    by_cases hlit : b.un.1 = 1
    case neg => exact none_of (.inl hlit)
    have ea := pos_inv ha hw hm
    subst ea
    obtain ⟨eb, hk⟩ := lit_inv nb hb' hlit
    obtain ⟨c1, c2, c3⟩ := cmp_inv (by omega) hf h1 h2
    refine litB_hold (v := vb) eb hk c1 (fun q => ?_) (fun q => ?_) (fun q => ?_) (fun q => ?_) (fun q => ?_) <;> subst q
    · rw [if_pos rfl, Bool.and_eq_true] at c3
      exact ⟨less_f c3.1, less_f c3.2⟩
    · exact less_t c3
    · exact less_f c3
    · exact less_t c3
    · exact less_f c3
  · rw [if_neg hm]
    by_cases hop : turnM op ≠ 10 ∧ turnM op ≠ 12 ∧ turnM op ≠ 13 ∧ turnM op ≠ 14 ∧ turnM op ≠ 15
    · exact none_of (.inr hop)
    by_cases hlit : a.un.1 = 1
    case neg => exact none_of (.inl hlit)
    by_cases hm2 : isM b.un (c : Int) = true
    case neg =>
      unfold litB
      rw [if_neg (fun q => hm2 q.1)]; exact ⟨loN w, hiN w⟩
    have eb := pos_inv hb' hw hm2
    subst eb
    obtain ⟨ea, hk⟩ := lit_inv na ha hlit
    have ho : 10 ≤ op ∧ op ≤ 15 := by
      unfold turnM at hop
      by_cases q : op = 12
      · omega
      rw [if_neg q] at hop
      by_cases q : op = 13
      · omega
      rw [if_neg q] at hop
      by_cases q : op = 14
      · omega
      rw [if_neg q] at hop
      by_cases q : op = 15
      · omega
      rw [if_neg q] at hop
      omega
    obtain ⟨c1, c2, c3⟩ := cmp_inv ho hf h1 h2
    have tn : turnM op = if op = 12 then 14 else if op = 13 then 15 else if op = 14 then 12 else if op = 15 then 13 else op := rfl
    refine litB_hold (v := va) ea hk c2 (fun q => ?_) (fun q => ?_) (fun q => ?_) (fun q => ?_) (fun q => ?_)
    · have : op = 10 := by rw [tn] at q; repeat' split at q <;> first | omega | skip
      subst this
      rw [if_pos rfl, Bool.and_eq_true] at c3
      exact ⟨less_f c3.2, less_f c3.1⟩
    · have : op = 14 := by rw [tn] at q; repeat' split at q <;> first | omega | skip
      subst this; exact less_t c3
    · have : op = 15 := by rw [tn] at q; repeat' split at q <;> first | omega | skip
      subst this; exact less_f c3
    · have : op = 12 := by rw [tn] at q; repeat' split at q <;> first | omega | skip
      subst this; exact less_t c3
    · have : op = 13 := by rw [tn] at q; repeat' split at q <;> first | omega | skip
      subst this; exact less_f c3
theorem bdd_hold {r : List VT} {c : Nat} {w : VT} (hw : r[c]? = some w) : ∀ (es : List Ex) (lo hi : Option VT), (∀ x ∈ es, (∃ d, Nice d x) ∧ holdsP x r) → LoOk w lo → HiOk w hi → LoOk w (bddM es (c : Int) lo hi).1 ∧ HiOk w (bddM es (c : Int) lo hi).2
  | [], lo, hi, _, h1, h2 => ⟨h1, h2⟩
  | e :: es, lo, hi, h, h1, h2 => by
    have ih := fun lo hi => bdd_hold hw es lo hi (fun x hx => h x (List.mem_cons_of_mem _ hx))
    obtain ⟨⟨d, hn⟩, hh⟩ := h e (by simp)
    obtain ⟨g1, g2⟩ := bnd_hold hn hh hw
    unfold bddM
    generalize bndM e.un (c : Int) = q at g1 g2
    obtain ⟨a, b, ok⟩ := q
    cases ok with
    | false => exact ih lo hi h1 h2
    | true =>
      cases a with
      | none =>
        cases b with
        | none => exact ih lo hi h1 h2
        | some u => cases hi with
          | none => exact ih lo (some u) h1 g2
          | some h => exact ih lo (some h) h1 h2
      | some v =>
        cases b with
        | none => cases lo with
          | none => exact ih (some v) hi g1 h2
          | some l => exact ih (some l) hi h1 h2
        | some u => exact ⟨g1, g2⟩
theorem Ev.mono1 {α : Type} {F G : Nat → Option α} {r : α} (h : ∀ k, F k = G k) (g : Ev G r) : Ev F r := by
  obtain ⟨K, hK⟩ := g
  exact ⟨K, fun k hk => (h k).trans (hK k hk)⟩
theorem Ev2.mono1 {α : Type} {F G : Nat → Nat → Option α} {r : α} (h : ∀ k n, F k n = G k n) (g : Ev2 G r) : Ev2 F r := by
  obtain ⟨K, hK⟩ := g
  exact ⟨K, fun k n hk hn => (h k n).trans (hK k n hk hn)⟩
theorem ltL_pre : ∀ (P a b : List Int), ltL (P ++ a) (P ++ b) = ltL a b
  | [], _, _ => rfl
  | x :: P, a, b => by
    show (decide (x < x) || (decide (x = x) && ltL (P ++ a) (P ++ b))) = _
    rw [ltL_pre P a b]; simp
theorem ltL_nil (s : List Int) : ltL s [] = false := by cases s <;> rfl
theorem ltL_tr : ∀ (a b c : List Int), ltL a b = true → ltL b c = true → ltL a c = true
  | _, [], _, h, _ => by rw [ltL_nil] at h; cases h
  | _, _ :: _, [], _, h => by rw [ltL_nil] at h; cases h
  | [], _ :: _, _ :: _, _, _ => rfl
  | x :: a, y :: b, z :: c, h1, h2 => by
    have h1 : (decide (x < y) || (decide (x = y) && ltL a b)) = true := h1
    have h2 : (decide (y < z) || (decide (y = z) && ltL b c)) = true := h2
    show (decide (x < z) || (decide (x = z) && ltL a c)) = true
    simp only [Bool.or_eq_true, Bool.and_eq_true, decide_eq_true_eq] at h1 h2 ⊢
    rcases h1 with h1 | ⟨h1, g1⟩
    · rcases h2 with h2 | ⟨h2, g2⟩
      · exact .inl (by omega)
      · exact .inl (by omega)
    · rcases h2 with h2 | ⟨h2, g2⟩
      · exact .inl (by omega)
      · exact .inr ⟨by omega, ltL_tr a b c g1 g2⟩
theorem ordVM (a b : VT) : ordV a b = ordM a b := by
  unfold ordV ordM sgn
  by_cases c : a.1 = b.1
  · rw [if_neg (by omega), if_neg (by omega), if_pos c]
  · rw [if_neg c]
    by_cases d : a.1 < b.1
    · rw [if_pos d, if_pos d]
    · rw [if_neg d, if_neg d, if_pos (by omega), if_pos (by omega)]
theorem ord_total {w v : VT} (h0 : ordM w v ≠ 0) (h : ¬ ordM v w < 0) : ordM w v < 0 := by
  unfold ordM sgn at h0 h ⊢
  by_cases c : w.1 = v.1
  · rw [if_pos c] at h0 ⊢
    rw [if_pos c.symm] at h
    by_cases c1 : w.1 = 1
    · rw [if_pos c1] at h0 ⊢
      rw [if_pos (by omega)] at h
      split at h0
      · rename_i q; rw [if_pos q]; decide
      · rename_i q
        split at h0
        · rename_i q2; rw [if_pos q2] at h; exact absurd (by decide) h
        · exact absurd rfl h0
    · rw [if_neg c1] at h0 ⊢
      rw [if_neg (by omega)] at h
      by_cases c2 : w.1 = 2
      · rw [if_pos c2] at h0 ⊢
        rw [if_pos (by omega)] at h
        have e1 := cmp_vals w.2.2.1 v.2.2.1
        have e2 := cmp_vals v.2.2.1 w.2.2.1
        rw [e1] at h0 ⊢
        rw [e2] at h
        cases g1 : ltL w.2.2.1 v.2.2.1 with
        | true => simp
        | false =>
          cases g2 : ltL v.2.2.1 w.2.2.1 with
          | true => rw [g2] at h; exact absurd (by simp) h
          | false => rw [g1, g2] at h0; simp at h0
      · rw [if_neg c2] at h0; exact absurd rfl h0
  · rw [if_neg c] at h0 ⊢
    rw [if_neg (fun q => c q.symm)] at h
    split at h0
    · rename_i q; rw [if_pos q]; decide
    · rename_i q
      split at h0
      · rename_i q2; rw [if_pos q2] at h; exact absurd (by decide) h
      · exact absurd rfl h0
theorem enc_ord0 {w v : VT} (h : ordM w v = 0) : encV w = encV v := by
  unfold ordM sgn at h
  by_cases c : w.1 = v.1
  · rw [if_pos c] at h
    unfold encV
    rw [c]
    by_cases c1 : v.1 = 1
    · rw [if_pos (by omega)] at h
      rw [if_pos c1, if_pos c1]
      have : w.2.1 = v.2.1 := by
        split at h
        · cases h
        · split at h
          · cases h
          · omega
      rw [this]
    · rw [if_neg (by omega)] at h
      rw [if_neg c1, if_neg c1]
      by_cases c2 : v.1 = 2
      · rw [if_pos (by omega)] at h
        rw [if_pos c2, if_pos c2, (cmp_eq0 _ _).1 h]
      · rw [if_neg c2, if_neg c2]
  · rw [if_neg c] at h
    split at h
    · cases h
    · split at h
      · cases h
      · omega
def inKeys (k : List Int) (a : List Int × List Int) : Prop := ltL k a.1 = false ∧ (a.2 = [] ∨ ltL k a.2 = true)
theorem key_in (P : List Int) {w : VT} (hw : GoodV w ∧ (w.1 = 0 ∨ w.1 = 1 ∨ w.1 = 2)) (s : List Int) {lo hi : Option VT} (gl : GoodO lo) (gh : GoodO hi) (hlo : LoOk w lo) (hhi : HiOk w hi) : inKeys (P ++ (encV w ++ s)) (withinM (P, nx P) lo hi) := by
  have can : ∀ {v}, GoodV v → k12 v → canV v := fun g k => ⟨g, .inr k⟩
  constructor
  · cases lo with
    | none => exact (congrArg (fun x => ltL _ x) (List.append_nil P)).trans (ltL_app P _)
    | some v =>
      obtain ⟨h1, h2, h3⟩ := hlo v rfl
      show ltL (P ++ (encV w ++ s)) (P ++ encV v) = false
      rw [ltL_pre, show encV v = encV v ++ [] from (List.append_nil _).symm, ltL_enc ⟨hw.1, hw.2⟩ (can (gl v rfl) h1), ordVM, ltL_nil]
      split
      · rfl
      · exact decide_eq_false h3
  · cases hi with
    | none =>
      by_cases c : nx P = []
      · exact .inl c
      · exact .inr (ltL_nx P _ c)
    | some v =>
      obtain ⟨h1, h2, h3⟩ := hhi v rfl
      by_cases c : nx (P ++ encV v) = []
      · exact .inl c
      · refine .inr ?_
        by_cases c0 : ordM w v = 0
        · show ltL (P ++ (encV w ++ s)) (nx (P ++ encV v)) = true
          rw [enc_ord0 c0, ← List.append_assoc]
          exact ltL_nx _ _ c
        · have hlt := ord_total c0 h3
          have e : ltL (P ++ (encV w ++ s)) (P ++ encV v) = true := by
            rw [ltL_pre, show encV v = encV v ++ [] from (List.append_nil _).symm, ltL_enc ⟨hw.1, hw.2⟩ (can (gh v rfl) h1), ordVM, if_neg c0]
            exact decide_eq_true hlt
          have e2 : ltL (P ++ encV v) (nx (P ++ encV v)) = true := by
            have := ltL_nx (P ++ encV v) [] c
            rwa [List.append_nil] at this
          exact ltL_tr _ _ _ e e2
/-- What is asked of rows. -/
structure RowOk (t : TabT) (r : List VT) : Prop where
  good : ∀ v ∈ r, GoodV v
  kind : ∀ v ∈ r, v.1 = 0 ∨ v.1 = 1 ∨ v.1 = 2
  key : 0 ≤ t.2.2.2.1 ∧ t.2.2.2.1 < r.length
  idx : ∀ x ∈ t.2.2.2.2.1, 0 ≤ x ∧ x < r.length
  few : r.length ≤ 20
theorem at_of {r : List VT} {c : Int} (h : 0 ≤ c ∧ c < r.length) : ∃ n : Nat, c = n ∧ r[n]? = some (atV r c) := by
  refine ⟨c.toNat, by omega, ?_⟩
  unfold atV
  rw [if_neg (by omega), List.getElem?_eq_getElem (show c.toNat < r.length by omega)]; rfl
theorem col_hold {t : TabT} {r : List VT} (R : RowOk t r) {ps : List Ex} (hp : ∀ x ∈ ps, (∃ d, Nice d x) ∧ holdsP x r) {c : Int} (hc : 0 ≤ c ∧ c < r.length) :
    (LoOk (atV r c) (bddM ps (wr .i64 (0 + c)) none none).1 ∧ HiOk (atV r c) (bddM ps (wr .i64 (0 + c)) none none).2) ∧ (GoodV (atV r c) ∧ ((atV r c).1 = 0 ∨ (atV r c).1 = 1 ∨ (atV r c).1 = 2)) := by
  obtain ⟨n, hn, e⟩ := at_of hc
  have few := R.few
  have hm := List.mem_of_getElem? e
  refine ⟨?_, R.good _ hm, R.kind _ hm⟩
  have ew : wr .i64 (0 + c) = (n : Int) := by rw [Int.zero_add, wr_i64 (by omega), hn]
  rw [ew]
  exact bdd_hold e ps none none hp (loN _) (hiN _)
theorem enough_idx {t : TabT} {r : List VT} (R : RowOk t r) {ps : List Ex} (hp : ∀ x ∈ ps, (∃ d, Nice d x) ∧ holdsP x r) (hg : ∀ x ∈ ps, GE x) : ∀ (l : List Int) (i : Nat), t.2.2.2.2.1.drop i = l → inKeys (trowK t r) (rowsS t) → 
    ((idxM t 0 ps l i).1 = -1 ∧ inKeys (trowK t r) (idxM t 0 ps l i).2) ∨ (0 ≤ (idxM t 0 ps l i).1 ∧ inKeys (tidxK t (idxM t 0 ps l i).1 r) (idxM t 0 ps l i).2)
  | [], i, _, h => .inl ⟨rfl, h⟩
  | c :: l, i, hd, h => by
    unfold idxM
    have hi : i < t.2.2.2.2.1.length := by
      rcases Nat.lt_or_ge i t.2.2.2.2.1.length with q | q
      · exact q
      · rw [List.drop_eq_nil_of_le q] at hd; cases hd
    rw [List.drop_eq_getElem_cons hi] at hd
    injection hd with hc hd
    split
    · refine .inr ⟨by show 0 ≤ (i : Int); omega, ?_⟩
      have hx : t.2.2.2.2.1[i]? = some c := by rw [List.getElem?_eq_getElem hi, hc]
      have hv : idxV t (i : Int) = some c := by unfold idxV; rw [if_neg (by omega), Int.toNat_natCast, hx]
      obtain ⟨⟨h1, h2⟩, h3⟩ := col_hold R hp (R.idx c (List.mem_of_getElem? hx))
      obtain ⟨g1, g2⟩ := bddM_good (wr .i64 (0 + c)) ps none none hg (fun v hv => by cases hv) (fun v hv => by cases hv)
      have es : idxS t (i : Int) = (tundK t (i + 1), nx (tundK t (i + 1))) := by unfold idxS indS; rw [hv]
      show inKeys (tidxK t (i : Int) r) (withinM (idxS t (i : Int)) _ _)
      rw [es]
      have ek : tidxK t (i : Int) r = tundK t (i + 1) ++ (encV (atV r c) ++ encV (atV r t.2.2.2.1)) := by
        unfold tidxK tundK
        rw [hv]; simp
      rw [ek]
      exact key_in _ h3 _ g1 g2 h1 h2
    · exact enough_idx R hp hg l (i + 1) hd h
theorem enough_is {t : TabT} {r : List VT} (R : RowOk t r) {ps : List Ex} (hp : ∀ x ∈ ps, (∃ d, Nice d x) ∧ holdsP x r) (hg : ∀ x ∈ ps, GE x) :
    ((chooseM t 0 ps).1 = -1 ∧ inKeys (trowK t r) (chooseM t 0 ps).2) ∨ (0 ≤ (chooseM t 0 ps).1 ∧ inKeys (tidxK t (chooseM t 0 ps).1 r) (chooseM t 0 ps).2) := by
  have ek : trowK t r = tundK t 0 ++ (encV (atV r t.2.2.2.1) ++ []) := by
    unfold trowK tundK; simp
  obtain ⟨⟨h1, h2⟩, h3⟩ := col_hold R hp R.key
  obtain ⟨g1, g2⟩ := bddM_good (wr .i64 (0 + t.2.2.2.1)) ps none none hg (fun v hv => by cases hv) (fun v hv => by cases hv)
  unfold chooseM
  split
  · refine .inl ⟨rfl, ?_⟩
    rw [ek]
    exact key_in _ h3 _ g1 g2 h1 h2
  · refine enough_idx R hp hg t.2.2.2.2.1 0 (by simp) ?_
    rw [ek]
    have := key_in (tundK t 0) h3 [] (lo := none) (hi := none) (fun v hv => by cases hv) (fun v hv => by cases hv) (loN _) (hiN _)
    rw [show withinM (tundK t 0, nx (tundK t 0)) none none = rowsS t from by show (tundK t 0 ++ [], _) = _; rw [List.append_nil]; rfl] at this
    exact this
theorem in_ev (k : List Int) (i : Int) (a : List Int × List Int) (h : inKeys k a) : Ev (fun f => law23_PlanEnough_j0 f k i a.1 a.2) (true, ()) := by
  refine .from 1 fun f => ?_
  rw [law23_PlanEnough_j0_eq, ref01_Within_eq, h.1, Bool.not_false, cond_true]
  rcases h.2 with e | e
  · rw [e]; rfl
  · by_cases c : ((a.2.length : Int) = 0)
    · rw [bt c]; rfl
    · rw [bf c, e]; rfl
theorem scopes_ev (t : TabT) : Ev (fun k => ref21_Scopes k [t]) ([(t.2.1, (t, (0, ())))], ()) := by
  refine ⟨2, fun k hk => ?_⟩
  obtain ⟨i, rfl⟩ : ∃ i, k = i + 1 + 1 := ⟨k - 2, by omega⟩
  show ref21_Scopes (i + 1 + 1) [t] = _
  rw [ref21_Scopes_eq, ref21_Scopes_l0_eq, bt (show (0 : Int) < (([t] : List TabT).length : Int) by simp), show nth [t] 0 = some t from rfl, Option.bind_some]
  show lim (0 + 1) (ref21_Scopes_l0 (i + 1 + 1) (i + 1) _ _ _ [t] 1 (wr .i64 (0 + 1))) = _
  rw [lim_L (by omega), ref21_Scopes_l0_eq, bf (show ¬ wr .i64 (0 + 1) < 1 by decide)]
  rfl
theorem holds_ev (y : Ex) (r : List VT) : ∃ b c, Ev (fun k => expr_Holds k y.un r) ((b, (c, ())), ()) ∧ (b = true → holdsP y r) := by
  obtain ⟨p, hp⟩ := eval_ex y r
  simp only [expr_Holds_eq]
  by_cases c1 : p.2 = 0
  · by_cases c2 : p.1.1 = 1
    · refine ⟨!decide (p.1.2.1 = 0), p.2, Ev.bind hp (.from 0 fun k => ?_), fun h => ?_⟩
      · show (bif decide (p.2 = 0) then (bif decide (p.1.1 = 1) then _ else _) else _) = _
        rw [bt c1, bt c2]; rfl
      · obtain ⟨v, c⟩ := p
        cases c1
        refine ⟨v, hp, c2, fun q => ?_⟩
        have q : v.2.1 = 0 := q
        simp [q] at h
    · refine ⟨false, p.2, Ev.bind hp (.from 0 fun k => ?_), nofun⟩
      show (bif decide (p.2 = 0) then (bif decide (p.1.1 = 1) then _ else _) else _) = _
      rw [bt c1, bf c2]; rfl
  · refine ⟨false, p.2, Ev.bind hp (.from 0 fun k => ?_), nofun⟩
    show (bif decide (p.2 = 0) then _ else _) = _
    rw [bf c1]; rfl
theorem en_l2 {t : TabT} (ht : I64 t.1) (hl : t.2.2.2.2.1.length ≤ 1000) (hc : t.2.2.1.length ≤ 9223372036854775807) {r : List VT} (R : RowOk t r) (es : List Ex) (he : es.length ≤ 4) (hz : ∀ x ∈ es, szE x) (hw : ∀ x ∈ es, wfE x) :
    ∀ m j nl (ys : List Ex), j + m = es.length → ys.length = j → (∀ y ∈ ys, Nice 8 y ∧ holdsP y r) → Ev2 (fun k n => law23_PlanEnough_l2 k n r nl ys es (es.length : Int) (j : Int) t.1 t.2.1 t.2.2.1 t.2.2.2.1 t.2.2.2.2.1) (true, ())
  | 0, j, nl, ys, hj, hy, hn => by
    refine .up ?_
    simp only [law23_PlanEnough_l2_eq, bf (show ¬ (j : Int) < es.length by omega)]
    refine Ev.e2 ?_
    refine (choose_evG ht hl 0 ys (by omega) (fun x hx => ⟨8, by omega, (hn x hx).1.small⟩) (fun x hx p hp => by
      obtain ⟨d, h⟩ := (hn x hx).1.parts p hp
      exact h.ge)).bind ?_
    have hok : ∀ v ∈ r, valOk v := fun v hv => (R.good v hv).1
    refine (rowkey_ev ht hok).bind ?_
    have hps : ∀ x ∈ ys.flatMap partsL, (∃ d, Nice d x) ∧ holdsP x r := fun x hx => by
      obtain ⟨y, hy', hx'⟩ := List.mem_flatMap.1 hx
      exact ⟨(hn y hy').1.parts x hx', parts_hold y r (hn y hy').2 x hx'⟩
    have hres := enough_is R hps (fun x hx => by obtain ⟨⟨d, h⟩, _⟩ := hps x hx; exact h.ge)
    generalize chooseM t 0 (ys.flatMap partsL) = c at hres
    obtain ⟨ci, ca⟩ := c
    rcases hres with ⟨h1, h2⟩ | ⟨h1, h2⟩
    · have h1 : ci = -1 := h1
      subst h1
      simp only [pkC, bf (show ¬ (0 : Int) ≤ -1 by omega)]
      exact in_ev _ _ ca h2
    · have h1 : 0 ≤ ci := h1
      refine Ev.mono1 (fun k => bt h1) ?_
      refine (idxkey_ev ht hl hok ci).bind ?_
      exact in_ev _ _ ca h2
  | m + 1, j, nl, ys, hj, hy, hn => by
    have hx : es[j]? = some es[j] := List.getElem?_eq_getElem (by omega)
    have e : wr .i64 ((j : Int) + 1) = ((j + 1 : Nat) : Int) := wr_nx (show j < es.length by omega) (by omega)
    have hm := List.getElem_mem (show j < es.length by omega)
    obtain ⟨b, sb, hb⟩ := light_exD es[j] (hz _ hm) 8 (by omega)
    refine .up ?_
    simp only [law23_PlanEnough_l2_eq, bt (show (j : Int) < es.length by omega), nth_get hx, Option.bind_some, e]
    refine Ev2.bind (Ev.e2 hb) ?_
    cases b with
    | false => exact .ret
    | true =>
      simp only [Bool.not_true, cond_false]
      refine (scopes_ev t).e2.bind ?_
      obtain ⟨y, kd, bad, hB, sy, ny⟩ := bind_nice [(t.2.1, (t, (0, ())))] (by simp) (by intro s hs; rw [List.mem_singleton.1 hs]; exact hc) es[j] 8 (sb rfl) (hw _ hm)
      refine Ev2.bind (Ev.e2 hB) ?_
      by_cases cb : bad = 0
      case neg =>
        refine Ev2.mono1 (fun k n => ?_) Ev2.ret
        show (bif (!decide (bad = 0)) then _ else _) = _
        rw [dF cb]; rfl
      subst cb
      obtain ⟨s, hS, _⟩ := sums_ex (Ex.re y) sy
      obtain ⟨hb1, hc1, hH, hh⟩ := holds_ev (Ex.re y) r
      show Ev2 (fun k n => (expr_Sums k y).bind _) _
      refine Ev2.bind (Ev.e2 hS) ?_
      cases s with
      | true => exact .ret
      | false =>
        show Ev2 (fun k n => (expr_Holds k y r).bind _) _
        refine Ev2.bind (Ev.e2 hH) ?_
        cases hb1 with
        | false => exact .ret
        | true =>
          have ih := en_l2 ht hl hc R es he hz hw m (j + 1) (nl && [Ex.re y].isEmpty) (ys ++ [Ex.re y]) (by omega) (by simp [hy]) (fun z hz' => by
            rcases List.mem_append.1 hz' with q | q
            · exact hn z q
            · rw [List.mem_singleton.1 q]; exact ⟨ny rfl, hh rfl⟩)
          refine Ev2.mono1 (fun k n => ?_) ih
          show lim (ys.length + 1) _ = _
          rw [lim_L (by omega)]; rfl
theorem en_l1 {t : TabT} (ht : I64 t.1) (hl : t.2.2.2.2.1.length ≤ 1000) (hc : t.2.2.1.length ≤ 9223372036854775807) {r : List VT} (hr : r.length ≤ 20) (es : List Ex) (he : es.length ≤ 4) (hz : ∀ x ∈ es, szE x) (hw : ∀ x ∈ es, wfE x) (R : (∀ x ∈ t.2.2.2.2.1, 0 ≤ x ∧ x < r.length) → RowOk t r) :
    ∀ m j, j + m = t.2.2.2.2.1.length → (∀ x ∈ t.2.2.2.2.1.take j, 0 ≤ x ∧ x < r.length) → Ev2 (fun k n => law23_PlanEnough_l1 k n es r t.2.2.2.2.1 (t.2.2.2.2.1.length : Int) (j : Int) t.1 t.2.1 t.2.2.1 t.2.2.2.1 t.2.2.2.2.1) (true, ())
  | 0, j, hj, hk => by
    refine .up ?_
    rw [List.take_of_length_le (by omega)] at hk
    simp only [law23_PlanEnough_l1_eq, bf (show ¬ (j : Int) < t.2.2.2.2.1.length by omega)]
    exact (en_l2 ht hl hc (R hk) es he hz hw es.length 0 true [] (by omega) rfl (fun y hy => by cases hy)).dg.e2
  | m + 1, j, hj, hk => by
    have hx : t.2.2.2.2.1[j]? = some t.2.2.2.2.1[j] := List.getElem?_eq_getElem (by omega)
    have e : wr .i64 ((j : Int) + 1) = ((j + 1 : Nat) : Int) := wr_nx (show j < t.2.2.2.2.1.length by omega) (by omega)
    refine .up ?_
    simp only [law23_PlanEnough_l1_eq, bt (show (j : Int) < t.2.2.2.2.1.length by omega), nth_get hx, Option.bind_some, e]
    by_cases c1 : t.2.2.2.2.1[j] < 0
    · simp only [bt c1]; exact .ret
    simp only [bf c1]
    by_cases c2 : (r.length : Int) ≤ t.2.2.2.2.1[j]
    · simp only [bt c2]; exact .ret
    simp only [bf c2]
    refine en_l1 ht hl hc hr es he hz hw R m (j + 1) (by omega) fun x hx' => ?_
    rw [List.take_add_one, hx] at hx'
    rcases List.mem_append.1 hx' with q | q
    · exact hk x q
    · have : x = t.2.2.2.2.1[j] := by simpa using q
      rw [this]; omega
theorem en_l0 {t : TabT} (ht : I64 t.1) (hl : t.2.2.2.2.1.length ≤ 1000) (hc : t.2.2.1.length ≤ 9223372036854775807) {r : List VT} (hr : r.length ≤ 20) (hlen : r.length = t.2.2.1.length) (hkey : 0 ≤ t.2.2.2.1 ∧ t.2.2.2.1 < r.length) (hg : ∀ v ∈ r, GoodV v) (es : List Ex) (he : es.length ≤ 4) (hz : ∀ x ∈ es, szE x) (hw : ∀ x ∈ es, wfE x) :
    ∀ m j, j + m = r.length → (∀ v ∈ r.take j, v.1 = 0 ∨ v.1 = 1 ∨ v.1 = 2) → Ev2 (fun k n => law23_PlanEnough_l0 k n es r r (r.length : Int) (j : Int) t.1 t.2.1 t.2.2.1 t.2.2.2.1 t.2.2.2.2.1) (true, ())
  | 0, j, hj, hk => by
    refine .up ?_
    rw [List.take_of_length_le (by omega)] at hk
    simp only [law23_PlanEnough_l0_eq, bf (show ¬ (j : Int) < r.length by omega)]
    exact (en_l1 ht hl hc hr es he hz hw (fun hi => ⟨hg, hk, hkey, hi, hr⟩) t.2.2.2.2.1.length 0 (by omega) (fun x hx => by rw [List.take_zero] at hx; cases hx)).dg.e2
  | m + 1, j, hj, hk => by
    have hx : r[j]? = some r[j] := List.getElem?_eq_getElem (by omega)
    have e : wr .i64 ((j : Int) + 1) = ((j + 1 : Nat) : Int) := wr_nx (show j < r.length by omega) (by omega)
    have hcol : t.2.2.1[j]? = some t.2.2.1[j] := List.getElem?_eq_getElem (by omega)
    have pl : ∀ k, ref01_Plain k (r[j].1, (r[j].2.1, (r[j].2.2.1, ()))) = some (plainV r[j], (plainV r[j], ())) := fun k => plain_is k r[j]
    have de : Ty.decEq (.st (.pair (.int .i64) (.pair (.int .i64) (.pair .str .unit)))) (r[j].1, (r[j].2.1, (r[j].2.2.1, ()))) (plainV r[j]) = decide (r[j] = plainV r[j]) := decEqV r[j] (plainV r[j])
    refine .up ?_
    simp only [law23_PlanEnough_l0_eq, bt (show (j : Int) < r.length by omega), nth_get hx, nth_get hcol, Option.bind_some, e, pl, de]
    by_cases c1 : r[j] = plainV r[j]
    case neg => simp only [dF c1, Bool.not_false, cond_true]; exact .ret
    simp only [dT c1, Bool.not_true, cond_false]
    have ih := en_l0 ht hl hc hr hlen hkey hg es he hz hw m (j + 1) (by omega) fun v hv => by
      rw [List.take_add_one, hx] at hv
      rcases List.mem_append.1 hv with q | q
      · exact hk v q
      · have : v = r[j] := by simpa using q
        rw [this, c1]
        unfold plainV
        split
        · exact .inr (.inl rfl)
        · split
          · exact .inr (.inr rfl)
          · exact .inl rfl
    by_cases c2 : r[j].1 = 0
    · simp only [dT c2, Bool.not_true, cond_false]; exact ih
    · simp only [dF c2, Bool.not_false, cond_true]
      by_cases c3 : r[j].1 = (t.2.2.1[j]).2.1
      · simp only [dT c3, Bool.not_true, cond_false]; exact ih
      · simp only [dF c3, Bool.not_false, cond_true]; exact .ret
theorem en_core (t : TabT) (es : List Ex) (r : List VT) (ht : I64 t.1) (hc : t.2.2.1.length ≤ 9223372036854775807) (hz : ∀ x ∈ es, szE x) (hw : ∀ x ∈ es, wfE x) (h3 : r.length ≤ 9223372036854775807) (hv : ∀ v ∈ r, I64 v.2.1 ∧ Byt v.2.2.1) : ∃ k, law23_PlanEnough k t es r = some (true, ()) := by
  apply Ev.ex
  simp only [law23_PlanEnough_eq]
  refine Ev.bind awake23 ?_
  simp only [Bool.not_true, cond_false]
  refine Ev.bind (show Ev (fun k => law21_Small k t) _ from small_ev hc) ?_
  cases hsm : smallB t t.2.2.1 with
  | false => exact .ret
  | true =>
  simp only [Bool.not_true, cond_false]
  by_cases h4 : 4 < (es.length : Int)
  · simp only [bt h4]; exact .ret
  simp only [bf h4]
  refine Ev.bind (few_ev' h3) ?_
  cases h : fewB r r
  · exact .ret
  unfold fewB at h
  simp only [Bool.and_eq_true, List.all_eq_true, decide_eq_true_eq] at h
  simp only [Bool.not_true, cond_false]
  by_cases h5 : (r.length : Int) = t.2.2.1.length
  case neg => simp only [dF h5, Bool.not_false, cond_true]; exact .ret
  simp only [dT h5, Bool.not_true, cond_false]
  by_cases h6 : t.2.2.2.1 < 0
  · simp only [bt h6]; exact .ret
  simp only [bf h6]
  by_cases h7 : (r.length : Int) ≤ t.2.2.2.1
  · simp only [bt h7]; exact .ret
  simp only [bf h7]
  have := (small_of hsm).2.1
  exact (en_l0 ht (by omega) hc h.2 (by omega) ⟨by omega, by omega⟩ (fun v hv' => ⟨⟨(hv v hv').1, by have := h.1 v hv'; omega⟩, (hv v hv').2⟩) es (by omega) hz hw r.length 0 (by omega) (fun x hx => by rw [List.take_zero] at hx; cases hx)).dg
theorem PlanEnough_true (t : ((.st (.pair (.int .i64) (.pair .str (.pair (.sl (.st (.pair .str (.pair (.int .i64) (.pair .bool .unit))))) (.pair (.int .i64) (.pair (.sl (.int .i64)) .unit)))))) : Ty).D) (es : List (Ty.ex : Ty).D) (r : List ((.st (.pair (.int .i64) (.pair (.int .i64) (.pair .str .unit)))) : Ty).D) (f0 : wfD (.st (.pair (.int .i64) (.pair .str (.pair (.sl (.st (.pair .str (.pair (.int .i64) (.pair .bool .unit))))) (.pair (.int .i64) (.pair (.sl (.int .i64)) .unit)))))) t) (f1 : wfD (.sl .ex) es) (f2 : wfD (.sl (.st (.pair (.int .i64) (.pair (.int .i64) (.pair .str .unit))))) r) (z1 : szD (.sl .ex) es) : ∃ k, law23_PlanEnough k t es r = some (true, ()) :=
  en_core t es r (wf_i64 f0.1) f0.2.2.1.1 (fun x hx => z1.2 x hx) (fun x hx => f1.2 x hx) f2.1 (fun v hv => by
    obtain ⟨_, q1, ⟨_, q2⟩, _⟩ := f2.2 v hv
    exact ⟨wf_i64 q1, q2⟩)
end Go.Proofs.Ytmngjegceoidhaa.Den
