import Derived.Test.YtgmeimbamfggkaaDLockDoes
import Derived.Test.YtgmeimbamfggkaaDen35
namespace Go.Proofs.Ytgmeimbamfggkaa.Den
open Go Go.RowKit
set_option linter.unusedVariables false
abbrev Lk : Type := Int × (Int × (Int × ((List Int) × ((List Int) × Unit))))
theorem clone_v (k : Nat) (l : List Int) : slices_Clone_s_byte_byte k l = lim (0 + l.length) (some (l, ())) := by
  rw [slices_Clone_s_byte_byte_eq]
  cases l with
  | nil => exact twoW_self _
  | cons a l => rfl
theorem own_v (k : Nat) (a : Lk) : lock_own k a = (lim (0 + a.2.2.2.1.length) (lim (0 + a.2.2.2.2.1.length) (some ((a.1, (a.2.1, (a.2.2.1, (a.2.2.2.1, (a.2.2.2.2.1, ()))))), ((a.1, (a.2.1, (a.2.2.1, (a.2.2.2.1, (a.2.2.2.2.1, ()))))), ()))))) := by
  rw [lock_own_eq, clone_v, clone_v]
  unfold lim
  split
  · split <;> rfl
  · rfl
theorem ask1_v (k : Nat) : lock_Table_Ask (k + 10) ((1 : Int), ((1 : Int), ((3 : Int), ([97], ([], ()))))) 0 0 true [] [] = some ((true, (0, ())), ((1, (0, (true, ()))), ((), ((), (([(1, (1, (3, ([97], ([], ())))))], ()), (([], ()), ())))))) := by
  rw [lock_Table_Ask_eq]
  simp only [own_v]
  kernel_rfl
theorem ask2_v (k : Nat) : lock_Table_Ask (k + 10) ((2 : Int), ((1 : Int), ((4 : Int), ([98], ([99], ()))))) 1 0 true [(1, (1, (3, ([97], ([], ())))))] [] = some ((false, (0, ())), ((1, (1, (true, ()))), ((), ((), (([(1, (1, (3, ([97], ([], ())))))], ()), (([(2, (1, (4, ([98], ([99], ())))))], ()), ())))))) := by
  kernel_rfl
theorem awake14 : Ev (fun k => law14_awake k) (true, ()) := Ev.from 10 fun k => by
  rw [law14_awake_eq, lock_New_eq]
  simp only [Option.bind_some, ask1_v, ask2_v]
  rfl
theorem ltLk_asym : ∀ a b, ltL a b = true → ltL b a = false
  | [], [], h => by cases h
  | [], _ :: _, _ => rfl
  | _ :: _, [], h => by cases h
  | a :: x, b :: y, h => by
    have ih := ltLk_asym x y
    unfold ltL at h ⊢
    by_cases c : a < b
    · have : ¬ b < a := by omega
      have : ¬ b = a := by omega
      simp [*]
    · by_cases e : a = b
      · subst e
        simp at h ⊢
        exact ih h
      · simp [c, e] at h
theorem cmp_v : ∀ a b, cmpL a b = if ltL a b then -1 else if ltL b a then 1 else 0
  | [], [] => rfl
  | [], _ :: _ => rfl
  | _ :: _, [] => rfl
  | a :: x, b :: y => by
    have ih := cmp_v x y
    unfold cmpL ltL
    by_cases h : a < b
    · simp [h]
    · by_cases h2 : b < a
      · have : ¬ a = b := by omega
        simp [h, h2, this]
      · have : a = b := by omega
        simp [this, ih]
theorem cmp_gt (a b : List Int) : decide (0 < cmpL a b) = ltL b a := by
  rw [cmp_v]
  cases h : ltL a b with
  | true => rw [ltLk_asym _ _ h]; rfl
  | false => cases ltL b a <;> rfl
theorem cmp_le (a b : List Int) : decide (cmpL a b ≤ 0) = !ltL b a := by
  rw [cmp_v]
  cases h : ltL a b with
  | true => rw [ltLk_asym _ _ h]; rfl
  | false => cases ltL b a <;> rfl
theorem compare_v (k : Nat) (a b : List Int) : bytes_Compare k a b = some (cmpL a b, ()) := by
  rw [bytes_Compare_eq, internal_bytealg_Compare_eq]; rfl
/-- Whether a bound isn't above a key. -/
def endP (hi key : List Int) : Bool := decide (0 < (hi.length : Int)) && !ltL key hi
theorem ends_v (k : Nat) (h y : List Int) : lock_ends k h y = some (endP h y, ()) := by
  rw [lock_ends_eq, compare_v]
  unfold endP
  cases decide (0 < (h.length : Int))
  · rfl
  · show some (decide (cmpL h y ≤ 0), ()) = _
    rw [cmp_le]; rfl
def meetP (a b : Lk) : Bool := decide (a.2.1 = b.2.1) && (!endP a.2.2.2.2.1 b.2.2.2.1 && !endP b.2.2.2.2.1 a.2.2.2.1)
theorem meets_v (k : Nat) (a b : Lk) : lock_meets k a b = some (meetP a b, ()) := by
  rw [lock_meets_eq]
  simp only [ends_v, Option.bind_some]
  unfold meetP
  cases decide (a.2.1 = b.2.1) <;> cases endP a.2.2.2.2.1 b.2.2.2.1 <;> rfl
def apartP (a b : Lk) : Bool := decide (a.1 = b.1) || !meetP a b
theorem apart_v (k : Nat) (a b : Lk) : lock_Apart k a b = some (apartP a b, ()) := by
  rw [lock_Apart_eq]
  simp only [meets_v, Option.bind_some]
  unfold apartP
  cases decide (a.1 = b.1) <;> rfl
theorem mode_v (k : Nat) (m : Int) : lock_mode k m = some (decide (1 ≤ m) && decide (m ≤ 4), ()) := by
  rw [lock_mode_eq]
  cases decide (1 ≤ m) <;> rfl
/-- Modes that fit; the lesser one first. -/
def fit1 (a b : Int) : Bool := bif decide (a < 1) then false else bif decide (4 < b) then false else bif decide (a = 1) then !decide (b = 4) else bif decide (a = 2) then decide (b = 2) else bif decide (a = 3) then decide (b = 3) else false
def fitP (a b : Int) : Bool := bif decide (b < a) then fit1 b a else fit1 a b
theorem fits_v (k : Nat) (a b : Int) : lock_Fits k a b = some (fitP a b, ()) := by
  rw [lock_Fits_eq]
  simp only [mode_v, lock_fits_eq, Option.bind_some]
  by_cases ha : 1 ≤ a ∧ a ≤ 4
  · by_cases hb : 1 ≤ b ∧ b ≤ 4
    · have h1 : a = 1 ∨ a = 2 ∨ a = 3 ∨ a = 4 := by omega
      have h2 : b = 1 ∨ b = 2 ∨ b = 3 ∨ b = 4 := by omega
      rcases h1 with rfl | rfl | rfl | rfl <;> rcases h2 with rfl | rfl | rfl | rfl <;> rfl
    · have e : (decide (1 ≤ b) && decide (b ≤ 4)) = false := by simpa using hb
      rw [e, show (decide (1 ≤ a) && decide (a ≤ 4)) = true by simpa using ha]
      show some (false, ()) = _
      congr 2
      unfold fitP fit1
      by_cases c : b < a
      · rw [dT c]; have : b < 1 := by omega
        rw [dT this]; rfl
      · rw [dF c, dF (show ¬ a < 1 by omega)]
        by_cases c4 : 4 < b
        · rw [dT c4]; rfl
        · exact absurd ⟨by omega, by omega⟩ hb
  · have e : (decide (1 ≤ a) && decide (a ≤ 4)) = false := by simpa using ha
    rw [e]
    show some (false, ()) = _
    congr 2
    unfold fitP fit1
    by_cases c : b < a
    · rw [dT c]
      by_cases c1 : b < 1
      · rw [dT c1]; rfl
      · rw [dF c1, dT (show 4 < a by omega)]; rfl
    · rw [dF c]
      by_cases c1 : a < 1
      · rw [dT c1]; rfl
      · rw [dF c1, dT (show 4 < b by omega)]; rfl
theorem fitP_comm (a b : Int) : fitP a b = fitP b a := by
  unfold fitP
  by_cases c : b < a
  · rw [dT c, dF (show ¬ a < b by omega)]; rfl
  · by_cases c2 : a < b
    · rw [dF c, dT c2]; rfl
    · have : a = b := by omega
      subst this; rfl
def modeC (a b : Int) : Bool := decide (a = b) || (decide (a = 4) || (decide (b = 1) && (decide (a = 3) || decide (a = 2))))
def covP (a b : Lk) : Bool := decide (a.1 = b.1) && (decide (a.2.1 = b.2.1) && (!ltL b.2.2.2.1 a.2.2.2.1 && ((decide ((a.2.2.2.2.1.length : Int) = 0) || (decide (0 < (b.2.2.2.2.1.length : Int)) && !ltL a.2.2.2.2.1 b.2.2.2.2.1)) && modeC a.2.2.1 b.2.2.1)))
theorem pos_dec (l : List Int) : decide (0 < (l.length : Int)) = !decide ((l.length : Int) = 0) := by
  cases l with
  | nil => rfl
  | cons a l => rw [dT (by simp; try omega), dF (by simp; try omega)]; rfl
theorem covers_v (k : Nat) (a b : Lk) : lock_Covers k a b = some (covP a b, ()) := by
  rw [lock_Covers_eq]
  simp only [compare_v, Option.bind_some, cmp_gt, pos_dec]
  unfold covP modeC
  simp only [pos_dec]
  cases decide (a.1 = b.1) <;> (try rfl)
  cases decide (a.2.1 = b.2.1) <;> (try rfl)
  cases ltL b.2.2.2.1 a.2.2.2.1 <;> (try rfl)
  cases decide ((a.2.2.2.2.1.length : Int) = 0) <;> cases decide ((b.2.2.2.2.1.length : Int) = 0) <;> cases ltL a.2.2.2.2.1 b.2.2.2.2.1 <;> (try rfl) <;>
    (cases decide (a.2.2.1 = b.2.2.1) <;> cases decide (a.2.2.1 = 4) <;> cases decide (b.2.2.1 = 1) <;> cases decide (a.2.2.1 = 3) <;> rfl)
theorem below_v (k : Nat) (h y : List Int) : ref12_below k h y = some (endP h y, ()) := by
  rw [ref12_below_eq]
  unfold endP
  cases decide (0 < (h.length : Int)) <;> rfl
theorem rmeets_v (k : Nat) (a b : Lk) : ref12_meets k a b = some (meetP a b, ()) := by
  rw [ref12_meets_eq]
  simp only [below_v, Option.bind_some]
  unfold meetP
  cases decide (a.2.1 = b.2.1) <;> cases endP a.2.2.2.2.1 b.2.2.2.1 <;> rfl
theorem rapart_v (k : Nat) (a b : Lk) : ref12_Apart k a b = some (apartP a b, ()) := by
  rw [ref12_Apart_eq]
  simp only [rmeets_v, Option.bind_some]
  unfold apartP
  cases decide (a.1 = b.1) <;> rfl
theorem rfits1_v (k : Nat) (a b : Int) : ref12_Fits_j0 (k + 1) a b = some (fit1 a b, ()) := by
  rw [ref12_Fits_j0_eq]
  unfold fit1
  cases decide (a < 1) <;> cases decide (4 < b) <;> cases decide (a = 1) <;> cases decide (a = 2) <;> cases decide (a = 3) <;> rfl
theorem rfits_v (k : Nat) (a b : Int) : ref12_Fits (k + 1) a b = some (fitP a b, ()) := by
  rw [ref12_Fits_eq]
  simp only [rfits1_v]
  unfold fitP
  cases decide (b < a) <;> rfl
attribute [local irreducible] bytes_Compare bytes_Equal internal_bytealg_Compare law14_LockDoes law14_LockDoes_j0 law14_LockDoes_l0 law14_awake law14_few law14_few_l0 lock_Apart lock_Covers lock_Fits lock_New lock_Table_Ask lock_Table_Ask_1 lock_Table_Ask_2 lock_Table_Ask_j0 lock_Table_Edges lock_Table_Edges_l0 lock_Table_Edges_l1 lock_Table_Free lock_Table_Free_1 lock_Table_Held lock_Table_Waiting lock_Table_inWay lock_Table_inWay_1 lock_Table_inWay_j0 lock_Table_leave_1 lock_Table_leave_1_v2 lock_Table_leave_lock_Table_Ask_2 lock_Table_leave_lock_none lock_Table_ok lock_Table_place lock_Table_place_1 lock_against lock_against_j0 lock_against_l0 lock_against_v2 lock_against_v2_j0 lock_against_v2_l0 lock_all lock_all_l0 lock_all_v2 lock_all_v2_l0 lock_ends lock_fits lock_may lock_meets lock_mode lock_none lock_own lock_same ref12_Apart ref12_Covers ref12_Cycle ref12_Cycle_j0 ref12_Cycle_l0 ref12_Fits ref12_Fits_j0 ref12_SameEdges ref12_SameEdges_l0 ref12_SameLocks ref12_SameLocks_l0 ref12_Table_Ask ref12_Table_Ask_j0 ref12_Table_Ask_l0 ref12_Table_Ask_l1 ref12_Table_Edges ref12_Table_Edges_j0 ref12_Table_Edges_l0 ref12_Table_Edges_l1 ref12_Table_Edges_l2 ref12_Table_Free ref12_Table_Free_j0 ref12_Table_Free_l0 ref12_Table_leave ref12_Table_leave_j0 ref12_Table_leave_l0 ref12_Table_way ref12_Table_way_l0 ref12_against ref12_against_j0 ref12_against_l0 ref12_below ref12_meets ref12_same ref12_walk ref12_walk_j0 ref12_walk_l0 ref12_walk_l1 ref12_walk_l2 slices_Clone_s_byte_byte slices_ContainsFunc_Lock_Lock_lock_Table_Ask_1 slices_ContainsFunc_Lock_Lock_lock_Table_inWay_1 slices_DeleteFunc_Lock_Lock_lock_Table_Free_1 slices_DeleteFunc_Lock_Lock_lock_Table_Free_1_j0 slices_DeleteFunc_Lock_Lock_lock_Table_Free_1_l0 slices_DeleteFunc_Lock_Lock_lock_Table_leave_1 slices_DeleteFunc_Lock_Lock_lock_Table_leave_1_j0 slices_DeleteFunc_Lock_Lock_lock_Table_leave_1_l0 slices_DeleteFunc_Lock_Lock_lock_Table_leave_1_v2 slices_DeleteFunc_Lock_Lock_lock_Table_leave_1_v2_j0 slices_DeleteFunc_Lock_Lock_lock_Table_leave_1_v2_l0 slices_IndexFunc_Lock_Lock_lock_Table_Ask_1 slices_IndexFunc_Lock_Lock_lock_Table_Ask_1_l0 slices_IndexFunc_Lock_Lock_lock_Table_Free_1 slices_IndexFunc_Lock_Lock_lock_Table_Free_1_l0 slices_IndexFunc_Lock_Lock_lock_Table_inWay_1 slices_IndexFunc_Lock_Lock_lock_Table_inWay_1_l0 slices_IndexFunc_Lock_Lock_lock_Table_leave_1 slices_IndexFunc_Lock_Lock_lock_Table_leave_1_l0 slices_IndexFunc_Lock_Lock_lock_Table_leave_1_v2 slices_IndexFunc_Lock_Lock_lock_Table_leave_1_v2_l0 slices_IndexFunc_Lock_Lock_lock_Table_place_1 slices_IndexFunc_Lock_Lock_lock_Table_place_1_l0 slices_Reverse_s_uint64_uint64 slices_Reverse_s_uint64_uint64_l0 wait_Cycle wait_Cycle_round wait_Cycle_round_l0 wait_walk wait_walk_1 wait_walk_1_j0 wait_walk_1_l0 wait_walk_1_l1
theorem wr_suc {j : Nat} (h : j < 1000000) : wr .i64 ((j : Int) + 1) = ((j + 1 : Nat) : Int) := by
  rw [wr_i64 (by omega)]; omega
theorem must_tr {α : Type} (x : Option α) : must true x = x := rfl
/-- The place of the first that is so. -/
theorem idx_ev {ρ : Type} {L : Nat → Nat → Int → Option ρ} {W : List Lk} {c : Nat} {p : Lk → Bool} {A : Int → ρ} {B : ρ} (hc : c ≤ W.length)
    (hs : ∀ k n (j : Nat) x, j < c → W[j]? = some x → L k (n + 1) (j : Int) = bif p x then some (A (j : Int)) else L k n ((j + 1 : Nat) : Int))
    (hd : ∀ k n, L k (n + 1) (c : Int) = some B) : ∀ d j, j + d = c → Ev2 (fun k n => L k n (j : Int)) (match ((W.take c).drop j).findIdx? p with | some i => A ((j + i : Nat) : Int) | none => B) := by
  intro d
  induction d with
  | zero =>
    intro j hj
    have : j = c := by omega
    subst this
    rw [List.drop_eq_nil_of_le (by rw [List.length_take]; omega)]
    exact .up ⟨0, fun k n _ _ => hd k n⟩
  | succ d ih =>
    intro j hj
    have hlt : j < W.length := by omega
    have hx : W[j]? = some W[j] := List.getElem?_eq_getElem hlt
    have hdr : (W.take c).drop j = W[j] :: (W.take c).drop (j + 1) := by
      rw [List.drop_eq_getElem_cons (by rw [List.length_take]; omega)]
      simp
    rw [hdr, List.findIdx?_cons]
    refine .up ?_
    cases hp : p W[j] with
    | true =>
      refine ⟨0, fun k n _ _ => ?_⟩
      show L k (n + 1) (j : Int) = _
      rw [hs k n j _ (by omega) hx, hp]; rfl
    | false =>
      obtain ⟨K, hK⟩ := ih (j + 1) (by omega)
      refine ⟨K, fun k n hk hn => ?_⟩
      show L k (n + 1) (j : Int) = _
      rw [hs k n j _ (by omega) hx, hp]
      show L k n _ = _
      rw [show L k n ((j + 1 : Nat) : Int) = _ from hK k n hk hn]
      cases ((W.take c).drop (j + 1)).findIdx? p with
      | none => rfl
      | some i => show some (A _) = some (A _); congr 3; show j + 1 + i = j + (i + 1); omega
/-- Those that are so go; those that stay move up. -/
theorem del_ev {ρ : Type} {L : Nat → Nat → Int → Int → List Lk → Option ρ} {c : Nat} {p : Lk → Bool} {R : Nat → List Lk → ρ} {z : Lk}
    (hs : ∀ k n (i j : Nat) W x, i ≤ j → j < c → c ≤ W.length → W[j]? = some x → L (k + 1) (n + 1) (i : Int) (j : Int) W = bif p x then L (k + 1) n (i : Int) ((j + 1 : Nat) : Int) W else L (k + 1) n ((i + 1 : Nat) : Int) ((j + 1 : Nat) : Int) (W.set i x))
    (hd : ∀ k n (i : Nat) W, i ≤ c → c ≤ W.length → L k (n + 1) (i : Int) (c : Int) W = some (R i (lay W i (List.replicate (c - i) z)))) :
    ∀ d (j i : Nat) W, j + d = c → i ≤ j → c ≤ W.length → ∃ i' W', Ev2 (fun k n => L k n (i : Int) (j : Int) W) (R i' W') ∧ i' ≤ W'.length ∧ W'.take i' = W.take i ++ ((W.take c).drop j).filter (fun x => !p x) := by
  intro d
  induction d with
  | zero =>
    intro j i W hj hi hc
    have : j = c := by omega
    subst this
    refine ⟨i, lay W i (List.replicate (j - i) z), .up ⟨0, fun k n _ _ => hd k n i W hi hc⟩, ?_, ?_⟩
    · unfold lay; simp; omega
    · rw [List.drop_eq_nil_of_le (by rw [List.length_take]; omega)]
      unfold lay
      rw [List.append_assoc, List.take_append_of_le_length (by rw [List.length_take]; omega), List.take_take]
      simp
  | succ d ih =>
    intro j i W hj hi hc
    have hlt : j < W.length := by omega
    have hx : W[j]? = some W[j] := List.getElem?_eq_getElem hlt
    have hdr : (W.take c).drop j = W[j] :: (W.take c).drop (j + 1) := by
      rw [List.drop_eq_getElem_cons (by rw [List.length_take]; omega)]
      simp
    rw [hdr, List.filter_cons]
    cases hp : p W[j] with
    | true =>
      obtain ⟨i', W', hE, h1, h2⟩ := ih (j + 1) i W (by omega) (by omega) hc
      refine ⟨i', W', .up (.upk ?_), h1, by simpa using h2⟩
      obtain ⟨K, hK⟩ := hE
      refine ⟨K, fun k n hk hn => ?_⟩
      show L (k + 1) (n + 1) (i : Int) (j : Int) W = _
      rw [hs k n i j W _ hi (by omega) hc hx, hp]
      exact hK (k + 1) n (by omega) hn
    | false =>
      obtain ⟨i', W', hE, h1, h2⟩ := ih (j + 1) (i + 1) (W.set i W[j]) (by omega) (by omega) (by rw [List.length_set]; exact hc)
      refine ⟨i', W', .up (.upk ?_), h1, ?_⟩
      · obtain ⟨K, hK⟩ := hE
        refine ⟨K, fun k n hk hn => ?_⟩
        show L (k + 1) (n + 1) (i : Int) (j : Int) W = _
        rw [hs k n i j W _ hi (by omega) hc hx, hp]
        exact hK (k + 1) n (by omega) hn
      · rw [h2]
        have e1 : (W.set i W[j]).take (i + 1) = W.take i ++ [W[j]] := by
          rw [List.take_add_one, List.getElem?_set_self (by omega), List.take_set_of_le (Nat.le_refl _)]
          rfl
        have e2 : ((W.set i W[j]).take c).drop (j + 1) = (W.take c).drop (j + 1) := by
          rw [List.take_set, List.drop_set_of_lt (by omega)]
        rw [e1, e2]
        simp
theorem ask1c_v (k : Nat) (h : Lk) (a b c : Int) (d e : List Int) : lock_Table_Ask_1 k h a b c d e = some (covP h (a, (b, (c, (d, (e, ()))))), ((a, (b, (c, (d, (e, ()))))), ())) := by
  rw [lock_Table_Ask_1_eq, covers_v]; rfl
theorem inway1_v (k : Nat) (h : Lk) (a b c : Int) (d e : List Int) : lock_Table_inWay_1 k h a b c d e = some (decide (h.1 = a) && meetP h (a, (b, (c, (d, (e, ()))))), ((a, (b, (c, (d, (e, ()))))), ())) := by
  rw [lock_Table_inWay_1_eq, meets_v]
  cases decide (h.1 = a) <;> rfl
def sameP (a b : Lk) : Bool := decide (a.1 = b.1) && (decide (a.2.1 = b.2.1) && (decide (a.2.2.1 = b.2.2.1) && (beqL a.2.2.2.1 b.2.2.2.1 && beqL a.2.2.2.2.1 b.2.2.2.2.1)))
theorem same_v (k : Nat) (a b : Lk) : lock_same k a b = some (sameP a b, ()) := by
  rw [lock_same_eq]
  simp only [bytes_Equal_eq, Option.bind_some]
  unfold sameP
  cases decide (a.1 = b.1) <;> cases decide (a.2.1 = b.2.1) <;> cases decide (a.2.2.1 = b.2.2.1) <;> cases beqL a.2.2.2.1 b.2.2.2.1 <;> rfl
theorem place1_v (k : Nat) (h : Lk) (a b c : Int) (d e : List Int) : lock_Table_place_1 k h a b c d e = some (sameP h (a, (b, (c, (d, (e, ()))))), ((a, (b, (c, (d, (e, ()))))), ())) := by
  rw [lock_Table_place_1_eq, same_v]; rfl
theorem leave1_v (k : Nat) (h : Lk) (t a b c : Int) (d e : List Int) : lock_Table_leave_1 k h t a b c d e = some (decide (h.1 = t) && !sameP h (a, (b, (c, (d, (e, ()))))), ((t, ()), ((((), ()), ()), ((a, (b, (c, (d, (e, ()))))), ())))) := by
  rw [lock_Table_leave_1_eq, lock_Table_Ask_2_eq, same_v]
  cases decide (h.1 = t) <;> rfl
theorem leave2_v (k : Nat) (h : Lk) (t : Int) : lock_Table_leave_1_v2 k h t = some (decide (h.1 = t), ((t, ()), (((), ()), ()))) := by
  rw [lock_Table_leave_1_v2_eq, lock_none_eq]
  cases decide (h.1 = t) <;> rfl
theorem find_any (p : Lk → Bool) (l : List Lk) : (l.findIdx? p).isSome = l.any p := List.findIdx?_isSome
theorem hasCov_ev {W : List Lk} {c : Nat} (x : Lk) (hc : c ≤ W.length) (hb : c ≤ 100000) :
    Ev (fun k => slices_ContainsFunc_Lock_Lock_lock_Table_Ask_1 k c W x.1 x.2.1 x.2.2.1 x.2.2.2.1 x.2.2.2.2.1) ((W.take c).any (fun h => covP h x), ((W, ()), ((x.1, (x.2.1, (x.2.2.1, (x.2.2.2.1, (x.2.2.2.2.1, ()))))), ()))) := by
  simp only [slices_ContainsFunc_Lock_Lock_lock_Table_Ask_1_eq, slices_IndexFunc_Lock_Lock_lock_Table_Ask_1_eq]
  have h := (idx_ev (L := fun k n i => slices_IndexFunc_Lock_Lock_lock_Table_Ask_1_l0 k n c ((c : Nat) : Int) i W x.1 x.2.1 x.2.2.1 x.2.2.2.1 x.2.2.2.2.1) (W := W) (c := c) (p := fun h => covP h x)
    (A := fun i => (i, ((W, ()), ((x.1, (x.2.1, (x.2.2.1, (x.2.2.2.1, (x.2.2.2.2.1, ()))))), ())))) (B := ((-1 : Int), ((W, ()), ((x.1, (x.2.1, (x.2.2.1, (x.2.2.2.1, (x.2.2.2.2.1, ()))))), ())))) hc
    (fun k n j y hj hy => by
      show slices_IndexFunc_Lock_Lock_lock_Table_Ask_1_l0 k (n + 1) _ _ _ _ _ _ _ _ _ = _
      rw [slices_IndexFunc_Lock_Lock_lock_Table_Ask_1_l0_eq, bt (by omega), inI_t (by omega) (by omega), must_tr, Nat.zero_add, Int.toNat_natCast, hy, Option.bind_some, ask1c_v, Option.bind_some, wr_suc (by omega)])
    (fun k n => by
      show slices_IndexFunc_Lock_Lock_lock_Table_Ask_1_l0 k (n + 1) _ _ _ _ _ _ _ _ _ = _
      rw [slices_IndexFunc_Lock_Lock_lock_Table_Ask_1_l0_eq, bf (by omega)]) c 0 (by omega)).dg
  refine .bind h (.from 0 fun k => ?_)
  rw [List.drop_zero, ← find_any]
  cases (W.take c).findIdx? fun h => covP h x with
  | none => rfl
  | some i => show some (decide (0 ≤ ((0 + i : Nat) : Int)), _) = _; rw [dT (by omega)]; rfl
theorem filt_none {p : Lk → Bool} {l : List Lk} (h : l.findIdx? p = none) : l.filter (fun x => !p x) = l := by
  rw [List.filter_eq_self]
  intro x hx
  rw [List.findIdx?_eq_none_iff] at h
  simp [h x hx]
theorem filt_some {p : Lk → Bool} : ∀ {l : List Lk} {i : Nat}, l.findIdx? p = some i → i < l.length ∧ l.filter (fun x => !p x) = l.take i ++ (l.drop (i + 1)).filter (fun x => !p x)
  | [], i, h => by simp at h
  | x :: l, i, h => by
    rw [List.findIdx?_cons] at h
    cases hp : p x with
    | true =>
      rw [hp] at h
      cases h
      simp [hp]
    | false =>
      rw [hp] at h
      obtain ⟨j, h1, rfl⟩ := Option.map_eq_some_iff.1 (show (l.findIdx? p).map (fun i => i + 1) = some i from h)
      obtain ⟨k1, k2⟩ := filt_some h1
      refine ⟨by simp; omega, ?_⟩
      rw [List.filter_cons, hp]
      simp [k2]
/-- All of a row's part that is so is deleted. -/
theorem delF_ev {σ ρ : Type} {I : Nat → Option σ} {D : Nat → Option ρ} {L : Nat → Nat → Int → Int → List Lk → Option ρ} {W : List Lk} {c : Nat} {p : Lk → Bool} (RI : Int → σ) (R : Nat → List Lk → ρ) {z : Lk} (hc : c ≤ W.length)
    (hI : Ev I (match ((W.take c).drop 0).findIdx? p with | some i => RI ((0 + i : Nat) : Int) | none => RI (-1)))
    {G : Nat → σ → Option ρ} (hD : ∀ k, D k = (I k).bind (G k)) (hG1 : ∀ k, G k (RI (-1)) = some (R c W)) (hG2 : ∀ k (i : Nat), i < c → G k (RI (i : Int)) = L k k (i : Int) ((i + 1 : Nat) : Int) W)
    (hs : ∀ k n (i j : Nat) W x, i ≤ j → j < c → c ≤ W.length → W[j]? = some x → L (k + 1) (n + 1) (i : Int) (j : Int) W = bif p x then L (k + 1) n (i : Int) ((j + 1 : Nat) : Int) W else L (k + 1) n ((i + 1 : Nat) : Int) ((j + 1 : Nat) : Int) (W.set i x))
    (hd : ∀ k n (i : Nat) W, i ≤ c → c ≤ W.length → L k (n + 1) (i : Int) (c : Int) W = some (R i (lay W i (List.replicate (c - i) z)))) :
    ∃ (n : Nat) (W' : List Lk), Ev D (R n W') ∧ n ≤ W'.length ∧ W'.take n = (W.take c).filter (fun x => !p x) := by
  have hD' : D = fun k => (I k).bind (G k) := funext hD
  subst hD'
  cases hf : (W.take c).findIdx? p with
  | none =>
    rw [List.drop_zero, hf] at hI
    exact ⟨c, W, .bind hI (.from 0 fun k => hG1 k), hc, (filt_none hf).symm⟩
  | some i =>
    rw [List.drop_zero, hf] at hI
    obtain ⟨hi, h2⟩ := filt_some hf
    have hi : i < c := by rw [List.length_take] at hi; omega
    obtain ⟨i', W', hE, h3, h4⟩ := del_ev (L := L) (c := c) (p := p) (R := R) (z := z) hs hd (c - (i + 1)) (i + 1) i W (by omega) (by omega) hc
    refine ⟨i', W', .bind hI ?_, h3, ?_⟩
    · obtain ⟨K, hK⟩ := hE.dg
      refine ⟨K, fun k hk => ?_⟩
      show G k (RI ((0 + i : Nat) : Int)) = _
      rw [Nat.zero_add, hG2 k i hi]
      exact hK k hk
    · rw [h4, h2, List.take_take, Nat.min_eq_left (by omega)]
theorem eta5 (y : Lk) : (y.1, (y.2.1, (y.2.2.1, (y.2.2.2.1, (y.2.2.2.2.1, ()))))) = y := rfl
theorem leaveS_ev {W : List Lk} {c : Nat} (t : Int) (x : Lk) (nh : Nat) (m : Bool) (H : List Lk) (hc : c ≤ W.length) (hb : c ≤ 100000) :
    ∃ (n : Nat) (W' : List Lk), Ev (fun k => lock_Table_leave_lock_Table_Ask_2 k t nh c m x.1 x.2.1 x.2.2.1 x.2.2.2.1 x.2.2.2.2.1 H W) ((), ((nh, (n, (m, ()))), ((x.1, (x.2.1, (x.2.2.1, (x.2.2.2.1, (x.2.2.2.2.1, ()))))), ((H, ()), ((W', ()), ()))))) ∧
      n ≤ W'.length ∧ W'.take n = (W.take c).filter (fun w => !(decide (w.1 = t) && !sameP w x)) := by
  have hI := (idx_ev (L := fun k n i => slices_IndexFunc_Lock_Lock_lock_Table_leave_1_l0 k n c ((c : Nat) : Int) i W t x.1 x.2.1 x.2.2.1 x.2.2.2.1 x.2.2.2.2.1) (W := W) (c := c) (p := fun w => decide (w.1 = t) && !sameP w x)
    (A := fun i => (i, ((W, ()), ((t, ()), ((((), ()), ()), ((x.1, (x.2.1, (x.2.2.1, (x.2.2.2.1, (x.2.2.2.2.1, ()))))), ())))))) (B := ((-1 : Int), ((W, ()), ((t, ()), ((((), ()), ()), ((x.1, (x.2.1, (x.2.2.1, (x.2.2.2.1, (x.2.2.2.2.1, ()))))), ())))))) hc
    (fun k n j y hj hy => by
      show slices_IndexFunc_Lock_Lock_lock_Table_leave_1_l0 k (n + 1) _ _ _ _ _ _ _ _ _ _ = _
      rw [slices_IndexFunc_Lock_Lock_lock_Table_leave_1_l0_eq, bt (by omega), inI_t (by omega) (by omega), must_tr, Nat.zero_add, Int.toNat_natCast, hy, Option.bind_some, leave1_v, Option.bind_some, wr_suc (by omega)])
    (fun k n => by
      show slices_IndexFunc_Lock_Lock_lock_Table_leave_1_l0 k (n + 1) _ _ _ _ _ _ _ _ _ _ = _
      rw [slices_IndexFunc_Lock_Lock_lock_Table_leave_1_l0_eq, bf (by omega)]) c 0 (by omega)).dg
  obtain ⟨n, W', h1, h2, h3⟩ := delF_ev (D := fun k => slices_DeleteFunc_Lock_Lock_lock_Table_leave_1 k c W t x.1 x.2.1 x.2.2.1 x.2.2.2.1 x.2.2.2.2.1) (p := fun w => decide (w.1 = t) && !sameP w x)
    (L := fun k n i j W => slices_DeleteFunc_Lock_Lock_lock_Table_leave_1_l0 k n c i j W t x.1 x.2.1 x.2.2.1 x.2.2.2.1 x.2.2.2.2.1)
    (fun i => (i, ((W, ()), ((t, ()), ((((), ()), ()), ((x.1, (x.2.1, (x.2.2.1, (x.2.2.2.1, (x.2.2.2.2.1, ()))))), ()))))))
    (fun i W => (i, ((W, ()), ((t, ()), ((((), ()), ()), ((x.1, (x.2.1, (x.2.2.1, (x.2.2.2.1, (x.2.2.2.2.1, ()))))), ())))))) hc hI
    (G := fun k r => bif (decide (r.1 = (-1))) then some (c, ((r.2.1.1, ()), ((r.2.2.1.1, ()), ((((), ()), ()), ((r.2.2.2.2.1.1, (r.2.2.2.2.1.2.1, (r.2.2.2.2.1.2.2.1, (r.2.2.2.2.1.2.2.2.1, (r.2.2.2.2.1.2.2.2.2.1, ()))))), ()))))) else slices_DeleteFunc_Lock_Lock_lock_Table_leave_1_l0 k k c r.1 (wr .i64 (r.1 + 1)) r.2.1.1 r.2.2.1.1 r.2.2.2.2.1.1 r.2.2.2.2.1.2.1 r.2.2.2.2.1.2.2.1 r.2.2.2.2.1.2.2.2.1 r.2.2.2.2.1.2.2.2.2.1)
    (fun k => by rw [slices_DeleteFunc_Lock_Lock_lock_Table_leave_1_eq, slices_IndexFunc_Lock_Lock_lock_Table_leave_1_eq]; rfl) (fun k => rfl)
    (fun k i hi => by
      show (bif decide ((i : Int) = -1) then _ else slices_DeleteFunc_Lock_Lock_lock_Table_leave_1_l0 k k c (i : Int) (wr .i64 ((i : Int) + 1)) W t x.1 x.2.1 x.2.2.1 x.2.2.2.1 x.2.2.2.2.1) = _
      rw [bf (by omega), wr_suc (by omega)])
    (fun k n i j W y hij hj hl hy => by
      show slices_DeleteFunc_Lock_Lock_lock_Table_leave_1_l0 (k + 1) (n + 1) _ _ _ _ _ _ _ _ _ _ = _
      rw [slices_DeleteFunc_Lock_Lock_lock_Table_leave_1_l0_eq, bt (by omega), inI_t (by omega) (by omega), must_tr, Nat.zero_add, Int.toNat_natCast, hy, Option.bind_some, leave1_v, Option.bind_some]
      simp only [slices_DeleteFunc_Lock_Lock_lock_Table_leave_1_j0_eq, inI_t (j := (i : Int)) (n := c) (by omega) (by omega), must_tr, Nat.zero_add, Int.toNat_natCast, blt_t (show i < W.length by omega), wr_suc (show i < 1000000 by omega), wr_suc (show j < 1000000 by omega), eta5]
      cases (decide (y.1 = t) && !sameP y x) <;> rfl)
    (fun k n i W hi hl => by
      show slices_DeleteFunc_Lock_Lock_lock_Table_leave_1_l0 k (n + 1) _ _ _ _ _ _ _ _ _ _ = _
      rw [slices_DeleteFunc_Lock_Lock_lock_Table_leave_1_l0_eq, bf (by omega), inC_t (by omega) (by omega) (by omega), must_tr, inC_t (by omega) (by omega) (by omega), must_tr, Nat.zero_add, Int.toNat_natCast])
  refine ⟨n, W', ?_, h2, h3⟩
  simp only [lock_Table_leave_lock_Table_Ask_2_eq]
  exact .bind h1 (.from 0 fun k => rfl)
theorem leaveN_ev {W : List Lk} {c : Nat} (t : Int) (nh : Nat) (m : Bool) (H : List Lk) (hc : c ≤ W.length) (hb : c ≤ 100000) :
    ∃ (n : Nat) (W' : List Lk), Ev (fun k => lock_Table_leave_lock_none k t nh c m H W) ((), ((nh, (n, (m, ()))), ((H, ()), ((W', ()), ())))) ∧
      n ≤ W'.length ∧ W'.take n = (W.take c).filter (fun w => !decide (w.1 = t)) := by
  have hI := (idx_ev (L := fun k n i => slices_IndexFunc_Lock_Lock_lock_Table_leave_1_v2_l0 k n c ((c : Nat) : Int) i W t) (W := W) (c := c) (p := fun w => decide (w.1 = t))
    (A := fun i => (i, ((W, ()), ((t, ()), (((), ()), ()))))) (B := ((-1 : Int), ((W, ()), ((t, ()), (((), ()), ()))))) hc
    (fun k n j y hj hy => by
      show slices_IndexFunc_Lock_Lock_lock_Table_leave_1_v2_l0 k (n + 1) _ _ _ _ _ = _
      rw [slices_IndexFunc_Lock_Lock_lock_Table_leave_1_v2_l0_eq, bt (by omega), inI_t (by omega) (by omega), must_tr, Nat.zero_add, Int.toNat_natCast, hy, Option.bind_some, leave2_v, Option.bind_some, wr_suc (by omega)])
    (fun k n => by
      show slices_IndexFunc_Lock_Lock_lock_Table_leave_1_v2_l0 k (n + 1) _ _ _ _ _ = _
      rw [slices_IndexFunc_Lock_Lock_lock_Table_leave_1_v2_l0_eq, bf (by omega)]) c 0 (by omega)).dg
  obtain ⟨n, W', h1, h2, h3⟩ := delF_ev (D := fun k => slices_DeleteFunc_Lock_Lock_lock_Table_leave_1_v2 k c W t) (p := fun w => decide (w.1 = t))
    (L := fun k n i j W => slices_DeleteFunc_Lock_Lock_lock_Table_leave_1_v2_l0 k n c i j W t)
    (fun i => (i, ((W, ()), ((t, ()), (((), ()), ())))))
    (fun i W => (i, ((W, ()), ((t, ()), (((), ()), ()))))) hc hI
    (G := fun k r => bif (decide (r.1 = (-1))) then some (c, ((r.2.1.1, ()), ((r.2.2.1.1, ()), (((), ()), ())))) else slices_DeleteFunc_Lock_Lock_lock_Table_leave_1_v2_l0 k k c r.1 (wr .i64 (r.1 + 1)) r.2.1.1 r.2.2.1.1)
    (fun k => by rw [slices_DeleteFunc_Lock_Lock_lock_Table_leave_1_v2_eq, slices_IndexFunc_Lock_Lock_lock_Table_leave_1_v2_eq]; rfl) (fun k => rfl)
    (fun k i hi => by
      show (bif decide ((i : Int) = -1) then _ else slices_DeleteFunc_Lock_Lock_lock_Table_leave_1_v2_l0 k k c (i : Int) (wr .i64 ((i : Int) + 1)) W t) = _
      rw [bf (by omega), wr_suc (by omega)])
    (fun k n i j W y hij hj hl hy => by
      show slices_DeleteFunc_Lock_Lock_lock_Table_leave_1_v2_l0 (k + 1) (n + 1) _ _ _ _ _ = _
      rw [slices_DeleteFunc_Lock_Lock_lock_Table_leave_1_v2_l0_eq, bt (by omega), inI_t (by omega) (by omega), must_tr, Nat.zero_add, Int.toNat_natCast, hy, Option.bind_some, leave2_v, Option.bind_some]
      simp only [slices_DeleteFunc_Lock_Lock_lock_Table_leave_1_v2_j0_eq, inI_t (j := (i : Int)) (n := c) (by omega) (by omega), must_tr, Nat.zero_add, Int.toNat_natCast, blt_t (show i < W.length by omega), wr_suc (show i < 1000000 by omega), wr_suc (show j < 1000000 by omega), eta5]
      cases decide (y.1 = t) <;> rfl)
    (fun k n i W hi hl => by
      show slices_DeleteFunc_Lock_Lock_lock_Table_leave_1_v2_l0 k (n + 1) _ _ _ _ _ = _
      rw [slices_DeleteFunc_Lock_Lock_lock_Table_leave_1_v2_l0_eq, bf (by omega), inC_t (by omega) (by omega) (by omega), must_tr, inC_t (by omega) (by omega) (by omega), must_tr, Nat.zero_add, Int.toNat_natCast])
  refine ⟨n, W', ?_, h2, h3⟩
  simp only [lock_Table_leave_lock_none_eq]
  exact .bind h1 (.from 0 fun k => rfl)
theorem hasOwn_ev {W : List Lk} {c : Nat} (x : Lk) (hc : c ≤ W.length) (hb : c ≤ 100000) :
    Ev (fun k => slices_ContainsFunc_Lock_Lock_lock_Table_inWay_1 k c W x.1 x.2.1 x.2.2.1 x.2.2.2.1 x.2.2.2.2.1) ((W.take c).any (fun h => decide (h.1 = x.1) && meetP h x), ((W, ()), ((x.1, (x.2.1, (x.2.2.1, (x.2.2.2.1, (x.2.2.2.2.1, ()))))), ()))) := by
  simp only [slices_ContainsFunc_Lock_Lock_lock_Table_inWay_1_eq, slices_IndexFunc_Lock_Lock_lock_Table_inWay_1_eq]
  have h := (idx_ev (L := fun k n i => slices_IndexFunc_Lock_Lock_lock_Table_inWay_1_l0 k n c ((c : Nat) : Int) i W x.1 x.2.1 x.2.2.1 x.2.2.2.1 x.2.2.2.2.1) (W := W) (c := c) (p := fun h => decide (h.1 = x.1) && meetP h x)
    (A := fun i => (i, ((W, ()), ((x.1, (x.2.1, (x.2.2.1, (x.2.2.2.1, (x.2.2.2.2.1, ()))))), ())))) (B := ((-1 : Int), ((W, ()), ((x.1, (x.2.1, (x.2.2.1, (x.2.2.2.1, (x.2.2.2.2.1, ()))))), ())))) hc
    (fun k n j y hj hy => by
      show slices_IndexFunc_Lock_Lock_lock_Table_inWay_1_l0 k (n + 1) _ _ _ _ _ _ _ _ _ = _
      rw [slices_IndexFunc_Lock_Lock_lock_Table_inWay_1_l0_eq, bt (by omega), inI_t (by omega) (by omega), must_tr, Nat.zero_add, Int.toNat_natCast, hy, Option.bind_some, inway1_v, Option.bind_some, wr_suc (by omega)])
    (fun k n => by
      show slices_IndexFunc_Lock_Lock_lock_Table_inWay_1_l0 k (n + 1) _ _ _ _ _ _ _ _ _ = _
      rw [slices_IndexFunc_Lock_Lock_lock_Table_inWay_1_l0_eq, bf (by omega)]) c 0 (by omega)).dg
  refine .bind h (.from 0 fun k => ?_)
  rw [List.drop_zero, ← find_any]
  cases (W.take c).findIdx? fun h => decide (h.1 = x.1) && meetP h x with
  | none => rfl
  | some i => show some (decide (0 ≤ ((0 + i : Nat) : Int)), _) = _; rw [dT (by omega)]; rfl
def placeI (ws : List Lk) (x : Lk) : Nat := match ws.findIdx? fun w => sameP w x with
  | some i => i
  | none => ws.length
theorem place_ev {W : List Lk} {c : Nat} (x : Lk) (nh : Nat) (m : Bool) (H : List Lk) (hc : c ≤ W.length) (hb : c ≤ 100000) :
    Ev (fun k => lock_Table_place k x nh c m H W) ((placeI (W.take c) x : Int), ((nh, (c, (m, ()))), ((H, ()), ((W, ()), ())))) := by
  simp only [lock_Table_place_eq, slices_IndexFunc_Lock_Lock_lock_Table_place_1_eq]
  have h := (idx_ev (L := fun k n i => slices_IndexFunc_Lock_Lock_lock_Table_place_1_l0 k n c ((c : Nat) : Int) i W x.1 x.2.1 x.2.2.1 x.2.2.2.1 x.2.2.2.2.1) (W := W) (c := c) (p := fun h => sameP h x)
    (A := fun i => (i, ((W, ()), ((x.1, (x.2.1, (x.2.2.1, (x.2.2.2.1, (x.2.2.2.2.1, ()))))), ())))) (B := ((-1 : Int), ((W, ()), ((x.1, (x.2.1, (x.2.2.1, (x.2.2.2.1, (x.2.2.2.2.1, ()))))), ())))) hc
    (fun k n j y hj hy => by
      show slices_IndexFunc_Lock_Lock_lock_Table_place_1_l0 k (n + 1) _ _ _ _ _ _ _ _ _ = _
      rw [slices_IndexFunc_Lock_Lock_lock_Table_place_1_l0_eq, bt (by omega), inI_t (by omega) (by omega), must_tr, Nat.zero_add, Int.toNat_natCast, hy, Option.bind_some, place1_v, Option.bind_some, wr_suc (by omega)])
    (fun k n => by
      show slices_IndexFunc_Lock_Lock_lock_Table_place_1_l0 k (n + 1) _ _ _ _ _ _ _ _ _ = _
      rw [slices_IndexFunc_Lock_Lock_lock_Table_place_1_l0_eq, bf (by omega)]) c 0 (by omega)).dg
  refine .bind h (.from 0 fun k => ?_)
  rw [List.drop_zero]
  unfold placeI
  cases (W.take c).findIdx? fun h => sameP h x with
  | none =>
    rw [List.length_take, Nat.min_eq_left hc]
    rfl
  | some i =>
    show (bif decide (((0 + i : Nat) : Int) < 0) then _ else some (((0 + i : Nat) : Int), _)) = _
    rw [bf (by omega), Nat.zero_add]
/-- What stands in the way. -/
def againstP (l : List Lk) (x : Lk) : List Lk := l.filter fun h => !apartP h x && !fitP h.2.2.1 x.2.2.1
theorem lim_t {α : Type} {n : Nat} {x : Option α} (h : n ≤ 68719476736) : lim n x = x := if_pos h
theorem against_ev {W : List Lk} {c : Nat} (x : Lk) (hc : c ≤ W.length) (hb : c ≤ 100000) : Ev (fun k => lock_against_v2 k c x W) (againstP (W.take c) x, ((W, ()), ())) := by
  simp only [lock_against_v2_eq]
  have key : ∀ d j (b : Bool) (acc : List Lk), j + d = c → acc.length ≤ j → Ev2 (fun k n => lock_against_v2_l0 k n b acc c ((c : Nat) : Int) (j : Int) W x.1 x.2.1 x.2.2.1 x.2.2.2.1 x.2.2.2.2.1) (acc ++ againstP ((W.take c).drop j) x, ((W, ()), ())) := by
    intro d
    induction d with
    | zero =>
      intro j b acc hj ha
      have : j = c := by omega
      subst this
      rw [List.drop_eq_nil_of_le (by rw [List.length_take]; omega)]
      refine .up ⟨0, fun k n _ _ => ?_⟩
      show lock_against_v2_l0 k (n + 1) _ _ _ _ _ _ _ _ _ _ _ = _
      rw [lock_against_v2_l0_eq, bf (by omega)]
      simp [againstP]
    | succ d ih =>
      intro j b acc hj ha
      have hlt : j < W.length := by omega
      have hx : W[j]? = some W[j] := List.getElem?_eq_getElem hlt
      have hdr : (W.take c).drop j = W[j] :: (W.take c).drop (j + 1) := by
        rw [List.drop_eq_getElem_cons (by rw [List.length_take]; omega)]
        simp
      have stp : ∀ k n, lock_against_v2_l0 (k + 1) (n + 1) b acc c ((c : Nat) : Int) (j : Int) W x.1 x.2.1 x.2.2.1 x.2.2.2.1 x.2.2.2.2.1 =
          bif (!apartP W[j] x && !fitP W[j].2.2.1 x.2.2.1) then lock_against_v2_l0 (k + 1) n (b && false) (acc ++ [W[j]]) c ((c : Nat) : Int) ((j + 1 : Nat) : Int) W x.1 x.2.1 x.2.2.1 x.2.2.2.1 x.2.2.2.2.1
          else lock_against_v2_l0 (k + 1) n b acc c ((c : Nat) : Int) ((j + 1 : Nat) : Int) W x.1 x.2.1 x.2.2.1 x.2.2.2.1 x.2.2.2.2.1 := by
        intro k n
        rw [lock_against_v2_l0_eq, bt (by omega), inI_t (by omega) (by omega), must_tr, Nat.zero_add, Int.toNat_natCast, hx, Option.bind_some]
        simp only [apart_v, fits_v, Option.bind_some, lock_against_v2_j0_eq, wr_suc (show j < 1000000 by omega), eta5]
        rw [lim_t (by simp; omega)]
        cases apartP W[j] x <;> cases fitP W[j].2.2.1 x.2.2.1 <;> rfl
      rw [hdr]
      unfold againstP
      rw [List.filter_cons]
      refine .up (.upk ?_)
      cases hp : (!apartP W[j] x && !fitP W[j].2.2.1 x.2.2.1) with
      | true =>
        obtain ⟨K, hK⟩ := ih (j + 1) (b && false) (acc ++ [W[j]]) (by omega) (by simp; omega)
        refine ⟨K, fun k n hk hn => ?_⟩
        show lock_against_v2_l0 (k + 1) (n + 1) _ _ _ _ _ _ _ _ _ _ _ = _
        rw [stp, hp]
        have := hK (k + 1) n (by omega) hn
        rw [List.append_assoc] at this
        exact this
      | false =>
        obtain ⟨K, hK⟩ := ih (j + 1) b acc (by omega) (by omega)
        refine ⟨K, fun k n hk hn => ?_⟩
        show lock_against_v2_l0 (k + 1) (n + 1) _ _ _ _ _ _ _ _ _ _ _ = _
        rw [stp, hp]
        exact hK (k + 1) n (by omega) hn
  have := (key c 0 true [] (by omega) (by simp)).dg
  rw [List.drop_zero] at this
  exact this
theorem lookM_same {kt : Ty} {α : Type} (hd : ∀ x y : kt.D, kt.decEq x y = true ↔ x = y) : ∀ (l : List (kt.D × α)) (y : kt.D) (z : α), lookM kt (setM kt l y z) y = some z
  | [], y, z => by
    show (bif kt.decEq y y then _ else _) = _
    rw [(hd y y).2 rfl]; rfl
  | e :: r, y, z => by
    unfold setM
    cases h : kt.decEq y e.1 with
    | true => show (bif kt.decEq y y then _ else _) = _; rw [(hd y y).2 rfl]; rfl
    | false =>
      show (bif kt.decEq y e.1 then some e.2 else lookM kt (setM kt r y z) y) = some z
      rw [h]; exact lookM_same hd r y z
theorem lookM_ne {kt : Ty} {α : Type} (hd : ∀ x y : kt.D, kt.decEq x y = true ↔ x = y) : ∀ (l : List (kt.D × α)) (y y' : kt.D) (z : α), y' ≠ y → lookM kt (setM kt l y z) y' = lookM kt l y'
  | [], y, y', z, h => by
    show (bif kt.decEq y' y then _ else _) = _
    have : kt.decEq y' y = false := by rw [← Bool.not_eq_true, hd]; exact h
    rw [this]; rfl
  | e :: r, y, y', z, h => by
    unfold setM
    cases he : kt.decEq y e.1 with
    | true =>
      have e1 : y = e.1 := (hd _ _).1 he
      have : kt.decEq y' y = false := by rw [← Bool.not_eq_true, hd]; exact h
      show (bif kt.decEq y' y then some z else lookM kt r y') = (bif kt.decEq y' e.1 then some e.2 else lookM kt r y')
      rw [← e1, this]; rfl
    | false =>
      show (bif kt.decEq y' e.1 then some e.2 else lookM kt (setM kt r y z) y') = (bif kt.decEq y' e.1 then some e.2 else lookM kt r y')
      rw [lookM_ne hd r y y' z h]
theorem beqI_is (a b : Int) : beqI a b = true ↔ a = b := by simp [beqI]
theorem hdU (x y : (Ty.int .u64).D) : (Ty.int .u64).decEq x y = true ↔ x = y := beqI_is x y
theorem rev_ev : ∀ (d i j : Nat) (W : List Int), j ≤ i + d → j < W.length → W.length ≤ 100000 → ∃ W', Ev2 (fun k n => slices_Reverse_s_uint64_uint64_l0 k n (i : Int) (j : Int) W) ((), ((W', ()), ())) ∧ W'.length = W.length
  | d, i, j, W, hd, hj, hl => by
    by_cases h : i < j
    · cases d with
      | zero => omega
      | succ d =>
        have hi : i < W.length := by omega
        have x1 : W[j]? = some W[j] := List.getElem?_eq_getElem hj
        have x2 : W[i]? = some W[i] := List.getElem?_eq_getElem hi
        obtain ⟨W', hE, hl'⟩ := rev_ev d (i + 1) (j - 1) ((W.set i W[j]).set j W[i]) (by omega) (by simp; omega) (by simpa using hl)
        refine ⟨W', .up ?_, by rw [hl']; simp⟩
        obtain ⟨K, hK⟩ := hE
        refine ⟨K, fun k n hk hn => ?_⟩
        show slices_Reverse_s_uint64_uint64_l0 k (n + 1) _ _ _ = _
        rw [slices_Reverse_s_uint64_uint64_l0_eq, bt (by omega), inI_t (by omega) (by omega), must_tr, Int.toNat_natCast, x1, Option.bind_some, inI_t (by omega) (by omega), must_tr, Int.toNat_natCast, x2, Option.bind_some, must_tr, blt_t hi, must_tr,
          inI_t (by omega) (by simp; omega), must_tr, blt_t (by simp; omega), must_tr, wr_suc (by omega), wr_i64 (by omega), show (j : Int) - 1 = ((j - 1 : Nat) : Int) by omega]
        exact hK k n hk hn
    · refine ⟨W, .up ⟨0, fun k n _ _ => ?_⟩, rfl⟩
      show slices_Reverse_s_uint64_uint64_l0 k (n + 1) _ _ _ = _
      rw [slices_Reverse_s_uint64_uint64_l0_eq, bf (by omega)]
/-- A node from which the parents lead to the begin. -/
def Dp (by_ : List (Int × Int)) (from_ : Int) : Nat → Int → Prop
  | 0, n => n = from_
  | d + 1, n => n = from_ ∨ ∃ p, lookM (.int .u64) by_ n = some p ∧ Dp by_ from_ d p
theorem Dp.up {b : List (Int × Int)} {f : Int} : ∀ {d : Nat} {n : Int}, Dp b f d n → Dp b f (d + 1) n
  | 0, n, h => .inl h
  | d + 1, n, h => by
    rcases h with h | ⟨p, h1, h2⟩
    · exact .inl h
    · exact .inr ⟨p, h1, h2.up⟩
theorem Dp.set {b : List (Int × Int)} {f v q : Int} (hv : lookM (.int .u64) b v = none) : ∀ {d : Nat} {n : Int}, Dp b f d n → Dp (setM (.int .u64) b v q) f d n
  | 0, n, h => h
  | d + 1, n, h => by
    rcases h with h | ⟨p, h1, h2⟩
    · exact .inl h
    · refine .inr ⟨p, ?_, Dp.set hv h2⟩
      rw [lookM_ne hdU b v n q (fun e => by rw [e, hv] at h1; cases h1)]
      exact h1
theorem way_ev (f : Int) (wy : List Int) (b : List (Int × Int)) : ∀ (d : Nat) (n : Int) (acc : List Int), Dp b f d n → acc.length + d ≤ 90000 →
    ∃ r, Ev2 (fun k m => wait_Cycle_round_l0 k m n wait_Cycle_rj f wy b acc) r ∧ ∃ x, r = Sum.inr x ∧ x.2.2.2.2.2.2.1.1 ≠ [] := by
  have fin : ∀ (n : Int) (acc : List Int), n = f → acc.length ≤ 90000 → ∃ r, Ev2 (fun k m => wait_Cycle_round_l0 k m n wait_Cycle_rj f wy b acc) r ∧ ∃ x, r = Sum.inr x ∧ x.2.2.2.2.2.2.1.1 ≠ [] := by
    intro n acc hn hl
    obtain ⟨W', hE, hl'⟩ := rev_ev (acc ++ [f]).length 0 ((acc ++ [f]).length - 1) (acc ++ [f]) (by omega) (by simp) (by simp; omega)
    have hE := hE.dg
    obtain ⟨K, hK⟩ := hE
    have hz : (acc ++ [f]).length = acc.length + 1 := by simp
    have stp : ∃ x, (∀ k m, K ≤ k → wait_Cycle_round_l0 k (m + 1) n wait_Cycle_rj f wy b acc = some (Sum.inr x)) ∧ x.2.2.2.2.2.2.1.1 = W' := by
      apply Exists.intro
      apply And.intro
      · intro k m hk
        rw [wait_Cycle_round_l0_eq, dT hn]
        show lim _ _ = _
        rw [lim_t (by simp; omega), slices_Reverse_s_uint64_uint64_eq, wr_i64 (by omega), show ((acc ++ [f]).length : Int) - 1 = (((acc ++ [f]).length - 1 : Nat) : Int) by omega]
        have hk' : slices_Reverse_s_uint64_uint64_l0 k k (0 : Int) (((acc ++ [f]).length - 1 : Nat) : Int) (acc ++ [f]) = some ((), ((W', ()), ())) := hK k hk
        rw [hk']
        rfl
      · rfl
    obtain ⟨x, h1, h2⟩ := stp
    refine ⟨Sum.inr x, .up ⟨K, fun k m hk _ => h1 k m hk⟩, x, rfl, fun e => ?_⟩
    rw [h2] at e
    rw [e] at hl'
    simp at hl'
  intro d
  induction d with
  | zero => intro n acc h hl; exact fin n acc h (by omega)
  | succ d ih =>
    intro n acc h hl
    by_cases hn : n = f
    · exact fin n acc hn (by omega)
    · rcases h with h | ⟨p, h1, h2⟩
      · exact absurd h hn
      · obtain ⟨r, hE, hx⟩ := ih p (acc ++ [n]) h2 (by simp; omega)
        refine ⟨r, .up ?_, hx⟩
        obtain ⟨K, hK⟩ := hE
        refine ⟨K, fun k m hk hm => ?_⟩
        show wait_Cycle_round_l0 k (m + 1) _ _ _ _ _ _ = _
        rw [wait_Cycle_round_l0_eq, dF hn]
        show lim _ _ = _
        rw [lim_t (by simp; omega), h1]
        exact hK k m hk hm
theorem lkI_same {α : Type} (l : List (Int × α)) (y : Int) (z : α) : lookM (.int .u64) (setM (.int .u64) l y z) y = some z := lookM_same hdU l y z
theorem lkI_ne {α : Type} (l : List (Int × α)) (y y' : Int) (z : α) (h : y' ≠ y) : lookM (.int .u64) (setM (.int .u64) l y z) y' = lookM (.int .u64) l y' := lookM_ne hdU l y y' z h
abbrev Eg : Type := Int × (Int × Unit)
/-- How many edges lead to where nobody was. -/
def freshN (met : List (Int × Bool)) (l : List Eg) : Nat := (l.filter fun e => !(lookM (.int .u64) met e.2.1).getD false).length
theorem fresh_dec {met : List (Int × Bool)} {l : List Eg} {e : Eg} (he : e ∈ l) (h : (lookM (.int .u64) met e.2.1).getD false = false) : freshN (setM (.int .u64) met e.2.1 true) l + 1 ≤ freshN met l := by
  unfold freshN
  have sub : ∀ (l : List Eg), (l.filter fun e' => !(lookM (.int .u64) (setM (.int .u64) met e.2.1 true) e'.2.1).getD false).length ≤ (l.filter fun e => !(lookM (.int .u64) met e.2.1).getD false).length := by
    intro l
    induction l with
    | nil => exact Nat.le_refl _
    | cons x l ih =>
      rw [List.filter_cons, List.filter_cons]
      by_cases hx : x.2.1 = e.2.1
      · rw [hx, lkI_same, h]
        simp only [Option.getD_some, Bool.not_true, Bool.not_false, if_true, Bool.false_eq_true, if_false, List.length_cons]
        omega
      · rw [lkI_ne _ _ _ _ hx]
        split <;> first | (simp only [List.length_cons]; omega) | omega
  induction l with
  | nil => cases he
  | cons x l ih =>
    rw [List.filter_cons, List.filter_cons]
    by_cases hx : x.2.1 = e.2.1
    · rw [hx, lkI_same, h]
      simp only [Option.getD_some, Bool.not_true, Bool.not_false, if_true, Bool.false_eq_true, if_false, List.length_cons]
      have := sub l
      omega
    · have he' : e ∈ l := by
        rcases List.mem_cons.1 he with rfl | h'
        · exact absurd rfl hx
        · exact h'
      have := ih he'
      rw [lkI_ne _ _ _ _ hx]
      split <;> first | (simp only [List.length_cons]; omega) | omega
/-- What holds all along. -/
structure Wk (f : Int) (b : List (Int × Int)) (met : List (Int × Bool)) (q : List Int) (D : Nat) : Prop where
  dp : ∀ n ∈ q, Dp b f D n
  key : ∀ n, (lookM (.int .u64) met n).getD false = false → lookM (.int .u64) b n = none
theorem edge_eq (a b c : Int) : Ty.decEq (.st (.pair (.int .u64) (.pair (.int .u64) .unit))) ((a, (b, ())) : Eg) ((a, (c, ())) : Eg) = decide (b = c) := by
  show (beqI a a && (beqI b c && true)) = _
  have : beqI a a = true := (beqI_is a a).2 rfl
  rw [this]
  by_cases h : b = c
  · subst h; simp [beqI]
  · simp [beqI, h]
theorem round_ring (k : Nat) (e : Eg) {f : Int} (wy : List Int) (b : List (Int × Int)) (h : e.2.1 = f) : wait_Cycle_round k (e.1, (e.2.1, ())) wait_Cycle_rj f wy b = wait_Cycle_round_l0 k k e.1 wait_Cycle_rj f wy (setM (.int .u64) b e.2.1 e.1) [] := by
  rw [wait_Cycle_round_eq]
  show (bif !(Ty.decEq (.st (.pair (.int .u64) (.pair (.int .u64) .unit))) ((e.1, (e.2.1, ())) : Eg) ((e.1, (f, ())) : Eg)) then _ else _) = _
  rw [edge_eq, dT h]; rfl
theorem round_on (e : Eg) {f : Int} (wy : List Int) (b : List (Int × Int)) (h : e.2.1 ≠ f) : ∃ x, (∀ k, wait_Cycle_round k (e.1, (e.2.1, ())) wait_Cycle_rj f wy b = some (Sum.inl x)) ∧ x.2.1.1 = wait_Cycle_rj ∧ x.2.2.1.1 = f ∧ x.2.2.2.1.1 = wy ∧ x.2.2.2.2.2.1.1 = setM (.int .u64) b e.2.1 e.1 := by
  apply Exists.intro
  apply And.intro
  · intro k
    rw [wait_Cycle_round_eq]
    show (bif !(Ty.decEq (.st (.pair (.int .u64) (.pair (.int .u64) .unit))) ((e.1, (e.2.1, ())) : Eg) ((e.1, (f, ())) : Eg)) then _ else _) = _
    rw [edge_eq, dF h]; rfl
  · exact ⟨rfl, rfl, rfl, rfl⟩
theorem Ev.sh {α : Type} {F : Nat → Option α} {r : α} (h : Ev F r) : Ev (fun k => F (k + 1)) r := by
  obtain ⟨K, hK⟩ := h
  exact ⟨K, fun k hk => hK (k + 1) (by omega)⟩
def inWayP (hs ws : List Lk) (x : Lk) (at_ : Nat) : List Lk := bif hs.any (fun h => decide (h.1 = x.1) && meetP h x) then againstP hs x else againstP hs x ++ againstP (ws.take at_) x
theorem against_len (l : List Lk) (x : Lk) : (againstP l x).length ≤ l.length := List.length_filter_le ..
theorem inWay_len (hs ws : List Lk) (x : Lk) (at_ : Nat) : (inWayP hs ws x at_).length ≤ hs.length + ws.length := by
  unfold inWayP
  have h1 := against_len hs x
  have h2 := against_len (ws.take at_) x
  have h3 : (ws.take at_).length ≤ ws.length := by rw [List.length_take]; omega
  cases hs.any _
  · simp only [cond_false, List.length_append]; omega
  · simp only [cond_true]; omega
theorem inWay_ev {H W : List Lk} {nh nw at_ : Nat} (x : Lk) (m : Bool) (hH : nh ≤ H.length) (hW : nw ≤ W.length) (ha : at_ ≤ nw) (b1 : nh ≤ 10000) (b2 : nw ≤ 10000) :
    Ev (fun k => lock_Table_inWay k x (at_ : Int) nh nw m H W) (inWayP (H.take nh) (W.take nw) x at_, ((nh, (nw, (m, ()))), ((H, ()), ((W, ()), ())))) := by
  refine .up ?_
  simp only [lock_Table_inWay_eq]
  refine .bind (against_ev x hH (by omega)).sh ?_
  refine .bind (hasOwn_ev x hH (by omega)).sh ?_
  unfold inWayP
  cases h : (H.take nh).any fun h => decide (h.1 = x.1) && meetP h x with
  | true =>
    refine .from 0 fun k => ?_
    show lock_Table_inWay_j0 (k + 0 + 1) _ _ _ _ _ _ = _
    rw [lock_Table_inWay_j0_eq]; rfl
  | false =>
    have e : (W.take nw).take at_ = W.take at_ := by rw [List.take_take, Nat.min_eq_left ha]
    obtain ⟨K, hK⟩ := (against_ev (W := W) (c := at_) x (by omega) (by omega)).sh
    refine ⟨K, fun k hk => ?_⟩
    show (must (inC 0 (at_ : Int) nw) ((lock_against_v2 (k + 1) (at_ : Int).toNat x W).bind _)) = _
    rw [inC_t (by omega) (by omega) (by omega), must_tr, Int.toNat_natCast, show lock_against_v2 (k + 1) at_ x W = _ from hK k hk, Option.bind_some]
    have l1 := against_len (H.take nh) x
    have l2 := against_len (W.take at_) x
    rw [List.length_take] at l1 l2
    show lim ((againstP (H.take nh) x).length + (againstP (W.take at_) x).length) _ = _
    rw [lim_t (by omega), lock_Table_inWay_j0_eq, e]; rfl
/-! What edges there are; the search, by definition. -/
def knownE (out : List Eg) (e : Eg) : Bool := out.any fun y => decide (y = e)
def addE (out : List Eg) (e : Eg) : List Eg := bif knownE out e then out else out ++ [e]
def edgesFrom (hs ws : List Lk) : Nat → List Lk → List Eg → List Eg
  | _, [], out => out
  | i, x :: r, out => edgesFrom hs ws (i + 1) r ((inWayP hs ws x i).foldl (fun out h => addE out (x.1, (h.1, ()))) out)
def edgesP (hs ws : List Lk) : List Eg := edgesFrom hs ws 0 ws []
def knownS (out : List Eg) (n : Int) : Bool := out.any fun s => decide (s.1 = n)
def visit (f c : Int) (s : List Int × List Eg) (e : Eg) : List Int × List Eg :=
  bif decide (e.1 = c) && !knownS s.2 e.2.1 then (bif decide (e.2.1 = f) then s.1 else s.1 ++ [e.2.1], s.2 ++ [(e.2.1, (e.1, ()))]) else s
def bfs (f : Int) (l : List Eg) : Nat → List Int → List Eg → List Eg
  | 0, _, out => out
  | _ + 1, [], out => out
  | u + 1, c :: q, out => bfs f l u (l.foldl (visit f c) (q, out)).1 (l.foldl (visit f c) (q, out)).2
def ringP (l : List Eg) (f : Int) : Bool := knownS (bfs f l (1 + l.length) [f] []) f
theorem knownS_app (out : List Eg) (s : Eg) (n : Int) : knownS (out ++ [s]) n = (knownS out n || decide (s.1 = n)) := by
  unfold knownS; rw [List.any_append]; simp
theorem visit_known {f c : Int} {s : List Int × List Eg} {e : Eg} {n : Int} (h : knownS s.2 n = true) : knownS (visit f c s e).2 n = true := by
  unfold visit
  cases decide (e.1 = c) && !knownS s.2 e.2.1 with
  | true => show knownS (s.2 ++ _) n = true; rw [knownS_app, h]; rfl
  | false => exact h
theorem fold_known {f c : Int} {n : Int} : ∀ (r : List Eg) (s : List Int × List Eg), knownS s.2 n = true → knownS (r.foldl (visit f c) s).2 n = true
  | [], _, h => h
  | e :: r, s, h => fold_known r _ (visit_known h)
theorem bfs_known {f : Int} {l : List Eg} {n : Int} : ∀ (u : Nat) (q : List Int) (out : List Eg), knownS out n = true → knownS (bfs f l u q out) n = true
  | 0, _, _, h => h
  | _ + 1, [], _, h => h
  | u + 1, c :: q, out, h => bfs_known u _ _ (fold_known l _ h)
theorem visit_skip {f c : Int} {q : List Int} {out : List Eg} {e : Eg} (h : e.1 ≠ c ∨ knownS out e.2.1 = true) : visit f c (q, out) e = (q, out) := by
  unfold visit
  rcases h with h | h
  · rw [dF h]; rfl
  · show (bif decide (e.1 = c) && !knownS out e.2.1 then _ else _) = _
    rw [h]; cases decide (e.1 = c) <;> rfl
theorem visit_new {f c : Int} {q : List Int} {out : List Eg} {e : Eg} (h : e.1 = c) (h2 : knownS out e.2.1 = false) : visit f c (q, out) e = (bif decide (e.2.1 = f) then q else q ++ [e.2.1], out ++ [(e.2.1, (e.1, ()))]) := by
  unfold visit
  show (bif decide (e.1 = c) && !knownS out e.2.1 then _ else _) = _
  rw [h2, dT h]; rfl
/-- How many edges lead to where nobody was. -/
def freshS (out : List Eg) (l : List Eg) : Nat := (l.filter fun e => !knownS out e.2.1).length
theorem freshS_le (out l : List Eg) : freshS out l ≤ l.length := List.length_filter_le ..
theorem freshS_dec {out : List Eg} {l : List Eg} {e : Eg} (he : e ∈ l) (h : knownS out e.2.1 = false) (by_ : Int) : freshS (out ++ [(e.2.1, (by_, ()))]) l + 1 ≤ freshS out l := by
  unfold freshS
  have sub : ∀ (l : List Eg), (l.filter fun e' => !knownS (out ++ [(e.2.1, (by_, ()))]) e'.2.1).length ≤ (l.filter fun e => !knownS out e.2.1).length := by
    intro l
    induction l with
    | nil => exact Nat.le_refl _
    | cons x l ih =>
      rw [List.filter_cons, List.filter_cons, knownS_app]
      cases knownS out x.2.1 <;> cases decide (e.2.1 = x.2.1) <;> simp <;> omega
  induction l with
  | nil => cases he
  | cons x l ih =>
    rw [List.filter_cons, List.filter_cons, knownS_app]
    by_cases hx : e.2.1 = x.2.1
    · have := sub l
      rw [← hx, h, dT rfl]
      simp only [Bool.false_or, Bool.not_true, Bool.not_false, if_true, Bool.false_eq_true, if_false, List.length_cons]
      omega
    · have he' : e ∈ l := by
        rcases List.mem_cons.1 he with rfl | h'
        · exact absurd rfl hx
        · exact h'
      have := ih he'
      rw [dF hx]
      cases knownS out x.2.1 <;> simp <;> omega
/-- Each step comes from the begin, or from where an earlier one came to. -/
def Chain (f : Int) (out : List Eg) : Prop := ∀ (i : Nat) (s : Eg), out[i]? = some s → s.2.1 = f ∨ knownS (out.take i) s.2.1 = true
theorem Chain.app {f : Int} {out : List Eg} {n c : Int} (h : Chain f out) (hc : c = f ∨ knownS out c = true) : Chain f (out ++ [(n, (c, ()))]) := by
  intro i s hi
  by_cases hlt : i < out.length
  · rw [List.getElem?_append_left hlt] at hi
    rw [List.take_append_of_le_length (by omega)]
    exact h i s hi
  · by_cases he : i = out.length
    · subst he
      rw [List.getElem?_append_right (Nat.le_refl _)] at hi
      simp at hi
      subst hi
      rw [List.take_append_of_le_length (Nat.le_refl _), List.take_length]
      exact hc
    · rw [List.getElem?_eq_none (by simp; omega)] at hi
      cases hi
theorem visit_chain {f c : Int} {s : List Int × List Eg} {e : Eg} (h : Chain f s.2) (hc : c = f ∨ knownS s.2 c = true) (hq : ∀ n ∈ s.1, n = f ∨ knownS s.2 n = true) :
    Chain f (visit f c s e).2 ∧ (c = f ∨ knownS (visit f c s e).2 c = true) ∧ ∀ n ∈ (visit f c s e).1, n = f ∨ knownS (visit f c s e).2 n = true := by
  refine ⟨?_, hc.imp id visit_known, ?_⟩
  · unfold visit
    by_cases he : e.1 = c
    · cases hk : knownS s.2 e.2.1 with
      | true => rw [dT he]; exact h
      | false => rw [dT he]; exact h.app (by rw [he]; exact hc)
    · rw [dF he]; exact h
  · intro n hn
    by_cases hs : n ∈ s.1
    · exact (hq n hs).imp id visit_known
    · right
      unfold visit at hn ⊢
      cases hk : decide (e.1 = c) && !knownS s.2 e.2.1 with
      | false => rw [hk] at hn; exact absurd hn hs
      | true =>
        rw [hk] at hn
        show knownS (s.2 ++ _) n = true
        rw [knownS_app]
        cases hd : decide (e.2.1 = f) with
        | true =>
          have hn : n ∈ (bif decide (e.2.1 = f) then s.1 else s.1 ++ [e.2.1]) := hn
          rw [hd] at hn; exact absurd hn hs
        | false =>
          have hn : n ∈ (bif decide (e.2.1 = f) then s.1 else s.1 ++ [e.2.1]) := hn
          rw [hd] at hn
          rcases List.mem_append.1 hn with h | h
          · exact absurd h hs
          · rw [List.mem_singleton] at h; subst h; simp
theorem fold_chain {f c : Int} : ∀ (r : List Eg) (s : List Int × List Eg), Chain f s.2 → (c = f ∨ knownS s.2 c = true) → (∀ n ∈ s.1, n = f ∨ knownS s.2 n = true) →
    Chain f (r.foldl (visit f c) s).2 ∧ ∀ n ∈ (r.foldl (visit f c) s).1, n = f ∨ knownS (r.foldl (visit f c) s).2 n = true
  | [], _, h, _, hq => ⟨h, hq⟩
  | _ :: r, _, h, hc, hq => fold_chain r _ (visit_chain h hc hq).1 (visit_chain h hc hq).2.1 (visit_chain h hc hq).2.2
theorem bfs_chain {f : Int} {l : List Eg} : ∀ (u : Nat) (q : List Int) (out : List Eg), Chain f out → (∀ n ∈ q, n = f ∨ knownS out n = true) → Chain f (bfs f l u q out)
  | 0, _, _, h, _ => h
  | _ + 1, [], _, h, _ => h
  | u + 1, c :: q, out, h, hq => bfs_chain u _ _ (fold_chain l (q, out) h (hq c (List.mem_cons_self ..)) fun n hn => hq n (List.mem_cons_of_mem _ hn)).1
      (fold_chain l (q, out) h (hq c (List.mem_cons_self ..)) fun n hn => hq n (List.mem_cons_of_mem _ hn)).2
theorem visit_len (f c : Int) (s : List Int × List Eg) (e : Eg) : (visit f c s e).2.length ≤ s.2.length + 1 := by
  unfold visit
  cases decide (e.1 = c) && !knownS s.2 e.2.1
  · exact Nat.le_succ _
  · show (s.2 ++ _).length ≤ _; simp
theorem walk_ev (f : Int) (l : List Eg) (hl : l.length ≤ 40000) : ∀ (u : Nat) (q : List Int) (fl : Bool) (b : List (Int × Int)) (met : List (Int × Bool)) (out : List Eg) (D : Nat), q.length + freshN met l ≤ u → D + freshN met l ≤ 50000 → q.length + freshN met l ≤ 50000 → Wk f b met q D →
    (∀ n : Int, (lookM (.int .u64) met n).getD false = knownS out n) → knownS out f = false →
    ∃ r, Ev2 (fun k n => wait_walk_1_l0 k n fl q wait_Cycle_rj f l f [] b met) r ∧ (∀ x, r = Sum.inl x → x.2.2.2.2.2.2.2.2.1.1 ≠ [] ∧ knownS (bfs f l u q out) f = true) ∧ (∀ x, r = Sum.inr x → knownS (bfs f l u q out) f = false) := by
  intro u
  induction u with
  | zero =>
    intro q fl b met out D hu _ _ _ hM hf
    have hq : q = [] := List.eq_nil_of_length_eq_zero (by omega)
    subst hq
    have stp : ∃ x, ∀ k n, wait_walk_1_l0 k (n + 1) fl [] wait_Cycle_rj f l f [] b met = some (Sum.inr x) := by
      apply Exists.intro
      intro k n
      rw [wait_walk_1_l0_eq]
      rfl
    obtain ⟨x, hx⟩ := stp
    exact ⟨Sum.inr x, .up ⟨0, fun k n _ _ => hx k n⟩, (fun y hy => by cases hy), fun y _ => hf⟩
  | succ u ih =>
    intro q fl b met out D hu hD hq W hM hf
    cases q with
    | nil =>
      have stp : ∃ x, ∀ k n, wait_walk_1_l0 k (n + 1) fl [] wait_Cycle_rj f l f [] b met = some (Sum.inr x) := by
        apply Exists.intro
        intro k n
        rw [wait_walk_1_l0_eq]
        rfl
      obtain ⟨x, hx⟩ := stp
      exact ⟨Sum.inr x, .up ⟨0, fun k n _ _ => hx k n⟩, (fun y hy => by cases hy), fun y _ => hf⟩
    | cons c q =>
      -- the edges, one by one
      have inner : ∀ (d j : Nat) (q : List Int) (fl : Bool) (b : List (Int × Int)) (met : List (Int × Bool)) (out : List Eg) (D : Nat), j + d = l.length → q.length + 1 + freshN met l ≤ u + 1 → D + freshN met l ≤ 50000 → q.length + 1 + freshN met l ≤ 50000 → Wk f b met (c :: q) D →
          (∀ n : Int, (lookM (.int .u64) met n).getD false = knownS out n) → knownS out f = false →
          ∃ r, Ev3 (fun k n m => wait_walk_1_l1 k n m fl (c :: q) l (l.length : Int) (j : Int) wait_Cycle_rj f l f [] b met) r ∧
            (∀ x, r = Sum.inl x → x.2.2.2.2.2.2.2.2.1.1 ≠ [] ∧ knownS (bfs f l u ((l.drop j).foldl (visit f c) (q, out)).1 ((l.drop j).foldl (visit f c) (q, out)).2) f = true) ∧
            (∀ x, r = Sum.inr x → knownS (bfs f l u ((l.drop j).foldl (visit f c) (q, out)).1 ((l.drop j).foldl (visit f c) (q, out)).2) f = false) := by
        intro d
        induction d with
        | zero =>
          intro j q fl b met out D hj hu hD hq W hM hf
          have hj : j = l.length := by omega
          subst hj
          obtain ⟨r, hE, hr⟩ := ih q fl b met out D (by omega) hD (by omega) ⟨fun n hn => W.dp n (List.mem_cons_of_mem _ hn), W.key⟩ hM hf
          refine ⟨r, .up ?_, by rw [List.drop_length]; exact hr⟩
          obtain ⟨K, hK⟩ := hE
          refine ⟨K, fun k n m hk hn hm => ?_⟩
          show wait_walk_1_l1 k n (m + 1) _ _ _ _ _ _ _ _ _ _ _ _ = _
          rw [wait_walk_1_l1_eq, bf (by omega)]
          have hc : cut (c :: q) (1 : Int) ((c :: q).length : Int) = some q := by
            have := cut_from (l := c :: q) (n := 1) (by simp)
            simpa using this
          rw [hc]
          exact hK k n hk hn
        | succ d ihd =>
          intro j q fl b met out D hj hu hD hq W hM hf
          have hlt : j < l.length := by omega
          have hx : nth l (j : Int) = some l[j] := nth_get (List.getElem?_eq_getElem hlt)
          have h0 : nth (c :: q) (0 : Int) = some c := nth_get (j := 0) rfl
          have hdr : l.drop j = l[j] :: l.drop (j + 1) := List.drop_eq_getElem_cons hlt
          rw [hdr, List.foldl_cons]
          generalize hee : l[j] = e at hx
          have hmem : e ∈ l := by rw [← hee]; exact List.getElem_mem hlt
          have skip : (e.1 ≠ c ∨ (lookM (.int .u64) met e.2.1).getD false = true) → ∃ r, Ev3 (fun k n m => wait_walk_1_l1 k n m fl (c :: q) l (l.length : Int) (j : Int) wait_Cycle_rj f l f [] b met) r ∧
              (∀ x, r = Sum.inl x → x.2.2.2.2.2.2.2.2.1.1 ≠ [] ∧ knownS (bfs f l u ((l.drop (j + 1)).foldl (visit f c) (visit f c (q, out) e)).1 ((l.drop (j + 1)).foldl (visit f c) (visit f c (q, out) e)).2) f = true) ∧
              (∀ x, r = Sum.inr x → knownS (bfs f l u ((l.drop (j + 1)).foldl (visit f c) (visit f c (q, out) e)).1 ((l.drop (j + 1)).foldl (visit f c) (visit f c (q, out) e)).2) f = false) := by
            intro hs
            obtain ⟨r, hE, hr⟩ := ihd (j + 1) q fl b met out D (by omega) hu hD hq W hM hf
            refine ⟨r, .up ?_, by rw [visit_skip (hs.imp id fun h => (hM _).symm.trans h)]; exact hr⟩
            obtain ⟨K, hK⟩ := hE
            refine ⟨K, fun k n m hk hn hm => ?_⟩
            show wait_walk_1_l1 k n (m + 1) _ _ _ _ _ _ _ _ _ _ _ _ = _
            rw [wait_walk_1_l1_eq, bt (by omega), hx, Option.bind_some, h0, Option.bind_some, wr_suc (by omega)]
            by_cases h1 : e.1 = c
            · rw [dT h1]
              rcases hs with hs | hs
              · exact absurd h1 hs
              · rw [hs]; exact hK k n m hk hn hm
            · rw [dF h1]; exact hK k n m hk hn hm
          by_cases h1 : e.1 = c
          case neg => exact skip (.inl h1)
          cases h2 : (lookM (.int .u64) met e.2.1).getD false with
          | true => exact skip (.inr h2)
          | false =>
            have h2o : knownS out e.2.1 = false := (hM _).symm.trans h2
            rw [visit_new h1 h2o]
            have hdec := fresh_dec hmem h2
            have hnew := W.key _ h2
            have hcd : Dp b f D e.1 := by rw [h1]; exact W.dp c (List.mem_cons_self ..)
            by_cases h3 : e.2.1 = f
            · -- a ring
              obtain ⟨r, ⟨K, hK⟩, x, rfl, hx2⟩ := way_ev f [] (setM (.int .u64) b e.2.1 e.1) D e.1 [] (hcd.set hnew) (by simp; omega)
              have stp : ∃ y, (∀ k n m, K ≤ k → wait_walk_1_l1 k n (m + 1) fl (c :: q) l (l.length : Int) (j : Int) wait_Cycle_rj f l f [] b met = some (Sum.inl y)) ∧ y.2.2.2.2.2.2.2.2.1.1 = x.2.2.2.2.2.2.1.1 := by
                apply Exists.intro
                apply And.intro
                · intro k n m hk
                  rw [wait_walk_1_l1_eq, bt (by omega), hx, Option.bind_some, h0, Option.bind_some, dT h1, h2, round_ring k e [] b h3]
                  show ((wait_Cycle_round_l0 k k e.1 wait_Cycle_rj f [] (setM (.int .u64) b e.2.1 e.1) []).bind _) = _
                  rw [show wait_Cycle_round_l0 k k e.1 wait_Cycle_rj f [] (setM (.int .u64) b e.2.1 e.1) [] = some (Sum.inr x) from hK k k hk hk]
                  rfl
                · rfl
              obtain ⟨y, hy1, hy2⟩ := stp
              refine ⟨Sum.inl y, .up ⟨K, fun k n m hk _ _ => hy1 k n m hk⟩, fun z hz => ?_, fun z hz => by cases hz⟩
              cases hz
              rw [hy2]
              refine ⟨hx2, bfs_known _ _ _ (fold_known _ _ ?_)⟩
              show knownS (out ++ _) f = true
              rw [knownS_app, dT h3, Bool.or_true]
            · have W2 : Wk f (setM (.int .u64) b e.2.1 e.1) (setM (.int .u64) met e.2.1 true) (c :: (q ++ [e.2.1])) (D + 1) := by
                refine ⟨fun n hn => ?_, fun n hn => ?_⟩
                · rw [← List.cons_append] at hn
                  rcases List.mem_append.1 hn with hn | hn
                  · exact ((W.dp n hn).set hnew).up
                  · rw [List.mem_singleton] at hn
                    subst hn
                    exact .inr ⟨e.1, lkI_same _ _ _, hcd.set hnew⟩
                · by_cases hne : n = e.2.1
                  · subst hne; rw [lkI_same] at hn; cases hn
                  · rw [lkI_ne _ _ _ _ hne] at hn ⊢
                    exact W.key n hn
              have hM2 : ∀ n : Int, (lookM (.int .u64) (setM (.int .u64) met e.2.1 true) n).getD false = knownS (out ++ [(e.2.1, (e.1, ()))]) n := by
                intro n
                rw [knownS_app]
                by_cases hne : n = e.2.1
                · subst hne
                  rw [lkI_same, dT rfl, Bool.or_true]; rfl
                · rw [lkI_ne _ _ _ _ hne, hM, dF (p := e.2.1 = n) (fun h => hne h.symm), Bool.or_false]
              have hf2 : knownS (out ++ [(e.2.1, (e.1, ()))]) f = false := by rw [knownS_app, hf, dF h3]; rfl
              obtain ⟨r, hE, hr⟩ := ihd (j + 1) (q ++ [e.2.1]) (fl && [e.2.1].isEmpty) _ _ _ (D + 1) (by omega) (by simp; omega) (by omega) (by simp; omega) W2 hM2 hf2
              refine ⟨r, .up (.upk ?_), by rw [dF h3]; exact hr⟩
              obtain ⟨K, hK⟩ := hE
              obtain ⟨x, x1, x2, x3, x4, x5⟩ := round_on e [] b h3
              refine ⟨K, fun k n m hk hn hm => ?_⟩
              show wait_walk_1_l1 (k + 1) n (m + 1) _ _ _ _ _ _ _ _ _ _ _ _ = _
              rw [wait_walk_1_l1_eq, bt (by omega), hx, Option.bind_some, h0, Option.bind_some, dT h1, h2, x1]
              show (bif !decide (e.2.1 = f) then lim _ _ else _) = _
              rw [dF h3]
              show lim _ _ = _
              rw [lim_t (by simp; omega)]
              refine (wait_walk_1_j0_eq ..).trans ?_
              rw [wr_suc (by omega), x2, x3, x4, x5]
              exact hK (k + 1) n m (by omega) hn hm
      obtain ⟨r, hE, hr⟩ := inner l.length 0 q fl b met out D (by omega) (by simpa using hu) hD (by simpa using hq) W hM hf
      refine ⟨r, .up ?_, hr⟩
      obtain ⟨K, hK⟩ := hE.dg
      refine ⟨K, fun k n hk hn => ?_⟩
      show wait_walk_1_l0 k (n + 1) _ _ _ _ _ _ _ _ _ = _
      rw [wait_walk_1_l0_eq, bt (by simp; try omega)]
      exact hK k n hk hn
/-- The search for a ring comes to an end, and tells whether there is one. -/
theorem cycle_ev (l : List Eg) (f : Int) (hl : l.length ≤ 40000) : (ringP l f = true ∧ ∃ x, Ev (fun k => wait_Cycle k l f) (Sum.inl x) ∧ x.2.2.1.1 ≠ []) ∨ (ringP l f = false ∧ Ev (fun k => wait_Cycle k l f) (Sum.inr ((true, []), (((true, []), ()), ())))) := by
  have hf : freshN [] l ≤ l.length := List.length_filter_le ..
  obtain ⟨r, hE, hr, hr2⟩ := walk_ev f l hl (1 + l.length) [f] false [] [] [] 0 (by simp; omega) (by omega) (by simp; omega) ⟨fun n hn => by rw [List.mem_singleton] at hn; exact hn, fun n _ => rfl⟩ (fun n => rfl) rfl
  obtain ⟨K, hK⟩ := hE.dg
  cases r with
  | inl x =>
    left
    refine ⟨(hr x rfl).2, ?_⟩
    have stp : ∃ y, (∀ k, K ≤ k → wait_Cycle k l f = some (Sum.inl y)) ∧ y.2.2.1.1 = x.2.2.2.2.2.2.2.2.1.1 := by
      apply Exists.intro
      apply And.intro
      · intro k hk
        rw [wait_Cycle_eq, wait_walk_eq]
        show ((wait_walk_1 k wait_Cycle_rj f l f [] []).bind _) = _
        rw [wait_walk_1_eq, show wait_walk_1_l0 k k false [f] wait_Cycle_rj f l f [] [] [] = some (Sum.inl x) from hK k hk]
        rfl
      · rfl
    obtain ⟨y, h1, h2⟩ := stp
    exact ⟨y, ⟨K, h1⟩, by rw [h2]; exact (hr x rfl).1⟩
  | inr x =>
    right
    refine ⟨hr2 x rfl, K, fun k hk => ?_⟩
    show wait_Cycle k l f = _
    rw [wait_Cycle_eq, wait_walk_eq]
    show ((wait_walk_1 k wait_Cycle_rj f l f [] []).bind _) = _
    rw [wait_walk_1_eq, show wait_walk_1_l0 k k false [f] wait_Cycle_rj f l f [] [] [] = some (Sum.inr x) from hK k hk]
    rfl
theorem decE0 (x y : Eg) : (beqI x.1 y.1 && (beqI x.2.1 y.2.1 && true)) = decide (x = y) := by
  obtain ⟨a, b, _⟩ := x
  obtain ⟨c, d, _⟩ := y
  unfold beqI
  by_cases h1 : a = c
  · by_cases h2 : b = d
    · subst h1 h2; simp
    · simp [h1, h2]
  · simp [h1]
theorem decE (x y : Eg) : Ty.decEq (.st (.pair (.int .u64) (.pair (.int .u64) .unit))) x y = decide (x = y) := decE0 x y
theorem hdE0 (x y : Eg) : (Ty.decEq (.st (.pair (.int .u64) (.pair (.int .u64) .unit))) x y = true) ↔ x = y := by rw [decE]; exact decide_eq_true_iff
theorem hdE (x y : (Ty.st (.pair (.int .u64) (.pair (.int .u64) .unit))).D) : (Ty.st (.pair (.int .u64) (.pair (.int .u64) .unit))).decEq x y = true ↔ x = y := hdE0 x y
theorem knownE_app (out : List Eg) (s e : Eg) : knownE (out ++ [s]) e = (knownE out e || decide (s = e)) := by
  unfold knownE; rw [List.any_append]; simp
theorem addE_len (out : List Eg) (e : Eg) : (addE out e).length ≤ out.length + 1 := by
  unfold addE
  cases knownE out e
  · simp
  · simp
theorem edges_ev {H W : List Lk} {nh nw : Nat} (hH : nh ≤ H.length) (hW : nw ≤ W.length) (b1 : nh ≤ 100) (b2 : nw ≤ 100) :
    Ev (fun k => lock_Table_Edges k nh nw true H W) (edgesP (H.take nh) (W.take nw), ((nh, (nw, (true, ()))), ((H, ()), ((W, ()), ())))) ∧ (edgesP (H.take nh) (W.take nw)).length ≤ 40000 := by
  have outer : ∀ (d i : Nat) (fl : Bool) (out : List Eg) (met : List (Eg × Bool)), i + d = nw → out.length + d * 200 ≤ 40000 → (∀ e : Eg, (lookM (.st (.pair (.int .u64) (.pair (.int .u64) .unit))) met e).getD false = knownE out e) →
      Ev2 (fun k n => lock_Table_Edges_l0 k n fl out nw ((nw : Nat) : Int) (i : Int) nh nw true H W met) (edgesFrom (H.take nh) (W.take nw) i ((W.take nw).drop i) out, ((nh, (nw, (true, ()))), ((H, ()), ((W, ()), ())))) ∧ (edgesFrom (H.take nh) (W.take nw) i ((W.take nw).drop i) out).length ≤ 40000 := by
    intro d
    induction d with
    | zero =>
      intro i fl out met hi ho hM
      have : i = nw := by omega
      subst this
      rw [List.drop_eq_nil_of_le (by rw [List.length_take]; omega)]
      refine ⟨.up ⟨0, fun k n _ _ => ?_⟩, by show out.length ≤ _; omega⟩
      show lock_Table_Edges_l0 k (n + 1) _ _ _ _ _ _ _ _ _ _ _ = _
      rw [lock_Table_Edges_l0_eq, bf (by omega)]; rfl
    | succ d ih =>
      intro i fl out met hi ho hM
      have hlt : i < W.length := by omega
      have hx : W[i]? = some W[i] := List.getElem?_eq_getElem hlt
      have hdr : (W.take nw).drop i = W[i] :: (W.take nw).drop (i + 1) := by
        rw [List.drop_eq_getElem_cons (by rw [List.length_take]; omega)]
        simp
      rw [hdr]
      generalize W[i] = x at hx
      have inner : ∀ (ls : List Lk), ls.length ≤ 10000 → ∀ (e j : Nat) (fl : Bool) (out : List Eg) (met : List (Eg × Bool)), j + e = ls.length → out.length + e + d * 200 ≤ 40000 → (∀ e : Eg, (lookM (.st (.pair (.int .u64) (.pair (.int .u64) .unit))) met e).getD false = knownE out e) →
          Ev3 (fun k n p => lock_Table_Edges_l1 k n p fl out nw ((nw : Nat) : Int) (i : Int) ls (ls.length : Int) (j : Int) nh nw true H W met x.1 x.2.1 x.2.2.1 x.2.2.2.1 x.2.2.2.2.1)
            (edgesFrom (H.take nh) (W.take nw) (i + 1) ((W.take nw).drop (i + 1)) ((ls.drop j).foldl (fun out h => addE out (x.1, (h.1, ()))) out), ((nh, (nw, (true, ()))), ((H, ()), ((W, ()), ())))) ∧
            (edgesFrom (H.take nh) (W.take nw) (i + 1) ((W.take nw).drop (i + 1)) ((ls.drop j).foldl (fun out h => addE out (x.1, (h.1, ()))) out)).length ≤ 40000 := by
        intro ls hls e
        induction e with
        | zero =>
          intro j fl out met hj ho hM
          have : j = ls.length := by omega
          subst this
          rw [List.drop_length]
          obtain ⟨hE, hl⟩ := ih (i + 1) fl out met (by omega) (by omega) hM
          refine ⟨.up ?_, hl⟩
          obtain ⟨K, hK⟩ := hE
          refine ⟨K, fun k n p hk hn hp => ?_⟩
          refine (lock_Table_Edges_l1_eq ..).trans ?_
          rw [bf (by omega), wr_suc (by omega)]
          exact hK k n hk hn
        | succ e ihe =>
          intro j fl out met hj ho hM
          have hlj : j < ls.length := by omega
          have hy : nth ls (j : Int) = some ls[j] := nth_get (List.getElem?_eq_getElem hlj)
          have hdr : ls.drop j = ls[j] :: ls.drop (j + 1) := List.drop_eq_getElem_cons hlj
          rw [hdr, List.foldl_cons]
          generalize ls[j] = y at hy
          cases hm : (lookM (.st (.pair (.int .u64) (.pair (.int .u64) .unit))) met ((x.1, (y.1, ())) : Eg)).getD false with
          | true =>
            have ho2 : addE out (x.1, (y.1, ())) = out := by
              unfold addE; rw [← show _ = knownE out _ from hM (x.1, (y.1, ())), hm]; rfl
            rw [ho2]
            obtain ⟨hE, hl⟩ := ihe (j + 1) fl out met (by omega) (by omega) hM
            refine ⟨.up ?_, hl⟩
            obtain ⟨K, hK⟩ := hE
            refine ⟨K, fun k n p hk hn hp => ?_⟩
            refine (lock_Table_Edges_l1_eq ..).trans ?_
            rw [bt (by omega), hy, Option.bind_some]
            refine (congrArg (fun b => bif b then _ else _) hm).trans ?_
            rw [wr_suc (by omega)]
            exact hK k n p hk hn hp
          | false =>
            have ho2 : addE out (x.1, (y.1, ())) = out ++ [(x.1, (y.1, ()))] := by
              unfold addE; rw [← show _ = knownE out _ from hM (x.1, (y.1, ())), hm]; rfl
            rw [ho2]
            have hM2 : ∀ e : Eg, (lookM (.st (.pair (.int .u64) (.pair (.int .u64) .unit))) (setM (.st (.pair (.int .u64) (.pair (.int .u64) .unit))) met ((x.1, (y.1, ())) : Eg) true) e).getD false = knownE (out ++ [(x.1, (y.1, ()))]) e := by
              intro e
              rw [knownE_app]
              by_cases hne : e = ((x.1, (y.1, ())) : Eg)
              · subst hne
                have := lookM_same (kt := .st (.pair (.int .u64) (.pair (.int .u64) .unit))) hdE met ((x.1, (y.1, ())) : Eg) true
                rw [dT rfl, Bool.or_true]
                exact congrArg (fun z => z.getD false) this
              · have := lookM_ne (kt := .st (.pair (.int .u64) (.pair (.int .u64) .unit))) hdE met ((x.1, (y.1, ())) : Eg) e true hne
                rw [dF (p := ((x.1, (y.1, ())) : Eg) = e) (fun h => hne h.symm), Bool.or_false]
                exact (congrArg (fun z => z.getD false) this).trans (hM e)
            obtain ⟨hE, hl⟩ := ihe (j + 1) (fl && ([((x.1, (y.1, ())) : Eg)] : List Eg).isEmpty) (out ++ [(x.1, (y.1, ()))]) (setM (.st (.pair (.int .u64) (.pair (.int .u64) .unit))) met ((x.1, (y.1, ())) : Eg) true) (by omega) (by simp; omega) hM2
            refine ⟨.up ?_, hl⟩
            obtain ⟨K, hK⟩ := hE
            refine ⟨K, fun k n p hk hn hp => ?_⟩
            refine (lock_Table_Edges_l1_eq ..).trans ?_
            rw [bt (by omega), hy, Option.bind_some]
            refine (congrArg (fun b => bif b then _ else _) hm).trans ?_
            show lim _ (bif decide (((out ++ [((x.1, (y.1, ())) : Eg)]).length : Int) = 160000) then _ else _) = _
            rw [lim_t (by simp; omega), bf (by simp; omega), wr_suc (by omega)]
            exact hK k n p hk hn hp
      have hw := inWay_ev (H := H) (W := W) (at_ := i) x true hH hW (by omega) (by omega) (by omega)
      have hl := inWay_len (H.take nh) (W.take nw) x i
      rw [List.length_take, List.length_take] at hl
      obtain ⟨hE, hl'⟩ := inner (inWayP (H.take nh) (W.take nw) x i) (by omega) _ 0 fl out met (Nat.zero_add _) (by omega) hM
      rw [List.drop_zero] at hE hl'
      refine ⟨.up ?_, hl'⟩
      obtain ⟨K, hK⟩ := hE.dg
      obtain ⟨K2, hK2⟩ := hw
      refine ⟨Nat.max K K2, fun k n hk hn => ?_⟩
      refine (lock_Table_Edges_l0_eq ..).trans ?_
      rw [bt (by omega), inI_t (by omega) (by omega), must_tr, Nat.zero_add, Int.toNat_natCast, hx, Option.bind_some]
      show ((lock_Table_inWay k x (i : Int) nh nw true H W).bind _) = _
      rw [show lock_Table_inWay k x (i : Int) nh nw true H W = _ from hK2 k (Nat.le_trans (Nat.le_max_right K K2) hk), Option.bind_some]
      exact hK k n (Nat.le_trans (Nat.le_max_left K K2) hk) (Nat.le_trans (Nat.le_max_left K K2) hn)
  obtain ⟨hE, hl⟩ := outer nw 0 true [] [] (by omega) (by simp; omega) (fun e => rfl)
  rw [List.drop_zero] at hE hl
  refine ⟨?_, hl⟩
  obtain ⟨K, hK⟩ := hE.dg
  refine ⟨K, fun k hk => ?_⟩
  show lock_Table_Edges k nh nw true H W = _
  rw [lock_Table_Edges_eq, lock_Table_ok_eq]
  exact hK k hk
def mayP (x : Lk) : Bool := (!decide (x.1 = 0)) && ((decide (x.2.1 = 0) || decide (x.2.1 = 1)) && ((decide (1 ≤ x.2.2.1) && decide (x.2.2.1 ≤ 4)) && !endP x.2.2.2.2.1 x.2.2.2.1))
theorem may_v (k : Nat) (x : Lk) : lock_may k x = some (mayP x, ()) := by
  rw [lock_may_eq]
  simp only [mode_v, ends_v, Option.bind_some]
  unfold mayP
  cases decide (x.2.1 = 0) <;> cases decide (x.1 = 0) <;> cases decide (x.2.1 = 1) <;> cases (decide (1 ≤ x.2.2.1) && decide (x.2.2.1 ≤ 4)) <;> rfl
def leaveP (ws : List Lk) (x : Lk) : List Lk := ws.filter fun w => !(decide (w.1 = x.1) && !sameP w x)
def goneP (ws : List Lk) (t : Int) : List Lk := ws.filter fun w => !decide (w.1 = t)
def joinP (ws : List Lk) (x : Lk) : List Lk := if placeI ws x = ws.length then ws ++ [x] else ws
/-- What asking for a lock comes to. -/
def askR (hs ws : List Lk) (x : Lk) (b : Bool) (e : Int) (hs' ws' : List Lk) : Prop :=
  (mayP x = false ∧ b = false ∧ e = 1 ∧ hs' = hs ∧ ws' = ws) ∨
  (mayP x = true ∧ hs.any (fun h => covP h x) = true ∧ b = true ∧ e = 0 ∧ hs' = hs ∧ ws' = ws) ∨
  (mayP x = true ∧ hs.any (fun h => covP h x) = false ∧ inWayP hs (leaveP ws x) x (placeI (leaveP ws x) x) = [] ∧ ws' = goneP (leaveP ws x) x.1 ∧
    ((400 ≤ hs.length ∧ b = false ∧ e = 132 ∧ hs' = hs) ∨ (hs.length < 400 ∧ b = true ∧ e = 0 ∧ hs' = hs ++ [x]))) ∨
  (mayP x = true ∧ hs.any (fun h => covP h x) = false ∧ inWayP hs (leaveP ws x) x (placeI (leaveP ws x) x) ≠ [] ∧ b = false ∧ hs' = hs ∧
    ((ringP (edgesP hs (joinP (leaveP ws x) x)) x.1 = true ∧ e = 131 ∧ ws' = goneP (joinP (leaveP ws x) x) x.1) ∨ (ringP (edgesP hs (joinP (leaveP ws x) x)) x.1 = false ∧ e = 0 ∧ ws' = joinP (leaveP ws x) x)))
theorem placeI_le (ws : List Lk) (x : Lk) : placeI ws x ≤ ws.length := by
  unfold placeI
  split
  · rename_i i h; exact Nat.le_of_lt (filt_some h).1
  · exact Nat.le_refl _
theorem take_one {H : List Lk} {n : Nat} (x : Lk) (h : n ≤ H.length) : (apc H n [x]).take (n + 1) = H.take n ++ [x] ∧ n + 1 ≤ (apc H n [x]).length := by
  have e : apc H n [x] = H.take n ++ [x] := rfl
  have l : (H.take n ++ [x]).length = n + 1 := by rw [List.length_append, List.length_take, Nat.min_eq_left h]; rfl
  rw [e, ← l, List.take_length]
  exact ⟨rfl, Nat.le_refl _⟩
/-- The end, where something stands in the way. -/
theorem askJ_ev {H W : List Lk} {nh nw : Nat} (x : Lk) (hH : nh ≤ H.length) (hW : nw ≤ W.length) (b1 : nh ≤ 100) (b2 : nw ≤ 100) :
    ∃ e nw' W', Ev (fun k => lock_Table_Ask_j0 k nh nw true H x.1 x.2.1 x.2.2.1 x.2.2.2.1 x.2.2.2.2.1 W) ((false, (e, ())), ((nh, (nw', (true, ()))), ((), ((), ((H, ()), ((W', ()), ())))))) ∧ nw' ≤ W'.length ∧
      ((ringP (edgesP (H.take nh) (W.take nw)) x.1 = true ∧ e = 131 ∧ W'.take nw' = goneP (W.take nw) x.1) ∨ (ringP (edgesP (H.take nh) (W.take nw)) x.1 = false ∧ e = 0 ∧ W'.take nw' = W.take nw)) := by
  obtain ⟨hE, hl⟩ := edges_ev hH hW b1 b2
  obtain ⟨n, W', hL, h2, h3⟩ := leaveN_ev (W := W) (c := nw) x.1 nh true H hW (by omega)
  rcases cycle_ev (edgesP (H.take nh) (W.take nw)) x.1 hl with ⟨hr, c, hc, hne⟩ | ⟨hr, hc⟩
  · refine ⟨131, n, W', .up ?_, h2, .inl ⟨hr, rfl, h3⟩⟩
    simp only [lock_Table_Ask_j0_eq]
    refine .bind hE.sh (.bind hc.sh ?_)
    obtain ⟨K, hK⟩ := hL.sh
    refine ⟨K, fun k hk => ?_⟩
    show must (!c.2.2.1.1.isEmpty) ((lock_Table_leave_lock_none (k + 1) x.1 nh nw true H W).bind _) = _
    have : c.2.2.1.1.isEmpty = false := by
      cases h : c.2.2.1.1 with
      | nil => exact absurd h hne
      | cons _ _ => rfl
    rw [this, show lock_Table_leave_lock_none (k + 1) x.1 nh nw true H W = _ from hK k hk]
    rfl
  · refine ⟨0, nw, W, .up ?_, hW, .inr ⟨hr, rfl, rfl⟩⟩
    simp only [lock_Table_Ask_j0_eq]
    refine .bind hE.sh (.bind hc.sh (.from 0 fun k => rfl))
theorem own_t (k : Nat) (x : Lk) (h1 : x.2.2.2.1.length ≤ 60000) (h2 : x.2.2.2.2.1.length ≤ 60000) : lock_own k x = some (x, (x, ())) := by
  rw [own_v, lim_t (by omega), lim_t (by omega)]
theorem ask_ev {H W : List Lk} {nh nw : Nat} (x : Lk) (hH : nh ≤ H.length) (hW : nw ≤ W.length) (b1 : nh ≤ 90) (b2 : nw ≤ 90) (s1 : x.2.2.2.1.length ≤ 60000) (s2 : x.2.2.2.2.1.length ≤ 60000) :
    ∃ b e nh' nw' H' W', Ev (fun k => lock_Table_Ask k x nh nw true H W) ((b, (e, ())), ((nh', (nw', (true, ()))), ((), ((), ((H', ()), ((W', ()), ())))))) ∧ nh' ≤ H'.length ∧ nw' ≤ W'.length ∧
      askR (H.take nh) (W.take nw) x b e (H'.take nh') (W'.take nw') := by
  cases hm : mayP x with
  | false =>
    refine ⟨false, 1, nh, nw, H, W, .from 0 fun k => ?_, hH, hW, .inl ⟨hm, rfl, rfl, rfl, rfl⟩⟩
    rw [lock_Table_Ask_eq, lock_Table_ok_eq]
    simp only [may_v, Option.bind_some, eta5, hm]
    rfl
  | true =>
  have c1 := hasCov_ev (W := H) (c := nh) x hH (by omega)
  cases hc : (H.take nh).any fun h => covP h x with
  | true =>
    refine ⟨true, 0, nh, nw, H, W, ?_, hH, hW, .inr (.inl ⟨hm, hc, rfl, rfl, rfl, rfl⟩)⟩
    rw [hc] at c1
    simp only [lock_Table_Ask_eq, lock_Table_ok_eq, may_v, Option.bind_some, eta5, hm]
    exact .bind c1 (.from 0 fun k => rfl)
  | false =>
    rw [hc] at c1
    obtain ⟨n1, W1, c2, g1, g2⟩ := leaveS_ev (W := W) (c := nw) x.1 x nh true H hW (by omega)
    have g2 : W1.take n1 = leaveP (W.take nw) x := g2
    have gl : n1 ≤ nw := by
      have e := congrArg List.length g2
      rw [List.length_take, Nat.min_eq_left g1] at e
      have : (leaveP (W.take nw) x).length ≤ (W.take nw).length := List.length_filter_le ..
      rw [List.length_take] at this
      omega
    have c3 := place_ev (W := W1) (c := n1) x nh true H g1 (by omega)
    have pl := placeI_le (W1.take n1) x
    have tl : (W1.take n1).length = n1 := by rw [List.length_take, Nat.min_eq_left g1]
    have c4 := inWay_ev (H := H) (W := W1) (nh := nh) (nw := n1) (at_ := placeI (W1.take n1) x) x true hH g1 (by omega) (by omega) (by omega)
    rw [g2] at c3 c4 pl tl
    cases hw : inWayP (H.take nh) (leaveP (W.take nw) x) x (placeI (leaveP (W.take nw) x) x) with
    | nil =>
      rw [hw] at c4
      obtain ⟨n2, W2, c5, g3, g4⟩ := leaveN_ev (W := W1) (c := n1) x.1 nh true H g1 (by omega)
      have g4 : W2.take n2 = goneP (leaveP (W.take nw) x) x.1 := by rw [g4, g2]; rfl
      obtain ⟨t1, t2⟩ := take_one (H := H) x hH
      refine ⟨true, 0, nh + 1, n2, apc H nh [x], W2, ?_, t2, g3, .inr (.inr (.inl ⟨hm, hc, hw, g4, .inr ⟨by rw [List.length_take]; omega, rfl, rfl, t1⟩⟩))⟩
      simp only [lock_Table_Ask_eq, lock_Table_ok_eq, may_v, Option.bind_some, eta5, hm]
      refine .bind c1 (.bind c2 (.bind c3 (.bind c4 (.bind c5 (.from 0 fun k => ?_)))))
      show (bif decide (400 ≤ ((nh : Nat) : Int)) then _ else (lock_own (k + 0) x).bind _) = _
      rw [bf (by omega), own_t _ _ s1 s2]
      show lim (nh + 1) _ = _
      rw [lim_t (by omega)]
      rfl
    | cons y ys =>
      rw [hw] at c4
      have hne : inWayP (H.take nh) (leaveP (W.take nw) x) x (placeI (leaveP (W.take nw) x) x) ≠ [] := by rw [hw]; exact List.cons_ne_nil _ _
      by_cases hp : placeI (leaveP (W.take nw) x) x = n1
      · obtain ⟨t1, t2⟩ := take_one (H := W1) x g1
        obtain ⟨e, n2, W2, c5, g3, g4⟩ := askJ_ev (H := H) (W := apc W1 n1 [x]) (nh := nh) (nw := n1 + 1) x hH t2 (by omega) (by omega)
        have ej : joinP (leaveP (W.take nw) x) x = (apc W1 n1 [x]).take (n1 + 1) := by
          unfold joinP
          rw [if_pos (by omega), t1, g2]
        refine ⟨false, e, nh, n2, H, W2, ?_, hH, g3, .inr (.inr (.inr ⟨hm, hc, hne, rfl, rfl, by rw [ej]; exact g4⟩))⟩
        simp only [lock_Table_Ask_eq, lock_Table_ok_eq, may_v, Option.bind_some, eta5, hm]
        refine .bind c1 (.bind c2 (.bind c3 (.bind c4 ?_)))
        obtain ⟨K, hK⟩ := c5
        refine ⟨K, fun k hk => ?_⟩
        show (bif decide (((y :: ys).length : Int) = 0) then _ else bif decide (((placeI (leaveP (W.take nw) x) x : Nat) : Int) = ((n1 : Nat) : Int)) then (lock_own k x).bind _ else _) = _
        rw [bf (by simp; omega), bt (by omega), own_t _ _ s1 s2]
        show lim (n1 + 1) _ = _
        rw [lim_t (by omega)]
        exact hK k hk
      · obtain ⟨e, n2, W2, c5, g3, g4⟩ := askJ_ev (H := H) (W := W1) (nh := nh) (nw := n1) x hH g1 (by omega) (by omega)
        have ej : joinP (leaveP (W.take nw) x) x = W1.take n1 := by
          unfold joinP
          rw [if_neg (by omega), g2]
        refine ⟨false, e, nh, n2, H, W2, ?_, hH, g3, .inr (.inr (.inr ⟨hm, hc, hne, rfl, rfl, by rw [ej]; exact g4⟩))⟩
        simp only [lock_Table_Ask_eq, lock_Table_ok_eq, may_v, Option.bind_some, eta5, hm]
        refine .bind c1 (.bind c2 (.bind c3 (.bind c4 ?_)))
        obtain ⟨K, hK⟩ := c5
        refine ⟨K, fun k hk => ?_⟩
        show (bif decide (((y :: ys).length : Int) = 0) then _ else bif decide (((placeI (leaveP (W.take nw) x) x : Nat) : Int) = ((n1 : Nat) : Int)) then _ else _) = _
        rw [bf (by simp; omega), bf (by omega)]
        exact hK k hk
theorem free1_v (k : Nat) (h : Lk) (t : Int) : lock_Table_Free_1 k h t = some (decide (h.1 = t), ((t, ()), ())) := lock_Table_Free_1_eq k h t
theorem freeD_ev {W : List Lk} {c : Nat} (t : Int) (hc : c ≤ W.length) (hb : c ≤ 100000) :
    ∃ (n : Nat) (W' : List Lk), Ev (fun k => slices_DeleteFunc_Lock_Lock_lock_Table_Free_1 k c W t) (n, ((W', ()), ((t, ()), ()))) ∧ n ≤ W'.length ∧ W'.take n = (W.take c).filter (fun w => !decide (w.1 = t)) := by
  have hI := (idx_ev (L := fun k n i => slices_IndexFunc_Lock_Lock_lock_Table_Free_1_l0 k n c ((c : Nat) : Int) i W t) (W := W) (c := c) (p := fun w => decide (w.1 = t))
    (A := fun i => (i, ((W, ()), ((t, ()), ())))) (B := ((-1 : Int), ((W, ()), ((t, ()), ())))) hc
    (fun k n j y hj hy => by
      show slices_IndexFunc_Lock_Lock_lock_Table_Free_1_l0 k (n + 1) _ _ _ _ _ = _
      rw [slices_IndexFunc_Lock_Lock_lock_Table_Free_1_l0_eq, bt (by omega), inI_t (by omega) (by omega), must_tr, Nat.zero_add, Int.toNat_natCast, hy, Option.bind_some, free1_v, Option.bind_some, wr_suc (by omega)])
    (fun k n => by
      show slices_IndexFunc_Lock_Lock_lock_Table_Free_1_l0 k (n + 1) _ _ _ _ _ = _
      rw [slices_IndexFunc_Lock_Lock_lock_Table_Free_1_l0_eq, bf (by omega)]) c 0 (by omega)).dg
  exact delF_ev (D := fun k => slices_DeleteFunc_Lock_Lock_lock_Table_Free_1 k c W t) (p := fun w => decide (w.1 = t))
    (L := fun k n i j W => slices_DeleteFunc_Lock_Lock_lock_Table_Free_1_l0 k n c i j W t)
    (fun i => (i, ((W, ()), ((t, ()), ()))))
    (fun i W => (i, ((W, ()), ((t, ()), ())))) hc hI
    (G := fun k r => bif (decide (r.1 = (-1))) then some (c, ((r.2.1.1, ()), ((r.2.2.1.1, ()), ()))) else slices_DeleteFunc_Lock_Lock_lock_Table_Free_1_l0 k k c r.1 (wr .i64 (r.1 + 1)) r.2.1.1 r.2.2.1.1)
    (fun k => by rw [slices_DeleteFunc_Lock_Lock_lock_Table_Free_1_eq, slices_IndexFunc_Lock_Lock_lock_Table_Free_1_eq]; rfl) (fun k => rfl)
    (fun k i hi => by
      show (bif decide ((i : Int) = -1) then _ else slices_DeleteFunc_Lock_Lock_lock_Table_Free_1_l0 k k c (i : Int) (wr .i64 ((i : Int) + 1)) W t) = _
      rw [bf (by omega), wr_suc (by omega)])
    (fun k n i j W y hij hj hl hy => by
      show slices_DeleteFunc_Lock_Lock_lock_Table_Free_1_l0 (k + 1) (n + 1) _ _ _ _ _ = _
      rw [slices_DeleteFunc_Lock_Lock_lock_Table_Free_1_l0_eq, bt (by omega), inI_t (by omega) (by omega), must_tr, Nat.zero_add, Int.toNat_natCast, hy, Option.bind_some, free1_v, Option.bind_some]
      simp only [slices_DeleteFunc_Lock_Lock_lock_Table_Free_1_j0_eq, inI_t (j := (i : Int)) (n := c) (by omega) (by omega), must_tr, Nat.zero_add, Int.toNat_natCast, blt_t (show i < W.length by omega), wr_suc (show i < 1000000 by omega), wr_suc (show j < 1000000 by omega), eta5]
      cases decide (y.1 = t) <;> rfl)
    (fun k n i W hi hl => by
      show slices_DeleteFunc_Lock_Lock_lock_Table_Free_1_l0 k (n + 1) _ _ _ _ _ = _
      rw [slices_DeleteFunc_Lock_Lock_lock_Table_Free_1_l0_eq, bf (by omega), inC_t (by omega) (by omega) (by omega), must_tr, inC_t (by omega) (by omega) (by omega), must_tr, Nat.zero_add, Int.toNat_natCast])
theorem gone_len (ws : List Lk) (t : Int) : (goneP ws t).length ≤ ws.length := List.length_filter_le ..
theorem free_ev {H W : List Lk} {nh nw : Nat} (t : Int) (hH : nh ≤ H.length) (hW : nw ≤ W.length) (b1 : nh ≤ 90) (b2 : nw ≤ 90) :
    ∃ (nh' nw' : Nat) (H' W' : List Lk), Ev (fun k => lock_Table_Free k t nh nw true H W) (((nh : Int) - (nh' : Int)), ((nh', (nw', (true, ()))), ((H', ()), ((W', ()), ())))) ∧ nh' ≤ H'.length ∧ nw' ≤ W'.length ∧
      H'.take nh' = goneP (H.take nh) t ∧ W'.take nw' = goneP (W.take nw) t := by
  obtain ⟨n1, H1, c1, g1, g2⟩ := freeD_ev (W := H) (c := nh) t hH (by omega)
  obtain ⟨n2, W2, c2, g3, g4⟩ := leaveN_ev (W := W) (c := nw) t n1 true H1 hW (by omega)
  have gl : n1 ≤ nh := by
    have e := congrArg List.length g2
    rw [List.length_take, Nat.min_eq_left g1] at e
    have : ((H.take nh).filter fun w => !decide (w.1 = t)).length ≤ (H.take nh).length := List.length_filter_le ..
    rw [List.length_take] at this
    omega
  refine ⟨n1, n2, H1, W2, ?_, g1, g3, g2, g4⟩
  simp only [lock_Table_Free_eq, lock_Table_ok_eq, Option.bind_some]
  refine .bind c1 (.bind c2 (.from 0 fun k => ?_))
  show some (wr .i64 (((nh : Nat) : Int) - ((n1 : Nat) : Int)), _) = _
  rw [wr_i64 (by omega)]
def smL (x : Lk) : Prop := x.2.2.2.1.length ≤ 60000 ∧ x.2.2.2.2.1.length ≤ 60000
theorem all_ev {W : List Lk} {c : Nat} (hc : c ≤ W.length) (hb : c ≤ 1000) (hs : ∀ x ∈ W.take c, smL x) : Ev (fun k => lock_all_v2 k c W) (W.take c, ((W, ()), ())) := by
  simp only [lock_all_v2_eq]
  have key : ∀ d j (b : Bool) (acc : List Lk), j + d = c → acc.length ≤ j → Ev2 (fun k n => lock_all_v2_l0 k n b acc c ((c : Nat) : Int) (j : Int) W) (acc ++ (W.take c).drop j, ((W, ()), ())) := by
    intro d
    induction d with
    | zero =>
      intro j b acc hj ha
      have : j = c := by omega
      subst this
      rw [List.drop_eq_nil_of_le (by rw [List.length_take]; omega)]
      refine .up ⟨0, fun k n _ _ => ?_⟩
      show lock_all_v2_l0 k (n + 1) _ _ _ _ _ _ = _
      rw [lock_all_v2_l0_eq, bf (by omega), List.append_nil]
    | succ d ih =>
      intro j b acc hj ha
      have hlt : j < W.length := by omega
      have hx : W[j]? = some W[j] := List.getElem?_eq_getElem hlt
      have hdr : (W.take c).drop j = W[j] :: (W.take c).drop (j + 1) := by
        rw [List.drop_eq_getElem_cons (by rw [List.length_take]; omega)]
        simp
      have hm : smL W[j] := hs _ (by
        have : W[j] ∈ (W.take c).drop j := by rw [hdr]; exact List.mem_cons_self ..
        exact List.mem_of_mem_drop this)
      rw [hdr]
      obtain ⟨K, hK⟩ := ih (j + 1) (b && false) (acc ++ [W[j]]) (by omega) (by simp; omega)
      refine .up ⟨K, fun k n hk hn => ?_⟩
      show lock_all_v2_l0 k (n + 1) _ _ _ _ _ _ = _
      rw [lock_all_v2_l0_eq, bt (by omega), inI_t (by omega) (by omega), must_tr, Nat.zero_add, Int.toNat_natCast, hx, Option.bind_some, eta5, own_t _ _ hm.1 hm.2]
      show lim (acc.length + 1) _ = _
      rw [lim_t (by omega), wr_suc (by omega)]
      have := hK k n hk hn
      rw [List.append_assoc] at this
      exact this
  have := (key c 0 true [] (by omega) (by simp)).dg
  rw [List.drop_zero] at this
  exact this
theorem held_ev {H W : List Lk} {nh nw : Nat} (hH : nh ≤ H.length) (b1 : nh ≤ 1000) (hs : ∀ x ∈ H.take nh, smL x) : Ev (fun k => lock_Table_Held k nh nw true H W) (H.take nh, ((nh, (nw, (true, ()))), ((H, ()), ((W, ()), ())))) := by
  simp only [lock_Table_Held_eq, lock_Table_ok_eq, Option.bind_some]
  exact .bind (all_ev hH b1 hs) (.from 0 fun k => rfl)
abbrev Dd : Type := Bool × (Lk × Unit)
def few14B (l : List Dd) (r : List Dd) : Bool := r.all (fun x => decide (x.2.1.2.2.2.1.length ≤ 20) && decide (x.2.1.2.2.2.2.1.length ≤ 20)) && decide (l.length ≤ 40)
theorem few14_l0 (k : Nat) {l : List Dd} (hm : l.length ≤ 9223372036854775807) : ∀ n j, j ≤ l.length → l.length - j < n → law14_few_l0 k n l l (l.length : Int) (j : Int) = some (few14B l (l.drop j), ())
  | 0, _, _, h => absurd h (Nat.not_lt_zero _)
  | n + 1, j, hj, hn => by
    rw [law14_few_l0_eq]
    by_cases c : j < l.length
    · have hx := List.getElem?_eq_getElem c
      rw [bt (by omega), nth_get hx, Option.bind_some, List.drop_eq_getElem_cons c]
      by_cases c1 : 20 < (l[j].2.1.2.2.2.1.length : Int)
      · rw [bt c1, show few14B l (l[j] :: l.drop (j + 1)) = false from by unfold few14B; rw [List.all_cons, dF (by omega)]; rfl]
      by_cases c2 : 20 < (l[j].2.1.2.2.2.2.1.length : Int)
      · rw [bf c1, bt c2, show few14B l (l[j] :: l.drop (j + 1)) = false from by unfold few14B; rw [List.all_cons, dF (p := l[j].2.1.2.2.2.2.1.length ≤ 20) (by omega), Bool.and_false]; rfl]
      rw [bf c1, bf c2, wr_i64 (by omega)]
      refine (few14_l0 k hm n (j + 1) c (by omega)).trans ?_
      rw [show few14B l (l[j] :: l.drop (j + 1)) = few14B l (l.drop (j + 1)) from by unfold few14B; rw [List.all_cons, dT (by omega), dT (by omega)]; rfl]
    · have : j = l.length := by omega
      subst this
      rw [bf (by omega), List.drop_length]
      have : decide ((l.length : Int) ≤ 40) = decide (l.length ≤ 40) := by
        by_cases h : l.length ≤ 40
        · rw [dT h, dT (by omega)]
        · rw [dF h, dF (by omega)]
      rw [this]; rfl
theorem few14_ev {l : List Dd} (hlen : l.length ≤ maxLen) : Ev (fun k => law14_few k l) (few14B l l, ()) := by
  have hmax : maxLen ≤ 9223372036854775807 := by decide
  refine ⟨l.length + 1, fun k hk => ?_⟩
  show law14_few k l = _
  rw [law14_few_eq]
  exact few14_l0 k (by omega) k 0 (Nat.zero_le _) (by omega)
theorem few14_sp {l : List Dd} (h : few14B l l = true) : l.length ≤ 40 ∧ ∀ x ∈ l, smL x.2.1 := by
  unfold few14B at h
  rw [Bool.and_eq_true, decide_eq_true_eq, List.all_eq_true] at h
  refine ⟨h.2, fun x hx => ?_⟩
  have := h.1 x hx
  rw [Bool.and_eq_true, decide_eq_true_eq, decide_eq_true_eq] at this
  exact ⟨by omega, by omega⟩
/-- What holds of a table after so many deeds. -/
structure TI (hs ws : List Lk) (n : Nat) : Prop where
  h : hs.length ≤ n
  w : ws.length ≤ n
  sh : ∀ x ∈ hs, smL x
  sw : ∀ x ∈ ws, smL x
theorem gone_mem {ws : List Lk} {t : Int} {x : Lk} (h : x ∈ goneP ws t) : x ∈ ws := (List.mem_filter.1 h).1
theorem leave_mem {ws : List Lk} {y x : Lk} (h : x ∈ leaveP ws y) : x ∈ ws := (List.mem_filter.1 h).1
theorem leave_len (ws : List Lk) (x : Lk) : (leaveP ws x).length ≤ ws.length := List.length_filter_le ..
theorem join_len (ws : List Lk) (x : Lk) : (joinP ws x).length ≤ ws.length + 1 := by unfold joinP; split <;> simp
theorem join_mem {ws : List Lk} {x y : Lk} (h : y ∈ joinP ws x) : y ∈ ws ∨ y = x := by
  unfold joinP at h
  split at h
  · simpa using h
  · exact .inl h
theorem TI.ask {hs ws hs' ws' : List Lk} {x : Lk} {b : Bool} {e : Int} {n : Nat} (T : TI hs ws n) (hx : smL x) (R : askR hs ws x b e hs' ws') : TI hs' ws' (n + 1) := by
  have l1 := leave_len ws x
  have l2 := join_len (leaveP ws x) x
  have l3 := gone_len (leaveP ws x) x.1
  have l4 := gone_len (joinP (leaveP ws x) x) x.1
  have hh := T.h
  have hw := T.w
  have sj : ∀ y ∈ joinP (leaveP ws x) x, smL y := fun y hy => (join_mem hy).elim (fun h => T.sw y (leave_mem h)) fun h => h ▸ hx
  rcases R with ⟨_, _, _, rfl, rfl⟩ | ⟨_, _, _, _, rfl, rfl⟩ | ⟨_, _, _, rfl, ⟨_, _, _, rfl⟩ | ⟨_, _, _, rfl⟩⟩ | ⟨_, _, _, _, rfl, ⟨_, _, rfl⟩ | ⟨_, _, rfl⟩⟩
  · exact ⟨by omega, by omega, T.sh, T.sw⟩
  · exact ⟨by omega, by omega, T.sh, T.sw⟩
  · exact ⟨by omega, by omega, T.sh, fun y hy => T.sw y (leave_mem (gone_mem hy))⟩
  · refine ⟨by simp; omega, by omega, fun y hy => ?_, fun y hy => T.sw y (leave_mem (gone_mem hy))⟩
    rcases List.mem_append.1 hy with h | h
    · exact T.sh y h
    · rw [List.mem_singleton] at h; exact h ▸ hx
  · exact ⟨by omega, by omega, T.sh, fun y hy => sj y (gone_mem hy)⟩
  · exact ⟨by omega, by omega, T.sh, sj⟩
theorem TI.free {hs ws : List Lk} {n : Nat} (T : TI hs ws n) (t : Int) : TI (goneP hs t) (goneP ws t) (n + 1) := by
  have l1 := gone_len hs t
  have l2 := gone_len ws t
  have hh := T.h
  have hw := T.w
  exact ⟨by omega, by omega, fun y hy => T.sh y (gone_mem hy), fun y hy => T.sw y (gone_mem hy)⟩
theorem rcovers_v (k : Nat) (a b : Lk) : ref12_Covers k a b = some (covP a b, ()) := by
  rw [ref12_Covers_eq]
  simp only [pos_dec]
  unfold covP modeC
  simp only [pos_dec]
  cases decide (a.1 = b.1) <;> cases decide (a.2.1 = b.2.1) <;> cases ltL b.2.2.2.1 a.2.2.2.1 <;>
  cases decide ((a.2.2.2.2.1.length : Int) = 0) <;> cases decide ((b.2.2.2.2.1.length : Int) = 0) <;> cases ltL a.2.2.2.2.1 b.2.2.2.2.1 <;>
  cases decide (a.2.2.1 = b.2.2.1) <;> cases decide (a.2.2.1 = 4) <;> cases decide (b.2.2.1 = 1) <;> cases decide (a.2.2.1 = 3) <;> rfl
theorem waiting_ev {H W : List Lk} {nh nw : Nat} (hW : nw ≤ W.length) (b1 : nw ≤ 1000) (hs : ∀ x ∈ W.take nw, smL x) : Ev (fun k => lock_Table_Waiting k nh nw true H W) (W.take nw, ((nh, (nw, (true, ()))), ((H, ()), ((W, ()), ())))) := by
  simp only [lock_Table_Waiting_eq, lock_Table_ok_eq, Option.bind_some]
  exact .bind (all_ev hW b1 hs) (.from 0 fun k => rfl)
theorem beqL_is (a b : List Int) : beqL a b = true ↔ a = b := by simp [beqL]
theorem sameP_is (a b : Lk) : sameP a b = true ↔ a = b := by
  unfold sameP
  simp only [Bool.and_eq_true, decide_eq_true_eq, beqL_is]
  constructor
  · rintro ⟨h1, h2, h3, h4, h5⟩
    obtain ⟨a1, a2, a3, a4, a5, _⟩ := a
    obtain ⟨b1, b2, b3, b4, b5, _⟩ := b
    simp only at h1 h2 h3 h4 h5
    subst h1 h2 h3 h4 h5
    rfl
  · rintro rfl
    exact ⟨rfl, rfl, rfl, rfl, rfl⟩
theorem rsame_v (k : Nat) (a b : Lk) : ref12_same k a b = some (sameP a b, ()) := by
  rw [ref12_same_eq]
  unfold sameP
  cases decide (a.1 = b.1) <;> cases decide (a.2.1 = b.2.1) <;> cases decide (a.2.2.1 = b.2.2.1) <;> cases beqL a.2.2.2.1 b.2.2.2.1 <;> cases beqL a.2.2.2.2.1 b.2.2.2.2.1 <;> rfl
theorem bndE {α β : Type} {x : Option α} {r : α} {G : α → Option β} (h : x = some r) : x.bind G = G r := by rw [h]; rfl
/-! The reference's table comes to the same. -/
def zeroLk : Lk := ((0 : Int), ((0 : Int), ((0 : Int), ([], ([], ())))))
def NZ (ws : List Lk) : Prop := ∀ w ∈ ws, w.1 ≠ 0
def leaveR (ws : List Lk) (t : Int) (x : Lk) : List Lk := ws.filter fun w => !decide (w.1 = t) || sameP w x
theorem leaveR_P (ws : List Lk) (x : Lk) : leaveR ws x.1 x = leaveP ws x := by
  unfold leaveR leaveP
  congr 1
  funext w
  cases decide (w.1 = x.1) <;> cases sameP w x <;> rfl
theorem leaveR_0 {ws : List Lk} (h : NZ ws) (t : Int) : leaveR ws t zeroLk = goneP ws t := by
  unfold leaveR goneP
  refine List.filter_congr fun w hw => ?_
  have : sameP w zeroLk = false := by
    cases hs : sameP w zeroLk with
    | false => rfl
    | true =>
      have := (sameP_is w zeroLk).1 hs
      exact absurd (by rw [this]; rfl) (h w hw)
  rw [this, Bool.or_false]
theorem rleave_ev (t : Int) (x : Lk) (hs ws : List Lk) (hb : ws.length ≤ 1000) : Ev (fun k => ref12_Table_leave k t x hs ws) ((), ((hs, (leaveR ws t x, ())), ())) := by
  simp only [ref12_Table_leave_eq]
  have key : ∀ d j (b : Bool) (acc : List Lk), j + d = ws.length → acc.length ≤ j → Ev2 (fun k n => ref12_Table_leave_l0 k n t b acc ws (ws.length : Int) (j : Int) hs ws x.1 x.2.1 x.2.2.1 x.2.2.2.1 x.2.2.2.2.1) ((), ((hs, (acc ++ leaveR (ws.drop j) t x, ())), ())) := by
    intro d
    induction d with
    | zero =>
      intro j b acc hj ha
      have : j = ws.length := by omega
      subst this
      rw [List.drop_length]
      refine .up ⟨0, fun k n _ _ => ?_⟩
      refine (ref12_Table_leave_l0_eq ..).trans ?_
      rw [bf (by omega)]
      simp [leaveR]
    | succ d ih =>
      intro j b acc hj ha
      have hlt : j < ws.length := by omega
      have hx : nth ws (j : Int) = some ws[j] := nth_get (List.getElem?_eq_getElem hlt)
      have hdr : ws.drop j = ws[j] :: ws.drop (j + 1) := List.drop_eq_getElem_cons hlt
      rw [hdr]
      generalize ws[j] = w at hx
      have stp : ∀ k n, ref12_Table_leave_l0 (k + 1) (n + 1) t b acc ws (ws.length : Int) (j : Int) hs ws x.1 x.2.1 x.2.2.1 x.2.2.2.1 x.2.2.2.2.1 =
          bif (!decide (w.1 = t) || sameP w x) then ref12_Table_leave_l0 (k + 1) n t (b && false) (acc ++ [w]) ws (ws.length : Int) ((j + 1 : Nat) : Int) hs ws x.1 x.2.1 x.2.2.1 x.2.2.2.1 x.2.2.2.2.1
          else ref12_Table_leave_l0 (k + 1) n t b acc ws (ws.length : Int) ((j + 1 : Nat) : Int) hs ws x.1 x.2.1 x.2.2.1 x.2.2.2.1 x.2.2.2.2.1 := by
        intro k n
        rw [ref12_Table_leave_l0_eq, bt (by omega), hx, Option.bind_some]
        simp only [rsame_v, Option.bind_some, ref12_Table_leave_j0_eq, wr_suc (show j < 1000000 by omega), eta5]
        rw [lim_t (by simp; omega)]
        cases decide (w.1 = t) <;> cases sameP w x <;> rfl
      unfold leaveR
      rw [List.filter_cons]
      refine .up (.upk ?_)
      cases hp : (!decide (w.1 = t) || sameP w x) with
      | true =>
        obtain ⟨K, hK⟩ := ih (j + 1) (b && false) (acc ++ [w]) (by omega) (by simp; omega)
        refine ⟨K, fun k n hk hn => ?_⟩
        show ref12_Table_leave_l0 (k + 1) (n + 1) _ _ _ _ _ _ _ _ _ _ _ _ _ = _
        rw [stp, hp]
        have := hK (k + 1) n (by omega) hn
        rw [List.append_assoc] at this
        exact this
      | false =>
        obtain ⟨K, hK⟩ := ih (j + 1) b acc (by omega) (by omega)
        refine ⟨K, fun k n hk hn => ?_⟩
        show ref12_Table_leave_l0 (k + 1) (n + 1) _ _ _ _ _ _ _ _ _ _ _ _ _ = _
        rw [stp, hp]
        exact hK (k + 1) n (by omega) hn
  have := (key ws.length 0 true [] (by omega) (by simp)).dg
  rw [List.drop_zero] at this
  exact this
theorem rfree_ev (t : Int) (hs ws : List Lk) (hb : ws.length ≤ 1000) (hb2 : hs.length ≤ 1000) (nz : NZ ws) : Ev (fun k => ref12_Table_Free k t hs ws) (((hs.length : Int) - ((goneP hs t).length : Int)), ((goneP hs t, (goneP ws t, ())), ())) := by
  simp only [ref12_Table_Free_eq]
  have gl : (goneP hs t).length ≤ hs.length := gone_len hs t
  have key : ∀ d j (b : Bool) (acc : List Lk), j + d = hs.length → acc.length ≤ j → acc ++ goneP (hs.drop j) t = goneP hs t → Ev2 (fun k n => ref12_Table_Free_l0 k n t b acc hs (hs.length : Int) (j : Int) hs ws) (((hs.length : Int) - ((goneP hs t).length : Int)), ((goneP hs t, (goneP ws t, ())), ())) := by
    intro d
    induction d with
    | zero =>
      intro j b acc hj ha he
      have : j = hs.length := by omega
      subst this
      rw [List.drop_length] at he
      have he : acc = goneP hs t := by simpa [goneP] using he
      subst he
      refine .up ?_
      obtain ⟨K, hK⟩ := rleave_ev t zeroLk (goneP hs t) ws hb
      refine ⟨K, fun k n hk hn => ?_⟩
      refine (ref12_Table_Free_l0_eq ..).trans ?_
      rw [bf (by omega)]
      refine (bndE (hK k hk)).trans ?_
      show some (wr .i64 ((hs.length : Int) - ((goneP hs t).length : Int)), ((goneP hs t, (leaveR ws t zeroLk, ())), ())) = _
      rw [wr_i64 (by omega), leaveR_0 nz]
    | succ d ih =>
      intro j b acc hj ha he
      have hlt : j < hs.length := by omega
      have hx : nth hs (j : Int) = some hs[j] := nth_get (List.getElem?_eq_getElem hlt)
      have hdr : hs.drop j = hs[j] :: hs.drop (j + 1) := List.drop_eq_getElem_cons hlt
      rw [hdr] at he
      generalize hs[j] = w at hx he
      have stp : ∀ k n, ref12_Table_Free_l0 (k + 1) (n + 1) t b acc hs (hs.length : Int) (j : Int) hs ws =
          bif (!decide (w.1 = t)) then ref12_Table_Free_l0 (k + 1) n t (b && false) (acc ++ [w]) hs (hs.length : Int) ((j + 1 : Nat) : Int) hs ws
          else ref12_Table_Free_l0 (k + 1) n t b acc hs (hs.length : Int) ((j + 1 : Nat) : Int) hs ws := by
        intro k n
        rw [ref12_Table_Free_l0_eq, bt (by omega), hx, Option.bind_some]
        simp only [ref12_Table_Free_j0_eq, wr_suc (show j < 1000000 by omega), eta5]
        rw [lim_t (by simp; omega)]
        cases decide (w.1 = t) <;> rfl
      refine .up (.upk ?_)
      cases hp : (!decide (w.1 = t)) with
      | true =>
        have he2 : acc ++ [w] ++ goneP (hs.drop (j + 1)) t = goneP hs t := by
          rw [← he]; unfold goneP; rw [List.filter_cons, hp]; simp
        obtain ⟨K, hK⟩ := ih (j + 1) (b && false) (acc ++ [w]) (by omega) (by simp; omega) he2
        refine ⟨K, fun k n hk hn => ?_⟩
        show ref12_Table_Free_l0 (k + 1) (n + 1) _ _ _ _ _ _ _ _ = _
        rw [stp, hp]
        exact hK (k + 1) n (by omega) hn
      | false =>
        have he2 : acc ++ goneP (hs.drop (j + 1)) t = goneP hs t := by
          rw [← he]; unfold goneP; rw [List.filter_cons, hp]; simp
        obtain ⟨K, hK⟩ := ih (j + 1) b acc (by omega) (by omega) he2
        refine ⟨K, fun k n hk hn => ?_⟩
        show ref12_Table_Free_l0 (k + 1) (n + 1) _ _ _ _ _ _ _ _ = _
        rw [stp, hp]
        exact hK (k + 1) n (by omega) hn
  exact (key hs.length 0 true [] (by omega) (by simp) (by simp)).dg
theorem ragainst_ev (x : Lk) (ls : List Lk) (hb : ls.length ≤ 1000) : Ev (fun k => ref12_against k ls x) ((), ((againstP ls x, ()), ())) := by
  simp only [ref12_against_eq]
  have key : ∀ d j (acc : List Lk), j + d = ls.length → acc.length ≤ j → Ev2 (fun k n => ref12_against_l0 k n ls (ls.length : Int) (j : Int) x.1 x.2.1 x.2.2.1 x.2.2.2.1 x.2.2.2.2.1 acc) ((), ((acc ++ againstP (ls.drop j) x, ()), ())) := by
    intro d
    induction d with
    | zero =>
      intro j acc hj ha
      have : j = ls.length := by omega
      subst this
      rw [List.drop_length]
      refine .up ⟨0, fun k n _ _ => ?_⟩
      refine (ref12_against_l0_eq ..).trans ?_
      rw [bf (by omega)]
      simp [againstP]
    | succ d ih =>
      intro j acc hj ha
      have hlt : j < ls.length := by omega
      have hx : nth ls (j : Int) = some ls[j] := nth_get (List.getElem?_eq_getElem hlt)
      have hdr : ls.drop j = ls[j] :: ls.drop (j + 1) := List.drop_eq_getElem_cons hlt
      rw [hdr]
      generalize ls[j] = w at hx
      have stp : ∀ k n, ref12_against_l0 (k + 1) (n + 1) ls (ls.length : Int) (j : Int) x.1 x.2.1 x.2.2.1 x.2.2.2.1 x.2.2.2.2.1 acc =
          bif (!apartP w x && !fitP w.2.2.1 x.2.2.1) then ref12_against_l0 (k + 1) n ls (ls.length : Int) ((j + 1 : Nat) : Int) x.1 x.2.1 x.2.2.1 x.2.2.2.1 x.2.2.2.2.1 (acc ++ [w])
          else ref12_against_l0 (k + 1) n ls (ls.length : Int) ((j + 1 : Nat) : Int) x.1 x.2.1 x.2.2.1 x.2.2.2.1 x.2.2.2.2.1 acc := by
        intro k n
        rw [ref12_against_l0_eq, bt (by omega), hx, Option.bind_some]
        simp only [rapart_v, rfits_v, Option.bind_some, ref12_against_j0_eq, wr_suc (show j < 1000000 by omega), eta5]
        rw [lim_t (by simp; omega)]
        cases apartP w x <;> cases fitP w.2.2.1 x.2.2.1 <;> rfl
      unfold againstP
      rw [List.filter_cons]
      refine .up (.upk ?_)
      cases hp : (!apartP w x && !fitP w.2.2.1 x.2.2.1) with
      | true =>
        obtain ⟨K, hK⟩ := ih (j + 1) (acc ++ [w]) (by omega) (by simp; omega)
        refine ⟨K, fun k n hk hn => ?_⟩
        show ref12_against_l0 (k + 1) (n + 1) _ _ _ _ _ _ _ _ _ = _
        rw [stp, hp]
        have := hK (k + 1) n (by omega) hn
        rw [List.append_assoc] at this
        exact this
      | false =>
        obtain ⟨K, hK⟩ := ih (j + 1) acc (by omega) (by omega)
        refine ⟨K, fun k n hk hn => ?_⟩
        show ref12_against_l0 (k + 1) (n + 1) _ _ _ _ _ _ _ _ _ = _
        rw [stp, hp]
        exact hK (k + 1) n (by omega) hn
  have := (key ls.length 0 [] (by omega) (by simp)).dg
  rw [List.drop_zero] at this
  exact this
def wayP (hs ahead : List Lk) (x : Lk) : List Lk := bif hs.any (fun h => decide (h.1 = x.1) && meetP h x) then againstP hs x else againstP hs x ++ againstP ahead x
theorem inWayP_is (hs ws : List Lk) (x : Lk) (n : Nat) : inWayP hs ws x n = wayP hs (ws.take n) x := rfl
theorem rway_ev (x : Lk) (ahead hs ws : List Lk) (hb : hs.length ≤ 1000) (hb2 : ahead.length ≤ 1000) : Ev (fun k => ref12_Table_way k x ahead hs ws) (wayP hs ahead x, ((hs, (ws, ())), ())) := by
  simp only [ref12_Table_way_eq]
  have l1 := against_len hs x
  have l2 := against_len ahead x
  have key : ∀ d j, j + d = hs.length → Ev2 (fun k n => ref12_Table_way_l0 k n ahead hs (hs.length : Int) (j : Int) hs ws x.1 x.2.1 x.2.2.1 x.2.2.2.1 x.2.2.2.2.1 (againstP hs x))
      (bif (hs.drop j).any (fun h => decide (h.1 = x.1) && meetP h x) then againstP hs x else againstP hs x ++ againstP ahead x, ((hs, (ws, ())), ())) := by
    intro d
    induction d with
    | zero =>
      intro j hj
      have : j = hs.length := by omega
      subst this
      rw [List.drop_length]
      refine .up ?_
      obtain ⟨K, hK⟩ := ragainst_ev x ahead hb2
      refine ⟨K, fun k n hk hn => ?_⟩
      refine (ref12_Table_way_l0_eq ..).trans ?_
      rw [bf (by omega)]
      refine (bndE (hK k hk)).trans ?_
      show lim ((againstP hs x).length + (againstP ahead x).length) _ = _
      rw [lim_t (by omega)]; rfl
    | succ d ih =>
      intro j hj
      have hlt : j < hs.length := by omega
      have hx : nth hs (j : Int) = some hs[j] := nth_get (List.getElem?_eq_getElem hlt)
      have hdr : hs.drop j = hs[j] :: hs.drop (j + 1) := List.drop_eq_getElem_cons hlt
      rw [hdr, List.any_cons]
      generalize hs[j] = w at hx
      obtain ⟨K, hK⟩ := ih (j + 1) (by omega)
      refine .up ⟨K, fun k n hk hn => ?_⟩
      refine (ref12_Table_way_l0_eq ..).trans ?_
      rw [bt (by omega), hx, Option.bind_some]
      simp only [rmeets_v, Option.bind_some, wr_suc (show j < 1000000 by omega), eta5]
      have h2 := hK k n hk hn
      cases decide (w.1 = x.1) with
      | false => exact h2
      | true =>
        cases meetP w x with
        | false => exact h2
        | true => rfl
  have h := (key hs.length 0 (by omega)).dg
  rw [List.drop_zero] at h
  exact .bind (ragainst_ev x hs hb) h
theorem way_len (hs ahead : List Lk) (x : Lk) : (wayP hs ahead x).length ≤ hs.length + ahead.length := by
  have l1 := against_len hs x
  have l2 := against_len ahead x
  unfold wayP
  cases hs.any _
  · simp only [cond_false, List.length_append]; omega
  · simp only [cond_true]; omega
theorem redges_ev (hs ws : List Lk) (b1 : hs.length ≤ 100) (b2 : ws.length ≤ 100) : Ev (fun k => ref12_Table_Edges k hs ws) (edgesP hs ws, ((hs, (ws, ())), ())) := by
  simp only [ref12_Table_Edges_eq]
  have outer : ∀ (d i : Nat) (fl : Bool) (out : List Eg), i + d = ws.length → out.length + d * 200 ≤ 40000 →
      Ev2 (fun k n => ref12_Table_Edges_l0 k n fl out ws (ws.length : Int) (i : Int) hs ws) (edgesFrom hs ws i (ws.drop i) out, ((hs, (ws, ())), ())) := by
    intro d
    induction d with
    | zero =>
      intro i fl out hi ho
      have : i = ws.length := by omega
      subst this
      rw [List.drop_length]
      refine .up ⟨0, fun k n _ _ => ?_⟩
      refine (ref12_Table_Edges_l0_eq ..).trans ?_
      rw [bf (by omega)]; rfl
    | succ d ih =>
      intro i fl out hi ho
      have hlt : i < ws.length := by omega
      have hx : nth ws (i : Int) = some ws[i] := nth_get (List.getElem?_eq_getElem hlt)
      have hdr : ws.drop i = ws[i] :: ws.drop (i + 1) := List.drop_eq_getElem_cons hlt
      rw [hdr]
      generalize ws[i] = x at hx
      have inner : ∀ (ls : List Lk), ls.length ≤ 10000 → ∀ (e j : Nat) (fl : Bool) (out : List Eg), j + e = ls.length → out.length + e + d * 200 ≤ 40000 →
          Ev3 (fun k n p => ref12_Table_Edges_l1 k n p fl out ws (ws.length : Int) (i : Int) ls (ls.length : Int) (j : Int) hs ws x.1 x.2.1 x.2.2.1 x.2.2.2.1 x.2.2.2.2.1)
            (edgesFrom hs ws (i + 1) (ws.drop (i + 1)) ((ls.drop j).foldl (fun out h => addE out (x.1, (h.1, ()))) out), ((hs, (ws, ())), ())) := by
        intro ls hls e
        induction e with
        | zero =>
          intro j fl out hj ho
          have : j = ls.length := by omega
          subst this
          rw [List.drop_length]
          obtain ⟨K, hK⟩ := ih (i + 1) fl out (by omega) (by omega)
          refine .up ⟨K, fun k n p hk hn hp => ?_⟩
          refine (ref12_Table_Edges_l1_eq ..).trans ?_
          rw [bf (by omega), wr_suc (by omega)]
          exact hK k n hk hn
        | succ e ihe =>
          intro j fl out hj ho
          have hlj : j < ls.length := by omega
          have hy : nth ls (j : Int) = some ls[j] := nth_get (List.getElem?_eq_getElem hlj)
          have hdr : ls.drop j = ls[j] :: ls.drop (j + 1) := List.drop_eq_getElem_cons hlj
          rw [hdr, List.foldl_cons]
          generalize ls[j] = y at hy
          -- whether it is known
          have kn : ∀ d m (b : Bool), m + d = out.length → b = knownE (out.take m) (x.1, (y.1, ())) →
              Ev4 (fun k n p q => ref12_Table_Edges_l2 k n p q fl out b ws (ws.length : Int) (i : Int) ls (ls.length : Int) (j : Int) fl out (out.length : Int) (m : Int) hs ws x.1 x.2.1 x.2.2.1 x.2.2.2.1 x.2.2.2.2.1 x.1 y.1)
                (edgesFrom hs ws (i + 1) (ws.drop (i + 1)) ((ls.drop (j + 1)).foldl (fun out h => addE out (x.1, (h.1, ()))) (addE out (x.1, (y.1, ())))), ((hs, (ws, ())), ())) := by
            intro d
            induction d with
            | zero =>
              intro m b hm hb
              have : m = out.length := by omega
              subst this
              rw [List.take_length] at hb
              subst hb
              unfold addE
              cases knownE out ((x.1, (y.1, ())) : Eg) with
              | true =>
                obtain ⟨K, hK⟩ := ihe (j + 1) fl out (by omega) (by omega)
                refine .up (.upk ⟨K, fun k n p q hk hn hp hq => ?_⟩)
                refine (ref12_Table_Edges_l2_eq ..).trans ?_
                rw [bf (by omega)]
                refine (ref12_Table_Edges_j0_eq ..).trans ?_
                rw [wr_suc (by omega)]
                exact hK (k + 1) n p (by omega) hn hp
              | false =>
                obtain ⟨K, hK⟩ := ihe (j + 1) (fl && ([((x.1, (y.1, ())) : Eg)] : List Eg).isEmpty) (out ++ [(x.1, (y.1, ()))]) (by omega) (by simp; omega)
                refine .up (.upk ⟨K, fun k n p q hk hn hp hq => ?_⟩)
                refine (ref12_Table_Edges_l2_eq ..).trans ?_
                rw [bf (by omega)]
                show lim _ _ = _
                rw [lim_t (by simp; omega)]
                refine (ref12_Table_Edges_j0_eq ..).trans ?_
                rw [wr_suc (by omega)]
                exact hK (k + 1) n p (by omega) hn hp
            | succ d ihd =>
              intro m b hm hb
              have hlm : m < out.length := by omega
              have hz : nth out (m : Int) = some out[m] := nth_get (List.getElem?_eq_getElem hlm)
              have htk : knownE (out.take (m + 1)) ((x.1, (y.1, ())) : Eg) = (b || decide (out[m] = ((x.1, (y.1, ())) : Eg))) := by
                rw [List.take_add_one, List.getElem?_eq_getElem hlm, hb]
                exact knownE_app ..
              cases b with
              | true =>
                obtain ⟨K, hK⟩ := ihd (m + 1) true (by omega) (by rw [htk]; rfl)
                refine .up ⟨K, fun k n p q hk hn hp hq => ?_⟩
                refine (ref12_Table_Edges_l2_eq ..).trans ?_
                rw [bt (by omega), hz, Option.bind_some, wr_suc (by omega)]
                exact hK k n p q hk hn hp hq
              | false =>
                obtain ⟨K, hK⟩ := ihd (m + 1) (decide (out[m] = ((x.1, (y.1, ())) : Eg))) (by omega) (by rw [htk]; rfl)
                refine .up ⟨K, fun k n p q hk hn hp hq => ?_⟩
                refine (ref12_Table_Edges_l2_eq ..).trans ?_
                rw [bt (by omega), hz, Option.bind_some, wr_suc (by omega)]
                show ref12_Table_Edges_l2 k n p q fl out (Ty.decEq (.st (.pair (.int .u64) (.pair (.int .u64) .unit))) out[m] ((x.1, (y.1, ())) : Eg)) _ _ _ _ _ _ _ _ _ _ _ _ _ _ _ _ _ _ _ = _
                rw [decE]
                exact hK k n p q hk hn hp hq
          obtain ⟨K, hK⟩ := (kn out.length 0 false (by omega) (by simp [knownE])).dg
          refine .up ⟨K, fun k n p hk hn hp => ?_⟩
          refine (ref12_Table_Edges_l1_eq ..).trans ?_
          rw [bt (by omega), hy, Option.bind_some]
          exact hK k n p hk hn hp
      have tl : (ws.take i).length ≤ 100 := by rw [List.length_take]; omega
      have hl := way_len hs (ws.take i) x
      obtain ⟨K, hK⟩ := (inner (wayP hs (ws.take i) x) (by omega) _ 0 fl out (Nat.zero_add _) (by omega)).dg
      rw [List.drop_zero] at hK
      obtain ⟨K2, hK2⟩ := rway_ev x (ws.take i) hs ws (by omega) (by omega)
      refine .up ⟨Nat.max K K2, fun k n hk hn => ?_⟩
      refine (ref12_Table_Edges_l0_eq ..).trans ?_
      rw [bt (by omega), hx, Option.bind_some, cut_all (by omega), Option.bind_some]
      refine (bndE (hK2 k (Nat.le_trans (Nat.le_max_right K K2) hk))).trans ?_
      exact hK k n (Nat.le_trans (Nat.le_max_left K K2) hk) (Nat.le_trans (Nat.le_max_left K K2) hn)
  exact (outer ws.length 0 true [] (by omega) (by simp; omega)).dg
theorem rwalk_ev (f : Int) (l : List Eg) (hl : l.length ≤ 40000) : ∀ (u : Nat) (Q : List Int) (i : Nat) (fl fm : Bool) (out : List Eg), i ≤ Q.length → (Q.drop i).length + freshS out l ≤ u → Q.length + freshS out l ≤ 50000 → out.length + freshS out l ≤ 50000 →
    Ev2 (fun k n => ref12_walk_l0 k n l f fl out fm Q (i : Int)) (bfs f l u (Q.drop i) out, ()) := by
  intro u
  induction u with
  | zero =>
    intro Q i fl fm out hi hu _ _
    have hq : Q.drop i = [] := List.eq_nil_of_length_eq_zero (by omega)
    have hlen : Q.length ≤ i := by rw [List.drop_eq_nil_iff] at hq; exact hq
    refine .up ⟨0, fun k n _ _ => ?_⟩
    refine (ref12_walk_l0_eq ..).trans ?_
    rw [bf (by omega)]; rfl
  | succ u ih =>
    intro Q i fl fm out hi hu hQ ho
    by_cases hlt : i < Q.length
    case neg =>
      have hq : Q.drop i = [] := List.drop_eq_nil_of_le (by omega)
      rw [hq]
      refine .up ⟨0, fun k n _ _ => ?_⟩
      refine (ref12_walk_l0_eq ..).trans ?_
      rw [bf (by omega)]; rfl
    have hdr : Q.drop i = Q[i] :: Q.drop (i + 1) := List.drop_eq_getElem_cons hlt
    have hc : Q[i]? = some Q[i] := List.getElem?_eq_getElem hlt
    rw [hdr] at hu ⊢
    generalize Q[i] = c at hc hu hdr
    have inner : ∀ (d j : Nat) (Q : List Int) (fl fm : Bool) (out : List Eg), j + d = l.length → i < Q.length → Q[i]? = some c → (Q.drop (i + 1)).length + freshS out l ≤ u → Q.length + freshS out l ≤ 50000 → out.length + freshS out l ≤ 50000 →
        Ev3 (fun k n m => ref12_walk_l1 k n m l f fl out fm Q (i : Int) l (l.length : Int) (j : Int)) (bfs f l u ((l.drop j).foldl (visit f c) (Q.drop (i + 1), out)).1 ((l.drop j).foldl (visit f c) (Q.drop (i + 1), out)).2, ()) := by
      intro d
      induction d with
      | zero =>
        intro j Q fl fm out hj hlt hc hu hQ ho
        have : j = l.length := by omega
        subst this
        rw [List.drop_length]
        obtain ⟨K, hK⟩ := ih Q (i + 1) fl fm out (by omega) hu hQ ho
        refine .up ⟨K, fun k n m hk hn hm => ?_⟩
        refine (ref12_walk_l1_eq ..).trans ?_
        rw [bf (by omega), wr_suc (by omega)]
        exact hK k n hk hn
      | succ d ihd =>
        intro j Q fl fm out hj hlt hc hu hQ ho
        have hltj : j < l.length := by omega
        have hx : nth l (j : Int) = some l[j] := nth_get (List.getElem?_eq_getElem hltj)
        have hdr : l.drop j = l[j] :: l.drop (j + 1) := List.drop_eq_getElem_cons hltj
        rw [hdr, List.foldl_cons]
        generalize hee : l[j] = e at hx
        have hmem : e ∈ l := by rw [← hee]; exact List.getElem_mem hltj
        by_cases h1 : e.1 = c
        case neg =>
          rw [visit_skip (.inl h1)]
          obtain ⟨K, hK⟩ := ihd (j + 1) Q fl fm out (by omega) hlt hc hu hQ ho
          refine .up ⟨K, fun k n m hk hn hm => ?_⟩
          refine (ref12_walk_l1_eq ..).trans ?_
          rw [bt (by omega), hx, Option.bind_some, nth_get hc, Option.bind_some, dF h1, wr_suc (by omega)]
          exact hK k n m hk hn hm
        have kn : ∀ d m (b : Bool), m + d = out.length → b = knownS (out.take m) e.2.1 →
            Ev4 (fun k n p q => ref12_walk_l2 k n p q l f fl out fm Q (i : Int) b l (l.length : Int) (j : Int) fl out (out.length : Int) (m : Int) e.1 e.2.1)
              (bfs f l u ((l.drop (j + 1)).foldl (visit f c) (visit f c (Q.drop (i + 1), out) e)).1 ((l.drop (j + 1)).foldl (visit f c) (visit f c (Q.drop (i + 1), out) e)).2, ()) := by
          intro d
          induction d with
          | zero =>
            intro m b hm hb
            have : m = out.length := by omega
            subst this
            rw [List.take_length] at hb
            subst hb
            cases hk : knownS out e.2.1 with
            | true =>
              rw [visit_skip (.inr hk)]
              obtain ⟨K, hK⟩ := ihd (j + 1) Q fl fm out (by omega) hlt hc hu hQ ho
              refine .up ⟨K, fun k n p q hk hn hp hq => ?_⟩
              refine (ref12_walk_l2_eq ..).trans ?_
              rw [bf (by omega), wr_suc (by omega)]
              exact hK k n p hk hn hp
            | false =>
              rw [visit_new h1 hk]
              have hdec := freshS_dec hmem hk e.1
              by_cases h3 : e.2.1 = f
              · rw [dT h3]
                obtain ⟨K, hK⟩ := ihd (j + 1) Q (fl && ([((e.2.1, (e.1, ())) : Eg)] : List Eg).isEmpty) fm (out ++ [(e.2.1, (e.1, ()))]) (by omega) hlt hc (by omega) (by omega) (by simp; omega)
                refine .up (.upk ⟨K, fun k n p q hk hn hp hq => ?_⟩)
                refine (ref12_walk_l2_eq ..).trans ?_
                rw [bf (by omega)]
                show lim _ (bif !decide (e.2.1 = f) then _ else _) = _
                rw [dT h3, lim_t (by simp; omega)]
                refine (ref12_walk_j0_eq ..).trans ?_
                rw [wr_suc (by omega)]
                exact hK (k + 1) n p (by omega) hn hp
              · rw [dF h3]
                have hqd : Q.drop (i + 1) ++ [e.2.1] = (Q ++ [e.2.1]).drop (i + 1) := by rw [List.drop_append_of_le_length (by omega)]
                show Ev4 _ (bfs f l u ((l.drop (j + 1)).foldl (visit f c) (Q.drop (i + 1) ++ [e.2.1], _)).1 _, ())
                rw [hqd]
                obtain ⟨K, hK⟩ := ihd (j + 1) (Q ++ [e.2.1]) (fl && ([((e.2.1, (e.1, ())) : Eg)] : List Eg).isEmpty) (fm && [e.2.1].isEmpty) (out ++ [(e.2.1, (e.1, ()))]) (by omega) (by simp; omega) (by rw [List.getElem?_append_left hlt]; exact hc)
                  (by rw [← hqd]; simp only [List.length_append, List.length_singleton]; omega) (by simp; omega) (by simp; omega)
                refine .up (.upk ⟨K, fun k n p q hk hn hp hq => ?_⟩)
                refine (ref12_walk_l2_eq ..).trans ?_
                rw [bf (by omega)]
                show lim _ (bif !decide (e.2.1 = f) then lim _ _ else _) = _
                rw [dF h3, lim_t (by simp; omega)]
                show lim _ _ = _
                rw [lim_t (by simp; omega)]
                refine (ref12_walk_j0_eq ..).trans ?_
                rw [wr_suc (by omega)]
                exact hK (k + 1) n p (by omega) hn hp
          | succ d ihe =>
            intro m b hm hb
            have hlm : m < out.length := by omega
            have hz : nth out (m : Int) = some out[m] := nth_get (List.getElem?_eq_getElem hlm)
            have htk : knownS (out.take (m + 1)) e.2.1 = (b || decide (out[m].1 = e.2.1)) := by
              rw [List.take_add_one, List.getElem?_eq_getElem hlm, hb]
              exact knownS_app ..
            cases b with
            | true =>
              obtain ⟨K, hK⟩ := ihe (m + 1) true (by omega) (by rw [htk]; rfl)
              refine .up ⟨K, fun k n p q hk hn hp hq => ?_⟩
              refine (ref12_walk_l2_eq ..).trans ?_
              rw [bt (by omega), hz, Option.bind_some, wr_suc (by omega)]
              exact hK k n p q hk hn hp hq
            | false =>
              obtain ⟨K, hK⟩ := ihe (m + 1) (decide (out[m].1 = e.2.1)) (by omega) (by rw [htk]; rfl)
              refine .up ⟨K, fun k n p q hk hn hp hq => ?_⟩
              refine (ref12_walk_l2_eq ..).trans ?_
              rw [bt (by omega), hz, Option.bind_some, wr_suc (by omega)]
              exact hK k n p q hk hn hp hq
        obtain ⟨K, hK⟩ := (kn out.length 0 false (by omega) (by simp [knownS])).dg
        refine .up ⟨K, fun k n m hk hn hm => ?_⟩
        refine (ref12_walk_l1_eq ..).trans ?_
        rw [bt (by omega), hx, Option.bind_some, nth_get hc, Option.bind_some, dT h1]
        exact hK k n m hk hn hm
    have hu2 : (Q.drop (i + 1)).length + freshS out l ≤ u := by simp only [List.length_cons] at hu; omega
    obtain ⟨K, hK⟩ := (inner l.length 0 Q fl fm out (by omega) hlt hc hu2 hQ ho).dg
    refine .up ⟨K, fun k n hk hn => ?_⟩
    refine (ref12_walk_l0_eq ..).trans ?_
    rw [bt (by omega)]
    exact hK k n hk hn
theorem knownS_take {w : List Eg} {m : Nat} {s : Eg} (h : w[m]? = some s) (n : Int) : knownS (w.take (m + 1)) n = (knownS (w.take m) n || decide (s.1 = n)) := by
  rw [List.take_add_one, h]
  exact knownS_app ..
theorem rback_yes (f : Int) (w : List Eg) (hw : Chain f w) (hb : w.length ≤ 90000) : ∀ (m : Nat) (fl : Bool) (acc : List Int) (at_ : Int), m ≤ w.length → acc.length + m ≤ 90000 → knownS (w.take m) at_ = true →
    ∃ a, Ev2 (fun k n => ref12_Cycle_l0 k n f w fl acc at_ ((m : Int) - 1)) ((false, a), ()) := by
  intro m
  induction m with
  | zero => intro fl acc at_ _ _ h; simp [knownS] at h
  | succ m ih =>
    intro fl acc at_ hm ha h
    have hlt : m < w.length := by omega
    have hx : w[m]? = some w[m] := List.getElem?_eq_getElem hlt
    have hch := hw m w[m] hx
    rw [knownS_take hx] at h
    generalize w[m] = s at hx h hch
    have e1 : ((m + 1 : Nat) : Int) - 1 = ((m : Nat) : Int) := by omega
    rw [e1]
    by_cases hs : s.1 = at_
    · by_cases hf : s.2.1 = f
      · refine ⟨[s.2.1] ++ acc, .up ⟨0, fun k n _ _ => ?_⟩⟩
        refine (ref12_Cycle_l0_eq ..).trans ?_
        rw [bt (by omega), nth_get hx, Option.bind_some, dT hs]
        show lim _ (bif decide (s.2.1 = f) then _ else _) = _
        rw [dT hf, lim_t (by simp; omega)]; rfl
      · obtain ⟨a, K, hK⟩ := ih false ([s.2.1] ++ acc) s.2.1 (by omega) (by simp; omega) (hch.resolve_left hf)
        refine ⟨a, .up (.upk ⟨K, fun k n hk hn => ?_⟩)⟩
        refine (ref12_Cycle_l0_eq ..).trans ?_
        rw [bt (by omega), nth_get hx, Option.bind_some, dT hs]
        show lim _ (bif decide (s.2.1 = f) then _ else _) = _
        rw [dF hf, lim_t (by simp; omega)]
        refine (ref12_Cycle_j0_eq ..).trans ?_
        rw [wr_i64 (by omega)]
        exact hK (k + 1) n (by omega) hn
    · rw [dF hs, Bool.or_false] at h
      obtain ⟨a, K, hK⟩ := ih fl acc at_ (by omega) (by omega) h
      refine ⟨a, .up (.upk ⟨K, fun k n hk hn => ?_⟩)⟩
      refine (ref12_Cycle_l0_eq ..).trans ?_
      rw [bt (by omega), nth_get hx, Option.bind_some, dF hs]
      refine (ref12_Cycle_j0_eq ..).trans ?_
      rw [wr_i64 (by omega)]
      exact hK (k + 1) n (by omega) hn
theorem rback_no (f : Int) (w : List Eg) (hb : w.length ≤ 90000) : ∀ (m : Nat) (fl : Bool) (acc : List Int), m ≤ w.length → knownS (w.take m) f = false →
    Ev2 (fun k n => ref12_Cycle_l0 k n f w fl acc f ((m : Int) - 1)) ((true, []), ()) := by
  intro m
  induction m with
  | zero =>
    intro fl acc _ h
    refine .up ⟨0, fun k n _ _ => ?_⟩
    refine (ref12_Cycle_l0_eq ..).trans ?_
    rw [bf (by omega)]
  | succ m ih =>
    intro fl acc hm h
    have hlt : m < w.length := by omega
    have hx : w[m]? = some w[m] := List.getElem?_eq_getElem hlt
    rw [knownS_take hx] at h
    generalize w[m] = s at hx h
    have e1 : ((m + 1 : Nat) : Int) - 1 = ((m : Nat) : Int) := by omega
    rw [e1]
    rw [Bool.or_eq_false_iff] at h
    have hs : ¬ s.1 = f := of_decide_eq_false h.2
    obtain ⟨K, hK⟩ := ih fl acc (by omega) h.1
    refine .up (.upk ⟨K, fun k n hk hn => ?_⟩)
    refine (ref12_Cycle_l0_eq ..).trans ?_
    rw [bt (by omega), nth_get hx, Option.bind_some, dF hs]
    refine (ref12_Cycle_j0_eq ..).trans ?_
    rw [wr_i64 (by omega)]
    exact hK (k + 1) n (by omega) hn
theorem visit_meas {f c : Int} {l : List Eg} {s : List Int × List Eg} {e : Eg} (he : e ∈ l) : (visit f c s e).2.length + freshS (visit f c s e).2 l ≤ s.2.length + freshS s.2 l := by
  unfold visit
  cases hk : decide (e.1 = c) && !knownS s.2 e.2.1 with
  | false => exact Nat.le_refl _
  | true =>
    rw [Bool.and_eq_true] at hk
    have := freshS_dec he (by simpa using hk.2) e.1
    show (s.2 ++ _).length + freshS (s.2 ++ _) l ≤ _
    simp only [List.length_append, List.length_singleton]
    omega
theorem fold_meas {f c : Int} {l : List Eg} : ∀ (r : List Eg) (s : List Int × List Eg), (∀ e ∈ r, e ∈ l) → (r.foldl (visit f c) s).2.length + freshS (r.foldl (visit f c) s).2 l ≤ s.2.length + freshS s.2 l
  | [], _, _ => Nat.le_refl _
  | e :: r, s, h => Nat.le_trans (fold_meas r _ fun e he => h e (List.mem_cons_of_mem _ he)) (visit_meas (h e (List.mem_cons_self ..)))
theorem bfs_meas {f : Int} {l : List Eg} : ∀ (u : Nat) (q : List Int) (out : List Eg), (bfs f l u q out).length ≤ out.length + freshS out l
  | 0, _, _ => Nat.le_add_right ..
  | _ + 1, [], _ => Nat.le_add_right ..
  | u + 1, c :: q, out => Nat.le_trans (bfs_meas u _ _) (fold_meas l (q, out) fun _ h => h)
theorem rcycle_ev (l : List Eg) (f : Int) (hl : l.length ≤ 40000) : ∃ a, Ev (fun k => ref12_Cycle k l f) ((!ringP l f, a), ()) := by
  have hS := freshS_le [] l
  have h1 := (rwalk_ev f l hl (1 + l.length) [f] 0 true false [] (by simp) (by simp; omega) (by simp; omega) (by simp; omega)).dg
  rw [List.drop_zero] at h1
  have hm := bfs_meas (f := f) (l := l) (1 + l.length) [f] []
  have hch : Chain f (bfs f l (1 + l.length) [f] []) := bfs_chain _ _ _ (fun i s h => by simp at h) (fun n hn => by rw [List.mem_singleton] at hn; exact .inl hn)
  unfold ringP
  generalize bfs f l (1 + l.length) [f] [] = w at h1 hm hch
  have hm : w.length ≤ 40000 := by simp at hm; omega
  have e : ∀ k, ref12_walk k l f = ref12_walk_l0 k k l f true [] false [f] ((0 : Nat) : Int) := fun k => ref12_walk_eq k l f
  cases hk : knownS w f with
  | true =>
    obtain ⟨a, h2⟩ := rback_yes f w hch (by omega) w.length true [] f (Nat.le_refl _) (by simp; omega) (by rw [List.take_length]; exact hk)
    refine ⟨a, ?_⟩
    simp only [ref12_Cycle_eq, e]
    refine .bind h1 ?_
    obtain ⟨K, hK⟩ := h2.dg
    refine ⟨K, fun k hk => ?_⟩
    show ref12_Cycle_l0 k k f w true [] f (wr .i64 ((w.length : Int) - 1)) = _
    rw [wr_i64 (by omega)]
    exact hK k hk
  | false =>
    refine ⟨[], ?_⟩
    simp only [ref12_Cycle_eq, e]
    refine .bind h1 ?_
    obtain ⟨K, hK⟩ := (rback_no f w (by omega) w.length true [] (Nat.le_refl _) (by rw [List.take_length]; exact hk)).dg
    refine ⟨K, fun k hk => ?_⟩
    show ref12_Cycle_l0 k k f w true [] f (wr .i64 ((w.length : Int) - 1)) = _
    rw [wr_i64 (by omega)]
    exact hK k hk
theorem place_spec (x : Lk) : ∀ ws : List Lk, (∀ j w, j < placeI ws x → ws[j]? = some w → sameP w x = false) ∧ (∀ w, ws[placeI ws x]? = some w → sameP w x = true)
  | [] => ⟨fun j w h _ => absurd h (by simp [placeI]), fun w h => by simp [placeI] at h⟩
  | y :: ws => by
    obtain ⟨h1, h2⟩ := place_spec x ws
    have e : placeI (y :: ws) x = if sameP y x = true then 0 else placeI ws x + 1 := by
      unfold placeI
      rw [List.findIdx?_cons]
      cases sameP y x with
      | true => rfl
      | false =>
        show (match (ws.findIdx? fun w => sameP w x).map (fun i => i + 1) with | some i => i | none => (y :: ws).length) = _
        cases ws.findIdx? fun w => sameP w x <;> rfl
    rw [e]
    cases hs : sameP y x with
    | true => exact ⟨fun j w h _ => absurd h (by simp), fun w h => by simp at h; rw [← h]; exact hs⟩
    | false =>
      refine ⟨fun j w h hw => ?_, fun w h => ?_⟩
      · cases j with
        | zero => simp at hw; rw [← hw]; exact hs
        | succ j => exact h1 j w (by simpa using h) (by simpa using hw)
      · exact h2 w (by simpa using h)
theorem raskJ_ev (hs ws : List Lk) (x : Lk) (b1 : hs.length ≤ 100) (b2 : ws.length ≤ 100) (nz : NZ ws) (hl : (edgesP hs ws).length ≤ 40000) :
    ∃ e ws', Ev (fun k => ref12_Table_Ask_j0 k hs ws x.1 x.2.1 x.2.2.1 x.2.2.2.1 x.2.2.2.2.1) ((false, (e, ())), ((hs, (ws', ())), ())) ∧
      ((ringP (edgesP hs ws) x.1 = true ∧ e = 131 ∧ ws' = goneP ws x.1) ∨ (ringP (edgesP hs ws) x.1 = false ∧ e = 0 ∧ ws' = ws)) := by
  have hE := redges_ev hs ws b1 b2
  obtain ⟨a, hC⟩ := rcycle_ev (edgesP hs ws) x.1 hl
  cases hr : ringP (edgesP hs ws) x.1 with
  | true =>
    rw [hr] at hC
    refine ⟨131, goneP ws x.1, .up ?_, .inl ⟨rfl, rfl, rfl⟩⟩
    simp only [ref12_Table_Ask_j0_eq]
    refine .bind hE.sh (.bind hC.sh ?_)
    have := rleave_ev x.1 zeroLk hs ws (by omega)
    rw [leaveR_0 nz] at this
    exact .bind this.sh (.from 0 fun k => rfl)
  | false =>
    rw [hr] at hC
    refine ⟨0, ws, .up ?_, .inr ⟨rfl, rfl, rfl⟩⟩
    simp only [ref12_Table_Ask_j0_eq]
    exact .bind hE.sh (.bind hC.sh (.from 0 fun k => rfl))
theorem cut_tk {α : Type} {l : List α} {n : Nat} (h : n ≤ l.length) : cut l (0 : Int) (n : Int) = some (l.take n) := cut_all h
theorem may_cases (x : Lk) (k : Nat) (hs ws : List Lk) : ref12_Table_Ask k x hs ws =
    bif mayP x then ref12_Table_Ask_l0 k k hs (hs.length : Int) (0 : Int) hs ws x.1 x.2.1 x.2.2.1 x.2.2.2.1 x.2.2.2.2.1 else some ((false, ((1 : Int), ())), ((hs, (ws, ())), ())) := by
  rw [ref12_Table_Ask_eq]
  simp only [below_v, Option.bind_some]
  unfold mayP
  by_cases h1 : x.2.2.1 < 1
  · rw [dT h1, dF (p := 1 ≤ x.2.2.1) (by omega)]
    cases decide (x.1 = 0) <;> cases decide (x.2.1 = 0) <;> cases decide (x.2.1 = 1) <;> rfl
  · by_cases h2 : 4 < x.2.2.1
    · rw [dF h1, dT h2, dF (p := x.2.2.1 ≤ 4) (by omega)]
      cases decide (x.1 = 0) <;> cases decide (x.2.1 = 0) <;> cases decide (x.2.1 = 1) <;> cases decide (1 ≤ x.2.2.1) <;> rfl
    · rw [dF h1, dF h2, dT (p := x.2.2.1 ≤ 4) (by omega), dT (p := 1 ≤ x.2.2.1) (by omega)]
      cases decide (x.1 = 0) <;> cases decide (x.2.1 = 0) <;> cases decide (x.2.1 = 1) <;> cases endP x.2.2.2.2.1 x.2.2.2.1 <;> rfl
theorem rask_ev {hs ws : List Lk} (x : Lk) (b1 : hs.length ≤ 90) (b2 : ws.length ≤ 90) (nz : NZ ws) (hl : ∀ ws' : List Lk, ws'.length ≤ 100 → (edgesP hs ws').length ≤ 40000) :
    ∃ b e hs' ws', Ev (fun k => ref12_Table_Ask k x hs ws) ((b, (e, ())), ((hs', (ws', ())), ())) ∧ askR hs ws x b e hs' ws' := by
  cases hm : mayP x with
  | false =>
    refine ⟨false, 1, hs, ws, .from 0 fun k => ?_, .inl ⟨hm, rfl, rfl, rfl, rfl⟩⟩
    rw [may_cases, hm]; rfl
  | true =>
  simp only [may_cases, hm]
  have hx0 : x.1 ≠ 0 := by
    unfold mayP at hm
    rw [Bool.and_eq_true] at hm
    simpa using hm.1
  cases hc : hs.any fun h => covP h x with
  | true =>
    refine ⟨true, 0, hs, ws, ?_, .inr (.inl ⟨hm, hc, rfl, rfl, rfl, rfl⟩)⟩
    have key : ∀ d j, j + d = hs.length → (hs.drop j).any (fun h => covP h x) = true → Ev2 (fun k n => ref12_Table_Ask_l0 k n hs (hs.length : Int) (j : Int) hs ws x.1 x.2.1 x.2.2.1 x.2.2.2.1 x.2.2.2.2.1) ((true, ((0 : Int), ())), ((hs, (ws, ())), ())) := by
      intro d
      induction d with
      | zero =>
        intro j hj h
        rw [List.drop_eq_nil_of_le (by omega)] at h; simp at h
      | succ d ih =>
        intro j hj h
        have hlt : j < hs.length := by omega
        have hx : nth hs (j : Int) = some hs[j] := nth_get (List.getElem?_eq_getElem hlt)
        rw [List.drop_eq_getElem_cons hlt, List.any_cons] at h
        generalize hs[j] = w at hx h
        cases hw : covP w x with
        | true =>
          refine .up ⟨0, fun k n _ _ => ?_⟩
          refine (ref12_Table_Ask_l0_eq ..).trans ?_
          rw [bt (by omega), hx, Option.bind_some]
          simp only [rcovers_v, eta5, hw]; rfl
        | false =>
          rw [hw] at h
          obtain ⟨K, hK⟩ := ih (j + 1) (by omega) h
          refine .up ⟨K, fun k n hk hn => ?_⟩
          refine (ref12_Table_Ask_l0_eq ..).trans ?_
          rw [bt (by omega), hx, Option.bind_some]
          simp only [rcovers_v, eta5, hw, wr_suc (show j < 1000000 by omega)]
          exact hK k n hk hn
    exact (key hs.length 0 (by omega) hc).dg
  | false =>
    have hll := leave_len ws x
    have nzl : NZ (leaveP ws x) := fun w hw => nz w (leave_mem hw)
    -- behind the place
    have spec := place_spec x (leaveP ws x)
    have pl := placeI_le (leaveP ws x) x
    obtain ⟨b, e, hs', ws', hE, hR⟩ : ∃ b e hs' ws', Ev2 (fun k n => ref12_Table_Ask_l1 k n (placeI (leaveP ws x) x : Int) hs (leaveP ws x) x.1 x.2.1 x.2.2.1 x.2.2.2.1 x.2.2.2.2.1) ((b, (e, ())), ((hs', (ws', ())), ())) ∧ askR hs ws x b e hs' ws' := by
      generalize hat : placeI (leaveP ws x) x = at_ at spec pl
      have hway := rway_ev x ((leaveP ws x).take at_) hs (leaveP ws x) (by omega) (by rw [List.length_take]; omega)
      cases hw : wayP hs ((leaveP ws x).take at_) x with
      | nil =>
        rw [hw] at hway
        have hl2 := rleave_ev x.1 zeroLk hs (leaveP ws x) (by omega)
        rw [leaveR_0 nzl] at hl2
        refine ⟨true, 0, hs ++ [x], goneP (leaveP ws x) x.1, ?_, .inr (.inr (.inl ⟨hm, hc, by rw [hat]; exact hw, rfl, .inr ⟨by omega, rfl, rfl, rfl⟩⟩))⟩
        obtain ⟨K, hK⟩ := hway
        obtain ⟨K2, hK2⟩ := hl2
        refine .up ⟨Nat.max K K2, fun k n hk hn => ?_⟩
        have k1 := hK k (Nat.le_trans (Nat.le_max_left K K2) hk)
        have k2 := hK2 k (Nat.le_trans (Nat.le_max_right K K2) hk)
        refine (ref12_Table_Ask_l1_eq ..).trans ?_
        have fin : ∀ z : Option ((Bool × Int × Unit) × (List Lk × List Lk × Unit) × Unit), z = some ((true, ((0 : Int), ())), ((hs ++ [x], (goneP (leaveP ws x) x.1, ())), ())) → z = some ((true, ((0 : Int), ())), ((hs ++ [x], (goneP (leaveP ws x) x.1, ())), ())) := fun _ h => h
        have go : ∀ (A : Option (List Lk)), A = some ((leaveP ws x).take at_) → (A.bind fun x1485 => (ref12_Table_way k (x.1, (x.2.1, (x.2.2.1, (x.2.2.2.1, (x.2.2.2.2.1, ()))))) x1485 hs (leaveP ws x)).bind fun r1486 => (bif (decide ((r1486.1.length : Int) = 0)) then (ref12_Table_leave k x.1 ((0 : Int), ((0 : Int), ((0 : Int), ([], ([], ()))))) r1486.2.1.1 r1486.2.1.2.1).bind fun r1487 => (bif (decide (400 ≤ (r1487.2.1.1.length : Int))) then some ((false, ((132 : Int), ())), ((r1487.2.1.1, (r1487.2.1.2.1, ())), ())) else must (beqI (r1487.2.1.1.length : Int) (r1487.2.1.1.length : Int)) ((cut r1487.2.1.1 0 (r1487.2.1.1.length : Int)).bind fun x1488 => lim (x1488.length + ([(x.1, (x.2.1, (x.2.2.1, (x.2.2.2.1, (x.2.2.2.2.1, ())))))] : List Lk).length) (some ((true, ((0 : Int), ())), (((x1488 ++ ([(x.1, (x.2.1, (x.2.2.1, (x.2.2.2.1, (x.2.2.2.2.1, ())))))] : List Lk)), (r1487.2.1.2.1, ())), ()))))) else (bif (decide ((at_ : Int) = (r1486.2.1.2.1.length : Int))) then must (beqI (at_ : Int) at_) ((cut r1486.2.1.2.1 0 (at_ : Int)).bind fun x1489 => lim (x1489.length + ([(x.1, (x.2.1, (x.2.2.1, (x.2.2.2.1, (x.2.2.2.2.1, ())))))] : List Lk).length) (ref12_Table_Ask_j0 k r1486.2.1.1 (x1489 ++ ([(x.1, (x.2.1, (x.2.2.1, (x.2.2.2.1, (x.2.2.2.2.1, ())))))] : List Lk)) x.1 x.2.1 x.2.2.1 x.2.2.2.1 x.2.2.2.2.1)) else ref12_Table_Ask_j0 k r1486.2.1.1 r1486.2.1.2.1 x.1 x.2.1 x.2.2.1 x.2.2.2.1 x.2.2.2.2.1))) = some ((true, ((0 : Int), ())), ((hs ++ [x], (goneP (leaveP ws x) x.1, ())), ())) := by
          rintro A rfl
          refine (bndE k1).trans ?_
          show (ref12_Table_leave k x.1 zeroLk hs (leaveP ws x)).bind _ = _
          refine (bndE k2).trans ?_
          show (bif decide (400 ≤ (hs.length : Int)) then _ else must (beqI _ _) ((cut hs 0 (hs.length : Int)).bind _)) = _
          rw [bf (by omega), cut_tk (Nat.le_refl _), List.take_length, show beqI (hs.length : Int) (hs.length : Int) = true from (beqI_is _ _).2 rfl]
          show lim (hs.length + 1) _ = _
          rw [lim_t (by omega)]
        by_cases hlt : at_ < (leaveP ws x).length
        · rw [bt (by omega), nth_get (List.getElem?_eq_getElem hlt), Option.bind_some, rsame_v, Option.bind_some, spec.2 _ (List.getElem?_eq_getElem hlt)]
          exact go _ (cut_tk pl)
        · rw [bf (by omega)]
          exact go _ (cut_tk pl)
      | cons y ys =>
        rw [hw] at hway
        have hne : inWayP hs (leaveP ws x) x (placeI (leaveP ws x) x) ≠ [] := by rw [inWayP_is, hat, hw]; exact List.cons_ne_nil _ _
        have nzj : NZ (joinP (leaveP ws x) x) := fun w hw => (join_mem hw).elim (nzl w) fun h => by rw [h]; exact hx0
        have jl := join_len (leaveP ws x) x
        obtain ⟨e, ws', hJ, hR⟩ := raskJ_ev hs (joinP (leaveP ws x) x) x (by omega) (by omega) nzj (hl _ (by omega))
        refine ⟨false, e, hs, ws', ?_, .inr (.inr (.inr ⟨hm, hc, hne, rfl, rfl, hR⟩))⟩
        obtain ⟨K, hK⟩ := hway
        obtain ⟨K2, hK2⟩ := hJ
        refine .up ⟨Nat.max K K2, fun k n hk hn => ?_⟩
        have k1 := hK k (Nat.le_trans (Nat.le_max_left K K2) hk)
        have k2 := hK2 k (Nat.le_trans (Nat.le_max_right K K2) hk)
        refine (ref12_Table_Ask_l1_eq ..).trans ?_
        have go : ∀ (A : Option (List Lk)), A = some ((leaveP ws x).take at_) → (A.bind fun x1485 => (ref12_Table_way k (x.1, (x.2.1, (x.2.2.1, (x.2.2.2.1, (x.2.2.2.2.1, ()))))) x1485 hs (leaveP ws x)).bind fun r1486 => (bif (decide ((r1486.1.length : Int) = 0)) then (ref12_Table_leave k x.1 ((0 : Int), ((0 : Int), ((0 : Int), ([], ([], ()))))) r1486.2.1.1 r1486.2.1.2.1).bind fun r1487 => (bif (decide (400 ≤ (r1487.2.1.1.length : Int))) then some ((false, ((132 : Int), ())), ((r1487.2.1.1, (r1487.2.1.2.1, ())), ())) else must (beqI (r1487.2.1.1.length : Int) (r1487.2.1.1.length : Int)) ((cut r1487.2.1.1 0 (r1487.2.1.1.length : Int)).bind fun x1488 => lim (x1488.length + ([(x.1, (x.2.1, (x.2.2.1, (x.2.2.2.1, (x.2.2.2.2.1, ())))))] : List Lk).length) (some ((true, ((0 : Int), ())), (((x1488 ++ ([(x.1, (x.2.1, (x.2.2.1, (x.2.2.2.1, (x.2.2.2.2.1, ())))))] : List Lk)), (r1487.2.1.2.1, ())), ()))))) else (bif (decide ((at_ : Int) = (r1486.2.1.2.1.length : Int))) then must (beqI (at_ : Int) at_) ((cut r1486.2.1.2.1 0 (at_ : Int)).bind fun x1489 => lim (x1489.length + ([(x.1, (x.2.1, (x.2.2.1, (x.2.2.2.1, (x.2.2.2.2.1, ())))))] : List Lk).length) (ref12_Table_Ask_j0 k r1486.2.1.1 (x1489 ++ ([(x.1, (x.2.1, (x.2.2.1, (x.2.2.2.1, (x.2.2.2.2.1, ())))))] : List Lk)) x.1 x.2.1 x.2.2.1 x.2.2.2.1 x.2.2.2.2.1)) else ref12_Table_Ask_j0 k r1486.2.1.1 r1486.2.1.2.1 x.1 x.2.1 x.2.2.1 x.2.2.2.1 x.2.2.2.2.1))) = some ((false, (e, ())), ((hs, (ws', ())), ())) := by
          rintro A rfl
          refine (bndE k1).trans ?_
          show (bif decide (((y :: ys).length : Int) = 0) then _ else (bif decide ((at_ : Int) = ((leaveP ws x).length : Int)) then must (beqI (at_ : Int) at_) ((cut (leaveP ws x) 0 (at_ : Int)).bind _) else ref12_Table_Ask_j0 k hs (leaveP ws x) _ _ _ _ _)) = _
          rw [bf (by simp; omega)]
          by_cases he : at_ = (leaveP ws x).length
          · have ej : joinP (leaveP ws x) x = leaveP ws x ++ [x] := by unfold joinP; rw [if_pos (by omega)]
            rw [ej] at k2
            rw [bt (by omega), cut_tk pl, he, List.take_length, show beqI ((leaveP ws x).length : Int) ((leaveP ws x).length : Int) = true from (beqI_is _ _).2 rfl]
            show lim ((leaveP ws x).length + 1) _ = _
            rw [lim_t (by omega)]
            exact k2
          · have ej : joinP (leaveP ws x) x = leaveP ws x := by unfold joinP; rw [if_neg (by omega)]
            rw [ej] at k2
            rw [bf (by omega)]
            exact k2
        by_cases hlt : at_ < (leaveP ws x).length
        · rw [bt (by omega), nth_get (List.getElem?_eq_getElem hlt), Option.bind_some, rsame_v, Option.bind_some, spec.2 _ (List.getElem?_eq_getElem hlt)]
          exact go _ (cut_tk pl)
        · rw [bf (by omega)]
          exact go _ (cut_tk pl)
    refine ⟨b, e, hs', ws', ?_, hR⟩
    have l1 : ∀ d j, j + d = placeI (leaveP ws x) x → Ev2 (fun k n => ref12_Table_Ask_l1 k n (j : Int) hs (leaveP ws x) x.1 x.2.1 x.2.2.1 x.2.2.2.1 x.2.2.2.2.1) ((b, (e, ())), ((hs', (ws', ())), ())) := by
      intro d
      induction d with
      | zero =>
        intro j hj
        have hj : j = placeI (leaveP ws x) x := by omega
        subst hj
        exact hE
      | succ d ih =>
        intro j hj
        have hlt : j < (leaveP ws x).length := by omega
        have hx := List.getElem?_eq_getElem hlt
        have hs := spec.1 j _ (by omega) hx
        obtain ⟨K, hK⟩ := ih (j + 1) (by omega)
        refine .up ⟨K, fun k n hk hn => ?_⟩
        refine (ref12_Table_Ask_l1_eq ..).trans ?_
        rw [bt (by omega), nth_get hx, Option.bind_some, rsame_v, Option.bind_some, hs, wr_suc (by omega)]
        exact hK k n hk hn
    have key : ∀ d j, j + d = hs.length → (hs.drop j).any (fun h => covP h x) = false → Ev2 (fun k n => ref12_Table_Ask_l0 k n hs (hs.length : Int) (j : Int) hs ws x.1 x.2.1 x.2.2.1 x.2.2.2.1 x.2.2.2.2.1) ((b, (e, ())), ((hs', (ws', ())), ())) := by
      intro d
      induction d with
      | zero =>
        intro j hj h
        have : j = hs.length := by omega
        subst this
        have hl := rleave_ev x.1 x hs ws (by omega)
        rw [leaveR_P] at hl
        obtain ⟨K, hK⟩ := hl
        obtain ⟨K2, hK2⟩ := (l1 (placeI (leaveP ws x) x) 0 (by omega)).dg
        refine .up ⟨Nat.max K K2, fun k n hk hn => ?_⟩
        refine (ref12_Table_Ask_l0_eq ..).trans ?_
        rw [bf (by omega)]
        refine (bndE (hK k (Nat.le_trans (Nat.le_max_left K K2) hk))).trans ?_
        exact hK2 k (Nat.le_trans (Nat.le_max_right K K2) hk)
      | succ d ih =>
        intro j hj h
        have hlt : j < hs.length := by omega
        have hx : nth hs (j : Int) = some hs[j] := nth_get (List.getElem?_eq_getElem hlt)
        rw [List.drop_eq_getElem_cons hlt, List.any_cons, Bool.or_eq_false_iff] at h
        generalize hs[j] = w at hx h
        obtain ⟨K, hK⟩ := ih (j + 1) (by omega) h.2
        refine .up ⟨K, fun k n hk hn => ?_⟩
        refine (ref12_Table_Ask_l0_eq ..).trans ?_
        rw [bt (by omega), hx, Option.bind_some]
        simp only [rcovers_v, eta5, h.1, wr_suc (show j < 1000000 by omega)]
        exact hK k n hk hn
    exact (key hs.length 0 (by omega) hc).dg
/-- What is asked for comes to one thing. -/
theorem askR_det {hs ws : List Lk} {x : Lk} {b b' : Bool} {e e' : Int} {h1 w1 h2 w2 : List Lk} (R : askR hs ws x b e h1 w1) (R' : askR hs ws x b' e' h2 w2) : b = b' ∧ e = e' ∧ h1 = h2 ∧ w1 = w2 := by
  rcases R with ⟨a1, rfl, rfl, rfl, rfl⟩ | ⟨a1, a2, rfl, rfl, rfl, rfl⟩ | ⟨a1, a2, a3, rfl, ⟨a4, rfl, rfl, rfl⟩ | ⟨a4, rfl, rfl, rfl⟩⟩ | ⟨a1, a2, a3, rfl, rfl, ⟨a4, rfl, rfl⟩ | ⟨a4, rfl, rfl⟩⟩ <;>
    rcases R' with ⟨c1, rfl, rfl, rfl, rfl⟩ | ⟨c1, c2, rfl, rfl, rfl, rfl⟩ | ⟨c1, c2, c3, rfl, ⟨c4, rfl, rfl, rfl⟩ | ⟨c4, rfl, rfl, rfl⟩⟩ | ⟨c1, c2, c3, rfl, rfl, ⟨c4, rfl, rfl⟩ | ⟨c4, rfl, rfl⟩⟩ <;>
    first
      | exact ⟨rfl, rfl, rfl, rfl⟩
      | exact absurd (a1.symm.trans c1) (by decide)
      | exact absurd (a2.symm.trans c2) (by decide)
      | exact absurd a3 c3
      | exact absurd c3 a3
      | exact absurd (a4.symm.trans c4) (by decide)
      | omega
theorem NZ.ask {hs ws hs' ws' : List Lk} {x : Lk} {b : Bool} {e : Int} (N : NZ ws) (R : askR hs ws x b e hs' ws') : NZ ws' := by
  have nl : NZ (leaveP ws x) := fun w hw => N w (leave_mem hw)
  have x0 : mayP x = true → x.1 ≠ 0 := fun hm => by
    unfold mayP at hm
    rw [Bool.and_eq_true] at hm
    simpa using hm.1
  have nj : mayP x = true → NZ (joinP (leaveP ws x) x) := fun hm w hw => (join_mem hw).elim (nl w) fun h => by rw [h]; exact x0 hm
  rcases R with ⟨_, _, _, _, rfl⟩ | ⟨_, _, _, _, _, rfl⟩ | ⟨_, _, _, rfl, _⟩ | ⟨hm, _, _, _, _, ⟨_, _, rfl⟩ | ⟨_, _, rfl⟩⟩
  · exact N
  · exact N
  · exact fun w hw => nl w (gone_mem hw)
  · exact fun w hw => nj hm w (gone_mem hw)
  · exact nj hm
theorem NZ.free {ws : List Lk} (N : NZ ws) (t : Int) : NZ (goneP ws t) := fun w hw => N w (gone_mem hw)
theorem fold_add_len (x : Int) : ∀ (r : List Lk) (out : List Eg), (r.foldl (fun out h => addE out (x, (h.1, ()))) out).length ≤ out.length + r.length
  | [], _ => Nat.le_refl _
  | h :: r, out => by
    have h1 := fold_add_len x r (addE out (x, (h.1, ())))
    have h2 := addE_len out (x, (h.1, ()))
    simp only [List.foldl_cons, List.length_cons]
    omega
theorem edgesFrom_len (hs ws : List Lk) (h1 : hs.length ≤ 100) (h2 : ws.length ≤ 100) : ∀ (r : List Lk) (i : Nat) (out : List Eg), (edgesFrom hs ws i r out).length ≤ out.length + r.length * 200
  | [], _, out => by simp [edgesFrom]
  | x :: r, i, out => by
    have ih := edgesFrom_len hs ws h1 h2 r (i + 1) ((inWayP hs ws x i).foldl (fun out h => addE out (x.1, (h.1, ()))) out)
    have hf := fold_add_len x.1 (inWayP hs ws x i) out
    have hw := inWay_len hs ws x i
    simp only [edgesFrom, List.length_cons]
    omega
theorem edges_len (hs ws : List Lk) (h1 : hs.length ≤ 100) (h2 : ws.length ≤ 100) : (edgesP hs ws).length ≤ 40000 := by
  have := edgesFrom_len hs ws h1 h2 ws 0 []
  unfold edgesP
  simp at this
  omega
theorem samell_ev (l : List Lk) (hl : l.length ≤ 1000) : Ev (fun k => ref12_SameLocks k l l) (true, ()) := by
  simp only [ref12_SameLocks_eq]
  have key : ∀ d j, j + d = l.length → Ev2 (fun k n => ref12_SameLocks_l0 k n l l (l.length : Int) (j : Int)) (true, ()) := by
    intro d
    induction d with
    | zero =>
      intro j hj
      have : j = l.length := by omega
      subst this
      refine .up ⟨0, fun k n _ _ => ?_⟩
      refine (ref12_SameLocks_l0_eq ..).trans ?_
      rw [bf (by omega)]
    | succ d ih =>
      intro j hj
      have hlt : j < l.length := by omega
      have hx : nth l (j : Int) = some l[j] := nth_get (List.getElem?_eq_getElem hlt)
      generalize l[j] = w at hx
      obtain ⟨K, hK⟩ := ih (j + 1) (by omega)
      refine .up ⟨K, fun k n hk hn => ?_⟩
      refine (ref12_SameLocks_l0_eq ..).trans ?_
      rw [bt (by omega), hx, Option.bind_some, Option.bind_some, rsame_v, Option.bind_some, show sameP w w = true from (sameP_is w w).2 rfl, wr_suc (by omega)]
      exact hK k n hk hn
  obtain ⟨K, hK⟩ := (key l.length 0 (by omega)).dg
  refine ⟨K, fun k hk => ?_⟩
  show (bif !decide True then _ else _) = _
  rw [dT trivial]
  exact hK k hk
theorem samee_ev (l : List Eg) (hl : l.length ≤ 100000) : Ev (fun k => ref12_SameEdges k l l) (true, ()) := by
  simp only [ref12_SameEdges_eq]
  have key : ∀ d j, j + d = l.length → Ev2 (fun k n => ref12_SameEdges_l0 k n l l (l.length : Int) (j : Int)) (true, ()) := by
    intro d
    induction d with
    | zero =>
      intro j hj
      have : j = l.length := by omega
      subst this
      refine .up ⟨0, fun k n _ _ => ?_⟩
      refine (ref12_SameEdges_l0_eq ..).trans ?_
      rw [bf (by omega)]
    | succ d ih =>
      intro j hj
      have hlt : j < l.length := by omega
      have hx : nth l (j : Int) = some l[j] := nth_get (List.getElem?_eq_getElem hlt)
      generalize l[j] = w at hx
      obtain ⟨K, hK⟩ := ih (j + 1) (by omega)
      refine .up ⟨K, fun k n hk hn => ?_⟩
      refine (ref12_SameEdges_l0_eq ..).trans ?_
      rw [bt (by omega), hx, Option.bind_some, Option.bind_some]
      show (bif !Ty.decEq (.st (.pair (.int .u64) (.pair (.int .u64) .unit))) w w then _ else _) = _
      rw [decE, dT rfl, wr_suc (by omega)]
      exact hK k n hk hn
  obtain ⟨K, hK⟩ := (key l.length 0 (by omega)).dg
  refine ⟨K, fun k hk => ?_⟩
  show (bif !decide True then _ else _) = _
  rw [dT trivial]
  exact hK k hk
theorem does_ev {l : List Dd} (hl : l.length ≤ 40) (hs : ∀ x ∈ l, smL x.2.1) : ∀ (d i nh nw : Nat) (H W : List Lk), i + d = l.length → nh ≤ H.length → nw ≤ W.length → TI (H.take nh) (W.take nw) i → NZ (W.take nw) →
    Ev2 (fun k n => law14_LockDoes_l0 k n l (l.length : Int) (i : Int) nh nw true (H.take nh) (W.take nw) H W) (true, ()) := by
  intro d
  induction d with
  | zero =>
    intro i nh nw H W hi _ _ _ _
    have : i = l.length := by omega
    subst this
    refine .up ⟨0, fun k n _ _ => ?_⟩
    refine (law14_LockDoes_l0_eq ..).trans ?_
    rw [bf (by omega)]
  | succ d ih =>
    intro i nh nw H W hi hH hW TT TN
    have hlt : i < l.length := by omega
    have hx : nth l (i : Int) = some l[i] := nth_get (List.getElem?_eq_getElem hlt)
    have hys := hs l[i] (List.getElem_mem hlt)
    generalize l[i] = y at hx hys
    have tn : (H.take nh).length = nh := by rw [List.length_take, Nat.min_eq_left hH]
    have tw : (W.take nw).length = nw := by rw [List.length_take, Nat.min_eq_left hW]
    have nb := TT.h
    have wb := TT.w
    have after : ∀ (nh nw : Nat) (H W : List Lk), nh ≤ H.length → nw ≤ W.length → TI (H.take nh) (W.take nw) (i + 1) → NZ (W.take nw) →
        Ev2 (fun k n => law14_LockDoes_j0 k n l (l.length : Int) (i : Int) nh nw true (H.take nh) (W.take nw) H W) (true, ()) := by
      intro nh nw H W hH hW TT TN
      have tn : (H.take nh).length = nh := by rw [List.length_take, Nat.min_eq_left hH]
      have tw : (W.take nw).length = nw := by rw [List.length_take, Nat.min_eq_left hW]
      have nb := TT.h
      have wb := TT.w
      have h1 := held_ev (H := H) (W := W) (nh := nh) (nw := nw) hH (by omega) TT.sh
      have h2 := samell_ev (H.take nh) (by omega)
      have h3 := waiting_ev (H := H) (W := W) (nh := nh) (nw := nw) hW (by omega) TT.sw
      have h4 := samell_ev (W.take nw) (by omega)
      obtain ⟨h5, hlen⟩ := edges_ev (H := H) (W := W) (nh := nh) (nw := nw) hH hW (by omega) (by omega)
      have h6 := redges_ev (H.take nh) (W.take nw) (by omega) (by omega)
      have h7 := samee_ev (edgesP (H.take nh) (W.take nw)) (by omega)
      obtain ⟨K, hK⟩ := ih (i + 1) nh nw H W (by omega) hH hW TT TN
      refine .upk ?_
      simp only [law14_LockDoes_j0_eq]
      refine .bind h1.sh.e2 (.bind h2.sh.e2 (.bind h3.sh.e2 (.bind h4.sh.e2 (.bind h5.sh.e2 (.bind h6.sh.e2 (.bind h7.sh.e2 ⟨K, fun k n hk hn => ?_⟩))))))
      show law14_LockDoes_l0 (k + 1) n l (l.length : Int) (wr .i64 ((i : Int) + 1)) nh nw true (H.take nh) (W.take nw) H W = _
      rw [wr_suc (by omega)]
      exact hK (k + 1) n (by omega) hn
    cases hf : y.1 with
    | true =>
      obtain ⟨nh', nw', H', W', hE, g1, g2, g3, g4⟩ := free_ev (H := H) (W := W) y.2.1.1 hH hW (by omega) (by omega)
      have ha := after nh' nw' H' W' g1 g2 (by rw [g3, g4]; exact TT.free _) (by rw [g4]; exact TN.free _)
      have hR := rfree_ev y.2.1.1 (H.take nh) (W.take nw) (by omega) (by omega) TN
      have e1 : (goneP (H.take nh) y.2.1.1).length = nh' := by rw [← g3, List.length_take, Nat.min_eq_left g1]
      rw [e1, tn, ← g3, ← g4] at hR
      obtain ⟨K, hK⟩ := ha
      obtain ⟨K2, hK2⟩ := hE
      obtain ⟨K3, hK3⟩ := hR
      refine .up ⟨Nat.max K (Nat.max K2 K3), fun k n hk hn => ?_⟩
      refine (law14_LockDoes_l0_eq ..).trans ?_
      rw [bt (by omega), hx, Option.bind_some, hf]
      refine (bndE (hK2 k (Nat.le_trans (Nat.le_trans (Nat.le_max_left K2 K3) (Nat.le_max_right K _)) hk))).trans ?_
      refine (bndE (hK3 k (Nat.le_trans (Nat.le_trans (Nat.le_max_right K2 K3) (Nat.le_max_right K _)) hk))).trans ?_
      show (bif !decide ((nh : Int) - (nh' : Int) = (nh : Int) - (nh' : Int)) then _ else law14_LockDoes_j0 k n l (l.length : Int) (i : Int) nh' nw' true (H'.take nh') (W'.take nw') H' W') = _
      rw [dT rfl]
      exact hK k n (Nat.le_trans (Nat.le_max_left K _) hk) (Nat.le_trans (Nat.le_max_left K _) hn)
    | false =>
      obtain ⟨b, e, nh', nw', H', W', hE, g1, g2, R⟩ := ask_ev (H := H) (W := W) y.2.1 hH hW (by omega) (by omega) hys.1 hys.2
      have ha := after nh' nw' H' W' g1 g2 (TT.ask hys R) (TN.ask R)
      obtain ⟨b', e', hs', ws', hR, R'⟩ := rask_ev (hs := H.take nh) (ws := W.take nw) y.2.1 (by omega) (by omega) TN (fun w hw => edges_len _ _ (by omega) hw)
      obtain ⟨rfl, rfl, rfl, rfl⟩ := askR_det R R'
      obtain ⟨K, hK⟩ := ha
      obtain ⟨K2, hK2⟩ := hE
      obtain ⟨K3, hK3⟩ := hR
      refine .up ⟨Nat.max K (Nat.max K2 K3), fun k n hk hn => ?_⟩
      refine (law14_LockDoes_l0_eq ..).trans ?_
      rw [bt (by omega), hx, Option.bind_some, hf]
      refine (bndE (hK2 k (Nat.le_trans (Nat.le_trans (Nat.le_max_left K2 K3) (Nat.le_max_right K _)) hk))).trans ?_
      refine (bndE (hK3 k (Nat.le_trans (Nat.le_trans (Nat.le_max_right K2 K3) (Nat.le_max_right K _)) hk))).trans ?_
      show (bif !beqB b b then _ else bif !decide (e = e) then _ else law14_LockDoes_j0 k n l (l.length : Int) (i : Int) nh' nw' true (H'.take nh') (W'.take nw') H' W') = _
      rw [dT rfl, show beqB b b = true from by simp [beqB]]
      exact hK k n (Nat.le_trans (Nat.le_max_left K _) hk) (Nat.le_trans (Nat.le_max_left K _) hn)
theorem lockDoes_ev {l : List Dd} (hlen : l.length ≤ maxLen) : Ev (fun k => law14_LockDoes k l) (true, ()) := by
  simp only [law14_LockDoes_eq]
  refine .bind awake14 (.bind (few14_ev hlen) ?_)
  cases hf : few14B l l with
  | false => exact .from 0 fun k => rfl
  | true =>
    obtain ⟨h1, h2⟩ := few14_sp hf
    have := (does_ev h1 h2 l.length 0 0 0 [] [] (by omega) (by simp) (by simp) ⟨by simp, by simp, nofun, nofun⟩ nofun).dg
    obtain ⟨K, hK⟩ := this
    refine ⟨K, fun k hk => ?_⟩
    show ((lock_New k).bind _) = _
    rw [lock_New_eq]
    exact hK k hk
theorem LockDoes_true (l : List ((.st (.pair .bool (.pair (.st (.pair (.int .u64) (.pair (.int .i64) (.pair (.int .i64) (.pair (.sl (.int .u8)) (.pair (.sl (.int .u8)) .unit)))))) .unit))) : Ty).D)
    (f : wfD (.sl (.st (.pair .bool (.pair (.st (.pair (.int .u64) (.pair (.int .i64) (.pair (.int .i64) (.pair (.sl (.int .u8)) (.pair (.sl (.int .u8)) .unit)))))) .unit)))) l) : ∃ k, law14_LockDoes k l = some (true, ()) := (lockDoes_ev f.1).ex
end Go.Proofs.Ytgmeimbamfggkaa.Den
