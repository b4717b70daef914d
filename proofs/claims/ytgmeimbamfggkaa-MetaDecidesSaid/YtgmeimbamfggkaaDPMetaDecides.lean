import Derived.Test.YtgmeimbamfggkaaDMetaDecides
import Derived.Test.YtgmeimbamfggkaaDen35
namespace Go.Proofs.Ytgmeimbamfggkaa.Den
open Go Go.RowKit
set_option linter.unusedVariables false
set_option linter.unusedSimpArgs false
abbrev Lk : Type := Int × (Int × (Int × ((List Int) × ((List Int) × Unit))))
theorem clone_v (k : Nat) (l : List Int) : slices_Clone_s_byte_byte k l = lim (0 + l.length) (some (l, ())) := by
  rw [slices_Clone_s_byte_byte_eq]
  cases l with
  | nil => exact twoW_self _
  | cons a l => rfl
theorem own_v (k : Nat) (a : Lk) : lock_own k a = (lim (0 + a.2.2.2.1.length) (lim (0 + a.2.2.2.2.1.length) (some ((a.1, (a.2.1, (a.2.2.1, (a.2.2.2.1, (a.2.2.2.2.1, ()))))), ((a.1, (a.2.1, (a.2.2.1, (a.2.2.2.1, (a.2.2.2.2.1, ()))))), ()))))) := by
  rw [lock_own_eq, clone_v, clone_v]
  unfold lim
  split
  · split <;> rfl
  · rfl
theorem ltLk_asym : ∀ a b, ltL a b = true → ltL b a = false
  | [], [], h => by cases h
  | [], _ :: _, _ => rfl
  | _ :: _, [], h => by cases h
  | a :: x, b :: y, h => by
    have ih := ltLk_asym x y
    unfold ltL at h ⊢
    by_cases c : a < b
    · have : ¬ b < a := by omega
      have : ¬ b = a := by omega
      simp [*]
    · by_cases e : a = b
      · subst e
        simp at h ⊢
        exact ih h
      · simp [c, e] at h
theorem cmp_v : ∀ a b, cmpL a b = if ltL a b then -1 else if ltL b a then 1 else 0
  | [], [] => rfl
  | [], _ :: _ => rfl
  | _ :: _, [] => rfl
  | a :: x, b :: y => by
    have ih := cmp_v x y
    unfold cmpL ltL
    by_cases h : a < b
    · simp [h]
    · by_cases h2 : b < a
      · have : ¬ a = b := by omega
        simp [h, h2, this]
      · have : a = b := by omega
        simp [this, ih]
theorem cmp_gt (a b : List Int) : decide (0 < cmpL a b) = ltL b a := by
  rw [cmp_v]
  cases h : ltL a b with
  | true => rw [ltLk_asym _ _ h]; rfl
  | false => cases ltL b a <;> rfl
theorem cmp_le (a b : List Int) : decide (cmpL a b ≤ 0) = !ltL b a := by
  rw [cmp_v]
  cases h : ltL a b with
  | true => rw [ltLk_asym _ _ h]; rfl
  | false => cases ltL b a <;> rfl
theorem compare_v (k : Nat) (a b : List Int) : bytes_Compare k a b = some (cmpL a b, ()) := by
  rw [bytes_Compare_eq, internal_bytealg_Compare_eq]; rfl
/-- Whether a bound isn't above a key. -/
def endP (hi key : List Int) : Bool := decide (0 < (hi.length : Int)) && !ltL key hi
theorem ends_v (k : Nat) (h y : List Int) : lock_ends k h y = some (endP h y, ()) := by
  rw [lock_ends_eq, compare_v]
  unfold endP
  cases decide (0 < (h.length : Int))
  · rfl
  · show some (decide (cmpL h y ≤ 0), ()) = _
    rw [cmp_le]; rfl
def meetP (a b : Lk) : Bool := decide (a.2.1 = b.2.1) && (!endP a.2.2.2.2.1 b.2.2.2.1 && !endP b.2.2.2.2.1 a.2.2.2.1)
theorem meets_v (k : Nat) (a b : Lk) : lock_meets k a b = some (meetP a b, ()) := by
  rw [lock_meets_eq]
  simp only [ends_v, Option.bind_some]
  unfold meetP
  cases decide (a.2.1 = b.2.1) <;> cases endP a.2.2.2.2.1 b.2.2.2.1 <;> rfl
def apartP (a b : Lk) : Bool := decide (a.1 = b.1) || !meetP a b
theorem apart_v (k : Nat) (a b : Lk) : lock_Apart k a b = some (apartP a b, ()) := by
  rw [lock_Apart_eq]
  simp only [meets_v, Option.bind_some]
  unfold apartP
  cases decide (a.1 = b.1) <;> rfl
theorem mode_v (k : Nat) (m : Int) : lock_mode k m = some (decide (1 ≤ m) && decide (m ≤ 4), ()) := by
  rw [lock_mode_eq]
  cases decide (1 ≤ m) <;> rfl
/-- Modes that fit; the lesser one first. -/
def fit1 (a b : Int) : Bool := bif decide (a < 1) then false else bif decide (4 < b) then false else bif decide (a = 1) then !decide (b = 4) else bif decide (a = 2) then decide (b = 2) else bif decide (a = 3) then decide (b = 3) else false
def fitP (a b : Int) : Bool := bif decide (b < a) then fit1 b a else fit1 a b
theorem fits_v (k : Nat) (a b : Int) : lock_Fits k a b = some (fitP a b, ()) := by
  rw [lock_Fits_eq]
  simp only [mode_v, lock_fits_eq, Option.bind_some]
  by_cases ha : 1 ≤ a ∧ a ≤ 4
  · by_cases hb : 1 ≤ b ∧ b ≤ 4
    · have h1 : a = 1 ∨ a = 2 ∨ a = 3 ∨ a = 4 := by omega
      have h2 : b = 1 ∨ b = 2 ∨ b = 3 ∨ b = 4 := by omega
      rcases h1 with rfl | rfl | rfl | rfl <;> rcases h2 with rfl | rfl | rfl | rfl <;> rfl
    · have e : (decide (1 ≤ b) && decide (b ≤ 4)) = false := by simpa using hb
      rw [e, show (decide (1 ≤ a) && decide (a ≤ 4)) = true by simpa using ha]
      show some (false, ()) = _
      congr 2
      unfold fitP fit1
      by_cases c : b < a
      · rw [dT c]; have : b < 1 := by omega
        rw [dT this]; rfl
      · rw [dF c, dF (show ¬ a < 1 by omega)]
        by_cases c4 : 4 < b
        · rw [dT c4]; rfl
        · exact absurd ⟨by omega, by omega⟩ hb
  · have e : (decide (1 ≤ a) && decide (a ≤ 4)) = false := by simpa using ha
    rw [e]
    show some (false, ()) = _
    congr 2
    unfold fitP fit1
    by_cases c : b < a
    · rw [dT c]
      by_cases c1 : b < 1
      · rw [dT c1]; rfl
      · rw [dF c1, dT (show 4 < a by omega)]; rfl
    · rw [dF c]
      by_cases c1 : a < 1
      · rw [dT c1]; rfl
      · rw [dF c1, dT (show 4 < b by omega)]; rfl
theorem fitP_comm (a b : Int) : fitP a b = fitP b a := by
  unfold fitP
  by_cases c : b < a
  · rw [dT c, dF (show ¬ a < b by omega)]; rfl
  · by_cases c2 : a < b
    · rw [dF c, dT c2]; rfl
    · have : a = b := by omega
      subst this; rfl
def modeC (a b : Int) : Bool := decide (a = b) || (decide (a = 4) || (decide (b = 1) && (decide (a = 3) || decide (a = 2))))
def covP (a b : Lk) : Bool := decide (a.1 = b.1) && (decide (a.2.1 = b.2.1) && (!ltL b.2.2.2.1 a.2.2.2.1 && ((decide ((a.2.2.2.2.1.length : Int) = 0) || (decide (0 < (b.2.2.2.2.1.length : Int)) && !ltL a.2.2.2.2.1 b.2.2.2.2.1)) && modeC a.2.2.1 b.2.2.1)))
theorem pos_dec (l : List Int) : decide (0 < (l.length : Int)) = !decide ((l.length : Int) = 0) := by
  cases l with
  | nil => rfl
  | cons a l => rw [dT (by simp; try omega), dF (by simp; try omega)]; rfl
theorem covers_v (k : Nat) (a b : Lk) : lock_Covers k a b = some (covP a b, ()) := by
  rw [lock_Covers_eq]
  simp only [compare_v, Option.bind_some, cmp_gt, pos_dec]
  unfold covP modeC
  simp only [pos_dec]
  cases decide (a.1 = b.1) <;> (try rfl)
  cases decide (a.2.1 = b.2.1) <;> (try rfl)
  cases ltL b.2.2.2.1 a.2.2.2.1 <;> (try rfl)
  cases decide ((a.2.2.2.2.1.length : Int) = 0) <;> cases decide ((b.2.2.2.2.1.length : Int) = 0) <;> cases ltL a.2.2.2.2.1 b.2.2.2.2.1 <;> (try rfl) <;>
    (cases decide (a.2.2.1 = b.2.2.1) <;> cases decide (a.2.2.1 = 4) <;> cases decide (b.2.2.1 = 1) <;> cases decide (a.2.2.1 = 3) <;> rfl)
attribute [local irreducible] bytes_Compare bytes_Equal internal_bytealg_Compare law15_MetaDecides law15_MetaDecides_l0 law15_MetaDecides_l1 law15_MetaDecides_l2 law15_MetaDecides_l3 law15_Small law15_Small_l0 law15_Small_l1 law15_Small_l2 law15_Small_l3 law15_awake lock_Apart lock_Covers lock_Fits lock_New lock_Table_Ask lock_Table_Ask_1 lock_Table_Ask_2 lock_Table_Ask_j0 lock_Table_Edges lock_Table_Edges_l0 lock_Table_Edges_l1 lock_Table_Free lock_Table_Free_1 lock_Table_inWay lock_Table_inWay_1 lock_Table_inWay_j0 lock_Table_leave_1 lock_Table_leave_1_v2 lock_Table_leave_lock_Table_Ask_2 lock_Table_leave_lock_none lock_Table_ok lock_Table_place lock_Table_place_1 lock_against lock_against_j0 lock_against_l0 lock_against_v2 lock_against_v2_j0 lock_against_v2_l0 lock_ends lock_fits lock_may lock_meets lock_mode lock_none lock_own lock_same meta_Machine_Do meta_Machine_Do_j0 meta_Machine_Do_z meta_Machine_decide meta_Machine_decide_j0 meta_Machine_decide_j1 meta_Machine_lock meta_Machine_ok meta_Machine_one meta_Machine_one_z meta_Machine_status meta_Machine_status_l0 meta_Machine_table meta_Machine_table_1 meta_Machine_txn meta_New meta_copied meta_copied_l0 meta_copied_one meta_copied_v2 meta_copied_v2_l0 meta_failed meta_may meta_may_l0 meta_may_l1 slices_Clone_Col_Col slices_Clone_Col_Col_row slices_Clone_Table_Table slices_Clone_Table_Table_one slices_Clone_Table_Table_v2 slices_Clone_s_byte_byte slices_Clone_s_int_int slices_Clone_s_int_int_row slices_ContainsFunc_Lock_Lock_lock_Table_Ask_1 slices_ContainsFunc_Lock_Lock_lock_Table_inWay_1 slices_ContainsFunc_Table_Table_meta_Machine_table_1 slices_DeleteFunc_Lock_Lock_lock_Table_Free_1 slices_DeleteFunc_Lock_Lock_lock_Table_Free_1_j0 slices_DeleteFunc_Lock_Lock_lock_Table_Free_1_l0 slices_DeleteFunc_Lock_Lock_lock_Table_leave_1 slices_DeleteFunc_Lock_Lock_lock_Table_leave_1_j0 slices_DeleteFunc_Lock_Lock_lock_Table_leave_1_l0 slices_DeleteFunc_Lock_Lock_lock_Table_leave_1_v2 slices_DeleteFunc_Lock_Lock_lock_Table_leave_1_v2_j0 slices_DeleteFunc_Lock_Lock_lock_Table_leave_1_v2_l0 slices_IndexFunc_Lock_Lock_lock_Table_Ask_1 slices_IndexFunc_Lock_Lock_lock_Table_Ask_1_l0 slices_IndexFunc_Lock_Lock_lock_Table_Free_1 slices_IndexFunc_Lock_Lock_lock_Table_Free_1_l0 slices_IndexFunc_Lock_Lock_lock_Table_inWay_1 slices_IndexFunc_Lock_Lock_lock_Table_inWay_1_l0 slices_IndexFunc_Lock_Lock_lock_Table_leave_1 slices_IndexFunc_Lock_Lock_lock_Table_leave_1_l0 slices_IndexFunc_Lock_Lock_lock_Table_leave_1_v2 slices_IndexFunc_Lock_Lock_lock_Table_leave_1_v2_l0 slices_IndexFunc_Lock_Lock_lock_Table_place_1 slices_IndexFunc_Lock_Lock_lock_Table_place_1_l0 slices_IndexFunc_Table_Table_meta_Machine_table_1 slices_IndexFunc_Table_Table_meta_Machine_table_1_l0 slices_Reverse_s_uint64_uint64 slices_Reverse_s_uint64_uint64_l0 wait_Cycle wait_Cycle_round wait_Cycle_round_l0 wait_walk wait_walk_1 wait_walk_1_j0 wait_walk_1_l0 wait_walk_1_l1
theorem wr_suc {j : Nat} (h : j < 1000000) : wr .i64 ((j : Int) + 1) = ((j + 1 : Nat) : Int) := by
  rw [wr_i64 (by omega)]; omega
theorem must_tr {α : Type} (x : Option α) : must true x = x := rfl
/-- The place of the first that is so. -/
theorem idx_ev {α ρ : Type} {L : Nat → Nat → Int → Option ρ} {W : List α} {c : Nat} {p : α → Bool} {A : Int → ρ} {B : ρ} (hc : c ≤ W.length)
    (hs : ∀ k n (j : Nat) x, j < c → W[j]? = some x → L k (n + 1) (j : Int) = bif p x then some (A (j : Int)) else L k n ((j + 1 : Nat) : Int))
    (hd : ∀ k n, L k (n + 1) (c : Int) = some B) : ∀ d j, j + d = c → Ev2 (fun k n => L k n (j : Int)) (match ((W.take c).drop j).findIdx? p with | some i => A ((j + i : Nat) : Int) | none => B) := by
  intro d
  induction d with
  | zero =>
    intro j hj
    have : j = c := by omega
    subst this
    rw [List.drop_eq_nil_of_le (by rw [List.length_take]; omega)]
    exact .up ⟨0, fun k n _ _ => hd k n⟩
  | succ d ih =>
    intro j hj
    have hlt : j < W.length := by omega
    have hx : W[j]? = some W[j] := List.getElem?_eq_getElem hlt
    have hdr : (W.take c).drop j = W[j] :: (W.take c).drop (j + 1) := by
      rw [List.drop_eq_getElem_cons (by rw [List.length_take]; omega)]
      simp
    rw [hdr, List.findIdx?_cons]
    refine .up ?_
    cases hp : p W[j] with
    | true =>
      refine ⟨0, fun k n _ _ => ?_⟩
      show L k (n + 1) (j : Int) = _
      rw [hs k n j _ (by omega) hx, hp]; rfl
    | false =>
      obtain ⟨K, hK⟩ := ih (j + 1) (by omega)
      refine ⟨K, fun k n hk hn => ?_⟩
      show L k (n + 1) (j : Int) = _
      rw [hs k n j _ (by omega) hx, hp]
      show L k n _ = _
      rw [show L k n ((j + 1 : Nat) : Int) = _ from hK k n hk hn]
      cases ((W.take c).drop (j + 1)).findIdx? p with
      | none => rfl
      | some i => show some (A _) = some (A _); congr 3; show j + 1 + i = j + (i + 1); omega
/-- Those that are so go; those that stay move up. -/
theorem del_ev {ρ : Type} {L : Nat → Nat → Int → Int → List Lk → Option ρ} {c : Nat} {p : Lk → Bool} {R : Nat → List Lk → ρ} {z : Lk}
    (hs : ∀ k n (i j : Nat) W x, i ≤ j → j < c → c ≤ W.length → W[j]? = some x → L (k + 1) (n + 1) (i : Int) (j : Int) W = bif p x then L (k + 1) n (i : Int) ((j + 1 : Nat) : Int) W else L (k + 1) n ((i + 1 : Nat) : Int) ((j + 1 : Nat) : Int) (W.set i x))
    (hd : ∀ k n (i : Nat) W, i ≤ c → c ≤ W.length → L k (n + 1) (i : Int) (c : Int) W = some (R i (lay W i (List.replicate (c - i) z)))) :
    ∀ d (j i : Nat) W, j + d = c → i ≤ j → c ≤ W.length → ∃ i' W', Ev2 (fun k n => L k n (i : Int) (j : Int) W) (R i' W') ∧ i' ≤ W'.length ∧ W'.take i' = W.take i ++ ((W.take c).drop j).filter (fun x => !p x) := by
  intro d
  induction d with
  | zero =>
    intro j i W hj hi hc
    have : j = c := by omega
    subst this
    refine ⟨i, lay W i (List.replicate (j - i) z), .up ⟨0, fun k n _ _ => hd k n i W hi hc⟩, ?_, ?_⟩
    · unfold lay; simp; omega
    · rw [List.drop_eq_nil_of_le (by rw [List.length_take]; omega)]
      unfold lay
      rw [List.append_assoc, List.take_append_of_le_length (by rw [List.length_take]; omega), List.take_take]
      simp
  | succ d ih =>
    intro j i W hj hi hc
    have hlt : j < W.length := by omega
    have hx : W[j]? = some W[j] := List.getElem?_eq_getElem hlt
    have hdr : (W.take c).drop j = W[j] :: (W.take c).drop (j + 1) := by
      rw [List.drop_eq_getElem_cons (by rw [List.length_take]; omega)]
      simp
    rw [hdr, List.filter_cons]
    cases hp : p W[j] with
    | true =>
      obtain ⟨i', W', hE, h1, h2⟩ := ih (j + 1) i W (by omega) (by omega) hc
      refine ⟨i', W', .up (.upk ?_), h1, by simpa using h2⟩
      obtain ⟨K, hK⟩ := hE
      refine ⟨K, fun k n hk hn => ?_⟩
      show L (k + 1) (n + 1) (i : Int) (j : Int) W = _
      rw [hs k n i j W _ hi (by omega) hc hx, hp]
      exact hK (k + 1) n (by omega) hn
    | false =>
      obtain ⟨i', W', hE, h1, h2⟩ := ih (j + 1) (i + 1) (W.set i W[j]) (by omega) (by omega) (by rw [List.length_set]; exact hc)
      refine ⟨i', W', .up (.upk ?_), h1, ?_⟩
      · obtain ⟨K, hK⟩ := hE
        refine ⟨K, fun k n hk hn => ?_⟩
        show L (k + 1) (n + 1) (i : Int) (j : Int) W = _
        rw [hs k n i j W _ hi (by omega) hc hx, hp]
        exact hK (k + 1) n (by omega) hn
      · rw [h2]
        have e1 : (W.set i W[j]).take (i + 1) = W.take i ++ [W[j]] := by
          rw [List.take_add_one, List.getElem?_set_self (by omega), List.take_set_of_le (Nat.le_refl _)]
          rfl
        have e2 : ((W.set i W[j]).take c).drop (j + 1) = (W.take c).drop (j + 1) := by
          rw [List.take_set, List.drop_set_of_lt (by omega)]
        rw [e1, e2]
        simp
theorem ask1c_v (k : Nat) (h : Lk) (a b c : Int) (d e : List Int) : lock_Table_Ask_1 k h a b c d e = some (covP h (a, (b, (c, (d, (e, ()))))), ((a, (b, (c, (d, (e, ()))))), ())) := by
  rw [lock_Table_Ask_1_eq, covers_v]; rfl
theorem inway1_v (k : Nat) (h : Lk) (a b c : Int) (d e : List Int) : lock_Table_inWay_1 k h a b c d e = some (decide (h.1 = a) && meetP h (a, (b, (c, (d, (e, ()))))), ((a, (b, (c, (d, (e, ()))))), ())) := by
  rw [lock_Table_inWay_1_eq, meets_v]
  cases decide (h.1 = a) <;> rfl
def sameP (a b : Lk) : Bool := decide (a.1 = b.1) && (decide (a.2.1 = b.2.1) && (decide (a.2.2.1 = b.2.2.1) && (beqL a.2.2.2.1 b.2.2.2.1 && beqL a.2.2.2.2.1 b.2.2.2.2.1)))
theorem same_v (k : Nat) (a b : Lk) : lock_same k a b = some (sameP a b, ()) := by
  rw [lock_same_eq]
  simp only [bytes_Equal_eq, Option.bind_some]
  unfold sameP
  cases decide (a.1 = b.1) <;> cases decide (a.2.1 = b.2.1) <;> cases decide (a.2.2.1 = b.2.2.1) <;> cases beqL a.2.2.2.1 b.2.2.2.1 <;> rfl
theorem place1_v (k : Nat) (h : Lk) (a b c : Int) (d e : List Int) : lock_Table_place_1 k h a b c d e = some (sameP h (a, (b, (c, (d, (e, ()))))), ((a, (b, (c, (d, (e, ()))))), ())) := by
  rw [lock_Table_place_1_eq, same_v]; rfl
theorem leave1_v (k : Nat) (h : Lk) (t a b c : Int) (d e : List Int) : lock_Table_leave_1 k h t a b c d e = some (decide (h.1 = t) && !sameP h (a, (b, (c, (d, (e, ()))))), ((t, ()), ((((), ()), ()), ((a, (b, (c, (d, (e, ()))))), ())))) := by
  rw [lock_Table_leave_1_eq, lock_Table_Ask_2_eq, same_v]
  cases decide (h.1 = t) <;> rfl
theorem leave2_v (k : Nat) (h : Lk) (t : Int) : lock_Table_leave_1_v2 k h t = some (decide (h.1 = t), ((t, ()), (((), ()), ()))) := by
  rw [lock_Table_leave_1_v2_eq, lock_none_eq]
  cases decide (h.1 = t) <;> rfl
theorem find_any (p : Lk → Bool) (l : List Lk) : (l.findIdx? p).isSome = l.any p := List.findIdx?_isSome
theorem hasCov_ev {W : List Lk} {c : Nat} (x : Lk) (hc : c ≤ W.length) (hb : c ≤ 100000) :
    Ev (fun k => slices_ContainsFunc_Lock_Lock_lock_Table_Ask_1 k c W x.1 x.2.1 x.2.2.1 x.2.2.2.1 x.2.2.2.2.1) ((W.take c).any (fun h => covP h x), ((W, ()), ((x.1, (x.2.1, (x.2.2.1, (x.2.2.2.1, (x.2.2.2.2.1, ()))))), ()))) := by
  simp only [slices_ContainsFunc_Lock_Lock_lock_Table_Ask_1_eq, slices_IndexFunc_Lock_Lock_lock_Table_Ask_1_eq]
  have h := (idx_ev (L := fun k n i => slices_IndexFunc_Lock_Lock_lock_Table_Ask_1_l0 k n c ((c : Nat) : Int) i W x.1 x.2.1 x.2.2.1 x.2.2.2.1 x.2.2.2.2.1) (W := W) (c := c) (p := fun h => covP h x)
    (A := fun i => (i, ((W, ()), ((x.1, (x.2.1, (x.2.2.1, (x.2.2.2.1, (x.2.2.2.2.1, ()))))), ())))) (B := ((-1 : Int), ((W, ()), ((x.1, (x.2.1, (x.2.2.1, (x.2.2.2.1, (x.2.2.2.2.1, ()))))), ())))) hc
    (fun k n j y hj hy => by
      show slices_IndexFunc_Lock_Lock_lock_Table_Ask_1_l0 k (n + 1) _ _ _ _ _ _ _ _ _ = _
      rw [slices_IndexFunc_Lock_Lock_lock_Table_Ask_1_l0_eq, bt (by omega), inI_t (by omega) (by omega), must_tr, Nat.zero_add, Int.toNat_natCast, hy, Option.bind_some, ask1c_v, Option.bind_some, wr_suc (by omega)])
    (fun k n => by
      show slices_IndexFunc_Lock_Lock_lock_Table_Ask_1_l0 k (n + 1) _ _ _ _ _ _ _ _ _ = _
      rw [slices_IndexFunc_Lock_Lock_lock_Table_Ask_1_l0_eq, bf (by omega)]) c 0 (by omega)).dg
  refine .bind h (.from 0 fun k => ?_)
  rw [List.drop_zero, ← find_any]
  cases (W.take c).findIdx? fun h => covP h x with
  | none => rfl
  | some i => show some (decide (0 ≤ ((0 + i : Nat) : Int)), _) = _; rw [dT (by omega)]; rfl
theorem filt_none {p : Lk → Bool} {l : List Lk} (h : l.findIdx? p = none) : l.filter (fun x => !p x) = l := by
  rw [List.filter_eq_self]
  intro x hx
  rw [List.findIdx?_eq_none_iff] at h
  simp [h x hx]
theorem filt_some {p : Lk → Bool} : ∀ {l : List Lk} {i : Nat}, l.findIdx? p = some i → i < l.length ∧ l.filter (fun x => !p x) = l.take i ++ (l.drop (i + 1)).filter (fun x => !p x)
  | [], i, h => by simp at h
  | x :: l, i, h => by
    rw [List.findIdx?_cons] at h
    cases hp : p x with
    | true =>
      rw [hp] at h
      cases h
      simp [hp]
    | false =>
      rw [hp] at h
      obtain ⟨j, h1, rfl⟩ := Option.map_eq_some_iff.1 (show (l.findIdx? p).map (fun i => i + 1) = some i from h)
      obtain ⟨k1, k2⟩ := filt_some h1
      refine ⟨by simp; omega, ?_⟩
      rw [List.filter_cons, hp]
      simp [k2]
/-- All of a row's part that is so is deleted. -/
theorem delF_ev {σ ρ : Type} {I : Nat → Option σ} {D : Nat → Option ρ} {L : Nat → Nat → Int → Int → List Lk → Option ρ} {W : List Lk} {c : Nat} {p : Lk → Bool} (RI : Int → σ) (R : Nat → List Lk → ρ) {z : Lk} (hc : c ≤ W.length)
    (hI : Ev I (match ((W.take c).drop 0).findIdx? p with | some i => RI ((0 + i : Nat) : Int) | none => RI (-1)))
    {G : Nat → σ → Option ρ} (hD : ∀ k, D k = (I k).bind (G k)) (hG1 : ∀ k, G k (RI (-1)) = some (R c W)) (hG2 : ∀ k (i : Nat), i < c → G k (RI (i : Int)) = L k k (i : Int) ((i + 1 : Nat) : Int) W)
    (hs : ∀ k n (i j : Nat) W x, i ≤ j → j < c → c ≤ W.length → W[j]? = some x → L (k + 1) (n + 1) (i : Int) (j : Int) W = bif p x then L (k + 1) n (i : Int) ((j + 1 : Nat) : Int) W else L (k + 1) n ((i + 1 : Nat) : Int) ((j + 1 : Nat) : Int) (W.set i x))
    (hd : ∀ k n (i : Nat) W, i ≤ c → c ≤ W.length → L k (n + 1) (i : Int) (c : Int) W = some (R i (lay W i (List.replicate (c - i) z)))) :
    ∃ (n : Nat) (W' : List Lk), Ev D (R n W') ∧ n ≤ W'.length ∧ W'.take n = (W.take c).filter (fun x => !p x) := by
  have hD' : D = fun k => (I k).bind (G k) := funext hD
  subst hD'
  cases hf : (W.take c).findIdx? p with
  | none =>
    rw [List.drop_zero, hf] at hI
    exact ⟨c, W, .bind hI (.from 0 fun k => hG1 k), hc, (filt_none hf).symm⟩
  | some i =>
    rw [List.drop_zero, hf] at hI
    obtain ⟨hi, h2⟩ := filt_some hf
    have hi : i < c := by rw [List.length_take] at hi; omega
    obtain ⟨i', W', hE, h3, h4⟩ := del_ev (L := L) (c := c) (p := p) (R := R) (z := z) hs hd (c - (i + 1)) (i + 1) i W (by omega) (by omega) hc
    refine ⟨i', W', .bind hI ?_, h3, ?_⟩
    · obtain ⟨K, hK⟩ := hE.dg
      refine ⟨K, fun k hk => ?_⟩
      show G k (RI ((0 + i : Nat) : Int)) = _
      rw [Nat.zero_add, hG2 k i hi]
      exact hK k hk
    · rw [h4, h2, List.take_take, Nat.min_eq_left (by omega)]
theorem eta5 (y : Lk) : (y.1, (y.2.1, (y.2.2.1, (y.2.2.2.1, (y.2.2.2.2.1, ()))))) = y := rfl
theorem leaveS_ev {W : List Lk} {c : Nat} (t : Int) (x : Lk) (nh : Nat) (m : Bool) (H : List Lk) (hc : c ≤ W.length) (hb : c ≤ 100000) :
    ∃ (n : Nat) (W' : List Lk), Ev (fun k => lock_Table_leave_lock_Table_Ask_2 k t nh c m x.1 x.2.1 x.2.2.1 x.2.2.2.1 x.2.2.2.2.1 H W) ((), ((nh, (n, (m, ()))), ((x.1, (x.2.1, (x.2.2.1, (x.2.2.2.1, (x.2.2.2.2.1, ()))))), ((H, ()), ((W', ()), ()))))) ∧
      n ≤ W'.length ∧ W'.take n = (W.take c).filter (fun w => !(decide (w.1 = t) && !sameP w x)) := by
  have hI := (idx_ev (L := fun k n i => slices_IndexFunc_Lock_Lock_lock_Table_leave_1_l0 k n c ((c : Nat) : Int) i W t x.1 x.2.1 x.2.2.1 x.2.2.2.1 x.2.2.2.2.1) (W := W) (c := c) (p := fun w => decide (w.1 = t) && !sameP w x)
    (A := fun i => (i, ((W, ()), ((t, ()), ((((), ()), ()), ((x.1, (x.2.1, (x.2.2.1, (x.2.2.2.1, (x.2.2.2.2.1, ()))))), ())))))) (B := ((-1 : Int), ((W, ()), ((t, ()), ((((), ()), ()), ((x.1, (x.2.1, (x.2.2.1, (x.2.2.2.1, (x.2.2.2.2.1, ()))))), ())))))) hc
    (fun k n j y hj hy => by
      show slices_IndexFunc_Lock_Lock_lock_Table_leave_1_l0 k (n + 1) _ _ _ _ _ _ _ _ _ _ = _
      rw [slices_IndexFunc_Lock_Lock_lock_Table_leave_1_l0_eq, bt (by omega), inI_t (by omega) (by omega), must_tr, Nat.zero_add, Int.toNat_natCast, hy, Option.bind_some, leave1_v, Option.bind_some, wr_suc (by omega)])
    (fun k n => by
      show slices_IndexFunc_Lock_Lock_lock_Table_leave_1_l0 k (n + 1) _ _ _ _ _ _ _ _ _ _ = _
      rw [slices_IndexFunc_Lock_Lock_lock_Table_leave_1_l0_eq, bf (by omega)]) c 0 (by omega)).dg
  obtain ⟨n, W', h1, h2, h3⟩ := delF_ev (D := fun k => slices_DeleteFunc_Lock_Lock_lock_Table_leave_1 k c W t x.1 x.2.1 x.2.2.1 x.2.2.2.1 x.2.2.2.2.1) (p := fun w => decide (w.1 = t) && !sameP w x)
    (L := fun k n i j W => slices_DeleteFunc_Lock_Lock_lock_Table_leave_1_l0 k n c i j W t x.1 x.2.1 x.2.2.1 x.2.2.2.1 x.2.2.2.2.1)
    (fun i => (i, ((W, ()), ((t, ()), ((((), ()), ()), ((x.1, (x.2.1, (x.2.2.1, (x.2.2.2.1, (x.2.2.2.2.1, ()))))), ()))))))
    (fun i W => (i, ((W, ()), ((t, ()), ((((), ()), ()), ((x.1, (x.2.1, (x.2.2.1, (x.2.2.2.1, (x.2.2.2.2.1, ()))))), ())))))) hc hI
    (G := fun k r => bif (decide (r.1 = (-1))) then some (c, ((r.2.1.1, ()), ((r.2.2.1.1, ()), ((((), ()), ()), ((r.2.2.2.2.1.1, (r.2.2.2.2.1.2.1, (r.2.2.2.2.1.2.2.1, (r.2.2.2.2.1.2.2.2.1, (r.2.2.2.2.1.2.2.2.2.1, ()))))), ()))))) else slices_DeleteFunc_Lock_Lock_lock_Table_leave_1_l0 k k c r.1 (wr .i64 (r.1 + 1)) r.2.1.1 r.2.2.1.1 r.2.2.2.2.1.1 r.2.2.2.2.1.2.1 r.2.2.2.2.1.2.2.1 r.2.2.2.2.1.2.2.2.1 r.2.2.2.2.1.2.2.2.2.1)
    (fun k => by rw [slices_DeleteFunc_Lock_Lock_lock_Table_leave_1_eq, slices_IndexFunc_Lock_Lock_lock_Table_leave_1_eq]; rfl) (fun k => rfl)
    (fun k i hi => by
      show (bif decide ((i : Int) = -1) then _ else slices_DeleteFunc_Lock_Lock_lock_Table_leave_1_l0 k k c (i : Int) (wr .i64 ((i : Int) + 1)) W t x.1 x.2.1 x.2.2.1 x.2.2.2.1 x.2.2.2.2.1) = _
      rw [bf (by omega), wr_suc (by omega)])
    (fun k n i j W y hij hj hl hy => by
      show slices_DeleteFunc_Lock_Lock_lock_Table_leave_1_l0 (k + 1) (n + 1) _ _ _ _ _ _ _ _ _ _ = _
      rw [slices_DeleteFunc_Lock_Lock_lock_Table_leave_1_l0_eq, bt (by omega), inI_t (by omega) (by omega), must_tr, Nat.zero_add, Int.toNat_natCast, hy, Option.bind_some, leave1_v, Option.bind_some]
      simp only [slices_DeleteFunc_Lock_Lock_lock_Table_leave_1_j0_eq, inI_t (j := (i : Int)) (n := c) (by omega) (by omega), must_tr, Nat.zero_add, Int.toNat_natCast, blt_t (show i < W.length by omega), wr_suc (show i < 1000000 by omega), wr_suc (show j < 1000000 by omega), eta5]
      cases (decide (y.1 = t) && !sameP y x) <;> rfl)
    (fun k n i W hi hl => by
      show slices_DeleteFunc_Lock_Lock_lock_Table_leave_1_l0 k (n + 1) _ _ _ _ _ _ _ _ _ _ = _
      rw [slices_DeleteFunc_Lock_Lock_lock_Table_leave_1_l0_eq, bf (by omega), inC_t (by omega) (by omega) (by omega), must_tr, inC_t (by omega) (by omega) (by omega), must_tr, Nat.zero_add, Int.toNat_natCast])
  refine ⟨n, W', ?_, h2, h3⟩
  simp only [lock_Table_leave_lock_Table_Ask_2_eq]
  exact .bind h1 (.from 0 fun k => rfl)
theorem leaveN_ev {W : List Lk} {c : Nat} (t : Int) (nh : Nat) (m : Bool) (H : List Lk) (hc : c ≤ W.length) (hb : c ≤ 100000) :
    ∃ (n : Nat) (W' : List Lk), Ev (fun k => lock_Table_leave_lock_none k t nh c m H W) ((), ((nh, (n, (m, ()))), ((H, ()), ((W', ()), ())))) ∧
      n ≤ W'.length ∧ W'.take n = (W.take c).filter (fun w => !decide (w.1 = t)) := by
  have hI := (idx_ev (L := fun k n i => slices_IndexFunc_Lock_Lock_lock_Table_leave_1_v2_l0 k n c ((c : Nat) : Int) i W t) (W := W) (c := c) (p := fun w => decide (w.1 = t))
    (A := fun i => (i, ((W, ()), ((t, ()), (((), ()), ()))))) (B := ((-1 : Int), ((W, ()), ((t, ()), (((), ()), ()))))) hc
    (fun k n j y hj hy => by
      show slices_IndexFunc_Lock_Lock_lock_Table_leave_1_v2_l0 k (n + 1) _ _ _ _ _ = _
      rw [slices_IndexFunc_Lock_Lock_lock_Table_leave_1_v2_l0_eq, bt (by omega), inI_t (by omega) (by omega), must_tr, Nat.zero_add, Int.toNat_natCast, hy, Option.bind_some, leave2_v, Option.bind_some, wr_suc (by omega)])
    (fun k n => by
      show slices_IndexFunc_Lock_Lock_lock_Table_leave_1_v2_l0 k (n + 1) _ _ _ _ _ = _
      rw [slices_IndexFunc_Lock_Lock_lock_Table_leave_1_v2_l0_eq, bf (by omega)]) c 0 (by omega)).dg
  obtain ⟨n, W', h1, h2, h3⟩ := delF_ev (D := fun k => slices_DeleteFunc_Lock_Lock_lock_Table_leave_1_v2 k c W t) (p := fun w => decide (w.1 = t))
    (L := fun k n i j W => slices_DeleteFunc_Lock_Lock_lock_Table_leave_1_v2_l0 k n c i j W t)
    (fun i => (i, ((W, ()), ((t, ()), (((), ()), ())))))
    (fun i W => (i, ((W, ()), ((t, ()), (((), ()), ()))))) hc hI
    (G := fun k r => bif (decide (r.1 = (-1))) then some (c, ((r.2.1.1, ()), ((r.2.2.1.1, ()), (((), ()), ())))) else slices_DeleteFunc_Lock_Lock_lock_Table_leave_1_v2_l0 k k c r.1 (wr .i64 (r.1 + 1)) r.2.1.1 r.2.2.1.1)
    (fun k => by rw [slices_DeleteFunc_Lock_Lock_lock_Table_leave_1_v2_eq, slices_IndexFunc_Lock_Lock_lock_Table_leave_1_v2_eq]; rfl) (fun k => rfl)
    (fun k i hi => by
      show (bif decide ((i : Int) = -1) then _ else slices_DeleteFunc_Lock_Lock_lock_Table_leave_1_v2_l0 k k c (i : Int) (wr .i64 ((i : Int) + 1)) W t) = _
      rw [bf (by omega), wr_suc (by omega)])
    (fun k n i j W y hij hj hl hy => by
      show slices_DeleteFunc_Lock_Lock_lock_Table_leave_1_v2_l0 (k + 1) (n + 1) _ _ _ _ _ = _
      rw [slices_DeleteFunc_Lock_Lock_lock_Table_leave_1_v2_l0_eq, bt (by omega), inI_t (by omega) (by omega), must_tr, Nat.zero_add, Int.toNat_natCast, hy, Option.bind_some, leave2_v, Option.bind_some]
      simp only [slices_DeleteFunc_Lock_Lock_lock_Table_leave_1_v2_j0_eq, inI_t (j := (i : Int)) (n := c) (by omega) (by omega), must_tr, Nat.zero_add, Int.toNat_natCast, blt_t (show i < W.length by omega), wr_suc (show i < 1000000 by omega), wr_suc (show j < 1000000 by omega), eta5]
      cases decide (y.1 = t) <;> rfl)
    (fun k n i W hi hl => by
      show slices_DeleteFunc_Lock_Lock_lock_Table_leave_1_v2_l0 k (n + 1) _ _ _ _ _ = _
      rw [slices_DeleteFunc_Lock_Lock_lock_Table_leave_1_v2_l0_eq, bf (by omega), inC_t (by omega) (by omega) (by omega), must_tr, inC_t (by omega) (by omega) (by omega), must_tr, Nat.zero_add, Int.toNat_natCast])
  refine ⟨n, W', ?_, h2, h3⟩
  simp only [lock_Table_leave_lock_none_eq]
  exact .bind h1 (.from 0 fun k => rfl)
theorem hasOwn_ev {W : List Lk} {c : Nat} (x : Lk) (hc : c ≤ W.length) (hb : c ≤ 100000) :
    Ev (fun k => slices_ContainsFunc_Lock_Lock_lock_Table_inWay_1 k c W x.1 x.2.1 x.2.2.1 x.2.2.2.1 x.2.2.2.2.1) ((W.take c).any (fun h => decide (h.1 = x.1) && meetP h x), ((W, ()), ((x.1, (x.2.1, (x.2.2.1, (x.2.2.2.1, (x.2.2.2.2.1, ()))))), ()))) := by
  simp only [slices_ContainsFunc_Lock_Lock_lock_Table_inWay_1_eq, slices_IndexFunc_Lock_Lock_lock_Table_inWay_1_eq]
  have h := (idx_ev (L := fun k n i => slices_IndexFunc_Lock_Lock_lock_Table_inWay_1_l0 k n c ((c : Nat) : Int) i W x.1 x.2.1 x.2.2.1 x.2.2.2.1 x.2.2.2.2.1) (W := W) (c := c) (p := fun h => decide (h.1 = x.1) && meetP h x)
    (A := fun i => (i, ((W, ()), ((x.1, (x.2.1, (x.2.2.1, (x.2.2.2.1, (x.2.2.2.2.1, ()))))), ())))) (B := ((-1 : Int), ((W, ()), ((x.1, (x.2.1, (x.2.2.1, (x.2.2.2.1, (x.2.2.2.2.1, ()))))), ())))) hc
    (fun k n j y hj hy => by
      show slices_IndexFunc_Lock_Lock_lock_Table_inWay_1_l0 k (n + 1) _ _ _ _ _ _ _ _ _ = _
      rw [slices_IndexFunc_Lock_Lock_lock_Table_inWay_1_l0_eq, bt (by omega), inI_t (by omega) (by omega), must_tr, Nat.zero_add, Int.toNat_natCast, hy, Option.bind_some, inway1_v, Option.bind_some, wr_suc (by omega)])
    (fun k n => by
      show slices_IndexFunc_Lock_Lock_lock_Table_inWay_1_l0 k (n + 1) _ _ _ _ _ _ _ _ _ = _
      rw [slices_IndexFunc_Lock_Lock_lock_Table_inWay_1_l0_eq, bf (by omega)]) c 0 (by omega)).dg
  refine .bind h (.from 0 fun k => ?_)
  rw [List.drop_zero, ← find_any]
  cases (W.take c).findIdx? fun h => decide (h.1 = x.1) && meetP h x with
  | none => rfl
  | some i => show some (decide (0 ≤ ((0 + i : Nat) : Int)), _) = _; rw [dT (by omega)]; rfl
def placeI (ws : List Lk) (x : Lk) : Nat := match ws.findIdx? fun w => sameP w x with
  | some i => i
  | none => ws.length
theorem place_ev {W : List Lk} {c : Nat} (x : Lk) (nh : Nat) (m : Bool) (H : List Lk) (hc : c ≤ W.length) (hb : c ≤ 100000) :
    Ev (fun k => lock_Table_place k x nh c m H W) ((placeI (W.take c) x : Int), ((nh, (c, (m, ()))), ((H, ()), ((W, ()), ())))) := by
  simp only [lock_Table_place_eq, slices_IndexFunc_Lock_Lock_lock_Table_place_1_eq]
  have h := (idx_ev (L := fun k n i => slices_IndexFunc_Lock_Lock_lock_Table_place_1_l0 k n c ((c : Nat) : Int) i W x.1 x.2.1 x.2.2.1 x.2.2.2.1 x.2.2.2.2.1) (W := W) (c := c) (p := fun h => sameP h x)
    (A := fun i => (i, ((W, ()), ((x.1, (x.2.1, (x.2.2.1, (x.2.2.2.1, (x.2.2.2.2.1, ()))))), ())))) (B := ((-1 : Int), ((W, ()), ((x.1, (x.2.1, (x.2.2.1, (x.2.2.2.1, (x.2.2.2.2.1, ()))))), ())))) hc
    (fun k n j y hj hy => by
      show slices_IndexFunc_Lock_Lock_lock_Table_place_1_l0 k (n + 1) _ _ _ _ _ _ _ _ _ = _
      rw [slices_IndexFunc_Lock_Lock_lock_Table_place_1_l0_eq, bt (by omega), inI_t (by omega) (by omega), must_tr, Nat.zero_add, Int.toNat_natCast, hy, Option.bind_some, place1_v, Option.bind_some, wr_suc (by omega)])
    (fun k n => by
      show slices_IndexFunc_Lock_Lock_lock_Table_place_1_l0 k (n + 1) _ _ _ _ _ _ _ _ _ = _
      rw [slices_IndexFunc_Lock_Lock_lock_Table_place_1_l0_eq, bf (by omega)]) c 0 (by omega)).dg
  refine .bind h (.from 0 fun k => ?_)
  rw [List.drop_zero]
  unfold placeI
  cases (W.take c).findIdx? fun h => sameP h x with
  | none =>
    rw [List.length_take, Nat.min_eq_left hc]
    rfl
  | some i =>
    show (bif decide (((0 + i : Nat) : Int) < 0) then _ else some (((0 + i : Nat) : Int), _)) = _
    rw [bf (by omega), Nat.zero_add]
/-- What stands in the way. -/
def againstP (l : List Lk) (x : Lk) : List Lk := l.filter fun h => !apartP h x && !fitP h.2.2.1 x.2.2.1
theorem lim_t {α : Type} {n : Nat} {x : Option α} (h : n ≤ 68719476736) : lim n x = x := if_pos h
theorem against_ev {W : List Lk} {c : Nat} (x : Lk) (hc : c ≤ W.length) (hb : c ≤ 100000) : Ev (fun k => lock_against_v2 k c x W) (againstP (W.take c) x, ((W, ()), ())) := by
  simp only [lock_against_v2_eq]
  have key : ∀ d j (b : Bool) (acc : List Lk), j + d = c → acc.length ≤ j → Ev2 (fun k n => lock_against_v2_l0 k n b acc c ((c : Nat) : Int) (j : Int) W x.1 x.2.1 x.2.2.1 x.2.2.2.1 x.2.2.2.2.1) (acc ++ againstP ((W.take c).drop j) x, ((W, ()), ())) := by
    intro d
    induction d with
    | zero =>
      intro j b acc hj ha
      have : j = c := by omega
      subst this
      rw [List.drop_eq_nil_of_le (by rw [List.length_take]; omega)]
      refine .up ⟨0, fun k n _ _ => ?_⟩
      show lock_against_v2_l0 k (n + 1) _ _ _ _ _ _ _ _ _ _ _ = _
      rw [lock_against_v2_l0_eq, bf (by omega)]
      simp [againstP]
    | succ d ih =>
      intro j b acc hj ha
      have hlt : j < W.length := by omega
      have hx : W[j]? = some W[j] := List.getElem?_eq_getElem hlt
      have hdr : (W.take c).drop j = W[j] :: (W.take c).drop (j + 1) := by
        rw [List.drop_eq_getElem_cons (by rw [List.length_take]; omega)]
        simp
      have stp : ∀ k n, lock_against_v2_l0 (k + 1) (n + 1) b acc c ((c : Nat) : Int) (j : Int) W x.1 x.2.1 x.2.2.1 x.2.2.2.1 x.2.2.2.2.1 =
          bif (!apartP W[j] x && !fitP W[j].2.2.1 x.2.2.1) then lock_against_v2_l0 (k + 1) n (b && false) (acc ++ [W[j]]) c ((c : Nat) : Int) ((j + 1 : Nat) : Int) W x.1 x.2.1 x.2.2.1 x.2.2.2.1 x.2.2.2.2.1
          else lock_against_v2_l0 (k + 1) n b acc c ((c : Nat) : Int) ((j + 1 : Nat) : Int) W x.1 x.2.1 x.2.2.1 x.2.2.2.1 x.2.2.2.2.1 := by
        intro k n
        rw [lock_against_v2_l0_eq, bt (by omega), inI_t (by omega) (by omega), must_tr, Nat.zero_add, Int.toNat_natCast, hx, Option.bind_some]
        simp only [apart_v, fits_v, Option.bind_some, lock_against_v2_j0_eq, wr_suc (show j < 1000000 by omega), eta5]
        rw [lim_t (by simp; omega)]
        cases apartP W[j] x <;> cases fitP W[j].2.2.1 x.2.2.1 <;> rfl
      rw [hdr]
      unfold againstP
      rw [List.filter_cons]
      refine .up (.upk ?_)
      cases hp : (!apartP W[j] x && !fitP W[j].2.2.1 x.2.2.1) with
      | true =>
        obtain ⟨K, hK⟩ := ih (j + 1) (b && false) (acc ++ [W[j]]) (by omega) (by simp; omega)
        refine ⟨K, fun k n hk hn => ?_⟩
        show lock_against_v2_l0 (k + 1) (n + 1) _ _ _ _ _ _ _ _ _ _ _ = _
        rw [stp, hp]
        have := hK (k + 1) n (by omega) hn
        rw [List.append_assoc] at this
        exact this
      | false =>
        obtain ⟨K, hK⟩ := ih (j + 1) b acc (by omega) (by omega)
        refine ⟨K, fun k n hk hn => ?_⟩
        show lock_against_v2_l0 (k + 1) (n + 1) _ _ _ _ _ _ _ _ _ _ _ = _
        rw [stp, hp]
        exact hK (k + 1) n (by omega) hn
  have := (key c 0 true [] (by omega) (by simp)).dg
  rw [List.drop_zero] at this
  exact this
theorem lookM_same {kt : Ty} {α : Type} (hd : ∀ x y : kt.D, kt.decEq x y = true ↔ x = y) : ∀ (l : List (kt.D × α)) (y : kt.D) (z : α), lookM kt (setM kt l y z) y = some z
  | [], y, z => by
    show (bif kt.decEq y y then _ else _) = _
    rw [(hd y y).2 rfl]; rfl
  | e :: r, y, z => by
    unfold setM
    cases h : kt.decEq y e.1 with
    | true => show (bif kt.decEq y y then _ else _) = _; rw [(hd y y).2 rfl]; rfl
    | false =>
      show (bif kt.decEq y e.1 then some e.2 else lookM kt (setM kt r y z) y) = some z
      rw [h]; exact lookM_same hd r y z
theorem lookM_ne {kt : Ty} {α : Type} (hd : ∀ x y : kt.D, kt.decEq x y = true ↔ x = y) : ∀ (l : List (kt.D × α)) (y y' : kt.D) (z : α), y' ≠ y → lookM kt (setM kt l y z) y' = lookM kt l y'
  | [], y, y', z, h => by
    show (bif kt.decEq y' y then _ else _) = _
    have : kt.decEq y' y = false := by rw [← Bool.not_eq_true, hd]; exact h
    rw [this]; rfl
  | e :: r, y, y', z, h => by
    unfold setM
    cases he : kt.decEq y e.1 with
    | true =>
      have e1 : y = e.1 := (hd _ _).1 he
      have : kt.decEq y' y = false := by rw [← Bool.not_eq_true, hd]; exact h
      show (bif kt.decEq y' y then some z else lookM kt r y') = (bif kt.decEq y' e.1 then some e.2 else lookM kt r y')
      rw [← e1, this]; rfl
    | false =>
      show (bif kt.decEq y' e.1 then some e.2 else lookM kt (setM kt r y z) y') = (bif kt.decEq y' e.1 then some e.2 else lookM kt r y')
      rw [lookM_ne hd r y y' z h]
theorem beqI_is (a b : Int) : beqI a b = true ↔ a = b := by simp [beqI]
theorem hdU (x y : (Ty.int .u64).D) : (Ty.int .u64).decEq x y = true ↔ x = y := beqI_is x y
theorem rev_ev : ∀ (d i j : Nat) (W : List Int), j ≤ i + d → j < W.length → W.length ≤ 100000 → ∃ W', Ev2 (fun k n => slices_Reverse_s_uint64_uint64_l0 k n (i : Int) (j : Int) W) ((), ((W', ()), ())) ∧ W'.length = W.length
  | d, i, j, W, hd, hj, hl => by
    by_cases h : i < j
    · cases d with
      | zero => omega
      | succ d =>
        have hi : i < W.length := by omega
        have x1 : W[j]? = some W[j] := List.getElem?_eq_getElem hj
        have x2 : W[i]? = some W[i] := List.getElem?_eq_getElem hi
        obtain ⟨W', hE, hl'⟩ := rev_ev d (i + 1) (j - 1) ((W.set i W[j]).set j W[i]) (by omega) (by simp; omega) (by simpa using hl)
        refine ⟨W', .up ?_, by rw [hl']; simp⟩
        obtain ⟨K, hK⟩ := hE
        refine ⟨K, fun k n hk hn => ?_⟩
        show slices_Reverse_s_uint64_uint64_l0 k (n + 1) _ _ _ = _
        rw [slices_Reverse_s_uint64_uint64_l0_eq, bt (by omega), inI_t (by omega) (by omega), must_tr, Int.toNat_natCast, x1, Option.bind_some, inI_t (by omega) (by omega), must_tr, Int.toNat_natCast, x2, Option.bind_some, must_tr, blt_t hi, must_tr,
          inI_t (by omega) (by simp; omega), must_tr, blt_t (by simp; omega), must_tr, wr_suc (by omega), wr_i64 (by omega), show (j : Int) - 1 = ((j - 1 : Nat) : Int) by omega]
        exact hK k n hk hn
    · refine ⟨W, .up ⟨0, fun k n _ _ => ?_⟩, rfl⟩
      show slices_Reverse_s_uint64_uint64_l0 k (n + 1) _ _ _ = _
      rw [slices_Reverse_s_uint64_uint64_l0_eq, bf (by omega)]
/-- A node from which the parents lead to the begin. -/
def Dp (by_ : List (Int × Int)) (from_ : Int) : Nat → Int → Prop
  | 0, n => n = from_
  | d + 1, n => n = from_ ∨ ∃ p, lookM (.int .u64) by_ n = some p ∧ Dp by_ from_ d p
theorem Dp.up {b : List (Int × Int)} {f : Int} : ∀ {d : Nat} {n : Int}, Dp b f d n → Dp b f (d + 1) n
  | 0, n, h => .inl h
  | d + 1, n, h => by
    rcases h with h | ⟨p, h1, h2⟩
    · exact .inl h
    · exact .inr ⟨p, h1, h2.up⟩
theorem Dp.set {b : List (Int × Int)} {f v q : Int} (hv : lookM (.int .u64) b v = none) : ∀ {d : Nat} {n : Int}, Dp b f d n → Dp (setM (.int .u64) b v q) f d n
  | 0, n, h => h
  | d + 1, n, h => by
    rcases h with h | ⟨p, h1, h2⟩
    · exact .inl h
    · refine .inr ⟨p, ?_, Dp.set hv h2⟩
      rw [lookM_ne hdU b v n q (fun e => by rw [e, hv] at h1; cases h1)]
      exact h1
theorem way_ev (f : Int) (wy : List Int) (b : List (Int × Int)) : ∀ (d : Nat) (n : Int) (acc : List Int), Dp b f d n → acc.length + d ≤ 90000 →
    ∃ r, Ev2 (fun k m => wait_Cycle_round_l0 k m n wait_Cycle_rj f wy b acc) r ∧ ∃ x, r = Sum.inr x ∧ x.2.2.2.2.2.2.1.1 ≠ [] := by
  have fin : ∀ (n : Int) (acc : List Int), n = f → acc.length ≤ 90000 → ∃ r, Ev2 (fun k m => wait_Cycle_round_l0 k m n wait_Cycle_rj f wy b acc) r ∧ ∃ x, r = Sum.inr x ∧ x.2.2.2.2.2.2.1.1 ≠ [] := by
    intro n acc hn hl
    obtain ⟨W', hE, hl'⟩ := rev_ev (acc ++ [f]).length 0 ((acc ++ [f]).length - 1) (acc ++ [f]) (by omega) (by simp) (by simp; omega)
    have hE := hE.dg
    obtain ⟨K, hK⟩ := hE
    have hz : (acc ++ [f]).length = acc.length + 1 := by simp
    have stp : ∃ x, (∀ k m, K ≤ k → wait_Cycle_round_l0 k (m + 1) n wait_Cycle_rj f wy b acc = some (Sum.inr x)) ∧ x.2.2.2.2.2.2.1.1 = W' := by
      apply Exists.intro
      apply And.intro
      · intro k m hk
        rw [wait_Cycle_round_l0_eq, dT hn]
        show lim _ _ = _
        rw [lim_t (by simp; omega), slices_Reverse_s_uint64_uint64_eq, wr_i64 (by omega), show ((acc ++ [f]).length : Int) - 1 = (((acc ++ [f]).length - 1 : Nat) : Int) by omega]
        have hk' : slices_Reverse_s_uint64_uint64_l0 k k (0 : Int) (((acc ++ [f]).length - 1 : Nat) : Int) (acc ++ [f]) = some ((), ((W', ()), ())) := hK k hk
        rw [hk']
        rfl
      · rfl
    obtain ⟨x, h1, h2⟩ := stp
    refine ⟨Sum.inr x, .up ⟨K, fun k m hk _ => h1 k m hk⟩, x, rfl, fun e => ?_⟩
    rw [h2] at e
    rw [e] at hl'
    simp at hl'
  intro d
  induction d with
  | zero => intro n acc h hl; exact fin n acc h (by omega)
  | succ d ih =>
    intro n acc h hl
    by_cases hn : n = f
    · exact fin n acc hn (by omega)
    · rcases h with h | ⟨p, h1, h2⟩
      · exact absurd h hn
      · obtain ⟨r, hE, hx⟩ := ih p (acc ++ [n]) h2 (by simp; omega)
        refine ⟨r, .up ?_, hx⟩
        obtain ⟨K, hK⟩ := hE
        refine ⟨K, fun k m hk hm => ?_⟩
        show wait_Cycle_round_l0 k (m + 1) _ _ _ _ _ _ = _
        rw [wait_Cycle_round_l0_eq, dF hn]
        show lim _ _ = _
        rw [lim_t (by simp; omega), h1]
        exact hK k m hk hm
theorem lkI_same {α : Type} (l : List (Int × α)) (y : Int) (z : α) : lookM (.int .u64) (setM (.int .u64) l y z) y = some z := lookM_same hdU l y z
theorem lkI_ne {α : Type} (l : List (Int × α)) (y y' : Int) (z : α) (h : y' ≠ y) : lookM (.int .u64) (setM (.int .u64) l y z) y' = lookM (.int .u64) l y' := lookM_ne hdU l y y' z h
abbrev Eg : Type := Int × (Int × Unit)
/-- How many edges lead to where nobody was. -/
def freshN (met : List (Int × Bool)) (l : List Eg) : Nat := (l.filter fun e => !(lookM (.int .u64) met e.2.1).getD false).length
theorem fresh_dec {met : List (Int × Bool)} {l : List Eg} {e : Eg} (he : e ∈ l) (h : (lookM (.int .u64) met e.2.1).getD false = false) : freshN (setM (.int .u64) met e.2.1 true) l + 1 ≤ freshN met l := by
  unfold freshN
  have sub : ∀ (l : List Eg), (l.filter fun e' => !(lookM (.int .u64) (setM (.int .u64) met e.2.1 true) e'.2.1).getD false).length ≤ (l.filter fun e => !(lookM (.int .u64) met e.2.1).getD false).length := by
    intro l
    induction l with
    | nil => exact Nat.le_refl _
    | cons x l ih =>
      rw [List.filter_cons, List.filter_cons]
      by_cases hx : x.2.1 = e.2.1
      · rw [hx, lkI_same, h]
        simp only [Option.getD_some, Bool.not_true, Bool.not_false, if_true, Bool.false_eq_true, if_false, List.length_cons]
        omega
      · rw [lkI_ne _ _ _ _ hx]
        split <;> first | (simp only [List.length_cons]; omega) | omega
  induction l with
  | nil => cases he
  | cons x l ih =>
    rw [List.filter_cons, List.filter_cons]
    by_cases hx : x.2.1 = e.2.1
    · rw [hx, lkI_same, h]
      simp only [Option.getD_some, Bool.not_true, Bool.not_false, if_true, Bool.false_eq_true, if_false, List.length_cons]
      have := sub l
      omega
    · have he' : e ∈ l := by
        rcases List.mem_cons.1 he with rfl | h'
        · exact absurd rfl hx
        · exact h'
      have := ih he'
      rw [lkI_ne _ _ _ _ hx]
      split <;> first | (simp only [List.length_cons]; omega) | omega
/-- What holds all along. -/
structure Wk (f : Int) (b : List (Int × Int)) (met : List (Int × Bool)) (q : List Int) (D : Nat) : Prop where
  dp : ∀ n ∈ q, Dp b f D n
  key : ∀ n, (lookM (.int .u64) met n).getD false = false → lookM (.int .u64) b n = none
theorem edge_eq (a b c : Int) : Ty.decEq (.st (.pair (.int .u64) (.pair (.int .u64) .unit))) ((a, (b, ())) : Eg) ((a, (c, ())) : Eg) = decide (b = c) := by
  show (beqI a a && (beqI b c && true)) = _
  have : beqI a a = true := (beqI_is a a).2 rfl
  rw [this]
  by_cases h : b = c
  · subst h; simp [beqI]
  · simp [beqI, h]
theorem round_ring (k : Nat) (e : Eg) {f : Int} (wy : List Int) (b : List (Int × Int)) (h : e.2.1 = f) : wait_Cycle_round k (e.1, (e.2.1, ())) wait_Cycle_rj f wy b = wait_Cycle_round_l0 k k e.1 wait_Cycle_rj f wy (setM (.int .u64) b e.2.1 e.1) [] := by
  rw [wait_Cycle_round_eq]
  show (bif !(Ty.decEq (.st (.pair (.int .u64) (.pair (.int .u64) .unit))) ((e.1, (e.2.1, ())) : Eg) ((e.1, (f, ())) : Eg)) then _ else _) = _
  rw [edge_eq, dT h]; rfl
theorem round_on (e : Eg) {f : Int} (wy : List Int) (b : List (Int × Int)) (h : e.2.1 ≠ f) : ∃ x, (∀ k, wait_Cycle_round k (e.1, (e.2.1, ())) wait_Cycle_rj f wy b = some (Sum.inl x)) ∧ x.2.1.1 = wait_Cycle_rj ∧ x.2.2.1.1 = f ∧ x.2.2.2.1.1 = wy ∧ x.2.2.2.2.2.1.1 = setM (.int .u64) b e.2.1 e.1 := by
  apply Exists.intro
  apply And.intro
  · intro k
    rw [wait_Cycle_round_eq]
    show (bif !(Ty.decEq (.st (.pair (.int .u64) (.pair (.int .u64) .unit))) ((e.1, (e.2.1, ())) : Eg) ((e.1, (f, ())) : Eg)) then _ else _) = _
    rw [edge_eq, dF h]; rfl
  · exact ⟨rfl, rfl, rfl, rfl⟩
theorem walk_ev (f : Int) (l : List Eg) (hl : l.length ≤ 40000) : ∀ (u : Nat) (q : List Int) (fl : Bool) (b : List (Int × Int)) (met : List (Int × Bool)) (D : Nat), q.length + freshN met l ≤ u → D + freshN met l ≤ 50000 → q.length + freshN met l ≤ 50000 → Wk f b met q D →
    ∃ r, Ev2 (fun k n => wait_walk_1_l0 k n fl q wait_Cycle_rj f l f [] b met) r ∧ ∀ x, r = Sum.inl x → x.2.2.2.2.2.2.2.2.1.1 ≠ [] := by
  intro u
  induction u with
  | zero =>
    intro q fl b met D hu _ _ _
    have hq : q = [] := List.eq_nil_of_length_eq_zero (by omega)
    subst hq
    have stp : ∃ x, ∀ k n, wait_walk_1_l0 k (n + 1) fl [] wait_Cycle_rj f l f [] b met = some (Sum.inr x) := by
      apply Exists.intro
      intro k n
      rw [wait_walk_1_l0_eq]
      rfl
    obtain ⟨x, hx⟩ := stp
    exact ⟨Sum.inr x, .up ⟨0, fun k n _ _ => hx k n⟩, fun y hy => by cases hy⟩
  | succ u ih =>
    intro q fl b met D hu hD hq W
    cases q with
    | nil =>
      have stp : ∃ x, ∀ k n, wait_walk_1_l0 k (n + 1) fl [] wait_Cycle_rj f l f [] b met = some (Sum.inr x) := by
        apply Exists.intro
        intro k n
        rw [wait_walk_1_l0_eq]
        rfl
      obtain ⟨x, hx⟩ := stp
      exact ⟨Sum.inr x, .up ⟨0, fun k n _ _ => hx k n⟩, fun y hy => by cases hy⟩
    | cons c q =>
      -- the edges, one by one
      have inner : ∀ (d j : Nat) (q : List Int) (fl : Bool) (b : List (Int × Int)) (met : List (Int × Bool)) (D : Nat), j + d = l.length → q.length + 1 + freshN met l ≤ u + 1 → D + freshN met l ≤ 50000 → q.length + 1 + freshN met l ≤ 50000 → Wk f b met (c :: q) D →
          ∃ r, Ev3 (fun k n m => wait_walk_1_l1 k n m fl (c :: q) l (l.length : Int) (j : Int) wait_Cycle_rj f l f [] b met) r ∧ ∀ x, r = Sum.inl x → x.2.2.2.2.2.2.2.2.1.1 ≠ [] := by
        intro d
        induction d with
        | zero =>
          intro j q fl b met D hj hu hD hq W
          have hj : j = l.length := by omega
          subst hj
          obtain ⟨r, hE, hr⟩ := ih q fl b met D (by omega) hD (by omega) ⟨fun n hn => W.dp n (List.mem_cons_of_mem _ hn), W.key⟩
          refine ⟨r, .up ?_, hr⟩
          obtain ⟨K, hK⟩ := hE
          refine ⟨K, fun k n m hk hn hm => ?_⟩
          show wait_walk_1_l1 k n (m + 1) _ _ _ _ _ _ _ _ _ _ _ _ = _
          rw [wait_walk_1_l1_eq, bf (by omega)]
          have hc : cut (c :: q) (1 : Int) ((c :: q).length : Int) = some q := by
            have := cut_from (l := c :: q) (n := 1) (by simp)
            simpa using this
          rw [hc]
          exact hK k n hk hn
        | succ d ihd =>
          intro j q fl b met D hj hu hD hq W
          have hlt : j < l.length := by omega
          have hx : nth l (j : Int) = some l[j] := nth_get (List.getElem?_eq_getElem hlt)
          have h0 : nth (c :: q) (0 : Int) = some c := nth_get (j := 0) rfl
          generalize hee : l[j] = e at hx
          have hmem : e ∈ l := by rw [← hee]; exact List.getElem_mem hlt
          have skip : (e.1 ≠ c ∨ (lookM (.int .u64) met e.2.1).getD false = true) → ∃ r, Ev3 (fun k n m => wait_walk_1_l1 k n m fl (c :: q) l (l.length : Int) (j : Int) wait_Cycle_rj f l f [] b met) r ∧ ∀ x, r = Sum.inl x → x.2.2.2.2.2.2.2.2.1.1 ≠ [] := by
            intro hs
            obtain ⟨r, hE, hr⟩ := ihd (j + 1) q fl b met D (by omega) hu hD hq W
            refine ⟨r, .up ?_, hr⟩
            obtain ⟨K, hK⟩ := hE
            refine ⟨K, fun k n m hk hn hm => ?_⟩
            show wait_walk_1_l1 k n (m + 1) _ _ _ _ _ _ _ _ _ _ _ _ = _
            rw [wait_walk_1_l1_eq, bt (by omega), hx, Option.bind_some, h0, Option.bind_some, wr_suc (by omega)]
            by_cases h1 : e.1 = c
            · rw [dT h1]
              rcases hs with hs | hs
              · exact absurd h1 hs
              · rw [hs]; exact hK k n m hk hn hm
            · rw [dF h1]; exact hK k n m hk hn hm
          by_cases h1 : e.1 = c
          case neg => exact skip (.inl h1)
          cases h2 : (lookM (.int .u64) met e.2.1).getD false with
          | true => exact skip (.inr h2)
          | false =>
            have hdec := fresh_dec hmem h2
            have hnew := W.key _ h2
            have hcd : Dp b f D e.1 := by rw [h1]; exact W.dp c (List.mem_cons_self ..)
            by_cases h3 : e.2.1 = f
            · -- a ring
              obtain ⟨r, ⟨K, hK⟩, x, rfl, hx2⟩ := way_ev f [] (setM (.int .u64) b e.2.1 e.1) D e.1 [] (hcd.set hnew) (by simp; omega)
              have stp : ∃ y, (∀ k n m, K ≤ k → wait_walk_1_l1 k n (m + 1) fl (c :: q) l (l.length : Int) (j : Int) wait_Cycle_rj f l f [] b met = some (Sum.inl y)) ∧ y.2.2.2.2.2.2.2.2.1.1 = x.2.2.2.2.2.2.1.1 := by
                apply Exists.intro
                apply And.intro
                · intro k n m hk
                  rw [wait_walk_1_l1_eq, bt (by omega), hx, Option.bind_some, h0, Option.bind_some, dT h1, h2, round_ring k e [] b h3]
                  show ((wait_Cycle_round_l0 k k e.1 wait_Cycle_rj f [] (setM (.int .u64) b e.2.1 e.1) []).bind _) = _
                  rw [show wait_Cycle_round_l0 k k e.1 wait_Cycle_rj f [] (setM (.int .u64) b e.2.1 e.1) [] = some (Sum.inr x) from hK k k hk hk]
                  rfl
                · rfl
              obtain ⟨y, hy1, hy2⟩ := stp
              refine ⟨Sum.inl y, .up ⟨K, fun k n m hk _ _ => hy1 k n m hk⟩, fun z hz => ?_⟩
              cases hz
              rw [hy2]; exact hx2
            · have W2 : Wk f (setM (.int .u64) b e.2.1 e.1) (setM (.int .u64) met e.2.1 true) (c :: (q ++ [e.2.1])) (D + 1) := by
                refine ⟨fun n hn => ?_, fun n hn => ?_⟩
                · rw [← List.cons_append] at hn
                  rcases List.mem_append.1 hn with hn | hn
                  · exact ((W.dp n hn).set hnew).up
                  · rw [List.mem_singleton] at hn
                    subst hn
                    exact .inr ⟨e.1, lkI_same _ _ _, hcd.set hnew⟩
                · by_cases hne : n = e.2.1
                  · subst hne; rw [lkI_same] at hn; cases hn
                  · rw [lkI_ne _ _ _ _ hne] at hn ⊢
                    exact W.key n hn
              obtain ⟨r, hE, hr⟩ := ihd (j + 1) (q ++ [e.2.1]) (fl && [e.2.1].isEmpty) _ _ (D + 1) (by omega) (by simp; omega) (by omega) (by simp; omega) W2
              refine ⟨r, .up (.upk ?_), hr⟩
              obtain ⟨K, hK⟩ := hE
              obtain ⟨x, x1, x2, x3, x4, x5⟩ := round_on e [] b h3
              refine ⟨K, fun k n m hk hn hm => ?_⟩
              show wait_walk_1_l1 (k + 1) n (m + 1) _ _ _ _ _ _ _ _ _ _ _ _ = _
              rw [wait_walk_1_l1_eq, bt (by omega), hx, Option.bind_some, h0, Option.bind_some, dT h1, h2, x1]
              show (bif !decide (e.2.1 = f) then lim _ _ else _) = _
              rw [dF h3]
              show lim _ _ = _
              rw [lim_t (by simp; omega)]
              refine (wait_walk_1_j0_eq ..).trans ?_
              rw [wr_suc (by omega), x2, x3, x4, x5]
              exact hK (k + 1) n m (by omega) hn hm
      obtain ⟨r, hE, hr⟩ := inner l.length 0 q fl b met D (by omega) (by simpa using hu) hD (by simpa using hq) W
      refine ⟨r, .up ?_, hr⟩
      obtain ⟨K, hK⟩ := hE.dg
      refine ⟨K, fun k n hk hn => ?_⟩
      show wait_walk_1_l0 k (n + 1) _ _ _ _ _ _ _ _ _ = _
      rw [wait_walk_1_l0_eq, bt (by simp; try omega)]
      exact hK k n hk hn
/-- The search for a ring comes to an end. -/
theorem cycle_ev (l : List Eg) (f : Int) (hl : l.length ≤ 40000) : (∃ x, Ev (fun k => wait_Cycle k l f) (Sum.inl x) ∧ x.2.2.1.1 ≠ []) ∨ Ev (fun k => wait_Cycle k l f) (Sum.inr ((true, []), (((true, []), ()), ()))) := by
  have hf : freshN [] l ≤ l.length := List.length_filter_le ..
  obtain ⟨r, hE, hr⟩ := walk_ev f l hl (1 + freshN [] l) [f] false [] [] 0 (by simp) (by omega) (by simp; omega) ⟨fun n hn => by rw [List.mem_singleton] at hn; exact hn, fun n _ => rfl⟩
  obtain ⟨K, hK⟩ := hE.dg
  cases r with
  | inl x =>
    left
    have stp : ∃ y, (∀ k, K ≤ k → wait_Cycle k l f = some (Sum.inl y)) ∧ y.2.2.1.1 = x.2.2.2.2.2.2.2.2.1.1 := by
      apply Exists.intro
      apply And.intro
      · intro k hk
        rw [wait_Cycle_eq, wait_walk_eq]
        show ((wait_walk_1 k wait_Cycle_rj f l f [] []).bind _) = _
        rw [wait_walk_1_eq, show wait_walk_1_l0 k k false [f] wait_Cycle_rj f l f [] [] [] = some (Sum.inl x) from hK k hk]
        rfl
      · rfl
    obtain ⟨y, h1, h2⟩ := stp
    exact ⟨y, ⟨K, h1⟩, by rw [h2]; exact hr x rfl⟩
  | inr x =>
    right
    refine ⟨K, fun k hk => ?_⟩
    show wait_Cycle k l f = _
    rw [wait_Cycle_eq, wait_walk_eq]
    show ((wait_walk_1 k wait_Cycle_rj f l f [] []).bind _) = _
    rw [wait_walk_1_eq, show wait_walk_1_l0 k k false [f] wait_Cycle_rj f l f [] [] [] = some (Sum.inr x) from hK k hk]
    rfl
theorem Ev.sh {α : Type} {F : Nat → Option α} {r : α} (h : Ev F r) : Ev (fun k => F (k + 1)) r := by
  obtain ⟨K, hK⟩ := h
  exact ⟨K, fun k hk => hK (k + 1) (by omega)⟩
def inWayP (hs ws : List Lk) (x : Lk) (at_ : Nat) : List Lk := bif hs.any (fun h => decide (h.1 = x.1) && meetP h x) then againstP hs x else againstP hs x ++ againstP (ws.take at_) x
theorem against_len (l : List Lk) (x : Lk) : (againstP l x).length ≤ l.length := List.length_filter_le ..
theorem inWay_len (hs ws : List Lk) (x : Lk) (at_ : Nat) : (inWayP hs ws x at_).length ≤ hs.length + ws.length := by
  unfold inWayP
  have h1 := against_len hs x
  have h2 := against_len (ws.take at_) x
  have h3 : (ws.take at_).length ≤ ws.length := by rw [List.length_take]; omega
  cases hs.any _
  · simp only [cond_false, List.length_append]; omega
  · simp only [cond_true]; omega
theorem inWay_ev {H W : List Lk} {nh nw at_ : Nat} (x : Lk) (m : Bool) (hH : nh ≤ H.length) (hW : nw ≤ W.length) (ha : at_ ≤ nw) (b1 : nh ≤ 10000) (b2 : nw ≤ 10000) :
    Ev (fun k => lock_Table_inWay k x (at_ : Int) nh nw m H W) (inWayP (H.take nh) (W.take nw) x at_, ((nh, (nw, (m, ()))), ((H, ()), ((W, ()), ())))) := by
  refine .up ?_
  simp only [lock_Table_inWay_eq]
  refine .bind (against_ev x hH (by omega)).sh ?_
  refine .bind (hasOwn_ev x hH (by omega)).sh ?_
  unfold inWayP
  cases h : (H.take nh).any fun h => decide (h.1 = x.1) && meetP h x with
  | true =>
    refine .from 0 fun k => ?_
    show lock_Table_inWay_j0 (k + 0 + 1) _ _ _ _ _ _ = _
    rw [lock_Table_inWay_j0_eq]; rfl
  | false =>
    have e : (W.take nw).take at_ = W.take at_ := by rw [List.take_take, Nat.min_eq_left ha]
    obtain ⟨K, hK⟩ := (against_ev (W := W) (c := at_) x (by omega) (by omega)).sh
    refine ⟨K, fun k hk => ?_⟩
    show (must (inC 0 (at_ : Int) nw) ((lock_against_v2 (k + 1) (at_ : Int).toNat x W).bind _)) = _
    rw [inC_t (by omega) (by omega) (by omega), must_tr, Int.toNat_natCast, show lock_against_v2 (k + 1) at_ x W = _ from hK k hk, Option.bind_some]
    have l1 := against_len (H.take nh) x
    have l2 := against_len (W.take at_) x
    rw [List.length_take] at l1 l2
    show lim ((againstP (H.take nh) x).length + (againstP (W.take at_) x).length) _ = _
    rw [lim_t (by omega), lock_Table_inWay_j0_eq, e]; rfl
theorem edges_ev {H W : List Lk} {nh nw : Nat} (hH : nh ≤ H.length) (hW : nw ≤ W.length) (b1 : nh ≤ 100) (b2 : nw ≤ 100) :
    ∃ E, Ev (fun k => lock_Table_Edges k nh nw true H W) (E, ((nh, (nw, (true, ()))), ((H, ()), ((W, ()), ())))) ∧ E.length ≤ 40000 := by
  have outer : ∀ (d i : Nat) (fl : Bool) (out : List Eg) (met : List (Eg × Bool)), i + d = nw → out.length + d * 200 ≤ 40000 →
      ∃ E, Ev2 (fun k n => lock_Table_Edges_l0 k n fl out nw ((nw : Nat) : Int) (i : Int) nh nw true H W met) (E, ((nh, (nw, (true, ()))), ((H, ()), ((W, ()), ())))) ∧ E.length ≤ 40000 := by
    intro d
    induction d with
    | zero =>
      intro i fl out met hi ho
      have : i = nw := by omega
      subst this
      refine ⟨out, .up ⟨0, fun k n _ _ => ?_⟩, by omega⟩
      show lock_Table_Edges_l0 k (n + 1) _ _ _ _ _ _ _ _ _ _ _ = _
      rw [lock_Table_Edges_l0_eq, bf (by omega)]
    | succ d ih =>
      intro i fl out met hi ho
      have hlt : i < W.length := by omega
      have hx : W[i]? = some W[i] := List.getElem?_eq_getElem hlt
      generalize W[i] = x at hx
      have inner : ∀ (ls : List Lk), ls.length ≤ 10000 → ∀ (e j : Nat) (fl : Bool) (out : List Eg) (met : List (Eg × Bool)), j + e = ls.length → out.length + e + d * 200 ≤ 40000 →
          ∃ E, Ev3 (fun k n p => lock_Table_Edges_l1 k n p fl out nw ((nw : Nat) : Int) (i : Int) ls (ls.length : Int) (j : Int) nh nw true H W met x.1 x.2.1 x.2.2.1 x.2.2.2.1 x.2.2.2.2.1) (E, ((nh, (nw, (true, ()))), ((H, ()), ((W, ()), ())))) ∧ E.length ≤ 40000 := by
        intro ls hls e
        induction e with
        | zero =>
          intro j fl out met hj ho
          have : j = ls.length := by omega
          subst this
          obtain ⟨E, hE, hl⟩ := ih (i + 1) fl out met (by omega) (by omega)
          refine ⟨E, .up ?_, hl⟩
          obtain ⟨K, hK⟩ := hE
          refine ⟨K, fun k n p hk hn hp => ?_⟩
          refine (lock_Table_Edges_l1_eq ..).trans ?_
          rw [bf (by omega), wr_suc (by omega)]
          exact hK k n hk hn
        | succ e ihe =>
          intro j fl out met hj ho
          have hlj : j < ls.length := by omega
          have hy : nth ls (j : Int) = some ls[j] := nth_get (List.getElem?_eq_getElem hlj)
          generalize ls[j] = y at hy
          cases hm : (lookM (.st (.pair (.int .u64) (.pair (.int .u64) .unit))) met ((x.1, (y.1, ())) : Eg)).getD false with
          | true =>
            obtain ⟨E, hE, hl⟩ := ihe (j + 1) fl out met (by omega) (by omega)
            refine ⟨E, .up ?_, hl⟩
            obtain ⟨K, hK⟩ := hE
            refine ⟨K, fun k n p hk hn hp => ?_⟩
            refine (lock_Table_Edges_l1_eq ..).trans ?_
            rw [bt (by omega), hy, Option.bind_some]
            refine (congrArg (fun b => bif b then _ else _) hm).trans ?_
            rw [wr_suc (by omega)]
            exact hK k n p hk hn hp
          | false =>
            obtain ⟨E, hE, hl⟩ := ihe (j + 1) (fl && ([((x.1, (y.1, ())) : Eg)] : List Eg).isEmpty) (out ++ [(x.1, (y.1, ()))]) (setM (.st (.pair (.int .u64) (.pair (.int .u64) .unit))) met ((x.1, (y.1, ())) : Eg) true) (by omega) (by simp; omega)
            refine ⟨E, .up ?_, hl⟩
            obtain ⟨K, hK⟩ := hE
            refine ⟨K, fun k n p hk hn hp => ?_⟩
            refine (lock_Table_Edges_l1_eq ..).trans ?_
            rw [bt (by omega), hy, Option.bind_some]
            refine (congrArg (fun b => bif b then _ else _) hm).trans ?_
            show lim _ (bif decide (((out ++ [((x.1, (y.1, ())) : Eg)]).length : Int) = 160000) then _ else _) = _
            rw [lim_t (by simp; omega), bf (by simp; omega), wr_suc (by omega)]
            exact hK k n p hk hn hp
      have hw := inWay_ev (H := H) (W := W) (at_ := i) x true hH hW (by omega) (by omega) (by omega)
      have hl := inWay_len (H.take nh) (W.take nw) x i
      rw [List.length_take, List.length_take] at hl
      obtain ⟨E, hE, hl'⟩ := inner (inWayP (H.take nh) (W.take nw) x i) (by omega) _ 0 fl out met (Nat.zero_add _) (by omega)
      refine ⟨E, .up ?_, hl'⟩
      obtain ⟨K, hK⟩ := hE.dg
      obtain ⟨K2, hK2⟩ := hw
      refine ⟨Nat.max K K2, fun k n hk hn => ?_⟩
      refine (lock_Table_Edges_l0_eq ..).trans ?_
      rw [bt (by omega), inI_t (by omega) (by omega), must_tr, Nat.zero_add, Int.toNat_natCast, hx, Option.bind_some]
      show ((lock_Table_inWay k x (i : Int) nh nw true H W).bind _) = _
      rw [show lock_Table_inWay k x (i : Int) nh nw true H W = _ from hK2 k (Nat.le_trans (Nat.le_max_right K K2) hk), Option.bind_some]
      exact hK k n (Nat.le_trans (Nat.le_max_left K K2) hk) (Nat.le_trans (Nat.le_max_left K K2) hn)
  obtain ⟨E, hE, hl⟩ := outer nw 0 true [] [] (by omega) (by simp; omega)
  refine ⟨E, ?_, hl⟩
  obtain ⟨K, hK⟩ := hE.dg
  refine ⟨K, fun k hk => ?_⟩
  show lock_Table_Edges k nh nw true H W = _
  rw [lock_Table_Edges_eq, lock_Table_ok_eq]
  exact hK k hk
def mayP (x : Lk) : Bool := (!decide (x.1 = 0)) && ((decide (x.2.1 = 0) || decide (x.2.1 = 1)) && ((decide (1 ≤ x.2.2.1) && decide (x.2.2.1 ≤ 4)) && !endP x.2.2.2.2.1 x.2.2.2.1))
theorem may_v (k : Nat) (x : Lk) : lock_may k x = some (mayP x, ()) := by
  rw [lock_may_eq]
  simp only [mode_v, ends_v, Option.bind_some]
  unfold mayP
  cases decide (x.2.1 = 0) <;> cases decide (x.1 = 0) <;> cases decide (x.2.1 = 1) <;> cases (decide (1 ≤ x.2.2.1) && decide (x.2.2.1 ≤ 4)) <;> rfl
def leaveP (ws : List Lk) (x : Lk) : List Lk := ws.filter fun w => !(decide (w.1 = x.1) && !sameP w x)
def goneP (ws : List Lk) (t : Int) : List Lk := ws.filter fun w => !decide (w.1 = t)
def joinP (ws : List Lk) (x : Lk) : List Lk := if placeI ws x = ws.length then ws ++ [x] else ws
/-- What asking for a lock comes to. -/
def askR (hs ws : List Lk) (x : Lk) (b : Bool) (e : Int) (hs' ws' : List Lk) : Prop :=
  (mayP x = false ∧ b = false ∧ e = 1 ∧ hs' = hs ∧ ws' = ws) ∨
  (mayP x = true ∧ hs.any (fun h => covP h x) = true ∧ b = true ∧ e = 0 ∧ hs' = hs ∧ ws' = ws) ∨
  (mayP x = true ∧ hs.any (fun h => covP h x) = false ∧ inWayP hs (leaveP ws x) x (placeI (leaveP ws x) x) = [] ∧ ws' = goneP (leaveP ws x) x.1 ∧
    ((400 ≤ hs.length ∧ b = false ∧ e = 132 ∧ hs' = hs) ∨ (hs.length < 400 ∧ b = true ∧ e = 0 ∧ hs' = hs ++ [x]))) ∨
  (mayP x = true ∧ hs.any (fun h => covP h x) = false ∧ inWayP hs (leaveP ws x) x (placeI (leaveP ws x) x) ≠ [] ∧ b = false ∧ hs' = hs ∧
    ((e = 131 ∧ ws' = goneP (joinP (leaveP ws x) x) x.1) ∨ (e = 0 ∧ ws' = joinP (leaveP ws x) x)))
theorem placeI_le (ws : List Lk) (x : Lk) : placeI ws x ≤ ws.length := by
  unfold placeI
  split
  · rename_i i h; exact Nat.le_of_lt (filt_some h).1
  · exact Nat.le_refl _
theorem take_one {H : List Lk} {n : Nat} (x : Lk) (h : n ≤ H.length) : (apc H n [x]).take (n + 1) = H.take n ++ [x] ∧ n + 1 ≤ (apc H n [x]).length := by
  have e : apc H n [x] = H.take n ++ [x] := rfl
  have l : (H.take n ++ [x]).length = n + 1 := by rw [List.length_append, List.length_take, Nat.min_eq_left h]; rfl
  rw [e, ← l, List.take_length]
  exact ⟨rfl, Nat.le_refl _⟩
/-- The end, where something stands in the way. -/
theorem askJ_ev {H W : List Lk} {nh nw : Nat} (x : Lk) (hH : nh ≤ H.length) (hW : nw ≤ W.length) (b1 : nh ≤ 100) (b2 : nw ≤ 100) :
    ∃ e nw' W', Ev (fun k => lock_Table_Ask_j0 k nh nw true H x.1 x.2.1 x.2.2.1 x.2.2.2.1 x.2.2.2.2.1 W) ((false, (e, ())), ((nh, (nw', (true, ()))), ((), ((), ((H, ()), ((W', ()), ())))))) ∧ nw' ≤ W'.length ∧
      ((e = 131 ∧ W'.take nw' = goneP (W.take nw) x.1) ∨ (e = 0 ∧ W'.take nw' = W.take nw)) := by
  obtain ⟨E, hE, hl⟩ := edges_ev hH hW b1 b2
  obtain ⟨n, W', hL, h2, h3⟩ := leaveN_ev (W := W) (c := nw) x.1 nh true H hW (by omega)
  rcases cycle_ev E x.1 hl with ⟨c, hc, hne⟩ | hc
  · refine ⟨131, n, W', .up ?_, h2, .inl ⟨rfl, h3⟩⟩
    simp only [lock_Table_Ask_j0_eq]
    refine .bind hE.sh (.bind hc.sh ?_)
    obtain ⟨K, hK⟩ := hL.sh
    refine ⟨K, fun k hk => ?_⟩
    show must (!c.2.2.1.1.isEmpty) ((lock_Table_leave_lock_none (k + 1) x.1 nh nw true H W).bind _) = _
    have : c.2.2.1.1.isEmpty = false := by
      cases h : c.2.2.1.1 with
      | nil => exact absurd h hne
      | cons _ _ => rfl
    rw [this, show lock_Table_leave_lock_none (k + 1) x.1 nh nw true H W = _ from hK k hk]
    rfl
  · refine ⟨0, nw, W, .up ?_, hW, .inr ⟨rfl, rfl⟩⟩
    simp only [lock_Table_Ask_j0_eq]
    refine .bind hE.sh (.bind hc.sh (.from 0 fun k => rfl))
theorem own_t (k : Nat) (x : Lk) (h1 : x.2.2.2.1.length ≤ 60000) (h2 : x.2.2.2.2.1.length ≤ 60000) : lock_own k x = some (x, (x, ())) := by
  rw [own_v, lim_t (by omega), lim_t (by omega)]
theorem ask_ev {H W : List Lk} {nh nw : Nat} (x : Lk) (hH : nh ≤ H.length) (hW : nw ≤ W.length) (b1 : nh ≤ 90) (b2 : nw ≤ 90) (s1 : x.2.2.2.1.length ≤ 60000) (s2 : x.2.2.2.2.1.length ≤ 60000) :
    ∃ b e nh' nw' H' W', Ev (fun k => lock_Table_Ask k x nh nw true H W) ((b, (e, ())), ((nh', (nw', (true, ()))), ((), ((), ((H', ()), ((W', ()), ())))))) ∧ nh' ≤ H'.length ∧ nw' ≤ W'.length ∧
      askR (H.take nh) (W.take nw) x b e (H'.take nh') (W'.take nw') := by
  cases hm : mayP x with
  | false =>
    refine ⟨false, 1, nh, nw, H, W, .from 0 fun k => ?_, hH, hW, .inl ⟨hm, rfl, rfl, rfl, rfl⟩⟩
    rw [lock_Table_Ask_eq, lock_Table_ok_eq]
    simp only [may_v, Option.bind_some, eta5, hm]
    rfl
  | true =>
  have c1 := hasCov_ev (W := H) (c := nh) x hH (by omega)
  cases hc : (H.take nh).any fun h => covP h x with
  | true =>
    refine ⟨true, 0, nh, nw, H, W, ?_, hH, hW, .inr (.inl ⟨hm, hc, rfl, rfl, rfl, rfl⟩)⟩
    rw [hc] at c1
    simp only [lock_Table_Ask_eq, lock_Table_ok_eq, may_v, Option.bind_some, eta5, hm]
    exact .bind c1 (.from 0 fun k => rfl)
  | false =>
    rw [hc] at c1
    obtain ⟨n1, W1, c2, g1, g2⟩ := leaveS_ev (W := W) (c := nw) x.1 x nh true H hW (by omega)
    have g2 : W1.take n1 = leaveP (W.take nw) x := g2
    have gl : n1 ≤ nw := by
      have e := congrArg List.length g2
      rw [List.length_take, Nat.min_eq_left g1] at e
      have : (leaveP (W.take nw) x).length ≤ (W.take nw).length := List.length_filter_le ..
      rw [List.length_take] at this
      omega
    have c3 := place_ev (W := W1) (c := n1) x nh true H g1 (by omega)
    have pl := placeI_le (W1.take n1) x
    have tl : (W1.take n1).length = n1 := by rw [List.length_take, Nat.min_eq_left g1]
    have c4 := inWay_ev (H := H) (W := W1) (nh := nh) (nw := n1) (at_ := placeI (W1.take n1) x) x true hH g1 (by omega) (by omega) (by omega)
    rw [g2] at c3 c4 pl tl
    cases hw : inWayP (H.take nh) (leaveP (W.take nw) x) x (placeI (leaveP (W.take nw) x) x) with
    | nil =>
      rw [hw] at c4
      obtain ⟨n2, W2, c5, g3, g4⟩ := leaveN_ev (W := W1) (c := n1) x.1 nh true H g1 (by omega)
      have g4 : W2.take n2 = goneP (leaveP (W.take nw) x) x.1 := by rw [g4, g2]; rfl
      obtain ⟨t1, t2⟩ := take_one (H := H) x hH
      refine ⟨true, 0, nh + 1, n2, apc H nh [x], W2, ?_, t2, g3, .inr (.inr (.inl ⟨hm, hc, hw, g4, .inr ⟨by rw [List.length_take]; omega, rfl, rfl, t1⟩⟩))⟩
      simp only [lock_Table_Ask_eq, lock_Table_ok_eq, may_v, Option.bind_some, eta5, hm]
      refine .bind c1 (.bind c2 (.bind c3 (.bind c4 (.bind c5 (.from 0 fun k => ?_)))))
      show (bif decide (400 ≤ ((nh : Nat) : Int)) then _ else (lock_own (k + 0) x).bind _) = _
      rw [bf (by omega), own_t _ _ s1 s2]
      show lim (nh + 1) _ = _
      rw [lim_t (by omega)]
      rfl
    | cons y ys =>
      rw [hw] at c4
      have hne : inWayP (H.take nh) (leaveP (W.take nw) x) x (placeI (leaveP (W.take nw) x) x) ≠ [] := by rw [hw]; exact List.cons_ne_nil _ _
      by_cases hp : placeI (leaveP (W.take nw) x) x = n1
      · obtain ⟨t1, t2⟩ := take_one (H := W1) x g1
        obtain ⟨e, n2, W2, c5, g3, g4⟩ := askJ_ev (H := H) (W := apc W1 n1 [x]) (nh := nh) (nw := n1 + 1) x hH t2 (by omega) (by omega)
        have ej : joinP (leaveP (W.take nw) x) x = (apc W1 n1 [x]).take (n1 + 1) := by
          unfold joinP
          rw [if_pos (by omega), t1, g2]
        refine ⟨false, e, nh, n2, H, W2, ?_, hH, g3, .inr (.inr (.inr ⟨hm, hc, hne, rfl, rfl, by rw [ej]; exact g4⟩))⟩
        simp only [lock_Table_Ask_eq, lock_Table_ok_eq, may_v, Option.bind_some, eta5, hm]
        refine .bind c1 (.bind c2 (.bind c3 (.bind c4 ?_)))
        obtain ⟨K, hK⟩ := c5
        refine ⟨K, fun k hk => ?_⟩
        show (bif decide (((y :: ys).length : Int) = 0) then _ else bif decide (((placeI (leaveP (W.take nw) x) x : Nat) : Int) = ((n1 : Nat) : Int)) then (lock_own k x).bind _ else _) = _
        rw [bf (by simp; omega), bt (by omega), own_t _ _ s1 s2]
        show lim (n1 + 1) _ = _
        rw [lim_t (by omega)]
        exact hK k hk
      · obtain ⟨e, n2, W2, c5, g3, g4⟩ := askJ_ev (H := H) (W := W1) (nh := nh) (nw := n1) x hH g1 (by omega) (by omega)
        have ej : joinP (leaveP (W.take nw) x) x = W1.take n1 := by
          unfold joinP
          rw [if_neg (by omega), g2]
        refine ⟨false, e, nh, n2, H, W2, ?_, hH, g3, .inr (.inr (.inr ⟨hm, hc, hne, rfl, rfl, by rw [ej]; exact g4⟩))⟩
        simp only [lock_Table_Ask_eq, lock_Table_ok_eq, may_v, Option.bind_some, eta5, hm]
        refine .bind c1 (.bind c2 (.bind c3 (.bind c4 ?_)))
        obtain ⟨K, hK⟩ := c5
        refine ⟨K, fun k hk => ?_⟩
        show (bif decide (((y :: ys).length : Int) = 0) then _ else bif decide (((placeI (leaveP (W.take nw) x) x : Nat) : Int) = ((n1 : Nat) : Int)) then _ else _) = _
        rw [bf (by simp; omega), bf (by omega)]
        exact hK k hk
theorem free1_v (k : Nat) (h : Lk) (t : Int) : lock_Table_Free_1 k h t = some (decide (h.1 = t), ((t, ()), ())) := lock_Table_Free_1_eq k h t
theorem freeD_ev {W : List Lk} {c : Nat} (t : Int) (hc : c ≤ W.length) (hb : c ≤ 100000) :
    ∃ (n : Nat) (W' : List Lk), Ev (fun k => slices_DeleteFunc_Lock_Lock_lock_Table_Free_1 k c W t) (n, ((W', ()), ((t, ()), ()))) ∧ n ≤ W'.length ∧ W'.take n = (W.take c).filter (fun w => !decide (w.1 = t)) := by
  have hI := (idx_ev (L := fun k n i => slices_IndexFunc_Lock_Lock_lock_Table_Free_1_l0 k n c ((c : Nat) : Int) i W t) (W := W) (c := c) (p := fun w => decide (w.1 = t))
    (A := fun i => (i, ((W, ()), ((t, ()), ())))) (B := ((-1 : Int), ((W, ()), ((t, ()), ())))) hc
    (fun k n j y hj hy => by
      show slices_IndexFunc_Lock_Lock_lock_Table_Free_1_l0 k (n + 1) _ _ _ _ _ = _
      rw [slices_IndexFunc_Lock_Lock_lock_Table_Free_1_l0_eq, bt (by omega), inI_t (by omega) (by omega), must_tr, Nat.zero_add, Int.toNat_natCast, hy, Option.bind_some, free1_v, Option.bind_some, wr_suc (by omega)])
    (fun k n => by
      show slices_IndexFunc_Lock_Lock_lock_Table_Free_1_l0 k (n + 1) _ _ _ _ _ = _
      rw [slices_IndexFunc_Lock_Lock_lock_Table_Free_1_l0_eq, bf (by omega)]) c 0 (by omega)).dg
  exact delF_ev (D := fun k => slices_DeleteFunc_Lock_Lock_lock_Table_Free_1 k c W t) (p := fun w => decide (w.1 = t))
    (L := fun k n i j W => slices_DeleteFunc_Lock_Lock_lock_Table_Free_1_l0 k n c i j W t)
    (fun i => (i, ((W, ()), ((t, ()), ()))))
    (fun i W => (i, ((W, ()), ((t, ()), ())))) hc hI
    (G := fun k r => bif (decide (r.1 = (-1))) then some (c, ((r.2.1.1, ()), ((r.2.2.1.1, ()), ()))) else slices_DeleteFunc_Lock_Lock_lock_Table_Free_1_l0 k k c r.1 (wr .i64 (r.1 + 1)) r.2.1.1 r.2.2.1.1)
    (fun k => by rw [slices_DeleteFunc_Lock_Lock_lock_Table_Free_1_eq, slices_IndexFunc_Lock_Lock_lock_Table_Free_1_eq]; rfl) (fun k => rfl)
    (fun k i hi => by
      show (bif decide ((i : Int) = -1) then _ else slices_DeleteFunc_Lock_Lock_lock_Table_Free_1_l0 k k c (i : Int) (wr .i64 ((i : Int) + 1)) W t) = _
      rw [bf (by omega), wr_suc (by omega)])
    (fun k n i j W y hij hj hl hy => by
      show slices_DeleteFunc_Lock_Lock_lock_Table_Free_1_l0 (k + 1) (n + 1) _ _ _ _ _ = _
      rw [slices_DeleteFunc_Lock_Lock_lock_Table_Free_1_l0_eq, bt (by omega), inI_t (by omega) (by omega), must_tr, Nat.zero_add, Int.toNat_natCast, hy, Option.bind_some, free1_v, Option.bind_some]
      simp only [slices_DeleteFunc_Lock_Lock_lock_Table_Free_1_j0_eq, inI_t (j := (i : Int)) (n := c) (by omega) (by omega), must_tr, Nat.zero_add, Int.toNat_natCast, blt_t (show i < W.length by omega), wr_suc (show i < 1000000 by omega), wr_suc (show j < 1000000 by omega), eta5]
      cases decide (y.1 = t) <;> rfl)
    (fun k n i W hi hl => by
      show slices_DeleteFunc_Lock_Lock_lock_Table_Free_1_l0 k (n + 1) _ _ _ _ _ = _
      rw [slices_DeleteFunc_Lock_Lock_lock_Table_Free_1_l0_eq, bf (by omega), inC_t (by omega) (by omega) (by omega), must_tr, inC_t (by omega) (by omega) (by omega), must_tr, Nat.zero_add, Int.toNat_natCast])
theorem gone_len (ws : List Lk) (t : Int) : (goneP ws t).length ≤ ws.length := List.length_filter_le ..
theorem free_ev {H W : List Lk} {nh nw : Nat} (t : Int) (hH : nh ≤ H.length) (hW : nw ≤ W.length) (b1 : nh ≤ 90) (b2 : nw ≤ 90) :
    ∃ (nh' nw' : Nat) (H' W' : List Lk), Ev (fun k => lock_Table_Free k t nh nw true H W) (((nh : Int) - (nh' : Int)), ((nh', (nw', (true, ()))), ((H', ()), ((W', ()), ())))) ∧ nh' ≤ H'.length ∧ nw' ≤ W'.length ∧
      H'.take nh' = goneP (H.take nh) t ∧ W'.take nw' = goneP (W.take nw) t := by
  obtain ⟨n1, H1, c1, g1, g2⟩ := freeD_ev (W := H) (c := nh) t hH (by omega)
  obtain ⟨n2, W2, c2, g3, g4⟩ := leaveN_ev (W := W) (c := nw) t n1 true H1 hW (by omega)
  have gl : n1 ≤ nh := by
    have e := congrArg List.length g2
    rw [List.length_take, Nat.min_eq_left g1] at e
    have : ((H.take nh).filter fun w => !decide (w.1 = t)).length ≤ (H.take nh).length := List.length_filter_le ..
    rw [List.length_take] at this
    omega
  refine ⟨n1, n2, H1, W2, ?_, g1, g3, g2, g4⟩
  simp only [lock_Table_Free_eq, lock_Table_ok_eq, Option.bind_some]
  refine .bind c1 (.bind c2 (.from 0 fun k => ?_))
  show some (wr .i64 (((nh : Nat) : Int) - ((n1 : Nat) : Int)), _) = _
  rw [wr_i64 (by omega)]
def smL (x : Lk) : Prop := x.2.2.2.1.length ≤ 60000 ∧ x.2.2.2.2.1.length ≤ 60000
/-- What holds of a table after so many deeds. -/
structure TI (hs ws : List Lk) (n : Nat) : Prop where
  h : hs.length ≤ n
  w : ws.length ≤ n
  sh : ∀ x ∈ hs, smL x
  sw : ∀ x ∈ ws, smL x
theorem gone_mem {ws : List Lk} {t : Int} {x : Lk} (h : x ∈ goneP ws t) : x ∈ ws := (List.mem_filter.1 h).1
theorem leave_mem {ws : List Lk} {y x : Lk} (h : x ∈ leaveP ws y) : x ∈ ws := (List.mem_filter.1 h).1
theorem leave_len (ws : List Lk) (x : Lk) : (leaveP ws x).length ≤ ws.length := List.length_filter_le ..
theorem join_len (ws : List Lk) (x : Lk) : (joinP ws x).length ≤ ws.length + 1 := by unfold joinP; split <;> simp
theorem join_mem {ws : List Lk} {x y : Lk} (h : y ∈ joinP ws x) : y ∈ ws ∨ y = x := by
  unfold joinP at h
  split at h
  · simpa using h
  · exact .inl h
theorem TI.ask {hs ws hs' ws' : List Lk} {x : Lk} {b : Bool} {e : Int} {n : Nat} (T : TI hs ws n) (hx : smL x) (R : askR hs ws x b e hs' ws') : TI hs' ws' (n + 1) := by
  have l1 := leave_len ws x
  have l2 := join_len (leaveP ws x) x
  have l3 := gone_len (leaveP ws x) x.1
  have l4 := gone_len (joinP (leaveP ws x) x) x.1
  have hh := T.h
  have hw := T.w
  have sj : ∀ y ∈ joinP (leaveP ws x) x, smL y := fun y hy => (join_mem hy).elim (fun h => T.sw y (leave_mem h)) fun h => h ▸ hx
  rcases R with ⟨_, _, _, rfl, rfl⟩ | ⟨_, _, _, _, rfl, rfl⟩ | ⟨_, _, _, rfl, ⟨_, _, _, rfl⟩ | ⟨_, _, _, rfl⟩⟩ | ⟨_, _, _, _, rfl, ⟨_, rfl⟩ | ⟨_, rfl⟩⟩
  · exact ⟨by omega, by omega, T.sh, T.sw⟩
  · exact ⟨by omega, by omega, T.sh, T.sw⟩
  · exact ⟨by omega, by omega, T.sh, fun y hy => T.sw y (leave_mem (gone_mem hy))⟩
  · refine ⟨by simp; omega, by omega, fun y hy => ?_, fun y hy => T.sw y (leave_mem (gone_mem hy))⟩
    rcases List.mem_append.1 hy with h | h
    · exact T.sh y h
    · rw [List.mem_singleton] at h; exact h ▸ hx
  · exact ⟨by omega, by omega, T.sh, fun y hy => sj y (gone_mem hy)⟩
  · exact ⟨by omega, by omega, T.sh, sj⟩
theorem TI.free {hs ws : List Lk} {n : Nat} (T : TI hs ws n) (t : Int) : TI (goneP hs t) (goneP ws t) (n + 1) := by
  have l1 := gone_len hs t
  have l2 := gone_len ws t
  have hh := T.h
  have hw := T.w
  exact ⟨by omega, by omega, fun y hy => T.sh y (gone_mem hy), fun y hy => T.sw y (gone_mem hy)⟩
/-! The machine of layer 15: its parts. -/
abbrev Sx : Type := Int × (Int × (Int × Unit))
abbrev Cl : Type := List Int × (Int × (Bool × Unit))
abbrev Tb : Type := Int × (List Int × (List Cl × (Int × (List Int × Unit))))
abbrev Vs : Type := Int × (Int × (Bool × (List Int × (List (List Int) × Unit))))
abbrev Ce : Type := List Int × (List Vs × (Vs × Unit))
abbrev Wt : Type := List Int × (Bool × (List Int × Unit))
abbrev Cm : Type := Int × (Int × (Int × (Int × (Int × (Bool × (Lk × (List Int × (List Int × (List Int × (List Wt × (List (List Int) × (Tb × Unit))))))))))))
abbrev Rs : Type := Int × (Int × (Int × (Bool × (List Sx × (List Ce × (List Tb × Unit))))))
abbrev Mp : Type := List (Int × (Int × (Rs × Unit)))
theorem clonecol_v (k : Nat) (l : List Cl) : slices_Clone_Col_Col k l = lim (0 + l.length) (some (l, ())) := by
  rw [slices_Clone_Col_Col_eq]
  cases l with
  | nil => exact twoW_self _
  | cons a l => rfl
theorem cloneint_v (k : Nat) (l : List Int) : slices_Clone_s_int_int k l = lim (0 + l.length) (some (l, ())) := by
  rw [slices_Clone_s_int_int_eq]
  cases l with
  | nil => exact twoW_self _
  | cons a l => rfl
theorem clonecolr_v (k : Nat) (l : List Cl) : slices_Clone_Col_Col_row k l = lim l.length (some ((), ((l, ()), ()))) := by
  rw [slices_Clone_Col_Col_row_eq]
  cases l with
  | nil => exact twoW_self _
  | cons a l => rfl
theorem cloneintr_v (k : Nat) (l : List Int) : slices_Clone_s_int_int_row k l = lim l.length (some ((), ((l, ()), ()))) := by
  rw [slices_Clone_s_int_int_row_eq]
  cases l with
  | nil => exact twoW_self _
  | cons a l => rfl
theorem clonetab_v (k : Nat) (l : List Tb) : slices_Clone_Table_Table k l = lim l.length (some ((), ((l, ()), ()))) := by
  rw [slices_Clone_Table_Table_eq]
  cases l with
  | nil => exact twoW_self _
  | cons a l => rfl
theorem clonetab2_v (k n : Nat) (l : List Tb) : slices_Clone_Table_Table_v2 k n l = lim (l.take n).length (some ((), ((l, ()), ((l.take n, ()), ())))) := by
  rw [slices_Clone_Table_Table_v2_eq]
  cases n with
  | zero => exact twoW_self _
  | succ n => rfl
theorem set_same {α : Type} {l : List α} {j : Nat} {x : α} (h : l[j]? = some x) : l.set j x = l := by
  apply List.ext_getElem?
  intro i
  rw [List.getElem?_set]
  split
  · rename_i e; subst e
    split
    · exact h.symm
    · rename_i c; rw [List.getElem?_eq_none (by omega)] 
  · rfl
/-- Tables that are small. -/
def smT (t : Tb) : Prop := t.2.2.1.length ≤ 60000 ∧ t.2.2.2.2.1.length ≤ 60000
theorem copied_l0 {L : List Tb} (hs : ∀ t ∈ L, smT t) (hl : L.length ≤ 1000) : ∀ d j, j + d = L.length → Ev2 (fun k n => meta_copied_l0 k n (L.length : Int) (j : Int) L) (L, ()) := by
  intro d
  induction d with
  | zero =>
    intro j hj
    refine .up ⟨0, fun k n _ _ => ?_⟩
    show meta_copied_l0 k (n + 1) _ _ _ = _
    rw [meta_copied_l0_eq, bf (by omega)]
  | succ d ih =>
    intro j hj
    have hlt : j < L.length := by omega
    have hx : L[j]? = some L[j] := List.getElem?_eq_getElem hlt
    have hy := hs L[j] (List.getElem_mem hlt)
    generalize L[j] = x at hx hy
    obtain ⟨K, hK⟩ := ih (j + 1) (by omega)
    refine .up ⟨K, fun k n hk hn => ?_⟩
    show meta_copied_l0 k (n + 1) _ _ _ = _
    have e : L.set j (x.1, (x.2.1, (x.2.2.1, x.2.2.2))) = L := set_same hx
    have e2 : L.set j (x.1, (x.2.1, (x.2.2.1, (x.2.2.2.1, (x.2.2.2.2.1, x.2.2.2.2.2))))) = L := set_same hx
    rw [meta_copied_l0_eq, bt (by omega), inI_t (by omega) (by omega), must_tr, Int.toNat_natCast, hx, Option.bind_some, clonecol_v, lim_t (by have := hy.1; omega), Option.bind_some, must_tr, Option.bind_some, cloneint_v, lim_t (by have := hy.2; omega), Option.bind_some, must_tr, Option.bind_some, e, inI_t (by omega) (by omega), must_tr, hx, Option.bind_some, e2, wr_suc (by omega)]
    exact hK k n hk hn
theorem copied_ev {L : List Tb} (hs : ∀ t ∈ L, smT t) (hl : L.length ≤ 1000) : Ev (fun k => meta_copied k L) (L, ()) := by
  simp only [meta_copied_eq, clonetab_v, lim_t (show L.length ≤ 68719476736 by omega)]
  exact (copied_l0 hs hl L.length 0 (by omega)).dg
theorem copied2_l0 {L : List Tb} (B : List Tb) (hs : ∀ t ∈ L, smT t) (hl : L.length ≤ 1000) : ∀ d j, j + d = L.length → Ev2 (fun k n => meta_copied_v2_l0 k n (L.length : Int) (j : Int) B L) (L, ((B, ()), ())) := by
  intro d
  induction d with
  | zero =>
    intro j hj
    refine .up ⟨0, fun k n _ _ => ?_⟩
    show meta_copied_v2_l0 k (n + 1) _ _ _ _ = _
    rw [meta_copied_v2_l0_eq, bf (by omega)]
  | succ d ih =>
    intro j hj
    have hlt : j < L.length := by omega
    have hx : L[j]? = some L[j] := List.getElem?_eq_getElem hlt
    have hy := hs L[j] (List.getElem_mem hlt)
    generalize L[j] = x at hx hy
    obtain ⟨K, hK⟩ := ih (j + 1) (by omega)
    refine .up ⟨K, fun k n hk hn => ?_⟩
    show meta_copied_v2_l0 k (n + 1) _ _ _ _ = _
    have e : L.set j (x.1, (x.2.1, (x.2.2.1, x.2.2.2))) = L := set_same hx
    have e2 : L.set j (x.1, (x.2.1, (x.2.2.1, (x.2.2.2.1, (x.2.2.2.2.1, x.2.2.2.2.2))))) = L := set_same hx
    rw [meta_copied_v2_l0_eq, bt (by omega), inI_t (by omega) (by omega), must_tr, Int.toNat_natCast, hx, Option.bind_some, clonecol_v, lim_t (by have := hy.1; omega), Option.bind_some, must_tr, Option.bind_some, cloneint_v, lim_t (by have := hy.2; omega), Option.bind_some, must_tr, Option.bind_some, e, inI_t (by omega) (by omega), must_tr, hx, Option.bind_some, e2, wr_suc (by omega)]
    exact hK k n hk hn
theorem copied2_ev {B : List Tb} {n : Nat} (hs : ∀ t ∈ B.take n, smT t) (hl : n ≤ 1000) (hn : n ≤ B.length) : Ev (fun k => meta_copied_v2 k n B) (B.take n, ((B, ()), ())) := by
  have hlen : (B.take n).length = n := by rw [List.length_take, Nat.min_eq_left hn]
  simp only [meta_copied_v2_eq, clonetab2_v, lim_t (show (B.take n).length ≤ 68719476736 by omega)]
  exact (copied2_l0 B hs (by omega) (B.take n).length 0 (by omega)).dg
theorem copied1_v (k : Nat) (t : Tb) (h : smT t) : meta_copied_one k t = some ((), ((t.1, (t.2.1, ((), (t.2.2.2.1, ((), ()))))), ((t.2.2.1, ()), ((t.2.2.2.2.1, ()), ())))) := by
  rw [meta_copied_one_eq, slices_Clone_Table_Table_one_eq]
  simp only [Option.bind_some, clonecolr_v, cloneintr_v]
  rw [lim_t (by have := h.1; omega), Option.bind_some, lim_t (by have := h.2; omega)]
  rfl
/-! Transactions. -/
def errR (e : Int) : Rs := (e, ((0 : Int), ((0 : Int), (false, ([], ([], ([], ())))))))
def stsR (l : List Sx) : Rs := ((0 : Int), ((0 : Int), ((0 : Int), (false, (l, ([], ([], ())))))))
def txP (T : List Sx) (n : Int) : Option Sx := if 1 ≤ n then T[(n - 1).toNat]? else none
def stP (T : List Sx) (n : Int) : Sx := (txP T n).getD (n, ((0 : Int), ((0 : Int), ())))
theorem take_at {α : Type} {l : List α} {n i : Nat} {x : α} (h : (l.take n)[i]? = some x) : i < n ∧ l[i]? = some x := by
  rw [List.getElem?_take] at h
  split at h
  · exact ⟨by assumption, h⟩
  · cases h
theorem txn_v (k : Nat) {n : Int} (hn : 0 ≤ n ∧ n < 18446744073709551616) (cl : Int) (nt nb : Nat) (T : List Sx) (nh nw : Nat) (B : List Tb) (M : Mp) (H W : List Lk) (ht : nt ≤ T.length) (hb : nt ≤ 1000000) :
    meta_Machine_txn k n cl nt nb T nh nw true B M H W = some (match txP (T.take nt) n with
      | none => Sum.inl ((), ((cl, (nt, ((), (nb, ((), ()))))), ((T, ()), ((nh, (nw, (true, ()))), ((B, ()), ((M, ()), ((H, ()), ((W, ()), ()))))))))
      | some _ => Sum.inr ((n - 1).toNat, ((cl, (nt, ((), (nb, ((), ()))))), ((T, ()), ((nh, (nw, (true, ()))), ((B, ()), ((M, ()), ((H, ()), ((W, ()), ()))))))))) := by
  rw [meta_Machine_txn_eq]
  by_cases h0 : n = 0
  · subst h0
    rw [bt rfl]; rfl
  · rw [bf h0, wr_u64 (by omega)]
    unfold txP
    rw [if_pos (by omega)]
    by_cases h1 : (nt : Int) < n
    · rw [bt h1, List.getElem?_eq_none (by rw [List.length_take]; omega)]
    · rw [bf h1, wr_u64 (by omega), inI_t (by omega) (by omega), must_tr, Nat.zero_add, List.getElem?_eq_getElem (by rw [List.length_take]; omega)]
theorem status_l0 (L : List Int) (hL : ∀ n ∈ L, 0 ≤ n ∧ n < 18446744073709551616) (hl : L.length ≤ 1000) (cl : Int) (nt nb : Nat) (T : List Sx) (nh nw : Nat) (B : List Tb) (M : Mp) (H W : List Lk) (ht : nt ≤ T.length) (hb : nt ≤ 1000000) :
    ∀ d j (acc : List Sx), j + d = L.length → acc.length ≤ j → Ev2 (fun k n => meta_Machine_status_l0 k n L (L.length : Int) (j : Int) cl nt nb T nh nw true B M H W 0 0 0 false [] [] [] 0 0 0 false acc [] [])
      (stsR (acc ++ (L.drop j).map (stP (T.take nt))), ((cl, (nt, ((), (nb, ((), ()))))), ((T, ()), ((nh, (nw, (true, ()))), ((B, ()), ((M, ()), ((H, ()), ((W, ()), (stsR (acc ++ (L.drop j).map (stP (T.take nt))), ()))))))))) := by
  intro d
  induction d with
  | zero =>
    intro j acc hj ha
    refine .up ⟨0, fun k n _ _ => ?_⟩
    show meta_Machine_status_l0 k (n + 1) _ _ _ _ _ _ _ _ _ _ _ _ _ _ _ _ _ _ _ _ _ _ _ _ _ _ _ _ = _
    rw [meta_Machine_status_l0_eq, bf (by omega), List.drop_eq_nil_of_le (by omega), List.map_nil, List.append_nil]; rfl
  | succ d ih =>
    intro j acc hj ha
    have hlt : j < L.length := by omega
    have hx : nth L (j : Int) = some L[j] := nth_get (List.getElem?_eq_getElem hlt)
    have hy := hL L[j] (List.getElem_mem hlt)
    rw [List.drop_eq_getElem_cons hlt, List.map_cons]
    generalize L[j] = x at hx hy
    obtain ⟨K, hK⟩ := ih (j + 1) (acc ++ [stP (T.take nt) x]) (by omega) (by rw [List.length_append]; simp; omega)
    rw [List.append_assoc] at hK
    refine .up ⟨K, fun k n hk hn => ?_⟩
    show meta_Machine_status_l0 k (n + 1) _ _ _ _ _ _ _ _ _ _ _ _ _ _ _ _ _ _ _ _ _ _ _ _ _ _ _ _ = _
    have l1 : ∀ y : Sx, acc.length + ([y] : List Sx).length ≤ 68719476736 := fun y => by simp; omega
    have hK' := hK k n hk hn
    rw [meta_Machine_status_l0_eq, bt (by omega), hx, Option.bind_some, txn_v k hy cl nt nb T nh nw B M H W ht hb, Option.bind_some, wr_suc (by omega)]
    cases h : txP (T.take nt) x with
    | none =>
      have e : stP (T.take nt) x = (x, ((0 : Int), ((0 : Int), ()))) := by unfold stP; rw [h]; rfl
      rw [e] at hK' ⊢
      simp only [sm]
      rw [lim_t (l1 _)]
      exact hK'
    | some s =>
      have e : stP (T.take nt) x = s := by unfold stP; rw [h]; rfl
      rw [e] at hK' ⊢
      have hs : T[(x - 1).toNat]? = some s := by
        unfold txP at h
        split at h
        · exact (take_at h).2
        · cases h
      simp only [sm, hs, Option.bind_some]
      rw [lim_t (l1 _)]
      exact hK'
theorem status_ev (c : Cm) (hL : ∀ n ∈ c.2.2.2.2.2.2.2.2.2.1, 0 ≤ n ∧ n < 18446744073709551616) (hl : c.2.2.2.2.2.2.2.2.2.1.length ≤ 1000) (cl : Int) (nt nb : Nat) (T : List Sx) (nh nw : Nat) (B : List Tb) (M : Mp) (H W : List Lk) (ht : nt ≤ T.length) (hb : nt ≤ 1000000) :
    Ev (fun k => meta_Machine_status k c cl nt nb T nh nw true B M H W) (stsR (c.2.2.2.2.2.2.2.2.2.1.map (stP (T.take nt))), ((cl, (nt, ((), (nb, ((), ()))))), ((T, ()), ((nh, (nw, (true, ()))), ((B, ()), ((M, ()), ((H, ()), ((W, ()), (stsR (c.2.2.2.2.2.2.2.2.2.1.map (stP (T.take nt))), ()))))))))) := by
  simp only [meta_Machine_status_eq]
  exact (status_l0 _ hL hl cl nt nb T nh nw B M H W ht hb _ 0 [] (Nat.zero_add _) (Nat.le_refl _)).dg
def decP (T : List Sx) (cl n : Int) (f : Bool) : Rs × (Int × List Sx) :=
  match txP T n with
  | none => (errR 150, (cl, T))
  | some s => if s.2.1 = 0 then (bif f then (stsR [(s.1, ((1 : Int), (cl + 1, ())))], (cl + 1, T.set (n - 1).toNat (s.1, ((1 : Int), (cl + 1, ()))))) else (stsR [(s.1, ((2 : Int), s.2.2))], (cl, T.set (n - 1).toNat (s.1, ((2 : Int), s.2.2))))) else (stsR [s], (cl, T))
theorem txP_at {T : List Sx} {n : Int} {s : Sx} (h : txP T n = some s) : 1 ≤ n ∧ T[(n - 1).toNat]? = some s := by
  unfold txP at h
  split at h
  · exact ⟨by assumption, h⟩
  · cases h
theorem get_set {α : Type} {l : List α} {j : Nat} {x y : α} (h : l[j]? = some x) : (l.set j y)[j]? = some y := by
  rw [List.getElem?_set_self]
  exact (List.getElem?_eq_some_iff.1 h).1
theorem decide_ev (c : Cm) (hn : 0 ≤ c.2.2.2.1 ∧ c.2.2.2.1 < 18446744073709551616) (cl : Int) (hc : 0 ≤ cl ∧ cl ≤ 1000) (nt nb : Nat) (T : List Sx) (nh nw : Nat) (B : List Tb) (M : Mp) (H W : List Lk) (ht : nt ≤ T.length) (hb : nt ≤ 1000000) :
    ∃ T', nt ≤ T'.length ∧ T'.take nt = (decP (T.take nt) cl c.2.2.2.1 c.2.2.2.2.2.1).2.2 ∧
    Ev (fun k => meta_Machine_decide k c cl nt nb T nh nw true B M H W) ((decP (T.take nt) cl c.2.2.2.1 c.2.2.2.2.2.1).1, (((decP (T.take nt) cl c.2.2.2.1 c.2.2.2.2.2.1).2.1, (nt, ((), (nb, ((), ()))))), ((T', ()), ((nh, (nw, (true, ()))), ((B, ()), ((M, ()), ((H, ()), ((W, ()), ((decP (T.take nt) cl c.2.2.2.1 c.2.2.2.2.2.1).1, ()))))))))) := by
  simp only [meta_Machine_decide_eq, txn_v _ hn cl nt nb T nh nw B M H W ht hb, Option.bind_some]
  unfold decP
  cases h : txP (T.take nt) c.2.2.2.1 with
  | none =>
    refine ⟨T, ht, rfl, .from 0 fun k => ?_⟩
    simp only [sm, meta_failed_eq, Option.bind_some]
    rfl
  | some s =>
    have hs := (take_at (txP_at h).2).2
    simp only [sm, hs, Option.bind_some]
    by_cases c0 : s.2.1 = 0
    · rw [if_pos c0]
      cases c.2.2.2.2.2.1 with
      | true =>
        refine ⟨(T.set (c.2.2.2.1 - 1).toNat (s.1, ((1 : Int), s.2.2))).set (c.2.2.2.1 - 1).toNat (s.1, ((1 : Int), (cl + 1, ()))), by simpa using ht, ?_, .from 1 fun k => ?_⟩
        · rw [List.set_set, List.take_set]; rfl
        · rw [dT c0]
          show (((T.set (c.2.2.2.1 - 1).toNat (s.1, ((1 : Int), s.2.2)))[(c.2.2.2.1 - 1).toNat]?).bind fun x27 => _) = _
          rw [get_set hs, Option.bind_some, meta_Machine_decide_j1_eq, meta_Machine_decide_j0_eq, wr_u64 (by omega), get_set (get_set hs)]
          rfl
      | false =>
        refine ⟨T.set (c.2.2.2.1 - 1).toNat (s.1, ((2 : Int), s.2.2)), by simpa using ht, ?_, .from 1 fun k => ?_⟩
        · rw [List.take_set]; rfl
        · rw [dT c0]
          show meta_Machine_decide_j1 (k + 1) _ _ _ _ _ _ _ _ _ _ _ _ _ _ _ _ _ _ _ = _
          rw [meta_Machine_decide_j1_eq, meta_Machine_decide_j0_eq, get_set hs]
          rfl
    · rw [if_neg c0]
      refine ⟨T, ht, rfl, .from 1 fun k => ?_⟩
      rw [dF c0]
      show meta_Machine_decide_j0 (k + 1) _ _ _ _ _ _ _ _ _ _ _ _ _ _ _ _ _ _ _ = _
      rw [meta_Machine_decide_j0_eq, hs]
      rfl
/-! Tables. -/
def colsB : List (List Int) → List Cl → Bool
  | _, [] => true
  | S, c :: cs => (!decide (c.1 ∈ S)) && ((decide (c.2.1 = 1) || decide (c.2.1 = 2)) && colsB (c.1 :: S) cs)
def idxB (n : Int) : List Int → List Int → Bool
  | _, [] => true
  | S, i :: is => (!decide (i ∈ S)) && ((!decide (i < 0)) && ((!decide (n ≤ i)) && idxB n (i :: S) is))
theorem beqL_iff (a b : List Int) : beqL a b = true ↔ a = b := by simp [beqL]
/-- A map to true holds what has been put into it. -/
def mpS {α : Type} [DecidableEq α] (f : α → Option Bool) (S : List α) : Prop := ∀ x, (f x).getD false = decide (x ∈ S)
theorem mpS_set {α : Type} [DecidableEq α] {f g : α → Option Bool} {S : List α} (h : mpS f S) (y : α) (h1 : g y = some true) (h2 : ∀ x, x ≠ y → g x = f x) : mpS g (y :: S) := by
  intro x
  by_cases e : x = y
  · subst e; rw [h1]; simp
  · rw [h2 x e, h x]; simp [e]
theorem mpI_set {M : List (Int × Bool)} {S : List Int} (h : mpS (fun x : Int => lookM (.int .i64) M x) S) (y : Int) : mpS (fun x : Int => lookM (.int .i64) (setM (.int .i64) M y true) x) (y :: S) :=
  mpS_set h y (lookM_same (kt := .int .i64) beqI_is M y true) fun x e => lookM_ne (kt := .int .i64) beqI_is M y x true e
theorem mpL_set {M : List (List Int × Bool)} {S : List (List Int)} (h : mpS (fun x : List Int => lookM .str M x) S) (y : List Int) : mpS (fun x : List Int => lookM .str (setM .str M y true) x) (y :: S) :=
  mpS_set h y (lookM_same (kt := .str) beqL_iff M y true) fun x e => lookM_ne (kt := .str) beqL_iff M y x true e
theorem may_l1 (n : Int) (I : List Int) (hI : I.length ≤ 1000) : ∀ d j (M : List (Int × Bool)) (S : List Int), j + d = I.length → mpS (fun x : Int => lookM (.int .i64) M x) S → Ev2 (fun k m => meta_may_l1 k m n I (I.length : Int) (j : Int) M) (idxB n S (I.drop j), ()) := by
  intro d
  induction d with
  | zero =>
    intro j M S hj hM
    refine .up ⟨0, fun k m _ _ => ?_⟩
    show meta_may_l1 k (m + 1) _ _ _ _ _ = _
    rw [meta_may_l1_eq, bf (by omega), List.drop_eq_nil_of_le (by omega)]; rfl
  | succ d ih =>
    intro j M S hj hM
    have hlt : j < I.length := by omega
    have hx : nth I (j : Int) = some I[j] := nth_get (List.getElem?_eq_getElem hlt)
    rw [List.drop_eq_getElem_cons hlt]
    generalize I[j] = x at hx
    obtain ⟨K, hK⟩ := ih (j + 1) _ _ (by omega) (mpI_set hM x)
    refine .up ⟨K, fun k m hk hm => ?_⟩
    show meta_may_l1 k (m + 1) _ _ _ _ _ = _
    rw [meta_may_l1_eq, bt (by omega), hx, Option.bind_some, show (lookM (.int .i64) M x).getD false = _ from hM x, wr_suc (by omega)]
    have hK' : meta_may_l1 k m n I (I.length : Int) ((j + 1 : Nat) : Int) (setM (.int .i64) M x true) = _ := hK k m hk hm
    rw [hK']
    show _ = some ((!decide (x ∈ S)) && ((!decide (x < 0)) && ((!decide (n ≤ x)) && idxB n (x :: S) (I.drop (j + 1)))), ())
    cases decide (x ∈ S) <;> cases decide (x < 0) <;> cases decide (n ≤ x) <;> rfl
theorem may_l0 (t : Tb) (n : Int) (C : List Cl) (hC : C.length ≤ 1000) (hI : t.2.2.2.2.1.length ≤ 1000) : ∀ d j (M : List (List Int × Bool)) (S : List (List Int)), j + d = C.length → mpS (fun x : List Int => lookM .str M x) S →
    Ev2 (fun k m => meta_may_l0 k m n C (C.length : Int) (j : Int) t.1 t.2.1 t.2.2.1 t.2.2.2.1 t.2.2.2.2.1 M []) (colsB S (C.drop j) && idxB n [] t.2.2.2.2.1, ()) := by
  intro d
  induction d with
  | zero =>
    intro j M S hj hM
    obtain ⟨K, hK⟩ := (may_l1 n t.2.2.2.2.1 hI _ 0 [] [] (Nat.zero_add _) (fun x => rfl)).dg
    refine .up ⟨K, fun k m hk _ => ?_⟩
    show meta_may_l0 k (m + 1) _ _ _ _ _ _ _ _ _ _ _ = _
    rw [meta_may_l0_eq, bf (by omega), List.drop_eq_nil_of_le (by omega)]
    exact hK k hk
  | succ d ih =>
    intro j M S hj hM
    have hlt : j < C.length := by omega
    have hx : nth C (j : Int) = some C[j] := nth_get (List.getElem?_eq_getElem hlt)
    rw [List.drop_eq_getElem_cons hlt]
    generalize C[j] = x at hx
    obtain ⟨K, hK⟩ := ih (j + 1) _ _ (by omega) (mpL_set hM x.1)
    refine .up ⟨K, fun k m hk hm => ?_⟩
    show meta_may_l0 k (m + 1) _ _ _ _ _ _ _ _ _ _ _ = _
    rw [meta_may_l0_eq, bt (by omega), hx, Option.bind_some, show (lookM .str M x.1).getD false = decide (x.1 ∈ S) from (hM x.1).trans (decide_eq_decide.2 Iff.rfl), wr_suc (by omega)]
    have hK' : meta_may_l0 k m n C (C.length : Int) ((j + 1 : Nat) : Int) t.1 t.2.1 t.2.2.1 t.2.2.2.1 t.2.2.2.2.1 (setM .str M x.1 true) [] = _ := hK k m hk hm
    rw [hK']
    show _ = some (((!decide (x.1 ∈ S)) && ((decide (x.2.1 = 1) || decide (x.2.1 = 2)) && colsB (x.1 :: S) (C.drop (j + 1)))) && idxB n [] t.2.2.2.2.1, ())
    cases decide (x.1 ∈ S) <;> cases decide (x.2.1 = 1) <;> cases decide (x.2.1 = 2) <;> rfl
def mayTB (t : Tb) : Bool := (!beqL t.2.1 []) && ((!decide ((t.2.2.1.length : Int) < 1)) && ((!decide (12 < (t.2.2.1.length : Int))) && ((!decide (t.2.2.2.1 < 0)) && ((!decide ((t.2.2.1.length : Int) ≤ t.2.2.2.1)) && ((!decide (4 < (t.2.2.2.2.1.length : Int))) && (colsB [[]] t.2.2.1 && idxB (t.2.2.1.length : Int) [] t.2.2.2.2.1))))))
theorem mayT_ev (t : Tb) : Ev (fun k => meta_may k t) (mayTB t, ()) := by
  simp only [meta_may_eq]
  unfold mayTB
  cases beqL t.2.1 [] with
  | true => exact .from 0 fun k => rfl
  | false =>
    by_cases c1 : (t.2.2.1.length : Int) < 1
    · rw [dT c1]; exact .from 0 fun k => rfl
    by_cases c2 : 12 < (t.2.2.1.length : Int)
    · rw [dF c1, dT c2]; exact .from 0 fun k => rfl
    by_cases c3 : t.2.2.2.1 < 0
    · rw [dF c1, dF c2, dT c3]; exact .from 0 fun k => rfl
    by_cases c4 : (t.2.2.1.length : Int) ≤ t.2.2.2.1
    · rw [dF c1, dF c2, dF c3, dT c4]; exact .from 0 fun k => rfl
    by_cases c5 : 4 < (t.2.2.2.2.1.length : Int)
    · rw [dF c1, dF c2, dF c3, dF c4, dT c5]; exact .from 0 fun k => rfl
    rw [dF c1, dF c2, dF c3, dF c4, dF c5]
    exact (may_l0 t (t.2.2.1.length : Int) t.2.2.1 (by omega) (by omega) _ 0 (setM .str [] [] true) [[]] (Nat.zero_add _) (mpL_set (fun x => rfl) [])).dg
theorem tab1_v (k : Nat) (y : Tb) (t : Tb) : meta_Machine_table_1 k y t.1 t.2.1 t.2.2.1 t.2.2.2.1 t.2.2.2.2.1 = some (beqL y.2.1 t.2.1, (t, ())) := meta_Machine_table_1_eq ..
theorem there_ev {B : List Tb} {c : Nat} (t : Tb) (hc : c ≤ B.length) (hb : c ≤ 100000) :
    Ev (fun k => slices_ContainsFunc_Table_Table_meta_Machine_table_1 k c B t.1 t.2.1 t.2.2.1 t.2.2.2.1 t.2.2.2.2.1) ((B.take c).any (fun y => beqL y.2.1 t.2.1), ((B, ()), (t, ()))) := by
  simp only [slices_ContainsFunc_Table_Table_meta_Machine_table_1_eq, slices_IndexFunc_Table_Table_meta_Machine_table_1_eq]
  have h := (idx_ev (L := fun k n i => slices_IndexFunc_Table_Table_meta_Machine_table_1_l0 k n c ((c : Nat) : Int) i B t.1 t.2.1 t.2.2.1 t.2.2.2.1 t.2.2.2.2.1) (W := B) (c := c) (p := fun y => beqL y.2.1 t.2.1)
    (A := fun i => (i, ((B, ()), (t, ())))) (B := ((-1 : Int), ((B, ()), (t, ())))) hc
    (fun k n j y hj hy => by
      show slices_IndexFunc_Table_Table_meta_Machine_table_1_l0 k (n + 1) _ _ _ _ _ _ _ _ _ = _
      rw [slices_IndexFunc_Table_Table_meta_Machine_table_1_l0_eq, bt (by omega), inI_t (by omega) (by omega), must_tr, Nat.zero_add, Int.toNat_natCast, hy, Option.bind_some, tab1_v, Option.bind_some, wr_suc (by omega)])
    (fun k n => by
      show slices_IndexFunc_Table_Table_meta_Machine_table_1_l0 k (n + 1) _ _ _ _ _ _ _ _ _ = _
      rw [slices_IndexFunc_Table_Table_meta_Machine_table_1_l0_eq, bf (by omega)]) c 0 (by omega)).dg
  refine .bind h (.from 0 fun k => ?_)
  rw [List.drop_zero, ← List.findIdx?_isSome]
  cases (B.take c).findIdx? fun y => beqL y.2.1 t.2.1 with
  | none => rfl
  | some i => show some (decide (0 ≤ ((0 + i : Nat) : Int)), _) = _; rw [dT (by omega)]; rfl
def setNN (C : List Cl) (k : Nat) : List Cl := match C[k]? with
  | some x => C.set k (x.1, (x.2.1, (true, x.2.2.2)))
  | none => C
def newT (n : Nat) (t : Tb) : Tb := ((n : Int) + 1, (t.2.1, (setNN t.2.2.1 t.2.2.2.1.toNat, (t.2.2.2.1, (t.2.2.2.2.1, ())))))
def tabR (l : List Tb) : Rs := ((0 : Int), ((0 : Int), ((0 : Int), (false, ([], ([], (l, ())))))))
def tabP (B : List Tb) (t : Tb) : Rs × List Tb := bif !mayTB t then (errR 151, B) else bif B.any (fun y => beqL y.2.1 t.2.1) then (errR 151, B) else bif decide (40 ≤ B.length) then (errR 151, B) else (tabR [newT B.length t], B ++ [newT B.length t])
theorem setNN_len (C : List Cl) (k : Nat) : (setNN C k).length = C.length := by unfold setNN; split <;> simp
theorem newT_sm {n : Nat} {t : Tb} (h : smT t) : smT (newT n t) := ⟨by unfold newT; rw [setNN_len]; exact h.1, h.2⟩
theorem mayTB_key {t : Tb} (h : mayTB t = true) : 0 ≤ t.2.2.2.1 ∧ t.2.2.2.1 < (t.2.2.1.length : Int) := by
  unfold mayTB at h
  simp only [Bool.and_eq_true, Bool.not_eq_true', decide_eq_false_iff_not] at h
  omega
theorem take_oneG {α : Type} {H : List α} {n : Nat} (x : α) (h : n ≤ H.length) : (apc H n [x]).take (n + 1) = H.take n ++ [x] ∧ n + 1 ≤ (apc H n [x]).length := by
  have e : apc H n [x] = H.take n ++ [x] := rfl
  have l : (H.take n ++ [x]).length = n + 1 := by rw [List.length_append, List.length_take, Nat.min_eq_left h]; rfl
  rw [e, ← l, List.take_length]
  exact ⟨rfl, Nat.le_refl _⟩
theorem table_ev (t : Tb) (hs : smT t) (cl : Int) (nt nb : Nat) (T : List Sx) (nh nw : Nat) (B : List Tb) (M : Mp) (H W : List Lk) (hb : nb ≤ B.length) (hb2 : nb ≤ 1000) :
    ∃ nb' B', nb' ≤ B'.length ∧ B'.take nb' = (tabP (B.take nb) t).2 ∧
    Ev (fun k => meta_Machine_table k t cl nt nb T nh nw true B M H W) ((tabP (B.take nb) t).1, ((cl, (nt, ((), (nb', ((), ()))))), ((T, ()), ((nh, (nw, (true, ()))), ((), ((M, ()), ((H, ()), ((W, ()), ((tabP (B.take nb) t).1, ((B', ()), ())))))))))) := by
  have hlen : (B.take nb).length = nb := by rw [List.length_take, Nat.min_eq_left hb]
  have h1 := there_ev t hb (by omega)
  have h2 := mayT_ev t
  simp only [meta_Machine_table_eq]
  unfold tabP
  cases hm : mayTB t with
  | false =>
    refine ⟨nb, B, hb, rfl, .bind h1 (.bind h2 (.from 0 fun k => ?_))⟩
    rw [hm, meta_failed_eq]; rfl
  | true =>
    cases ha : (B.take nb).any fun y => beqL y.2.1 t.2.1 with
    | true =>
      refine ⟨nb, B, hb, rfl, .bind h1 (.bind h2 (.from 0 fun k => ?_))⟩
      rw [hm, ha, meta_failed_eq]; rfl
    | false =>
      by_cases c : 40 ≤ nb
      · rw [hlen, dT c]
        refine ⟨nb, B, hb, rfl, .bind h1 (.bind h2 (.from 0 fun k => ?_))⟩
        rw [hm, ha, meta_failed_eq, dT (show (40 : Int) ≤ (nb : Int) by omega)]; rfl
      · rw [hlen, dF c]
        obtain ⟨k0, k1⟩ := mayTB_key hm
        have kx := List.getElem?_eq_getElem (l := t.2.2.1) (i := t.2.2.2.1.toNat) (by omega)
        have en : newT nb t = ((nb : Int) + 1, (t.2.1, (t.2.2.1.set t.2.2.2.1.toNat ((t.2.2.1[t.2.2.2.1.toNat]'(by omega)).1, ((t.2.2.1[t.2.2.2.1.toNat]'(by omega)).2.1, (true, (t.2.2.1[t.2.2.2.1.toNat]'(by omega)).2.2.2))), (t.2.2.2.1, (t.2.2.2.2.1, ()))))) := by
          unfold newT setNN; rw [kx]
        have h3 := copied_ev (L := [newT nb t]) (by intro x hx; rw [List.mem_singleton] at hx; subst hx; exact newT_sm hs) (by simp)
        obtain ⟨e1, e2⟩ := take_oneG (newT nb t) hb
        refine ⟨nb + 1, apc B nb [newT nb t], e2, e1, .bind h1 (.bind h2 ?_)⟩
        obtain ⟨K, hK⟩ := h3
        refine ⟨K, fun k hk => ?_⟩
        rw [hm, ha, dF (show ¬ (40 : Int) ≤ (nb : Int) by omega)]
        show (meta_copied_one k t).bind _ = _
        rw [copied1_v k t hs]
        show must (inI t.2.2.2.1 t.2.2.1.length) ((t.2.2.1[t.2.2.2.1.toNat]?).bind _) = _
        rw [inI_t k0 k1, must_tr, kx, Option.bind_some, wr_i64 (by omega), ← en, lim_t (by simp; omega)]
        show (meta_copied k [newT nb t]).bind _ = _
        rw [show meta_copied k [newT nb t] = _ from hK k hk]
        rfl
/-! Locks. -/
def lkP (c : Cm) : Lk := (c.2.2.2.1, (c.2.2.2.2.2.2.1.2.1, (c.2.2.2.2.2.2.1.2.2.1, (c.2.2.2.2.2.2.1.2.2.2.1, (c.2.2.2.2.2.2.1.2.2.2.2.1, ())))))
def opn (T : List Sx) (n : Int) : Bool := match txP T n with
  | some s => decide (s.2.1 = 0)
  | none => false
def flR (b : Bool) : Rs := ((0 : Int), ((0 : Int), ((0 : Int), (b, ([], ([], ([], ())))))))
theorem lock_ev (c : Cm) (hn : 0 ≤ c.2.2.2.1 ∧ c.2.2.2.1 < 18446744073709551616) (hl : smL (lkP c)) (cl : Int) (nt nb : Nat) (T : List Sx) (nh nw : Nat) (B : List Tb) (M : Mp) (H W : List Lk) (ht : nt ≤ T.length) (hb : nt ≤ 1000000)
    (hH : nh ≤ H.length) (hW : nw ≤ W.length) (b1 : nh ≤ 90) (b2 : nw ≤ 90) :
    ∃ r nh' nw' H' W', nh' ≤ H'.length ∧ nw' ≤ W'.length ∧
    Ev (fun k => meta_Machine_lock k c cl nt nb T nh nw true B M H W) (r, ((cl, (nt, ((), (nb, ((), ()))))), ((T, ()), ((nh', (nw', (true, ()))), ((B, ()), ((M, ()), ((), ((), (r, ((H', ()), ((W', ()), ()))))))))))) ∧
    ((opn (T.take nt) c.2.2.2.1 = false ∧ r = errR 150 ∧ nh' = nh ∧ nw' = nw ∧ H' = H ∧ W' = W) ∨
     (opn (T.take nt) c.2.2.2.1 = true ∧ ∃ b e, askR (H.take nh) (W.take nw) (lkP c) b e (H'.take nh') (W'.take nw') ∧ r = if e = 0 then flR b else errR e)) := by
  simp only [meta_Machine_lock_eq, txn_v _ hn cl nt nb T nh nw B M H W ht hb, Option.bind_some]
  unfold opn
  cases h : txP (T.take nt) c.2.2.2.1 with
  | none =>
    refine ⟨errR 150, nh, nw, H, W, hH, hW, .from 0 fun k => ?_, .inl ⟨rfl, rfl, rfl, rfl, rfl, rfl⟩⟩
    simp only [sm, meta_failed_eq, Option.bind_some]
    rfl
  | some s =>
    have hs := (take_at (txP_at h).2).2
    simp only [sm, hs, Option.bind_some]
    by_cases c0 : s.2.1 = 0
    · obtain ⟨b, e, nh', nw', H', W', hA, g1, g2, R⟩ := ask_ev (lkP c) hH hW b1 b2 hl.1 hl.2
      obtain ⟨K, hK⟩ := hA
      refine ⟨if e = 0 then flR b else errR e, nh', nw', H', W', g1, g2, ⟨K, fun k hk => ?_⟩, .inr ⟨dT c0, b, e, R, rfl⟩⟩
      show (bif !decide (s.2.1 = 0) then _ else (lock_Table_Ask k (lkP c) nh nw true H W).bind _) = _
      rw [dT c0, show lock_Table_Ask k (lkP c) nh nw true H W = _ from hK k hk]
      show (bif !decide (e = 0) then _ else _) = _
      by_cases e0 : e = 0
      · rw [dT e0, if_pos e0]; rfl
      · rw [dF e0, if_neg e0, meta_failed_eq]; rfl
    · refine ⟨errR 150, nh, nw, H, W, hH, hW, .from 0 fun k => ?_, .inl ⟨dF c0, rfl, rfl, rfl, rfl, rfl⟩⟩
      show (bif !decide (s.2.1 = 0) then _ else _) = _
      rw [dF c0, meta_failed_eq]; rfl
/-! A command. -/
structure MS where
  cl : Int
  T : List Sx
  B : List Tb
  hs : List Lk
  ws : List Lk
def lockable (c : Cm) (S : MS) : Bool := decide (c.2.2.1 = 4) && opn S.T c.2.2.2.1
def nx (n : Nat) : Sx := ((n : Int) + 1, ((0 : Int), ((0 : Int), ())))
def oneP (c : Cm) (S : MS) : Rs × MS :=
  if c.2.2.1 = 1 then (((0 : Int), ((S.T.length : Int) + 1, (S.cl, (false, ([], ([], ([], ()))))))), { S with T := S.T ++ [nx S.T.length] })
  else if c.2.2.1 = 2 then ((decP S.T S.cl c.2.2.2.1 c.2.2.2.2.2.1).1, { S with cl := (decP S.T S.cl c.2.2.2.1 c.2.2.2.2.2.1).2.1, T := (decP S.T S.cl c.2.2.2.1 c.2.2.2.2.2.1).2.2 })
  else if c.2.2.1 = 3 then (stsR (c.2.2.2.2.2.2.2.2.2.1.map (stP S.T)), S)
  else if c.2.2.1 = 4 then (errR 150, S)
  else if c.2.2.1 = 5 then (errR 0, { S with hs := goneP S.hs c.2.2.2.1, ws := goneP S.ws c.2.2.2.1 })
  else if c.2.2.1 = 6 then ((tabP S.B c.2.2.2.2.2.2.2.2.2.2.2.2.1).1, { S with B := (tabP S.B c.2.2.2.2.2.2.2.2.2.2.2.2.1).2 })
  else if c.2.2.1 = 7 then (tabR S.B, S)
  else (errR 1, S)
def oneR (c : Cm) (S : MS) (r : Rs) (S' : MS) : Prop :=
  (lockable c S = true ∧ ∃ b e hs' ws', askR S.hs S.ws (lkP c) b e hs' ws' ∧ r = (if e = 0 then flR b else errR e) ∧ S' = { S with hs := hs', ws := ws' }) ∨
  (lockable c S = false ∧ r = (oneP c S).1 ∧ S' = (oneP c S).2)
structure Rp (S : MS) (cl : Int) (nt nb : Nat) (T : List Sx) (nh nw : Nat) (B : List Tb) (H W : List Lk) : Prop where
  t : nt ≤ T.length
  b : nb ≤ B.length
  h : nh ≤ H.length
  w : nw ≤ W.length
  e : S = ⟨cl, T.take nt, B.take nb, H.take nh, W.take nw⟩
structure MI (S : MS) (n : Nat) : Prop where
  c0 : 0 ≤ S.cl
  c1 : S.cl ≤ n
  tl : S.T.length ≤ n
  bl : S.B.length ≤ n
  L : TI S.hs S.ws n
  ts : ∀ t ∈ S.B, smT t
structure smC (c : Cm) : Prop where
  n : 0 ≤ c.2.2.2.1 ∧ c.2.2.2.1 < 18446744073709551616
  l : smL (lkP c)
  x : ∀ n ∈ c.2.2.2.2.2.2.2.2.2.1, 0 ≤ n ∧ n < 18446744073709551616
  y : c.2.2.2.2.2.2.2.2.2.1.length ≤ 1000
  t : smT c.2.2.2.2.2.2.2.2.2.2.2.2.1
def mout (r : Rs) (cl : Int) (nt nb : Nat) (T : List Sx) (nh nw : Nat) (B : List Tb) (M : Mp) (H W : List Lk) : Rs × ((Int × (Nat × (Unit × (Nat × (Unit × Unit))))) × (Unit × ((Nat × (Nat × (Bool × Unit))) × (Unit × ((Mp × Unit) × (Unit × (Unit × (Rs × ((List Sx × Unit) × ((List Tb × Unit) × ((List Lk × Unit) × ((List Lk × Unit) × Unit)))))))))))) :=
  (r, ((cl, (nt, ((), (nb, ((), ()))))), ((), ((nh, (nw, (true, ()))), ((), ((M, ()), ((), ((), (r, ((T, ()), ((B, ()), ((H, ()), ((W, ()), ()))))))))))))) 
theorem one_ev {c : Cm} (C : smC c) {S : MS} {n : Nat} (I : MI S n) (hn : n ≤ 80) {cl : Int} {nt nb : Nat} {T : List Sx} {nh nw : Nat} {B : List Tb} (M : Mp) {H W : List Lk} (P : Rp S cl nt nb T nh nw B H W) :
    ∃ r S' cl' nt' nb' T' nh' nw' B' H' W', Rp S' cl' nt' nb' T' nh' nw' B' H' W' ∧ oneR c S r S' ∧ Ev (fun k => meta_Machine_one k c cl nt nb T nh nw true B M H W) (mout r cl' nt' nb' T' nh' nw' B' M H' W') := by
  obtain ⟨p1, p2, p3, p4, rfl⟩ := P
  have lt : (T.take nt).length = nt := by rw [List.length_take, Nat.min_eq_left p1]
  have lb : (B.take nb).length = nb := by rw [List.length_take, Nat.min_eq_left p2]
  have lh : (H.take nh).length = nh := by rw [List.length_take, Nat.min_eq_left p3]
  have lw : (W.take nw).length = nw := by rw [List.length_take, Nat.min_eq_left p4]
  have q1 := I.tl
  have q2 := I.bl
  have q3 := I.L.h
  have q4 := I.L.w
  have q5 : 0 ≤ cl := I.c0
  have q6 : cl ≤ n := I.c1
  simp only at q1 q2 q3 q4
  simp only [meta_Machine_one_eq]
  by_cases c1 : c.2.2.1 = 1
  · rw [dT c1]
    obtain ⟨e1, e2⟩ := take_oneG (nx nt) p1
    refine ⟨((0 : Int), ((nt : Int) + 1, (cl, (false, ([], ([], ([], ()))))))), ⟨cl, T.take nt ++ [nx nt], B.take nb, H.take nh, W.take nw⟩, cl, nt + 1, nb, apc T nt [nx nt], nh, nw, B, H, W, ⟨e2, p2, p3, p4, by rw [e1]⟩, .inr ⟨by unfold lockable; rw [dF (by omega)]; rfl, ?_, ?_⟩, .from 0 fun k => ?_⟩
    · unfold oneP; rw [if_pos c1]; simp only [lt]
    · unfold oneP; rw [if_pos c1]; simp only [lt]
    · show lim _ _ = _
      rw [lim_t (by simp; omega), wr_u64 (n := (nt : Int)) (by omega), wr_u64 (by omega)]
      rfl
  by_cases c2 : c.2.2.1 = 2
  · rw [dF c1, dT c2]
    obtain ⟨T', g1, g2, hE⟩ := decide_ev c C.n cl ⟨q5, by omega⟩ nt nb T nh nw B M H W p1 (by omega)
    refine ⟨_, _, _, nt, nb, T', nh, nw, B, H, W, ⟨g1, p2, p3, p4, rfl⟩, .inr ⟨by unfold lockable; rw [dF (by omega)]; rfl, ?_, ?_⟩, .bind hE (.from 0 fun k => rfl)⟩
    · unfold oneP; rw [if_neg c1, if_pos c2]
    · unfold oneP; rw [if_neg c1, if_pos c2, g2]
  by_cases c3 : c.2.2.1 = 3
  · rw [dF c1, dF c2, dT c3]
    refine ⟨_, _, cl, nt, nb, T, nh, nw, B, H, W, ⟨p1, p2, p3, p4, rfl⟩, .inr ⟨by unfold lockable; rw [dF (by omega)]; rfl, ?_, ?_⟩, .bind (status_ev c C.x C.y cl nt nb T nh nw B M H W p1 (by omega)) (.from 0 fun k => rfl)⟩
    · unfold oneP; rw [if_neg c1, if_neg c2, if_pos c3]
    · unfold oneP; rw [if_neg c1, if_neg c2, if_pos c3]
  by_cases c4 : c.2.2.1 = 4
  · rw [dF c1, dF c2, dF c3, dT c4]
    obtain ⟨r, nh', nw', H', W', g1, g2, hE, ⟨ho, rfl, rfl, rfl, rfl, rfl⟩ | ⟨ho, b, e, R, rfl⟩⟩ := lock_ev c C.n C.l cl nt nb T nh nw B M H W p1 (by omega) p3 p4 (by omega) (by omega)
    · refine ⟨_, _, cl, nt, nb, T, nh', nw', B, H', W', ⟨p1, p2, p3, p4, rfl⟩, .inr ⟨by unfold lockable; rw [dT c4]; exact ho, ?_, ?_⟩, .bind hE (.from 0 fun k => rfl)⟩
      · unfold oneP; rw [if_neg c1, if_neg c2, if_neg c3, if_pos c4]
      · unfold oneP; rw [if_neg c1, if_neg c2, if_neg c3, if_pos c4]
    · exact ⟨_, _, cl, nt, nb, T, nh', nw', B, H', W', ⟨p1, p2, g1, g2, rfl⟩, .inl ⟨by unfold lockable; rw [dT c4]; exact ho, b, e, _, _, R, rfl, rfl⟩, .bind hE (.from 0 fun k => rfl)⟩
  have nl : lockable c ⟨cl, T.take nt, B.take nb, H.take nh, W.take nw⟩ = false := by unfold lockable; rw [dF c4]; rfl
  by_cases c5 : c.2.2.1 = 5
  · rw [dF c1, dF c2, dF c3, dF c4, dT c5]
    obtain ⟨nh', nw', H', W', hE, g1, g2, g3, g4⟩ := free_ev (H := H) (W := W) c.2.2.2.1 p3 p4 (by omega) (by omega)
    refine ⟨errR 0, _, cl, nt, nb, T, nh', nw', B, H', W', ⟨p1, p2, g1, g2, rfl⟩, .inr ⟨nl, ?_, ?_⟩, .bind hE (.from 0 fun k => rfl)⟩
    · unfold oneP; rw [if_neg c1, if_neg c2, if_neg c3, if_neg c4, if_pos c5]
    · unfold oneP; rw [if_neg c1, if_neg c2, if_neg c3, if_neg c4, if_pos c5, g3, g4]
  by_cases c6 : c.2.2.1 = 6
  · rw [dF c1, dF c2, dF c3, dF c4, dF c5, dT c6]
    obtain ⟨nb', B', g1, g2, hE⟩ := table_ev c.2.2.2.2.2.2.2.2.2.2.2.2.1 C.t cl nt nb T nh nw B M H W p2 (by omega)
    refine ⟨_, _, cl, nt, nb', T, nh, nw, B', H, W, ⟨p1, g1, p3, p4, rfl⟩, .inr ⟨nl, ?_, ?_⟩, .bind hE (.from 0 fun k => rfl)⟩
    · unfold oneP; rw [if_neg c1, if_neg c2, if_neg c3, if_neg c4, if_neg c5, if_pos c6]
    · unfold oneP; rw [if_neg c1, if_neg c2, if_neg c3, if_neg c4, if_neg c5, if_pos c6, g2]
  by_cases c7 : c.2.2.1 = 7
  · rw [dF c1, dF c2, dF c3, dF c4, dF c5, dF c6, dT c7]
    refine ⟨tabR (B.take nb), _, cl, nt, nb, T, nh, nw, B, H, W, ⟨p1, p2, p3, p4, rfl⟩, .inr ⟨nl, ?_, ?_⟩, .bind (copied2_ev I.ts (by omega) p2) (.from 0 fun k => rfl)⟩
    · unfold oneP; rw [if_neg c1, if_neg c2, if_neg c3, if_neg c4, if_neg c5, if_neg c6, if_pos c7]
    · unfold oneP; rw [if_neg c1, if_neg c2, if_neg c3, if_neg c4, if_neg c5, if_neg c6, if_pos c7]
  · rw [dF c1, dF c2, dF c3, dF c4, dF c5, dF c6, dF c7]
    refine ⟨errR 1, _, cl, nt, nb, T, nh, nw, B, H, W, ⟨p1, p2, p3, p4, rfl⟩, .inr ⟨nl, ?_, ?_⟩, .from 0 fun k => ?_⟩
    · unfold oneP; rw [if_neg c1, if_neg c2, if_neg c3, if_neg c4, if_neg c5, if_neg c6, if_neg c7]
    · unfold oneP; rw [if_neg c1, if_neg c2, if_neg c3, if_neg c4, if_neg c5, if_neg c6, if_neg c7]
    · rw [meta_failed_eq]; rfl
/-! What a client is told again. -/
def toldP (M : Mp) (c : Cm) : Option Rs := if c.1 = 0 then none else match lookM (.int .u64) M c.1 with
  | none => none
  | some w => if w.1 < c.2.1 then none else if w.1 = c.2.1 then some w.2.1 else some (errR 1)
def noteP (M : Mp) (c : Cm) (r : Rs) : Mp := if c.1 = 0 then M else setM (.int .u64) M c.1 (c.2.1, (r, ()))
def doR (c : Cm) (S : MS) (M : Mp) (r : Rs) (S' : MS) (M' : Mp) : Prop :=
  (toldP M c = some r ∧ S' = S ∧ M' = M) ∨ (toldP M c = none ∧ oneR c S r S' ∧ M' = noteP M c r)
theorem do_ev {c : Cm} (C : smC c) {S : MS} {n : Nat} (I : MI S n) (hn : n ≤ 80) {cl : Int} {nt nb : Nat} {T : List Sx} {nh nw : Nat} {B : List Tb} (M : Mp) {H W : List Lk} (P : Rp S cl nt nb T nh nw B H W) :
    ∃ r S' M' cl' nt' nb' T' nh' nw' B' H' W', Rp S' cl' nt' nb' T' nh' nw' B' H' W' ∧ doR c S M r S' M' ∧ Ev (fun k => meta_Machine_Do k c cl nt nb T nh nw true B M H W) (mout r cl' nt' nb' T' nh' nw' B' M' H' W') := by
  obtain ⟨r, S', cl', nt', nb', T', nh', nw', B', H', W', P', R, hE⟩ := one_ev C I hn M P
  obtain ⟨K, hK⟩ := hE.sh
  have go : toldP M c = none → ∃ r S' M' cl' nt' nb' T' nh' nw' B' H' W', Rp S' cl' nt' nb' T' nh' nw' B' H' W' ∧ doR c S M r S' M' ∧ ∀ k, K ≤ k → ((meta_Machine_one (k + 1) c cl nt nb T nh nw true B M H W).bind fun r3 => (bif (!decide (c.1 = 0)) then meta_Machine_Do_j0 (k + 1) r3.2.1.1 r3.2.1.2.1 r3.2.1.2.2.2.1 r3.2.2.2.1.1 r3.2.2.2.1.2.1 r3.2.2.2.1.2.2.1 (setM (.int .u64) r3.2.2.2.2.2.1.1 c.1 (c.2.1, (r3.1, ()))) (0 : Int) (0 : Int) (0 : Int) false [] [] [] r3.1.1 r3.1.2.1 r3.1.2.2.1 r3.1.2.2.2.1 r3.1.2.2.2.2.1 r3.1.2.2.2.2.2.1 r3.1.2.2.2.2.2.2.1 r3.2.2.2.2.2.2.2.2.2.1.1 r3.2.2.2.2.2.2.2.2.2.2.1.1 r3.2.2.2.2.2.2.2.2.2.2.2.1.1 r3.2.2.2.2.2.2.2.2.2.2.2.2.1.1 else meta_Machine_Do_j0 (k + 1) r3.2.1.1 r3.2.1.2.1 r3.2.1.2.2.2.1 r3.2.2.2.1.1 r3.2.2.2.1.2.1 r3.2.2.2.1.2.2.1 r3.2.2.2.2.2.1.1 (0 : Int) (0 : Int) (0 : Int) false [] [] [] r3.1.1 r3.1.2.1 r3.1.2.2.1 r3.1.2.2.2.1 r3.1.2.2.2.2.1 r3.1.2.2.2.2.2.1 r3.1.2.2.2.2.2.2.1 r3.2.2.2.2.2.2.2.2.2.1.1 r3.2.2.2.2.2.2.2.2.2.2.1.1 r3.2.2.2.2.2.2.2.2.2.2.2.1.1 r3.2.2.2.2.2.2.2.2.2.2.2.2.1.1)) = some (mout r cl' nt' nb' T' nh' nw' B' M' H' W') := fun ht => by
    refine ⟨r, S', noteP M c r, cl', nt', nb', T', nh', nw', B', H', W', P', .inr ⟨ht, R, rfl⟩, fun k hk => ?_⟩
    rw [show meta_Machine_one (k + 1) c cl nt nb T nh nw true B M H W = _ from hK k hk, Option.bind_some]
    by_cases c0 : c.1 = 0
    · rw [dT c0, show noteP M c r = M from if_pos c0]
      exact meta_Machine_Do_j0_eq ..
    · rw [dF c0, show noteP M c r = setM (.int .u64) M c.1 (c.2.1, (r, ())) from if_neg c0]
      exact meta_Machine_Do_j0_eq ..
  by_cases c0 : c.1 = 0
  · obtain ⟨r, S', M', cl', nt', nb', T', nh', nw', B', H', W', P', R, hG⟩ := go (by unfold toldP; rw [if_pos c0])
    refine ⟨r, S', M', cl', nt', nb', T', nh', nw', B', H', W', P', R, .up ⟨K, fun k hk => ?_⟩⟩
    show meta_Machine_Do (k + 1) _ _ _ _ _ _ _ _ _ _ _ _ = _
    rw [meta_Machine_Do_eq, meta_Machine_ok_eq, Option.bind_some, ← hG k hk]
    conv => lhs; rw [dT c0]
    conv => rhs; rw [dT c0]
    rfl
  have td : toldP M c = (match lookM (.int .u64) M c.1 with
    | none => none
    | some w => if w.1 < c.2.1 then none else if w.1 = c.2.1 then some w.2.1 else some (errR 1)) := by unfold toldP; rw [if_neg c0]
  cases hm : lookM (.int .u64) M c.1 with
  | none =>
    obtain ⟨r, S', M', cl', nt', nb', T', nh', nw', B', H', W', P', R, hG⟩ := go (by rw [td, hm])
    refine ⟨r, S', M', cl', nt', nb', T', nh', nw', B', H', W', P', R, .up ⟨K, fun k hk => ?_⟩⟩
    show meta_Machine_Do (k + 1) _ _ _ _ _ _ _ _ _ _ _ _ = _
    rw [meta_Machine_Do_eq, meta_Machine_ok_eq, Option.bind_some, ← hG k hk, dF c0, hm]
    rfl
  | some w =>
    by_cases w1 : w.1 < c.2.1
    · obtain ⟨r, S', M', cl', nt', nb', T', nh', nw', B', H', W', P', R, hG⟩ := go (by rw [td, hm]; simp only [if_pos w1])
      refine ⟨r, S', M', cl', nt', nb', T', nh', nw', B', H', W', P', R, .up ⟨K, fun k hk => ?_⟩⟩
      show meta_Machine_Do (k + 1) _ _ _ _ _ _ _ _ _ _ _ _ = _
      rw [meta_Machine_Do_eq, meta_Machine_ok_eq, Option.bind_some, ← hG k hk, dF c0, hm]
      simp only [Option.getD_some, dT w1]
      rfl
    · by_cases w2 : w.1 = c.2.1
      · refine ⟨w.2.1, S, M, cl, nt, nb, T, nh, nw, B, H, W, P, .inl ⟨by rw [td, hm]; simp only [if_neg w1, if_pos w2], rfl, rfl⟩, .from 1 fun k => ?_⟩
        rw [meta_Machine_Do_eq, meta_Machine_ok_eq, Option.bind_some, dF c0, hm]
        simp only [Option.getD_some, dF w1, dT w2]
        rfl
      · refine ⟨errR 1, S, M, cl, nt, nb, T, nh, nw, B, H, W, P, .inl ⟨by rw [td, hm]; simp only [if_neg w1, if_neg w2], rfl, rfl⟩, .from 1 fun k => ?_⟩
        rw [meta_Machine_Do_eq, meta_Machine_ok_eq, Option.bind_some, dF c0, hm]
        simp only [Option.getD_some, dF w1, dF w2]
        rfl
theorem MI.mono {S : MS} {n m : Nat} (I : MI S n) (h : n ≤ m) : MI S m := ⟨I.c0, by have := I.c1; omega, by have := I.tl; omega, by have := I.bl; omega, ⟨by have := I.L.h; omega, by have := I.L.w; omega, I.L.sh, I.L.sw⟩, I.ts⟩
theorem decP_cl (T : List Sx) (cl n : Int) (f : Bool) : cl ≤ (decP T cl n f).2.1 ∧ (decP T cl n f).2.1 ≤ cl + 1 ∧ (decP T cl n f).2.2.length = T.length := by
  unfold decP
  cases txP T n with
  | none => exact ⟨Int.le_refl _, by show cl ≤ cl + 1; omega, rfl⟩
  | some s =>
    dsimp only
    split
    · cases f with
      | true => exact ⟨by show cl ≤ cl + 1; omega, Int.le_refl _, List.length_set⟩
      | false => exact ⟨Int.le_refl _, by show cl ≤ cl + 1; omega, List.length_set⟩
    · exact ⟨Int.le_refl _, by show cl ≤ cl + 1; omega, rfl⟩
theorem tabP_or (B : List Tb) (t : Tb) : (tabP B t).2 = B ∨ (tabP B t).2 = B ++ [newT B.length t] := by
  unfold tabP
  cases mayTB t with
  | false => exact .inl rfl
  | true =>
    cases B.any fun y => beqL y.2.1 t.2.1 with
    | true => exact .inl rfl
    | false =>
      cases decide (40 ≤ B.length) with
      | true => exact .inl rfl
      | false => exact .inr rfl
theorem MI.one {c : Cm} (C : smC c) {S : MS} {n : Nat} (I : MI S n) {r : Rs} {S' : MS} (R : oneR c S r S') : MI S' (n + 1) := by
  have J := I.mono (Nat.le_succ n)
  have c0 := I.c0
  have c1 := I.c1
  have tl := I.tl
  rcases R with ⟨_, b, e, hs', ws', R, _, rfl⟩ | ⟨_, _, rfl⟩
  · exact ⟨J.c0, J.c1, J.tl, J.bl, I.L.ask C.l R, J.ts⟩
  · unfold oneP
    split
    · exact ⟨J.c0, J.c1, by simp; omega, J.bl, J.L, J.ts⟩
    split
    · obtain ⟨d1, d2, d3⟩ := decP_cl S.T S.cl c.2.2.2.1 c.2.2.2.2.2.1
      exact ⟨by show 0 ≤ (decP S.T S.cl c.2.2.2.1 c.2.2.2.2.2.1).2.1; omega, by show (decP S.T S.cl c.2.2.2.1 c.2.2.2.2.2.1).2.1 ≤ ((n + 1 : Nat) : Int); omega, by show (decP S.T S.cl c.2.2.2.1 c.2.2.2.2.2.1).2.2.length ≤ n + 1; omega, J.bl, J.L, J.ts⟩
    split
    · exact J
    split
    · exact J
    split
    · exact ⟨J.c0, J.c1, J.tl, J.bl, I.L.free _, J.ts⟩
    split
    · have bl := I.bl
      rcases tabP_or S.B c.2.2.2.2.2.2.2.2.2.2.2.2.1 with h | h
      · exact ⟨J.c0, J.c1, J.tl, by simp only [h]; omega, J.L, by simp only [h]; exact J.ts⟩
      · refine ⟨J.c0, J.c1, J.tl, by simp only [h, List.length_append, List.length_singleton]; omega, J.L, ?_⟩
        simp only [h]
        intro t ht
        rcases List.mem_append.1 ht with ht | ht
        · exact I.ts t ht
        · rw [List.mem_singleton] at ht; subst ht; exact newT_sm C.t
    split
    · exact J
    · exact J
theorem MI.do {c : Cm} (C : smC c) {S : MS} {n : Nat} (I : MI S n) {M : Mp} {r : Rs} {S' : MS} {M' : Mp} (R : doR c S M r S' M') : MI S' (n + 1) := by
  rcases R with ⟨_, rfl, _⟩ | ⟨_, R, _⟩
  · exact I.mono (Nat.le_succ n)
  · exact I.one C R
theorem MI.new : MI ⟨0, [], [], [], []⟩ 0 := ⟨Int.le_refl _, Int.le_refl _, Nat.le_refl _, Nat.le_refl _, ⟨Nat.le_refl _, Nat.le_refl _, nofun, nofun⟩, nofun⟩
theorem Rp.new : Rp ⟨0, [], [], [], []⟩ 0 0 0 [] 0 0 [] [] [] := ⟨Nat.le_refl _, Nat.le_refl _, Nat.le_refl _, Nat.le_refl _, rfl⟩
abbrev LockD := Int × (Int × (Int × ((List Int) × ((List Int) × Unit))))
abbrev WrD := (List Int) × (Bool × ((List Int) × Unit))
abbrev ColD := (List Int) × (Int × (Bool × Unit))
abbrev TabD := Int × ((List Int) × ((List ColD) × (Int × ((List Int) × Unit))))
abbrev CmdD := Int × (Int × (Int × (Int × (Int × (Bool × (LockD × ((List Int) × ((List Int) × ((List Int) × ((List WrD) × ((List (List Int)) × (TabD × Unit))))))))))))
def sW (x : WrD) : Bool := decide (x.1.length + x.2.2.1.length ≤ 300)
def sK (x : List Int) : Bool := decide (x.length ≤ 100)
def sCo (x : ColD) : Bool := decide (x.1.length ≤ 100)
/-- A small command. -/
def sC (c : CmdD) : Bool := decide (c.2.2.2.2.2.2.2.1.length + c.2.2.2.2.2.2.2.2.1.length + c.2.2.2.2.2.2.1.2.2.2.1.length + c.2.2.2.2.2.2.1.2.2.2.2.1.length ≤ 200) && (decide (c.2.2.2.2.2.2.2.2.2.1.length ≤ 10) && (decide (c.2.2.2.2.2.2.2.2.2.2.1.length ≤ 10) &&
  (decide (c.2.2.2.2.2.2.2.2.2.2.2.1.length ≤ 10) && (decide (c.2.2.2.2.2.2.2.2.2.2.2.2.1.2.2.1.length ≤ 14) && (decide (c.2.2.2.2.2.2.2.2.2.2.2.2.1.2.2.2.2.1.length ≤ 6) && (decide (c.2.2.2.2.2.2.2.2.2.2.2.2.1.2.1.length ≤ 100) &&
  (c.2.2.2.2.2.2.2.2.2.2.1.all sW && (c.2.2.2.2.2.2.2.2.2.2.2.1.all sK && c.2.2.2.2.2.2.2.2.2.2.2.2.1.2.2.1.all sCo))))))))
theorem sm_l3 (k n : Nat) (v108 : (List (Int × (Int × (Int × (Int × (Int × (Bool × ((Int × (Int × (Int × ((List Int) × ((List Int) × Unit))))) × ((List Int) × ((List Int) × ((List Int) × ((List ((List Int) × (Bool × ((List Int) × Unit)))) × ((List (List Int)) × ((Int × ((List Int) × ((List ((List Int) × (Int × (Bool × Unit)))) × (Int × ((List Int) × Unit))))) × Unit))))))))))))))) (v109 : (List (Int × (Int × (Int × (Int × (Int × (Bool × ((Int × (Int × (Int × ((List Int) × ((List Int) × Unit))))) × ((List Int) × ((List Int) × ((List Int) × ((List ((List Int) × (Bool × ((List Int) × Unit)))) × ((List (List Int)) × ((Int × ((List Int) × ((List ((List Int) × (Int × (Bool × Unit)))) × (Int × ((List Int) × Unit))))) × Unit))))))))))))))) (v110 : Int) (v111 : Int) (v112 : (List Int)) (v113 : Int) (v114 : Bool) (v115 : (List ((List Int) × (Bool × ((List Int) × Unit))))) (v116 : Int) (v117 : Bool) (v118 : (List (List Int))) (v119 : Int) (v120 : Bool) (v121 : (List ((List Int) × (Int × (Bool × Unit))))) (v122 : Int) (v123 : Bool) (v124 : (List Int)) (v125 : Int) (v126 : Bool) (v127 : (List Int)) (v128 : Int) (v129 : Bool) (v130 : (List ((List Int) × (Int × (Bool × Unit))))) (v133 : Int) (v134 : Int) (v135 : Int) (v136 : Int) (v137 : Int) (v138 : Bool) (v139 : Int) (v140 : Int) (v141 : Int) (v142 : (List Int)) (v143 : (List Int)) (v144 : (List Int)) (v145 : (List Int)) (v146 : (List Int)) (v147 : (List ((List Int) × (Bool × ((List Int) × Unit))))) (v148 : (List (List Int))) (v149 : Int) (v150 : (List Int)) (v151 : (List ((List Int) × (Int × (Bool × Unit))))) (v152 : Int) (v153 : (List Int)) (hm : v130.length ≤ 9223372036854775807) (hq : ∀ x ∈ v130, (sCo x = true → decide (100 < (x.1.length : Int)) = false) ∧ (¬ sCo x = true → decide (100 < (x.1.length : Int)) = true)) : ∀ n1 j, j ≤ v130.length → v130.length - j < n1 →
    law15_Small_l3 k n n1 v108 v109 v110 v111 v112 v113 v114 v115 v116 v117 v118 v119 v120 v121 v122 v123 v124 v125 v126 v127 v128 v129 v130 (v130.length : Int) (j : Int) v133 v134 v135 v136 v137 v138 v139 v140 v141 v142 v143 v144 v145 v146 v147 v148 v149 v150 v151 v152 v153 = bif (v130.drop j).all sCo then law15_Small_l0 k n v108 v109 v110 (wr .i64 (v111 + 1)) else some (false, ())
  | 0, _, _, h => absurd h (Nat.not_lt_zero _)
  | n1 + 1, j, hj, hn => by
    rw [law15_Small_l3_eq]
    by_cases c : j < v130.length
    · have hx := List.getElem?_eq_getElem c
      rw [bt (by omega), nth_get hx, Option.bind_some, List.drop_eq_getElem_cons c, List.all_cons]
      have hb := hq v130[j] (List.getElem_mem c)
      by_cases c1 : sCo v130[j] = true
      · rw [c1, Bool.true_and, hb.1 c1, cond_false, wr_i64 (by omega)]
        exact sm_l3 k n v108 v109 v110 v111 v112 v113 v114 v115 v116 v117 v118 v119 v120 v121 v122 v123 v124 v125 v126 v127 v128 v129 v130 v133 v134 v135 v136 v137 v138 v139 v140 v141 v142 v143 v144 v145 v146 v147 v148 v149 v150 v151 v152 v153 hm hq n1 (j + 1) c (by omega)
      · rw [Bool.eq_false_iff.2 c1, Bool.false_and, hb.2 c1]; rfl
    · have : j = v130.length := by omega
      subst this
      rw [bf (by omega), List.drop_length]; rfl
theorem sm_l2 (k n : Nat) (v61 : (List (Int × (Int × (Int × (Int × (Int × (Bool × ((Int × (Int × (Int × ((List Int) × ((List Int) × Unit))))) × ((List Int) × ((List Int) × ((List Int) × ((List ((List Int) × (Bool × ((List Int) × Unit)))) × ((List (List Int)) × ((Int × ((List Int) × ((List ((List Int) × (Int × (Bool × Unit)))) × (Int × ((List Int) × Unit))))) × Unit))))))))))))))) (v62 : (List (Int × (Int × (Int × (Int × (Int × (Bool × ((Int × (Int × (Int × ((List Int) × ((List Int) × Unit))))) × ((List Int) × ((List Int) × ((List Int) × ((List ((List Int) × (Bool × ((List Int) × Unit)))) × ((List (List Int)) × ((Int × ((List Int) × ((List ((List Int) × (Int × (Bool × Unit)))) × (Int × ((List Int) × Unit))))) × Unit))))))))))))))) (v63 : Int) (v64 : Int) (v65 : (List Int)) (v66 : Int) (v67 : Bool) (v68 : (List ((List Int) × (Bool × ((List Int) × Unit))))) (v69 : Int) (v70 : Bool) (v71 : (List (List Int))) (v72 : Int) (v73 : Bool) (v74 : (List ((List Int) × (Int × (Bool × Unit))))) (v75 : Int) (v76 : Bool) (v77 : (List Int)) (v78 : Int) (v79 : Bool) (v80 : (List Int)) (v81 : Int) (v82 : Bool) (v83 : (List (List Int))) (v86 : Int) (v87 : Int) (v88 : Int) (v89 : Int) (v90 : Int) (v91 : Bool) (v92 : Int) (v93 : Int) (v94 : Int) (v95 : (List Int)) (v96 : (List Int)) (v97 : (List Int)) (v98 : (List Int)) (v99 : (List Int)) (v100 : (List ((List Int) × (Bool × ((List Int) × Unit))))) (v101 : (List (List Int))) (v102 : Int) (v103 : (List Int)) (v104 : (List ((List Int) × (Int × (Bool × Unit))))) (v105 : Int) (v106 : (List Int)) (hm : v83.length ≤ 9223372036854775807) (hq : ∀ x ∈ v83, (sK x = true → decide (100 < (x.length : Int)) = false) ∧ (¬ sK x = true → decide (100 < (x.length : Int)) = true)) : ∀ n1 j, j ≤ v83.length → v83.length - j < n1 →
    law15_Small_l2 k n n1 v61 v62 v63 v64 v65 v66 v67 v68 v69 v70 v71 v72 v73 v74 v75 v76 v77 v78 v79 v80 v81 v82 v83 (v83.length : Int) (j : Int) v86 v87 v88 v89 v90 v91 v92 v93 v94 v95 v96 v97 v98 v99 v100 v101 v102 v103 v104 v105 v106 = bif (v83.drop j).all sK then law15_Small_l3 k n k v61 v62 v63 v64 v65 v66 v67 v68 v69 v70 v71 v72 v73 v74 v75 v76 v77 v78 v79 v80 v81 v82 v104 (v104.length : Int) (0 : Int) v86 v87 v88 v89 v90 v91 v92 v93 v94 v95 v96 v97 v98 v99 v100 v101 v102 v103 v104 v105 v106 else some (false, ())
  | 0, _, _, h => absurd h (Nat.not_lt_zero _)
  | n1 + 1, j, hj, hn => by
    rw [law15_Small_l2_eq]
    by_cases c : j < v83.length
    · have hx := List.getElem?_eq_getElem c
      rw [bt (by omega), nth_get hx, Option.bind_some, List.drop_eq_getElem_cons c, List.all_cons]
      have hb := hq v83[j] (List.getElem_mem c)
      by_cases c1 : sK v83[j] = true
      · rw [c1, Bool.true_and, hb.1 c1, cond_false, wr_i64 (by omega)]
        exact sm_l2 k n v61 v62 v63 v64 v65 v66 v67 v68 v69 v70 v71 v72 v73 v74 v75 v76 v77 v78 v79 v80 v81 v82 v83 v86 v87 v88 v89 v90 v91 v92 v93 v94 v95 v96 v97 v98 v99 v100 v101 v102 v103 v104 v105 v106 hm hq n1 (j + 1) c (by omega)
      · rw [Bool.eq_false_iff.2 c1, Bool.false_and, hb.2 c1]; rfl
    · have : j = v83.length := by omega
      subst this
      rw [bf (by omega), List.drop_length]; rfl
theorem sm_l1 (k n : Nat) (v14 : (List (Int × (Int × (Int × (Int × (Int × (Bool × ((Int × (Int × (Int × ((List Int) × ((List Int) × Unit))))) × ((List Int) × ((List Int) × ((List Int) × ((List ((List Int) × (Bool × ((List Int) × Unit)))) × ((List (List Int)) × ((Int × ((List Int) × ((List ((List Int) × (Int × (Bool × Unit)))) × (Int × ((List Int) × Unit))))) × Unit))))))))))))))) (v15 : (List (Int × (Int × (Int × (Int × (Int × (Bool × ((Int × (Int × (Int × ((List Int) × ((List Int) × Unit))))) × ((List Int) × ((List Int) × ((List Int) × ((List ((List Int) × (Bool × ((List Int) × Unit)))) × ((List (List Int)) × ((Int × ((List Int) × ((List ((List Int) × (Int × (Bool × Unit)))) × (Int × ((List Int) × Unit))))) × Unit))))))))))))))) (v16 : Int) (v17 : Int) (v18 : (List Int)) (v19 : Int) (v20 : Bool) (v21 : (List ((List Int) × (Bool × ((List Int) × Unit))))) (v22 : Int) (v23 : Bool) (v24 : (List (List Int))) (v25 : Int) (v26 : Bool) (v27 : (List ((List Int) × (Int × (Bool × Unit))))) (v28 : Int) (v29 : Bool) (v30 : (List Int)) (v31 : Int) (v32 : Bool) (v33 : (List Int)) (v34 : Int) (v35 : Bool) (v36 : (List ((List Int) × (Bool × ((List Int) × Unit))))) (v39 : Int) (v40 : Int) (v41 : Int) (v42 : Int) (v43 : Int) (v44 : Bool) (v45 : Int) (v46 : Int) (v47 : Int) (v48 : (List Int)) (v49 : (List Int)) (v50 : (List Int)) (v51 : (List Int)) (v52 : (List Int)) (v53 : (List ((List Int) × (Bool × ((List Int) × Unit))))) (v54 : (List (List Int))) (v55 : Int) (v56 : (List Int)) (v57 : (List ((List Int) × (Int × (Bool × Unit))))) (v58 : Int) (v59 : (List Int)) (hm : v36.length ≤ 9223372036854775807) (hq : ∀ x ∈ v36, (sW x = true → decide (300 < (wr .i64 ((x.1.length : Int) + (x.2.2.1.length : Int)))) = false) ∧ (¬ sW x = true → decide (300 < (wr .i64 ((x.1.length : Int) + (x.2.2.1.length : Int)))) = true)) : ∀ n1 j, j ≤ v36.length → v36.length - j < n1 →
    law15_Small_l1 k n n1 v14 v15 v16 v17 v18 v19 v20 v21 v22 v23 v24 v25 v26 v27 v28 v29 v30 v31 v32 v33 v34 v35 v36 (v36.length : Int) (j : Int) v39 v40 v41 v42 v43 v44 v45 v46 v47 v48 v49 v50 v51 v52 v53 v54 v55 v56 v57 v58 v59 = bif (v36.drop j).all sW then law15_Small_l2 k n k v14 v15 v16 v17 v18 v19 v20 v21 v22 v23 v24 v25 v26 v27 v28 v29 v30 v31 v32 v33 v34 v35 v54 (v54.length : Int) (0 : Int) v39 v40 v41 v42 v43 v44 v45 v46 v47 v48 v49 v50 v51 v52 v53 v54 v55 v56 v57 v58 v59 else some (false, ())
  | 0, _, _, h => absurd h (Nat.not_lt_zero _)
  | n1 + 1, j, hj, hn => by
    rw [law15_Small_l1_eq]
    by_cases c : j < v36.length
    · have hx := List.getElem?_eq_getElem c
      rw [bt (by omega), nth_get hx, Option.bind_some, List.drop_eq_getElem_cons c, List.all_cons]
      have hb := hq v36[j] (List.getElem_mem c)
      by_cases c1 : sW v36[j] = true
      · rw [c1, Bool.true_and, hb.1 c1, cond_false, wr_i64 (by omega)]
        exact sm_l1 k n v14 v15 v16 v17 v18 v19 v20 v21 v22 v23 v24 v25 v26 v27 v28 v29 v30 v31 v32 v33 v34 v35 v36 v39 v40 v41 v42 v43 v44 v45 v46 v47 v48 v49 v50 v51 v52 v53 v54 v55 v56 v57 v58 v59 hm hq n1 (j + 1) c (by omega)
      · rw [Bool.eq_false_iff.2 c1, Bool.false_and, hb.2 c1]; rfl
    · have : j = v36.length := by omega
      subst this
      rw [bf (by omega), List.drop_length]; rfl
def RB : Nat := 140737488351232
structure SzC (x : CmdD) : Prop where
  lo : x.2.2.2.2.2.2.2.1.length ≤ RB
  hi : x.2.2.2.2.2.2.2.2.1.length ≤ RB
  llo : x.2.2.2.2.2.2.1.2.2.2.1.length ≤ RB
  lhi : x.2.2.2.2.2.2.1.2.2.2.2.1.length ≤ RB
  wr : ∀ w ∈ x.2.2.2.2.2.2.2.2.2.2.1, w.1.length ≤ RB ∧ w.2.2.1.length ≤ RB
  wl : x.2.2.2.2.2.2.2.2.2.2.1.length ≤ 9223372036854775807
  kl : x.2.2.2.2.2.2.2.2.2.2.2.1.length ≤ 9223372036854775807
  cl : x.2.2.2.2.2.2.2.2.2.2.2.2.1.2.2.1.length ≤ 9223372036854775807
theorem small_l0 (k : Nat) (hk : 20 ≤ k) (l : List CmdD) (hm : l.length ≤ 9223372036854775807) (hz : ∀ x ∈ l, SzC x) : ∀ n j, j ≤ l.length → l.length - j < n →
    law15_Small_l0 k n l l (l.length : Int) (j : Int) = some ((l.drop j).all sC && decide (l.length ≤ 40), ())
  | 0, _, _, h => absurd h (Nat.not_lt_zero _)
  | n + 1, j, hj, hn => by
    rw [law15_Small_l0_eq]
    by_cases c : j < l.length
    · have hx := List.getElem?_eq_getElem c
      rw [bt (by omega), nth_get hx, Option.bind_some, List.drop_eq_getElem_cons c, List.all_cons]
      have hzx := hz l[j] (List.getElem_mem c)
      have ih := small_l0 k hk l hm hz n (j + 1) c (by omega)
      generalize l[j] = x at hzx
      have z1 := hzx.lo; have z2 := hzx.hi; have z3 := hzx.llo; have z4 := hzx.lhi
      unfold RB at z1 z2 z3 z4
      rw [wr_i64 (n := (x.2.2.2.2.2.2.2.1.length : Int) + (x.2.2.2.2.2.2.2.2.1.length : Int)) (by omega), wr_i64 (n := (x.2.2.2.2.2.2.2.1.length : Int) + (x.2.2.2.2.2.2.2.2.1.length : Int) + (x.2.2.2.2.2.2.1.2.2.2.1.length : Int)) (by omega), wr_i64 (by omega)]
      by_cases c0 : x.2.2.2.2.2.2.2.1.length + x.2.2.2.2.2.2.2.2.1.length + x.2.2.2.2.2.2.1.2.2.2.1.length + x.2.2.2.2.2.2.1.2.2.2.2.1.length ≤ 200
      rotate_left
      · rw [bt (by omega), show sC x = false from by simp only [sC, dF c0, Bool.false_and]]; rfl
      rw [bf (by omega)]
      by_cases c1 : x.2.2.2.2.2.2.2.2.2.1.length ≤ 10
      rotate_left
      · rw [bt (by omega), show sC x = false from by simp only [sC, dF c1, Bool.false_and, Bool.and_false]]; rfl
      rw [bf (by omega)]
      by_cases c2 : x.2.2.2.2.2.2.2.2.2.2.1.length ≤ 10
      rotate_left
      · rw [bt (by omega), show sC x = false from by simp only [sC, dF c2, Bool.false_and, Bool.and_false]]; rfl
      rw [bf (by omega)]
      by_cases c3 : x.2.2.2.2.2.2.2.2.2.2.2.1.length ≤ 10
      rotate_left
      · rw [bt (by omega), show sC x = false from by simp only [sC, dF c3, Bool.false_and, Bool.and_false]]; rfl
      rw [bf (by omega)]
      by_cases c4 : x.2.2.2.2.2.2.2.2.2.2.2.2.1.2.2.1.length ≤ 14
      rotate_left
      · rw [bt (by omega), show sC x = false from by simp only [sC, dF c4, Bool.false_and, Bool.and_false]]; rfl
      rw [bf (by omega)]
      by_cases c5 : x.2.2.2.2.2.2.2.2.2.2.2.2.1.2.2.2.2.1.length ≤ 6
      rotate_left
      · rw [bt (by omega), show sC x = false from by simp only [sC, dF c5, Bool.false_and, Bool.and_false]]; rfl
      rw [bf (by omega)]
      by_cases c6 : x.2.2.2.2.2.2.2.2.2.2.2.2.1.2.1.length ≤ 100
      rotate_left
      · rw [bt (by omega), show sC x = false from by simp only [sC, dF c6, Bool.false_and, Bool.and_false]]; rfl
      rw [bf (by omega)]
      have hs : sC x = (x.2.2.2.2.2.2.2.2.2.2.1.all sW && (x.2.2.2.2.2.2.2.2.2.2.2.1.all sK && x.2.2.2.2.2.2.2.2.2.2.2.2.1.2.2.1.all sCo)) := by simp only [sC, dT c0, dT c1, dT c2, dT c3, dT c4, dT c5, dT c6, Bool.true_and]
      rw [hs]
      refine (sm_l1 k n _ _ _ _ _ _ _ _ _ _ _ _ _ _ _ _ _ _ _ _ _ _ _ _ _ _ _ _ _ _ _ _ _ _ _ _ _ _ _ _ _ _ _ _ hzx.wl (fun w hw => ?_) k 0 (by omega) (by omega)).trans ?_
      · have hw := hzx.wr w (by simpa using hw)
        unfold RB at hw
        unfold sW
        rw [wr_i64 (by omega), decide_eq_true_eq, decide_eq_false_iff_not, decide_eq_true_eq]
        constructor <;> omega
      rw [List.drop_zero]
      by_cases d1 : x.2.2.2.2.2.2.2.2.2.2.1.all sW = true
      rotate_left
      · rw [Bool.eq_false_iff.2 d1]; rfl
      rw [d1, cond_true, Bool.true_and]
      refine (sm_l2 k n _ _ _ _ _ _ _ _ _ _ _ _ _ _ _ _ _ _ _ _ _ _ _ _ _ _ _ _ _ _ _ _ _ _ _ _ _ _ _ _ _ _ _ _ hzx.kl (fun w hw => ?_) k 0 (by omega) (by omega)).trans ?_
      · unfold sK
        rw [decide_eq_true_eq, decide_eq_false_iff_not, decide_eq_true_eq]
        constructor <;> omega
      rw [List.drop_zero]
      by_cases d2 : x.2.2.2.2.2.2.2.2.2.2.2.1.all sK = true
      rotate_left
      · rw [Bool.eq_false_iff.2 d2]; rfl
      rw [d2, cond_true, Bool.true_and]
      refine (sm_l3 k n _ _ _ _ _ _ _ _ _ _ _ _ _ _ _ _ _ _ _ _ _ _ _ _ _ _ _ _ _ _ _ _ _ _ _ _ _ _ _ _ _ _ _ _ hzx.cl (fun w hw => ?_) k 0 (by omega) (by omega)).trans ?_
      · unfold sCo
        rw [decide_eq_true_eq, decide_eq_false_iff_not, decide_eq_true_eq]
        constructor <;> omega
      rw [List.drop_zero]
      by_cases d3 : x.2.2.2.2.2.2.2.2.2.2.2.2.1.2.2.1.all sCo = true
      rotate_left
      · rw [Bool.eq_false_iff.2 d3]; rfl
      rw [d3, cond_true, Bool.true_and, wr_i64 (by omega)]
      exact ih
    · have : j = l.length := by omega
      subst this
      rw [bf (by omega), List.drop_length, List.all_nil, Bool.true_and]
      congr 2
      exact decide_eq_decide.2 (by omega)
theorem small_ev {l : List CmdD} (hm : l.length ≤ 9223372036854775807) (hz : ∀ x ∈ l, SzC x) : Ev (fun k => law15_Small k l) (l.all sC && decide (l.length ≤ 40), ()) := by
  refine ⟨l.length + 20, fun k hk => ?_⟩
  show law15_Small k l = _
  rw [law15_Small_eq]
  exact small_l0 k (by omega) l hm hz k 0 (by omega) (by omega)
structure SmC (x : CmdD) : Prop where
  t : x.2.2.2.2.2.2.2.1.length + x.2.2.2.2.2.2.2.2.1.length + x.2.2.2.2.2.2.1.2.2.2.1.length + x.2.2.2.2.2.2.1.2.2.2.2.1.length ≤ 200
  tx : x.2.2.2.2.2.2.2.2.2.1.length ≤ 10
  wr : x.2.2.2.2.2.2.2.2.2.2.1.length ≤ 10
  ky : x.2.2.2.2.2.2.2.2.2.2.2.1.length ≤ 10
  co : x.2.2.2.2.2.2.2.2.2.2.2.2.1.2.2.1.length ≤ 14
  ix : x.2.2.2.2.2.2.2.2.2.2.2.2.1.2.2.2.2.1.length ≤ 6
  na : x.2.2.2.2.2.2.2.2.2.2.2.2.1.2.1.length ≤ 100
  ws : ∀ w ∈ x.2.2.2.2.2.2.2.2.2.2.1, w.1.length + w.2.2.1.length ≤ 300
  ks : ∀ w ∈ x.2.2.2.2.2.2.2.2.2.2.2.1, w.length ≤ 100
  cs : ∀ w ∈ x.2.2.2.2.2.2.2.2.2.2.2.2.1.2.2.1, w.1.length ≤ 100
theorem sC_of {x : CmdD} (h : sC x = true) : SmC x := by
  simp only [sC, Bool.and_eq_true, decide_eq_true_eq, List.all_eq_true, sW, sK, sCo] at h
  obtain ⟨h0, h1, h2, h3, h4, h5, h6, h7, h8, h9⟩ := h
  exact ⟨h0, h1, h2, h3, h4, h5, h6, h7, h8, h9⟩

theorem awake15 (k : Nat) : law15_awake k = some (true, ()) := by
  simp only [law15_awake_eq, meta_New_eq, lock_New_eq, Option.bind_some, meta_Machine_Do_z_eq, meta_Machine_ok_eq, meta_Machine_one_z_eq]
  rfl
abbrev CT : Ty := (.st (.pair (.int .u64) (.pair (.int .u64) (.pair (.int .i64) (.pair (.int .u64) (.pair (.int .u64) (.pair .bool (.pair (.st (.pair (.int .u64) (.pair (.int .i64) (.pair (.int .i64) (.pair (.sl (.int .u8)) (.pair (.sl (.int .u8)) .unit)))))) (.pair (.sl (.int .u8)) (.pair (.sl (.int .u8)) (.pair (.sl (.int .u64)) (.pair (.sl (.st (.pair (.sl (.int .u8)) (.pair .bool (.pair (.sl (.int .u8)) .unit))))) (.pair (.sl (.sl (.int .u8))) (.pair (.st (.pair (.int .i64) (.pair .str (.pair (.sl (.st (.pair .str (.pair (.int .i64) (.pair .bool .unit))))) (.pair (.int .i64) (.pair (.sl (.int .i64)) .unit)))))) .unit))))))))))))))
theorem szC_of {c : CmdD} (h : szD CT c) (f : wfD CT c) : SzC c := by
  obtain ⟨_, _, _, _, _, _, ⟨_, _, _, b4, b5, _⟩, a8, a9, _, a11, a12, ⟨_, _, t3, _⟩, _⟩ := h
  obtain ⟨_, _, _, _, _, _, _, _, _, _, f11, f12, ⟨_, _, f3, _⟩, _⟩ := f
  exact ⟨a8.1 rfl, a9.1 rfl, b4.1 rfl, b5.1 rfl, fun x hx => ⟨(a11.2 x hx).1.1 rfl, (a11.2 x hx).2.2.1.1 rfl⟩, f11.1, f12.1, f3.1⟩
theorem w64 {n : Int} (h : (Lit.int .u64 n).wf = true) : 0 ≤ n ∧ n < 18446744073709551616 := by
  have := wf_u64 h
  exact ⟨this.1, by omega⟩
theorem smC_of {c : CmdD} (f : wfD CT c) (h : SmC c) : smC c := by
  obtain ⟨_, _, _, a4, _, _, _, _, _, a10, _⟩ := f
  have h1 := h.t
  have h2 := h.tx
  have h3 := h.co
  have h4 := h.ix
  exact ⟨w64 a4, ⟨by unfold lkP; dsimp only; omega, by unfold lkP; dsimp only; omega⟩, fun n hn => w64 (a10.2 n hn), by omega, ⟨by omega, by omega⟩⟩
/-- A list of small commands. -/
theorem smL_of {l : List CmdD} (f : wfD (.sl CT) l) (h : (l.all sC && decide (l.length ≤ 40)) = true) : l.length ≤ 40 ∧ ∀ c ∈ l, smC c := by
  rw [Bool.and_eq_true, decide_eq_true_eq, List.all_eq_true] at h
  exact ⟨h.2, fun c hc => smC_of (f.2 c hc) (sC_of (h.1 c hc))⟩
theorem smallL_ev {l : List CmdD} (f : wfD (.sl CT) l) (z : szD (.sl CT) l) : Ev (fun k => law15_Small k l) (l.all sC && decide (l.length ≤ 40), ()) :=
  small_ev (by have : l.length ≤ maxLen := f.1; have e : maxLen = 9223372036854775807 := by decide
               omega) fun x hx => szC_of (z.2 x hx) (f.2 x hx)
theorem bndD {α β : Type} {x : Option α} {r : α} {G : α → Option β} (h : x = some r) : x.bind G = G r := by rw [h]; rfl
abbrev SxT : Ty := .st (.pair (.int .u64) (.pair (.int .i64) (.pair (.int .u64) .unit)))
theorem decSx (x : Sx) : Ty.decEq SxT x x = true := by
  obtain ⟨a, b, c, ⟨⟩⟩ := x
  show (beqI a a && (beqI b b && (beqI c c && true))) = true
  unfold beqI; simp
/-- What became of transactions. -/
structure DI (T : List Sx) (cl : Int) : Prop where
  op : ∀ (i : Nat) (s : Sx), T[i]? = some s → s.2.1 = 1 → s.2.2.1 ≤ cl
  ne : ∀ (i j : Nat) (s t : Sx), i < j → T[i]? = some s → T[j]? = some t → s.2.1 = 1 → t.2.1 = 1 → s.2.2.1 ≠ t.2.2.1
def Keep (T T' : List Sx) : Prop := ∀ (i : Nat) (s : Sx), T[i]? = some s → s.2.1 ≠ 0 → T'[i]? = some s
theorem set_at {T : List Sx} {n i : Nat} {x s : Sx} (h : (T.set n x)[i]? = some s) : (i = n ∧ s = x) ∨ (i ≠ n ∧ T[i]? = some s) := by
  rw [List.getElem?_set] at h
  split at h
  · rename_i e
    split at h
    · exact .inl ⟨e.symm, (Option.some.inj h).symm⟩
    · cases h
  · rename_i e; exact .inr ⟨fun c => e c.symm, h⟩
theorem DI.set {T : List Sx} {cl cl' : Int} (D : DI T cl) (h : cl ≤ cl') {n : Nat} {s0 x : Sx} (h0 : T[n]? = some s0) (hz : s0.2.1 = 0) (hx : x.2.1 = 1 → cl < x.2.2.1 ∧ x.2.2.1 ≤ cl') : DI (T.set n x) cl' ∧ Keep T (T.set n x) := by
  refine ⟨⟨fun i s hi h1 => ?_, fun i j s t hij hi hj h1 h2 => ?_⟩, fun i s hi h1 => ?_⟩
  · rcases set_at hi with ⟨_, rfl⟩ | ⟨_, hi⟩
    · exact (hx h1).2
    · have := D.op i s hi h1; omega
  · rcases set_at hi with ⟨e1, rfl⟩ | ⟨_, hi⟩
    · rcases set_at hj with ⟨e2, rfl⟩ | ⟨_, hj⟩
      · omega
      · have := D.op j t hj h2; have := hx h1; omega
    · rcases set_at hj with ⟨_, e⟩ | ⟨_, hj⟩
      · have := D.op i s ‹_› h1; rw [e] at h2 ⊢; have := hx h2; omega
      · exact D.ne i j s t hij ‹_› hj h1 h2
  · rw [List.getElem?_set]
    split
    · rename_i e; subst e
      rw [h0] at hi
      cases hi; exact absurd hz h1
    · exact hi
theorem Keep.rfl {T : List Sx} : Keep T T := fun _ _ h _ => h
theorem app_at {T : List Sx} {i : Nat} {x s : Sx} (h : (T ++ [x])[i]? = some s) : T[i]? = some s ∨ s = x := by
  rw [List.getElem?_append] at h
  split at h
  · exact .inl h
  · right
    have := List.mem_of_getElem? h
    rwa [List.mem_singleton] at this
theorem DI.one {c : Cm} {S : MS} (D : DI S.T S.cl) {r : Rs} {S' : MS} (R : oneR c S r S') : DI S'.T S'.cl ∧ Keep S.T S'.T := by
  rcases R with ⟨_, b, e, hs', ws', R, _, rfl⟩ | ⟨_, _, rfl⟩
  · exact ⟨D, .rfl⟩
  · unfold oneP
    split
    · refine ⟨⟨fun i s hi h1 => ?_, fun i j s t hij hi hj h1 h2 => ?_⟩, fun i s hi _ => ?_⟩
      · rcases app_at hi with hi | rfl
        · exact D.op i s hi h1
        · cases h1
      · rcases app_at hi with hi | rfl
        · rcases app_at hj with hj | rfl
          · exact D.ne i j s t hij hi hj h1 h2
          · cases h2
        · cases h1
      · show (S.T ++ [_])[i]? = some s
        rw [List.getElem?_append_left (List.getElem?_eq_some_iff.1 hi).1]; exact hi
    split
    · show DI (decP S.T S.cl c.2.2.2.1 c.2.2.2.2.2.1).2.2 (decP S.T S.cl c.2.2.2.1 c.2.2.2.2.2.1).2.1 ∧ Keep S.T (decP S.T S.cl c.2.2.2.1 c.2.2.2.2.2.1).2.2
      unfold decP
      cases h : txP S.T c.2.2.2.1 with
      | none => exact ⟨D, .rfl⟩
      | some s =>
        dsimp only
        split
        · rename_i hz
          cases c.2.2.2.2.2.1 with
          | true => exact D.set (cl' := S.cl + 1) (by omega) (txP_at h).2 hz fun _ => ⟨by show S.cl < S.cl + 1; omega, Int.le_refl _⟩
          | false => exact D.set (Int.le_refl _) (txP_at h).2 hz fun h => by cases h
        · exact ⟨D, .rfl⟩
    split
    · exact ⟨D, .rfl⟩
    split
    · exact ⟨D, .rfl⟩
    split
    · exact ⟨D, .rfl⟩
    split
    · exact ⟨D, .rfl⟩
    split
    · exact ⟨D, .rfl⟩
    · exact ⟨D, .rfl⟩
theorem DI.do {c : Cm} {S : MS} (D : DI S.T S.cl) {M : Mp} {r : Rs} {S' : MS} {M' : Mp} (R : doR c S M r S' M') : DI S'.T S'.cl ∧ Keep S.T S'.T := by
  rcases R with ⟨_, rfl, _⟩ | ⟨_, R, _⟩
  · exact ⟨D, .rfl⟩
  · exact D.one R
def allN (n : Nat) : List Int := (List.range n).map fun (i : Nat) => (i : Int) + 1
theorem allN_len (n : Nat) : (allN n).length = n := by unfold allN; simp
def allC : Cm := ((0 : Int), ((0 : Int), ((3 : Int), ((0 : Int), ((0 : Int), (false, (((0 : Int), ((0 : Int), ((0 : Int), ([], ([], ()))))), ([], ([], (allN 45, ([], ([], (((0 : Int), ([], ([], ((0 : Int), ([], ()))))), ())))))))))))))
theorem allC_sm : smC allC := ⟨⟨Int.le_refl _, by decide⟩, ⟨Nat.zero_le _, Nat.zero_le _⟩, fun n hn => by
  obtain ⟨i, hi, rfl⟩ := List.mem_map.1 (show n ∈ allN 45 from hn)
  have := List.mem_range.1 hi
  omega, by show (allN 45).length ≤ 1000; rw [allN_len]; omega, ⟨Nat.zero_le _, Nat.zero_le _⟩⟩
def vw (T : List Sx) : List Sx := (allN 45).map (stP T)
theorem all_do {S : MS} {M : Mp} {r : Rs} {S' : MS} {M' : Mp} (R : doR allC S M r S' M') : r = stsR (vw S.T) ∧ S' = S ∧ M' = M := by
  have t0 : toldP M allC = none := by unfold toldP; exact if_pos (show allC.1 = 0 from rfl)
  rcases R with ⟨h, _⟩ | ⟨_, ⟨h, _⟩ | ⟨_, rfl, rfl⟩, rfl⟩
  · rw [t0] at h; cases h
  · cases h
  · exact ⟨rfl, rfl, rfl⟩
theorem vw_len (T : List Sx) : (vw T).length = 45 := by unfold vw; rw [List.length_map, allN_len]
theorem vw_at {T : List Sx} {i : Nat} {s : Sx} (h : (vw T)[i]? = some s) (hz : s.2.1 ≠ 0) : T[i]? = some s := by
  unfold vw allN at h
  rw [List.getElem?_map, List.getElem?_map] at h
  have hlt : i < 45 := by
    rcases Nat.lt_or_ge i 45 with c | c
    · exact c
    · rw [List.getElem?_eq_none (by simpa using c)] at h; cases h
  rw [List.getElem?_range hlt] at h
  have h2 : stP T ((i : Int) + 1) = s := Option.some.inj h
  have e : txP T ((i : Int) + 1) = T[i]? := by
    unfold txP
    rw [if_pos (by omega), show ((i : Int) + 1 - 1).toNat = i by omega]
  unfold stP at h2
  rw [e] at h2
  cases ht : T[i]? with
  | none => rw [ht] at h2; subst h2; exact absurd rfl hz
  | some t => rw [ht] at h2; subst h2; rfl
theorem vw_of {T : List Sx} {i : Nat} {s : Sx} (hi : i < 45) (h : T[i]? = some s) : (vw T)[i]? = some s := by
  unfold vw allN
  rw [List.getElem?_map, List.getElem?_map, List.getElem?_range hi]
  show some (stP T ((i : Int) + 1)) = some s
  have e : txP T ((i : Int) + 1) = T[i]? := by
    unfold txP
    rw [if_pos (by omega), show ((i : Int) + 1 - 1).toNat = i by omega]
  unfold stP
  rw [e, h]; rfl
theorem dec_l3 {P : List Sx} {s : Sx} (h : ∀ t ∈ P, s.2.1 = 1 → t.2.1 = 1 → s.2.2.1 ≠ t.2.2.1) (hP : P.length ≤ 1000) (v64 : Bool) (v65 : List Int) (v66 v67 : List Sx) (v68 : List Cm) (v69 v70 : Int) (v71 : List Sx) (v72 v73 : Int) (cl : Int) (nt nb : Nat) (T : List Sx) (nh nw : Nat) (m : Bool) (B : List Tb) (M : Mp) (H W : List Lk) {r : Bool × Unit}
    (hr : Ev3 (fun k n n1 => law15_MetaDecides_l2 k n n1 v64 v65 v66 v67 v68 v69 v70 v71 v72 (wr .i64 (v73 + 1)) cl nt nb T nh nw m B M H W) r) :
    ∀ d j, j + d = P.length → Ev4 (fun k n n1 n2 => law15_MetaDecides_l3 k n n1 n2 v64 v65 v66 v67 v68 v69 v70 v71 v72 v73 P (P.length : Int) (j : Int) cl nt nb s.1 s.2.1 s.2.2.1 T nh nw m B M H W) r := by
  intro d
  induction d with
  | zero =>
    intro j hj
    obtain ⟨K, hK⟩ := hr
    refine .up ⟨K, fun k n n1 n2 a b c _ => ?_⟩
    refine (law15_MetaDecides_l3_eq ..).trans ?_
    rw [bf (by omega)]
    exact hK k n n1 a b c
  | succ d ih =>
    intro j hj
    have hlt : j < P.length := by omega
    have hx : nth P (j : Int) = some P[j] := nth_get (List.getElem?_eq_getElem hlt)
    have hy := h P[j] (List.getElem_mem hlt)
    generalize P[j] = x at hx hy
    obtain ⟨K, hK⟩ := ih (j + 1) (by omega)
    refine .up ⟨K, fun k n n1 n2 a b c e => ?_⟩
    have hK := hK k n n1 n2 a b c e
    refine (law15_MetaDecides_l3_eq ..).trans ?_
    rw [bt (by omega), hx, Option.bind_some, wr_suc (by omega)]
    by_cases c1 : s.2.1 = 1
    · by_cases c2 : x.2.1 = 1
      · rw [bt c1, bt c2, bf (hy c1 c2)]; exact hK
      · rw [bt c1, bf c2]; exact hK
    · rw [bf c1]; exact hK
theorem dec_l2 {was now : List Sx} (hw : was.length = 45) (hn : now.length = 45) (hk : ∀ (i : Nat) (s : Sx), was[i]? = some s → s.2.1 ≠ 0 → now[i]? = some s)
    (hne : ∀ (i j : Nat) (s t : Sx), i < j → now[i]? = some s → now[j]? = some t → s.2.1 = 1 → t.2.1 = 1 → s.2.2.1 ≠ t.2.2.1)
    (v39 : Bool) (v40 : List Int) (v43 : List Cm) (v44 v45 : Int) (cl : Int) (nt nb : Nat) (T : List Sx) (nh nw : Nat) (m : Bool) (B : List Tb) (M : Mp) (H W : List Lk) {r : Bool × Unit}
    (hr : Ev2 (fun k n => law15_MetaDecides_l1 k n v39 v40 now v43 v44 (wr .i64 (v45 + 1)) cl nt nb T nh nw m B M H W) r) :
    ∀ (d i : Nat), i + d = 45 → Ev3 (fun k n n1 => law15_MetaDecides_l2 k n n1 v39 v40 was now v43 v44 v45 now (now.length : Int) (i : Int) cl nt nb T nh nw m B M H W) r := by
  intro d
  induction d with
  | zero =>
    intro i hi
    obtain ⟨K, hK⟩ := hr
    refine .up ⟨K, fun k n n1 a b _ => ?_⟩
    refine (law15_MetaDecides_l2_eq ..).trans ?_
    rw [bf (by omega)]
    exact hK k n a b
  | succ d ih =>
    intro i hi
    have hx0 : now[i]? = some now[i] := List.getElem?_eq_getElem (by omega)
    have hy0 : was[i]? = some was[i] := List.getElem?_eq_getElem (by omega)
    generalize now[i] = x at hx0
    generalize was[i] = y at hy0
    have hx := nth_get hx0
    have hy := nth_get hy0
    have hc : cut now 0 (i : Int) = some (now.take i) := cut_all (by omega)
    have h3 := (dec_l3 (P := now.take i) (s := x) (fun t ht c1 c2 => by
      obtain ⟨j, hj⟩ := List.mem_iff_getElem?.1 ht
      obtain ⟨j1, j2⟩ := take_at hj
      exact (hne j i t x j1 j2 hx0 c2 c1).symm) (by rw [List.length_take]; omega) v39 v40 was now v43 v44 v45 now (now.length : Int) (i : Int) cl nt nb T nh nw m B M H W (r := r) (by
        have := ih (i + 1) (by omega)
        rw [wr_suc (by omega)]
        exact this) (now.take i).length 0 (by omega)).dg
    obtain ⟨K, hK⟩ := h3
    refine .up ⟨K, fun k n n1 a b c => ?_⟩
    have hK := hK k n n1 a b c
    refine (law15_MetaDecides_l2_eq ..).trans ?_
    rw [bt (by omega), hx, Option.bind_some, hy, Option.bind_some, hc]
    by_cases c1 : y.2.1 = 0
    · rw [dT c1]; exact hK
    · have e : x = y := by
        have := hk i y hy0 c1
        rw [hx0] at this; exact Option.some.inj this
      subst e
      rw [dF c1]
      show (bif !Ty.decEq SxT x x then _ else _) = _
      rw [decSx]
      exact hK
theorem decides_l1 {l : List Cm} (hl : l.length ≤ 40) (hs : ∀ c ∈ l, smC c) (v19 : Bool) : ∀ d i (was : List Sx) (S : MS) (M : Mp) (cl : Int) (nt nb : Nat) (T : List Sx) (nh nw : Nat) (B : List Tb) (H W : List Lk), i + d = l.length → MI S i → Rp S cl nt nb T nh nw B H W → DI S.T S.cl → was.length = 45 → Keep was S.T →
    Ev2 (fun k n => law15_MetaDecides_l1 k n v19 (allN 45) was l (l.length : Int) (i : Int) cl nt nb T nh nw true B M H W) (true, ()) := by
  intro d
  induction d with
  | zero =>
    intro i was S M cl nt nb T nh nw B H W hi I P D hw hk
    refine .up ⟨0, fun k n _ _ => ?_⟩
    refine (law15_MetaDecides_l1_eq ..).trans ?_
    rw [bf (by omega)]
  | succ d ih =>
    intro i was S M cl nt nb T nh nw B H W hi I P D hw hk
    have hlt : i < l.length := by omega
    have hx : nth l (i : Int) = some l[i] := nth_get (List.getElem?_eq_getElem hlt)
    have hy := hs l[i] (List.getElem_mem hlt)
    generalize l[i] = x at hx hy
    obtain ⟨r, S', M', cl', nt', nb', T', nh', nw', B', H', W', P', R, hE⟩ := do_ev hy I (by omega) M P
    have I' := I.do hy R
    obtain ⟨D', Kp⟩ := D.do R
    obtain ⟨r2, S2, M2, cl2, nt2, nb2, T2, nh2, nw2, B2, H2, W2, P2, R2, hE2⟩ := do_ev allC_sm I' (by omega) M' P'
    obtain ⟨rfl, rfl, rfl⟩ := all_do R2
    have h2 := (dec_l2 (was := was) (now := vw S2.T) hw (vw_len _) (fun i s h1 h2 => vw_of (by have := (List.getElem?_eq_some_iff.1 h1).1; omega) (Kp i s (hk i s h1 h2) h2))
      (fun i j s t hij h1 h2 c1 c2 => D'.ne i j s t hij (vw_at h1 (by omega)) (vw_at h2 (by omega)) c1 c2) v19 (allN 45) l (l.length : Int) (i : Int) cl2 nt2 nb2 T2 nh2 nw2 true B2 M2 H2 W2 (r := (true, ())) (by
        rw [wr_suc (by omega)]
        exact ih (i + 1) _ _ _ _ _ _ _ _ _ _ _ _ (by omega) I' P2 D' (vw_len _) fun i s h1 h2 => vw_at h1 h2) 45 0 (by omega)).dg
    obtain ⟨K1, hK1⟩ := hE
    obtain ⟨K2, hK2⟩ := hE2
    obtain ⟨K3, hK3⟩ := h2
    refine .up ⟨Nat.max K1 (Nat.max K2 K3), fun k n a b => ?_⟩
    refine (law15_MetaDecides_l1_eq ..).trans ?_
    rw [bt (by omega), hx, Option.bind_some]
    refine (bndD (hK1 k (Nat.le_trans (Nat.le_max_left ..) a))).trans ?_
    refine (bndD (hK2 k (Nat.le_trans (Nat.le_trans (Nat.le_max_left K2 K3) (Nat.le_max_right K1 _)) a))).trans ?_
    show (bif !decide (((vw S2.T).length : Int) = 45) then _ else _) = _
    rw [dT (by rw [vw_len]; rfl)]
    exact hK3 k n (Nat.le_trans (Nat.le_trans (Nat.le_max_right K2 K3) (Nat.le_max_right K1 _)) a) (Nat.le_trans (Nat.le_trans (Nat.le_max_right K2 K3) (Nat.le_max_right K1 _)) b)
theorem decides_l0 (l : List Cm) {r : Bool × Unit} (h : ∀ b, Ev (fun k => law15_MetaDecides_l1 k k b (allN 45) (List.replicate 45 ((0 : Int), ((0 : Int), ((0 : Int), ())))) l (l.length : Int) (0 : Int) 0 0 0 [] 0 0 true [] [] [] []) r) :
    ∀ d j (b : Bool), j + d = 45 → Ev2 (fun k n => law15_MetaDecides_l0 k n l b (allN j) ((j : Int) + 1) 0 0 0 [] 0 0 true [] [] [] []) r := by
  intro d
  induction d with
  | zero =>
    intro j b hj
    have : j = 45 := by omega
    subst this
    obtain ⟨K, hK⟩ := h b
    refine .up ⟨K, fun k n a _ => ?_⟩
    refine (law15_MetaDecides_l0_eq ..).trans ?_
    rw [bf (by omega)]
    exact hK k a
  | succ d ih =>
    intro j b hj
    obtain ⟨K, hK⟩ := ih (j + 1) (b && false) (by omega)
    refine .up ⟨K, fun k n a b' => ?_⟩
    refine (law15_MetaDecides_l0_eq ..).trans ?_
    have e : allN j ++ [(j : Int) + 1] = allN (j + 1) := by unfold allN; rw [List.range_succ, List.map_append]; rfl
    rw [bt (by omega), lim_t (by rw [allN_len]; simp; omega), e, wr_u64 (by omega)]
    exact hK k n a b'
theorem decides_ev (l : List CmdD) (f : wfD (.sl CT) l) (z : szD (.sl CT) l) : Ev (fun k => law15_MetaDecides k l) (true, ()) := by
  simp only [law15_MetaDecides_eq, awake15]
  refine .bind .ret (.bind (smallL_ev f z) ?_)
  cases hb : (l.all sC && decide (l.length ≤ 40)) with
  | false => exact .from 0 fun k => rfl
  | true =>
    obtain ⟨h1, h2⟩ := smL_of f hb
    have := (decides_l0 l (fun b => (decides_l1 h1 h2 b l.length 0 (List.replicate 45 ((0 : Int), ((0 : Int), ((0 : Int), ())))) ⟨0, [], [], [], []⟩ [] 0 0 0 [] 0 0 [] [] [] (by omega) MI.new Rp.new ⟨by simp, by simp⟩ (by simp) (fun i s h1 h2 => by
      rw [List.getElem?_replicate] at h1
      split at h1
      · cases h1; exact absurd rfl h2
      · cases h1)).dg) 45 0 true (by omega)).dg
    simp only [meta_New_eq, lock_New_eq]
    exact this
theorem MetaDecides_true (l : List CT.D) (f : wfD (.sl CT) l) (z : szD (.sl CT) l) : ∃ k, law15_MetaDecides k l = some (true, ()) := (decides_ev l f z).ex
end Go.Proofs.Ytgmeimbamfggkaa.Den
