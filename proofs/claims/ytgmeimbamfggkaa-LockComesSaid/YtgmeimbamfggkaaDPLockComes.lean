import Derived.Test.YtgmeimbamfggkaaDLockComes
import Derived.Test.YtgmeimbamfggkaaDen35
namespace Go.Proofs.Ytgmeimbamfggkaa.Den
open Go Go.RowKit
set_option linter.unusedVariables false
abbrev Lk : Type := Int × (Int × (Int × ((List Int) × ((List Int) × Unit))))
theorem clone_v (k : Nat) (l : List Int) : slices_Clone_s_byte_byte k l = lim (0 + l.length) (some (l, ())) := by
  rw [slices_Clone_s_byte_byte_eq]
  cases l with
  | nil => exact twoW_self _
  | cons a l => rfl
theorem own_v (k : Nat) (a : Lk) : lock_own k a = (lim (0 + a.2.2.2.1.length) (lim (0 + a.2.2.2.2.1.length) (some ((a.1, (a.2.1, (a.2.2.1, (a.2.2.2.1, (a.2.2.2.2.1, ()))))), ((a.1, (a.2.1, (a.2.2.1, (a.2.2.2.1, (a.2.2.2.2.1, ()))))), ()))))) := by
  rw [lock_own_eq, clone_v, clone_v]
  unfold lim
  split
  · split <;> rfl
  · rfl
theorem ask1_v (k : Nat) : lock_Table_Ask (k + 10) ((1 : Int), ((1 : Int), ((3 : Int), ([97], ([], ()))))) 0 0 true [] [] = some ((true, (0, ())), ((1, (0, (true, ()))), ((), ((), (([(1, (1, (3, ([97], ([], ())))))], ()), (([], ()), ())))))) := by
  rw [lock_Table_Ask_eq]
  simp only [own_v]
  kernel_rfl
theorem ask2_v (k : Nat) : lock_Table_Ask (k + 10) ((2 : Int), ((1 : Int), ((4 : Int), ([98], ([99], ()))))) 1 0 true [(1, (1, (3, ([97], ([], ())))))] [] = some ((false, (0, ())), ((1, (1, (true, ()))), ((), ((), (([(1, (1, (3, ([97], ([], ())))))], ()), (([(2, (1, (4, ([98], ([99], ())))))], ()), ())))))) := by
  kernel_rfl
theorem awake14 : Ev (fun k => law14_awake k) (true, ()) := Ev.from 10 fun k => by
  rw [law14_awake_eq, lock_New_eq]
  simp only [Option.bind_some, ask1_v, ask2_v]
  rfl
theorem ltLk_asym : ∀ a b, ltL a b = true → ltL b a = false
  | [], [], h => by cases h
  | [], _ :: _, _ => rfl
  | _ :: _, [], h => by cases h
  | a :: x, b :: y, h => by
    have ih := ltLk_asym x y
    unfold ltL at h ⊢
    by_cases c : a < b
    · have : ¬ b < a := by omega
      have : ¬ b = a := by omega
      simp [*]
    · by_cases e : a = b
      · subst e
        simp at h ⊢
        exact ih h
      · simp [c, e] at h
theorem cmp_v : ∀ a b, cmpL a b = if ltL a b then -1 else if ltL b a then 1 else 0
  | [], [] => rfl
  | [], _ :: _ => rfl
  | _ :: _, [] => rfl
  | a :: x, b :: y => by
    have ih := cmp_v x y
    unfold cmpL ltL
    by_cases h : a < b
    · simp [h]
    · by_cases h2 : b < a
      · have : ¬ a = b := by omega
        simp [h, h2, this]
      · have : a = b := by omega
        simp [this, ih]
theorem cmp_gt (a b : List Int) : decide (0 < cmpL a b) = ltL b a := by
  rw [cmp_v]
  cases h : ltL a b with
  | true => rw [ltLk_asym _ _ h]; rfl
  | false => cases ltL b a <;> rfl
theorem cmp_le (a b : List Int) : decide (cmpL a b ≤ 0) = !ltL b a := by
  rw [cmp_v]
  cases h : ltL a b with
  | true => rw [ltLk_asym _ _ h]; rfl
  | false => cases ltL b a <;> rfl
theorem compare_v (k : Nat) (a b : List Int) : bytes_Compare k a b = some (cmpL a b, ()) := by
  rw [bytes_Compare_eq, internal_bytealg_Compare_eq]; rfl
/-- Whether a bound isn't above a key. -/
def endP (hi key : List Int) : Bool := decide (0 < (hi.length : Int)) && !ltL key hi
theorem ends_v (k : Nat) (h y : List Int) : lock_ends k h y = some (endP h y, ()) := by
  rw [lock_ends_eq, compare_v]
  unfold endP
  cases decide (0 < (h.length : Int))
  · rfl
  · show some (decide (cmpL h y ≤ 0), ()) = _
    rw [cmp_le]; rfl
def meetP (a b : Lk) : Bool := decide (a.2.1 = b.2.1) && (!endP a.2.2.2.2.1 b.2.2.2.1 && !endP b.2.2.2.2.1 a.2.2.2.1)
theorem meets_v (k : Nat) (a b : Lk) : lock_meets k a b = some (meetP a b, ()) := by
  rw [lock_meets_eq]
  simp only [ends_v, Option.bind_some]
  unfold meetP
  cases decide (a.2.1 = b.2.1) <;> cases endP a.2.2.2.2.1 b.2.2.2.1 <;> rfl
def apartP (a b : Lk) : Bool := decide (a.1 = b.1) || !meetP a b
theorem apart_v (k : Nat) (a b : Lk) : lock_Apart k a b = some (apartP a b, ()) := by
  rw [lock_Apart_eq]
  simp only [meets_v, Option.bind_some]
  unfold apartP
  cases decide (a.1 = b.1) <;> rfl
theorem mode_v (k : Nat) (m : Int) : lock_mode k m = some (decide (1 ≤ m) && decide (m ≤ 4), ()) := by
  rw [lock_mode_eq]
  cases decide (1 ≤ m) <;> rfl
/-- Modes that fit; the lesser one first. -/
def fit1 (a b : Int) : Bool := bif decide (a < 1) then false else bif decide (4 < b) then false else bif decide (a = 1) then !decide (b = 4) else bif decide (a = 2) then decide (b = 2) else bif decide (a = 3) then decide (b = 3) else false
def fitP (a b : Int) : Bool := bif decide (b < a) then fit1 b a else fit1 a b
theorem fits_v (k : Nat) (a b : Int) : lock_Fits k a b = some (fitP a b, ()) := by
  rw [lock_Fits_eq]
  simp only [mode_v, lock_fits_eq, Option.bind_some]
  by_cases ha : 1 ≤ a ∧ a ≤ 4
  · by_cases hb : 1 ≤ b ∧ b ≤ 4
    · have h1 : a = 1 ∨ a = 2 ∨ a = 3 ∨ a = 4 := by omega
      have h2 : b = 1 ∨ b = 2 ∨ b = 3 ∨ b = 4 := by omega
      rcases h1 with rfl | rfl | rfl | rfl <;> rcases h2 with rfl | rfl | rfl | rfl <;> rfl
    · have e : (decide (1 ≤ b) && decide (b ≤ 4)) = false := by simpa using hb
      rw [e, show (decide (1 ≤ a) && decide (a ≤ 4)) = true by simpa using ha]
      show some (false, ()) = _
      congr 2
      unfold fitP fit1
      by_cases c : b < a
      · rw [dT c]; have : b < 1 := by omega
        rw [dT this]; rfl
      · rw [dF c, dF (show ¬ a < 1 by omega)]
        by_cases c4 : 4 < b
        · rw [dT c4]; rfl
        · exact absurd ⟨by omega, by omega⟩ hb
  · have e : (decide (1 ≤ a) && decide (a ≤ 4)) = false := by simpa using ha
    rw [e]
    show some (false, ()) = _
    congr 2
    unfold fitP fit1
    by_cases c : b < a
    · rw [dT c]
      by_cases c1 : b < 1
      · rw [dT c1]; rfl
      · rw [dF c1, dT (show 4 < a by omega)]; rfl
    · rw [dF c]
      by_cases c1 : a < 1
      · rw [dT c1]; rfl
      · rw [dF c1, dT (show 4 < b by omega)]; rfl
theorem fitP_comm (a b : Int) : fitP a b = fitP b a := by
  unfold fitP
  by_cases c : b < a
  · rw [dT c, dF (show ¬ a < b by omega)]; rfl
  · by_cases c2 : a < b
    · rw [dF c, dT c2]; rfl
    · have : a = b := by omega
      subst this; rfl
def modeC (a b : Int) : Bool := decide (a = b) || (decide (a = 4) || (decide (b = 1) && (decide (a = 3) || decide (a = 2))))
def covP (a b : Lk) : Bool := decide (a.1 = b.1) && (decide (a.2.1 = b.2.1) && (!ltL b.2.2.2.1 a.2.2.2.1 && ((decide ((a.2.2.2.2.1.length : Int) = 0) || (decide (0 < (b.2.2.2.2.1.length : Int)) && !ltL a.2.2.2.2.1 b.2.2.2.2.1)) && modeC a.2.2.1 b.2.2.1)))
theorem pos_dec (l : List Int) : decide (0 < (l.length : Int)) = !decide ((l.length : Int) = 0) := by
  cases l with
  | nil => rfl
  | cons a l => rw [dT (by simp; try omega), dF (by simp; try omega)]; rfl
theorem covers_v (k : Nat) (a b : Lk) : lock_Covers k a b = some (covP a b, ()) := by
  rw [lock_Covers_eq]
  simp only [compare_v, Option.bind_some, cmp_gt, pos_dec]
  unfold covP modeC
  simp only [pos_dec]
  cases decide (a.1 = b.1) <;> (try rfl)
  cases decide (a.2.1 = b.2.1) <;> (try rfl)
  cases ltL b.2.2.2.1 a.2.2.2.1 <;> (try rfl)
  cases decide ((a.2.2.2.2.1.length : Int) = 0) <;> cases decide ((b.2.2.2.2.1.length : Int) = 0) <;> cases ltL a.2.2.2.2.1 b.2.2.2.2.1 <;> (try rfl) <;>
    (cases decide (a.2.2.1 = b.2.2.1) <;> cases decide (a.2.2.1 = 4) <;> cases decide (b.2.2.1 = 1) <;> cases decide (a.2.2.1 = 3) <;> rfl)
attribute [local irreducible] bytes_Compare bytes_Equal internal_bytealg_Compare law14_LockComes law14_LockComes_j0 law14_LockComes_j1 law14_LockComes_l0 law14_LockComes_l1 law14_awake law14_few law14_few_l0 lock_Apart lock_Covers lock_Fits lock_New lock_Table_Ask lock_Table_Ask_1 lock_Table_Ask_2 lock_Table_Ask_j0 lock_Table_Edges lock_Table_Edges_l0 lock_Table_Edges_l1 lock_Table_Free lock_Table_Free_1 lock_Table_inWay lock_Table_inWay_1 lock_Table_inWay_j0 lock_Table_leave_1 lock_Table_leave_1_v2 lock_Table_leave_lock_Table_Ask_2 lock_Table_leave_lock_none lock_Table_ok lock_Table_place lock_Table_place_1 lock_against lock_against_j0 lock_against_l0 lock_against_v2 lock_against_v2_j0 lock_against_v2_l0 lock_ends lock_fits lock_may lock_meets lock_mode lock_none lock_own lock_same slices_Clone_s_byte_byte slices_ContainsFunc_Lock_Lock_lock_Table_Ask_1 slices_ContainsFunc_Lock_Lock_lock_Table_inWay_1 slices_DeleteFunc_Lock_Lock_lock_Table_Free_1 slices_DeleteFunc_Lock_Lock_lock_Table_Free_1_j0 slices_DeleteFunc_Lock_Lock_lock_Table_Free_1_l0 slices_DeleteFunc_Lock_Lock_lock_Table_leave_1 slices_DeleteFunc_Lock_Lock_lock_Table_leave_1_j0 slices_DeleteFunc_Lock_Lock_lock_Table_leave_1_l0 slices_DeleteFunc_Lock_Lock_lock_Table_leave_1_v2 slices_DeleteFunc_Lock_Lock_lock_Table_leave_1_v2_j0 slices_DeleteFunc_Lock_Lock_lock_Table_leave_1_v2_l0 slices_IndexFunc_Lock_Lock_lock_Table_Ask_1 slices_IndexFunc_Lock_Lock_lock_Table_Ask_1_l0 slices_IndexFunc_Lock_Lock_lock_Table_Free_1 slices_IndexFunc_Lock_Lock_lock_Table_Free_1_l0 slices_IndexFunc_Lock_Lock_lock_Table_inWay_1 slices_IndexFunc_Lock_Lock_lock_Table_inWay_1_l0 slices_IndexFunc_Lock_Lock_lock_Table_leave_1 slices_IndexFunc_Lock_Lock_lock_Table_leave_1_l0 slices_IndexFunc_Lock_Lock_lock_Table_leave_1_v2 slices_IndexFunc_Lock_Lock_lock_Table_leave_1_v2_l0 slices_IndexFunc_Lock_Lock_lock_Table_place_1 slices_IndexFunc_Lock_Lock_lock_Table_place_1_l0 slices_Reverse_s_uint64_uint64 slices_Reverse_s_uint64_uint64_l0 wait_Cycle wait_Cycle_round wait_Cycle_round_l0 wait_walk wait_walk_1 wait_walk_1_j0 wait_walk_1_l0 wait_walk_1_l1
theorem wr_suc {j : Nat} (h : j < 1000000) : wr .i64 ((j : Int) + 1) = ((j + 1 : Nat) : Int) := by
  rw [wr_i64 (by omega)]; omega
theorem must_tr {α : Type} (x : Option α) : must true x = x := rfl
/-- The place of the first that is so. -/
theorem idx_ev {ρ : Type} {L : Nat → Nat → Int → Option ρ} {W : List Lk} {c : Nat} {p : Lk → Bool} {A : Int → ρ} {B : ρ} (hc : c ≤ W.length)
    (hs : ∀ k n (j : Nat) x, j < c → W[j]? = some x → L k (n + 1) (j : Int) = bif p x then some (A (j : Int)) else L k n ((j + 1 : Nat) : Int))
    (hd : ∀ k n, L k (n + 1) (c : Int) = some B) : ∀ d j, j + d = c → Ev2 (fun k n => L k n (j : Int)) (match ((W.take c).drop j).findIdx? p with | some i => A ((j + i : Nat) : Int) | none => B) := by
  intro d
  induction d with
  | zero =>
    intro j hj
    have : j = c := by omega
    subst this
    rw [List.drop_eq_nil_of_le (by rw [List.length_take]; omega)]
    exact .up ⟨0, fun k n _ _ => hd k n⟩
  | succ d ih =>
    intro j hj
    have hlt : j < W.length := by omega
    have hx : W[j]? = some W[j] := List.getElem?_eq_getElem hlt
    have hdr : (W.take c).drop j = W[j] :: (W.take c).drop (j + 1) := by
      rw [List.drop_eq_getElem_cons (by rw [List.length_take]; omega)]
      simp
    rw [hdr, List.findIdx?_cons]
    refine .up ?_
    cases hp : p W[j] with
    | true =>
      refine ⟨0, fun k n _ _ => ?_⟩
      show L k (n + 1) (j : Int) = _
      rw [hs k n j _ (by omega) hx, hp]; rfl
    | false =>
      obtain ⟨K, hK⟩ := ih (j + 1) (by omega)
      refine ⟨K, fun k n hk hn => ?_⟩
      show L k (n + 1) (j : Int) = _
      rw [hs k n j _ (by omega) hx, hp]
      show L k n _ = _
      rw [show L k n ((j + 1 : Nat) : Int) = _ from hK k n hk hn]
      cases ((W.take c).drop (j + 1)).findIdx? p with
      | none => rfl
      | some i => show some (A _) = some (A _); congr 3; show j + 1 + i = j + (i + 1); omega
/-- Those that are so go; those that stay move up. -/
theorem del_ev {ρ : Type} {L : Nat → Nat → Int → Int → List Lk → Option ρ} {c : Nat} {p : Lk → Bool} {R : Nat → List Lk → ρ} {z : Lk}
    (hs : ∀ k n (i j : Nat) W x, i ≤ j → j < c → c ≤ W.length → W[j]? = some x → L (k + 1) (n + 1) (i : Int) (j : Int) W = bif p x then L (k + 1) n (i : Int) ((j + 1 : Nat) : Int) W else L (k + 1) n ((i + 1 : Nat) : Int) ((j + 1 : Nat) : Int) (W.set i x))
    (hd : ∀ k n (i : Nat) W, i ≤ c → c ≤ W.length → L k (n + 1) (i : Int) (c : Int) W = some (R i (lay W i (List.replicate (c - i) z)))) :
    ∀ d (j i : Nat) W, j + d = c → i ≤ j → c ≤ W.length → ∃ i' W', Ev2 (fun k n => L k n (i : Int) (j : Int) W) (R i' W') ∧ i' ≤ W'.length ∧ W'.take i' = W.take i ++ ((W.take c).drop j).filter (fun x => !p x) := by
  intro d
  induction d with
  | zero =>
    intro j i W hj hi hc
    have : j = c := by omega
    subst this
    refine ⟨i, lay W i (List.replicate (j - i) z), .up ⟨0, fun k n _ _ => hd k n i W hi hc⟩, ?_, ?_⟩
    · unfold lay; simp; omega
    · rw [List.drop_eq_nil_of_le (by rw [List.length_take]; omega)]
      unfold lay
      rw [List.append_assoc, List.take_append_of_le_length (by rw [List.length_take]; omega), List.take_take]
      simp
  | succ d ih =>
    intro j i W hj hi hc
    have hlt : j < W.length := by omega
    have hx : W[j]? = some W[j] := List.getElem?_eq_getElem hlt
    have hdr : (W.take c).drop j = W[j] :: (W.take c).drop (j + 1) := by
      rw [List.drop_eq_getElem_cons (by rw [List.length_take]; omega)]
      simp
    rw [hdr, List.filter_cons]
    cases hp : p W[j] with
    | true =>
      obtain ⟨i', W', hE, h1, h2⟩ := ih (j + 1) i W (by omega) (by omega) hc
      refine ⟨i', W', .up (.upk ?_), h1, by simpa using h2⟩
      obtain ⟨K, hK⟩ := hE
      refine ⟨K, fun k n hk hn => ?_⟩
      show L (k + 1) (n + 1) (i : Int) (j : Int) W = _
      rw [hs k n i j W _ hi (by omega) hc hx, hp]
      exact hK (k + 1) n (by omega) hn
    | false =>
      obtain ⟨i', W', hE, h1, h2⟩ := ih (j + 1) (i + 1) (W.set i W[j]) (by omega) (by omega) (by rw [List.length_set]; exact hc)
      refine ⟨i', W', .up (.upk ?_), h1, ?_⟩
      · obtain ⟨K, hK⟩ := hE
        refine ⟨K, fun k n hk hn => ?_⟩
        show L (k + 1) (n + 1) (i : Int) (j : Int) W = _
        rw [hs k n i j W _ hi (by omega) hc hx, hp]
        exact hK (k + 1) n (by omega) hn
      · rw [h2]
        have e1 : (W.set i W[j]).take (i + 1) = W.take i ++ [W[j]] := by
          rw [List.take_add_one, List.getElem?_set_self (by omega), List.take_set_of_le (Nat.le_refl _)]
          rfl
        have e2 : ((W.set i W[j]).take c).drop (j + 1) = (W.take c).drop (j + 1) := by
          rw [List.take_set, List.drop_set_of_lt (by omega)]
        rw [e1, e2]
        simp
theorem ask1c_v (k : Nat) (h : Lk) (a b c : Int) (d e : List Int) : lock_Table_Ask_1 k h a b c d e = some (covP h (a, (b, (c, (d, (e, ()))))), ((a, (b, (c, (d, (e, ()))))), ())) := by
  rw [lock_Table_Ask_1_eq, covers_v]; rfl
theorem inway1_v (k : Nat) (h : Lk) (a b c : Int) (d e : List Int) : lock_Table_inWay_1 k h a b c d e = some (decide (h.1 = a) && meetP h (a, (b, (c, (d, (e, ()))))), ((a, (b, (c, (d, (e, ()))))), ())) := by
  rw [lock_Table_inWay_1_eq, meets_v]
  cases decide (h.1 = a) <;> rfl
def sameP (a b : Lk) : Bool := decide (a.1 = b.1) && (decide (a.2.1 = b.2.1) && (decide (a.2.2.1 = b.2.2.1) && (beqL a.2.2.2.1 b.2.2.2.1 && beqL a.2.2.2.2.1 b.2.2.2.2.1)))
theorem same_v (k : Nat) (a b : Lk) : lock_same k a b = some (sameP a b, ()) := by
  rw [lock_same_eq]
  simp only [bytes_Equal_eq, Option.bind_some]
  unfold sameP
  cases decide (a.1 = b.1) <;> cases decide (a.2.1 = b.2.1) <;> cases decide (a.2.2.1 = b.2.2.1) <;> cases beqL a.2.2.2.1 b.2.2.2.1 <;> rfl
theorem place1_v (k : Nat) (h : Lk) (a b c : Int) (d e : List Int) : lock_Table_place_1 k h a b c d e = some (sameP h (a, (b, (c, (d, (e, ()))))), ((a, (b, (c, (d, (e, ()))))), ())) := by
  rw [lock_Table_place_1_eq, same_v]; rfl
theorem leave1_v (k : Nat) (h : Lk) (t a b c : Int) (d e : List Int) : lock_Table_leave_1 k h t a b c d e = some (decide (h.1 = t) && !sameP h (a, (b, (c, (d, (e, ()))))), ((t, ()), ((((), ()), ()), ((a, (b, (c, (d, (e, ()))))), ())))) := by
  rw [lock_Table_leave_1_eq, lock_Table_Ask_2_eq, same_v]
  cases decide (h.1 = t) <;> rfl
theorem leave2_v (k : Nat) (h : Lk) (t : Int) : lock_Table_leave_1_v2 k h t = some (decide (h.1 = t), ((t, ()), (((), ()), ()))) := by
  rw [lock_Table_leave_1_v2_eq, lock_none_eq]
  cases decide (h.1 = t) <;> rfl
theorem find_any (p : Lk → Bool) (l : List Lk) : (l.findIdx? p).isSome = l.any p := List.findIdx?_isSome
theorem hasCov_ev {W : List Lk} {c : Nat} (x : Lk) (hc : c ≤ W.length) (hb : c ≤ 100000) :
    Ev (fun k => slices_ContainsFunc_Lock_Lock_lock_Table_Ask_1 k c W x.1 x.2.1 x.2.2.1 x.2.2.2.1 x.2.2.2.2.1) ((W.take c).any (fun h => covP h x), ((W, ()), ((x.1, (x.2.1, (x.2.2.1, (x.2.2.2.1, (x.2.2.2.2.1, ()))))), ()))) := by
  simp only [slices_ContainsFunc_Lock_Lock_lock_Table_Ask_1_eq, slices_IndexFunc_Lock_Lock_lock_Table_Ask_1_eq]
  have h := (idx_ev (L := fun k n i => slices_IndexFunc_Lock_Lock_lock_Table_Ask_1_l0 k n c ((c : Nat) : Int) i W x.1 x.2.1 x.2.2.1 x.2.2.2.1 x.2.2.2.2.1) (W := W) (c := c) (p := fun h => covP h x)
    (A := fun i => (i, ((W, ()), ((x.1, (x.2.1, (x.2.2.1, (x.2.2.2.1, (x.2.2.2.2.1, ()))))), ())))) (B := ((-1 : Int), ((W, ()), ((x.1, (x.2.1, (x.2.2.1, (x.2.2.2.1, (x.2.2.2.2.1, ()))))), ())))) hc
    (fun k n j y hj hy => by
      show slices_IndexFunc_Lock_Lock_lock_Table_Ask_1_l0 k (n + 1) _ _ _ _ _ _ _ _ _ = _
      rw [slices_IndexFunc_Lock_Lock_lock_Table_Ask_1_l0_eq, bt (by omega), inI_t (by omega) (by omega), must_tr, Nat.zero_add, Int.toNat_natCast, hy, Option.bind_some, ask1c_v, Option.bind_some, wr_suc (by omega)])
    (fun k n => by
      show slices_IndexFunc_Lock_Lock_lock_Table_Ask_1_l0 k (n + 1) _ _ _ _ _ _ _ _ _ = _
      rw [slices_IndexFunc_Lock_Lock_lock_Table_Ask_1_l0_eq, bf (by omega)]) c 0 (by omega)).dg
  refine .bind h (.from 0 fun k => ?_)
  rw [List.drop_zero, ← find_any]
  cases (W.take c).findIdx? fun h => covP h x with
  | none => rfl
  | some i => show some (decide (0 ≤ ((0 + i : Nat) : Int)), _) = _; rw [dT (by omega)]; rfl
theorem filt_none {p : Lk → Bool} {l : List Lk} (h : l.findIdx? p = none) : l.filter (fun x => !p x) = l := by
  rw [List.filter_eq_self]
  intro x hx
  rw [List.findIdx?_eq_none_iff] at h
  simp [h x hx]
theorem filt_some {p : Lk → Bool} : ∀ {l : List Lk} {i : Nat}, l.findIdx? p = some i → i < l.length ∧ l.filter (fun x => !p x) = l.take i ++ (l.drop (i + 1)).filter (fun x => !p x)
  | [], i, h => by simp at h
  | x :: l, i, h => by
    rw [List.findIdx?_cons] at h
    cases hp : p x with
    | true =>
      rw [hp] at h
      cases h
      simp [hp]
    | false =>
      rw [hp] at h
      obtain ⟨j, h1, rfl⟩ := Option.map_eq_some_iff.1 (show (l.findIdx? p).map (fun i => i + 1) = some i from h)
      obtain ⟨k1, k2⟩ := filt_some h1
      refine ⟨by simp; omega, ?_⟩
      rw [List.filter_cons, hp]
      simp [k2]
/-- All of a row's part that is so is deleted. -/
theorem delF_ev {σ ρ : Type} {I : Nat → Option σ} {D : Nat → Option ρ} {L : Nat → Nat → Int → Int → List Lk → Option ρ} {W : List Lk} {c : Nat} {p : Lk → Bool} (RI : Int → σ) (R : Nat → List Lk → ρ) {z : Lk} (hc : c ≤ W.length)
    (hI : Ev I (match ((W.take c).drop 0).findIdx? p with | some i => RI ((0 + i : Nat) : Int) | none => RI (-1)))
    {G : Nat → σ → Option ρ} (hD : ∀ k, D k = (I k).bind (G k)) (hG1 : ∀ k, G k (RI (-1)) = some (R c W)) (hG2 : ∀ k (i : Nat), i < c → G k (RI (i : Int)) = L k k (i : Int) ((i + 1 : Nat) : Int) W)
    (hs : ∀ k n (i j : Nat) W x, i ≤ j → j < c → c ≤ W.length → W[j]? = some x → L (k + 1) (n + 1) (i : Int) (j : Int) W = bif p x then L (k + 1) n (i : Int) ((j + 1 : Nat) : Int) W else L (k + 1) n ((i + 1 : Nat) : Int) ((j + 1 : Nat) : Int) (W.set i x))
    (hd : ∀ k n (i : Nat) W, i ≤ c → c ≤ W.length → L k (n + 1) (i : Int) (c : Int) W = some (R i (lay W i (List.replicate (c - i) z)))) :
    ∃ (n : Nat) (W' : List Lk), Ev D (R n W') ∧ n ≤ W'.length ∧ W'.take n = (W.take c).filter (fun x => !p x) := by
  have hD' : D = fun k => (I k).bind (G k) := funext hD
  subst hD'
  cases hf : (W.take c).findIdx? p with
  | none =>
    rw [List.drop_zero, hf] at hI
    exact ⟨c, W, .bind hI (.from 0 fun k => hG1 k), hc, (filt_none hf).symm⟩
  | some i =>
    rw [List.drop_zero, hf] at hI
    obtain ⟨hi, h2⟩ := filt_some hf
    have hi : i < c := by rw [List.length_take] at hi; omega
    obtain ⟨i', W', hE, h3, h4⟩ := del_ev (L := L) (c := c) (p := p) (R := R) (z := z) hs hd (c - (i + 1)) (i + 1) i W (by omega) (by omega) hc
    refine ⟨i', W', .bind hI ?_, h3, ?_⟩
    · obtain ⟨K, hK⟩ := hE.dg
      refine ⟨K, fun k hk => ?_⟩
      show G k (RI ((0 + i : Nat) : Int)) = _
      rw [Nat.zero_add, hG2 k i hi]
      exact hK k hk
    · rw [h4, h2, List.take_take, Nat.min_eq_left (by omega)]
theorem eta5 (y : Lk) : (y.1, (y.2.1, (y.2.2.1, (y.2.2.2.1, (y.2.2.2.2.1, ()))))) = y := rfl
theorem leaveS_ev {W : List Lk} {c : Nat} (t : Int) (x : Lk) (nh : Nat) (m : Bool) (H : List Lk) (hc : c ≤ W.length) (hb : c ≤ 100000) :
    ∃ (n : Nat) (W' : List Lk), Ev (fun k => lock_Table_leave_lock_Table_Ask_2 k t nh c m x.1 x.2.1 x.2.2.1 x.2.2.2.1 x.2.2.2.2.1 H W) ((), ((nh, (n, (m, ()))), ((x.1, (x.2.1, (x.2.2.1, (x.2.2.2.1, (x.2.2.2.2.1, ()))))), ((H, ()), ((W', ()), ()))))) ∧
      n ≤ W'.length ∧ W'.take n = (W.take c).filter (fun w => !(decide (w.1 = t) && !sameP w x)) := by
  have hI := (idx_ev (L := fun k n i => slices_IndexFunc_Lock_Lock_lock_Table_leave_1_l0 k n c ((c : Nat) : Int) i W t x.1 x.2.1 x.2.2.1 x.2.2.2.1 x.2.2.2.2.1) (W := W) (c := c) (p := fun w => decide (w.1 = t) && !sameP w x)
    (A := fun i => (i, ((W, ()), ((t, ()), ((((), ()), ()), ((x.1, (x.2.1, (x.2.2.1, (x.2.2.2.1, (x.2.2.2.2.1, ()))))), ())))))) (B := ((-1 : Int), ((W, ()), ((t, ()), ((((), ()), ()), ((x.1, (x.2.1, (x.2.2.1, (x.2.2.2.1, (x.2.2.2.2.1, ()))))), ())))))) hc
    (fun k n j y hj hy => by
      show slices_IndexFunc_Lock_Lock_lock_Table_leave_1_l0 k (n + 1) _ _ _ _ _ _ _ _ _ _ = _
      rw [slices_IndexFunc_Lock_Lock_lock_Table_leave_1_l0_eq, bt (by omega), inI_t (by omega) (by omega), must_tr, Nat.zero_add, Int.toNat_natCast, hy, Option.bind_some, leave1_v, Option.bind_some, wr_suc (by omega)])
    (fun k n => by
      show slices_IndexFunc_Lock_Lock_lock_Table_leave_1_l0 k (n + 1) _ _ _ _ _ _ _ _ _ _ = _
      rw [slices_IndexFunc_Lock_Lock_lock_Table_leave_1_l0_eq, bf (by omega)]) c 0 (by omega)).dg
  obtain ⟨n, W', h1, h2, h3⟩ := delF_ev (D := fun k => slices_DeleteFunc_Lock_Lock_lock_Table_leave_1 k c W t x.1 x.2.1 x.2.2.1 x.2.2.2.1 x.2.2.2.2.1) (p := fun w => decide (w.1 = t) && !sameP w x)
    (L := fun k n i j W => slices_DeleteFunc_Lock_Lock_lock_Table_leave_1_l0 k n c i j W t x.1 x.2.1 x.2.2.1 x.2.2.2.1 x.2.2.2.2.1)
    (fun i => (i, ((W, ()), ((t, ()), ((((), ()), ()), ((x.1, (x.2.1, (x.2.2.1, (x.2.2.2.1, (x.2.2.2.2.1, ()))))), ()))))))
    (fun i W => (i, ((W, ()), ((t, ()), ((((), ()), ()), ((x.1, (x.2.1, (x.2.2.1, (x.2.2.2.1, (x.2.2.2.2.1, ()))))), ())))))) hc hI
    (G := fun k r => bif (decide (r.1 = (-1))) then some (c, ((r.2.1.1, ()), ((r.2.2.1.1, ()), ((((), ()), ()), ((r.2.2.2.2.1.1, (r.2.2.2.2.1.2.1, (r.2.2.2.2.1.2.2.1, (r.2.2.2.2.1.2.2.2.1, (r.2.2.2.2.1.2.2.2.2.1, ()))))), ()))))) else slices_DeleteFunc_Lock_Lock_lock_Table_leave_1_l0 k k c r.1 (wr .i64 (r.1 + 1)) r.2.1.1 r.2.2.1.1 r.2.2.2.2.1.1 r.2.2.2.2.1.2.1 r.2.2.2.2.1.2.2.1 r.2.2.2.2.1.2.2.2.1 r.2.2.2.2.1.2.2.2.2.1)
    (fun k => by rw [slices_DeleteFunc_Lock_Lock_lock_Table_leave_1_eq, slices_IndexFunc_Lock_Lock_lock_Table_leave_1_eq]; rfl) (fun k => rfl)
    (fun k i hi => by
      show (bif decide ((i : Int) = -1) then _ else slices_DeleteFunc_Lock_Lock_lock_Table_leave_1_l0 k k c (i : Int) (wr .i64 ((i : Int) + 1)) W t x.1 x.2.1 x.2.2.1 x.2.2.2.1 x.2.2.2.2.1) = _
      rw [bf (by omega), wr_suc (by omega)])
    (fun k n i j W y hij hj hl hy => by
      show slices_DeleteFunc_Lock_Lock_lock_Table_leave_1_l0 (k + 1) (n + 1) _ _ _ _ _ _ _ _ _ _ = _
      rw [slices_DeleteFunc_Lock_Lock_lock_Table_leave_1_l0_eq, bt (by omega), inI_t (by omega) (by omega), must_tr, Nat.zero_add, Int.toNat_natCast, hy, Option.bind_some, leave1_v, Option.bind_some]
      simp only [slices_DeleteFunc_Lock_Lock_lock_Table_leave_1_j0_eq, inI_t (j := (i : Int)) (n := c) (by omega) (by omega), must_tr, Nat.zero_add, Int.toNat_natCast, blt_t (show i < W.length by omega), wr_suc (show i < 1000000 by omega), wr_suc (show j < 1000000 by omega), eta5]
      cases (decide (y.1 = t) && !sameP y x) <;> rfl)
    (fun k n i W hi hl => by
      show slices_DeleteFunc_Lock_Lock_lock_Table_leave_1_l0 k (n + 1) _ _ _ _ _ _ _ _ _ _ = _
      rw [slices_DeleteFunc_Lock_Lock_lock_Table_leave_1_l0_eq, bf (by omega), inC_t (by omega) (by omega) (by omega), must_tr, inC_t (by omega) (by omega) (by omega), must_tr, Nat.zero_add, Int.toNat_natCast])
  refine ⟨n, W', ?_, h2, h3⟩
  simp only [lock_Table_leave_lock_Table_Ask_2_eq]
  exact .bind h1 (.from 0 fun k => rfl)
theorem leaveN_ev {W : List Lk} {c : Nat} (t : Int) (nh : Nat) (m : Bool) (H : List Lk) (hc : c ≤ W.length) (hb : c ≤ 100000) :
    ∃ (n : Nat) (W' : List Lk), Ev (fun k => lock_Table_leave_lock_none k t nh c m H W) ((), ((nh, (n, (m, ()))), ((H, ()), ((W', ()), ())))) ∧
      n ≤ W'.length ∧ W'.take n = (W.take c).filter (fun w => !decide (w.1 = t)) := by
  have hI := (idx_ev (L := fun k n i => slices_IndexFunc_Lock_Lock_lock_Table_leave_1_v2_l0 k n c ((c : Nat) : Int) i W t) (W := W) (c := c) (p := fun w => decide (w.1 = t))
    (A := fun i => (i, ((W, ()), ((t, ()), (((), ()), ()))))) (B := ((-1 : Int), ((W, ()), ((t, ()), (((), ()), ()))))) hc
    (fun k n j y hj hy => by
      show slices_IndexFunc_Lock_Lock_lock_Table_leave_1_v2_l0 k (n + 1) _ _ _ _ _ = _
      rw [slices_IndexFunc_Lock_Lock_lock_Table_leave_1_v2_l0_eq, bt (by omega), inI_t (by omega) (by omega), must_tr, Nat.zero_add, Int.toNat_natCast, hy, Option.bind_some, leave2_v, Option.bind_some, wr_suc (by omega)])
    (fun k n => by
      show slices_IndexFunc_Lock_Lock_lock_Table_leave_1_v2_l0 k (n + 1) _ _ _ _ _ = _
      rw [slices_IndexFunc_Lock_Lock_lock_Table_leave_1_v2_l0_eq, bf (by omega)]) c 0 (by omega)).dg
  obtain ⟨n, W', h1, h2, h3⟩ := delF_ev (D := fun k => slices_DeleteFunc_Lock_Lock_lock_Table_leave_1_v2 k c W t) (p := fun w => decide (w.1 = t))
    (L := fun k n i j W => slices_DeleteFunc_Lock_Lock_lock_Table_leave_1_v2_l0 k n c i j W t)
    (fun i => (i, ((W, ()), ((t, ()), (((), ()), ())))))
    (fun i W => (i, ((W, ()), ((t, ()), (((), ()), ()))))) hc hI
    (G := fun k r => bif (decide (r.1 = (-1))) then some (c, ((r.2.1.1, ()), ((r.2.2.1.1, ()), (((), ()), ())))) else slices_DeleteFunc_Lock_Lock_lock_Table_leave_1_v2_l0 k k c r.1 (wr .i64 (r.1 + 1)) r.2.1.1 r.2.2.1.1)
    (fun k => by rw [slices_DeleteFunc_Lock_Lock_lock_Table_leave_1_v2_eq, slices_IndexFunc_Lock_Lock_lock_Table_leave_1_v2_eq]; rfl) (fun k => rfl)
    (fun k i hi => by
      show (bif decide ((i : Int) = -1) then _ else slices_DeleteFunc_Lock_Lock_lock_Table_leave_1_v2_l0 k k c (i : Int) (wr .i64 ((i : Int) + 1)) W t) = _
      rw [bf (by omega), wr_suc (by omega)])
    (fun k n i j W y hij hj hl hy => by
      show slices_DeleteFunc_Lock_Lock_lock_Table_leave_1_v2_l0 (k + 1) (n + 1) _ _ _ _ _ = _
      rw [slices_DeleteFunc_Lock_Lock_lock_Table_leave_1_v2_l0_eq, bt (by omega), inI_t (by omega) (by omega), must_tr, Nat.zero_add, Int.toNat_natCast, hy, Option.bind_some, leave2_v, Option.bind_some]
      simp only [slices_DeleteFunc_Lock_Lock_lock_Table_leave_1_v2_j0_eq, inI_t (j := (i : Int)) (n := c) (by omega) (by omega), must_tr, Nat.zero_add, Int.toNat_natCast, blt_t (show i < W.length by omega), wr_suc (show i < 1000000 by omega), wr_suc (show j < 1000000 by omega), eta5]
      cases decide (y.1 = t) <;> rfl)
    (fun k n i W hi hl => by
      show slices_DeleteFunc_Lock_Lock_lock_Table_leave_1_v2_l0 k (n + 1) _ _ _ _ _ = _
      rw [slices_DeleteFunc_Lock_Lock_lock_Table_leave_1_v2_l0_eq, bf (by omega), inC_t (by omega) (by omega) (by omega), must_tr, inC_t (by omega) (by omega) (by omega), must_tr, Nat.zero_add, Int.toNat_natCast])
  refine ⟨n, W', ?_, h2, h3⟩
  simp only [lock_Table_leave_lock_none_eq]
  exact .bind h1 (.from 0 fun k => rfl)
theorem hasOwn_ev {W : List Lk} {c : Nat} (x : Lk) (hc : c ≤ W.length) (hb : c ≤ 100000) :
    Ev (fun k => slices_ContainsFunc_Lock_Lock_lock_Table_inWay_1 k c W x.1 x.2.1 x.2.2.1 x.2.2.2.1 x.2.2.2.2.1) ((W.take c).any (fun h => decide (h.1 = x.1) && meetP h x), ((W, ()), ((x.1, (x.2.1, (x.2.2.1, (x.2.2.2.1, (x.2.2.2.2.1, ()))))), ()))) := by
  simp only [slices_ContainsFunc_Lock_Lock_lock_Table_inWay_1_eq, slices_IndexFunc_Lock_Lock_lock_Table_inWay_1_eq]
  have h := (idx_ev (L := fun k n i => slices_IndexFunc_Lock_Lock_lock_Table_inWay_1_l0 k n c ((c : Nat) : Int) i W x.1 x.2.1 x.2.2.1 x.2.2.2.1 x.2.2.2.2.1) (W := W) (c := c) (p := fun h => decide (h.1 = x.1) && meetP h x)
    (A := fun i => (i, ((W, ()), ((x.1, (x.2.1, (x.2.2.1, (x.2.2.2.1, (x.2.2.2.2.1, ()))))), ())))) (B := ((-1 : Int), ((W, ()), ((x.1, (x.2.1, (x.2.2.1, (x.2.2.2.1, (x.2.2.2.2.1, ()))))), ())))) hc
    (fun k n j y hj hy => by
      show slices_IndexFunc_Lock_Lock_lock_Table_inWay_1_l0 k (n + 1) _ _ _ _ _ _ _ _ _ = _
      rw [slices_IndexFunc_Lock_Lock_lock_Table_inWay_1_l0_eq, bt (by omega), inI_t (by omega) (by omega), must_tr, Nat.zero_add, Int.toNat_natCast, hy, Option.bind_some, inway1_v, Option.bind_some, wr_suc (by omega)])
    (fun k n => by
      show slices_IndexFunc_Lock_Lock_lock_Table_inWay_1_l0 k (n + 1) _ _ _ _ _ _ _ _ _ = _
      rw [slices_IndexFunc_Lock_Lock_lock_Table_inWay_1_l0_eq, bf (by omega)]) c 0 (by omega)).dg
  refine .bind h (.from 0 fun k => ?_)
  rw [List.drop_zero, ← find_any]
  cases (W.take c).findIdx? fun h => decide (h.1 = x.1) && meetP h x with
  | none => rfl
  | some i => show some (decide (0 ≤ ((0 + i : Nat) : Int)), _) = _; rw [dT (by omega)]; rfl
def placeI (ws : List Lk) (x : Lk) : Nat := match ws.findIdx? fun w => sameP w x with
  | some i => i
  | none => ws.length
theorem place_ev {W : List Lk} {c : Nat} (x : Lk) (nh : Nat) (m : Bool) (H : List Lk) (hc : c ≤ W.length) (hb : c ≤ 100000) :
    Ev (fun k => lock_Table_place k x nh c m H W) ((placeI (W.take c) x : Int), ((nh, (c, (m, ()))), ((H, ()), ((W, ()), ())))) := by
  simp only [lock_Table_place_eq, slices_IndexFunc_Lock_Lock_lock_Table_place_1_eq]
  have h := (idx_ev (L := fun k n i => slices_IndexFunc_Lock_Lock_lock_Table_place_1_l0 k n c ((c : Nat) : Int) i W x.1 x.2.1 x.2.2.1 x.2.2.2.1 x.2.2.2.2.1) (W := W) (c := c) (p := fun h => sameP h x)
    (A := fun i => (i, ((W, ()), ((x.1, (x.2.1, (x.2.2.1, (x.2.2.2.1, (x.2.2.2.2.1, ()))))), ())))) (B := ((-1 : Int), ((W, ()), ((x.1, (x.2.1, (x.2.2.1, (x.2.2.2.1, (x.2.2.2.2.1, ()))))), ())))) hc
    (fun k n j y hj hy => by
      show slices_IndexFunc_Lock_Lock_lock_Table_place_1_l0 k (n + 1) _ _ _ _ _ _ _ _ _ = _
      rw [slices_IndexFunc_Lock_Lock_lock_Table_place_1_l0_eq, bt (by omega), inI_t (by omega) (by omega), must_tr, Nat.zero_add, Int.toNat_natCast, hy, Option.bind_some, place1_v, Option.bind_some, wr_suc (by omega)])
    (fun k n => by
      show slices_IndexFunc_Lock_Lock_lock_Table_place_1_l0 k (n + 1) _ _ _ _ _ _ _ _ _ = _
      rw [slices_IndexFunc_Lock_Lock_lock_Table_place_1_l0_eq, bf (by omega)]) c 0 (by omega)).dg
  refine .bind h (.from 0 fun k => ?_)
  rw [List.drop_zero]
  unfold placeI
  cases (W.take c).findIdx? fun h => sameP h x with
  | none =>
    rw [List.length_take, Nat.min_eq_left hc]
    rfl
  | some i =>
    show (bif decide (((0 + i : Nat) : Int) < 0) then _ else some (((0 + i : Nat) : Int), _)) = _
    rw [bf (by omega), Nat.zero_add]
/-- What stands in the way. -/
def againstP (l : List Lk) (x : Lk) : List Lk := l.filter fun h => !apartP h x && !fitP h.2.2.1 x.2.2.1
theorem lim_t {α : Type} {n : Nat} {x : Option α} (h : n ≤ 68719476736) : lim n x = x := if_pos h
theorem against_ev {W : List Lk} {c : Nat} (x : Lk) (hc : c ≤ W.length) (hb : c ≤ 100000) : Ev (fun k => lock_against_v2 k c x W) (againstP (W.take c) x, ((W, ()), ())) := by
  simp only [lock_against_v2_eq]
  have key : ∀ d j (b : Bool) (acc : List Lk), j + d = c → acc.length ≤ j → Ev2 (fun k n => lock_against_v2_l0 k n b acc c ((c : Nat) : Int) (j : Int) W x.1 x.2.1 x.2.2.1 x.2.2.2.1 x.2.2.2.2.1) (acc ++ againstP ((W.take c).drop j) x, ((W, ()), ())) := by
    intro d
    induction d with
    | zero =>
      intro j b acc hj ha
      have : j = c := by omega
      subst this
      rw [List.drop_eq_nil_of_le (by rw [List.length_take]; omega)]
      refine .up ⟨0, fun k n _ _ => ?_⟩
      show lock_against_v2_l0 k (n + 1) _ _ _ _ _ _ _ _ _ _ _ = _
      rw [lock_against_v2_l0_eq, bf (by omega)]
      simp [againstP]
    | succ d ih =>
      intro j b acc hj ha
      have hlt : j < W.length := by omega
      have hx : W[j]? = some W[j] := List.getElem?_eq_getElem hlt
      have hdr : (W.take c).drop j = W[j] :: (W.take c).drop (j + 1) := by
        rw [List.drop_eq_getElem_cons (by rw [List.length_take]; omega)]
        simp
      have stp : ∀ k n, lock_against_v2_l0 (k + 1) (n + 1) b acc c ((c : Nat) : Int) (j : Int) W x.1 x.2.1 x.2.2.1 x.2.2.2.1 x.2.2.2.2.1 =
          bif (!apartP W[j] x && !fitP W[j].2.2.1 x.2.2.1) then lock_against_v2_l0 (k + 1) n (b && false) (acc ++ [W[j]]) c ((c : Nat) : Int) ((j + 1 : Nat) : Int) W x.1 x.2.1 x.2.2.1 x.2.2.2.1 x.2.2.2.2.1
          else lock_against_v2_l0 (k + 1) n b acc c ((c : Nat) : Int) ((j + 1 : Nat) : Int) W x.1 x.2.1 x.2.2.1 x.2.2.2.1 x.2.2.2.2.1 := by
        intro k n
        rw [lock_against_v2_l0_eq, bt (by omega), inI_t (by omega) (by omega), must_tr, Nat.zero_add, Int.toNat_natCast, hx, Option.bind_some]
        simp only [apart_v, fits_v, Option.bind_some, lock_against_v2_j0_eq, wr_suc (show j < 1000000 by omega), eta5]
        rw [lim_t (by simp; omega)]
        cases apartP W[j] x <;> cases fitP W[j].2.2.1 x.2.2.1 <;> rfl
      rw [hdr]
      unfold againstP
      rw [List.filter_cons]
      refine .up (.upk ?_)
      cases hp : (!apartP W[j] x && !fitP W[j].2.2.1 x.2.2.1) with
      | true =>
        obtain ⟨K, hK⟩ := ih (j + 1) (b && false) (acc ++ [W[j]]) (by omega) (by simp; omega)
        refine ⟨K, fun k n hk hn => ?_⟩
        show lock_against_v2_l0 (k + 1) (n + 1) _ _ _ _ _ _ _ _ _ _ _ = _
        rw [stp, hp]
        have := hK (k + 1) n (by omega) hn
        rw [List.append_assoc] at this
        exact this
      | false =>
        obtain ⟨K, hK⟩ := ih (j + 1) b acc (by omega) (by omega)
        refine ⟨K, fun k n hk hn => ?_⟩
        show lock_against_v2_l0 (k + 1) (n + 1) _ _ _ _ _ _ _ _ _ _ _ = _
        rw [stp, hp]
        exact hK (k + 1) n (by omega) hn
  have := (key c 0 true [] (by omega) (by simp)).dg
  rw [List.drop_zero] at this
  exact this
theorem lookM_same {kt : Ty} {α : Type} (hd : ∀ x y : kt.D, kt.decEq x y = true ↔ x = y) : ∀ (l : List (kt.D × α)) (y : kt.D) (z : α), lookM kt (setM kt l y z) y = some z
  | [], y, z => by
    show (bif kt.decEq y y then _ else _) = _
    rw [(hd y y).2 rfl]; rfl
  | e :: r, y, z => by
    unfold setM
    cases h : kt.decEq y e.1 with
    | true => show (bif kt.decEq y y then _ else _) = _; rw [(hd y y).2 rfl]; rfl
    | false =>
      show (bif kt.decEq y e.1 then some e.2 else lookM kt (setM kt r y z) y) = some z
      rw [h]; exact lookM_same hd r y z
theorem lookM_ne {kt : Ty} {α : Type} (hd : ∀ x y : kt.D, kt.decEq x y = true ↔ x = y) : ∀ (l : List (kt.D × α)) (y y' : kt.D) (z : α), y' ≠ y → lookM kt (setM kt l y z) y' = lookM kt l y'
  | [], y, y', z, h => by
    show (bif kt.decEq y' y then _ else _) = _
    have : kt.decEq y' y = false := by rw [← Bool.not_eq_true, hd]; exact h
    rw [this]; rfl
  | e :: r, y, y', z, h => by
    unfold setM
    cases he : kt.decEq y e.1 with
    | true =>
      have e1 : y = e.1 := (hd _ _).1 he
      have : kt.decEq y' y = false := by rw [← Bool.not_eq_true, hd]; exact h
      show (bif kt.decEq y' y then some z else lookM kt r y') = (bif kt.decEq y' e.1 then some e.2 else lookM kt r y')
      rw [← e1, this]; rfl
    | false =>
      show (bif kt.decEq y' e.1 then some e.2 else lookM kt (setM kt r y z) y') = (bif kt.decEq y' e.1 then some e.2 else lookM kt r y')
      rw [lookM_ne hd r y y' z h]
theorem beqI_is (a b : Int) : beqI a b = true ↔ a = b := by simp [beqI]
theorem hdU (x y : (Ty.int .u64).D) : (Ty.int .u64).decEq x y = true ↔ x = y := beqI_is x y
theorem rev_ev : ∀ (d i j : Nat) (W : List Int), j ≤ i + d → j < W.length → W.length ≤ 100000 → ∃ W', Ev2 (fun k n => slices_Reverse_s_uint64_uint64_l0 k n (i : Int) (j : Int) W) ((), ((W', ()), ())) ∧ W'.length = W.length
  | d, i, j, W, hd, hj, hl => by
    by_cases h : i < j
    · cases d with
      | zero => omega
      | succ d =>
        have hi : i < W.length := by omega
        have x1 : W[j]? = some W[j] := List.getElem?_eq_getElem hj
        have x2 : W[i]? = some W[i] := List.getElem?_eq_getElem hi
        obtain ⟨W', hE, hl'⟩ := rev_ev d (i + 1) (j - 1) ((W.set i W[j]).set j W[i]) (by omega) (by simp; omega) (by simpa using hl)
        refine ⟨W', .up ?_, by rw [hl']; simp⟩
        obtain ⟨K, hK⟩ := hE
        refine ⟨K, fun k n hk hn => ?_⟩
        show slices_Reverse_s_uint64_uint64_l0 k (n + 1) _ _ _ = _
        rw [slices_Reverse_s_uint64_uint64_l0_eq, bt (by omega), inI_t (by omega) (by omega), must_tr, Int.toNat_natCast, x1, Option.bind_some, inI_t (by omega) (by omega), must_tr, Int.toNat_natCast, x2, Option.bind_some, must_tr, blt_t hi, must_tr,
          inI_t (by omega) (by simp; omega), must_tr, blt_t (by simp; omega), must_tr, wr_suc (by omega), wr_i64 (by omega), show (j : Int) - 1 = ((j - 1 : Nat) : Int) by omega]
        exact hK k n hk hn
    · refine ⟨W, .up ⟨0, fun k n _ _ => ?_⟩, rfl⟩
      show slices_Reverse_s_uint64_uint64_l0 k (n + 1) _ _ _ = _
      rw [slices_Reverse_s_uint64_uint64_l0_eq, bf (by omega)]
/-- A node from which the parents lead to the begin. -/
def Dp (by_ : List (Int × Int)) (from_ : Int) : Nat → Int → Prop
  | 0, n => n = from_
  | d + 1, n => n = from_ ∨ ∃ p, lookM (.int .u64) by_ n = some p ∧ Dp by_ from_ d p
theorem Dp.up {b : List (Int × Int)} {f : Int} : ∀ {d : Nat} {n : Int}, Dp b f d n → Dp b f (d + 1) n
  | 0, n, h => .inl h
  | d + 1, n, h => by
    rcases h with h | ⟨p, h1, h2⟩
    · exact .inl h
    · exact .inr ⟨p, h1, h2.up⟩
theorem Dp.set {b : List (Int × Int)} {f v q : Int} (hv : lookM (.int .u64) b v = none) : ∀ {d : Nat} {n : Int}, Dp b f d n → Dp (setM (.int .u64) b v q) f d n
  | 0, n, h => h
  | d + 1, n, h => by
    rcases h with h | ⟨p, h1, h2⟩
    · exact .inl h
    · refine .inr ⟨p, ?_, Dp.set hv h2⟩
      rw [lookM_ne hdU b v n q (fun e => by rw [e, hv] at h1; cases h1)]
      exact h1
theorem way_ev (f : Int) (wy : List Int) (b : List (Int × Int)) : ∀ (d : Nat) (n : Int) (acc : List Int), Dp b f d n → acc.length + d ≤ 90000 →
    ∃ r, Ev2 (fun k m => wait_Cycle_round_l0 k m n wait_Cycle_rj f wy b acc) r ∧ ∃ x, r = Sum.inr x ∧ x.2.2.2.2.2.2.1.1 ≠ [] := by
  have fin : ∀ (n : Int) (acc : List Int), n = f → acc.length ≤ 90000 → ∃ r, Ev2 (fun k m => wait_Cycle_round_l0 k m n wait_Cycle_rj f wy b acc) r ∧ ∃ x, r = Sum.inr x ∧ x.2.2.2.2.2.2.1.1 ≠ [] := by
    intro n acc hn hl
    obtain ⟨W', hE, hl'⟩ := rev_ev (acc ++ [f]).length 0 ((acc ++ [f]).length - 1) (acc ++ [f]) (by omega) (by simp) (by simp; omega)
    have hE := hE.dg
    obtain ⟨K, hK⟩ := hE
    have hz : (acc ++ [f]).length = acc.length + 1 := by simp
    have stp : ∃ x, (∀ k m, K ≤ k → wait_Cycle_round_l0 k (m + 1) n wait_Cycle_rj f wy b acc = some (Sum.inr x)) ∧ x.2.2.2.2.2.2.1.1 = W' := by
      apply Exists.intro
      apply And.intro
      · intro k m hk
        rw [wait_Cycle_round_l0_eq, dT hn]
        show lim _ _ = _
        rw [lim_t (by simp; omega), slices_Reverse_s_uint64_uint64_eq, wr_i64 (by omega), show ((acc ++ [f]).length : Int) - 1 = (((acc ++ [f]).length - 1 : Nat) : Int) by omega]
        have hk' : slices_Reverse_s_uint64_uint64_l0 k k (0 : Int) (((acc ++ [f]).length - 1 : Nat) : Int) (acc ++ [f]) = some ((), ((W', ()), ())) := hK k hk
        rw [hk']
        rfl
      · rfl
    obtain ⟨x, h1, h2⟩ := stp
    refine ⟨Sum.inr x, .up ⟨K, fun k m hk _ => h1 k m hk⟩, x, rfl, fun e => ?_⟩
    rw [h2] at e
    rw [e] at hl'
    simp at hl'
  intro d
  induction d with
  | zero => intro n acc h hl; exact fin n acc h (by omega)
  | succ d ih =>
    intro n acc h hl
    by_cases hn : n = f
    · exact fin n acc hn (by omega)
    · rcases h with h | ⟨p, h1, h2⟩
      · exact absurd h hn
      · obtain ⟨r, hE, hx⟩ := ih p (acc ++ [n]) h2 (by simp; omega)
        refine ⟨r, .up ?_, hx⟩
        obtain ⟨K, hK⟩ := hE
        refine ⟨K, fun k m hk hm => ?_⟩
        show wait_Cycle_round_l0 k (m + 1) _ _ _ _ _ _ = _
        rw [wait_Cycle_round_l0_eq, dF hn]
        show lim _ _ = _
        rw [lim_t (by simp; omega), h1]
        exact hK k m hk hm
theorem lkI_same {α : Type} (l : List (Int × α)) (y : Int) (z : α) : lookM (.int .u64) (setM (.int .u64) l y z) y = some z := lookM_same hdU l y z
theorem lkI_ne {α : Type} (l : List (Int × α)) (y y' : Int) (z : α) (h : y' ≠ y) : lookM (.int .u64) (setM (.int .u64) l y z) y' = lookM (.int .u64) l y' := lookM_ne hdU l y y' z h
abbrev Eg : Type := Int × (Int × Unit)
/-- How many edges lead to where nobody was. -/
def freshN (met : List (Int × Bool)) (l : List Eg) : Nat := (l.filter fun e => !(lookM (.int .u64) met e.2.1).getD false).length
theorem fresh_dec {met : List (Int × Bool)} {l : List Eg} {e : Eg} (he : e ∈ l) (h : (lookM (.int .u64) met e.2.1).getD false = false) : freshN (setM (.int .u64) met e.2.1 true) l + 1 ≤ freshN met l := by
  unfold freshN
  have sub : ∀ (l : List Eg), (l.filter fun e' => !(lookM (.int .u64) (setM (.int .u64) met e.2.1 true) e'.2.1).getD false).length ≤ (l.filter fun e => !(lookM (.int .u64) met e.2.1).getD false).length := by
    intro l
    induction l with
    | nil => exact Nat.le_refl _
    | cons x l ih =>
      rw [List.filter_cons, List.filter_cons]
      by_cases hx : x.2.1 = e.2.1
      · rw [hx, lkI_same, h]
        simp only [Option.getD_some, Bool.not_true, Bool.not_false, if_true, Bool.false_eq_true, if_false, List.length_cons]
        omega
      · rw [lkI_ne _ _ _ _ hx]
        split <;> first | (simp only [List.length_cons]; omega) | omega
  induction l with
  | nil => cases he
  | cons x l ih =>
    rw [List.filter_cons, List.filter_cons]
    by_cases hx : x.2.1 = e.2.1
    · rw [hx, lkI_same, h]
      simp only [Option.getD_some, Bool.not_true, Bool.not_false, if_true, Bool.false_eq_true, if_false, List.length_cons]
      have := sub l
      omega
    · have he' : e ∈ l := by
        rcases List.mem_cons.1 he with rfl | h'
        · exact absurd rfl hx
        · exact h'
      have := ih he'
      rw [lkI_ne _ _ _ _ hx]
      split <;> first | (simp only [List.length_cons]; omega) | omega
/-- What holds all along. -/
structure Wk (f : Int) (b : List (Int × Int)) (met : List (Int × Bool)) (q : List Int) (D : Nat) : Prop where
  dp : ∀ n ∈ q, Dp b f D n
  key : ∀ n, (lookM (.int .u64) met n).getD false = false → lookM (.int .u64) b n = none
theorem edge_eq (a b c : Int) : Ty.decEq (.st (.pair (.int .u64) (.pair (.int .u64) .unit))) ((a, (b, ())) : Eg) ((a, (c, ())) : Eg) = decide (b = c) := by
  show (beqI a a && (beqI b c && true)) = _
  have : beqI a a = true := (beqI_is a a).2 rfl
  rw [this]
  by_cases h : b = c
  · subst h; simp [beqI]
  · simp [beqI, h]
theorem round_ring (k : Nat) (e : Eg) {f : Int} (wy : List Int) (b : List (Int × Int)) (h : e.2.1 = f) : wait_Cycle_round k (e.1, (e.2.1, ())) wait_Cycle_rj f wy b = wait_Cycle_round_l0 k k e.1 wait_Cycle_rj f wy (setM (.int .u64) b e.2.1 e.1) [] := by
  rw [wait_Cycle_round_eq]
  show (bif !(Ty.decEq (.st (.pair (.int .u64) (.pair (.int .u64) .unit))) ((e.1, (e.2.1, ())) : Eg) ((e.1, (f, ())) : Eg)) then _ else _) = _
  rw [edge_eq, dT h]; rfl
theorem round_on (e : Eg) {f : Int} (wy : List Int) (b : List (Int × Int)) (h : e.2.1 ≠ f) : ∃ x, (∀ k, wait_Cycle_round k (e.1, (e.2.1, ())) wait_Cycle_rj f wy b = some (Sum.inl x)) ∧ x.2.1.1 = wait_Cycle_rj ∧ x.2.2.1.1 = f ∧ x.2.2.2.1.1 = wy ∧ x.2.2.2.2.2.1.1 = setM (.int .u64) b e.2.1 e.1 := by
  apply Exists.intro
  apply And.intro
  · intro k
    rw [wait_Cycle_round_eq]
    show (bif !(Ty.decEq (.st (.pair (.int .u64) (.pair (.int .u64) .unit))) ((e.1, (e.2.1, ())) : Eg) ((e.1, (f, ())) : Eg)) then _ else _) = _
    rw [edge_eq, dF h]; rfl
  · exact ⟨rfl, rfl, rfl, rfl⟩
theorem walk_ev (f : Int) (l : List Eg) (hl : l.length ≤ 40000) : ∀ (u : Nat) (q : List Int) (fl : Bool) (b : List (Int × Int)) (met : List (Int × Bool)) (D : Nat), q.length + freshN met l ≤ u → D + freshN met l ≤ 50000 → q.length + freshN met l ≤ 50000 → Wk f b met q D →
    ∃ r, Ev2 (fun k n => wait_walk_1_l0 k n fl q wait_Cycle_rj f l f [] b met) r ∧ ∀ x, r = Sum.inl x → x.2.2.2.2.2.2.2.2.1.1 ≠ [] := by
  intro u
  induction u with
  | zero =>
    intro q fl b met D hu _ _ _
    have hq : q = [] := List.eq_nil_of_length_eq_zero (by omega)
    subst hq
    have stp : ∃ x, ∀ k n, wait_walk_1_l0 k (n + 1) fl [] wait_Cycle_rj f l f [] b met = some (Sum.inr x) := by
      apply Exists.intro
      intro k n
      rw [wait_walk_1_l0_eq]
      rfl
    obtain ⟨x, hx⟩ := stp
    exact ⟨Sum.inr x, .up ⟨0, fun k n _ _ => hx k n⟩, fun y hy => by cases hy⟩
  | succ u ih =>
    intro q fl b met D hu hD hq W
    cases q with
    | nil =>
      have stp : ∃ x, ∀ k n, wait_walk_1_l0 k (n + 1) fl [] wait_Cycle_rj f l f [] b met = some (Sum.inr x) := by
        apply Exists.intro
        intro k n
        rw [wait_walk_1_l0_eq]
        rfl
      obtain ⟨x, hx⟩ := stp
      exact ⟨Sum.inr x, .up ⟨0, fun k n _ _ => hx k n⟩, fun y hy => by cases hy⟩
    | cons c q =>
      -- the edges, one by one
      have inner : ∀ (d j : Nat) (q : List Int) (fl : Bool) (b : List (Int × Int)) (met : List (Int × Bool)) (D : Nat), j + d = l.length → q.length + 1 + freshN met l ≤ u + 1 → D + freshN met l ≤ 50000 → q.length + 1 + freshN met l ≤ 50000 → Wk f b met (c :: q) D →
          ∃ r, Ev3 (fun k n m => wait_walk_1_l1 k n m fl (c :: q) l (l.length : Int) (j : Int) wait_Cycle_rj f l f [] b met) r ∧ ∀ x, r = Sum.inl x → x.2.2.2.2.2.2.2.2.1.1 ≠ [] := by
        intro d
        induction d with
        | zero =>
          intro j q fl b met D hj hu hD hq W
          have hj : j = l.length := by omega
          subst hj
          obtain ⟨r, hE, hr⟩ := ih q fl b met D (by omega) hD (by omega) ⟨fun n hn => W.dp n (List.mem_cons_of_mem _ hn), W.key⟩
          refine ⟨r, .up ?_, hr⟩
          obtain ⟨K, hK⟩ := hE
          refine ⟨K, fun k n m hk hn hm => ?_⟩
          show wait_walk_1_l1 k n (m + 1) _ _ _ _ _ _ _ _ _ _ _ _ = _
          rw [wait_walk_1_l1_eq, bf (by omega)]
          have hc : cut (c :: q) (1 : Int) ((c :: q).length : Int) = some q := by
            have := cut_from (l := c :: q) (n := 1) (by simp)
            simpa using this
          rw [hc]
          exact hK k n hk hn
        | succ d ihd =>
          intro j q fl b met D hj hu hD hq W
          have hlt : j < l.length := by omega
          have hx : nth l (j : Int) = some l[j] := nth_get (List.getElem?_eq_getElem hlt)
          have h0 : nth (c :: q) (0 : Int) = some c := nth_get (j := 0) rfl
          generalize hee : l[j] = e at hx
          have hmem : e ∈ l := by rw [← hee]; exact List.getElem_mem hlt
          have skip : (e.1 ≠ c ∨ (lookM (.int .u64) met e.2.1).getD false = true) → ∃ r, Ev3 (fun k n m => wait_walk_1_l1 k n m fl (c :: q) l (l.length : Int) (j : Int) wait_Cycle_rj f l f [] b met) r ∧ ∀ x, r = Sum.inl x → x.2.2.2.2.2.2.2.2.1.1 ≠ [] := by
            intro hs
            obtain ⟨r, hE, hr⟩ := ihd (j + 1) q fl b met D (by omega) hu hD hq W
            refine ⟨r, .up ?_, hr⟩
            obtain ⟨K, hK⟩ := hE
            refine ⟨K, fun k n m hk hn hm => ?_⟩
            show wait_walk_1_l1 k n (m + 1) _ _ _ _ _ _ _ _ _ _ _ _ = _
            rw [wait_walk_1_l1_eq, bt (by omega), hx, Option.bind_some, h0, Option.bind_some, wr_suc (by omega)]
            by_cases h1 : e.1 = c
            · rw [dT h1]
              rcases hs with hs | hs
              · exact absurd h1 hs
              · rw [hs]; exact hK k n m hk hn hm
            · rw [dF h1]; exact hK k n m hk hn hm
          by_cases h1 : e.1 = c
          case neg => exact skip (.inl h1)
          cases h2 : (lookM (.int .u64) met e.2.1).getD false with
          | true => exact skip (.inr h2)
          | false =>
            have hdec := fresh_dec hmem h2
            have hnew := W.key _ h2
            have hcd : Dp b f D e.1 := by rw [h1]; exact W.dp c (List.mem_cons_self ..)
            by_cases h3 : e.2.1 = f
            · -- a ring
              obtain ⟨r, ⟨K, hK⟩, x, rfl, hx2⟩ := way_ev f [] (setM (.int .u64) b e.2.1 e.1) D e.1 [] (hcd.set hnew) (by simp; omega)
              have stp : ∃ y, (∀ k n m, K ≤ k → wait_walk_1_l1 k n (m + 1) fl (c :: q) l (l.length : Int) (j : Int) wait_Cycle_rj f l f [] b met = some (Sum.inl y)) ∧ y.2.2.2.2.2.2.2.2.1.1 = x.2.2.2.2.2.2.1.1 := by
                apply Exists.intro
                apply And.intro
                · intro k n m hk
                  rw [wait_walk_1_l1_eq, bt (by omega), hx, Option.bind_some, h0, Option.bind_some, dT h1, h2, round_ring k e [] b h3]
                  show ((wait_Cycle_round_l0 k k e.1 wait_Cycle_rj f [] (setM (.int .u64) b e.2.1 e.1) []).bind _) = _
                  rw [show wait_Cycle_round_l0 k k e.1 wait_Cycle_rj f [] (setM (.int .u64) b e.2.1 e.1) [] = some (Sum.inr x) from hK k k hk hk]
                  rfl
                · rfl
              obtain ⟨y, hy1, hy2⟩ := stp
              refine ⟨Sum.inl y, .up ⟨K, fun k n m hk _ _ => hy1 k n m hk⟩, fun z hz => ?_⟩
              cases hz
              rw [hy2]; exact hx2
            · have W2 : Wk f (setM (.int .u64) b e.2.1 e.1) (setM (.int .u64) met e.2.1 true) (c :: (q ++ [e.2.1])) (D + 1) := by
                refine ⟨fun n hn => ?_, fun n hn => ?_⟩
                · rw [← List.cons_append] at hn
                  rcases List.mem_append.1 hn with hn | hn
                  · exact ((W.dp n hn).set hnew).up
                  · rw [List.mem_singleton] at hn
                    subst hn
                    exact .inr ⟨e.1, lkI_same _ _ _, hcd.set hnew⟩
                · by_cases hne : n = e.2.1
                  · subst hne; rw [lkI_same] at hn; cases hn
                  · rw [lkI_ne _ _ _ _ hne] at hn ⊢
                    exact W.key n hn
              obtain ⟨r, hE, hr⟩ := ihd (j + 1) (q ++ [e.2.1]) (fl && [e.2.1].isEmpty) _ _ (D + 1) (by omega) (by simp; omega) (by omega) (by simp; omega) W2
              refine ⟨r, .up (.upk ?_), hr⟩
              obtain ⟨K, hK⟩ := hE
              obtain ⟨x, x1, x2, x3, x4, x5⟩ := round_on e [] b h3
              refine ⟨K, fun k n m hk hn hm => ?_⟩
              show wait_walk_1_l1 (k + 1) n (m + 1) _ _ _ _ _ _ _ _ _ _ _ _ = _
              rw [wait_walk_1_l1_eq, bt (by omega), hx, Option.bind_some, h0, Option.bind_some, dT h1, h2, x1]
              show (bif !decide (e.2.1 = f) then lim _ _ else _) = _
              rw [dF h3]
              show lim _ _ = _
              rw [lim_t (by simp; omega)]
              refine (wait_walk_1_j0_eq ..).trans ?_
              rw [wr_suc (by omega), x2, x3, x4, x5]
              exact hK (k + 1) n m (by omega) hn hm
      obtain ⟨r, hE, hr⟩ := inner l.length 0 q fl b met D (by omega) (by simpa using hu) hD (by simpa using hq) W
      refine ⟨r, .up ?_, hr⟩
      obtain ⟨K, hK⟩ := hE.dg
      refine ⟨K, fun k n hk hn => ?_⟩
      show wait_walk_1_l0 k (n + 1) _ _ _ _ _ _ _ _ _ = _
      rw [wait_walk_1_l0_eq, bt (by simp; try omega)]
      exact hK k n hk hn
/-- The search for a ring comes to an end. -/
theorem cycle_ev (l : List Eg) (f : Int) (hl : l.length ≤ 40000) : (∃ x, Ev (fun k => wait_Cycle k l f) (Sum.inl x) ∧ x.2.2.1.1 ≠ []) ∨ Ev (fun k => wait_Cycle k l f) (Sum.inr ((true, []), (((true, []), ()), ()))) := by
  have hf : freshN [] l ≤ l.length := List.length_filter_le ..
  obtain ⟨r, hE, hr⟩ := walk_ev f l hl (1 + freshN [] l) [f] false [] [] 0 (by simp) (by omega) (by simp; omega) ⟨fun n hn => by rw [List.mem_singleton] at hn; exact hn, fun n _ => rfl⟩
  obtain ⟨K, hK⟩ := hE.dg
  cases r with
  | inl x =>
    left
    have stp : ∃ y, (∀ k, K ≤ k → wait_Cycle k l f = some (Sum.inl y)) ∧ y.2.2.1.1 = x.2.2.2.2.2.2.2.2.1.1 := by
      apply Exists.intro
      apply And.intro
      · intro k hk
        rw [wait_Cycle_eq, wait_walk_eq]
        show ((wait_walk_1 k wait_Cycle_rj f l f [] []).bind _) = _
        rw [wait_walk_1_eq, show wait_walk_1_l0 k k false [f] wait_Cycle_rj f l f [] [] [] = some (Sum.inl x) from hK k hk]
        rfl
      · rfl
    obtain ⟨y, h1, h2⟩ := stp
    exact ⟨y, ⟨K, h1⟩, by rw [h2]; exact hr x rfl⟩
  | inr x =>
    right
    refine ⟨K, fun k hk => ?_⟩
    show wait_Cycle k l f = _
    rw [wait_Cycle_eq, wait_walk_eq]
    show ((wait_walk_1 k wait_Cycle_rj f l f [] []).bind _) = _
    rw [wait_walk_1_eq, show wait_walk_1_l0 k k false [f] wait_Cycle_rj f l f [] [] [] = some (Sum.inr x) from hK k hk]
    rfl
theorem Ev.sh {α : Type} {F : Nat → Option α} {r : α} (h : Ev F r) : Ev (fun k => F (k + 1)) r := by
  obtain ⟨K, hK⟩ := h
  exact ⟨K, fun k hk => hK (k + 1) (by omega)⟩
def inWayP (hs ws : List Lk) (x : Lk) (at_ : Nat) : List Lk := bif hs.any (fun h => decide (h.1 = x.1) && meetP h x) then againstP hs x else againstP hs x ++ againstP (ws.take at_) x
theorem against_len (l : List Lk) (x : Lk) : (againstP l x).length ≤ l.length := List.length_filter_le ..
theorem inWay_len (hs ws : List Lk) (x : Lk) (at_ : Nat) : (inWayP hs ws x at_).length ≤ hs.length + ws.length := by
  unfold inWayP
  have h1 := against_len hs x
  have h2 := against_len (ws.take at_) x
  have h3 : (ws.take at_).length ≤ ws.length := by rw [List.length_take]; omega
  cases hs.any _
  · simp only [cond_false, List.length_append]; omega
  · simp only [cond_true]; omega
theorem inWay_ev {H W : List Lk} {nh nw at_ : Nat} (x : Lk) (m : Bool) (hH : nh ≤ H.length) (hW : nw ≤ W.length) (ha : at_ ≤ nw) (b1 : nh ≤ 10000) (b2 : nw ≤ 10000) :
    Ev (fun k => lock_Table_inWay k x (at_ : Int) nh nw m H W) (inWayP (H.take nh) (W.take nw) x at_, ((nh, (nw, (m, ()))), ((H, ()), ((W, ()), ())))) := by
  refine .up ?_
  simp only [lock_Table_inWay_eq]
  refine .bind (against_ev x hH (by omega)).sh ?_
  refine .bind (hasOwn_ev x hH (by omega)).sh ?_
  unfold inWayP
  cases h : (H.take nh).any fun h => decide (h.1 = x.1) && meetP h x with
  | true =>
    refine .from 0 fun k => ?_
    show lock_Table_inWay_j0 (k + 0 + 1) _ _ _ _ _ _ = _
    rw [lock_Table_inWay_j0_eq]; rfl
  | false =>
    have e : (W.take nw).take at_ = W.take at_ := by rw [List.take_take, Nat.min_eq_left ha]
    obtain ⟨K, hK⟩ := (against_ev (W := W) (c := at_) x (by omega) (by omega)).sh
    refine ⟨K, fun k hk => ?_⟩
    show (must (inC 0 (at_ : Int) nw) ((lock_against_v2 (k + 1) (at_ : Int).toNat x W).bind _)) = _
    rw [inC_t (by omega) (by omega) (by omega), must_tr, Int.toNat_natCast, show lock_against_v2 (k + 1) at_ x W = _ from hK k hk, Option.bind_some]
    have l1 := against_len (H.take nh) x
    have l2 := against_len (W.take at_) x
    rw [List.length_take] at l1 l2
    show lim ((againstP (H.take nh) x).length + (againstP (W.take at_) x).length) _ = _
    rw [lim_t (by omega), lock_Table_inWay_j0_eq, e]; rfl
theorem edges_ev {H W : List Lk} {nh nw : Nat} (hH : nh ≤ H.length) (hW : nw ≤ W.length) (b1 : nh ≤ 100) (b2 : nw ≤ 100) :
    ∃ E, Ev (fun k => lock_Table_Edges k nh nw true H W) (E, ((nh, (nw, (true, ()))), ((H, ()), ((W, ()), ())))) ∧ E.length ≤ 40000 := by
  have outer : ∀ (d i : Nat) (fl : Bool) (out : List Eg) (met : List (Eg × Bool)), i + d = nw → out.length + d * 200 ≤ 40000 →
      ∃ E, Ev2 (fun k n => lock_Table_Edges_l0 k n fl out nw ((nw : Nat) : Int) (i : Int) nh nw true H W met) (E, ((nh, (nw, (true, ()))), ((H, ()), ((W, ()), ())))) ∧ E.length ≤ 40000 := by
    intro d
    induction d with
    | zero =>
      intro i fl out met hi ho
      have : i = nw := by omega
      subst this
      refine ⟨out, .up ⟨0, fun k n _ _ => ?_⟩, by omega⟩
      show lock_Table_Edges_l0 k (n + 1) _ _ _ _ _ _ _ _ _ _ _ = _
      rw [lock_Table_Edges_l0_eq, bf (by omega)]
    | succ d ih =>
      intro i fl out met hi ho
      have hlt : i < W.length := by omega
      have hx : W[i]? = some W[i] := List.getElem?_eq_getElem hlt
      generalize W[i] = x at hx
      have inner : ∀ (ls : List Lk), ls.length ≤ 10000 → ∀ (e j : Nat) (fl : Bool) (out : List Eg) (met : List (Eg × Bool)), j + e = ls.length → out.length + e + d * 200 ≤ 40000 →
          ∃ E, Ev3 (fun k n p => lock_Table_Edges_l1 k n p fl out nw ((nw : Nat) : Int) (i : Int) ls (ls.length : Int) (j : Int) nh nw true H W met x.1 x.2.1 x.2.2.1 x.2.2.2.1 x.2.2.2.2.1) (E, ((nh, (nw, (true, ()))), ((H, ()), ((W, ()), ())))) ∧ E.length ≤ 40000 := by
        intro ls hls e
        induction e with
        | zero =>
          intro j fl out met hj ho
          have : j = ls.length := by omega
          subst this
          obtain ⟨E, hE, hl⟩ := ih (i + 1) fl out met (by omega) (by omega)
          refine ⟨E, .up ?_, hl⟩
          obtain ⟨K, hK⟩ := hE
          refine ⟨K, fun k n p hk hn hp => ?_⟩
          refine (lock_Table_Edges_l1_eq ..).trans ?_
          rw [bf (by omega), wr_suc (by omega)]
          exact hK k n hk hn
        | succ e ihe =>
          intro j fl out met hj ho
          have hlj : j < ls.length := by omega
          have hy : nth ls (j : Int) = some ls[j] := nth_get (List.getElem?_eq_getElem hlj)
          generalize ls[j] = y at hy
          cases hm : (lookM (.st (.pair (.int .u64) (.pair (.int .u64) .unit))) met ((x.1, (y.1, ())) : Eg)).getD false with
          | true =>
            obtain ⟨E, hE, hl⟩ := ihe (j + 1) fl out met (by omega) (by omega)
            refine ⟨E, .up ?_, hl⟩
            obtain ⟨K, hK⟩ := hE
            refine ⟨K, fun k n p hk hn hp => ?_⟩
            refine (lock_Table_Edges_l1_eq ..).trans ?_
            rw [bt (by omega), hy, Option.bind_some]
            refine (congrArg (fun b => bif b then _ else _) hm).trans ?_
            rw [wr_suc (by omega)]
            exact hK k n p hk hn hp
          | false =>
            obtain ⟨E, hE, hl⟩ := ihe (j + 1) (fl && ([((x.1, (y.1, ())) : Eg)] : List Eg).isEmpty) (out ++ [(x.1, (y.1, ()))]) (setM (.st (.pair (.int .u64) (.pair (.int .u64) .unit))) met ((x.1, (y.1, ())) : Eg) true) (by omega) (by simp; omega)
            refine ⟨E, .up ?_, hl⟩
            obtain ⟨K, hK⟩ := hE
            refine ⟨K, fun k n p hk hn hp => ?_⟩
            refine (lock_Table_Edges_l1_eq ..).trans ?_
            rw [bt (by omega), hy, Option.bind_some]
            refine (congrArg (fun b => bif b then _ else _) hm).trans ?_
            show lim _ (bif decide (((out ++ [((x.1, (y.1, ())) : Eg)]).length : Int) = 160000) then _ else _) = _
            rw [lim_t (by simp; omega), bf (by simp; omega), wr_suc (by omega)]
            exact hK k n p hk hn hp
      have hw := inWay_ev (H := H) (W := W) (at_ := i) x true hH hW (by omega) (by omega) (by omega)
      have hl := inWay_len (H.take nh) (W.take nw) x i
      rw [List.length_take, List.length_take] at hl
      obtain ⟨E, hE, hl'⟩ := inner (inWayP (H.take nh) (W.take nw) x i) (by omega) _ 0 fl out met (Nat.zero_add _) (by omega)
      refine ⟨E, .up ?_, hl'⟩
      obtain ⟨K, hK⟩ := hE.dg
      obtain ⟨K2, hK2⟩ := hw
      refine ⟨Nat.max K K2, fun k n hk hn => ?_⟩
      refine (lock_Table_Edges_l0_eq ..).trans ?_
      rw [bt (by omega), inI_t (by omega) (by omega), must_tr, Nat.zero_add, Int.toNat_natCast, hx, Option.bind_some]
      show ((lock_Table_inWay k x (i : Int) nh nw true H W).bind _) = _
      rw [show lock_Table_inWay k x (i : Int) nh nw true H W = _ from hK2 k (Nat.le_trans (Nat.le_max_right K K2) hk), Option.bind_some]
      exact hK k n (Nat.le_trans (Nat.le_max_left K K2) hk) (Nat.le_trans (Nat.le_max_left K K2) hn)
  obtain ⟨E, hE, hl⟩ := outer nw 0 true [] [] (by omega) (by simp; omega)
  refine ⟨E, ?_, hl⟩
  obtain ⟨K, hK⟩ := hE.dg
  refine ⟨K, fun k hk => ?_⟩
  show lock_Table_Edges k nh nw true H W = _
  rw [lock_Table_Edges_eq, lock_Table_ok_eq]
  exact hK k hk
def mayP (x : Lk) : Bool := (!decide (x.1 = 0)) && ((decide (x.2.1 = 0) || decide (x.2.1 = 1)) && ((decide (1 ≤ x.2.2.1) && decide (x.2.2.1 ≤ 4)) && !endP x.2.2.2.2.1 x.2.2.2.1))
theorem may_v (k : Nat) (x : Lk) : lock_may k x = some (mayP x, ()) := by
  rw [lock_may_eq]
  simp only [mode_v, ends_v, Option.bind_some]
  unfold mayP
  cases decide (x.2.1 = 0) <;> cases decide (x.1 = 0) <;> cases decide (x.2.1 = 1) <;> cases (decide (1 ≤ x.2.2.1) && decide (x.2.2.1 ≤ 4)) <;> rfl
def leaveP (ws : List Lk) (x : Lk) : List Lk := ws.filter fun w => !(decide (w.1 = x.1) && !sameP w x)
def goneP (ws : List Lk) (t : Int) : List Lk := ws.filter fun w => !decide (w.1 = t)
def joinP (ws : List Lk) (x : Lk) : List Lk := if placeI ws x = ws.length then ws ++ [x] else ws
/-- What asking for a lock comes to. -/
def askR (hs ws : List Lk) (x : Lk) (b : Bool) (e : Int) (hs' ws' : List Lk) : Prop :=
  (mayP x = false ∧ b = false ∧ e = 1 ∧ hs' = hs ∧ ws' = ws) ∨
  (mayP x = true ∧ hs.any (fun h => covP h x) = true ∧ b = true ∧ e = 0 ∧ hs' = hs ∧ ws' = ws) ∨
  (mayP x = true ∧ hs.any (fun h => covP h x) = false ∧ inWayP hs (leaveP ws x) x (placeI (leaveP ws x) x) = [] ∧ ws' = goneP (leaveP ws x) x.1 ∧
    ((400 ≤ hs.length ∧ b = false ∧ e = 132 ∧ hs' = hs) ∨ (hs.length < 400 ∧ b = true ∧ e = 0 ∧ hs' = hs ++ [x]))) ∨
  (mayP x = true ∧ hs.any (fun h => covP h x) = false ∧ inWayP hs (leaveP ws x) x (placeI (leaveP ws x) x) ≠ [] ∧ b = false ∧ hs' = hs ∧
    ((e = 131 ∧ ws' = goneP (joinP (leaveP ws x) x) x.1) ∨ (e = 0 ∧ ws' = joinP (leaveP ws x) x)))
theorem placeI_le (ws : List Lk) (x : Lk) : placeI ws x ≤ ws.length := by
  unfold placeI
  split
  · rename_i i h; exact Nat.le_of_lt (filt_some h).1
  · exact Nat.le_refl _
theorem take_one {H : List Lk} {n : Nat} (x : Lk) (h : n ≤ H.length) : (apc H n [x]).take (n + 1) = H.take n ++ [x] ∧ n + 1 ≤ (apc H n [x]).length := by
  have e : apc H n [x] = H.take n ++ [x] := rfl
  have l : (H.take n ++ [x]).length = n + 1 := by rw [List.length_append, List.length_take, Nat.min_eq_left h]; rfl
  rw [e, ← l, List.take_length]
  exact ⟨rfl, Nat.le_refl _⟩
/-- The end, where something stands in the way. -/
theorem askJ_ev {H W : List Lk} {nh nw : Nat} (x : Lk) (hH : nh ≤ H.length) (hW : nw ≤ W.length) (b1 : nh ≤ 100) (b2 : nw ≤ 100) :
    ∃ e nw' W', Ev (fun k => lock_Table_Ask_j0 k nh nw true H x.1 x.2.1 x.2.2.1 x.2.2.2.1 x.2.2.2.2.1 W) ((false, (e, ())), ((nh, (nw', (true, ()))), ((), ((), ((H, ()), ((W', ()), ())))))) ∧ nw' ≤ W'.length ∧
      ((e = 131 ∧ W'.take nw' = goneP (W.take nw) x.1) ∨ (e = 0 ∧ W'.take nw' = W.take nw)) := by
  obtain ⟨E, hE, hl⟩ := edges_ev hH hW b1 b2
  obtain ⟨n, W', hL, h2, h3⟩ := leaveN_ev (W := W) (c := nw) x.1 nh true H hW (by omega)
  rcases cycle_ev E x.1 hl with ⟨c, hc, hne⟩ | hc
  · refine ⟨131, n, W', .up ?_, h2, .inl ⟨rfl, h3⟩⟩
    simp only [lock_Table_Ask_j0_eq]
    refine .bind hE.sh (.bind hc.sh ?_)
    obtain ⟨K, hK⟩ := hL.sh
    refine ⟨K, fun k hk => ?_⟩
    show must (!c.2.2.1.1.isEmpty) ((lock_Table_leave_lock_none (k + 1) x.1 nh nw true H W).bind _) = _
    have : c.2.2.1.1.isEmpty = false := by
      cases h : c.2.2.1.1 with
      | nil => exact absurd h hne
      | cons _ _ => rfl
    rw [this, show lock_Table_leave_lock_none (k + 1) x.1 nh nw true H W = _ from hK k hk]
    rfl
  · refine ⟨0, nw, W, .up ?_, hW, .inr ⟨rfl, rfl⟩⟩
    simp only [lock_Table_Ask_j0_eq]
    refine .bind hE.sh (.bind hc.sh (.from 0 fun k => rfl))
theorem own_t (k : Nat) (x : Lk) (h1 : x.2.2.2.1.length ≤ 60000) (h2 : x.2.2.2.2.1.length ≤ 60000) : lock_own k x = some (x, (x, ())) := by
  rw [own_v, lim_t (by omega), lim_t (by omega)]
theorem ask_ev {H W : List Lk} {nh nw : Nat} (x : Lk) (hH : nh ≤ H.length) (hW : nw ≤ W.length) (b1 : nh ≤ 90) (b2 : nw ≤ 90) (s1 : x.2.2.2.1.length ≤ 60000) (s2 : x.2.2.2.2.1.length ≤ 60000) :
    ∃ b e nh' nw' H' W', Ev (fun k => lock_Table_Ask k x nh nw true H W) ((b, (e, ())), ((nh', (nw', (true, ()))), ((), ((), ((H', ()), ((W', ()), ())))))) ∧ nh' ≤ H'.length ∧ nw' ≤ W'.length ∧
      askR (H.take nh) (W.take nw) x b e (H'.take nh') (W'.take nw') := by
  cases hm : mayP x with
  | false =>
    refine ⟨false, 1, nh, nw, H, W, .from 0 fun k => ?_, hH, hW, .inl ⟨hm, rfl, rfl, rfl, rfl⟩⟩
    rw [lock_Table_Ask_eq, lock_Table_ok_eq]
    simp only [may_v, Option.bind_some, eta5, hm]
    rfl
  | true =>
  have c1 := hasCov_ev (W := H) (c := nh) x hH (by omega)
  cases hc : (H.take nh).any fun h => covP h x with
  | true =>
    refine ⟨true, 0, nh, nw, H, W, ?_, hH, hW, .inr (.inl ⟨hm, hc, rfl, rfl, rfl, rfl⟩)⟩
    rw [hc] at c1
    simp only [lock_Table_Ask_eq, lock_Table_ok_eq, may_v, Option.bind_some, eta5, hm]
    exact .bind c1 (.from 0 fun k => rfl)
  | false =>
    rw [hc] at c1
    obtain ⟨n1, W1, c2, g1, g2⟩ := leaveS_ev (W := W) (c := nw) x.1 x nh true H hW (by omega)
    have g2 : W1.take n1 = leaveP (W.take nw) x := g2
    have gl : n1 ≤ nw := by
      have e := congrArg List.length g2
      rw [List.length_take, Nat.min_eq_left g1] at e
      have : (leaveP (W.take nw) x).length ≤ (W.take nw).length := List.length_filter_le ..
      rw [List.length_take] at this
      omega
    have c3 := place_ev (W := W1) (c := n1) x nh true H g1 (by omega)
    have pl := placeI_le (W1.take n1) x
    have tl : (W1.take n1).length = n1 := by rw [List.length_take, Nat.min_eq_left g1]
    have c4 := inWay_ev (H := H) (W := W1) (nh := nh) (nw := n1) (at_ := placeI (W1.take n1) x) x true hH g1 (by omega) (by omega) (by omega)
    rw [g2] at c3 c4 pl tl
    cases hw : inWayP (H.take nh) (leaveP (W.take nw) x) x (placeI (leaveP (W.take nw) x) x) with
    | nil =>
      rw [hw] at c4
      obtain ⟨n2, W2, c5, g3, g4⟩ := leaveN_ev (W := W1) (c := n1) x.1 nh true H g1 (by omega)
      have g4 : W2.take n2 = goneP (leaveP (W.take nw) x) x.1 := by rw [g4, g2]; rfl
      obtain ⟨t1, t2⟩ := take_one (H := H) x hH
      refine ⟨true, 0, nh + 1, n2, apc H nh [x], W2, ?_, t2, g3, .inr (.inr (.inl ⟨hm, hc, hw, g4, .inr ⟨by rw [List.length_take]; omega, rfl, rfl, t1⟩⟩))⟩
      simp only [lock_Table_Ask_eq, lock_Table_ok_eq, may_v, Option.bind_some, eta5, hm]
      refine .bind c1 (.bind c2 (.bind c3 (.bind c4 (.bind c5 (.from 0 fun k => ?_)))))
      show (bif decide (400 ≤ ((nh : Nat) : Int)) then _ else (lock_own (k + 0) x).bind _) = _
      rw [bf (by omega), own_t _ _ s1 s2]
      show lim (nh + 1) _ = _
      rw [lim_t (by omega)]
      rfl
    | cons y ys =>
      rw [hw] at c4
      have hne : inWayP (H.take nh) (leaveP (W.take nw) x) x (placeI (leaveP (W.take nw) x) x) ≠ [] := by rw [hw]; exact List.cons_ne_nil _ _
      by_cases hp : placeI (leaveP (W.take nw) x) x = n1
      · obtain ⟨t1, t2⟩ := take_one (H := W1) x g1
        obtain ⟨e, n2, W2, c5, g3, g4⟩ := askJ_ev (H := H) (W := apc W1 n1 [x]) (nh := nh) (nw := n1 + 1) x hH t2 (by omega) (by omega)
        have ej : joinP (leaveP (W.take nw) x) x = (apc W1 n1 [x]).take (n1 + 1) := by
          unfold joinP
          rw [if_pos (by omega), t1, g2]
        refine ⟨false, e, nh, n2, H, W2, ?_, hH, g3, .inr (.inr (.inr ⟨hm, hc, hne, rfl, rfl, by rw [ej]; exact g4⟩))⟩
        simp only [lock_Table_Ask_eq, lock_Table_ok_eq, may_v, Option.bind_some, eta5, hm]
        refine .bind c1 (.bind c2 (.bind c3 (.bind c4 ?_)))
        obtain ⟨K, hK⟩ := c5
        refine ⟨K, fun k hk => ?_⟩
        show (bif decide (((y :: ys).length : Int) = 0) then _ else bif decide (((placeI (leaveP (W.take nw) x) x : Nat) : Int) = ((n1 : Nat) : Int)) then (lock_own k x).bind _ else _) = _
        rw [bf (by simp; omega), bt (by omega), own_t _ _ s1 s2]
        show lim (n1 + 1) _ = _
        rw [lim_t (by omega)]
        exact hK k hk
      · obtain ⟨e, n2, W2, c5, g3, g4⟩ := askJ_ev (H := H) (W := W1) (nh := nh) (nw := n1) x hH g1 (by omega) (by omega)
        have ej : joinP (leaveP (W.take nw) x) x = W1.take n1 := by
          unfold joinP
          rw [if_neg (by omega), g2]
        refine ⟨false, e, nh, n2, H, W2, ?_, hH, g3, .inr (.inr (.inr ⟨hm, hc, hne, rfl, rfl, by rw [ej]; exact g4⟩))⟩
        simp only [lock_Table_Ask_eq, lock_Table_ok_eq, may_v, Option.bind_some, eta5, hm]
        refine .bind c1 (.bind c2 (.bind c3 (.bind c4 ?_)))
        obtain ⟨K, hK⟩ := c5
        refine ⟨K, fun k hk => ?_⟩
        show (bif decide (((y :: ys).length : Int) = 0) then _ else bif decide (((placeI (leaveP (W.take nw) x) x : Nat) : Int) = ((n1 : Nat) : Int)) then _ else _) = _
        rw [bf (by simp; omega), bf (by omega)]
        exact hK k hk
theorem free1_v (k : Nat) (h : Lk) (t : Int) : lock_Table_Free_1 k h t = some (decide (h.1 = t), ((t, ()), ())) := lock_Table_Free_1_eq k h t
theorem freeD_ev {W : List Lk} {c : Nat} (t : Int) (hc : c ≤ W.length) (hb : c ≤ 100000) :
    ∃ (n : Nat) (W' : List Lk), Ev (fun k => slices_DeleteFunc_Lock_Lock_lock_Table_Free_1 k c W t) (n, ((W', ()), ((t, ()), ()))) ∧ n ≤ W'.length ∧ W'.take n = (W.take c).filter (fun w => !decide (w.1 = t)) := by
  have hI := (idx_ev (L := fun k n i => slices_IndexFunc_Lock_Lock_lock_Table_Free_1_l0 k n c ((c : Nat) : Int) i W t) (W := W) (c := c) (p := fun w => decide (w.1 = t))
    (A := fun i => (i, ((W, ()), ((t, ()), ())))) (B := ((-1 : Int), ((W, ()), ((t, ()), ())))) hc
    (fun k n j y hj hy => by
      show slices_IndexFunc_Lock_Lock_lock_Table_Free_1_l0 k (n + 1) _ _ _ _ _ = _
      rw [slices_IndexFunc_Lock_Lock_lock_Table_Free_1_l0_eq, bt (by omega), inI_t (by omega) (by omega), must_tr, Nat.zero_add, Int.toNat_natCast, hy, Option.bind_some, free1_v, Option.bind_some, wr_suc (by omega)])
    (fun k n => by
      show slices_IndexFunc_Lock_Lock_lock_Table_Free_1_l0 k (n + 1) _ _ _ _ _ = _
      rw [slices_IndexFunc_Lock_Lock_lock_Table_Free_1_l0_eq, bf (by omega)]) c 0 (by omega)).dg
  exact delF_ev (D := fun k => slices_DeleteFunc_Lock_Lock_lock_Table_Free_1 k c W t) (p := fun w => decide (w.1 = t))
    (L := fun k n i j W => slices_DeleteFunc_Lock_Lock_lock_Table_Free_1_l0 k n c i j W t)
    (fun i => (i, ((W, ()), ((t, ()), ()))))
    (fun i W => (i, ((W, ()), ((t, ()), ())))) hc hI
    (G := fun k r => bif (decide (r.1 = (-1))) then some (c, ((r.2.1.1, ()), ((r.2.2.1.1, ()), ()))) else slices_DeleteFunc_Lock_Lock_lock_Table_Free_1_l0 k k c r.1 (wr .i64 (r.1 + 1)) r.2.1.1 r.2.2.1.1)
    (fun k => by rw [slices_DeleteFunc_Lock_Lock_lock_Table_Free_1_eq, slices_IndexFunc_Lock_Lock_lock_Table_Free_1_eq]; rfl) (fun k => rfl)
    (fun k i hi => by
      show (bif decide ((i : Int) = -1) then _ else slices_DeleteFunc_Lock_Lock_lock_Table_Free_1_l0 k k c (i : Int) (wr .i64 ((i : Int) + 1)) W t) = _
      rw [bf (by omega), wr_suc (by omega)])
    (fun k n i j W y hij hj hl hy => by
      show slices_DeleteFunc_Lock_Lock_lock_Table_Free_1_l0 (k + 1) (n + 1) _ _ _ _ _ = _
      rw [slices_DeleteFunc_Lock_Lock_lock_Table_Free_1_l0_eq, bt (by omega), inI_t (by omega) (by omega), must_tr, Nat.zero_add, Int.toNat_natCast, hy, Option.bind_some, free1_v, Option.bind_some]
      simp only [slices_DeleteFunc_Lock_Lock_lock_Table_Free_1_j0_eq, inI_t (j := (i : Int)) (n := c) (by omega) (by omega), must_tr, Nat.zero_add, Int.toNat_natCast, blt_t (show i < W.length by omega), wr_suc (show i < 1000000 by omega), wr_suc (show j < 1000000 by omega), eta5]
      cases decide (y.1 = t) <;> rfl)
    (fun k n i W hi hl => by
      show slices_DeleteFunc_Lock_Lock_lock_Table_Free_1_l0 k (n + 1) _ _ _ _ _ = _
      rw [slices_DeleteFunc_Lock_Lock_lock_Table_Free_1_l0_eq, bf (by omega), inC_t (by omega) (by omega) (by omega), must_tr, inC_t (by omega) (by omega) (by omega), must_tr, Nat.zero_add, Int.toNat_natCast])
theorem gone_len (ws : List Lk) (t : Int) : (goneP ws t).length ≤ ws.length := List.length_filter_le ..
theorem free_ev {H W : List Lk} {nh nw : Nat} (t : Int) (hH : nh ≤ H.length) (hW : nw ≤ W.length) (b1 : nh ≤ 90) (b2 : nw ≤ 90) :
    ∃ (nh' nw' : Nat) (H' W' : List Lk), Ev (fun k => lock_Table_Free k t nh nw true H W) (((nh : Int) - (nh' : Int)), ((nh', (nw', (true, ()))), ((H', ()), ((W', ()), ())))) ∧ nh' ≤ H'.length ∧ nw' ≤ W'.length ∧
      H'.take nh' = goneP (H.take nh) t ∧ W'.take nw' = goneP (W.take nw) t := by
  obtain ⟨n1, H1, c1, g1, g2⟩ := freeD_ev (W := H) (c := nh) t hH (by omega)
  obtain ⟨n2, W2, c2, g3, g4⟩ := leaveN_ev (W := W) (c := nw) t n1 true H1 hW (by omega)
  have gl : n1 ≤ nh := by
    have e := congrArg List.length g2
    rw [List.length_take, Nat.min_eq_left g1] at e
    have : ((H.take nh).filter fun w => !decide (w.1 = t)).length ≤ (H.take nh).length := List.length_filter_le ..
    rw [List.length_take] at this
    omega
  refine ⟨n1, n2, H1, W2, ?_, g1, g3, g2, g4⟩
  simp only [lock_Table_Free_eq, lock_Table_ok_eq, Option.bind_some]
  refine .bind c1 (.bind c2 (.from 0 fun k => ?_))
  show some (wr .i64 (((nh : Nat) : Int) - ((n1 : Nat) : Int)), _) = _
  rw [wr_i64 (by omega)]
def smL (x : Lk) : Prop := x.2.2.2.1.length ≤ 60000 ∧ x.2.2.2.2.1.length ≤ 60000
abbrev Dd : Type := Bool × (Lk × Unit)
def few14B (l : List Dd) (r : List Dd) : Bool := r.all (fun x => decide (x.2.1.2.2.2.1.length ≤ 20) && decide (x.2.1.2.2.2.2.1.length ≤ 20)) && decide (l.length ≤ 40)
theorem few14_l0 (k : Nat) {l : List Dd} (hm : l.length ≤ 9223372036854775807) : ∀ n j, j ≤ l.length → l.length - j < n → law14_few_l0 k n l l (l.length : Int) (j : Int) = some (few14B l (l.drop j), ())
  | 0, _, _, h => absurd h (Nat.not_lt_zero _)
  | n + 1, j, hj, hn => by
    rw [law14_few_l0_eq]
    by_cases c : j < l.length
    · have hx := List.getElem?_eq_getElem c
      rw [bt (by omega), nth_get hx, Option.bind_some, List.drop_eq_getElem_cons c]
      by_cases c1 : 20 < (l[j].2.1.2.2.2.1.length : Int)
      · rw [bt c1, show few14B l (l[j] :: l.drop (j + 1)) = false from by unfold few14B; rw [List.all_cons, dF (by omega)]; rfl]
      by_cases c2 : 20 < (l[j].2.1.2.2.2.2.1.length : Int)
      · rw [bf c1, bt c2, show few14B l (l[j] :: l.drop (j + 1)) = false from by unfold few14B; rw [List.all_cons, dF (p := l[j].2.1.2.2.2.2.1.length ≤ 20) (by omega), Bool.and_false]; rfl]
      rw [bf c1, bf c2, wr_i64 (by omega)]
      refine (few14_l0 k hm n (j + 1) c (by omega)).trans ?_
      rw [show few14B l (l[j] :: l.drop (j + 1)) = few14B l (l.drop (j + 1)) from by unfold few14B; rw [List.all_cons, dT (by omega), dT (by omega)]; rfl]
    · have : j = l.length := by omega
      subst this
      rw [bf (by omega), List.drop_length]
      have : decide ((l.length : Int) ≤ 40) = decide (l.length ≤ 40) := by
        by_cases h : l.length ≤ 40
        · rw [dT h, dT (by omega)]
        · rw [dF h, dF (by omega)]
      rw [this]; rfl
theorem few14_ev {l : List Dd} (hlen : l.length ≤ maxLen) : Ev (fun k => law14_few k l) (few14B l l, ()) := by
  have hmax : maxLen ≤ 9223372036854775807 := by decide
  refine ⟨l.length + 1, fun k hk => ?_⟩
  show law14_few k l = _
  rw [law14_few_eq]
  exact few14_l0 k (by omega) k 0 (Nat.zero_le _) (by omega)
theorem few14_sp {l : List Dd} (h : few14B l l = true) : l.length ≤ 40 ∧ ∀ x ∈ l, smL x.2.1 := by
  unfold few14B at h
  rw [Bool.and_eq_true, decide_eq_true_eq, List.all_eq_true] at h
  refine ⟨h.2, fun x hx => ?_⟩
  have := h.1 x hx
  rw [Bool.and_eq_true, decide_eq_true_eq, decide_eq_true_eq] at this
  exact ⟨by omega, by omega⟩
/-- What holds of a table after so many deeds. -/
structure TI (hs ws : List Lk) (n : Nat) : Prop where
  h : hs.length ≤ n
  w : ws.length ≤ n
  sh : ∀ x ∈ hs, smL x
  sw : ∀ x ∈ ws, smL x
theorem gone_mem {ws : List Lk} {t : Int} {x : Lk} (h : x ∈ goneP ws t) : x ∈ ws := (List.mem_filter.1 h).1
theorem leave_mem {ws : List Lk} {y x : Lk} (h : x ∈ leaveP ws y) : x ∈ ws := (List.mem_filter.1 h).1
theorem leave_len (ws : List Lk) (x : Lk) : (leaveP ws x).length ≤ ws.length := List.length_filter_le ..
theorem join_len (ws : List Lk) (x : Lk) : (joinP ws x).length ≤ ws.length + 1 := by unfold joinP; split <;> simp
theorem join_mem {ws : List Lk} {x y : Lk} (h : y ∈ joinP ws x) : y ∈ ws ∨ y = x := by
  unfold joinP at h
  split at h
  · simpa using h
  · exact .inl h
theorem TI.ask {hs ws hs' ws' : List Lk} {x : Lk} {b : Bool} {e : Int} {n : Nat} (T : TI hs ws n) (hx : smL x) (R : askR hs ws x b e hs' ws') : TI hs' ws' (n + 1) := by
  have l1 := leave_len ws x
  have l2 := join_len (leaveP ws x) x
  have l3 := gone_len (leaveP ws x) x.1
  have l4 := gone_len (joinP (leaveP ws x) x) x.1
  have hh := T.h
  have hw := T.w
  have sj : ∀ y ∈ joinP (leaveP ws x) x, smL y := fun y hy => (join_mem hy).elim (fun h => T.sw y (leave_mem h)) fun h => h ▸ hx
  rcases R with ⟨_, _, _, rfl, rfl⟩ | ⟨_, _, _, _, rfl, rfl⟩ | ⟨_, _, _, rfl, ⟨_, _, _, rfl⟩ | ⟨_, _, _, rfl⟩⟩ | ⟨_, _, _, _, rfl, ⟨_, rfl⟩ | ⟨_, rfl⟩⟩
  · exact ⟨by omega, by omega, T.sh, T.sw⟩
  · exact ⟨by omega, by omega, T.sh, T.sw⟩
  · exact ⟨by omega, by omega, T.sh, fun y hy => T.sw y (leave_mem (gone_mem hy))⟩
  · refine ⟨by simp; omega, by omega, fun y hy => ?_, fun y hy => T.sw y (leave_mem (gone_mem hy))⟩
    rcases List.mem_append.1 hy with h | h
    · exact T.sh y h
    · rw [List.mem_singleton] at h; exact h ▸ hx
  · exact ⟨by omega, by omega, T.sh, fun y hy => sj y (gone_mem hy)⟩
  · exact ⟨by omega, by omega, T.sh, sj⟩
theorem TI.free {hs ws : List Lk} {n : Nat} (T : TI hs ws n) (t : Int) : TI (goneP hs t) (goneP ws t) (n + 1) := by
  have l1 := gone_len hs t
  have l2 := gone_len ws t
  have hh := T.h
  have hw := T.w
  exact ⟨by omega, by omega, fun y hy => T.sh y (gone_mem hy), fun y hy => T.sw y (gone_mem hy)⟩
/-- Whose locks there are: the asker's, or those of deeds from a place on. -/
def Rem (l : List Dd) (x : Lk) (j : Nat) (hs ws : List Lk) : Prop := ∀ y, y ∈ hs ∨ y ∈ ws → y.1 = x.1 ∨ ∃ (i : Nat) (d : Dd), j ≤ i ∧ l[i]? = some d ∧ d.2.1.1 = y.1
theorem Rem.sub {l : List Dd} {x : Lk} {j : Nat} {hs ws hs' ws' : List Lk} (R : Rem l x j hs ws) (h1 : ∀ y ∈ hs', y ∈ hs) (h2 : ∀ y ∈ ws', y ∈ ws) : Rem l x j hs' ws' := fun y hy => R y (hy.imp (h1 y) (h2 y))
theorem Rem.ask {l : List Dd} {x z : Lk} {hs ws hs' ws' : List Lk} {b : Bool} {e : Int} (T : Rem l x 0 hs ws) (hz : z.1 = x.1 ∨ ∃ (i : Nat) (d : Dd), 0 ≤ i ∧ l[i]? = some d ∧ d.2.1.1 = z.1) (R : askR hs ws z b e hs' ws') : Rem l x 0 hs' ws' := by
  have key : ∀ y, y ∈ hs' ∨ y ∈ ws' → y = z ∨ y ∈ hs ∨ y ∈ ws := by
    intro y hy
    rcases R with ⟨_, _, _, rfl, rfl⟩ | ⟨_, _, _, _, rfl, rfl⟩ | ⟨_, _, _, rfl, ⟨_, _, _, rfl⟩ | ⟨_, _, _, rfl⟩⟩ | ⟨_, _, _, _, rfl, ⟨_, rfl⟩ | ⟨_, rfl⟩⟩
    · exact .inr hy
    · exact .inr hy
    · exact .inr (hy.imp id fun h => leave_mem (gone_mem h))
    · rcases hy with h | h
      · rcases List.mem_append.1 h with h | h
        · exact .inr (.inl h)
        · exact .inl (List.mem_singleton.1 h)
      · exact .inr (.inr (leave_mem (gone_mem h)))
    · rcases hy with h | h
      · exact .inr (.inl h)
      · exact (join_mem (gone_mem h)).elim (fun h => .inr (.inr (leave_mem h))) .inl
    · rcases hy with h | h
      · exact .inr (.inl h)
      · exact (join_mem h).elim (fun h => .inr (.inr (leave_mem h))) .inl
  intro y hy
  rcases key y hy with rfl | h
  · exact hz
  · exact T y h
theorem against_own {l : List Lk} {x : Lk} (h : ∀ y ∈ l, y.1 = x.1) : againstP l x = [] := by
  unfold againstP
  rw [List.filter_eq_nil_iff]
  intro y hy
  have : apartP y x = true := by unfold apartP; rw [dT (h y hy)]; rfl
  simp [this]
/-- Who is alone is granted what may be asked for. -/
theorem alone {hs ws hs' ws' : List Lk} {x : Lk} {b : Bool} {e : Int} (hm : mayP x = true) (hl : hs.length < 400) (h1 : ∀ y ∈ hs, y.1 = x.1) (h2 : ∀ y ∈ ws, y.1 = x.1) (R : askR hs ws x b e hs' ws') : b = true ∧ e = 0 := by
  have hw : inWayP hs (leaveP ws x) x (placeI (leaveP ws x) x) = [] := by
    unfold inWayP
    rw [against_own h1, against_own fun y hy => h2 y (leave_mem (List.mem_of_mem_take hy))]
    cases hs.any _ <;> rfl
  rcases R with ⟨h, _⟩ | ⟨_, _, hb, he, _⟩ | ⟨_, _, _, _, ⟨h, _⟩ | ⟨_, hb, he, _⟩⟩ | ⟨_, _, h, _⟩
  · rw [hm] at h; cases h
  · exact ⟨hb, he⟩
  · omega
  · exact ⟨hb, he⟩
  · exact absurd hw h
theorem comes_ev {l : List Dd} (hl : l.length ≤ 40) (hs : ∀ x ∈ l, smL x.2.1) (x : Lk) (hxs : smL x) : ∀ (d i nh nw : Nat) (H W : List Lk), i + d = l.length → nh ≤ H.length → nw ≤ W.length → TI (H.take nh) (W.take nw) i → Rem l x 0 (H.take nh) (W.take nw) →
    Ev2 (fun k n => law14_LockComes_l0 k n l l (l.length : Int) (i : Int) x.1 x.2.1 x.2.2.1 x.2.2.2.1 x.2.2.2.2.1 nh nw true H W) (true, ()) := by
  intro d
  induction d with
  | zero =>
    intro i nh nw H W hi hH hW TT TR
    have : i = l.length := by omega
    subst this
    have tn : (H.take nh).length = nh := by rw [List.length_take, Nat.min_eq_left hH]
    have tw : (W.take nw).length = nw := by rw [List.length_take, Nat.min_eq_left hW]
    have nb := TT.h
    have wb := TT.w
    obtain ⟨b, e, nh', nw', H', W', hE, g1, g2, R⟩ := ask_ev (H := H) (W := W) x hH hW (by omega) (by omega) hxs.1 hxs.2
    have TT' := TT.ask hxs R
    have TR' := TR.ask (.inl rfl) R
    obtain ⟨K2, hK2⟩ := hE
    cases b with
    | true =>
      refine .up ⟨K2, fun k n hk hn => ?_⟩
      refine (law14_LockComes_l0_eq ..).trans ?_
      rw [bf (by omega)]
      show ((lock_Table_Ask k x nh nw true H W).bind _) = _
      rw [show lock_Table_Ask k x nh nw true H W = _ from hK2 k hk]; rfl
    | false =>
    by_cases e0 : e = 0
    case neg =>
      refine .up ⟨K2, fun k n hk hn => ?_⟩
      refine (law14_LockComes_l0_eq ..).trans ?_
      rw [bf (by omega)]
      show ((lock_Table_Ask k x nh nw true H W).bind _) = _
      rw [show lock_Table_Ask k x nh nw true H W = _ from hK2 k hk]
      show (bif !decide (e = 0) then _ else _) = _
      rw [dF e0]; rfl
    case pos =>
      have hm : mayP x = true := by
        rcases R with ⟨_, _, h, _⟩ | ⟨h, _⟩ | ⟨h, _⟩ | ⟨h, _⟩
        · omega
        · exact h
        · exact h
        · exact h
      have l1 : ∀ d j (nh nw : Nat) (H W : List Lk), j + d = l.length → nh ≤ H.length → nw ≤ W.length → TI (H.take nh) (W.take nw) 41 → Rem l x j (H.take nh) (W.take nw) →
          Ev2 (fun k n => law14_LockComes_l1 k n l (l.length : Int) (j : Int) x.1 x.2.1 x.2.2.1 x.2.2.2.1 x.2.2.2.2.1 nh nw true H W) (true, ()) := by
        intro d
        induction d with
        | zero =>
          intro j nh nw H W hj hH hW TT TR
          have : j = l.length := by omega
          subst this
          have tn : (H.take nh).length = nh := by rw [List.length_take, Nat.min_eq_left hH]
          have tw : (W.take nw).length = nw := by rw [List.length_take, Nat.min_eq_left hW]
          have nb := TT.h
          have wb := TT.w
          obtain ⟨b, e, nh', nw', H', W', hE, g1, g2, R⟩ := ask_ev (H := H) (W := W) x hH hW (by omega) (by omega) hxs.1 hxs.2
          have own : ∀ y, y ∈ H.take nh ∨ y ∈ W.take nw → y.1 = x.1 := by
            intro y hy
            rcases TR y hy with h | ⟨i, dd, h1, h2, _⟩
            · exact h
            · have := (List.getElem?_eq_some_iff.1 h2).1; omega
          obtain ⟨r1, r2⟩ := alone hm (by omega) (fun y hy => own y (.inl hy)) (fun y hy => own y (.inr hy)) R
          subst r1 r2
          obtain ⟨K, hK⟩ := hE
          refine .up ⟨K, fun k n hk hn => ?_⟩
          refine (law14_LockComes_l1_eq ..).trans ?_
          rw [bf (by omega)]
          show ((lock_Table_Ask k x nh nw true H W).bind _) = _
          rw [show lock_Table_Ask k x nh nw true H W = _ from hK k hk]; rfl
        | succ d ihd =>
          intro j nh nw H W hj hH hW TT TR
          have hlt : j < l.length := by omega
          have hg : l[j]? = some l[j] := List.getElem?_eq_getElem hlt
          have hy : nth l (j : Int) = some l[j] := nth_get hg
          generalize l[j] = y at hg hy
          have tn : (H.take nh).length = nh := by rw [List.length_take, Nat.min_eq_left hH]
          have tw : (W.take nw).length = nw := by rw [List.length_take, Nat.min_eq_left hW]
          have nb := TT.h
          have wb := TT.w
          by_cases hyx : y.2.1.1 = x.1
          · obtain ⟨K, hK⟩ := ihd (j + 1) nh nw H W (by omega) hH hW TT (fun z hz => by
              rcases TR z hz with h | ⟨i, dd, h1, h2, h3⟩
              · exact .inl h
              · by_cases hij : i = j
                · subst hij
                  rw [hg] at h2; cases h2
                  exact .inl (h3.symm.trans hyx)
                · exact .inr ⟨i, dd, by omega, h2, h3⟩)
            refine .up (.upk ⟨K, fun k n hk hn => ?_⟩)
            refine (law14_LockComes_l1_eq ..).trans ?_
            rw [bt (by omega), hy, Option.bind_some, dT hyx]
            refine (law14_LockComes_j1_eq ..).trans ?_
            rw [wr_suc (by omega)]
            exact hK (k + 1) n (by omega) hn
          · obtain ⟨nh', nw', H', W', hE, g1, g2, g3, g4⟩ := free_ev (H := H) (W := W) y.2.1.1 hH hW (by omega) (by omega)
            have TF := TT.free y.2.1.1
            have l3 := gone_len (H.take nh) y.2.1.1
            have l4 := gone_len (W.take nw) y.2.1.1
            obtain ⟨K, hK⟩ := ihd (j + 1) nh' nw' H' W' (by omega) g1 g2 (by rw [g3, g4]; exact ⟨by omega, by omega, TF.sh, TF.sw⟩) (by
              rw [g3, g4]
              intro z hz
              have hne : z.1 ≠ y.2.1.1 := by
                rcases hz with hz | hz
                · have := (List.mem_filter.1 hz).2; simpa using this
                · have := (List.mem_filter.1 hz).2; simpa using this
              rcases TR z (hz.imp gone_mem gone_mem) with h | ⟨i, dd, h1, h2, h3⟩
              · exact .inl h
              · by_cases hij : i = j
                · subst hij
                  rw [hg] at h2; cases h2
                  exact absurd h3.symm hne
                · exact .inr ⟨i, dd, by omega, h2, h3⟩)
            obtain ⟨K2, hK2⟩ := hE.sh
            refine .up (.upk ⟨Nat.max K K2, fun k n hk hn => ?_⟩)
            refine (law14_LockComes_l1_eq ..).trans ?_
            rw [bt (by omega), hy, Option.bind_some, dF hyx]
            show ((lock_Table_Free (k + 1) y.2.1.1 nh nw true H W).bind _) = _
            rw [show lock_Table_Free (k + 1) y.2.1.1 nh nw true H W = _ from hK2 k (Nat.le_trans (Nat.le_max_right K K2) hk)]
            refine (law14_LockComes_j1_eq ..).trans ?_
            rw [wr_suc (by omega)]
            exact hK (k + 1) n (Nat.le_succ_of_le (Nat.le_trans (Nat.le_max_left K K2) hk)) (Nat.le_trans (Nat.le_max_left K K2) hn)
      have nb' := TT'.h
      have wb' := TT'.w
      obtain ⟨K, hK⟩ := (l1 l.length 0 nh' nw' H' W' (by omega) g1 g2 ⟨by omega, by omega, TT'.sh, TT'.sw⟩ TR').dg
      refine .up ⟨Nat.max K K2, fun k n hk hn => ?_⟩
      refine (law14_LockComes_l0_eq ..).trans ?_
      rw [bf (by omega)]
      show ((lock_Table_Ask k x nh nw true H W).bind _) = _
      rw [show lock_Table_Ask k x nh nw true H W = _ from hK2 k (Nat.le_trans (Nat.le_max_right K K2) hk)]
      show (bif !decide (e = 0) then _ else _) = _
      rw [dT e0]
      exact hK k (Nat.le_trans (Nat.le_max_left K K2) hk)
  | succ d ih =>
    intro i nh nw H W hi hH hW TT TR
    have hlt : i < l.length := by omega
    have hg : l[i]? = some l[i] := List.getElem?_eq_getElem hlt
    have hx : nth l (i : Int) = some l[i] := nth_get hg
    have hys := hs l[i] (List.getElem_mem hlt)
    generalize l[i] = y at hx hys hg
    have tn : (H.take nh).length = nh := by rw [List.length_take, Nat.min_eq_left hH]
    have tw : (W.take nw).length = nw := by rw [List.length_take, Nat.min_eq_left hW]
    have nb := TT.h
    have wb := TT.w
    have after : ∀ (nh nw : Nat) (H W : List Lk), nh ≤ H.length → nw ≤ W.length → TI (H.take nh) (W.take nw) (i + 1) → Rem l x 0 (H.take nh) (W.take nw) →
        Ev2 (fun k n => law14_LockComes_j0 k n l l (l.length : Int) (i : Int) x.1 x.2.1 x.2.2.1 x.2.2.2.1 x.2.2.2.2.1 nh nw true H W) (true, ()) := by
      intro nh nw H W hH hW TT TR
      obtain ⟨K, hK⟩ := ih (i + 1) nh nw H W (by omega) hH hW TT TR
      refine .upk ⟨K, fun k n hk hn => ?_⟩
      refine (law14_LockComes_j0_eq ..).trans ?_
      rw [wr_suc (by omega)]
      exact hK (k + 1) n (by omega) hn
    cases hf : y.1 with
    | true =>
      obtain ⟨nh', nw', H', W', hE, g1, g2, g3, g4⟩ := free_ev (H := H) (W := W) y.2.1.1 hH hW (by omega) (by omega)
      obtain ⟨K, hK⟩ := after nh' nw' H' W' g1 g2 (by rw [g3, g4]; exact TT.free _) (by rw [g3, g4]; exact TR.sub (fun _ h => gone_mem h) (fun _ h => gone_mem h))
      obtain ⟨K2, hK2⟩ := hE
      refine .up ⟨Nat.max K K2, fun k n hk hn => ?_⟩
      refine (law14_LockComes_l0_eq ..).trans ?_
      rw [bt (by omega), hx, Option.bind_some, hf, show lock_Table_Free k y.2.1.1 nh nw true H W = _ from hK2 k (Nat.le_trans (Nat.le_max_right K K2) hk)]
      exact hK k n (Nat.le_trans (Nat.le_max_left K K2) hk) (Nat.le_trans (Nat.le_max_left K K2) hn)
    | false =>
      obtain ⟨b, e, nh', nw', H', W', hE, g1, g2, R⟩ := ask_ev (H := H) (W := W) y.2.1 hH hW (by omega) (by omega) hys.1 hys.2
      obtain ⟨K, hK⟩ := after nh' nw' H' W' g1 g2 (TT.ask hys R) (TR.ask (.inr ⟨i, y, Nat.zero_le _, hg, rfl⟩) R)
      obtain ⟨K2, hK2⟩ := hE
      refine .up ⟨Nat.max K K2, fun k n hk hn => ?_⟩
      refine (law14_LockComes_l0_eq ..).trans ?_
      rw [bt (by omega), hx, Option.bind_some, hf]
      show ((lock_Table_Ask k y.2.1 nh nw true H W).bind _) = _
      rw [show lock_Table_Ask k y.2.1 nh nw true H W = _ from hK2 k (Nat.le_trans (Nat.le_max_right K K2) hk)]
      exact hK k n (Nat.le_trans (Nat.le_max_left K K2) hk) (Nat.le_trans (Nat.le_max_left K K2) hn)
theorem lockComes_ev {l : List Dd} (hlen : l.length ≤ maxLen) (x : Lk) : Ev (fun k => law14_LockComes k l x) (true, ()) := by
  simp only [law14_LockComes_eq]
  refine .bind awake14 (.bind (few14_ev hlen) ?_)
  cases hf : few14B l l with
  | false => exact .from 0 fun k => rfl
  | true =>
    by_cases c1 : 20 < (x.2.2.2.1.length : Int)
    · refine .from 0 fun k => ?_
      rw [dT c1]; rfl
    by_cases c2 : 20 < (x.2.2.2.2.1.length : Int)
    · refine .from 0 fun k => ?_
      rw [dF c1, dT c2]; rfl
    obtain ⟨h1, h2⟩ := few14_sp hf
    have := (comes_ev h1 h2 x ⟨by omega, by omega⟩ l.length 0 0 0 [] [] (by omega) (by simp) (by simp) ⟨by simp, by simp, nofun, nofun⟩ (fun y hy => by rcases hy with h | h <;> cases h)).dg
    obtain ⟨K, hK⟩ := this
    refine ⟨K, fun k hk => ?_⟩
    rw [dF c1, dF c2]
    show ((lock_New k).bind _) = _
    rw [lock_New_eq]
    exact hK k hk
theorem LockComes_true (l : List ((.st (.pair .bool (.pair (.st (.pair (.int .u64) (.pair (.int .i64) (.pair (.int .i64) (.pair (.sl (.int .u8)) (.pair (.sl (.int .u8)) .unit)))))) .unit))) : Ty).D) (x : ((.st (.pair (.int .u64) (.pair (.int .i64) (.pair (.int .i64) (.pair (.sl (.int .u8)) (.pair (.sl (.int .u8)) .unit)))))) : Ty).D)
    (f : wfD (.sl (.st (.pair .bool (.pair (.st (.pair (.int .u64) (.pair (.int .i64) (.pair (.int .i64) (.pair (.sl (.int .u8)) (.pair (.sl (.int .u8)) .unit)))))) .unit)))) l)
    (f1 : wfD (.st (.pair (.int .u64) (.pair (.int .i64) (.pair (.int .i64) (.pair (.sl (.int .u8)) (.pair (.sl (.int .u8)) .unit)))))) x) : ∃ k, law14_LockComes k l x = some (true, ()) := (lockComes_ev f.1 x).ex
end Go.Proofs.Ytgmeimbamfggkaa.Den
