import Derived.Test.YtmngjegceoidhaaDPlanChooses
import Derived.Test.YtmngjegceoidhaaDen35
namespace Go.Proofs.Ytmngjegceoidhaa.Den
open Go Go.RowKit
set_option linter.unusedVariables false
attribute [local irreducible] bytes_Clone cat_Index cat_Rows cat_column cat_under cat_whole law20_Light law20_Light_b law20_Light_l0 law21_Small law21_Small_l0 law23_PlanChooses law23_PlanChooses_l0 law23_awake num_Flip num_Put num_Put_l0 okey_Next okey_Next_l0 okey_Put okey_Put_j0 okey_Put_j1 okey_Put_j2 okey_Put_l0 okey_Put_l1 plan_Bounds plan_Bounds_j0 plan_Bounds_j1 plan_Bounds_j2 plan_Choose plan_Choose_l0 plan_Choose_l1 plan_Parts plan_Parts_b plan_bounded plan_bounded_j0 plan_bounded_j1 plan_bounded_l0 plan_is plan_turned plan_within plan_within_j0 plan_within_j1 ref01_Flip ref01_Key ref01_Key_j0 ref01_Key_j1 ref01_Key_j2 ref01_Key_l0 ref01_Key_l1 ref01_Next ref01_Next_l0 ref01_Put ref01_Put_l0 ref21_Bounds ref21_Bounds_j0 ref21_Bounds_l0 ref21_Choose ref21_Choose_j0 ref21_Choose_j1 ref21_Choose_j2 ref21_Choose_l0 ref21_Choose_l1 ref21_Index ref21_Parts ref21_Parts_b ref21_Rows ref21_SameSpan ref21_bounded ref21_bounded_j0 ref21_bounded_j1 ref21_bounded_l0 ref21_bounded_l1 ref21_n
/-! ### Bytes of a number -/
def be : Nat → Nat → List Int
  | 0, _ => []
  | n + 1, u => ((u / 256 ^ n % 256 : Nat) : Int) :: be n u
theorem be_length : ∀ n u, (be n u).length = n
  | 0, _ => rfl
  | n + 1, u => congrArg (· + 1) (be_length n u)
theorem be_wf : ∀ n u x, x ∈ be n u → (Lit.int .u8 x).wf = true
  | n + 1, u, x, h => by
    rcases List.mem_cons.1 h with rfl | h
    · have := Nat.mod_lt (u / 256 ^ n) (show 0 < 256 by decide)
      simp [Lit.wf, IntKind.min, IntKind.max, IntKind.signed, IntKind.bits]; omega
    · exact be_wf n u x h
theorem mod_step (u n : Nat) : u % 256 ^ (n + 1) = u % 256 ^ n + 256 ^ n * (u / 256 ^ n % 256) := by
  rw [Nat.pow_succ]; exact Nat.mod_mul
theorem lt_step {p a b r s : Nat} (hr : r < p) (hs : s < p) : (decide (a < b) || (decide (a = b) && decide (r < s))) = decide (r + p * a < s + p * b) := by
  rcases Nat.lt_trichotomy a b with h | h | h
  · have h1 := Nat.mul_le_mul_left p (show a + 1 ≤ b from h)
    rw [Nat.mul_succ] at h1
    rw [decide_eq_true h, decide_eq_true (show r + p * a < s + p * b by omega)]; rfl
  · subst h
    simp
  · have h1 := Nat.mul_le_mul_left p (show b + 1 ≤ a from h)
    rw [Nat.mul_succ] at h1
    rw [decide_eq_false (show ¬ a < b by omega), decide_eq_false (show ¬ a = b by omega), decide_eq_false (show ¬ r + p * a < s + p * b by omega)]; rfl
theorem ltL_be : ∀ n u v, ltL (be n u) (be n v) = decide (u % 256 ^ n < v % 256 ^ n)
  | 0, _, _ => by simp [be, ltL, Nat.mod_one]
  | n + 1, u, v => by
    show (decide (((u / 256 ^ n % 256 : Nat) : Int) < ((v / 256 ^ n % 256 : Nat) : Int)) || (decide (((u / 256 ^ n % 256 : Nat) : Int) = ((v / 256 ^ n % 256 : Nat) : Int)) && ltL (be n u) (be n v))) = _
    rw [ltL_be n u v, mod_step, mod_step]
    have hp : 0 < 256 ^ n := Nat.pow_pos (by decide)
    rw [← lt_step (Nat.mod_lt u hp) (Nat.mod_lt v hp)]
    congr 2
    · simp only [Int.ofNat_lt]
    · simp only [Int.natCast_inj]
theorem be_eq {u v : Nat} : ∀ n, be n u = be n v → u % 256 ^ n = v % 256 ^ n
  | 0, _ => by simp [Nat.mod_one]
  | n + 1, h => by
    have h : ((u / 256 ^ n % 256 : Nat) : Int) :: be n u = ((v / 256 ^ n % 256 : Nat) : Int) :: be n v := h
    injection h with h1 h2
    rw [mod_step, mod_step, be_eq n h2, Int.natCast_inj.1 h1]
theorem beqL_be {u v : Nat} (hu : u < 18446744073709551616) (hv : v < 18446744073709551616) : beqL (be 8 u) (be 8 v) = decide (u = v) := by
  unfold beqL
  by_cases h : u = v
  · subst h; simp
  · have : ¬ be 8 u = be 8 v := fun e => h (by have := be_eq 8 e; omega)
    simp [h, this]
theorem shr_is {u j : Nat} (hj : j < 8) : shrK .u64 (u : Int) (wr .i64 (8 * (j : Int))) = some (((u / 256 ^ j : Nat)) : Int) := by
  rw [wr_i64 (by omega)]
  have hj : j = 0 ∨ j = 1 ∨ j = 2 ∨ j = 3 ∨ j = 4 ∨ j = 5 ∨ j = 6 ∨ j = 7 := by omega
  rcases hj with rfl | rfl | rfl | rfl | rfl | rfl | rfl | rfl <;> rfl
theorem set_last (m : Nat) (l : List Int) (x : Int) : (List.replicate (m + 1) (0 : Int) ++ l).set m x = List.replicate m 0 ++ x :: l := by
  rw [List.replicate_succ', List.append_assoc, List.set_append_right _ _ (by simp)]
  simp
theorem put_loop (k : Nat) {u w : Nat} (hw : w ≤ 8) : ∀ n j, j ≤ w → w - j < n → num_Put_l0 k n (u : Int) (w : Int) (w : Int) (j : Int) (List.replicate (w - j) 0 ++ be j u) = some (be w u, ())
  | 0, _, _, h => absurd h (Nat.not_lt_zero _)
  | n + 1, j, hj, hn => by
    rw [num_Put_l0_eq]
    by_cases c : j < w
    · obtain ⟨m, hm⟩ : ∃ m, w - j = m + 1 := ⟨w - j - 1, by omega⟩
      have e1 : wr .i64 (wr .i64 ((w : Int) - 1) - (j : Int)) = (m : Int) := by
        rw [wr_i64 (n := (w : Int) - 1) (by omega), wr_i64 (by omega)]; omega
      have hlen : (List.replicate (w - j) (0 : Int) ++ be j u).length = w := by simp [be_length]; omega
      have e2 : wr .u8 (((u / 256 ^ j : Nat)) : Int) = ((u / 256 ^ j % 256 : Nat) : Int) := by rw [wrm_u8]; rfl
      rw [bif_true (by simp; omega), shr_is (by omega), Option.bind_some, e1, hlen, must_true (by unfold inI; simp; omega), must_true (by simp [Nat.blt]; omega), e2, wr_i64 (by omega), hm, Int.toNat_natCast, set_last]
      have ih := put_loop k (u := u) hw n (j + 1) c (by omega)
      have e3 : w - (j + 1) = m := by omega
      rw [e3] at ih
      exact ih
    · have : j = w := by omega
      subst this
      rw [bif_false (by simp)]
      simp
theorem num_Put_is (k : Nat) {u w : Nat} (hw : w ≤ 8) : num_Put (k + 10) (u : Int) (w : Int) = some (be w u, ()) := by
  rw [num_Put_eq, bif_false (by simp), bif_false (by simp; omega), must_true (by simp [beqI]), Int.toNat_natCast, lim_ok (by omega)]
  have := put_loop (k + 10) (u := u) hw (k + 10) 0 (by omega) (by omega)
  simpa [be] using this
/-! ### Keys -/
abbrev ValT := Int × (Int × ((List Int) × Unit))
def esc (s : List Int) : List Int := s.flatMap fun x => if x = 0 then [x, 255] else [x]
def encV (v : ValT) : List Int := if v.1 = 1 then 2 :: be 8 (v.2.1 + 9223372036854775808).toNat else if v.1 = 2 then 3 :: (esc v.2.2.1 ++ [0, 1]) else [1]
theorem esc_cons (x : Int) (s : List Int) : esc (x :: s) = (if x = 0 then [x, 255] else [x]) ++ esc s := rfl
theorem esc_length : ∀ s : List Int, (esc s).length ≤ 2 * s.length
  | [] => by simp [esc]
  | x :: s => by
    have := esc_length s
    rw [esc_cons]
    split <;> simp <;> omega
def valOk (v : ValT) : Prop := (-9223372036854775808 ≤ v.2.1 ∧ v.2.1 ≤ 9223372036854775807) ∧ v.2.2.1.length ≤ 400
theorem encV_length {v : ValT} (h : valOk v) : (encV v).length ≤ 1000 := by
  have := esc_length v.2.2.1
  have := h.2
  unfold encV
  split
  · simp [be_length]
  · split <;> simp <;> omega
theorem oFlip_is (k : Nat) {a : Int} (h : -9223372036854775808 ≤ a ∧ a ≤ 9223372036854775807) : num_Flip k a = some (a + 9223372036854775808, ()) := by
  rw [num_Flip_eq]
  unfold wr
  rw [flip_eq h]
theorem oPut_l1 (k n : Nat) (l : List ValT) (len j : Int) (c : Bool) {s : List Int} (hs : s.length ≤ 400) : ∀ n1 i b out, i ≤ s.length → s.length - i < n1 → List.length out + 2 * (s.length - i) ≤ 60000000 →
    okey_Put_l1 (k + 1) n n1 b out l len j c s (s.length : Int) (i : Int) = okey_Put_j2 (k + 1) n false (out ++ (esc (s.drop i) ++ [0, 1])) l len j
  | 0, _, _, _, _, h, _ => absurd h (Nat.not_lt_zero _)
  | n1 + 1, i, b, out, hi, hn, ho => by
    rw [okey_Put_l1_eq]
    by_cases d : i < s.length
    · have hx := List.getElem?_eq_getElem d
      have hd : s.drop i = s[i] :: s.drop (i + 1) := List.drop_eq_getElem_cons d
      rw [bt (by omega), nth_get hx, Option.bind_some, lim_ok (by simp; omega), hd, esc_cons]
      by_cases e : s[i] = 0
      · rw [bt e, if_pos e, lim_ok (by simp; omega), okey_Put_j1_eq, wr_next d (by omega)]
        refine (oPut_l1 k n l len j c hs n1 (i + 1) ((b && [s[i]].isEmpty) && [(255 : Int)].isEmpty) ((out ++ [s[i]]) ++ [(255 : Int)]) d (by omega) (by simp; omega)).trans ?_
        simp
      · rw [bf e, if_neg e, okey_Put_j1_eq, wr_next d (by omega)]
        refine (oPut_l1 k n l len j c hs n1 (i + 1) (b && [s[i]].isEmpty) (out ++ [s[i]]) d (by omega) (by simp; omega)).trans ?_
        simp
    · have : i = s.length := by omega
      subst this
      rw [bf (by omega), lim_ok (by simp; omega), List.drop_length, show (b && [(0 : Int), (1 : Int)].isEmpty) = false from Bool.and_false b]
      rfl
theorem oPut_loop (k : Nat) {l : List ValT} (hl : ∀ v ∈ l, valOk v) (hlen : l.length ≤ 400) : ∀ n j b out, j ≤ l.length → l.length - j < n → List.length out + 1000 * (l.length - j) ≤ 50000000 →
    okey_Put_l0 (k + 500) n b out l (l.length : Int) (j : Int) = some ((b && (l.drop j).isEmpty, out ++ (l.drop j).flatMap encV), ())
  | 0, _, _, _, _, h, _ => absurd h (Nat.not_lt_zero _)
  | n + 1, j, b, out, hj, hn, ho => by
    rw [okey_Put_l0_eq]
    by_cases d : j < l.length
    · have hx := List.getElem?_eq_getElem d
      have hd : l.drop j = l[j] :: l.drop (j + 1) := List.drop_eq_getElem_cons d
      have hv := hl _ (List.getElem_mem d)
      have hle := encV_length hv
      rw [bt (by omega), nth_get hx, Option.bind_some, hd, List.flatMap_cons, show ∀ x : ValT, (b && (x :: l.drop (j + 1)).isEmpty) = false from fun _ => Bool.and_false b]
      generalize l[j] = v at *
      have next : okey_Put_j0 (k + 500) n false (out ++ encV v) l (l.length : Int) (j : Int) = some ((false, out ++ (encV v ++ (l.drop (j + 1)).flatMap encV)), ()) := by
        show okey_Put_j0 (k + 499 + 1) n _ _ _ _ _ = _
        rw [okey_Put_j0_eq, wr_next d (by omega)]
        have := oPut_loop k hl hlen n (j + 1) false (out ++ encV v) d (by omega) (by simp; omega)
        rw [List.append_assoc] at this
        exact this
      have next2 : okey_Put_j2 (k + 500) n false (out ++ encV v) l (l.length : Int) (j : Int) = some ((false, out ++ (encV v ++ (l.drop (j + 1)).flatMap encV)), ()) := by
        show okey_Put_j2 (k + 499 + 1) n _ _ _ _ _ = _
        rw [okey_Put_j2_eq]
        exact next
      by_cases c1 : v.1 = 1
      · have he : encV v = 2 :: be 8 (v.2.1 + 9223372036854775808).toNat := if_pos c1
        obtain ⟨u, hu⟩ := Int.eq_ofNat_of_zero_le (show 0 ≤ v.2.1 + 9223372036854775808 by have := hv.1; omega)
        rw [bt c1, lim_ok (by simp; omega), oFlip_is _ hv.1, Option.bind_some, hu, show num_Put (k + 500) (u : Int) (8 : Int) = _ from num_Put_is (k + 490) (u := u) (w := 8) (by omega), Option.bind_some, lim_ok (by simp [be_length]; omega)]
        have e2 : (out ++ [(2 : Int)]) ++ be 8 u = out ++ encV v := by rw [he, hu]; simp
        rw [e2, show ((b && [(2 : Int)].isEmpty) && (be 8 u).isEmpty) = false by simp]
        exact next
      rw [bf c1]
      by_cases c2 : v.1 = 2
      · have he : encV v = 3 :: (esc v.2.2.1 ++ [0, 1]) := by unfold encV; rw [if_neg c1, if_pos c2]
        have hs := hv.2
        have h := oPut_l1 (k + 499) n l (l.length : Int) (j : Int) false hs (k + 500) 0 (b && [(3 : Int)].isEmpty) (out ++ [(3 : Int)]) (by omega) (by omega) (by simp; omega)
        rw [bt c2, lim_ok (by simp; omega)]
        refine h.trans ?_
        have e2 : (out ++ [(3 : Int)]) ++ (esc (v.2.2.1.drop 0) ++ [0, 1]) = out ++ encV v := by rw [he]; simp
        rw [e2]
        exact next2
      · have he : encV v = [1] := by unfold encV; rw [if_neg c1, if_neg c2]
        rw [bf c2, lim_ok (by simp; omega), ← he, show (b && (encV v).isEmpty) = false by rw [he]; exact Bool.and_false b]
        exact next2
    · have : j = l.length := by omega
      subst this
      rw [bf (by omega), List.drop_length]
      simp
theorem okey_Put_is (k : Nat) {l : List ValT} (hl : ∀ v ∈ l, valOk v) (hlen : l.length ≤ 400) : okey_Put (k + 500) l = some ((l.isEmpty, l.flatMap encV), ()) := by
  rw [okey_Put_eq]
  have := oPut_loop k hl hlen (k + 500) 0 true [] (by omega) (by omega) (by simp; omega)
  simpa using this
/-! ### The next bytes -/
def nx : List Int → List Int
  | [] => []
  | x :: r => match nx r with
    | [] => if x = 255 then [] else [x + 1]
    | y :: t => x :: y :: t
theorem nx_n {x : Int} {r : List Int} (h : nx r = []) : nx (x :: r) = if x = 255 then [] else [x + 1] := by
  conv => lhs; unfold nx
  rw [h]
theorem nx_k {x y : Int} {r s : List Int} (h : nx r = y :: s) : nx (x :: r) = x :: nx r := by
  conv => lhs; unfold nx
  rw [h]
theorem nx_255 : ∀ l, nx (l ++ [255]) = nx l
  | [] => rfl
  | x :: r => by
    show (match nx (r ++ [255]) with | [] => if x = 255 then [] else [x + 1] | y :: t => x :: y :: t) = _
    rw [nx_255 r]; rfl
theorem nx_c {c : Int} (hc : c ≠ 255) : ∀ l, nx (l ++ [c]) = l ++ [c + 1]
  | [] => if_neg hc
  | x :: r => by
    show (match nx (r ++ [c]) with | [] => if x = 255 then [] else [x + 1] | y :: t => x :: y :: t) = _
    rw [nx_c hc r]
    cases r <;> rfl
abbrev Byt (l : List Int) : Prop := ∀ x ∈ l, (Lit.int .u8 x).wf = true
theorem take_snoc {l : List Int} {j : Nat} (h : j < l.length) : l.take (j + 1) = l.take j ++ [l[j]] := List.take_succ_eq_append_getElem h
theorem okNext_l0 (k : Nat) {b : Bool} {l : List Int} (hb : b = true → l = []) (hl : l.length ≤ 1000000) (hw : Byt l) : ∀ n j, j ≤ l.length → j < n → okey_Next_l0 k n b l ((j : Int) - 1) = some (nx (l.take j), ())
  | 0, _, _, h => absurd h (Nat.not_lt_zero _)
  | n + 1, 0, _, _ => by
    rw [okey_Next_l0_eq, bf (by omega)]; rfl
  | n + 1, j + 1, hj, hn => by
    have hlt : j < l.length := hj
    have e : ((j + 1 : Nat) : Int) - 1 = (j : Int) := by omega
    rw [e, okey_Next_l0_eq, bt (by omega), nth_get (List.getElem?_eq_getElem hlt), Option.bind_some, take_snoc hlt]
    have hx := wf_u8 (hw _ (List.getElem_mem hlt))
    by_cases c : l[j] = 255
    · rw [bif_false (by simp [c]), c, nx_255, wr_i64 (by omega)]
      exact okNext_l0 k hb hl hw n j (by omega) (by omega)
    · have hb0 : b = false := by
        cases b with
        | false => rfl
        | true => have := hb rfl; subst this; simp at hlt
      have ht : (l.take (j + 1)).length = j + 1 := by simp; omega
      have hg : (l.take (j + 1))[j]? = some l[j] := by rw [List.getElem?_take_of_lt (by omega)]; exact List.getElem?_eq_getElem hlt
      rw [bif_true (by simp [c]), nx_c c, wr_next hlt (by omega), cut_all (by omega), Option.bind_some, bytes_Clone_eq, hb0, bif_false rfl, ht, lim_ok (by omega), Option.bind_some]
      show must (inI (j : Int) (l.take (j + 1)).length) (((l.take (j + 1))[(j : Int).toNat]?).bind _) = _
      rw [Int.toNat_natCast, hg, Option.bind_some, ht, must_true (inI_t (by omega) (by omega)), must_true (inI_t (by omega) (by omega)), must_true (blt_t (by omega)), wr_u8 (by omega), take_snoc hlt, List.set_append_right _ _ (by simp; omega)]
      have : j - (l.take j).length = 0 := by simp; omega
      rw [this]; rfl
theorem okNext_ev {b : Bool} {l : List Int} (hb : b = true → l = []) (hl : l.length ≤ 1000000) (hw : Byt l) : Ev (fun k => okey_Next k b l) (nx l, ()) := by
  refine ⟨l.length + 1, fun k hk => ?_⟩
  show okey_Next k b l = _
  rw [okey_Next_eq]
  show okey_Next_l0 k k b l (wr .i64 ((l.length : Int) - 1)) = _
  rw [wr_i64 (by omega), okNext_l0 k hb hl hw k l.length (by omega) (by omega), List.take_length]

/-! ### The order of bytes -/
theorem cmp_lt : ∀ a b, (cmpL a b < 0) ↔ ltL a b = true
  | [], [] => by simp [cmpL, ltL]
  | [], _ :: _ => by simp [cmpL, ltL]
  | _ :: _, [] => by simp [cmpL, ltL]
  | a :: x, b :: y => by
    have ih := cmp_lt x y
    unfold cmpL ltL
    by_cases h : a < b
    · simp [h]
    · by_cases h2 : b < a
      · have : ¬ a = b := by omega
        simp [h, h2, this]
      · have : a = b := by omega
        simp [this, ih]
theorem ltL_asym : ∀ a b, ltL a b = true → ltL b a = false
  | [], [], _ => rfl
  | [], _ :: _, _ => rfl
  | _ :: _, [], h => by simp [ltL] at h
  | a :: x, b :: y, h => by
    simp only [ltL, Bool.or_eq_true, Bool.and_eq_true, decide_eq_true_eq] at h
    simp only [ltL, Bool.or_eq_false_iff, Bool.and_eq_false_iff, decide_eq_false_iff_not]
    rcases h with h | ⟨h, h2⟩
    · exact ⟨by omega, .inl (by omega)⟩
    · exact ⟨by omega, .inr (ltL_asym x y h2)⟩
theorem ltL_irr : ∀ a, ltL a a = false
  | [] => rfl
  | x :: r => by simp [ltL, ltL_irr r]
theorem ltL_app : ∀ p t, ltL (p ++ t) p = false
  | [], t => by cases t <;> rfl
  | x :: r, t => by simp [ltL, ltL_app r t]
theorem ltL_nx : ∀ p t, nx p ≠ [] → ltL (p ++ t) (nx p) = true
  | [], _, h => absurd rfl h
  | x :: r, t, h => by
    cases hn : nx r with
    | nil =>
      rw [nx_n hn] at h ⊢
      by_cases hx : x = 255
      · rw [if_pos hx] at h; exact absurd rfl h
      · rw [if_neg hx]
        have : x < x + 1 := by omega
        simp [ltL, this]
    | cons y s =>
      rw [nx_k hn]
      have := ltL_nx r t (by rw [hn]; simp)
      simp [ltL, this]
theorem pre_of_nx : ∀ r s, Byt s → nx r = [] → Byt r → ltL s r = false → ∃ t, s = r ++ t
  | [], s, _, _, _, _ => ⟨s, rfl⟩
  | x :: r, s, hs, hn, hr, hl => by
    have h1 : nx r = [] := by
      cases h : nx r with
      | nil => rfl
      | cons y t => unfold nx at hn; rw [h] at hn; simp at hn
    have h2 : x = 255 := by
      unfold nx at hn; rw [h1] at hn
      by_cases hx : x = 255
      · exact hx
      · simp [hx] at hn
    cases s with
    | nil => simp [ltL] at hl
    | cons c s =>
      have hc := wf_u8 (hs c List.mem_cons_self)
      simp [ltL] at hl
      obtain ⟨l1, l2⟩ := hl
      have hc2 : c = x := by omega
      obtain ⟨t, ht⟩ := pre_of_nx r s (fun y hy => hs y (List.mem_cons_of_mem _ hy)) h1 (fun y hy => hr y (List.mem_cons_of_mem _ hy)) (l2 hc2)
      exact ⟨t, by rw [ht, hc2]; rfl⟩
theorem nx_out : ∀ p a, Byt a → Byt p → nx p ≠ [] → ltL a p = false → (¬ ∃ t, a = p ++ t) → ltL a (nx p) = false
  | [], a, _, _, h, _, _ => absurd rfl h
  | x :: r, [], _, _, _, h, _ => by simp [ltL] at h
  | x :: r, c :: s, ha, hp, hne, hl, hno => by
    have hs : Byt s := fun y hy => ha y (List.mem_cons_of_mem _ hy)
    have hr : Byt r := fun y hy => hp y (List.mem_cons_of_mem _ hy)
    simp [ltL] at hl
    obtain ⟨l1, l2⟩ := hl
    have hno2 : c = x → ¬ ∃ t, s = r ++ t := fun e ⟨t, ht⟩ => hno ⟨t, by rw [ht, e]; rfl⟩
    cases hn : nx r with
    | nil =>
      rw [nx_n hn] at hne ⊢
      by_cases hx : x = 255
      · rw [if_pos hx] at hne; exact absurd rfl hne
      · rw [if_neg hx]
        have hcx : c ≠ x := fun e => hno2 e (pre_of_nx r s hs hn hr (l2 e))
        have : ¬ c < x + 1 := by omega
        cases s <;> simp [ltL, this]
    | cons y t =>
      rw [nx_k hn]
      simp only [ltL, Bool.or_eq_false_iff, Bool.and_eq_false_iff, decide_eq_false_iff_not]
      refine ⟨by omega, ?_⟩
      by_cases hc : c = x
      · exact .inr (nx_out r s hs hr (by rw [hn]; simp) (l2 hc) (hno2 hc))
      · exact .inl hc
theorem encV_bytes {v : ValT} (hv : valOk v) (hw : ∀ x ∈ v.2.2.1, (Lit.int .u8 x).wf = true) : ∀ x ∈ encV v, (Lit.int .u8 x).wf = true := by
  have he : ∀ x ∈ esc v.2.2.1, (Lit.int .u8 x).wf = true := by
    intro x hx
    obtain ⟨y, hy, hxy⟩ := List.mem_flatMap.1 hx
    have := hw y hy
    split at hxy
    · simp at hxy
      rcases hxy with rfl | rfl
      · exact this
      · decide
    · simp at hxy; subst hxy; exact this
  intro x hx
  unfold encV at hx
  split at hx
  · rcases List.mem_cons.1 hx with rfl | hx
    · decide
    · exact be_wf _ _ x hx
  · split at hx
    · rcases List.mem_cons.1 hx with rfl | hx
      · decide
      · rcases List.mem_append.1 hx with hx | hx
        · exact he x hx
        · simp at hx; rcases hx with rfl | rfl <;> decide
    · simp at hx; subst hx; decide
theorem flat_len : ∀ l : List ValT, (∀ v ∈ l, valOk v) → (l.flatMap encV).length ≤ 1000 * l.length
  | [], _ => by simp
  | v :: l, hv => by
    have := encV_length (hv v List.mem_cons_self)
    have ih := flat_len l fun w hw => hv w (List.mem_cons_of_mem _ hw)
    rw [List.flatMap_cons, List.length_append, List.length_cons]
    omega
theorem put_ev {l : List ValT} (hl : ∀ v ∈ l, valOk v) (hlen : l.length ≤ 400) : Ev (fun k => okey_Put k l) ((l.isEmpty, l.flatMap encV), ()) := .from 500 fun k => okey_Put_is k hl hlen
/-! ### Keys of tables -/
abbrev TabT := Int × ((List Int) × ((List ((List Int) × (Int × (Bool × Unit)))) × (Int × ((List Int) × Unit))))
def wv (n : Int) : ValT := (1, (n, ([], ())))
def zv : ValT := (0, (0, ([], ())))
def I64 (n : Int) : Prop := -9223372036854775808 ≤ n ∧ n ≤ 9223372036854775807
theorem wv_ok {n : Int} (h : I64 n) : valOk (wv n) := ⟨h, by show ([] : List Int).length ≤ 400; simp⟩
theorem zv_ok : valOk zv := ⟨by constructor <;> decide, by show ([] : List Int).length ≤ 400; simp⟩
def idxV (t : TabT) (i : Int) : Option Int := if i < 0 then none else t.2.2.2.2.1[i.toNat]?
theorem column_is (k : Nat) (t : TabT) (i : Int) : cat_column k t i = some (((idxV t i).getD 0, ((idxV t i).isSome, ())), ()) := by
  rw [cat_column_eq]
  unfold idxV
  by_cases c : i < 0
  · rw [bt c, if_pos c]; rfl
  · rw [bf c, if_neg c]
    obtain ⟨j, rfl⟩ := Int.eq_ofNat_of_zero_le (show 0 ≤ i by omega)
    rw [Int.toNat_natCast]
    by_cases d : j < t.2.2.2.2.1.length
    · rw [bf (by omega), nth_get (List.getElem?_eq_getElem d), Option.bind_some, List.getElem?_eq_getElem d]; rfl
    · rw [bt (by omega), List.getElem?_eq_none (by omega)]; rfl
theorem idx_lt {t : TabT} {i c : Int} (h : idxV t i = some c) : 0 ≤ i ∧ i < t.2.2.2.2.1.length := by
  unfold idxV at h
  split at h
  · cases h
  · have := (List.getElem?_eq_some_iff.1 h).1
    omega
def tundK (t : TabT) (n : Int) : List Int := [wv t.1, wv n].flatMap encV
theorem enc_byt_w {n : Int} (h : I64 n) : Byt (encV (wv n)) := encV_bytes (wv_ok h) (fun x hx => by cases hx)
theorem tundK_byt {t : TabT} (ht : I64 t.1) {n : Int} (hn : I64 n) : Byt (tundK t n) := by
  intro x hx
  obtain ⟨v, hv, hx⟩ := List.mem_flatMap.1 hx
  simp only [List.mem_cons, List.not_mem_nil, or_false] at hv
  rcases hv with rfl | rfl
  · exact enc_byt_w ht x hx
  · exact enc_byt_w hn x hx
theorem encV_ne0 (v : ValT) : encV v ≠ [] := by
  unfold encV
  split
  · simp
  · split <;> simp
theorem under_ev {t : TabT} (ht : I64 t.1) {n : Int} (hn : I64 n) : Ev (fun k => cat_under k t n) ((tundK t n, (nx (tundK t n), ())), ((tundK t n, (nx (tundK t n), ())), ())) := by
  simp only [cat_under_eq, cat_whole_eq, Option.bind_some]
  have hv : ∀ v ∈ [wv t.1, wv n], valOk v := by
    intro v hv
    simp only [List.mem_cons, List.not_mem_nil, or_false] at hv
    rcases hv with rfl | rfl
    · exact wv_ok ht
    · exact wv_ok hn
  have hlen := flat_len _ hv
  refine .bind (F := fun k => okey_Put k [wv t.1, wv n]) (put_ev hv (by simp)) ?_
  refine .bind (F := fun k => okey_Next k ([wv t.1, wv n].isEmpty) (tundK t n)) (okNext_ev (fun h => by cases h) (by unfold tundK; simp at hlen ⊢; omega) (tundK_byt ht hn)) .ret
theorem rows_ev {t : TabT} (ht : I64 t.1) : Ev (fun k => cat_Rows k t) ((tundK t 0, (nx (tundK t 0), ())), ((tundK t 0, (nx (tundK t 0), ())), ())) := by
  simp only [cat_Rows_eq]
  exact .bind (F := fun k => cat_under k t 0) (under_ev ht (by constructor <;> decide)) .ret
def indS (t : TabT) (i : Int) : List Int × (List Int × Unit) := match idxV t i with
  | none => ([], ([], ()))
  | some _ => (tundK t (i + 1), (nx (tundK t (i + 1)), ()))
theorem index_ev {t : TabT} (ht : I64 t.1) (hl : t.2.2.2.2.1.length ≤ 1000) (i : Int) : Ev (fun k => cat_Index k t i) (indS t i, (indS t i, ())) := by
  simp only [cat_Index_eq]
  have hc : ∀ k, cat_column k (t.1, (t.2.1, (t.2.2.1, (t.2.2.2.1, (t.2.2.2.2.1, ()))))) i = some (((idxV t i).getD 0, ((idxV t i).isSome, ())), ()) := fun k => column_is k t i
  simp only [hc, Option.bind_some]
  unfold indS
  cases hi : idxV t i with
  | none => exact .ret
  | some c =>
    have hlt := idx_lt hi
    simp only [Option.isSome_some, Bool.not_true, cond_false]
    rw [wr_i64 (by omega)]
    exact .bind (F := fun k => cat_under k t (i + 1)) (under_ev ht ⟨by omega, by omega⟩) .ret
def smallB (t : TabT) (r : List ((List Int) × (Int × (Bool × Unit)))) : Bool := r.all (fun c => decide (c.1.length ≤ 100)) && (decide (t.2.2.1.length ≤ 14) && (decide (t.2.2.2.2.1.length ≤ 6) && decide (t.2.1.length ≤ 100)))
theorem small_l0 (k : Nat) {t : TabT} (hm : t.2.2.1.length ≤ 9223372036854775807) : ∀ n j, j ≤ t.2.2.1.length → t.2.2.1.length - j < n → law21_Small_l0 k n t.2.2.1 (t.2.2.1.length : Int) (j : Int) t.1 t.2.1 t.2.2.1 t.2.2.2.1 t.2.2.2.2.1 = some (smallB t (t.2.2.1.drop j), ())
  | 0, _, _, h => absurd h (Nat.not_lt_zero _)
  | n + 1, j, hj, hn => by
    rw [law21_Small_l0_eq]
    by_cases c : j < t.2.2.1.length
    · have hx := List.getElem?_eq_getElem c
      rw [bt (by omega), nth_get hx, Option.bind_some, List.drop_eq_getElem_cons c]
      by_cases c1 : 100 < (t.2.2.1[j].1.length : Int)
      · rw [bt c1, show smallB t (t.2.2.1[j] :: t.2.2.1.drop (j + 1)) = false from by unfold smallB; rw [List.all_cons, dF (by omega)]; rfl]
      rw [bf c1, wr_i64 (by omega)]
      refine (small_l0 k hm n (j + 1) c (by omega)).trans ?_
      rw [show smallB t (t.2.2.1[j] :: t.2.2.1.drop (j + 1)) = smallB t (t.2.2.1.drop (j + 1)) from by unfold smallB; rw [List.all_cons, dT (p := t.2.2.1[j].1.length ≤ 100) (by omega)]; rfl]
    · have : j = t.2.2.1.length := by omega
      subst this
      rw [bf (by omega), List.drop_length]
      unfold smallB
      by_cases h1 : t.2.2.1.length ≤ 14
      · rw [bt (by omega), dT h1]
        by_cases h2 : t.2.2.2.2.1.length ≤ 6
        · rw [bt (by omega), dT h2]
          by_cases h3 : t.2.1.length ≤ 100
          · rw [dT (p := ((t.2.1.length : Int) ≤ 100)) (by omega), dT h3]; rfl
          · rw [dF (p := ((t.2.1.length : Int) ≤ 100)) (by omega), dF h3]; rfl
        · rw [bf (by omega), dF h2]; rfl
      · rw [bf (by omega), dF h1]; rfl
theorem small_ev {t : TabT} (hm : t.2.2.1.length ≤ 9223372036854775807) : Ev (fun k => law21_Small k t) (smallB t t.2.2.1, ()) := by
  refine ⟨t.2.2.1.length + 1, fun k hk => ?_⟩
  show law21_Small k t = _
  rw [law21_Small_eq]
  exact small_l0 k hm k 0 (by omega) (by omega)
theorem small_of {t : TabT} (h : smallB t t.2.2.1 = true) : t.2.2.1.length ≤ 14 ∧ t.2.2.2.2.1.length ≤ 6 ∧ t.2.1.length ≤ 100 ∧ ∀ c ∈ t.2.2.1, c.1.length ≤ 100 := by
  unfold smallB at h
  simp only [Bool.and_eq_true, List.all_eq_true, decide_eq_true_eq] at h
  exact ⟨h.2.1, h.2.2.1, h.2.2.2, h.1⟩
/-- Few parts everywhere, so deep at most; texts that are short. -/
inductive SmallD : Nat → Ex → Prop
  | mk (d : Nat) (op : Int) (t n : List Int) (m : Int) (v : Int × (Int × (List Int × Unit))) (es : List Ex) : es.length ≤ 3 → v.2.2.1.length ≤ 200 → (∀ x ∈ es, SmallD d x) → SmallD (d + 1) (.mk op t n m v es)
theorem light_loopD (es : List Ex) (d : Nat) (hl : es.length ≤ 3) (ih : ∀ x ∈ es, ∃ b, (b = true → SmallD d x) ∧ Ev (fun k => law20_Light k x.un d) (b, ())) (hd : d ≤ 100) :
    ∀ m j, j + m = es.length → ∃ b, (b = true → ∀ x ∈ es.drop j, SmallD d x) ∧ ∃ K, ∀ k n, K ≤ k → m < n → law20_Light_l0 (law20_Light k) (k + 1) n ((d + 1 : Nat) : Int) es (es.length : Int) (j : Int) = some (b, ())
  | 0, j, hj => ⟨true, fun _ => by rw [List.drop_eq_nil_of_le (by omega)]; simp, 0, fun k n _ hn => by
      obtain ⟨i, rfl⟩ : ∃ i, n = i + 1 := ⟨n - 1, by omega⟩
      rw [law20_Light_l0_eq, bf (by omega)]⟩
  | m + 1, j, hj => by
    have hx : es[j]? = some es[j] := List.getElem?_eq_getElem (by omega)
    obtain ⟨b, sb, K, hK⟩ := ih es[j] (List.getElem_mem _)
    obtain ⟨c, sc, L, hL⟩ := light_loopD es d hl ih hd m (j + 1) (by omega)
    have ed : wr .i64 (((d + 1 : Nat) : Int) - 1) = (d : Int) := by rw [wr_i64 (by omega)]; omega
    refine ⟨b && c, fun h => ?_, K + L, fun k n hk hn => ?_⟩
    · rw [Bool.and_eq_true] at h
      rw [List.drop_eq_getElem_cons (by omega)]
      intro x hx
      rcases List.mem_cons.1 hx with rfl | hx
      · exact sb h.1
      · exact sc h.2 x hx
    obtain ⟨i, rfl⟩ : ∃ i, n = i + 1 := ⟨n - 1, by omega⟩
    rw [law20_Light_l0_eq, bt (by omega), nth_get hx, Option.bind_some, ed]
    refine (congrArg (fun o => Option.bind o _) (hK k (by omega))).trans ?_
    rw [Option.bind_some]
    show (bif (!b) then _ else _) = _
    cases b
    · rfl
    · rw [Bool.not_true, cond_false, wr_i64 (by omega)]
      exact hL k i (by omega) (by omega)
theorem szE_mk {op : Int} {t n : List Int} {m : Int} {v : Int × (Int × (List Int × Unit))} {es : List Ex} (h : szE (.mk op t n m v es)) : t.length ≤ reachBytes ∧ n.length ≤ reachBytes ∧ v.2.2.1.length ≤ reachBytes ∧ ∀ x ∈ es, szE x := by
  unfold szE at h
  rw [szEs_all] at h
  exact ⟨h.1, h.2.1, h.2.2.1, fun x hx => h.2.2.2 x hx⟩
theorem light_exD : (e : Ex) → szE e → (d : Nat) → d ≤ 100 → ∃ b, (b = true → SmallD d e) ∧ Ev (fun k => law20_Light k e.un d) (b, ())
  | .mk op t n m v es, hz, 0, hd => ⟨false, nofun, .from 1 fun k => by rw [law20_Light_succ, law20_Light_b_eq, bt (by rfl)]⟩
  | .mk op t n m v es, hz, d + 1, hd => by
    obtain ⟨z1, z2, z3, z4⟩ := szE_mk hz
    have hr : reachBytes = 140737488351232 := by decide
    have h0 : ¬ ((d + 1 : Nat) : Int) = 0 := by omega
    by_cases h1 : 3 < (es.length : Int)
    · refine ⟨false, nofun, .from 1 fun k => ?_⟩
      rw [law20_Light_succ, law20_Light_b_eq, bf h0]
      show (bif (decide (3 < (es.length : Int))) then _ else _) = _
      rw [bt h1]
    by_cases h2 : 200 < (wr .i64 ((wr .i64 ((n.length : Int) + (t.length : Int))) + (v.2.2.1.length : Int)))
    · refine ⟨false, nofun, .from 1 fun k => ?_⟩
      rw [law20_Light_succ, law20_Light_b_eq, bf h0]
      show (bif (decide (3 < (es.length : Int))) then _ else (bif (decide (200 < (wr .i64 ((wr .i64 ((n.length : Int) + (t.length : Int))) + (v.2.2.1.length : Int))))) then _ else _)) = _
      rw [bf h1, bt h2]
    have ih : ∀ x ∈ es, ∃ b, (b = true → SmallD d x) ∧ Ev (fun k => law20_Light k x.un d) (b, ()) := fun x hx => light_exD x (z4 x hx) d (by omega)
    obtain ⟨b, sb, K, hK⟩ := light_loopD es d (by omega) ih (by omega) es.length 0 (by omega)
    have hv : v.2.2.1.length ≤ 200 := by
      rw [wr_i64 (n := (n.length : Int) + (t.length : Int)) (by omega), wr_i64 (by omega)] at h2
      omega
    refine ⟨b, fun h => .mk _ _ _ _ _ _ _ (by omega) hv (sb h), K + es.length + 1, fun k hk => ?_⟩
    obtain ⟨i, rfl⟩ : ∃ i, k = i + 1 := ⟨k - 1, by omega⟩
    show law20_Light (i + 1) _ _ = _
    rw [law20_Light_succ, law20_Light_b_eq, bf h0]
    show (bif (decide (3 < (es.length : Int))) then _ else (bif (decide (200 < (wr .i64 ((wr .i64 ((n.length : Int) + (t.length : Int))) + (v.2.2.1.length : Int))))) then _ else _)) = _
    rw [bf h1, bf h2]
    exact hK i (i + 1) (by omega) (by omega)
termination_by e _ d _ => d
decreasing_by omega
abbrev VT := Int × (Int × ((List Int) × Unit))
theorem wr_nx {j n : Nat} (h : j < n) (hn : n ≤ 9223372036854775807) : wr .i64 ((j : Int) + 1) = ((j + 1 : Nat) : Int) := by rw [wr_i64 (by omega)]; omega
theorem lim_L {α : Type} {n : Nat} {x : Option α} (h : n ≤ 60000000) : lim n x = x := by unfold lim; rw [if_pos]; exact Nat.le_trans h (by decide)
/-- What is and-ed. -/
def partsL : Ex → List Ex
  | .mk op t n m v [a, b] => if op = 17 then partsL a ++ partsL b else [.mk op t n m v [a, b]]
  | e => [e]
theorem partsL_and {op : Int} {t n : List Int} {m : Int} {v : Int × (Int × (List Int × Unit))} {a b : Ex} (h : op = 17) : partsL (.mk op t n m v [a, b]) = partsL a ++ partsL b := by
  rw [partsL]; exact if_pos h
theorem partsL_len : ∀ {d : Nat} {e : Ex}, SmallD d e → (partsL e).length ≤ 2 ^ d
  | d, .mk op t n m v es, h => by
    cases h with
    | mk d _ _ _ _ _ _ h1 h2 h3 =>
    have h1' : 1 ≤ 2 ^ (d + 1) := Nat.one_le_two_pow
    match es, h3 with
    | [a, b], h3 =>
      unfold partsL
      split
      · have ha := partsL_len (h3 a (by simp))
        have hb := partsL_len (h3 b (by simp))
        rw [List.length_append, Nat.pow_succ]; omega
      · exact h1'
    | [], _ => exact h1'
    | [_], _ => exact h1'
    | _ :: _ :: _ :: _, _ => exact h1'
theorem parts_ev : ∀ {d : Nat} {e : Ex}, SmallD d e → d ≤ 20 → Ev (fun k => plan_Parts k e.un) (partsL e, ())
  | d, .mk op t n m v es, h, hd => by
    by_cases c : op = 17 ∧ es.length = 2
    · obtain ⟨c1, c2⟩ := c
      cases h with
      | mk d _ _ _ _ _ _ h1 h2 h3 =>
      match es, c2, h3 with
      | [a, b], _, h3 =>
        obtain ⟨K, hK⟩ := parts_ev (h3 a (by simp)) (by omega)
        obtain ⟨L, hL⟩ := parts_ev (h3 b (by simp)) (by omega)
        have la := partsL_len (h3 a (by simp))
        have lb := partsL_len (h3 b (by simp))
        have hp : 2 ^ d ≤ 2 ^ 20 := Nat.pow_le_pow_right (by omega) (by omega)
        refine ⟨K + L + 1, fun k hk => ?_⟩
        obtain ⟨i, rfl⟩ : ∃ i, k = i + 1 := ⟨k - 1, by omega⟩
        show plan_Parts (i + 1) _ = _
        rw [plan_Parts_succ, plan_Parts_b_eq]
        show (bif (!decide (op = 17)) then _ else (bif (!decide ((([a, b] : List Ex).length : Int) = 2)) then _ else (plan_Parts i a.un).bind fun r => (plan_Parts i b.un).bind fun s => _)) = _
        rw [dT c1, Bool.not_true, cond_false, dT (show (([a, b] : List Ex).length : Int) = 2 from rfl), Bool.not_true, cond_false]
        refine (congrArg (fun o => Option.bind o _) (hK i (by omega))).trans ?_
        rw [Option.bind_some]
        refine (congrArg (fun o => Option.bind o _) (hL i (by omega))).trans ?_
        rw [Option.bind_some]
        show lim ((partsL a).length + (partsL b).length) (some ((partsL a ++ partsL b), ())) = _
        rw [lim_L (by omega), partsL_and c1]
    · have hp : partsL (.mk op t n m v es) = [.mk op t n m v es] := by
        match es, c with
        | [a, b], c => unfold partsL; rw [if_neg (fun h => c ⟨h, rfl⟩)]
        | [], _ => rfl
        | [_], _ => rfl
        | _ :: _ :: _ :: _, _ => rfl
      refine .from 1 fun k => ?_
      rw [plan_Parts_succ, plan_Parts_b_eq, hp]
      show (bif (!decide (op = 17)) then _ else (bif (!decide ((es.length : Int) = 2)) then _ else _)) = _
      by_cases c1 : op = 17
      · rw [dT c1, Bool.not_true, cond_false, dF (by omega)]; rfl
      · rw [dF c1]; rfl
def oB : Option VT → Bool × List VT
  | none => (true, [])
  | some v => (false, [v])
def isM (e : ExD) (p : Int) : Bool := decide (e.1 = 3 ∧ e.2.2.2.1 = p)
theorem is_is (k : Nat) (e : ExD) (p : Int) : plan_is k e p = some (isM e p, ()) := by
  rw [plan_is_eq]
  unfold isM
  by_cases h : e.1 = 3
  · rw [bt h]
    by_cases h2 : e.2.2.2.1 = p
    · rw [dT h2, dT ⟨h, h2⟩]
    · rw [dF h2, dF (fun q => h2 q.2)]
  · rw [bf h, dF (fun q => h q.1)]
def turnM (op : Int) : Int := if op = 12 then 14 else if op = 13 then 15 else if op = 14 then 12 else if op = 15 then 13 else op
theorem turn_is (k : Nat) (op : Int) : plan_turned k op = some (turnM op, ()) := by
  rw [plan_turned_eq]
  unfold turnM
  by_cases h : op = 12
  · rw [bt h, if_pos h]
  rw [bf h, if_neg h]
  by_cases h : op = 13
  · rw [bt h, if_pos h]
  rw [bf h, if_neg h]
  by_cases h : op = 14
  · rw [bt h, if_pos h]
  rw [bf h, if_neg h]
  by_cases h : op = 15
  · rw [bt h, if_pos h]
  rw [bf h, if_neg h]
abbrev BndT := Option VT × Option VT × Bool
/-- The bounds that a comparison of a column and a literal tells. -/
def litB (op p : Int) (a b : ExD) : BndT :=
  if isM a p = true ∧ b.1 = 1 ∧ b.2.2.2.2.1.1 ≠ 0 then
    (if op = 10 then (some b.2.2.2.2.1, some b.2.2.2.2.1, true) else if op = 12 ∨ op = 13 then (none, some b.2.2.2.2.1, true) else if op = 14 ∨ op = 15 then (some b.2.2.2.2.1, none, true) else (none, none, false))
  else (none, none, false)
def bndM (x : ExD) (p : Int) : BndT :=
  match x.2.2.2.2.2.1 with
  | [a, b] => if isM a.un p = true then litB x.1 p a.un b.un else litB (turnM x.1) p b.un a.un
  | _ => (none, none, false)
def pkBd (r : BndT) : ((Bool × List VT) × ((Bool × List VT) × (Bool × Unit))) × Unit := ((oB r.1, (oB r.2.1, (r.2.2, ()))), ())
theorem bnd_j0 (k : Nat) (p op : Int) (a b : ExD) : plan_Bounds_j0 (k + 1) p op a.1 a.2.1 a.2.2.1 a.2.2.2.1 a.2.2.2.2.1.1 a.2.2.2.2.1.2.1 a.2.2.2.2.1.2.2.1 a.2.2.2.2.2.1 b.1 b.2.1 b.2.2.1 b.2.2.2.1 b.2.2.2.2.1.1 b.2.2.2.2.1.2.1 b.2.2.2.2.1.2.2.1 b.2.2.2.2.2.1 = some (pkBd (litB op p a b)) := by
  rw [plan_Bounds_j0_eq, show ((a.1, (a.2.1, (a.2.2.1, (a.2.2.2.1, ((a.2.2.2.2.1.1, (a.2.2.2.2.1.2.1, (a.2.2.2.2.1.2.2.1, ()))), (a.2.2.2.2.2.1, ())))))) : ExD) = a from rfl, is_is, Option.bind_some]
  unfold litB
  cases h : isM a p with
  | false => rw [if_neg (by simp)]; rfl
  | true =>
    by_cases h1 : b.1 = 1
    · by_cases h2 : b.2.2.2.2.1.1 = 0
      · rw [if_neg (fun q => q.2.2 h2)]
        show (bif (!decide (b.1 = 1)) then _ else (bif decide (b.2.2.2.2.1.1 = 0) then _ else _)) = _
        rw [dT h1, Bool.not_true, cond_false, bt h2]; rfl
      · rw [if_pos ⟨rfl, h1, h2⟩]
        show (bif (!decide (b.1 = 1)) then _ else (bif decide (b.2.2.2.2.1.1 = 0) then _ else (bif decide (op = 10) then _ else (bif decide (op = 12) then _ else _)))) = _
        rw [dT h1, Bool.not_true, cond_false, bf h2]
        by_cases c : op = 10
        · rw [bt c, if_pos c]; rfl
        rw [bf c, if_neg c]
        by_cases c2 : op = 12
        · rw [bt c2, plan_Bounds_j1_eq, bt c2, if_pos (.inl c2)]; rfl
        rw [bf c2, plan_Bounds_j1_eq]
        by_cases c3 : op = 13
        · rw [bt c3, if_pos (.inr c3)]; rfl
        rw [bf c3, if_neg (show ¬ (op = 12 ∨ op = 13) by omega)]
        by_cases c4 : op = 14
        · rw [bt c4, plan_Bounds_j2_eq, bt c4, if_pos (.inl c4)]; rfl
        rw [bf c4, plan_Bounds_j2_eq]
        by_cases c5 : op = 15
        · rw [bt c5, if_pos (.inr c5)]; rfl
        · rw [bf c5, if_neg (show ¬ (op = 14 ∨ op = 15) by omega)]; rfl
    · rw [if_neg (fun q => h1 q.2.1)]
      show (bif (!decide (b.1 = 1)) then _ else _) = _
      rw [dF h1]; rfl
theorem bnd_is (k : Nat) (x : ExD) (p : Int) : plan_Bounds (k + 1) x p = some (pkBd (bndM x p)) := by
  rw [plan_Bounds_eq]
  unfold bndM
  by_cases hl : x.2.2.2.2.2.1.length = 2
  · rw [dT (by omega), Bool.not_true, cond_false, twoW_self]
    generalize hx : x.2.2.2.2.2.1 = es at hl
    match es, hl with
    | [a, b], _ =>
      show (plan_is (k + 1) a.un p).bind _ = some (pkBd (if isM a.un p = true then litB x.1 p a.un b.un else litB (turnM x.1) p b.un a.un))
      rw [is_is, Option.bind_some, turn_is]
      cases h : isM a.un p with
      | false =>
        rw [if_neg (by simp)]
        exact bnd_j0 k p (turnM x.1) b.un a.un
      | true =>
        rw [if_pos rfl]
        exact bnd_j0 k p x.1 a.un b.un
  · rw [dF (by omega)]
    split
    · rename_i a b h; rw [h] at hl; exact absurd rfl hl
    · rfl
def stepB {α : Type} (k : Option VT → Option VT → α) (ret : Option VT × Option VT → α) (lo hi : Option VT) : BndT → α
  | (_, _, false) => k lo hi
  | (some a, some b, true) => ret (some a, some b)
  | (some a, none, true) => match lo with
    | none => k (some a) hi
    | some l => k (some l) hi
  | (none, some b, true) => match hi with
    | none => k lo (some b)
    | some h => k lo (some h)
  | (none, none, true) => k lo hi
def bddM : List Ex → Int → Option VT → Option VT → Option VT × Option VT
  | [], _, lo, hi => (lo, hi)
  | e :: r, p, lo, hi => stepB (bddM r p) id lo hi (bndM e.un p)
def pkBb (r : Option VT × Option VT) : ((Bool × List VT) × ((Bool × List VT) × Unit)) × Unit := ((oB r.1, (oB r.2, ())), ())
theorem oB_1 (o : Option VT) : (oB o).1 = o.isNone := by cases o <;> rfl
theorem bdd_loop (es : List Ex) (p : Int) (hl : es.length ≤ 9223372036854775807) : ∀ m j lo hi, j + m = es.length → Ev2 (fun k n => plan_bounded_l0 k n p (oB lo).1 (oB lo).2 (oB hi).1 (oB hi).2 es (es.length : Int) (j : Int)) (pkBb (bddM (es.drop j) p lo hi))
  | 0, j, lo, hi, hj => by
    refine .up ?_
    simp only [plan_bounded_l0_eq, bf (show ¬ (j : Int) < es.length by omega)]
    rw [List.drop_eq_nil_of_le (by omega)]
    exact .ret
  | m + 1, j, lo, hi, hj => by
    have hx : es[j]? = some es[j] := List.getElem?_eq_getElem (by omega)
    have ih := fun lo hi => bdd_loop es p hl m (j + 1) lo hi (by omega)
    have e : wr .i64 ((j : Int) + 1) = ((j + 1 : Nat) : Int) := wr_nx (show j < es.length by omega) hl
    rw [List.drop_eq_getElem_cons (show j < es.length by omega)]
    unfold bddM
    have ihk : ∀ lo hi, Ev2 (fun k n => plan_bounded_l0 (k + 1) n p (oB lo).1 (oB lo).2 (oB hi).1 (oB hi).2 es (es.length : Int) ((j + 1 : Nat) : Int)) (pkBb (bddM (es.drop (j + 1)) p lo hi)) := fun lo hi => by
      obtain ⟨K, hK⟩ := ih lo hi
      exact ⟨K, fun k n hk hn => hK (k + 1) n (by omega) hn⟩
    refine .up (.upk ?_)
    simp only [plan_bounded_l0_eq, bt (show (j : Int) < es.length by omega), nth_get hx, Option.bind_some, e, plan_bounded_j0_eq, plan_bounded_j1_eq]
    have hb : ∀ k, plan_Bounds (k + 1) (es[j].un.1, (es[j].un.2.1, (es[j].un.2.2.1, (es[j].un.2.2.2.1, ((es[j].un.2.2.2.2.1.1, (es[j].un.2.2.2.2.1.2.1, (es[j].un.2.2.2.2.1.2.2.1, ()))), (es[j].un.2.2.2.2.2.1, ())))))) p = some (pkBd (bndM es[j].un p)) := fun k => bnd_is k es[j].un p
    simp only [hb, Option.bind_some]
    generalize bndM es[j].un p = r
    obtain ⟨a, b, ok⟩ := r
    cases ok with
    | false =>
      simp only [stepB, pkBd, Bool.not_false, cond_true]
      exact ihk lo hi
    | true =>
      cases a with
      | none =>
        cases b with
        | none =>
          simp only [stepB, pkBd, oB, Bool.not_true, cond_false]
          exact ihk lo hi
        | some w =>
          cases hi with
          | none =>
            have := ihk lo (some w)
            simp only [stepB, pkBd, oB, Bool.not_true, Bool.not_false, cond_false, cond_true] at this ⊢
            exact this
          | some h =>
            have := ihk lo (some h)
            simp only [stepB, pkBd, oB, Bool.not_true, Bool.not_false, cond_false, cond_true] at this ⊢
            exact this
      | some v =>
        cases b with
        | none =>
          cases lo with
          | none =>
            have := ihk (some v) hi
            simp only [stepB, pkBd, oB, Bool.not_true, Bool.not_false, cond_false, cond_true] at this ⊢
            exact this
          | some l =>
            have := ihk (some l) hi
            simp only [stepB, pkBd, oB, Bool.not_true, Bool.not_false, cond_false, cond_true] at this ⊢
            exact this
        | some w =>
          simp only [stepB, pkBd, oB, Bool.not_true, Bool.not_false, cond_false, cond_true]
          exact Ev2.ret
theorem bdd_ev (es : List Ex) (p : Int) (hl : es.length ≤ 9223372036854775807) : Ev (fun k => plan_bounded k es p) (pkBb (bddM es p none none)) := by
  simp only [plan_bounded_eq]
  exact (bdd_loop es p hl es.length 0 none none (by omega)).dg
def GoodV (v : VT) : Prop := valOk v ∧ Byt v.2.2.1
def GoodO (o : Option VT) : Prop := ∀ v, o = some v → GoodV v
def GE (e : Ex) : Prop := ∀ a ∈ e.un.2.2.2.2.2.1, GoodV a.un.2.2.2.2.1
theorem good_of {d : Nat} {e : Ex} (h : SmallD d e) (hw : wfE e) : GoodV e.un.2.2.2.2.1 := by
  cases h with
  | mk d op t n m v es h1 h2 h3 =>
  unfold wfE at hw
  obtain ⟨_, _, _, _, ⟨_, w2, w3⟩, _, _⟩ := hw
  exact ⟨⟨wf_i64 w2, by show v.2.2.1.length ≤ 400; omega⟩, fun x hx => w3.2 x hx⟩
theorem args_of {d : Nat} {op : Int} {t n : List Int} {m : Int} {v : Int × (Int × (List Int × Unit))} {es : List Ex} (h : SmallD d (.mk op t n m v es)) (hw : wfE (.mk op t n m v es)) : ∀ x ∈ es, (∃ d', SmallD d' x) ∧ wfE x := by
  cases h with
  | mk d _ _ _ _ _ _ h1 h2 h3 =>
  unfold wfE at hw
  rw [wfEs_all] at hw
  exact fun x hx => ⟨⟨d, h3 x hx⟩, hw.2.2.2.2.2.2 x hx⟩
theorem ge_of {d : Nat} {e : Ex} (h : SmallD d e) (hw : wfE e) : GE e := by
  cases e with
  | mk op t n m v es =>
  intro a ha
  obtain ⟨⟨d', h'⟩, w'⟩ := args_of h hw a ha
  exact good_of h' w'
theorem partsL_good : ∀ {d : Nat} {e : Ex}, SmallD d e → wfE e → ∀ x ∈ partsL e, GE x
  | d, .mk op t n m v es, h, hw => by
    by_cases c : op = 17 ∧ es.length = 2
    · obtain ⟨c1, c2⟩ := c
      have ha := args_of h hw
      cases h with
      | mk d _ _ _ _ _ _ h1 h2 h3 =>
      match es, c2, h3, ha with
      | [a, b], _, h3, ha =>
        rw [partsL_and c1]
        intro x hx
        rcases List.mem_append.1 hx with hx | hx
        · exact partsL_good (h3 a (by simp)) (ha a (by simp)).2 x hx
        · exact partsL_good (h3 b (by simp)) (ha b (by simp)).2 x hx
    · have hp : partsL (.mk op t n m v es) = [.mk op t n m v es] := by
        match es, c with
        | [a, b], c => unfold partsL; rw [if_neg (fun h => c ⟨h, rfl⟩)]
        | [], _ => rfl
        | [_], _ => rfl
        | _ :: _ :: _ :: _, _ => rfl
      rw [hp]
      intro x hx
      rw [List.mem_singleton.1 hx]
      exact ge_of h hw
theorem litB_good {op p : Int} {a b : ExD} (h : GoodV b.2.2.2.2.1) : GoodO (litB op p a b).1 ∧ GoodO (litB op p a b).2.1 := by
  have hn : GoodO none := fun v hv => by cases hv
  have hs : GoodO (some b.2.2.2.2.1) := fun v hv => by cases hv; exact h
  unfold litB
  split
  · split
    · exact ⟨hs, hs⟩
    · split
      · exact ⟨hn, hs⟩
      · split
        · exact ⟨hs, hn⟩
        · exact ⟨hn, hn⟩
  · exact ⟨hn, hn⟩
theorem bndM_good {e : Ex} (h : GE e) (p : Int) : GoodO (bndM e.un p).1 ∧ GoodO (bndM e.un p).2.1 := by
  unfold bndM
  split
  · rename_i a b he
    have ha := h a (by rw [he]; simp)
    have hb := h b (by rw [he]; simp)
    split
    · exact litB_good hb
    · exact litB_good ha
  · have hn : GoodO none := fun v hv => by cases hv
    exact ⟨hn, hn⟩
theorem bddM_good (p : Int) : ∀ (es : List Ex) (lo hi : Option VT), (∀ x ∈ es, GE x) → GoodO lo → GoodO hi → GoodO (bddM es p lo hi).1 ∧ GoodO (bddM es p lo hi).2
  | [], lo, hi, _, h1, h2 => ⟨h1, h2⟩
  | e :: es, lo, hi, h, h1, h2 => by
    have ih := fun lo hi => bddM_good p es lo hi (fun x hx => h x (List.mem_cons_of_mem _ hx))
    obtain ⟨g1, g2⟩ := bndM_good (h e (by simp)) p
    unfold bddM
    generalize bndM e.un p = r at g1 g2
    obtain ⟨a, b, ok⟩ := r
    cases ok with
    | false => exact ih lo hi h1 h2
    | true =>
      cases a with
      | none =>
        cases b with
        | none => exact ih lo hi h1 h2
        | some w => cases hi with
          | none => exact ih lo (some w) h1 g2
          | some h => exact ih lo (some h) h1 h2
      | some v =>
        cases b with
        | none => cases lo with
          | none => exact ih (some v) hi g1 h2
          | some l => exact ih (some l) hi h1 h2
        | some w => exact ⟨g1, g2⟩
def encO : Option VT → List Int
  | none => []
  | some v => encV v
def withinM (s : List Int × List Int) (lo hi : Option VT) : List Int × List Int :=
  (s.1 ++ encO lo, match hi with
    | none => s.2
    | some v => nx (s.1 ++ encV v))
def pkS (s : List Int × List Int) : (List Int × (List Int × Unit)) × ((List Int × (List Int × Unit)) × Unit) := ((s.1, (s.2, ())), ((s.1, (s.2, ())), ()))
theorem put1 {v : VT} (h : GoodV v) : Ev (fun k => okey_Put k [v]) ((false, encV v), ()) := by
  have := put_ev (l := [v]) (by intro w hw; rw [List.mem_singleton.1 hw]; exact h.1) (by simp)
  rw [show [v].flatMap encV = encV v by simp] at this
  exact this
theorem lim0 {α : Type} {n : Nat} {x : Option α} (h : n ≤ 60000000) : lim (0 + n) x = x := lim_L (by omega)
theorem within_j0 (s : List Int × (List Int × Unit)) (h1 : s.1.length ≤ 3000) (hb : Byt s.1) (w1 w2 Lo : List Int) (hi : Option VT) (g : GoodO hi) :
    Ev (fun k => plan_within_j0 k (oB hi).1 (oB hi).2 s.1 s.2.1 w1 w2 Lo s.2.1) (pkS (Lo, (withinM (s.1, s.2.1) none hi).2)) := by
  refine .up ?_
  cases hi with
  | none =>
    refine .from 0 fun k => ?_
    show plan_within_j0 (k + 1) true [] s.1 s.2.1 w1 w2 Lo s.2.1 = _
    rw [plan_within_j0_eq, Bool.not_true, cond_false, plan_within_j1_eq]; rfl
  | some v =>
    obtain ⟨K, hK⟩ := put1 (g v rfl)
    have hl : (encV v).length ≤ 1000 := encV_length (g v rfl).1
    obtain ⟨L, hL⟩ := okNext_ev (b := (true && s.1.isEmpty) && (encV v).isEmpty) (l := s.1 ++ encV v) (fun h => by simp at h; rw [h.1, h.2]; rfl) (by rw [List.length_append]; omega) (fun x hx => by
      rcases List.mem_append.1 hx with hx | hx
      · exact hb x hx
      · exact encV_bytes (g v rfl).1 (g v rfl).2 x hx)
    refine ⟨K + L, fun k hk => ?_⟩
    show plan_within_j0 (k + 1) false [v] s.1 s.2.1 w1 w2 Lo s.2.1 = _
    rw [plan_within_j0_eq, Bool.not_false, cond_true, lim0 (by omega)]
    refine (congrArg (fun o => Option.bind o _) (hK (k + 1) (by omega))).trans ?_
    rw [Option.bind_some]
    show lim (([] ++ s.1).length + (encV v).length) ((okey_Next (k + 1) ((true && s.1.isEmpty) && (encV v).isEmpty) (s.1 ++ encV v)).bind _) = _
    rw [lim_L (by rw [List.nil_append]; omega)]
    refine (congrArg (fun o => Option.bind o _) (hL (k + 1) (by omega))).trans ?_
    rw [Option.bind_some, plan_within_j1_eq]; rfl
theorem within_ev (s : List Int × (List Int × Unit)) (h1 : s.1.length ≤ 3000) (hb : Byt s.1) (lo hi : Option VT) (g1 : GoodO lo) (g2 : GoodO hi) :
    Ev (fun k => plan_within k s (oB lo).1 (oB lo).2 (oB hi).1 (oB hi).2) (pkS (withinM (s.1, s.2.1) lo hi)) := by
  simp only [plan_within_eq]
  cases lo with
  | none =>
    have := within_j0 s h1 hb [] [] s.1 hi g2
    simp only [oB, Bool.not_true, cond_false]
    rw [show withinM (s.1, s.2.1) none hi = (s.1, (withinM (s.1, s.2.1) none hi).2) from by show (s.1 ++ [], _) = _; rw [List.append_nil]; rfl]
    exact this
  | some v =>
    have hl : (encV v).length ≤ 1000 := encV_length (g1 v rfl).1
    have := within_j0 s h1 hb [] [] (([] ++ s.1) ++ encV v) hi g2
    simp only [oB, Bool.not_false, cond_true, lim0 (show s.1.length ≤ 60000000 by omega)]
    refine Ev.bind (put1 (g1 v rfl)) ?_
    simp only [lim_L (show ([] ++ s.1).length + (encV v).length ≤ 60000000 by rw [List.nil_append]; omega)]
    rw [List.nil_append] at this
    exact this
abbrev ChT := Int × (List Int × List Int)
def pkC (c : ChT) : (Int × ((List Int × (List Int × Unit)) × Unit)) × ((Int × (List Int × (List Int × Unit))) × Unit) := ((c.1, ((c.2.1, (c.2.2, ())), ())), ((c.1, (c.2.1, (c.2.2, ()))), ()))
def rowsS (t : TabT) : List Int × List Int := (tundK t 0, nx (tundK t 0))
def idxS (t : TabT) (i : Int) : List Int × List Int := ((indS t i).1, (indS t i).2.1)
def idxM (t : TabT) (fr : Int) (ps : List Ex) : List Int → Nat → ChT
  | [], _ => (-1, rowsS t)
  | c :: r, i => if (bddM ps (wr .i64 (fr + c)) none none).1.isSome = true ∨ (bddM ps (wr .i64 (fr + c)) none none).2.isSome = true then ((i : Int), withinM (idxS t i) (bddM ps (wr .i64 (fr + c)) none none).1 (bddM ps (wr .i64 (fr + c)) none none).2) else idxM t fr ps r (i + 1)
def chooseM (t : TabT) (fr : Int) (ps : List Ex) : ChT :=
  if (bddM ps (wr .i64 (fr + t.2.2.2.1)) none none).1.isSome = true ∨ (bddM ps (wr .i64 (fr + t.2.2.2.1)) none none).2.isSome = true then (-1, withinM (rowsS t) (bddM ps (wr .i64 (fr + t.2.2.2.1)) none none).1 (bddM ps (wr .i64 (fr + t.2.2.2.1)) none none).2) else idxM t fr ps t.2.2.2.2.1 0
theorem tund_len {t : TabT} (ht : I64 t.1) {n : Int} (hn : I64 n) : (tundK t n).length ≤ 2000 := by
  unfold tundK
  have := flat_len [wv t.1, wv n] (by
    intro v hv
    rcases List.mem_cons.1 hv with rfl | hv
    · exact wv_ok ht
    · rw [List.mem_singleton.1 hv]; exact wv_ok hn)
  simpa using this
theorem i64_of {n : Int} (h1 : 0 ≤ n) (h2 : n ≤ 1000000) : I64 n := ⟨by omega, by omega⟩
theorem indS_fst {t : TabT} (ht : I64 t.1) {i : Int} (h : 0 ≤ i) (hl : t.2.2.2.2.1.length ≤ 1000) : ((indS t i).1.length ≤ 2000 ∧ Byt (indS t i).1) := by
  unfold indS
  cases c : idxV t i with
  | none => exact ⟨by simp, fun x hx => by cases hx⟩
  | some c' =>
    have := idx_lt c
    exact ⟨tund_len ht (i64_of (by omega) (by omega)), tundK_byt ht (i64_of (by omega) (by omega))⟩
theorem idx_loop {t : TabT} (ht : I64 t.1) (hl : t.2.2.2.2.1.length ≤ 1000) (fr : Int) (nl : Bool) (ps : List Ex) (hp : ps.length ≤ 9223372036854775807) (hg : ∀ x ∈ ps, GE x) (w1 : Int) (w2 w3 : List Int) :
    ∀ m j, j + m = t.2.2.2.2.1.length → Ev2 (fun k n => plan_Choose_l1 k n fr nl ps t.2.2.2.2.1 (t.2.2.2.2.1.length : Int) (j : Int) t.1 t.2.1 t.2.2.1 t.2.2.2.1 t.2.2.2.2.1 w1 w2 w3) (pkC (idxM t fr ps (t.2.2.2.2.1.drop j) j))
  | 0, j, hj => by
    refine .up ?_
    simp only [plan_Choose_l1_eq, bf (show ¬ (j : Int) < t.2.2.2.2.1.length by omega)]
    rw [List.drop_eq_nil_of_le (by omega)]
    exact (rows_ev ht).e2.bind .ret
  | m + 1, j, hj => by
    have hx : t.2.2.2.2.1[j]? = some t.2.2.2.2.1[j] := List.getElem?_eq_getElem (by omega)
    have e : wr .i64 ((j : Int) + 1) = ((j + 1 : Nat) : Int) := wr_nx (show j < t.2.2.2.2.1.length by omega) (by omega)
    have ih := idx_loop ht hl fr nl ps hp hg w1 w2 w3 m (j + 1) (by omega)
    rw [List.drop_eq_getElem_cons (show j < t.2.2.2.2.1.length by omega)]
    unfold idxM
    refine .up ?_
    simp only [plan_Choose_l1_eq, bt (show (j : Int) < t.2.2.2.2.1.length by omega), nth_get hx, Option.bind_some, e]
    refine (bdd_ev ps (wr .i64 (fr + t.2.2.2.2.1[j])) hp).e2.bind ?_
    obtain ⟨g1, g2⟩ := bddM_good (wr .i64 (fr + t.2.2.2.2.1[j])) ps none none hg (fun v hv => by cases hv) (fun v hv => by cases hv)
    generalize bddM ps (wr .i64 (fr + t.2.2.2.2.1[j])) none none = b at g1 g2
    obtain ⟨lo, hi⟩ := b
    obtain ⟨i1, i2⟩ := indS_fst ht (i := (j : Int)) (by omega) hl
    have wi := within_ev (indS t j) (by omega) i2 lo hi g1 g2
    have ix := index_ev ht hl (j : Int)
    cases lo with
    | some v =>
      rw [if_pos (.inl rfl)]
      simp only [pkBb, oB, Bool.not_false, cond_true]
      exact ix.e2.bind (wi.e2.bind .ret)
    | none =>
      cases hi with
      | some v =>
        rw [if_pos (.inr rfl)]
        simp only [pkBb, oB, Bool.not_false, Bool.not_true, cond_false, cond_true]
        exact ix.e2.bind (wi.e2.bind .ret)
      | none =>
        rw [if_neg (by simp)]
        simp only [pkBb, oB, Bool.not_true, cond_false]
        exact ih
theorem choose_end {t : TabT} (ht : I64 t.1) (hl : t.2.2.2.2.1.length ≤ 1000) (fr : Int) (nl : Bool) (ps : List Ex) (hp : ps.length ≤ 9223372036854775807) (hg : ∀ x ∈ ps, GE x) (w1 : Int) (w2 w3 : List Int) (es : List Ex) :
    Ev2 (fun k n => plan_Choose_l0 k (n + 1) fr nl ps es (es.length : Int) (es.length : Int) t.1 t.2.1 t.2.2.1 t.2.2.2.1 t.2.2.2.2.1 w1 w2 w3) (pkC (chooseM t fr ps)) := by
  simp only [plan_Choose_l0_eq, bf (show ¬ (es.length : Int) < es.length by omega)]
  refine (bdd_ev ps (wr .i64 (fr + t.2.2.2.1)) hp).e2.bind ?_
  unfold chooseM
  obtain ⟨g1, g2⟩ := bddM_good (wr .i64 (fr + t.2.2.2.1)) ps none none hg (fun v hv => by cases hv) (fun v hv => by cases hv)
  generalize bddM ps (wr .i64 (fr + t.2.2.2.1)) none none = b at g1 g2
  obtain ⟨lo, hi⟩ := b
  have h0 : I64 0 := i64_of (by omega) (by omega)
  have wi := within_ev (tundK t 0, (nx (tundK t 0), ())) (by have := tund_len ht h0; show (tundK t 0).length ≤ 3000; omega) (tundK_byt ht h0) lo hi g1 g2
  cases lo with
  | some v =>
    rw [if_pos (.inl rfl)]
    simp only [pkBb, oB, Bool.not_false, cond_true]
    exact (rows_ev ht).e2.bind (wi.e2.bind .ret)
  | none =>
    cases hi with
    | some v =>
      rw [if_pos (.inr rfl)]
      simp only [pkBb, oB, Bool.not_false, Bool.not_true, cond_false, cond_true]
      exact (rows_ev ht).e2.bind (wi.e2.bind .ret)
    | none =>
      rw [if_neg (by simp)]
      simp only [pkBb, oB, Bool.not_true, cond_false]
      exact ((idx_loop ht hl fr nl ps hp hg w1 w2 w3 t.2.2.2.2.1.length 0 (by omega)).dg).e2
theorem choose_loop {t : TabT} (ht : I64 t.1) (hl : t.2.2.2.2.1.length ≤ 1000) (fr : Int) (w1 : Int) (w2 w3 : List Int) (es : List Ex) (he : es.length ≤ 10) (hs : ∀ x ∈ es, ∃ d, d ≤ 10 ∧ SmallD d x) (hw : ∀ x ∈ es, wfE x) :
    ∀ m j nl (ps : List Ex), j + m = es.length → ps.length ≤ 1024 * j → (∀ x ∈ ps, GE x) → Ev2 (fun k n => plan_Choose_l0 k n fr nl ps es (es.length : Int) (j : Int) t.1 t.2.1 t.2.2.1 t.2.2.2.1 t.2.2.2.2.1 w1 w2 w3) (pkC (chooseM t fr (ps ++ (es.drop j).flatMap partsL)))
  | 0, j, nl, ps, hj, hp, hg => by
    have hj : j = es.length := by omega
    subst hj
    rw [List.drop_length]
    rw [show ps ++ ([] : List Ex).flatMap partsL = ps by simp]
    exact .up (choose_end ht hl fr nl ps (by omega) hg w1 w2 w3 es)
  | m + 1, j, nl, ps, hj, hp, hg => by
    have hx : es[j]? = some es[j] := List.getElem?_eq_getElem (by omega)
    have e : wr .i64 ((j : Int) + 1) = ((j + 1 : Nat) : Int) := wr_nx (show j < es.length by omega) (by omega)
    obtain ⟨d, hd, sd⟩ := hs es[j] (List.getElem_mem _)
    have pl := partsL_len sd
    have p2 : 2 ^ d ≤ 2 ^ 10 := Nat.pow_le_pow_right (by omega) hd
    have ih := choose_loop ht hl fr w1 w2 w3 es he hs hw m (j + 1) (nl && (partsL es[j]).isEmpty) (ps ++ partsL es[j]) (by omega) (by rw [List.length_append]; omega) (fun x hx => by
      rcases List.mem_append.1 hx with hx | hx
      · exact hg x hx
      · exact partsL_good sd (hw _ (List.getElem_mem _)) x hx)
    rw [List.drop_eq_getElem_cons (show j < es.length by omega)]
    refine .up ?_
    simp only [plan_Choose_l0_eq, bt (show (j : Int) < es.length by omega), nth_get hx, Option.bind_some, e]
    refine (parts_ev sd (by omega)).e2.bind ?_
    simp only [lim_L (show ps.length + (partsL es[j]).length ≤ 60000000 by omega)]
    rw [List.flatMap_cons, ← List.append_assoc]
    exact ih
theorem choose_ev {t : TabT} (ht : I64 t.1) (hl : t.2.2.2.2.1.length ≤ 1000) (fr : Int) (es : List Ex) (he : es.length ≤ 10) (hs : ∀ x ∈ es, ∃ d, d ≤ 10 ∧ SmallD d x) (hw : ∀ x ∈ es, wfE x) :
    Ev (fun k => plan_Choose k t fr es) (pkC (chooseM t fr (es.flatMap partsL))) := by
  simp only [plan_Choose_eq]
  exact (choose_loop ht hl fr 0 [] [] es he hs hw es.length 0 true [] (by omega) (by simp) (fun x hx => by cases hx)).dg
def five : Ex := .mk 1 [] [] 0 (1, (5, ([], ()))) []
def pos0 : Ex := .mk 3 [] [] 0 (0, (0, ([], ()))) []
def eq5 : Ex := .mk 10 [] [] 0 (0, (0, ([], ()))) [pos0, five]
theorem small_five (d : Nat) : SmallD (d + 1) five := .mk _ _ _ _ _ _ _ (Nat.zero_le 3) (Nat.zero_le 200) (fun _ h => nomatch h)
theorem small_pos0 (d : Nat) : SmallD (d + 1) pos0 := .mk _ _ _ _ _ _ _ (Nat.zero_le 3) (Nat.zero_le 200) (fun _ h => nomatch h)
theorem small_eq5 : SmallD 2 eq5 := .mk _ _ _ _ _ _ _ (show 2 ≤ 3 by omega) (Nat.zero_le 200) (fun x h => by
  rcases List.mem_cons.1 h with rfl | h
  · exact small_pos0 0
  · rw [List.mem_singleton.1 h]; exact small_five 0)
theorem wfS_nil : wfS [] := ⟨Nat.zero_le _, fun x h => by cases h⟩
theorem wf_eq5 : wfE eq5 := by
  have h5 : wfE five := by unfold five wfE; exact ⟨rfl, wfS_nil, wfS_nil, rfl, ⟨rfl, rfl, wfS_nil⟩, Nat.zero_le _, by unfold wfEs; trivial⟩
  have h0 : wfE pos0 := by unfold pos0 wfE; exact ⟨rfl, wfS_nil, wfS_nil, rfl, ⟨rfl, rfl, wfS_nil⟩, Nat.zero_le _, by unfold wfEs; trivial⟩
  unfold eq5 wfE
  refine ⟨rfl, wfS_nil, wfS_nil, rfl, ⟨rfl, rfl, wfS_nil⟩, by decide, ?_⟩
  unfold wfEs
  refine ⟨h0, ?_⟩
  unfold wfEs
  refine ⟨h5, ?_⟩
  unfold wfEs; trivial
def tab5 : TabT := (1, ([], ([([107], (1, (false, ())))], (0, ([], ())))))
theorem choose5 : chooseM tab5 0 ([eq5].flatMap partsL) = (-1, ([2, 128, 0, 0, 0, 0, 0, 0, 1, 2, 128, 0, 0, 0, 0, 0, 0, 0, 2, 128, 0, 0, 0, 0, 0, 0, 5], [2, 128, 0, 0, 0, 0, 0, 0, 1, 2, 128, 0, 0, 0, 0, 0, 0, 0, 2, 128, 0, 0, 0, 0, 0, 0, 6])) := by rfl
theorem awake23 : Ev (fun k => law23_awake k) (true, ()) := by
  simp only [law23_awake_eq]
  have h := choose_ev (t := tab5) (i64_of (by decide) (by decide)) (Nat.zero_le _) 0 [eq5] (show 1 ≤ 10 by omega) (fun x hx => by rw [List.mem_singleton.1 hx]; exact ⟨2, by omega, small_eq5⟩) (fun x hx => by rw [List.mem_singleton.1 hx]; exact wf_eq5)
  rw [choose5] at h
  refine Ev.bind h ?_
  exact .from 0 fun k => rfl
theorem refput_loop (k : Nat) {u w : Nat} (hu : u < 18446744073709551616) (hw : w ≤ 8) : ∀ n j b, j ≤ w → w - j < n → ref01_Put_l0 k n ((u / 256 ^ j : Nat) : Int) (w : Int) b (be j u) (j : Int) = some (be w u, ())
  | 0, _, _, _, h => absurd h (Nat.not_lt_zero _)
  | n + 1, j, b, hj, hn => by
    rw [ref01_Put_l0_eq]
    by_cases c : j < w
    · have e1 : Int.tmod ((u / 256 ^ j : Nat) : Int) 256 = ((u / 256 ^ j % 256 : Nat) : Int) := rfl
      have e2 : Int.tdiv ((u / 256 ^ j : Nat) : Int) 256 = ((u / 256 ^ j / 256 : Nat) : Int) := rfl
      have hm := Nat.mod_lt (u / 256 ^ j) (show 0 < 256 by decide)
      have hd := Nat.div_le_self u (256 ^ j)
      have hd2 := Nat.div_le_self (u / 256 ^ j) 256
      have e3 : u / 256 ^ j / 256 = u / 256 ^ (j + 1) := by rw [Nat.pow_succ, Nat.div_div_eq_div_mul]
      generalize hq : u / 256 ^ j = q at *
      rw [bif_true (by simp; omega), lim_ok (by rw [be_length]; simp; omega), e1, e2, wr_u8 (by omega), wr_u64 (by omega), wr_i64 (by omega), e3]
      subst hq
      exact refput_loop k hu hw n (j + 1) false c (by omega)
    · have : j = w := by omega
      subst this
      rw [bif_false (by simp)]
theorem ref01_Put_is (k : Nat) {u w : Nat} (hu : u < 18446744073709551616) (hw : w ≤ 8) : ref01_Put (k + 10) (u : Int) (w : Int) = some (be w u, ()) := by
  rw [ref01_Put_eq, bif_false (by simp), bif_false (by simp; omega)]
  have := refput_loop (k + 10) hu hw (k + 10) 0 true (by omega) (by omega)
  rw [Nat.pow_zero, Nat.div_one] at this
  exact this
/-! ### The document's key -/
theorem rFlip_is (k : Nat) {a : Int} (h : -9223372036854775808 ≤ a ∧ a ≤ 9223372036854775807) : ref01_Flip k a = some (a + 9223372036854775808, ()) := by
  rw [ref01_Flip_eq]
  by_cases c : 0 ≤ a
  · rw [bt c, wr_u64 (n := a) (by omega), wr_u64 (by omega)]
  · rw [bf c, wr_i64 (by omega), wr_u64 (by omega)]
    congr 2 <;> omega
theorem rKey_l1 (k n : Nat) (l : List ValT) (len j c d : Int) {s : List Int} (hs : s.length ≤ 400) : ∀ n1 i b out, i ≤ s.length → s.length - i < n1 → List.length out + 2 * (s.length - i) ≤ 60000000 →
    ∃ b', ref01_Key_l1 (k + 1) n n1 b out (i : Int) l len j c d s = ref01_Key_j2 (k + 1) n b' (out ++ (esc (s.drop i) ++ [0, 1])) l len j
  | 0, _, _, _, _, h, _ => absurd h (Nat.not_lt_zero _)
  | n1 + 1, i, b, out, hi, hn, ho => by
    rw [ref01_Key_l1_eq]
    by_cases e : i < s.length
    · have hx := List.getElem?_eq_getElem e
      have hd : s.drop i = s[i] :: s.drop (i + 1) := List.drop_eq_getElem_cons e
      rw [bt (by omega), nth_get hx, Option.bind_some, lim_ok (by simp; omega), Option.bind_some, hd, esc_cons]
      by_cases e0 : s[i] = 0
      · rw [bt e0, if_pos e0, lim_ok (by simp; omega), ref01_Key_j1_eq, wr_next e (by omega)]
        obtain ⟨b', h⟩ := rKey_l1 k n l len j c d hs n1 (i + 1) ((b && [s[i]].isEmpty) && [(255 : Int)].isEmpty) ((out ++ [s[i]]) ++ [(255 : Int)]) e (by omega) (by simp; omega)
        refine ⟨b', h.trans ?_⟩
        simp
      · rw [bf e0, if_neg e0, ref01_Key_j1_eq, wr_next e (by omega)]
        obtain ⟨b', h⟩ := rKey_l1 k n l len j c d hs n1 (i + 1) (b && [s[i]].isEmpty) (out ++ [s[i]]) e (by omega) (by simp; omega)
        refine ⟨b', h.trans ?_⟩
        simp
    · have : i = s.length := by omega
      subst this
      rw [bf (by omega), lim_ok (by simp; omega), List.drop_length]
      exact ⟨_, rfl⟩
theorem rKey_loop (k : Nat) {l : List ValT} (hl : ∀ v ∈ l, valOk v) (hlen : l.length ≤ 400) : ∀ n j b out, j ≤ l.length → l.length - j < n → List.length out + 1000 * (l.length - j) ≤ 50000000 →
    ref01_Key_l0 (k + 500) n b out l (l.length : Int) (j : Int) = some (out ++ (l.drop j).flatMap encV, ())
  | 0, _, _, _, _, h, _ => absurd h (Nat.not_lt_zero _)
  | n + 1, j, b, out, hj, hn, ho => by
    rw [ref01_Key_l0_eq]
    by_cases d : j < l.length
    · have hx := List.getElem?_eq_getElem d
      have hd : l.drop j = l[j] :: l.drop (j + 1) := List.drop_eq_getElem_cons d
      have hv := hl _ (List.getElem_mem d)
      have hle := encV_length hv
      rw [bt (by omega), nth_get hx, Option.bind_some, hd, List.flatMap_cons]
      generalize l[j] = v at *
      have next : ∀ b', ref01_Key_j0 (k + 500) n b' (out ++ encV v) l (l.length : Int) (j : Int) = some (out ++ (encV v ++ (l.drop (j + 1)).flatMap encV), ()) := by
        intro b'
        show ref01_Key_j0 (k + 499 + 1) n _ _ _ _ _ = _
        rw [ref01_Key_j0_eq, wr_next d (by omega)]
        have := rKey_loop k hl hlen n (j + 1) b' (out ++ encV v) d (by omega) (by simp; omega)
        rw [List.append_assoc] at this
        exact this
      have next2 : ∀ b', ref01_Key_j2 (k + 500) n b' (out ++ encV v) l (l.length : Int) (j : Int) = some (out ++ (encV v ++ (l.drop (j + 1)).flatMap encV), ()) := by
        intro b'
        show ref01_Key_j2 (k + 499 + 1) n _ _ _ _ _ = _
        rw [ref01_Key_j2_eq]
        exact next b'
      by_cases c1 : v.1 = 1
      · have he : encV v = 2 :: be 8 (v.2.1 + 9223372036854775808).toNat := if_pos c1
        obtain ⟨u, hu⟩ := Int.eq_ofNat_of_zero_le (show 0 ≤ v.2.1 + 9223372036854775808 by have := hv.1; omega)
        have hu2 : u < 18446744073709551616 := by have := hv.1; omega
        rw [bt c1, lim_ok (by simp; omega), rFlip_is _ hv.1, Option.bind_some, hu, show ref01_Put (k + 500) (u : Int) (8 : Int) = _ from ref01_Put_is (k + 490) (u := u) (w := 8) hu2 (by omega), Option.bind_some, lim_ok (by simp [be_length]; omega)]
        have e2 : (out ++ [(2 : Int)]) ++ be 8 u = out ++ encV v := by rw [he, hu]; simp
        rw [e2]
        exact next _
      rw [bf c1]
      by_cases c2 : v.1 = 2
      · have he : encV v = 3 :: (esc v.2.2.1 ++ [0, 1]) := by unfold encV; rw [if_neg c1, if_pos c2]
        have hs := hv.2
        obtain ⟨b', h⟩ := rKey_l1 (k + 499) n l (l.length : Int) (j : Int) v.1 v.2.1 hs (k + 500) 0 (b && [(3 : Int)].isEmpty) (out ++ [(3 : Int)]) (by omega) (by omega) (by simp; omega)
        rw [bt c2, lim_ok (by simp; omega)]
        refine h.trans ?_
        have e2 : (out ++ [(3 : Int)]) ++ (esc (v.2.2.1.drop 0) ++ [0, 1]) = out ++ encV v := by rw [he]; simp
        rw [e2]
        exact next2 _
      · have he : encV v = [1] := by unfold encV; rw [if_neg c1, if_neg c2]
        rw [bf c2, lim_ok (by simp; omega), ← he]
        exact next2 _
    · have : j = l.length := by omega
      subst this
      rw [bf (by omega), List.drop_length]
      simp
theorem key_ev {l : List ValT} (hl : ∀ v ∈ l, valOk v) (hlen : l.length ≤ 400) : Ev (fun k => ref01_Key k l) (l.flatMap encV, ()) := .from 500 fun k => by
  rw [ref01_Key_eq]
  have := rKey_loop k hl hlen (k + 500) 0 true [] (by omega) (by omega) (by simp; omega)
  simpa using this
theorem refNext_l0 (k : Nat) {l : List Int} (hl : l.length ≤ 1000000) (hw : Byt l) : ∀ n j, j ≤ l.length → j < n → ref01_Next_l0 k n l (j : Int) = some (nx (l.take j), ())
  | 0, _, _, h => absurd h (Nat.not_lt_zero _)
  | n + 1, 0, _, _ => by
    rw [ref01_Next_l0_eq, bf (by omega), bt (by omega)]; rfl
  | n + 1, j + 1, hj, hn => by
    have hlt : j < l.length := hj
    have e : wr .i64 (((j + 1 : Nat) : Int) - 1) = (j : Int) := by rw [wr_i64 (by omega)]; omega
    rw [ref01_Next_l0_eq, bt (by omega), e, nth_get (List.getElem?_eq_getElem hlt), Option.bind_some, take_snoc hlt]
    have hx := wf_u8 (hw _ (List.getElem_mem hlt))
    by_cases c : l[j] = 255
    · rw [bt c, c, nx_255]
      exact refNext_l0 k hl hw n j (by omega) (by omega)
    · have ht : (l.take (j + 1)).length = j + 1 := by simp; omega
      have hg : (l.take (j + 1))[j]? = some l[j] := by rw [List.getElem?_take_of_lt (by omega)]; exact List.getElem?_eq_getElem hlt
      rw [bf c, bf (by omega), nx_c c, cut_all (by omega), Option.bind_some, ht, lim_ok (by omega)]
      rw [Int.toNat_natCast, hg, Option.bind_some, must_true (inI_t (by omega) (by omega)), must_true (inI_t (by omega) (by omega)), must_true (blt_t (by omega)), wr_u8 (by omega), take_snoc hlt, List.set_append_right _ _ (by simp; omega)]
      have : j - (l.take j).length = 0 := by simp; omega
      rw [this]; rfl
theorem refNext_ev {l : List Int} (hl : l.length ≤ 1000000) (hw : Byt l) : Ev (fun k => ref01_Next k l) (nx l, ()) := by
  refine ⟨l.length + 1, fun k hk => ?_⟩
  show ref01_Next k l = _
  rw [ref01_Next_eq, refNext_l0 k hl hw k l.length (by omega) (by omega), List.take_length]
theorem und_ok {t : TabT} (ht : I64 t.1) {n : Int} (hn : I64 n) : (∀ v ∈ [wv t.1, wv n], valOk v) ∧ (tundK t n).length ≤ 1000000 := by
  have hv : ∀ v ∈ [wv t.1, wv n], valOk v := by
    intro v hv
    simp only [List.mem_cons, List.not_mem_nil, or_false] at hv
    rcases hv with rfl | rfl
    · exact wv_ok ht
    · exact wv_ok hn
  have hlen := flat_len _ hv
  exact ⟨hv, by unfold tundK; simp at hlen ⊢; omega⟩
theorem refrows_ev {t : TabT} (ht : I64 t.1) : Ev (fun k => ref21_Rows k t) ((tundK t 0, (nx (tundK t 0), ())), ((tundK t 0, (nx (tundK t 0), ())), ())) := by
  simp only [ref21_Rows_eq, ref21_n_eq, Option.bind_some]
  have hn : I64 0 := by constructor <;> decide
  obtain ⟨hv, hl⟩ := und_ok ht hn
  exact .bind (F := fun k => ref01_Key k [wv t.1, wv 0]) (key_ev hv (by simp)) (.bind (F := fun k => ref01_Next k (tundK t 0)) (refNext_ev hl (tundK_byt ht hn)) .ret)
theorem refindex_ev {t : TabT} (ht : I64 t.1) (hl : t.2.2.2.2.1.length ≤ 1000) (i : Int) : Ev (fun k => ref21_Index k t i) (indS t i, (indS t i, ())) := by
  simp only [ref21_Index_eq]
  unfold indS idxV
  by_cases c : i < 0
  · simp only [bt c, if_pos c]; exact .ret
  by_cases c2 : (t.2.2.2.2.1.length : Int) ≤ i
  · simp only [bf c, bt c2, if_neg c]
    rw [List.getElem?_eq_none (by omega)]; exact .ret
  obtain ⟨j, rfl⟩ := Int.eq_ofNat_of_zero_le (show 0 ≤ i by omega)
  have hj : j < t.2.2.2.2.1.length := by omega
  have hx := List.getElem?_eq_getElem hj
  simp only [bf c, bf c2, if_neg c, Int.toNat_natCast, hx, ref21_n_eq, Option.bind_some]
  rw [wr_i64 (by omega)]
  have hn : I64 ((j : Int) + 1) := ⟨by omega, by omega⟩
  obtain ⟨hv, hl2⟩ := und_ok ht hn
  exact .bind (F := fun k => ref01_Key k [wv t.1, wv ((j : Int) + 1)]) (key_ev hv (by simp)) (.bind (F := fun k => ref01_Next k (tundK t ((j : Int) + 1))) (refNext_ev hl2 (tundK_byt ht hn)) .ret)
def oL : Option VT → List VT
  | none => []
  | some v => [v]
theorem refparts_ev : ∀ {d : Nat} {e : Ex}, SmallD d e → d ≤ 20 → Ev (fun k => ref21_Parts k e.un) (partsL e, ())
  | d, .mk op t n m v es, h, hd => by
    by_cases c : op = 17 ∧ es.length = 2
    · obtain ⟨c1, c2⟩ := c
      cases h with
      | mk d _ _ _ _ _ _ h1 h2 h3 =>
      match es, c2, h3 with
      | [a, b], _, h3 =>
        obtain ⟨K, hK⟩ := refparts_ev (h3 a (by simp)) (by omega)
        obtain ⟨L, hL⟩ := refparts_ev (h3 b (by simp)) (by omega)
        have la := partsL_len (h3 a (by simp))
        have lb := partsL_len (h3 b (by simp))
        have hp : 2 ^ d ≤ 2 ^ 20 := Nat.pow_le_pow_right (by omega) (by omega)
        refine ⟨K + L + 1, fun k hk => ?_⟩
        obtain ⟨i, rfl⟩ : ∃ i, k = i + 1 := ⟨k - 1, by omega⟩
        show ref21_Parts (i + 1) _ = _
        rw [ref21_Parts_succ, ref21_Parts_b_eq]
        show (bif (decide (op = 17)) then (bif (decide ((([a, b] : List Ex).length : Int) = 2)) then (ref21_Parts i a.un).bind fun r => lim (0 + r.1.length) ((ref21_Parts i b.un).bind fun s => lim (([] ++ r.1).length + s.1.length) _) else _) else _) = _
        rw [bt c1, bt (show (([a, b] : List Ex).length : Int) = 2 from rfl)]
        refine (congrArg (fun o => Option.bind o _) (hK i (by omega))).trans ?_
        rw [Option.bind_some]
        show lim (0 + (partsL a).length) _ = _
        rw [lim_L (by omega)]
        refine (congrArg (fun o => Option.bind o _) (hL i (by omega))).trans ?_
        rw [Option.bind_some]
        show lim (([] ++ partsL a).length + (partsL b).length) (some ((([] ++ partsL a) ++ partsL b), ())) = _
        rw [List.nil_append, lim_L (by omega), partsL_and c1]
    · have hp : partsL (.mk op t n m v es) = [.mk op t n m v es] := by
        match es, c with
        | [a, b], c => unfold partsL; rw [if_neg (fun h => c ⟨h, rfl⟩)]
        | [], _ => rfl
        | [_], _ => rfl
        | _ :: _ :: _ :: _, _ => rfl
      refine .from 1 fun k => ?_
      rw [ref21_Parts_succ, ref21_Parts_b_eq, hp]
      show (bif (decide (op = 17)) then (bif (decide ((es.length : Int) = 2)) then _ else _) else _) = _
      by_cases c1 : op = 17
      · rw [bt c1, bf (show ¬ ((es.length : Int) = 2) by omega)]; rfl
      · rw [bf c1]; rfl
def pkRd (r : BndT) : (List VT × (List VT × (Bool × Unit))) × Unit := ((oL r.1, (oL r.2.1, (r.2.2, ()))), ())
theorem refbnd_j0 (k n : Nat) (v : VT) (op : Int) (low high : Bool) (w1 w2 : List Int) (w3 w4 w5 : Int) (w6 : List Int) (w7 : List Ex) (c0 : Bool) : ref21_Bounds_j0 (k + 1) n c0 [v] low high op w1 w2 w3 w4 w5 w6 w7 =
    some (pkRd (if op = 10 then (some v, some v, true) else if low = true then (some v, none, true) else if high = true then (none, some v, true) else (none, none, false))) := by
  rw [ref21_Bounds_j0_eq]
  by_cases c : op = 10
  · rw [bt c, if_pos c]; rfl
  rw [bf c, if_neg c]
  cases low
  · rw [cond_false, if_neg (by simp)]
    cases high
    · rfl
    · rfl
  · rfl
theorem refbnd_side (k n : Nat) (p : Int) (side : Int) (hs : side = 0 ∨ side = 1) (x : ExD) (a b : Ex) (ha : nth x.2.2.2.2.2.1 side = some a) (hb : nth x.2.2.2.2.2.1 (wr .i64 (1 - side)) = some b) :
    ref21_Bounds_l0 (k + 1) (n + 1) p side x.1 x.2.1 x.2.2.1 x.2.2.2.1 x.2.2.2.2.1.1 x.2.2.2.2.1.2.1 x.2.2.2.2.1.2.2.1 x.2.2.2.2.2.1 =
      if isM a.un p = true then some (pkRd (litB (if side = 1 then turnM x.1 else x.1) p a.un b.un)) else ref21_Bounds_l0 (k + 1) n p (wr .i64 (side + 1)) x.1 x.2.1 x.2.2.1 x.2.2.2.1 x.2.2.2.2.1.1 x.2.2.2.2.1.2.1 x.2.2.2.2.1.2.2.1 x.2.2.2.2.2.1 := by
  rw [ref21_Bounds_l0_eq, bt (by omega), twoW_self, ha, hb, Option.bind_some, Option.bind_some]
  simp only [refbnd_j0]
  by_cases h1 : a.un.1 = 3
  case neg =>
    have hm : ¬ isM a.un p = true := by unfold isM; simp [h1]
    rw [dF h1, if_neg hm]; rfl
  rw [dT h1, Bool.not_true, cond_false]
  by_cases h2 : a.un.2.2.2.1 = p
  case neg =>
    have hm : ¬ isM a.un p = true := by unfold isM; simp [h2]
    rw [dF h2, if_neg hm]; rfl
  have hm : isM a.un p = true := dT (And.intro h1 h2)
  rw [dT h2, Bool.not_true, cond_false, if_pos hm]
  unfold litB
  by_cases h3 : b.un.1 = 1
  case neg => rw [dF h3, if_neg (show ¬ (isM a.un p = true ∧ b.un.1 = 1 ∧ b.un.2.2.2.2.1.1 ≠ 0) from fun q => h3 q.2.1)]; rfl
  rw [dT h3, Bool.not_true, cond_false]
  by_cases h4 : b.un.2.2.2.2.1.1 = 0
  case pos => rw [bt h4, if_neg (show ¬ (isM a.un p = true ∧ b.un.1 = 1 ∧ b.un.2.2.2.2.1.1 ≠ 0) from fun q => q.2.2 h4)]; rfl
  rw [bf h4, if_pos (show isM a.un p = true ∧ b.un.1 = 1 ∧ b.un.2.2.2.2.1.1 ≠ 0 from ⟨hm, h3, h4⟩), show ((b.un.2.2.2.2.1.1, (b.un.2.2.2.2.1.2.1, (b.un.2.2.2.2.1.2.2.1, ()))) : VT) = b.un.2.2.2.2.1 from rfl]
  generalize b.un.2.2.2.2.1 = v
  rcases hs with rfl | rfl
  · rw [if_neg (show ¬ (0 : Int) = 1 by omega)]
    by_cases c10 : x.1 = 10
    · simp [c10]
    by_cases c12 : x.1 = 12
    · simp [c12]
    by_cases c13 : x.1 = 13
    · simp [c13]
    by_cases c14 : x.1 = 14
    · simp [c14]
    by_cases c15 : x.1 = 15
    · simp [c15]
    simp [c10, c12, c13, c14, c15]
  · rw [if_pos rfl]
    unfold turnM
    by_cases c10 : x.1 = 10
    · simp [c10]
    by_cases c12 : x.1 = 12
    · simp [c12]
    by_cases c13 : x.1 = 13
    · simp [c13]
    by_cases c14 : x.1 = 14
    · simp [c14]
    by_cases c15 : x.1 = 15
    · simp [c15]
    simp [c10, c12, c13, c14, c15]
theorem bndM_two {x : ExD} {p : Int} {a b : Ex} (h : x.2.2.2.2.2.1 = [a, b]) : bndM x p = if isM a.un p = true then litB x.1 p a.un b.un else litB (turnM x.1) p b.un a.un := by
  unfold bndM; rw [h]
theorem bndM_not {x : ExD} {p : Int} (h : x.2.2.2.2.2.1.length ≠ 2) : bndM x p = (none, none, false) := by
  unfold bndM
  split
  · rename_i a b he; rw [he] at h; exact absurd rfl h
  · rfl
theorem two_of {l : List Ex} (h : l.length = 2) : ∃ a b, l = [a, b] := by
  match l, h with
  | [a, b], _ => exact ⟨a, b, rfl⟩
theorem refbnd_is (k : Nat) (x : ExD) (p : Int) : ref21_Bounds (k + 3) x p = some (pkRd (bndM x p)) := by
  rw [ref21_Bounds_eq]
  by_cases hl : x.2.2.2.2.2.1.length = 2
  · obtain ⟨a, b, hx⟩ := two_of hl
    rw [dT (by omega), Bool.not_true, cond_false, bndM_two hx]
    have e0 := refbnd_side (k + 2) (k + 2) p 0 (.inl rfl) x a b (by rw [hx]; rfl) (by rw [hx]; rfl)
    have e1 := refbnd_side (k + 2) (k + 1) p 1 (.inr rfl) x b a (by rw [hx]; rfl) (by rw [hx]; rfl)
    refine e0.trans ?_
    by_cases h : isM a.un p = true
    · rw [if_pos h, if_pos h]; rfl
    · rw [if_neg h, if_neg h]
      refine e1.trans ?_
      by_cases h2 : isM b.un p = true
      · rw [if_pos h2]; rfl
      · rw [if_neg h2, ref21_Bounds_l0_eq, bf (show ¬ (wr .i64 ((1 : Int) + 1)) < 2 by decide)]
        unfold litB
        rw [if_neg (fun q => h2 q.1)]; rfl
  · rw [dF (by omega), bndM_not hl]; rfl
/-- The first of them that tells both bounds; the first lower one; the first upper one. -/
def fE (p : Int) : List Ex → Option (VT × VT)
  | [] => none
  | e :: r => match bndM e.un p with
    | (some a, some b, _) => some (a, b)
    | _ => fE p r
def orO : Option VT → Option VT → Option VT
  | some a, _ => some a
  | none, b => b
def fL (p : Int) : List Ex → Option VT
  | [] => none
  | e :: r => orO (bndM e.un p).1 (fL p r)
def fH (p : Int) : List Ex → Option VT
  | [] => none
  | e :: r => orO (bndM e.un p).2.1 (fH p r)
theorem litB_ok {op p : Int} {a b : ExD} : (litB op p a b).2.2 = false → (litB op p a b).1 = none ∧ (litB op p a b).2.1 = none := by
  unfold litB
  split
  · split
    · intro h; cases h
    · split
      · intro h; cases h
      · split
        · intro h; cases h
        · exact fun _ => ⟨rfl, rfl⟩
  · exact fun _ => ⟨rfl, rfl⟩
theorem bndM_ok {x : ExD} {p : Int} (h : (bndM x p).2.2 = false) : (bndM x p).1 = none ∧ (bndM x p).2.1 = none := by
  by_cases hl : x.2.2.2.2.2.1.length = 2
  · obtain ⟨a, b, hx⟩ := two_of hl
    rw [bndM_two hx] at h ⊢
    by_cases hm : isM a.un p = true
    · rw [if_pos hm] at h ⊢; exact litB_ok h
    · rw [if_neg hm] at h ⊢; exact litB_ok h
  · rw [bndM_not hl]; exact ⟨rfl, rfl⟩
theorem bddM_eq (p : Int) : ∀ (es : List Ex) (lo hi : Option VT), bddM es p lo hi = match fE p es with
    | some (a, b) => (some a, some b)
    | none => (orO lo (fL p es), orO hi (fH p es))
  | [], lo, hi => by cases lo <;> cases hi <;> rfl
  | e :: r, lo, hi => by
    have ih := fun lo hi => bddM_eq p r lo hi
    have hk := bndM_ok (x := e.un) (p := p)
    unfold bddM fE fL fH
    generalize bndM e.un p = q at hk
    obtain ⟨a, b, ok⟩ := q
    cases ok with
    | false =>
      obtain ⟨h1, h2⟩ := hk rfl
      have h1 : a = none := h1
      have h2 : b = none := h2
      subst h1 h2
      exact ih lo hi
    | true =>
      cases a with
      | none =>
        cases b with
        | none => exact ih lo hi
        | some w => cases hi with
          | none =>
            refine (ih lo (some w)).trans ?_
            show (match fE p r with | some (a, b) => _ | none => _) = (match fE p r with | some (a, b) => _ | none => _)
            cases fE p r <;> rfl
          | some h =>
            refine (ih lo (some h)).trans ?_
            show (match fE p r with | some (a, b) => _ | none => _) = (match fE p r with | some (a, b) => _ | none => _)
            cases fE p r <;> rfl
      | some v =>
        cases b with
        | none => cases lo with
          | none =>
            refine (ih (some v) hi).trans ?_
            show (match fE p r with | some (a, b) => _ | none => _) = (match fE p r with | some (a, b) => _ | none => _)
            cases fE p r <;> rfl
          | some l =>
            refine (ih (some l) hi).trans ?_
            show (match fE p r with | some (a, b) => _ | none => _) = (match fE p r with | some (a, b) => _ | none => _)
            cases fE p r <;> rfl
        | some w => rfl
def pkRb (r : Option VT × Option VT) : (List VT × (List VT × Unit)) × Unit := ((oL r.1, (oL r.2, ())), ())
theorem oL_len (o : Option VT) : (0 < ((oL o).length : Int)) ↔ o.isSome = true := by cases o <;> simp [oL]
theorem orO_none (o : Option VT) : orO o none = o := by cases o <;> rfl
theorem orO_assoc (a b c : Option VT) : orO (orO a b) c = orO a (orO b c) := by cases a <;> rfl
theorem fL_snoc (p : Int) (e : Ex) : ∀ l, fL p (l ++ [e]) = orO (fL p l) (bndM e.un p).1
  | [] => by show orO (bndM e.un p).1 none = orO none _; rw [orO_none]; rfl
  | x :: l => by show orO _ (fL p (l ++ [e])) = orO (orO _ (fL p l)) _; rw [fL_snoc p e l, orO_assoc]
theorem fH_snoc (p : Int) (e : Ex) : ∀ l, fH p (l ++ [e]) = orO (fH p l) (bndM e.un p).2.1
  | [] => by show orO (bndM e.un p).2.1 none = orO none _; rw [orO_none]; rfl
  | x :: l => by show orO _ (fH p (l ++ [e])) = orO (orO _ (fH p l)) _; rw [fH_snoc p e l, orO_assoc]
theorem refbdd_l1 (es : List Ex) (p : Int) (hl : es.length ≤ 9223372036854775807) : ∀ j, j ≤ es.length → ∀ lo hi, Ev2 (fun k n => ref21_bounded_l1 k n es p (oL lo) (oL hi) ((j : Int) - 1)) (pkRb (orO (fL p (es.take j)) lo, orO (fH p (es.take j)) hi))
  | 0, hj, lo, hi => by
    refine .up ?_
    simp only [ref21_bounded_l1_eq, bf (show ¬ (0 : Int) ≤ ((0 : Nat) : Int) - 1 by omega)]
    rw [List.take_zero]; exact .ret
  | j + 1, hj, lo, hi => by
    have hx : es[j]? = some es[j] := List.getElem?_eq_getElem (by omega)
    have ih := fun lo hi => refbdd_l1 es p hl j (by omega) lo hi
    have ihk : ∀ lo hi, Ev2 (fun k n => ref21_bounded_l1 (k + 3) n es p (oL lo) (oL hi) ((j : Int) - 1)) (pkRb (orO (fL p (es.take j)) lo, orO (fH p (es.take j)) hi)) := fun lo hi => by
      obtain ⟨K, hK⟩ := ih lo hi
      exact ⟨K, fun k n hk hn => hK (k + 3) n (by omega) hn⟩
    have e : wr .i64 ((j : Int) - 1) = (j : Int) - 1 := wr_i64 (by omega)
    have en : ((j + 1 : Nat) : Int) - 1 = (j : Int) := by omega
    have tk : es.take (j + 1) = es.take j ++ [es[j]] := List.take_succ_eq_append_getElem (by omega)
    rw [tk, fL_snoc, fH_snoc, orO_assoc, orO_assoc]
    refine .up (.upk (.upk (.upk ?_)))
    rw [en]
    have hb : ∀ k, ref21_Bounds (k + 1 + 1 + 1) es[j].un p = some (pkRd (bndM es[j].un p)) := fun k => refbnd_is k es[j].un p
    simp only [ref21_bounded_l1_eq, bt (show (0 : Int) ≤ (j : Int) by omega), nth_get hx, Option.bind_some, hb, ref21_bounded_j0_eq, ref21_bounded_j1_eq, e]
    generalize bndM es[j].un p = r
    obtain ⟨a, b, ok⟩ := r
    cases a with
    | none =>
      cases b with
      | none =>
        have := ihk lo hi
        simp only [pkRd, oL, List.length_nil, bf (show ¬ (0 : Int) < ((0 : Nat) : Int) by omega)] at this ⊢
        exact this
      | some w =>
        have := ihk lo (some w)
        simp only [pkRd, oL, List.length_nil, List.length_singleton, bf (show ¬ (0 : Int) < ((0 : Nat) : Int) by omega), bt (show (0 : Int) < ((1 : Nat) : Int) by omega)] at this ⊢
        exact this
    | some v =>
      cases b with
      | none =>
        have := ihk (some v) hi
        simp only [pkRd, oL, List.length_nil, List.length_singleton, bf (show ¬ (0 : Int) < ((0 : Nat) : Int) by omega), bt (show (0 : Int) < ((1 : Nat) : Int) by omega)] at this ⊢
        exact this
      | some w =>
        have := ihk (some v) (some w)
        simp only [pkRd, oL, List.length_singleton, bt (show (0 : Int) < ((1 : Nat) : Int) by omega)] at this ⊢
        exact this
theorem refbdd_l0 (es : List Ex) (p : Int) (hl : es.length ≤ 9223372036854775807) : ∀ m j, j + m = es.length → Ev2 (fun k n => ref21_bounded_l0 k n es p es (es.length : Int) (j : Int)) (pkRb (match fE p (es.drop j) with
    | some (a, b) => (some a, some b)
    | none => (fL p es, fH p es)))
  | 0, j, hj => by
    refine .up ?_
    simp only [ref21_bounded_l0_eq, bf (show ¬ (j : Int) < es.length by omega)]
    rw [List.drop_eq_nil_of_le (by omega)]
    have := refbdd_l1 es p hl es.length (Nat.le_refl _) none none
    rw [List.take_length, orO_none, orO_none] at this
    have e : wr .i64 ((es.length : Int) - 1) = (es.length : Int) - 1 := wr_i64 (by omega)
    rw [e]
    exact this.dg.e2
  | m + 1, j, hj => by
    have hx : es[j]? = some es[j] := List.getElem?_eq_getElem (by omega)
    have e : wr .i64 ((j : Int) + 1) = ((j + 1 : Nat) : Int) := wr_nx (show j < es.length by omega) hl
    have ih := refbdd_l0 es p hl m (j + 1) (by omega)
    obtain ⟨K, hK⟩ := ih
    have ihk : Ev2 (fun k n => ref21_bounded_l0 (k + 3) n es p es (es.length : Int) ((j + 1 : Nat) : Int)) _ := ⟨K, fun k n hk hn => hK (k + 3) n (by omega) hn⟩
    rw [List.drop_eq_getElem_cons (show j < es.length by omega)]
    unfold fE
    refine .up (.upk (.upk (.upk ?_)))
    have hb : ∀ k, ref21_Bounds (k + 1 + 1 + 1) (es[j].un.1, (es[j].un.2.1, (es[j].un.2.2.1, (es[j].un.2.2.2.1, ((es[j].un.2.2.2.2.1.1, (es[j].un.2.2.2.2.1.2.1, (es[j].un.2.2.2.2.1.2.2.1, ()))), (es[j].un.2.2.2.2.2.1, ())))))) p = some (pkRd (bndM es[j].un p)) := fun k => refbnd_is k es[j].un p
    simp only [ref21_bounded_l0_eq, bt (show (j : Int) < es.length by omega), nth_get hx, Option.bind_some, hb, e]
    have hk := bndM_ok (x := es[j].un) (p := p)
    generalize bndM es[j].un p = r at hk
    obtain ⟨a, b, ok⟩ := r
    cases ok with
    | false =>
      obtain ⟨h1, h2⟩ := hk rfl
      have h1 : a = none := h1
      have h2 : b = none := h2
      subst h1 h2
      exact ihk
    | true =>
      cases a with
      | none =>
        simp only [pkRd, oL, List.length_nil, cond_true, bf (show ¬ (0 : Int) < ((0 : Nat) : Int) by omega)]
        cases b <;> exact ihk
      | some v =>
        cases b with
        | none =>
          simp only [pkRd, oL, List.length_nil, List.length_singleton, cond_true, bf (show ¬ (0 : Int) < ((0 : Nat) : Int) by omega), bt (show (0 : Int) < ((1 : Nat) : Int) by omega)]
          exact ihk
        | some w =>
          simp only [pkRd, oL, List.length_singleton, cond_true, bt (show (0 : Int) < ((1 : Nat) : Int) by omega)]
          exact .ret
theorem refbdd_ev (es : List Ex) (p : Int) (hl : es.length ≤ 9223372036854775807) : Ev (fun k => ref21_bounded k es p) (pkRb (bddM es p none none)) := by
  simp only [ref21_bounded_eq]
  rw [bddM_eq]
  exact (refbdd_l0 es p hl es.length 0 (by omega)).dg
theorem refkey1 {v : VT} (h : GoodV v) : Ev (fun k => ref01_Key k [v]) (encV v, ()) := by
  have := key_ev (l := [v]) (by intro w hw; rw [List.mem_singleton.1 hw]; exact h.1) (by simp)
  rw [show [v].flatMap encV = encV v by simp] at this
  exact this
def hiM (p Hi : List Int) : Option VT → List Int
  | none => Hi
  | some v => nx (p ++ encV v)
theorem withinM_hi (s : List Int × List Int) (lo hi : Option VT) : withinM s lo hi = (s.1 ++ encO lo, hiM s.1 s.2 hi) := by cases hi <;> rfl
theorem refch_j1 (n : Nat) (i : Int) (hi : Option VT) (g : GoodO hi) (p : List Int) (hp : p.length ≤ 3000) (hb : Byt p) (w1 : Int) (w2 w3 Lo Hi : List Int) :
    Ev (fun k => ref21_Choose_j1 k n i (oL hi) p w1 w2 w3 Lo Hi) (pkC (i, (Lo, hiM p Hi hi))) := by
  refine .up ?_
  cases hi with
  | none =>
    refine .from 0 fun k => ?_
    show ref21_Choose_j1 (k + 1) n i [] p w1 w2 w3 Lo Hi = _
    rw [ref21_Choose_j1_eq, bf (show ¬ (0 : Int) < (([] : List VT).length : Int) by simp), ref21_Choose_j2_eq]; rfl
  | some v =>
    obtain ⟨K, hK⟩ := refkey1 (g v rfl)
    have hl : (encV v).length ≤ 1000 := encV_length (g v rfl).1
    obtain ⟨L, hL⟩ := refNext_ev (l := p ++ encV v) (by rw [List.length_append]; omega) (fun x hx => by
      rcases List.mem_append.1 hx with hx | hx
      · exact hb x hx
      · exact encV_bytes (g v rfl).1 (g v rfl).2 x hx)
    refine ⟨K + L, fun k hk => ?_⟩
    show ref21_Choose_j1 (k + 1) n i [v] p w1 w2 w3 Lo Hi = _
    rw [ref21_Choose_j1_eq, bt (show (0 : Int) < (([v] : List VT).length : Int) by simp)]
    refine (congrArg (fun o => Option.bind o _) (hK (k + 1) (by omega))).trans ?_
    rw [Option.bind_some]
    show lim (p.length + (encV v).length) _ = _
    rw [lim_L (by omega)]
    refine (congrArg (fun o => Option.bind o _) (hL (k + 1) (by omega))).trans ?_
    rw [Option.bind_some, ref21_Choose_j2_eq]; rfl
/-- One column looked at. -/
theorem refch_j0 (fr : Int) (nl : Bool) (ps : List Ex) (hps : ps.length ≤ 9223372036854775807) (hg : ∀ x ∈ ps, GE x) (i col : Int) (t : TabT) (s : List Int × List Int) (hp : s.1.length ≤ 3000) (hb : Byt s.1) (w1 : Int) (w2 w3 : List Int) (R : ChT)
    (next : Ev2 (fun k n => ref21_Choose_l1 k n fr nl ps (wr .i64 (i + 1)) t.1 t.2.1 t.2.2.1 t.2.2.2.1 t.2.2.2.2.1 w1 w2 w3) (pkC R)) :
    Ev2 (fun k n => ref21_Choose_j0 k n fr nl ps i col t.1 t.2.1 t.2.2.1 t.2.2.2.1 t.2.2.2.2.1 w1 w2 w3 s.1 s.2)
      (pkC (if (bddM ps (wr .i64 (fr + col)) none none).1.isSome = true ∨ (bddM ps (wr .i64 (fr + col)) none none).2.isSome = true then (i, withinM s (bddM ps (wr .i64 (fr + col)) none none).1 (bddM ps (wr .i64 (fr + col)) none none).2) else R)) := by
  refine .upk ?_
  simp only [ref21_Choose_j0_eq]
  obtain ⟨B, hB⟩ := refbdd_ev ps (wr .i64 (fr + col)) hps
  obtain ⟨g1, g2⟩ := bddM_good (wr .i64 (fr + col)) ps none none hg (fun v hv => by cases hv) (fun v hv => by cases hv)
  generalize bddM ps (wr .i64 (fr + col)) none none = b at g1 g2 hB
  obtain ⟨lo, hi⟩ := b
  have hB' : Ev2 (fun k (_ : Nat) => ref21_bounded (k + 1) ps (wr .i64 (fr + col))) (pkRb (lo, hi)) := ⟨B, fun k n hk _ => hB (k + 1) (by omega)⟩
  refine hB'.bind ?_
  have nxt : Ev2 (fun k n => ref21_Choose_l1 (k + 1) n fr nl ps (wr .i64 (i + 1)) t.1 t.2.1 t.2.2.1 t.2.2.2.1 t.2.2.2.2.1 w1 w2 w3) (pkC R) := by
    obtain ⟨K, hK⟩ := next
    exact ⟨K, fun k n hk hn => hK (k + 1) n (by omega) hn⟩
  have j1 : ∀ Lo, Ev2 (fun k n => ref21_Choose_j1 (k + 1) n i (oL hi) s.1 w1 w2 w3 Lo s.2) (pkC (i, (Lo, hiM s.1 s.2 hi))) := fun Lo => by
    obtain ⟨K, hK⟩ := refch_j1 0 i hi g2 s.1 hp hb w1 w2 w3 Lo s.2
    refine ⟨K, fun k n hk hn => ?_⟩
    have e : ∀ n, ref21_Choose_j1 (k + 1) n i (oL hi) s.1 w1 w2 w3 Lo s.2 = ref21_Choose_j1 (k + 1) 0 i (oL hi) s.1 w1 w2 w3 Lo s.2 := fun n => by
      simp only [ref21_Choose_j1_eq, ref21_Choose_j2_eq]
    exact (e n).trans (hK (k + 1) (by omega))
  cases lo with
  | none =>
    cases hi with
    | none =>
      rw [if_neg (by simp)]
      simp only [pkRb, oL, List.length_nil, show decide (wr .i64 (((0 : Nat) : Int) + ((0 : Nat) : Int)) = 0) = true from rfl, cond_true]
      exact nxt
    | some w =>
      rw [if_pos (.inr rfl)]
      have := j1 s.1
      simp only [pkRb, oL, List.length_nil, List.length_singleton, show decide (wr .i64 (((0 : Nat) : Int) + ((1 : Nat) : Int)) = 0) = false from rfl, cond_false, bf (show ¬ (0 : Int) < ((0 : Nat) : Int) by omega)] at this ⊢
      rw [withinM_hi, show s.1 ++ encO none = s.1 from List.append_nil _]
      exact this
  | some v =>
    have hl : (encV v).length ≤ 1000 := encV_length (g1 v rfl).1
    rw [if_pos (.inl rfl), withinM_hi]
    have jj := j1 (s.1 ++ encV v)
    obtain ⟨L, hL⟩ := refkey1 (g1 v rfl)
    obtain ⟨J, hJ⟩ := jj
    have c0 : decide (wr .i64 (((([v] : List VT).length : Nat) : Int) + ((oL hi).length : Int)) = 0) = false := by cases hi <;> rfl
    refine ⟨L + J, fun k n hk hn => ?_⟩
    show (bif decide (wr .i64 (((([v] : List VT).length : Nat) : Int) + ((oL hi).length : Int)) = 0) then _ else (bif decide (0 < ((([v] : List VT).length : Nat) : Int)) then (ref01_Key (k + 1) [v]).bind _ else _)) = _
    rw [c0, cond_false, bt (show (0 : Int) < (([v] : List VT).length : Int) by simp)]
    refine (congrArg (fun o => Option.bind o _) (hL (k + 1) (by omega))).trans ?_
    rw [Option.bind_some]
    show lim (s.1.length + (encV v).length) _ = _
    rw [lim_L (by omega)]
    exact hJ k n (by omega) (by omega)
theorem refch_idx {t : TabT} (ht : I64 t.1) (hl : t.2.2.2.2.1.length ≤ 1000) (fr : Int) (nl : Bool) (ps : List Ex) (hps : ps.length ≤ 9223372036854775807) (hg : ∀ x ∈ ps, GE x) (w1 : Int) (w2 w3 : List Int) :
    ∀ m j, j + m = t.2.2.2.2.1.length → Ev2 (fun k n => ref21_Choose_l1 k n fr nl ps (j : Int) t.1 t.2.1 t.2.2.1 t.2.2.2.1 t.2.2.2.2.1 w1 w2 w3) (pkC (idxM t fr ps (t.2.2.2.2.1.drop j) j))
  | 0, j, hj => by
    refine .up ?_
    simp only [ref21_Choose_l1_eq, bf (show ¬ (j : Int) < t.2.2.2.2.1.length by omega)]
    rw [List.drop_eq_nil_of_le (by omega)]
    exact (refrows_ev ht).e2.bind .ret
  | m + 1, j, hj => by
    have hx : t.2.2.2.2.1[j]? = some t.2.2.2.2.1[j] := List.getElem?_eq_getElem (by omega)
    have e : wr .i64 ((j : Int) + 1) = ((j + 1 : Nat) : Int) := wr_nx (show j < t.2.2.2.2.1.length by omega) (by omega)
    have ih := refch_idx ht hl fr nl ps hps hg w1 w2 w3 m (j + 1) (by omega)
    rw [List.drop_eq_getElem_cons (show j < t.2.2.2.2.1.length by omega)]
    unfold idxM
    refine .up ?_
    simp only [ref21_Choose_l1_eq, bt (show (j : Int) < t.2.2.2.2.1.length by omega), bt (show (0 : Int) ≤ (j : Int) by omega), nth_get hx, Option.bind_some]
    refine (refrows_ev ht).e2.bind ?_
    refine (refindex_ev ht hl (j : Int)).e2.bind ?_
    obtain ⟨i1, i2⟩ := indS_fst ht (i := (j : Int)) (by omega) hl
    exact refch_j0 fr nl ps hps hg j t.2.2.2.2.1[j] t (idxS t j) (by show (indS t j).1.length ≤ 3000; omega) i2 w1 w2 w3 _ (by rw [e]; exact ih)
theorem refch_end {t : TabT} (ht : I64 t.1) (hl : t.2.2.2.2.1.length ≤ 1000) (fr : Int) (nl : Bool) (ps : List Ex) (hps : ps.length ≤ 9223372036854775807) (hg : ∀ x ∈ ps, GE x) (w1 : Int) (w2 w3 : List Int) :
    Ev2 (fun k n => ref21_Choose_l1 k n fr nl ps (-1) t.1 t.2.1 t.2.2.1 t.2.2.2.1 t.2.2.2.2.1 w1 w2 w3) (pkC (chooseM t fr ps)) := by
  refine .up ?_
  simp only [ref21_Choose_l1_eq, bt (show (-1 : Int) < t.2.2.2.2.1.length by omega), bf (show ¬ (0 : Int) ≤ -1 by omega)]
  refine (refrows_ev ht).e2.bind ?_
  have h0 : I64 0 := i64_of (by omega) (by omega)
  have ih := refch_idx ht hl fr nl ps hps hg w1 w2 w3 t.2.2.2.2.1.length 0 (by omega)
  exact refch_j0 fr nl ps hps hg (-1) t.2.2.2.1 t (rowsS t) (by have := tund_len ht h0; show (tundK t 0).length ≤ 3000; omega) (tundK_byt ht h0) w1 w2 w3 _ (by rw [show wr .i64 ((-1 : Int) + 1) = ((0 : Nat) : Int) from rfl]; exact ih)
theorem refch_loop {t : TabT} (ht : I64 t.1) (hl : t.2.2.2.2.1.length ≤ 1000) (fr : Int) (w1 : Int) (w2 w3 : List Int) (es : List Ex) (he : es.length ≤ 10) (hs : ∀ x ∈ es, ∃ d, d ≤ 10 ∧ SmallD d x) (hw : ∀ x ∈ es, wfE x) :
    ∀ m j nl (ps : List Ex), j + m = es.length → ps.length ≤ 1024 * j → (∀ x ∈ ps, GE x) → Ev2 (fun k n => ref21_Choose_l0 k n fr nl ps es (es.length : Int) (j : Int) t.1 t.2.1 t.2.2.1 t.2.2.2.1 t.2.2.2.2.1 w1 w2 w3) (pkC (chooseM t fr (ps ++ (es.drop j).flatMap partsL)))
  | 0, j, nl, ps, hj, hp, hg => by
    have hj : j = es.length := by omega
    subst hj
    rw [List.drop_length]
    rw [show ps ++ ([] : List Ex).flatMap partsL = ps by simp]
    refine .up ?_
    simp only [ref21_Choose_l0_eq, bf (show ¬ (es.length : Int) < es.length by omega)]
    exact (refch_end ht hl fr nl ps (by omega) hg w1 w2 w3).dg.e2
  | m + 1, j, nl, ps, hj, hp, hg => by
    have hx : es[j]? = some es[j] := List.getElem?_eq_getElem (by omega)
    have e : wr .i64 ((j : Int) + 1) = ((j + 1 : Nat) : Int) := wr_nx (show j < es.length by omega) (by omega)
    obtain ⟨d, hd, sd⟩ := hs es[j] (List.getElem_mem _)
    have pl := partsL_len sd
    have p2 : 2 ^ d ≤ 2 ^ 10 := Nat.pow_le_pow_right (by omega) hd
    have ih := refch_loop ht hl fr w1 w2 w3 es he hs hw m (j + 1) (nl && (partsL es[j]).isEmpty) (ps ++ partsL es[j]) (by omega) (by rw [List.length_append]; omega) (fun x hx => by
      rcases List.mem_append.1 hx with hx | hx
      · exact hg x hx
      · exact partsL_good sd (hw _ (List.getElem_mem _)) x hx)
    rw [List.drop_eq_getElem_cons (show j < es.length by omega)]
    refine .up ?_
    simp only [ref21_Choose_l0_eq, bt (show (j : Int) < es.length by omega), nth_get hx, Option.bind_some, e]
    refine (refparts_ev sd (by omega)).e2.bind ?_
    simp only [lim_L (show ps.length + (partsL es[j]).length ≤ 60000000 by omega)]
    rw [List.flatMap_cons, ← List.append_assoc]
    exact ih
theorem refchoose_ev {t : TabT} (ht : I64 t.1) (hl : t.2.2.2.2.1.length ≤ 1000) (fr : Int) (es : List Ex) (he : es.length ≤ 10) (hs : ∀ x ∈ es, ∃ d, d ≤ 10 ∧ SmallD d x) (hw : ∀ x ∈ es, wfE x) :
    Ev (fun k => ref21_Choose k t fr es) (pkC (chooseM t fr (es.flatMap partsL))) := by
  simp only [ref21_Choose_eq]
  exact (refch_loop ht hl fr 0 [] [] es he hs hw es.length 0 true [] (by omega) (by simp) (fun x hx => by cases hx)).dg
theorem pc_loop {t : TabT} (ht : I64 t.1) (hl : t.2.2.2.2.1.length ≤ 1000) (fr : Int) (es : List Ex) (he : es.length ≤ 4) (hz : ∀ x ∈ es, szE x) (hw : ∀ x ∈ es, wfE x) :
    ∀ m j, j + m = es.length → (∀ x ∈ es.take j, SmallD 8 x) → Ev2 (fun k n => law23_PlanChooses_l0 k n fr es es (es.length : Int) (j : Int) t.1 t.2.1 t.2.2.1 t.2.2.2.1 t.2.2.2.2.1) (true, ())
  | 0, j, hj, hs => by
    refine .up ?_
    rw [List.take_of_length_le (by omega)] at hs
    simp only [law23_PlanChooses_l0_eq, bf (show ¬ (j : Int) < es.length by omega), twoW_self]
    refine Ev.e2 ?_
    have hs' : ∀ x ∈ es, ∃ d, d ≤ 10 ∧ SmallD d x := fun x hx => ⟨8, by omega, hs x hx⟩
    refine (choose_ev ht hl fr es (by omega) hs' hw).bind ?_
    refine (refchoose_ev ht hl fr es (by omega) hs' hw).bind ?_
    refine .from 0 fun k => ?_
    generalize chooseM t fr (es.flatMap partsL) = c
    show (bif decide (c.1 = c.1) then (ref21_SameSpan (k + 0) (c.2.1, (c.2.2, ())) (c.2.1, (c.2.2, ()))).bind _ else _) = _
    rw [bt rfl, ref21_SameSpan_eq]
    simp [beqL]
  | m + 1, j, hj, hs => by
    have hx : es[j]? = some es[j] := List.getElem?_eq_getElem (by omega)
    have e : wr .i64 ((j : Int) + 1) = ((j + 1 : Nat) : Int) := wr_nx (show j < es.length by omega) (by omega)
    obtain ⟨b, sb, hb⟩ := light_exD es[j] (hz _ (List.getElem_mem _)) 8 (by omega)
    refine .up ?_
    simp only [law23_PlanChooses_l0_eq, bt (show (j : Int) < es.length by omega), nth_get hx, Option.bind_some, e]
    refine Ev2.bind (Ev.e2 hb) ?_
    cases b with
    | false => exact .ret
    | true =>
      simp only [Bool.not_true, cond_false]
      refine pc_loop ht hl fr es he hz hw m (j + 1) (by omega) fun x hx' => ?_
      rw [List.take_add_one, hx] at hx'
      rcases List.mem_append.1 hx' with hx' | hx'
      · exact hs x hx'
      · have : x = es[j] := by simpa using hx'
        rw [this]; exact sb rfl
theorem pc_core (t : TabT) (fr : Int) (es : List Ex) (ht : I64 t.1) (hc : t.2.2.1.length ≤ 9223372036854775807) (hz : ∀ x ∈ es, szE x) (hw : ∀ x ∈ es, wfE x) : ∃ k, law23_PlanChooses k t fr es = some (true, ()) := by
  apply Ev.ex
  simp only [law23_PlanChooses_eq]
  refine Ev.bind awake23 ?_
  simp only [Bool.not_true, cond_false]
  refine Ev.bind (show Ev (fun k => law21_Small k t) _ from small_ev hc) ?_
  cases hsm : smallB t t.2.2.1 with
  | false => exact .ret
  | true =>
  simp only [Bool.not_true, cond_false]
  by_cases h4 : 4 < (es.length : Int)
  · simp only [bt h4]; exact .ret
  simp only [bf h4]
  by_cases h5 : fr < 0
  · simp only [bt h5]; exact .ret
  simp only [bf h5]
  by_cases h6 : 1000 < fr
  · simp only [bt h6]; exact .ret
  simp only [bf h6]
  have := (small_of hsm).2.1
  exact (pc_loop ht (by omega) fr es (by omega) hz hw es.length 0 (by omega) (fun x hx => by rw [List.take_zero] at hx; cases hx)).dg
theorem PlanChooses_true (t : ((.st (.pair (.int .i64) (.pair .str (.pair (.sl (.st (.pair .str (.pair (.int .i64) (.pair .bool .unit))))) (.pair (.int .i64) (.pair (.sl (.int .i64)) .unit)))))) : Ty).D) (fr : Int) (es : List (Ty.ex : Ty).D) (f0 : wfD (.st (.pair (.int .i64) (.pair .str (.pair (.sl (.st (.pair .str (.pair (.int .i64) (.pair .bool .unit))))) (.pair (.int .i64) (.pair (.sl (.int .i64)) .unit)))))) t) (w1 : (Lit.int .i64 fr).wf = true) (f2 : wfD (.sl .ex) es) (z2 : szD (.sl .ex) es) : ∃ k, law23_PlanChooses k t fr es = some (true, ()) :=
  pc_core t fr es (wf_i64 f0.1) f0.2.2.1.1 (fun x hx => z2.2 x hx) (fun x hx => f2.2 x hx)
end Go.Proofs.Ytmngjegceoidhaa.Den
