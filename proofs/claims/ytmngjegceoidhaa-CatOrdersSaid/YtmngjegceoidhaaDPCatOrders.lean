import Derived.Test.YtmngjegceoidhaaDCatOrders
import Derived.Test.YtmngjegceoidhaaDen34
namespace Go.Proofs.Ytmngjegceoidhaa.Den
open Go Go.RowKit
set_option linter.unusedVariables false
attribute [local irreducible] bytes_Clone cat_Index cat_IndexKey cat_RowKey cat_Rows cat_at cat_column cat_under cat_whole law02_Few law02_Few_l0 law21_CatOrders law21_Small law21_Small_l0 law21_awake num_Flip num_Put num_Put_l0 okey_Next okey_Next_l0 okey_Put okey_Put_j0 okey_Put_j1 okey_Put_j2 okey_Put_l0 okey_Put_l1 ref01_Cmp ref01_Cmp_l0 ref01_Order ref01_Plain ref01_Plains ref01_Plains_l0 ref01_Within
/-! ### Bytes of a number -/
def be : Nat → Nat → List Int
  | 0, _ => []
  | n + 1, u => ((u / 256 ^ n % 256 : Nat) : Int) :: be n u
theorem be_length : ∀ n u, (be n u).length = n
  | 0, _ => rfl
  | n + 1, u => congrArg (· + 1) (be_length n u)
theorem be_wf : ∀ n u x, x ∈ be n u → (Lit.int .u8 x).wf = true
  | n + 1, u, x, h => by
    rcases List.mem_cons.1 h with rfl | h
    · have := Nat.mod_lt (u / 256 ^ n) (show 0 < 256 by decide)
      simp [Lit.wf, IntKind.min, IntKind.max, IntKind.signed, IntKind.bits]; omega
    · exact be_wf n u x h
theorem mod_step (u n : Nat) : u % 256 ^ (n + 1) = u % 256 ^ n + 256 ^ n * (u / 256 ^ n % 256) := by
  rw [Nat.pow_succ]; exact Nat.mod_mul
theorem lt_step {p a b r s : Nat} (hr : r < p) (hs : s < p) : (decide (a < b) || (decide (a = b) && decide (r < s))) = decide (r + p * a < s + p * b) := by
  rcases Nat.lt_trichotomy a b with h | h | h
  · have h1 := Nat.mul_le_mul_left p (show a + 1 ≤ b from h)
    rw [Nat.mul_succ] at h1
    rw [decide_eq_true h, decide_eq_true (show r + p * a < s + p * b by omega)]; rfl
  · subst h
    simp
  · have h1 := Nat.mul_le_mul_left p (show b + 1 ≤ a from h)
    rw [Nat.mul_succ] at h1
    rw [decide_eq_false (show ¬ a < b by omega), decide_eq_false (show ¬ a = b by omega), decide_eq_false (show ¬ r + p * a < s + p * b by omega)]; rfl
theorem ltL_be : ∀ n u v, ltL (be n u) (be n v) = decide (u % 256 ^ n < v % 256 ^ n)
  | 0, _, _ => by simp [be, ltL, Nat.mod_one]
  | n + 1, u, v => by
    show (decide (((u / 256 ^ n % 256 : Nat) : Int) < ((v / 256 ^ n % 256 : Nat) : Int)) || (decide (((u / 256 ^ n % 256 : Nat) : Int) = ((v / 256 ^ n % 256 : Nat) : Int)) && ltL (be n u) (be n v))) = _
    rw [ltL_be n u v, mod_step, mod_step]
    have hp : 0 < 256 ^ n := Nat.pow_pos (by decide)
    rw [← lt_step (Nat.mod_lt u hp) (Nat.mod_lt v hp)]
    congr 2
    · simp only [Int.ofNat_lt]
    · simp only [Int.natCast_inj]
theorem be_eq {u v : Nat} : ∀ n, be n u = be n v → u % 256 ^ n = v % 256 ^ n
  | 0, _ => by simp [Nat.mod_one]
  | n + 1, h => by
    have h : ((u / 256 ^ n % 256 : Nat) : Int) :: be n u = ((v / 256 ^ n % 256 : Nat) : Int) :: be n v := h
    injection h with h1 h2
    rw [mod_step, mod_step, be_eq n h2, Int.natCast_inj.1 h1]
theorem beqL_be {u v : Nat} (hu : u < 18446744073709551616) (hv : v < 18446744073709551616) : beqL (be 8 u) (be 8 v) = decide (u = v) := by
  unfold beqL
  by_cases h : u = v
  · subst h; simp
  · have : ¬ be 8 u = be 8 v := fun e => h (by have := be_eq 8 e; omega)
    simp [h, this]
theorem shr_is {u j : Nat} (hj : j < 8) : shrK .u64 (u : Int) (wr .i64 (8 * (j : Int))) = some (((u / 256 ^ j : Nat)) : Int) := by
  rw [wr_i64 (by omega)]
  have hj : j = 0 ∨ j = 1 ∨ j = 2 ∨ j = 3 ∨ j = 4 ∨ j = 5 ∨ j = 6 ∨ j = 7 := by omega
  rcases hj with rfl | rfl | rfl | rfl | rfl | rfl | rfl | rfl <;> rfl
theorem set_last (m : Nat) (l : List Int) (x : Int) : (List.replicate (m + 1) (0 : Int) ++ l).set m x = List.replicate m 0 ++ x :: l := by
  rw [List.replicate_succ', List.append_assoc, List.set_append_right _ _ (by simp)]
  simp
theorem put_loop (k : Nat) {u w : Nat} (hw : w ≤ 8) : ∀ n j, j ≤ w → w - j < n → num_Put_l0 k n (u : Int) (w : Int) (w : Int) (j : Int) (List.replicate (w - j) 0 ++ be j u) = some (be w u, ())
  | 0, _, _, h => absurd h (Nat.not_lt_zero _)
  | n + 1, j, hj, hn => by
    rw [num_Put_l0_eq]
    by_cases c : j < w
    · obtain ⟨m, hm⟩ : ∃ m, w - j = m + 1 := ⟨w - j - 1, by omega⟩
      have e1 : wr .i64 (wr .i64 ((w : Int) - 1) - (j : Int)) = (m : Int) := by
        rw [wr_i64 (n := (w : Int) - 1) (by omega), wr_i64 (by omega)]; omega
      have hlen : (List.replicate (w - j) (0 : Int) ++ be j u).length = w := by simp [be_length]; omega
      have e2 : wr .u8 (((u / 256 ^ j : Nat)) : Int) = ((u / 256 ^ j % 256 : Nat) : Int) := by rw [wrm_u8]; rfl
      rw [bif_true (by simp; omega), shr_is (by omega), Option.bind_some, e1, hlen, must_true (by unfold inI; simp; omega), must_true (by simp [Nat.blt]; omega), e2, wr_i64 (by omega), hm, Int.toNat_natCast, set_last]
      have ih := put_loop k (u := u) hw n (j + 1) c (by omega)
      have e3 : w - (j + 1) = m := by omega
      rw [e3] at ih
      exact ih
    · have : j = w := by omega
      subst this
      rw [bif_false (by simp)]
      simp
theorem num_Put_is (k : Nat) {u w : Nat} (hw : w ≤ 8) : num_Put (k + 10) (u : Int) (w : Int) = some (be w u, ()) := by
  rw [num_Put_eq, bif_false (by simp), bif_false (by simp; omega), must_true (by simp [beqI]), Int.toNat_natCast, lim_ok (by omega)]
  have := put_loop (k + 10) (u := u) hw (k + 10) 0 (by omega) (by omega)
  simpa [be] using this
/-! ### Keys -/
abbrev ValT := Int × (Int × ((List Int) × Unit))
def esc (s : List Int) : List Int := s.flatMap fun x => if x = 0 then [x, 255] else [x]
def encV (v : ValT) : List Int := if v.1 = 1 then 2 :: be 8 (v.2.1 + 9223372036854775808).toNat else if v.1 = 2 then 3 :: (esc v.2.2.1 ++ [0, 1]) else [1]
theorem esc_cons (x : Int) (s : List Int) : esc (x :: s) = (if x = 0 then [x, 255] else [x]) ++ esc s := rfl
theorem esc_length : ∀ s : List Int, (esc s).length ≤ 2 * s.length
  | [] => by simp [esc]
  | x :: s => by
    have := esc_length s
    rw [esc_cons]
    split <;> simp <;> omega
def valOk (v : ValT) : Prop := (-9223372036854775808 ≤ v.2.1 ∧ v.2.1 ≤ 9223372036854775807) ∧ v.2.2.1.length ≤ 400
theorem encV_length {v : ValT} (h : valOk v) : (encV v).length ≤ 1000 := by
  have := esc_length v.2.2.1
  have := h.2
  unfold encV
  split
  · simp [be_length]
  · split <;> simp <;> omega
theorem oFlip_is (k : Nat) {a : Int} (h : -9223372036854775808 ≤ a ∧ a ≤ 9223372036854775807) : num_Flip k a = some (a + 9223372036854775808, ()) := by
  rw [num_Flip_eq]
  unfold wr
  rw [flip_eq h]
theorem oPut_l1 (k n : Nat) (l : List ValT) (len j : Int) (c : Bool) {s : List Int} (hs : s.length ≤ 400) : ∀ n1 i b out, i ≤ s.length → s.length - i < n1 → List.length out + 2 * (s.length - i) ≤ 60000000 →
    okey_Put_l1 (k + 1) n n1 b out l len j c s (s.length : Int) (i : Int) = okey_Put_j2 (k + 1) n false (out ++ (esc (s.drop i) ++ [0, 1])) l len j
  | 0, _, _, _, _, h, _ => absurd h (Nat.not_lt_zero _)
  | n1 + 1, i, b, out, hi, hn, ho => by
    rw [okey_Put_l1_eq]
    by_cases d : i < s.length
    · have hx := List.getElem?_eq_getElem d
      have hd : s.drop i = s[i] :: s.drop (i + 1) := List.drop_eq_getElem_cons d
      rw [bt (by omega), nth_get hx, Option.bind_some, lim_ok (by simp; omega), hd, esc_cons]
      by_cases e : s[i] = 0
      · rw [bt e, if_pos e, lim_ok (by simp; omega), okey_Put_j1_eq, wr_next d (by omega)]
        refine (oPut_l1 k n l len j c hs n1 (i + 1) ((b && [s[i]].isEmpty) && [(255 : Int)].isEmpty) ((out ++ [s[i]]) ++ [(255 : Int)]) d (by omega) (by simp; omega)).trans ?_
        simp
      · rw [bf e, if_neg e, okey_Put_j1_eq, wr_next d (by omega)]
        refine (oPut_l1 k n l len j c hs n1 (i + 1) (b && [s[i]].isEmpty) (out ++ [s[i]]) d (by omega) (by simp; omega)).trans ?_
        simp
    · have : i = s.length := by omega
      subst this
      rw [bf (by omega), lim_ok (by simp; omega), List.drop_length, show (b && [(0 : Int), (1 : Int)].isEmpty) = false from Bool.and_false b]
      rfl
theorem oPut_loop (k : Nat) {l : List ValT} (hl : ∀ v ∈ l, valOk v) (hlen : l.length ≤ 400) : ∀ n j b out, j ≤ l.length → l.length - j < n → List.length out + 1000 * (l.length - j) ≤ 50000000 →
    okey_Put_l0 (k + 500) n b out l (l.length : Int) (j : Int) = some ((b && (l.drop j).isEmpty, out ++ (l.drop j).flatMap encV), ())
  | 0, _, _, _, _, h, _ => absurd h (Nat.not_lt_zero _)
  | n + 1, j, b, out, hj, hn, ho => by
    rw [okey_Put_l0_eq]
    by_cases d : j < l.length
    · have hx := List.getElem?_eq_getElem d
      have hd : l.drop j = l[j] :: l.drop (j + 1) := List.drop_eq_getElem_cons d
      have hv := hl _ (List.getElem_mem d)
      have hle := encV_length hv
      rw [bt (by omega), nth_get hx, Option.bind_some, hd, List.flatMap_cons, show ∀ x : ValT, (b && (x :: l.drop (j + 1)).isEmpty) = false from fun _ => Bool.and_false b]
      generalize l[j] = v at *
      have next : okey_Put_j0 (k + 500) n false (out ++ encV v) l (l.length : Int) (j : Int) = some ((false, out ++ (encV v ++ (l.drop (j + 1)).flatMap encV)), ()) := by
        show okey_Put_j0 (k + 499 + 1) n _ _ _ _ _ = _
        rw [okey_Put_j0_eq, wr_next d (by omega)]
        have := oPut_loop k hl hlen n (j + 1) false (out ++ encV v) d (by omega) (by simp; omega)
        rw [List.append_assoc] at this
        exact this
      have next2 : okey_Put_j2 (k + 500) n false (out ++ encV v) l (l.length : Int) (j : Int) = some ((false, out ++ (encV v ++ (l.drop (j + 1)).flatMap encV)), ()) := by
        show okey_Put_j2 (k + 499 + 1) n _ _ _ _ _ = _
        rw [okey_Put_j2_eq]
        exact next
      by_cases c1 : v.1 = 1
      · have he : encV v = 2 :: be 8 (v.2.1 + 9223372036854775808).toNat := if_pos c1
        obtain ⟨u, hu⟩ := Int.eq_ofNat_of_zero_le (show 0 ≤ v.2.1 + 9223372036854775808 by have := hv.1; omega)
        rw [bt c1, lim_ok (by simp; omega), oFlip_is _ hv.1, Option.bind_some, hu, show num_Put (k + 500) (u : Int) (8 : Int) = _ from num_Put_is (k + 490) (u := u) (w := 8) (by omega), Option.bind_some, lim_ok (by simp [be_length]; omega)]
        have e2 : (out ++ [(2 : Int)]) ++ be 8 u = out ++ encV v := by rw [he, hu]; simp
        rw [e2, show ((b && [(2 : Int)].isEmpty) && (be 8 u).isEmpty) = false by simp]
        exact next
      rw [bf c1]
      by_cases c2 : v.1 = 2
      · have he : encV v = 3 :: (esc v.2.2.1 ++ [0, 1]) := by unfold encV; rw [if_neg c1, if_pos c2]
        have hs := hv.2
        have h := oPut_l1 (k + 499) n l (l.length : Int) (j : Int) false hs (k + 500) 0 (b && [(3 : Int)].isEmpty) (out ++ [(3 : Int)]) (by omega) (by omega) (by simp; omega)
        rw [bt c2, lim_ok (by simp; omega)]
        refine h.trans ?_
        have e2 : (out ++ [(3 : Int)]) ++ (esc (v.2.2.1.drop 0) ++ [0, 1]) = out ++ encV v := by rw [he]; simp
        rw [e2]
        exact next2
      · have he : encV v = [1] := by unfold encV; rw [if_neg c1, if_neg c2]
        rw [bf c2, lim_ok (by simp; omega), ← he, show (b && (encV v).isEmpty) = false by rw [he]; exact Bool.and_false b]
        exact next2
    · have : j = l.length := by omega
      subst this
      rw [bf (by omega), List.drop_length]
      simp
theorem okey_Put_is (k : Nat) {l : List ValT} (hl : ∀ v ∈ l, valOk v) (hlen : l.length ≤ 400) : okey_Put (k + 500) l = some ((l.isEmpty, l.flatMap encV), ()) := by
  rw [okey_Put_eq]
  have := oPut_loop k hl hlen (k + 500) 0 true [] (by omega) (by omega) (by simp; omega)
  simpa using this
/-! ### The next bytes -/
def nx : List Int → List Int
  | [] => []
  | x :: r => match nx r with
    | [] => if x = 255 then [] else [x + 1]
    | y :: t => x :: y :: t
theorem nx_n {x : Int} {r : List Int} (h : nx r = []) : nx (x :: r) = if x = 255 then [] else [x + 1] := by
  conv => lhs; unfold nx
  rw [h]
theorem nx_k {x y : Int} {r s : List Int} (h : nx r = y :: s) : nx (x :: r) = x :: nx r := by
  conv => lhs; unfold nx
  rw [h]
theorem nx_255 : ∀ l, nx (l ++ [255]) = nx l
  | [] => rfl
  | x :: r => by
    show (match nx (r ++ [255]) with | [] => if x = 255 then [] else [x + 1] | y :: t => x :: y :: t) = _
    rw [nx_255 r]; rfl
theorem nx_c {c : Int} (hc : c ≠ 255) : ∀ l, nx (l ++ [c]) = l ++ [c + 1]
  | [] => if_neg hc
  | x :: r => by
    show (match nx (r ++ [c]) with | [] => if x = 255 then [] else [x + 1] | y :: t => x :: y :: t) = _
    rw [nx_c hc r]
    cases r <;> rfl
abbrev Byt (l : List Int) : Prop := ∀ x ∈ l, (Lit.int .u8 x).wf = true
theorem take_snoc {l : List Int} {j : Nat} (h : j < l.length) : l.take (j + 1) = l.take j ++ [l[j]] := List.take_succ_eq_append_getElem h
theorem okNext_l0 (k : Nat) {b : Bool} {l : List Int} (hb : b = true → l = []) (hl : l.length ≤ 1000000) (hw : Byt l) : ∀ n j, j ≤ l.length → j < n → okey_Next_l0 k n b l ((j : Int) - 1) = some (nx (l.take j), ())
  | 0, _, _, h => absurd h (Nat.not_lt_zero _)
  | n + 1, 0, _, _ => by
    rw [okey_Next_l0_eq, bf (by omega)]; rfl
  | n + 1, j + 1, hj, hn => by
    have hlt : j < l.length := hj
    have e : ((j + 1 : Nat) : Int) - 1 = (j : Int) := by omega
    rw [e, okey_Next_l0_eq, bt (by omega), nth_get (List.getElem?_eq_getElem hlt), Option.bind_some, take_snoc hlt]
    have hx := wf_u8 (hw _ (List.getElem_mem hlt))
    by_cases c : l[j] = 255
    · rw [bif_false (by simp [c]), c, nx_255, wr_i64 (by omega)]
      exact okNext_l0 k hb hl hw n j (by omega) (by omega)
    · have hb0 : b = false := by
        cases b with
        | false => rfl
        | true => have := hb rfl; subst this; simp at hlt
      have ht : (l.take (j + 1)).length = j + 1 := by simp; omega
      have hg : (l.take (j + 1))[j]? = some l[j] := by rw [List.getElem?_take_of_lt (by omega)]; exact List.getElem?_eq_getElem hlt
      rw [bif_true (by simp [c]), nx_c c, wr_next hlt (by omega), cut_all (by omega), Option.bind_some, bytes_Clone_eq, hb0, bif_false rfl, ht, lim_ok (by omega), Option.bind_some]
      show must (inI (j : Int) (l.take (j + 1)).length) (((l.take (j + 1))[(j : Int).toNat]?).bind _) = _
      rw [Int.toNat_natCast, hg, Option.bind_some, ht, must_true (inI_t (by omega) (by omega)), must_true (inI_t (by omega) (by omega)), must_true (blt_t (by omega)), wr_u8 (by omega), take_snoc hlt, List.set_append_right _ _ (by simp; omega)]
      have : j - (l.take j).length = 0 := by simp; omega
      rw [this]; rfl
theorem okNext_ev {b : Bool} {l : List Int} (hb : b = true → l = []) (hl : l.length ≤ 1000000) (hw : Byt l) : Ev (fun k => okey_Next k b l) (nx l, ()) := by
  refine ⟨l.length + 1, fun k hk => ?_⟩
  show okey_Next k b l = _
  rw [okey_Next_eq]
  show okey_Next_l0 k k b l (wr .i64 ((l.length : Int) - 1)) = _
  rw [wr_i64 (by omega), okNext_l0 k hb hl hw k l.length (by omega) (by omega), List.take_length]

/-! ### The order of bytes -/
theorem cmp_lt : ∀ a b, (cmpL a b < 0) ↔ ltL a b = true
  | [], [] => by simp [cmpL, ltL]
  | [], _ :: _ => by simp [cmpL, ltL]
  | _ :: _, [] => by simp [cmpL, ltL]
  | a :: x, b :: y => by
    have ih := cmp_lt x y
    unfold cmpL ltL
    by_cases h : a < b
    · simp [h]
    · by_cases h2 : b < a
      · have : ¬ a = b := by omega
        simp [h, h2, this]
      · have : a = b := by omega
        simp [this, ih]
theorem ltL_asym : ∀ a b, ltL a b = true → ltL b a = false
  | [], [], _ => rfl
  | [], _ :: _, _ => rfl
  | _ :: _, [], h => by simp [ltL] at h
  | a :: x, b :: y, h => by
    simp only [ltL, Bool.or_eq_true, Bool.and_eq_true, decide_eq_true_eq] at h
    simp only [ltL, Bool.or_eq_false_iff, Bool.and_eq_false_iff, decide_eq_false_iff_not]
    rcases h with h | ⟨h, h2⟩
    · exact ⟨by omega, .inl (by omega)⟩
    · exact ⟨by omega, .inr (ltL_asym x y h2)⟩
theorem ltL_irr : ∀ a, ltL a a = false
  | [] => rfl
  | x :: r => by simp [ltL, ltL_irr r]
theorem ltL_app : ∀ p t, ltL (p ++ t) p = false
  | [], t => by cases t <;> rfl
  | x :: r, t => by simp [ltL, ltL_app r t]
theorem ltL_nx : ∀ p t, nx p ≠ [] → ltL (p ++ t) (nx p) = true
  | [], _, h => absurd rfl h
  | x :: r, t, h => by
    cases hn : nx r with
    | nil =>
      rw [nx_n hn] at h ⊢
      by_cases hx : x = 255
      · rw [if_pos hx] at h; exact absurd rfl h
      · rw [if_neg hx]
        have : x < x + 1 := by omega
        simp [ltL, this]
    | cons y s =>
      rw [nx_k hn]
      have := ltL_nx r t (by rw [hn]; simp)
      simp [ltL, this]
theorem pre_of_nx : ∀ r s, Byt s → nx r = [] → Byt r → ltL s r = false → ∃ t, s = r ++ t
  | [], s, _, _, _, _ => ⟨s, rfl⟩
  | x :: r, s, hs, hn, hr, hl => by
    have h1 : nx r = [] := by
      cases h : nx r with
      | nil => rfl
      | cons y t => unfold nx at hn; rw [h] at hn; simp at hn
    have h2 : x = 255 := by
      unfold nx at hn; rw [h1] at hn
      by_cases hx : x = 255
      · exact hx
      · simp [hx] at hn
    cases s with
    | nil => simp [ltL] at hl
    | cons c s =>
      have hc := wf_u8 (hs c List.mem_cons_self)
      simp [ltL] at hl
      obtain ⟨l1, l2⟩ := hl
      have hc2 : c = x := by omega
      obtain ⟨t, ht⟩ := pre_of_nx r s (fun y hy => hs y (List.mem_cons_of_mem _ hy)) h1 (fun y hy => hr y (List.mem_cons_of_mem _ hy)) (l2 hc2)
      exact ⟨t, by rw [ht, hc2]; rfl⟩
theorem nx_out : ∀ p a, Byt a → Byt p → nx p ≠ [] → ltL a p = false → (¬ ∃ t, a = p ++ t) → ltL a (nx p) = false
  | [], a, _, _, h, _, _ => absurd rfl h
  | x :: r, [], _, _, _, h, _ => by simp [ltL] at h
  | x :: r, c :: s, ha, hp, hne, hl, hno => by
    have hs : Byt s := fun y hy => ha y (List.mem_cons_of_mem _ hy)
    have hr : Byt r := fun y hy => hp y (List.mem_cons_of_mem _ hy)
    simp [ltL] at hl
    obtain ⟨l1, l2⟩ := hl
    have hno2 : c = x → ¬ ∃ t, s = r ++ t := fun e ⟨t, ht⟩ => hno ⟨t, by rw [ht, e]; rfl⟩
    cases hn : nx r with
    | nil =>
      rw [nx_n hn] at hne ⊢
      by_cases hx : x = 255
      · rw [if_pos hx] at hne; exact absurd rfl hne
      · rw [if_neg hx]
        have hcx : c ≠ x := fun e => hno2 e (pre_of_nx r s hs hn hr (l2 e))
        have : ¬ c < x + 1 := by omega
        cases s <;> simp [ltL, this]
    | cons y t =>
      rw [nx_k hn]
      simp only [ltL, Bool.or_eq_false_iff, Bool.and_eq_false_iff, decide_eq_false_iff_not]
      refine ⟨by omega, ?_⟩
      by_cases hc : c = x
      · exact .inr (nx_out r s hs hr (by rw [hn]; simp) (l2 hc) (hno2 hc))
      · exact .inl hc
theorem encV_bytes {v : ValT} (hv : valOk v) (hw : ∀ x ∈ v.2.2.1, (Lit.int .u8 x).wf = true) : ∀ x ∈ encV v, (Lit.int .u8 x).wf = true := by
  have he : ∀ x ∈ esc v.2.2.1, (Lit.int .u8 x).wf = true := by
    intro x hx
    obtain ⟨y, hy, hxy⟩ := List.mem_flatMap.1 hx
    have := hw y hy
    split at hxy
    · simp at hxy
      rcases hxy with rfl | rfl
      · exact this
      · decide
    · simp at hxy; subst hxy; exact this
  intro x hx
  unfold encV at hx
  split at hx
  · rcases List.mem_cons.1 hx with rfl | hx
    · decide
    · exact be_wf _ _ x hx
  · split at hx
    · rcases List.mem_cons.1 hx with rfl | hx
      · decide
      · rcases List.mem_append.1 hx with hx | hx
        · exact he x hx
        · simp at hx; rcases hx with rfl | rfl <;> decide
    · simp at hx; subst hx; decide
theorem flat_len : ∀ l : List ValT, (∀ v ∈ l, valOk v) → (l.flatMap encV).length ≤ 1000 * l.length
  | [], _ => by simp
  | v :: l, hv => by
    have := encV_length (hv v List.mem_cons_self)
    have ih := flat_len l fun w hw => hv w (List.mem_cons_of_mem _ hw)
    rw [List.flatMap_cons, List.length_append, List.length_cons]
    omega
def fewB (l : List ValT) (r : List ValT) : Bool := r.all (fun x => decide (x.2.2.1.length ≤ 100)) && decide (l.length ≤ 20)
theorem few_l0 (k : Nat) {l : List ValT} (hm : l.length ≤ 9223372036854775807) : ∀ n j, j ≤ l.length → l.length - j < n → law02_Few_l0 k n l l (l.length : Int) (j : Int) = some (fewB l (l.drop j), ())
  | 0, _, _, h => absurd h (Nat.not_lt_zero _)
  | n + 1, j, hj, hn => by
    rw [law02_Few_l0_eq]
    by_cases c : j < l.length
    · have hx := List.getElem?_eq_getElem c
      rw [bt (by omega), nth_get hx, Option.bind_some, List.drop_eq_getElem_cons c]
      by_cases c1 : 100 < (l[j].2.2.1.length : Int)
      · rw [bt c1, show fewB l (l[j] :: l.drop (j + 1)) = false from by unfold fewB; rw [List.all_cons, dF (by omega)]; rfl]
      rw [bf c1, wr_i64 (by omega)]
      refine (few_l0 k hm n (j + 1) c (by omega)).trans ?_
      rw [show fewB l (l[j] :: l.drop (j + 1)) = fewB l (l.drop (j + 1)) from by unfold fewB; rw [List.all_cons, dT (by omega)]; rfl]
    · have : j = l.length := by omega
      subst this
      rw [bf (by omega), List.drop_length]
      have : decide ((l.length : Int) ≤ 20) = decide (l.length ≤ 20) := by
        by_cases h : l.length ≤ 20
        · rw [dT h, dT (by omega)]
        · rw [dF h, dF (by omega)]
      rw [this]; rfl
theorem few_ev {l : List ValT} (h : wfD (.sl (.st (.pair (.int .i64) (.pair (.int .i64) (.pair .str .unit))))) l) : Ev (fun k => law02_Few k l) (fewB l l, ()) := by
  obtain ⟨hlen, hall⟩ := h
  have hlen : l.length ≤ maxLen := hlen
  have hmax : maxLen ≤ 9223372036854775807 := by decide
  refine ⟨l.length + 1, fun k hk => ?_⟩
  show law02_Few k l = _
  rw [law02_Few_eq]
  exact few_l0 k (by omega) k 0 (by omega) (by omega)
theorem few_ev' {l : List ValT} (h : l.length ≤ 9223372036854775807) : Ev (fun k => law02_Few k l) (fewB l l, ()) := by
  refine ⟨l.length + 1, fun k hk => ?_⟩
  show law02_Few k l = _
  rw [law02_Few_eq]
  exact few_l0 k h k 0 (by omega) (by omega)
theorem few_of {l : List ValT} (h : wfD (.sl (.st (.pair (.int .i64) (.pair (.int .i64) (.pair .str .unit))))) l) (hb : fewB l l = true) : l.length ≤ 20 ∧ ∀ v ∈ l, (valOk v ∧ v.2.2.1.length ≤ 100) ∧ (∀ x ∈ v.2.2.1, (Lit.int .u8 x).wf = true) ∧ (-9223372036854775808 ≤ v.1 ∧ v.1 ≤ 9223372036854775807) := by
  obtain ⟨hlen, hall⟩ := h
  unfold fewB at hb
  simp only [Bool.and_eq_true, List.all_eq_true, decide_eq_true_eq] at hb
  refine ⟨hb.2, fun v hv => ?_⟩
  obtain ⟨q0, q1, ⟨_, q2⟩, _⟩ := hall v hv
  have := hb.1 v hv
  exact ⟨⟨⟨wf_i64 q1, by omega⟩, this⟩, q2, wf_i64 q0⟩
theorem cmp_eq0 : ∀ a b, cmpL a b = 0 ↔ a = b
  | [], [] => by simp [cmpL]
  | [], _ :: _ => by simp [cmpL]
  | _ :: _, [] => by simp [cmpL]
  | a :: x, b :: y => by
    have ih := cmp_eq0 x y
    unfold cmpL
    by_cases h : a < b
    · rw [if_pos h]; simp; try omega
    · rw [if_neg h]
      by_cases h2 : b < a
      · rw [if_pos h2]; simp; try omega
      · rw [if_neg h2, ih]; simp; try omega
theorem cmp_vals : ∀ a b, cmpL a b = if ltL a b then -1 else if ltL b a then 1 else 0
  | [], [] => rfl
  | [], _ :: _ => rfl
  | _ :: _, [] => rfl
  | a :: x, b :: y => by
    have ih := cmp_vals x y
    unfold cmpL ltL
    by_cases h : a < b
    · simp [h]
    · by_cases h2 : b < a
      · have : ¬ a = b := by omega
        simp [h, h2, this]
      · have : a = b := by omega
        simp [this, ih]
/-- The order of two values. -/
def ordV (a b : ValT) : Int := if a.1 < b.1 then -1 else if b.1 < a.1 then 1 else if a.1 = 1 then (if a.2.1 < b.2.1 then -1 else if b.2.1 < a.2.1 then 1 else 0) else if a.1 = 2 then cmpL a.2.2.1 b.2.2.1 else 0
def cmpV : List ValT → List ValT → Int
  | [], [] => 0
  | [], _ :: _ => -1
  | _ :: _, [] => 1
  | a :: x, b :: y => if ordV a b = 0 then cmpV x y else ordV a b
theorem cmpV_nil {a b : List ValT} (h : a = [] ∨ b = []) : cmpV a b = if (a.length : Int) < b.length then -1 else if (b.length : Int) < a.length then 1 else 0 := by
  cases a with
  | nil => cases b with
    | nil => rfl
    | cons y t => rw [if_pos (by simp; try omega)]; rfl
  | cons x s => cases b with
    | nil => rw [if_neg (by simp; try omega), if_pos (by simp; try omega)]; rfl
    | cons y t => rcases h with h | h <;> cases h
theorem drop_two {a b : List ValT} {j : Nat} (h : ¬ (j < a.length ∧ j < b.length)) (h1 : j ≤ a.length) (h2 : j ≤ b.length) : cmpV (a.drop j) (b.drop j) = if (a.length : Int) < b.length then -1 else if (b.length : Int) < a.length then 1 else 0 := by
  rw [cmpV_nil (by
    by_cases c : j < a.length
    · exact .inr (List.drop_eq_nil_of_le (by omega))
    · exact .inl (List.drop_eq_nil_of_le (by omega)))]
  simp only [List.length_drop]
  by_cases c1 : a.length < b.length
  · rw [if_pos (by omega), if_pos (by omega)]
  · rw [if_neg (by omega), if_neg (show ¬ (a.length : Int) < b.length by omega)]
    by_cases c2 : b.length < a.length
    · rw [if_pos (by omega), if_pos (by omega)]
    · rw [if_neg (by omega), if_neg (by omega)]
def plainV (v : ValT) : ValT := if v.1 = 1 then (1, (v.2.1, ([], ()))) else if v.1 = 2 then (2, (0, (v.2.2.1, ()))) else (0, (0, ([], ())))
theorem encV_ne (v : ValT) : ∃ x t, encV v = x :: t := by
  unfold encV
  split
  · exact ⟨_, _, rfl⟩
  · split <;> exact ⟨_, _, rfl⟩
theorem plain_is (k : Nat) (v : ValT) : ref01_Plain k v = some (plainV v, (plainV v, ())) := by
  rw [ref01_Plain_eq]
  unfold plainV
  by_cases c1 : v.1 = 1
  · rw [bt c1, if_pos c1]
  · rw [bf c1, if_neg c1]
    by_cases c2 : v.1 = 2
    · rw [bt c2, if_pos c2]
    · rw [bf c2, if_neg c2]
theorem plains_is (k : Nat) {l : List ValT} (hl : l.length ≤ 400) : ∀ n j b acc, j ≤ l.length → l.length - j < n → List.length acc + (l.length - j) ≤ 1000 → ref01_Plains_l0 k n b acc l (l.length : Int) (j : Int) = some (acc ++ (l.drop j).map plainV, ())
  | 0, _, _, _, _, h, _ => absurd h (Nat.not_lt_zero _)
  | n + 1, j, b, acc, hj, hn, ha => by
    rw [ref01_Plains_l0_eq]
    by_cases c : j < l.length
    · have hx := List.getElem?_eq_getElem c
      rw [bt (by omega), nth_get hx, Option.bind_some, show ref01_Plain k (l[j].1, (l[j].2.1, (l[j].2.2.1, ()))) = _ from plain_is k l[j], Option.bind_some, lim_ok (by simp; omega), wr_next c (by omega)]
      refine (plains_is k hl n (j + 1) (b && [plainV l[j]].isEmpty) (acc ++ [plainV l[j]]) c (by omega) (by simp; omega)).trans ?_
      rw [List.drop_eq_getElem_cons c, List.map_cons, List.append_assoc]
      rfl
    · have : j = l.length := by omega
      subst this
      rw [bf (by omega), List.drop_length]
      simp
theorem ltL_eqlen : ∀ (p q r s : List Int), p.length = q.length → ltL (p ++ r) (q ++ s) = if p = q then ltL r s else ltL p q
  | [], [], r, s, _ => by simp
  | x :: p, y :: q, r, s, h => by
    have ih := ltL_eqlen p q r s (by simpa using h)
    show (decide (x < y) || (decide (x = y) && ltL (p ++ r) (q ++ s))) = if x :: p = y :: q then ltL r s else (decide (x < y) || (decide (x = y) && ltL p q))
    rw [ih]
    by_cases e : x = y
    · subst e
      by_cases e2 : p = q
      · subst e2; simp
      · simp [e2]
    · simp [e]
theorem ltL_esc : ∀ (x y r s : List Int), Byt x → Byt y → ltL (esc x ++ 0 :: 1 :: r) (esc y ++ 0 :: 1 :: s) = if x = y then ltL r s else ltL x y
  | [], [], r, s, _, _ => by simp [esc, ltL]
  | [], d :: y, r, s, _, hy => by
    have hd := wf_u8 (hy d List.mem_cons_self)
    rw [esc_cons]
    by_cases h : d = 0
    · subst h; simp [esc, ltL]
    · have : 0 < d := by omega
      simp [esc, ltL, h, this]
  | c :: x, [], r, s, hx, _ => by
    have hc := wf_u8 (hx c List.mem_cons_self)
    rw [esc_cons]
    by_cases h : c = 0
    · subst h; simp [esc, ltL]
    · have : ¬ c < 0 := by omega
      simp [esc, ltL, h, this]
  | c :: x, d :: y, r, s, hx, hy => by
    have hc := wf_u8 (hx c List.mem_cons_self)
    have hd := wf_u8 (hy d List.mem_cons_self)
    have ih := ltL_esc x y r s (fun z hz => hx z (List.mem_cons_of_mem _ hz)) (fun z hz => hy z (List.mem_cons_of_mem _ hz))
    rw [esc_cons, esc_cons]
    by_cases h : c = d
    · subst h
      by_cases h0 : c = 0
      · rw [if_pos h0]
        simp only [List.append_assoc, List.cons_append, List.nil_append]
        simp only [ltL, ih]
        by_cases e : x = y <;> simp [e]
      · rw [if_neg h0]
        simp only [List.append_assoc, List.cons_append, List.nil_append]
        simp only [ltL, ih]
        by_cases e : x = y <;> simp [e]
    · have hne : ¬ (c :: x = d :: y) := by simp [h]
      rw [if_neg hne]
      have first : ∀ u v : List Int, ltL (c :: u) (d :: v) = decide (c < d) := by intro u v; simp [ltL, h]
      rw [first]
      split <;> split <;> exact first _ _
def canV (v : ValT) : Prop := (valOk v ∧ Byt v.2.2.1) ∧ (v.1 = 0 ∨ v.1 = 1 ∨ v.1 = 2)
theorem ltL_enc {v w : ValT} (hv : canV v) (hw : canV w) (r s : List Int) : ltL (encV v ++ r) (encV w ++ s) = if ordV v w = 0 then ltL r s else decide (ordV v w < 0) := by
  obtain ⟨⟨v1, v2⟩, v3⟩ := hv
  obtain ⟨⟨w1, w2⟩, w3⟩ := hw
  have e0 : ∀ {x : ValT}, x.1 = 0 → encV x = [1] := fun h => by unfold encV; rw [if_neg (by omega), if_neg (by omega)]
  have e1 : ∀ {x : ValT}, x.1 = 1 → encV x = 2 :: be 8 (x.2.1 + 9223372036854775808).toNat := fun h => if_pos h
  have e2 : ∀ {x : ValT}, x.1 = 2 → encV x = 3 :: (esc x.2.2.1 ++ [0, 1]) := fun h => by unfold encV; rw [if_neg (by omega), if_pos h]
  unfold ordV
  rcases v3 with a | a | a <;> rcases w3 with b | b | b <;> rw [a, b]
  · rw [e0 a, e0 b]; simp [ltL]
  · rw [e0 a, e1 b]; simp [ltL]
  · rw [e0 a, e2 b]; simp [ltL]
  · rw [e1 a, e0 b]; simp [ltL]
  · rw [e1 a, e1 b]
    obtain ⟨u, hu⟩ := Int.eq_ofNat_of_zero_le (show 0 ≤ v.2.1 + 9223372036854775808 by have := v1.1; omega)
    obtain ⟨t, ht⟩ := Int.eq_ofNat_of_zero_le (show 0 ≤ w.2.1 + 9223372036854775808 by have := w1.1; omega)
    rw [hu, ht]
    have p1 := v1.1
    have p2 := w1.1
    simp only [Int.toNat_natCast, List.cons_append, ltL]
    rw [ltL_eqlen _ _ _ _ (by rw [be_length, be_length]), ltL_be, Nat.mod_eq_of_lt (by omega), Nat.mod_eq_of_lt (by omega)]
    have hbe : be 8 u = be 8 t ↔ u = t := ⟨fun h => by have := be_eq 8 h; omega, fun h => by rw [h]⟩
    by_cases c : u = t
    · subst c
      have : v.2.1 = w.2.1 := by omega
      simp [this]
    · by_cases d : u < t
      · have : v.2.1 < w.2.1 := by omega
        simp [hbe, c, d, this]
      · have h1 : ¬ v.2.1 < w.2.1 := by omega
        have h2 : w.2.1 < v.2.1 := by omega
        simp [hbe, c, d, h1, h2]
  · rw [e1 a, e2 b]; simp [ltL]
  · rw [e2 a, e0 b]; simp [ltL]
  · rw [e2 a, e1 b]; simp [ltL]
  · rw [e2 a, e2 b]
    simp only [List.append_assoc, List.cons_append, List.nil_append, ltL]
    rw [ltL_esc _ _ _ _ v2 w2]
    have c1 := cmp_eq0 v.2.2.1 w.2.2.1
    have c2 := cmp_lt v.2.2.1 w.2.2.1
    simp only [show ¬ ((2 : Int) < 2) by omega, show ¬ ((2 : Int) = 1) by omega, if_false, if_true, c1]
    by_cases e : v.2.2.1 = w.2.2.1
    · simp [e]
    · simp only [e, if_false]
      cases h : ltL v.2.2.1 w.2.2.1 with
      | true => simp [c2.2 h]
      | false => rw [h] at c2; simp at c2; simp; exact c2
theorem ltL_keys : ∀ a b : List ValT, (∀ v ∈ a, canV v) → (∀ v ∈ b, canV v) → ltL (a.flatMap encV) (b.flatMap encV) = decide (cmpV a b < 0)
  | [], [], _, _ => rfl
  | [], w :: b, _, _ => by
    obtain ⟨x, t, h⟩ := encV_ne w
    rw [List.flatMap_cons, h]; rfl
  | v :: a, [], _, _ => by
    show ltL _ [] = _
    cases (v :: a).flatMap encV <;> rfl
  | v :: a, w :: b, ha, hb => by
    rw [List.flatMap_cons, List.flatMap_cons, ltL_enc (ha v List.mem_cons_self) (hb w List.mem_cons_self), ltL_keys a b (fun x hx => ha x (List.mem_cons_of_mem _ hx)) (fun x hx => hb x (List.mem_cons_of_mem _ hx))]
    show _ = decide ((if ordV v w = 0 then cmpV a b else ordV v w) < 0)
    split <;> rfl
theorem ordV_anti (v w : ValT) : ordV w v = - ordV v w := by
  unfold ordV
  rw [cmp_vals, cmp_vals]
  by_cases h1 : v.1 < w.1
  · rw [if_neg (by omega), if_pos h1, if_pos h1]; rfl
  rw [if_neg h1]
  by_cases h2 : w.1 < v.1
  · rw [if_pos h2, if_pos h2, if_neg h1]
  rw [if_neg h2, if_neg h2, if_neg h1]
  have e : v.1 = w.1 := by omega
  rw [e]
  by_cases c1 : w.1 = 1
  · rw [if_pos c1, if_pos c1]
    by_cases d1 : v.2.1 < w.2.1
    · rw [if_neg (by omega), if_pos d1, if_pos d1]; rfl
    · rw [if_neg d1]
      by_cases d2 : w.2.1 < v.2.1
      · rw [if_pos d2, if_neg d1, if_pos d2]
      · rw [if_neg d2, if_neg d1, if_neg d2]; rfl
  rw [if_neg c1, if_neg c1]
  by_cases c2 : w.1 = 2
  · rw [if_pos c2, if_pos c2]
    have := cmp_vals v.2.2.1 w.2.2.1
    have t := cmp_vals w.2.2.1 v.2.2.1
    cases p : ltL v.2.2.1 w.2.2.1 <;> cases q : ltL w.2.2.1 v.2.2.1 <;> simp
    exact absurd (ltL_asym _ _ p) (by rw [q]; simp)
  · rw [if_neg c2, if_neg c2]; rfl
theorem cmpV_anti : ∀ a b, cmpV b a = - cmpV a b
  | [], [] => rfl
  | [], _ :: _ => rfl
  | _ :: _, [] => rfl
  | v :: a, w :: b => by
    show (if ordV w v = 0 then cmpV b a else ordV w v) = - (if ordV v w = 0 then cmpV a b else ordV v w)
    rw [ordV_anti v w, cmpV_anti a b]
    by_cases h : ordV v w = 0
    · rw [if_pos (by omega), if_pos h]
    · rw [if_neg (by omega), if_neg h]
theorem can_plain {v : ValT} (h : valOk v) (hb : Byt v.2.2.1) : canV (plainV v) := by
  unfold plainV
  by_cases c1 : v.1 = 1
  · rw [if_pos c1]; exact ⟨⟨⟨h.1, by simp⟩, fun x hx => by simp at hx⟩, .inr (.inl rfl)⟩
  rw [if_neg c1]
  by_cases c2 : v.1 = 2
  · rw [if_pos c2]; exact ⟨⟨⟨by simp, h.2⟩, hb⟩, .inr (.inr rfl)⟩
  · rw [if_neg c2]; exact ⟨⟨⟨by simp, by simp⟩, fun x hx => by simp at hx⟩, .inl rfl⟩
theorem plains_ev {l : List ValT} (hl : l.length ≤ 20) : Ev (fun k => ref01_Plains k l) (l.map plainV, ()) := by
  refine ⟨1000, fun k hk => ?_⟩
  show ref01_Plains k l = _
  rw [ref01_Plains_eq]
  have := plains_is k (l := l) (by omega) k 0 true [] (by omega) (by omega) (by simp; omega)
  simpa using this
theorem refOrder_is (k : Nat) (a b : ValT) : ref01_Order k a b = some (ordV a b, ()) := by
  rw [ref01_Order_eq]
  unfold ordV
  rw [cmp_vals]
  by_cases h : a.1 < b.1
  · rw [bt h, if_pos h]
  rw [bf h, if_neg h]
  by_cases h' : b.1 < a.1
  · rw [bt h', if_pos h']
  rw [bf h', if_neg h']
  by_cases h1 : a.1 = 1
  · have h2 : ¬ a.1 = 2 := by omega
    rw [bt h1, if_pos h1]
    by_cases c : a.2.1 < b.2.1
    · rw [bt c, if_pos c]
    rw [bf c, if_neg c, bf h2, bt h1]
    by_cases d : b.2.1 < a.2.1
    · rw [bt d, if_pos d]
    rw [bf d, if_neg d, bf h2]
  rw [bf h1, if_neg h1]
  by_cases h2 : a.1 = 2
  · rw [bt h2, if_pos h2]
    cases ltL a.2.2.1 b.2.2.1 with
    | true => rfl
    | false =>
      rw [cond_false, bf h1, bt h2]
      cases ltL b.2.2.1 a.2.2.1 <;> rfl
  · rw [bf h2, if_neg h2, bf h1, bf h2]
theorem refcmp_l0 (k : Nat) {a b : List ValT} (ha : a.length ≤ 1000) (hb : b.length ≤ 1000) : ∀ n j, j ≤ a.length → j ≤ b.length → a.length - j < n → ref01_Cmp_l0 k n a b (a.length : Int) (j : Int) = some (cmpV (a.drop j) (b.drop j), ())
  | 0, _, _, _, h => absurd h (Nat.not_lt_zero _)
  | n + 1, j, hj, hj2, hn => by
    rw [ref01_Cmp_l0_eq]
    by_cases c1 : j < a.length
    · rw [bt (by omega)]
      by_cases c2 : j < b.length
      · rw [bf (by omega), nth_get (List.getElem?_eq_getElem c1), Option.bind_some, nth_get (List.getElem?_eq_getElem c2), Option.bind_some, refOrder_is, Option.bind_some, List.drop_eq_getElem_cons c1, List.drop_eq_getElem_cons c2]
        show _ = some (if ordV a[j] b[j] = 0 then cmpV (a.drop (j + 1)) (b.drop (j + 1)) else ordV a[j] b[j], ())
        by_cases h0 : ordV a[j] b[j] = 0
        · rw [bif_false (by simp [h0]), if_pos h0, wr_i64 (by omega)]
          exact refcmp_l0 k ha hb n (j + 1) (by omega) (by omega) (by omega)
        · rw [bif_true (by simp [h0]), if_neg h0]
      · rw [bt (by omega), drop_two (by omega) hj hj2, if_neg (by omega), if_pos (by omega)]
    · rw [bf (by omega), drop_two (by omega) hj hj2]
      by_cases c : (a.length : Int) < b.length
      · rw [bt c, if_pos c]
      · rw [bf c, if_neg c, if_neg (by omega)]
theorem refCmp_ev {a b : List ValT} (ha : a.length ≤ 1000) (hb : b.length ≤ 1000) : Ev (fun k => ref01_Cmp k a b) (cmpV a b, ()) := by
  refine ⟨1001, fun k hk => ?_⟩
  show ref01_Cmp k a b = _
  rw [ref01_Cmp_eq]
  exact refcmp_l0 k ha hb k 0 (by omega) (by omega) (by omega)
theorem refWithin_is (k : Nat) (a lo hi : List Int) : ref01_Within k a lo hi = some (!ltL a lo && (decide (hi = []) || ltL a hi), ()) := by
  rw [ref01_Within_eq]
  cases ltL a lo with
  | true => rfl
  | false =>
    cases hi with
    | nil => rfl
    | cons y t => rw [Bool.not_false, cond_true, bf (by simp; omega)]; simp
/-! ### Keys of tables -/
abbrev TabT := Int × ((List Int) × ((List ((List Int) × (Int × (Bool × Unit)))) × (Int × ((List Int) × Unit))))
theorem put_ev {l : List ValT} (hl : ∀ v ∈ l, valOk v) (hlen : l.length ≤ 400) : Ev (fun k => okey_Put k l) ((l.isEmpty, l.flatMap encV), ()) := .from 500 fun k => okey_Put_is k hl hlen
def wv (n : Int) : ValT := (1, (n, ([], ())))
def zv : ValT := (0, (0, ([], ())))
def I64 (n : Int) : Prop := -9223372036854775808 ≤ n ∧ n ≤ 9223372036854775807
theorem wv_ok {n : Int} (h : I64 n) : valOk (wv n) := ⟨h, by show ([] : List Int).length ≤ 400; simp⟩
theorem zv_ok : valOk zv := ⟨by constructor <;> decide, by show ([] : List Int).length ≤ 400; simp⟩
def atV (r : List ValT) (i : Int) : ValT := if i < 0 then zv else (r[i.toNat]?).getD zv
theorem at_is (k : Nat) (r : List ValT) (i : Int) : cat_at k r i = some (atV r i, (atV r i, ())) := by
  rw [cat_at_eq]
  unfold atV
  by_cases c : i < 0
  · rw [bt c, if_pos c]; rfl
  · rw [bf c, if_neg c]
    obtain ⟨j, rfl⟩ := Int.eq_ofNat_of_zero_le (show 0 ≤ i by omega)
    rw [Int.toNat_natCast]
    by_cases d : j < r.length
    · rw [bf (by omega), nth_get (List.getElem?_eq_getElem d), Option.bind_some, List.getElem?_eq_getElem d]; rfl
    · rw [bt (by omega), List.getElem?_eq_none (by omega)]; rfl
theorem atV_ok {r : List ValT} (h : ∀ v ∈ r, valOk v) (i : Int) : valOk (atV r i) := by
  unfold atV
  split
  · exact zv_ok
  · cases e : r[i.toNat]? with
    | none => exact zv_ok
    | some v => exact h v (List.mem_of_getElem? e)
theorem atV_get {r : List ValT} {j : Nat} (h : j < r.length) : atV r (j : Int) = r[j] := by
  unfold atV
  rw [if_neg (by omega), Int.toNat_natCast, List.getElem?_eq_getElem h]; rfl
def trowK (t : TabT) (r : List ValT) : List Int := [wv t.1, wv 0, atV r t.2.2.2.1].flatMap encV
theorem rowkey_ev {t : TabT} (ht : I64 t.1) {r : List ValT} (hr : ∀ v ∈ r, valOk v) : Ev (fun k => cat_RowKey k t r) (trowK t r, ()) := by
  simp only [cat_RowKey_eq, cat_whole_eq, at_is, Option.bind_some]
  refine .bind (F := fun k => okey_Put k [wv t.1, wv 0, atV r t.2.2.2.1]) (put_ev (by
    intro v hv
    simp only [List.mem_cons, List.not_mem_nil, or_false] at hv
    rcases hv with rfl | rfl | rfl
    · exact wv_ok ht
    · exact wv_ok (by constructor <;> decide)
    · exact atV_ok hr _) (by simp)) .ret
def idxV (t : TabT) (i : Int) : Option Int := if i < 0 then none else t.2.2.2.2.1[i.toNat]?
theorem column_is (k : Nat) (t : TabT) (i : Int) : cat_column k t i = some (((idxV t i).getD 0, ((idxV t i).isSome, ())), ()) := by
  rw [cat_column_eq]
  unfold idxV
  by_cases c : i < 0
  · rw [bt c, if_pos c]; rfl
  · rw [bf c, if_neg c]
    obtain ⟨j, rfl⟩ := Int.eq_ofNat_of_zero_le (show 0 ≤ i by omega)
    rw [Int.toNat_natCast]
    by_cases d : j < t.2.2.2.2.1.length
    · rw [bf (by omega), nth_get (List.getElem?_eq_getElem d), Option.bind_some, List.getElem?_eq_getElem d]; rfl
    · rw [bt (by omega), List.getElem?_eq_none (by omega)]; rfl
def tidxK (t : TabT) (i : Int) (r : List ValT) : List Int := match idxV t i with
  | none => []
  | some c => [wv t.1, wv (i + 1), atV r c, atV r t.2.2.2.1].flatMap encV
theorem idx_lt {t : TabT} {i c : Int} (h : idxV t i = some c) : 0 ≤ i ∧ i < t.2.2.2.2.1.length := by
  unfold idxV at h
  split at h
  · cases h
  · have := (List.getElem?_eq_some_iff.1 h).1
    omega
theorem idxkey_ev {t : TabT} (ht : I64 t.1) (hl : t.2.2.2.2.1.length ≤ 1000) {r : List ValT} (hr : ∀ v ∈ r, valOk v) (i : Int) : Ev (fun k => cat_IndexKey k t i r) (tidxK t i r, ()) := by
  simp only [cat_IndexKey_eq]
  have hc : ∀ k, cat_column k (t.1, (t.2.1, (t.2.2.1, (t.2.2.2.1, (t.2.2.2.2.1, ()))))) i = some (((idxV t i).getD 0, ((idxV t i).isSome, ())), ()) := fun k => column_is k t i
  simp only [hc, Option.bind_some]
  unfold tidxK
  cases hi : idxV t i with
  | none => exact .ret
  | some c =>
    have hlt := idx_lt hi
    simp only [Option.isSome_some, Bool.not_true, cond_false, Option.getD_some, cat_whole_eq, at_is, Option.bind_some]
    rw [wr_i64 (by omega)]
    refine .bind (F := fun k => okey_Put k [wv t.1, wv (i + 1), atV r c, atV r t.2.2.2.1]) (put_ev (by
      intro v hv
      simp only [List.mem_cons, List.not_mem_nil, or_false] at hv
      rcases hv with rfl | rfl | rfl | rfl
      · exact wv_ok ht
      · exact wv_ok ⟨by omega, by omega⟩
      · exact atV_ok hr _
      · exact atV_ok hr _) (by simp)) .ret
def tundK (t : TabT) (n : Int) : List Int := [wv t.1, wv n].flatMap encV
theorem enc_byt_w {n : Int} (h : I64 n) : Byt (encV (wv n)) := encV_bytes (wv_ok h) (fun x hx => by cases hx)
theorem undK_byt {t : TabT} (ht : I64 t.1) {n : Int} (hn : I64 n) : Byt (tundK t n) := by
  intro x hx
  obtain ⟨v, hv, hx⟩ := List.mem_flatMap.1 hx
  simp only [List.mem_cons, List.not_mem_nil, or_false] at hv
  rcases hv with rfl | rfl
  · exact enc_byt_w ht x hx
  · exact enc_byt_w hn x hx
theorem encV_ne0 (v : ValT) : encV v ≠ [] := by
  unfold encV
  split
  · simp
  · split <;> simp
theorem under_ev {t : TabT} (ht : I64 t.1) {n : Int} (hn : I64 n) : Ev (fun k => cat_under k t n) ((tundK t n, (nx (tundK t n), ())), ((tundK t n, (nx (tundK t n), ())), ())) := by
  simp only [cat_under_eq, cat_whole_eq, Option.bind_some]
  have hv : ∀ v ∈ [wv t.1, wv n], valOk v := by
    intro v hv
    simp only [List.mem_cons, List.not_mem_nil, or_false] at hv
    rcases hv with rfl | rfl
    · exact wv_ok ht
    · exact wv_ok hn
  have hlen := flat_len _ hv
  refine .bind (F := fun k => okey_Put k [wv t.1, wv n]) (put_ev hv (by simp)) ?_
  refine .bind (F := fun k => okey_Next k ([wv t.1, wv n].isEmpty) (tundK t n)) (okNext_ev (fun h => by cases h) (by unfold tundK; simp at hlen ⊢; omega) (undK_byt ht hn)) .ret
theorem rows_ev {t : TabT} (ht : I64 t.1) : Ev (fun k => cat_Rows k t) ((tundK t 0, (nx (tundK t 0), ())), ((tundK t 0, (nx (tundK t 0), ())), ())) := by
  simp only [cat_Rows_eq]
  exact .bind (F := fun k => cat_under k t 0) (under_ev ht (by constructor <;> decide)) .ret
def indS (t : TabT) (i : Int) : List Int × (List Int × Unit) := match idxV t i with
  | none => ([], ([], ()))
  | some _ => (tundK t (i + 1), (nx (tundK t (i + 1)), ()))
theorem index_ev {t : TabT} (ht : I64 t.1) (hl : t.2.2.2.2.1.length ≤ 1000) (i : Int) : Ev (fun k => cat_Index k t i) (indS t i, (indS t i, ())) := by
  simp only [cat_Index_eq]
  have hc : ∀ k, cat_column k (t.1, (t.2.1, (t.2.2.1, (t.2.2.2.1, (t.2.2.2.2.1, ()))))) i = some (((idxV t i).getD 0, ((idxV t i).isSome, ())), ()) := fun k => column_is k t i
  simp only [hc, Option.bind_some]
  unfold indS
  cases hi : idxV t i with
  | none => exact .ret
  | some c =>
    have hlt := idx_lt hi
    simp only [Option.isSome_some, Bool.not_true, cond_false]
    rw [wr_i64 (by omega)]
    exact .bind (F := fun k => cat_under k t (i + 1)) (under_ev ht ⟨by omega, by omega⟩) .ret
def smallB (t : TabT) (r : List ((List Int) × (Int × (Bool × Unit)))) : Bool := r.all (fun c => decide (c.1.length ≤ 100)) && (decide (t.2.2.1.length ≤ 14) && (decide (t.2.2.2.2.1.length ≤ 6) && decide (t.2.1.length ≤ 100)))
theorem small_l0 (k : Nat) {t : TabT} (hm : t.2.2.1.length ≤ 9223372036854775807) : ∀ n j, j ≤ t.2.2.1.length → t.2.2.1.length - j < n → law21_Small_l0 k n t.2.2.1 (t.2.2.1.length : Int) (j : Int) t.1 t.2.1 t.2.2.1 t.2.2.2.1 t.2.2.2.2.1 = some (smallB t (t.2.2.1.drop j), ())
  | 0, _, _, h => absurd h (Nat.not_lt_zero _)
  | n + 1, j, hj, hn => by
    rw [law21_Small_l0_eq]
    by_cases c : j < t.2.2.1.length
    · have hx := List.getElem?_eq_getElem c
      rw [bt (by omega), nth_get hx, Option.bind_some, List.drop_eq_getElem_cons c]
      by_cases c1 : 100 < (t.2.2.1[j].1.length : Int)
      · rw [bt c1, show smallB t (t.2.2.1[j] :: t.2.2.1.drop (j + 1)) = false from by unfold smallB; rw [List.all_cons, dF (by omega)]; rfl]
      rw [bf c1, wr_i64 (by omega)]
      refine (small_l0 k hm n (j + 1) c (by omega)).trans ?_
      rw [show smallB t (t.2.2.1[j] :: t.2.2.1.drop (j + 1)) = smallB t (t.2.2.1.drop (j + 1)) from by unfold smallB; rw [List.all_cons, dT (p := t.2.2.1[j].1.length ≤ 100) (by omega)]; rfl]
    · have : j = t.2.2.1.length := by omega
      subst this
      rw [bf (by omega), List.drop_length]
      unfold smallB
      by_cases h1 : t.2.2.1.length ≤ 14
      · rw [bt (by omega), dT h1]
        by_cases h2 : t.2.2.2.2.1.length ≤ 6
        · rw [bt (by omega), dT h2]
          by_cases h3 : t.2.1.length ≤ 100
          · rw [dT (p := ((t.2.1.length : Int) ≤ 100)) (by omega), dT h3]; rfl
          · rw [dF (p := ((t.2.1.length : Int) ≤ 100)) (by omega), dF h3]; rfl
        · rw [bf (by omega), dF h2]; rfl
      · rw [bf (by omega), dF h1]; rfl
theorem small_ev {t : TabT} (hm : t.2.2.1.length ≤ 9223372036854775807) : Ev (fun k => law21_Small k t) (smallB t t.2.2.1, ()) := by
  refine ⟨t.2.2.1.length + 1, fun k hk => ?_⟩
  show law21_Small k t = _
  rw [law21_Small_eq]
  exact small_l0 k hm k 0 (by omega) (by omega)
theorem small_of {t : TabT} (h : smallB t t.2.2.1 = true) : t.2.2.1.length ≤ 14 ∧ t.2.2.2.2.1.length ≤ 6 ∧ t.2.1.length ≤ 100 ∧ ∀ c ∈ t.2.2.1, c.1.length ≤ 100 := by
  unfold smallB at h
  simp only [Bool.and_eq_true, List.all_eq_true, decide_eq_true_eq] at h
  exact ⟨h.2.1, h.2.2.1, h.2.2.2, h.1⟩
theorem awake21_ev : Ev (fun k => law21_awake k) (true, ()) := by
  simp only [law21_awake_eq]
  refine .bind (F := fun k => cat_RowKey k ((1 : Int), ([], ([], ((0 : Int), ([], ()))))) [((1 : Int), ((5 : Int), ([], ())))]) (rowkey_ev (t := ((1 : Int), ([], ([], ((0 : Int), ([], ())))))) (by constructor <;> decide) (by
    intro v hv
    simp only [List.mem_cons, List.not_mem_nil, or_false] at hv
    subst hv
    exact ⟨by constructor <;> decide, by simp⟩)) ?_
  exact ⟨0, fun k _ => by simp only []; decide +kernel⟩
theorem refOrd_is (k : Nat) (a b : ValT) : ref01_Order k a b = some (ordV a b, ()) := refOrder_is k a b
theorem wv_can {n : Int} (h : I64 n) : canV (wv n) := ⟨⟨wv_ok h, fun x hx => by cases hx⟩, .inr (.inl rfl)⟩
theorem ordV_self (v : ValT) : ordV v v = 0 := by have := ordV_anti v v; omega
theorem cmpV_cons (v : ValT) (a b : List ValT) : cmpV (v :: a) (v :: b) = cmpV a b := by
  show (if ordV v v = 0 then cmpV a b else ordV v v) = _
  rw [if_pos (ordV_self v)]
theorem cmpV_one (v w : ValT) : cmpV [v] [w] = ordV v w := by
  show (if ordV v w = 0 then 0 else ordV v w) = _
  split
  · omega
  · rfl
theorem within_nx (k : Nat) (p r : List Int) : ref01_Within k (p ++ r) p (nx p) = some (true, ()) := by
  rw [refWithin_is, ltL_app]
  by_cases hn : nx p = []
  · rw [dT hn]; rfl
  · rw [ltL_nx _ _ hn]; simp
theorem CatOrders_true (t : TabT) (a b : List ValT) (i : Int) (hT : wfD (.st (.pair (.int .i64) (.pair .str (.pair (.sl (.st (.pair .str (.pair (.int .i64) (.pair .bool .unit))))) (.pair (.int .i64) (.pair (.sl (.int .i64)) .unit)))))) t) (h : wfD (.sl (.st (.pair (.int .i64) (.pair (.int .i64) (.pair .str .unit))))) a) (h' : wfD (.sl (.st (.pair (.int .i64) (.pair (.int .i64) (.pair .str .unit))))) b) (hi : (Lit.int .i64 i).wf = true) : ∃ k, law21_CatOrders k t a b i = some (true, ()) := by
  refine Ev.ex (F := fun k => law21_CatOrders k t a b i) ?_
  obtain ⟨t1, t2, t3, t4, t5, _⟩ := hT
  have t1 := wf_i64 t1
  have t4 := wf_i64 t4
  have hm : t.2.2.1.length ≤ 9223372036854775807 := by have h := t3.1; have hmax : maxLen ≤ 9223372036854775807 := by decide
                                                       exact Nat.le_trans h hmax
  simp only [law21_CatOrders_eq]
  refine .bind awake21_ev ?_
  simp only [Bool.not_true, cond_false]
  refine .bind (F := fun k => law21_Small k t) (small_ev hm) ?_
  cases hs : smallB t t.2.2.1 with
  | false => exact .ret
  | true =>
  obtain ⟨s1, s2, s3, s4⟩ := small_of hs
  simp only [Bool.not_true, cond_false]
  refine .bind (few_ev h) ?_
  cases hb : fewB a a with
  | false => exact .ret
  | true =>
  obtain ⟨a1, a2⟩ := few_of h hb
  simp only [Bool.not_true, cond_false]
  refine .bind (few_ev h') ?_
  cases hb' : fewB b b with
  | false => exact .ret
  | true =>
  obtain ⟨b1, b2⟩ := few_of h' hb'
  simp only [Bool.not_true, cond_false]
  by_cases k1 : t.2.2.2.1 < 0
  · simp only [bt k1]; exact .ret
  by_cases k2 : (a.length : Int) ≤ t.2.2.2.1
  · simp only [bf k1, bt k2]; exact .ret
  by_cases k3 : (b.length : Int) ≤ t.2.2.2.1
  · simp only [bf k1, bf k2, bt k3]; exact .ret
  simp only [bf k1, bf k2, bf k3]
  refine .bind (plains_ev a1) (.bind (plains_ev b1) ?_)
  have ca : ∀ v ∈ a.map plainV, canV v := by
    intro v hv
    obtain ⟨w, hw, rfl⟩ := List.mem_map.1 hv
    exact can_plain (a2 w hw).1.1 (a2 w hw).2.1
  have cb : ∀ v ∈ b.map plainV, canV v := by
    intro v hv
    obtain ⟨w, hw, rfl⟩ := List.mem_map.1 hv
    exact can_plain (b2 w hw).1.1 (b2 w hw).2.1
  have la : (a.map plainV).length = a.length := by simp
  have lb : (b.map plainV).length = b.length := by simp
  generalize a.map plainV = A at *
  generalize b.map plainV = B at *
  have va : ∀ v ∈ A, valOk v := fun v hv => (ca v hv).1.1
  have vb : ∀ v ∈ B, valOk v := fun v hv => (cb v hv).1.1
  obtain ⟨kk, hkk⟩ := Int.eq_ofNat_of_zero_le (show 0 ≤ t.2.2.2.1 by omega)
  have ka : kk < A.length := by omega
  have kb : kk < B.length := by omega
  have w0 : I64 0 := by constructor <;> decide
  refine .bind (F := fun k => cat_RowKey k t A) (rowkey_ev t1 va) (.bind (F := fun k => cat_RowKey k t B) (rowkey_ev t1 vb) (.bind (F := fun k => cat_Rows k t) (rows_ev t1) ?_))
  have eA : trowK t A = [wv t.1, wv 0, A[kk]].flatMap encV := by unfold trowK; rw [hkk, atV_get ka]
  have eB : trowK t B = [wv t.1, wv 0, B[kk]].flatMap encV := by unfold trowK; rw [hkk, atV_get kb]
  have hA : ∀ v ∈ [wv t.1, wv 0, A[kk]], canV v := by
    intro v hv
    simp only [List.mem_cons, List.not_mem_nil, or_false] at hv
    rcases hv with rfl | rfl | rfl
    · exact wv_can t1
    · exact wv_can w0
    · exact ca _ (List.getElem_mem ka)
  have hB : ∀ v ∈ [wv t.1, wv 0, B[kk]], canV v := by
    intro v hv
    simp only [List.mem_cons, List.not_mem_nil, or_false] at hv
    rcases hv with rfl | rfl | rfl
    · exact wv_can t1
    · exact wv_can w0
    · exact cb _ (List.getElem_mem kb)
  have hlt : ltL (trowK t A) (trowK t B) = decide (ordV A[kk] B[kk] < 0) := by
    rw [eA, eB, ltL_keys _ _ hA hB, cmpV_cons, cmpV_cons, cmpV_one]
  have hAr : trowK t A = tundK t 0 ++ encV A[kk] := by rw [eA]; unfold tundK; simp [List.flatMap_cons]
  simp only [hkk, nth_get (List.getElem?_eq_getElem ka), nth_get (List.getElem?_eq_getElem kb), Option.bind_some, refOrd_is, hlt, show ∀ x : Bool, beqB x x = true from fun x => dT rfl, Bool.not_true, cond_false]
  rw [hAr]
  simp only [within_nx, Option.bind_some, Bool.not_true, cond_false]
  by_cases i1 : i < 0
  · simp only [bt i1]; exact .ret
  by_cases i2 : (t.2.2.2.2.1.length : Int) ≤ i
  · simp only [bf i1, bt i2]; exact .ret
  obtain ⟨ii, rfl⟩ := Int.eq_ofNat_of_zero_le (show 0 ≤ i by omega)
  have hii : ii < t.2.2.2.2.1.length := by omega
  have hx := List.getElem?_eq_getElem hii
  have hidx : idxV t (ii : Int) = some t.2.2.2.2.1[ii] := by unfold idxV; rw [if_neg (by omega), Int.toNat_natCast, hx]
  simp only [bf i1, bf i2, nth_get hx, Option.bind_some]
  generalize t.2.2.2.2.1[ii] = c at *
  by_cases j1 : c < 0
  · simp only [bt j1]; exact .ret
  by_cases j2 : (A.length : Int) ≤ c
  · simp only [bf j1, bt j2]; exact .ret
  by_cases j3 : (B.length : Int) ≤ c
  · simp only [bf j1, bf j2, bt j3]; exact .ret
  obtain ⟨cc, rfl⟩ := Int.eq_ofNat_of_zero_le (show 0 ≤ c by omega)
  have qa : cc < A.length := by omega
  have qb : cc < B.length := by omega
  simp only [bf j1, bf j2, bf j3]
  have w1 : I64 ((ii : Int) + 1) := ⟨by omega, by omega⟩
  rw [← hkk]
  refine .bind (F := fun k => cat_IndexKey k t (ii : Int) A) (idxkey_ev t1 (by omega) va _) (.bind (F := fun k => cat_IndexKey k t (ii : Int) B) (idxkey_ev t1 (by omega) vb _) (.bind (F := fun k => cat_Index k t (ii : Int)) (index_ev t1 (by omega) _) ?_))
  have fA : tidxK t (ii : Int) A = [wv t.1, wv ((ii : Int) + 1), A[cc], A[kk]].flatMap encV := by unfold tidxK; rw [hidx]; simp only []; rw [hkk, atV_get ka, atV_get qa]
  have fB : tidxK t (ii : Int) B = [wv t.1, wv ((ii : Int) + 1), B[cc], B[kk]].flatMap encV := by unfold tidxK; rw [hidx]; simp only []; rw [hkk, atV_get kb, atV_get qb]
  have fS : indS t (ii : Int) = (tundK t ((ii : Int) + 1), (nx (tundK t ((ii : Int) + 1)), ())) := by unfold indS; rw [hidx]
  have gA : ∀ v ∈ [wv t.1, wv ((ii : Int) + 1), A[cc], A[kk]], canV v := by
    intro v hv
    simp only [List.mem_cons, List.not_mem_nil, or_false] at hv
    rcases hv with rfl | rfl | rfl | rfl
    · exact wv_can t1
    · exact wv_can w1
    · exact ca _ (List.getElem_mem qa)
    · exact ca _ (List.getElem_mem ka)
  have gB : ∀ v ∈ [wv t.1, wv ((ii : Int) + 1), B[cc], B[kk]], canV v := by
    intro v hv
    simp only [List.mem_cons, List.not_mem_nil, or_false] at hv
    rcases hv with rfl | rfl | rfl | rfl
    · exact wv_can t1
    · exact wv_can w1
    · exact cb _ (List.getElem_mem qb)
    · exact cb _ (List.getElem_mem kb)
  have hlt2 : ltL (tidxK t (ii : Int) A) (tidxK t (ii : Int) B) = decide (cmpV [A[cc], A[kk]] [B[cc], B[kk]] < 0) := by
    rw [fA, fB, ltL_keys _ _ gA gB, cmpV_cons, cmpV_cons]
  have fAr : tidxK t (ii : Int) A = tundK t ((ii : Int) + 1) ++ [A[cc], A[kk]].flatMap encV := by rw [fA]; unfold tundK; simp [List.flatMap_cons]
  simp only [hkk, nth_get (List.getElem?_eq_getElem ka), nth_get (List.getElem?_eq_getElem kb), nth_get (List.getElem?_eq_getElem qa), nth_get (List.getElem?_eq_getElem qb), Option.bind_some, fS]
  refine .bind (refCmp_ev (by simp) (by simp)) ?_
  simp only [hlt2, show ∀ x : Bool, beqB x x = true from fun x => dT rfl, cond_true]
  rw [fAr]
  simp only [within_nx, Option.bind_some]
  exact .ret
end Go.Proofs.Ytmngjegceoidhaa.Den
