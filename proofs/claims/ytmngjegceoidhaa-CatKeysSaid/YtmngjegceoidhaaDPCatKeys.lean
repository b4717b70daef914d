import Derived.Test.YtmngjegceoidhaaDCatKeys
import Derived.Test.YtmngjegceoidhaaDen34
namespace Go.Proofs.Ytmngjegceoidhaa.Den
open Go Go.RowKit
set_option linter.unusedVariables false
attribute [local irreducible] bytes_Clone cat_Index cat_IndexKey cat_KeyOf cat_RowKey cat_Rows cat_at cat_column cat_under cat_whole law02_Few law02_Few_l0 law21_CatKeys law21_Small law21_Small_l0 law21_awake num_Flip num_Of num_Of_l0 num_Put num_Put_l0 num_Unflip okey_Next okey_Next_l0 okey_Of okey_Of_l0 okey_Put okey_Put_j0 okey_Put_j1 okey_Put_j2 okey_Put_l0 okey_Put_l1 okey_reader_take okey_reader_text okey_reader_text_j0 okey_reader_text_l0 okey_reader_value ref01_Flip ref01_Key ref01_Key_j0 ref01_Key_j1 ref01_Key_j2 ref01_Key_l0 ref01_Key_l1 ref01_Next ref01_Next_l0 ref01_Of ref01_Of_l0 ref01_Put ref01_Put_l0 ref01_Unkey ref01_Unkey_j0 ref01_Unkey_j1 ref01_Unkey_j2 ref01_Unkey_l0 ref01_Unkey_l1 ref21_Index ref21_IndexKey ref21_KeyOf ref21_RowKey ref21_Rows ref21_SameSpan ref21_at ref21_n
/-! ### Bytes of a number -/
def be : Nat → Nat → List Int
  | 0, _ => []
  | n + 1, u => ((u / 256 ^ n % 256 : Nat) : Int) :: be n u
theorem be_length : ∀ n u, (be n u).length = n
  | 0, _ => rfl
  | n + 1, u => congrArg (· + 1) (be_length n u)
theorem be_wf : ∀ n u x, x ∈ be n u → (Lit.int .u8 x).wf = true
  | n + 1, u, x, h => by
    rcases List.mem_cons.1 h with rfl | h
    · have := Nat.mod_lt (u / 256 ^ n) (show 0 < 256 by decide)
      simp [Lit.wf, IntKind.min, IntKind.max, IntKind.signed, IntKind.bits]; omega
    · exact be_wf n u x h
theorem mod_step (u n : Nat) : u % 256 ^ (n + 1) = u % 256 ^ n + 256 ^ n * (u / 256 ^ n % 256) := by
  rw [Nat.pow_succ]; exact Nat.mod_mul
theorem lt_step {p a b r s : Nat} (hr : r < p) (hs : s < p) : (decide (a < b) || (decide (a = b) && decide (r < s))) = decide (r + p * a < s + p * b) := by
  rcases Nat.lt_trichotomy a b with h | h | h
  · have h1 := Nat.mul_le_mul_left p (show a + 1 ≤ b from h)
    rw [Nat.mul_succ] at h1
    rw [decide_eq_true h, decide_eq_true (show r + p * a < s + p * b by omega)]; rfl
  · subst h
    simp
  · have h1 := Nat.mul_le_mul_left p (show b + 1 ≤ a from h)
    rw [Nat.mul_succ] at h1
    rw [decide_eq_false (show ¬ a < b by omega), decide_eq_false (show ¬ a = b by omega), decide_eq_false (show ¬ r + p * a < s + p * b by omega)]; rfl
theorem ltL_be : ∀ n u v, ltL (be n u) (be n v) = decide (u % 256 ^ n < v % 256 ^ n)
  | 0, _, _ => by simp [be, ltL, Nat.mod_one]
  | n + 1, u, v => by
    show (decide (((u / 256 ^ n % 256 : Nat) : Int) < ((v / 256 ^ n % 256 : Nat) : Int)) || (decide (((u / 256 ^ n % 256 : Nat) : Int) = ((v / 256 ^ n % 256 : Nat) : Int)) && ltL (be n u) (be n v))) = _
    rw [ltL_be n u v, mod_step, mod_step]
    have hp : 0 < 256 ^ n := Nat.pow_pos (by decide)
    rw [← lt_step (Nat.mod_lt u hp) (Nat.mod_lt v hp)]
    congr 2
    · simp only [Int.ofNat_lt]
    · simp only [Int.natCast_inj]
theorem be_eq {u v : Nat} : ∀ n, be n u = be n v → u % 256 ^ n = v % 256 ^ n
  | 0, _ => by simp [Nat.mod_one]
  | n + 1, h => by
    have h : ((u / 256 ^ n % 256 : Nat) : Int) :: be n u = ((v / 256 ^ n % 256 : Nat) : Int) :: be n v := h
    injection h with h1 h2
    rw [mod_step, mod_step, be_eq n h2, Int.natCast_inj.1 h1]
theorem beqL_be {u v : Nat} (hu : u < 18446744073709551616) (hv : v < 18446744073709551616) : beqL (be 8 u) (be 8 v) = decide (u = v) := by
  unfold beqL
  by_cases h : u = v
  · subst h; simp
  · have : ¬ be 8 u = be 8 v := fun e => h (by have := be_eq 8 e; omega)
    simp [h, this]
theorem shr_is {u j : Nat} (hj : j < 8) : shrK .u64 (u : Int) (wr .i64 (8 * (j : Int))) = some (((u / 256 ^ j : Nat)) : Int) := by
  rw [wr_i64 (by omega)]
  have hj : j = 0 ∨ j = 1 ∨ j = 2 ∨ j = 3 ∨ j = 4 ∨ j = 5 ∨ j = 6 ∨ j = 7 := by omega
  rcases hj with rfl | rfl | rfl | rfl | rfl | rfl | rfl | rfl <;> rfl
theorem set_last (m : Nat) (l : List Int) (x : Int) : (List.replicate (m + 1) (0 : Int) ++ l).set m x = List.replicate m 0 ++ x :: l := by
  rw [List.replicate_succ', List.append_assoc, List.set_append_right _ _ (by simp)]
  simp
theorem put_loop (k : Nat) {u w : Nat} (hw : w ≤ 8) : ∀ n j, j ≤ w → w - j < n → num_Put_l0 k n (u : Int) (w : Int) (w : Int) (j : Int) (List.replicate (w - j) 0 ++ be j u) = some (be w u, ())
  | 0, _, _, h => absurd h (Nat.not_lt_zero _)
  | n + 1, j, hj, hn => by
    rw [num_Put_l0_eq]
    by_cases c : j < w
    · obtain ⟨m, hm⟩ : ∃ m, w - j = m + 1 := ⟨w - j - 1, by omega⟩
      have e1 : wr .i64 (wr .i64 ((w : Int) - 1) - (j : Int)) = (m : Int) := by
        rw [wr_i64 (n := (w : Int) - 1) (by omega), wr_i64 (by omega)]; omega
      have hlen : (List.replicate (w - j) (0 : Int) ++ be j u).length = w := by simp [be_length]; omega
      have e2 : wr .u8 (((u / 256 ^ j : Nat)) : Int) = ((u / 256 ^ j % 256 : Nat) : Int) := by rw [wrm_u8]; rfl
      rw [bif_true (by simp; omega), shr_is (by omega), Option.bind_some, e1, hlen, must_true (by unfold inI; simp; omega), must_true (by simp [Nat.blt]; omega), e2, wr_i64 (by omega), hm, Int.toNat_natCast, set_last]
      have ih := put_loop k (u := u) hw n (j + 1) c (by omega)
      have e3 : w - (j + 1) = m := by omega
      rw [e3] at ih
      exact ih
    · have : j = w := by omega
      subst this
      rw [bif_false (by simp)]
      simp
theorem num_Put_is (k : Nat) {u w : Nat} (hw : w ≤ 8) : num_Put (k + 10) (u : Int) (w : Int) = some (be w u, ()) := by
  rw [num_Put_eq, bif_false (by simp), bif_false (by simp; omega), must_true (by simp [beqI]), Int.toNat_natCast, lim_ok (by omega)]
  have := put_loop (k + 10) (u := u) hw (k + 10) 0 (by omega) (by omega)
  simpa [be] using this
/-! ### Keys -/
abbrev ValT := Int × (Int × ((List Int) × Unit))
def esc (s : List Int) : List Int := s.flatMap fun x => if x = 0 then [x, 255] else [x]
def encV (v : ValT) : List Int := if v.1 = 1 then 2 :: be 8 (v.2.1 + 9223372036854775808).toNat else if v.1 = 2 then 3 :: (esc v.2.2.1 ++ [0, 1]) else [1]
theorem esc_cons (x : Int) (s : List Int) : esc (x :: s) = (if x = 0 then [x, 255] else [x]) ++ esc s := rfl
theorem esc_length : ∀ s : List Int, (esc s).length ≤ 2 * s.length
  | [] => by simp [esc]
  | x :: s => by
    have := esc_length s
    rw [esc_cons]
    split <;> simp <;> omega
def valOk (v : ValT) : Prop := (-9223372036854775808 ≤ v.2.1 ∧ v.2.1 ≤ 9223372036854775807) ∧ v.2.2.1.length ≤ 400
theorem encV_length {v : ValT} (h : valOk v) : (encV v).length ≤ 1000 := by
  have := esc_length v.2.2.1
  have := h.2
  unfold encV
  split
  · simp [be_length]
  · split <;> simp <;> omega
theorem oFlip_is (k : Nat) {a : Int} (h : -9223372036854775808 ≤ a ∧ a ≤ 9223372036854775807) : num_Flip k a = some (a + 9223372036854775808, ()) := by
  rw [num_Flip_eq]
  unfold wr
  rw [flip_eq h]
theorem oPut_l1 (k n : Nat) (l : List ValT) (len j : Int) (c : Bool) {s : List Int} (hs : s.length ≤ 400) : ∀ n1 i b out, i ≤ s.length → s.length - i < n1 → List.length out + 2 * (s.length - i) ≤ 60000000 →
    okey_Put_l1 (k + 1) n n1 b out l len j c s (s.length : Int) (i : Int) = okey_Put_j2 (k + 1) n false (out ++ (esc (s.drop i) ++ [0, 1])) l len j
  | 0, _, _, _, _, h, _ => absurd h (Nat.not_lt_zero _)
  | n1 + 1, i, b, out, hi, hn, ho => by
    rw [okey_Put_l1_eq]
    by_cases d : i < s.length
    · have hx := List.getElem?_eq_getElem d
      have hd : s.drop i = s[i] :: s.drop (i + 1) := List.drop_eq_getElem_cons d
      rw [bt (by omega), nth_get hx, Option.bind_some, lim_ok (by simp; omega), hd, esc_cons]
      by_cases e : s[i] = 0
      · rw [bt e, if_pos e, lim_ok (by simp; omega), okey_Put_j1_eq, wr_next d (by omega)]
        refine (oPut_l1 k n l len j c hs n1 (i + 1) ((b && [s[i]].isEmpty) && [(255 : Int)].isEmpty) ((out ++ [s[i]]) ++ [(255 : Int)]) d (by omega) (by simp; omega)).trans ?_
        simp
      · rw [bf e, if_neg e, okey_Put_j1_eq, wr_next d (by omega)]
        refine (oPut_l1 k n l len j c hs n1 (i + 1) (b && [s[i]].isEmpty) (out ++ [s[i]]) d (by omega) (by simp; omega)).trans ?_
        simp
    · have : i = s.length := by omega
      subst this
      rw [bf (by omega), lim_ok (by simp; omega), List.drop_length, show (b && [(0 : Int), (1 : Int)].isEmpty) = false from Bool.and_false b]
      rfl
theorem oPut_loop (k : Nat) {l : List ValT} (hl : ∀ v ∈ l, valOk v) (hlen : l.length ≤ 400) : ∀ n j b out, j ≤ l.length → l.length - j < n → List.length out + 1000 * (l.length - j) ≤ 50000000 →
    okey_Put_l0 (k + 500) n b out l (l.length : Int) (j : Int) = some ((b && (l.drop j).isEmpty, out ++ (l.drop j).flatMap encV), ())
  | 0, _, _, _, _, h, _ => absurd h (Nat.not_lt_zero _)
  | n + 1, j, b, out, hj, hn, ho => by
    rw [okey_Put_l0_eq]
    by_cases d : j < l.length
    · have hx := List.getElem?_eq_getElem d
      have hd : l.drop j = l[j] :: l.drop (j + 1) := List.drop_eq_getElem_cons d
      have hv := hl _ (List.getElem_mem d)
      have hle := encV_length hv
      rw [bt (by omega), nth_get hx, Option.bind_some, hd, List.flatMap_cons, show ∀ x : ValT, (b && (x :: l.drop (j + 1)).isEmpty) = false from fun _ => Bool.and_false b]
      generalize l[j] = v at *
      have next : okey_Put_j0 (k + 500) n false (out ++ encV v) l (l.length : Int) (j : Int) = some ((false, out ++ (encV v ++ (l.drop (j + 1)).flatMap encV)), ()) := by
        show okey_Put_j0 (k + 499 + 1) n _ _ _ _ _ = _
        rw [okey_Put_j0_eq, wr_next d (by omega)]
        have := oPut_loop k hl hlen n (j + 1) false (out ++ encV v) d (by omega) (by simp; omega)
        rw [List.append_assoc] at this
        exact this
      have next2 : okey_Put_j2 (k + 500) n false (out ++ encV v) l (l.length : Int) (j : Int) = some ((false, out ++ (encV v ++ (l.drop (j + 1)).flatMap encV)), ()) := by
        show okey_Put_j2 (k + 499 + 1) n _ _ _ _ _ = _
        rw [okey_Put_j2_eq]
        exact next
      by_cases c1 : v.1 = 1
      · have he : encV v = 2 :: be 8 (v.2.1 + 9223372036854775808).toNat := if_pos c1
        obtain ⟨u, hu⟩ := Int.eq_ofNat_of_zero_le (show 0 ≤ v.2.1 + 9223372036854775808 by have := hv.1; omega)
        rw [bt c1, lim_ok (by simp; omega), oFlip_is _ hv.1, Option.bind_some, hu, show num_Put (k + 500) (u : Int) (8 : Int) = _ from num_Put_is (k + 490) (u := u) (w := 8) (by omega), Option.bind_some, lim_ok (by simp [be_length]; omega)]
        have e2 : (out ++ [(2 : Int)]) ++ be 8 u = out ++ encV v := by rw [he, hu]; simp
        rw [e2, show ((b && [(2 : Int)].isEmpty) && (be 8 u).isEmpty) = false by simp]
        exact next
      rw [bf c1]
      by_cases c2 : v.1 = 2
      · have he : encV v = 3 :: (esc v.2.2.1 ++ [0, 1]) := by unfold encV; rw [if_neg c1, if_pos c2]
        have hs := hv.2
        have h := oPut_l1 (k + 499) n l (l.length : Int) (j : Int) false hs (k + 500) 0 (b && [(3 : Int)].isEmpty) (out ++ [(3 : Int)]) (by omega) (by omega) (by simp; omega)
        rw [bt c2, lim_ok (by simp; omega)]
        refine h.trans ?_
        have e2 : (out ++ [(3 : Int)]) ++ (esc (v.2.2.1.drop 0) ++ [0, 1]) = out ++ encV v := by rw [he]; simp
        rw [e2]
        exact next2
      · have he : encV v = [1] := by unfold encV; rw [if_neg c1, if_neg c2]
        rw [bf c2, lim_ok (by simp; omega), ← he, show (b && (encV v).isEmpty) = false by rw [he]; exact Bool.and_false b]
        exact next2
    · have : j = l.length := by omega
      subst this
      rw [bf (by omega), List.drop_length]
      simp
theorem okey_Put_is (k : Nat) {l : List ValT} (hl : ∀ v ∈ l, valOk v) (hlen : l.length ≤ 400) : okey_Put (k + 500) l = some ((l.isEmpty, l.flatMap encV), ()) := by
  rw [okey_Put_eq]
  have := oPut_loop k hl hlen (k + 500) 0 true [] (by omega) (by omega) (by simp; omega)
  simpa using this
/-! ### The next bytes -/
def nx : List Int → List Int
  | [] => []
  | x :: r => match nx r with
    | [] => if x = 255 then [] else [x + 1]
    | y :: t => x :: y :: t
theorem nx_n {x : Int} {r : List Int} (h : nx r = []) : nx (x :: r) = if x = 255 then [] else [x + 1] := by
  conv => lhs; unfold nx
  rw [h]
theorem nx_k {x y : Int} {r s : List Int} (h : nx r = y :: s) : nx (x :: r) = x :: nx r := by
  conv => lhs; unfold nx
  rw [h]
theorem nx_255 : ∀ l, nx (l ++ [255]) = nx l
  | [] => rfl
  | x :: r => by
    show (match nx (r ++ [255]) with | [] => if x = 255 then [] else [x + 1] | y :: t => x :: y :: t) = _
    rw [nx_255 r]; rfl
theorem nx_c {c : Int} (hc : c ≠ 255) : ∀ l, nx (l ++ [c]) = l ++ [c + 1]
  | [] => if_neg hc
  | x :: r => by
    show (match nx (r ++ [c]) with | [] => if x = 255 then [] else [x + 1] | y :: t => x :: y :: t) = _
    rw [nx_c hc r]
    cases r <;> rfl
abbrev Byt (l : List Int) : Prop := ∀ x ∈ l, (Lit.int .u8 x).wf = true
theorem take_snoc {l : List Int} {j : Nat} (h : j < l.length) : l.take (j + 1) = l.take j ++ [l[j]] := List.take_succ_eq_append_getElem h
theorem okNext_l0 (k : Nat) {b : Bool} {l : List Int} (hb : b = true → l = []) (hl : l.length ≤ 1000000) (hw : Byt l) : ∀ n j, j ≤ l.length → j < n → okey_Next_l0 k n b l ((j : Int) - 1) = some (nx (l.take j), ())
  | 0, _, _, h => absurd h (Nat.not_lt_zero _)
  | n + 1, 0, _, _ => by
    rw [okey_Next_l0_eq, bf (by omega)]; rfl
  | n + 1, j + 1, hj, hn => by
    have hlt : j < l.length := hj
    have e : ((j + 1 : Nat) : Int) - 1 = (j : Int) := by omega
    rw [e, okey_Next_l0_eq, bt (by omega), nth_get (List.getElem?_eq_getElem hlt), Option.bind_some, take_snoc hlt]
    have hx := wf_u8 (hw _ (List.getElem_mem hlt))
    by_cases c : l[j] = 255
    · rw [bif_false (by simp [c]), c, nx_255, wr_i64 (by omega)]
      exact okNext_l0 k hb hl hw n j (by omega) (by omega)
    · have hb0 : b = false := by
        cases b with
        | false => rfl
        | true => have := hb rfl; subst this; simp at hlt
      have ht : (l.take (j + 1)).length = j + 1 := by simp; omega
      have hg : (l.take (j + 1))[j]? = some l[j] := by rw [List.getElem?_take_of_lt (by omega)]; exact List.getElem?_eq_getElem hlt
      rw [bif_true (by simp [c]), nx_c c, wr_next hlt (by omega), cut_all (by omega), Option.bind_some, bytes_Clone_eq, hb0, bif_false rfl, ht, lim_ok (by omega), Option.bind_some]
      show must (inI (j : Int) (l.take (j + 1)).length) (((l.take (j + 1))[(j : Int).toNat]?).bind _) = _
      rw [Int.toNat_natCast, hg, Option.bind_some, ht, must_true (inI_t (by omega) (by omega)), must_true (inI_t (by omega) (by omega)), must_true (blt_t (by omega)), wr_u8 (by omega), take_snoc hlt, List.set_append_right _ _ (by simp; omega)]
      have : j - (l.take j).length = 0 := by simp; omega
      rw [this]; rfl
theorem okNext_ev {b : Bool} {l : List Int} (hb : b = true → l = []) (hl : l.length ≤ 1000000) (hw : Byt l) : Ev (fun k => okey_Next k b l) (nx l, ()) := by
  refine ⟨l.length + 1, fun k hk => ?_⟩
  show okey_Next k b l = _
  rw [okey_Next_eq]
  show okey_Next_l0 k k b l (wr .i64 ((l.length : Int) - 1)) = _
  rw [wr_i64 (by omega), okNext_l0 k hb hl hw k l.length (by omega) (by omega), List.take_length]

/-! ### The order of bytes -/
theorem cmp_lt : ∀ a b, (cmpL a b < 0) ↔ ltL a b = true
  | [], [] => by simp [cmpL, ltL]
  | [], _ :: _ => by simp [cmpL, ltL]
  | _ :: _, [] => by simp [cmpL, ltL]
  | a :: x, b :: y => by
    have ih := cmp_lt x y
    unfold cmpL ltL
    by_cases h : a < b
    · simp [h]
    · by_cases h2 : b < a
      · have : ¬ a = b := by omega
        simp [h, h2, this]
      · have : a = b := by omega
        simp [this, ih]
theorem ltL_asym : ∀ a b, ltL a b = true → ltL b a = false
  | [], [], _ => rfl
  | [], _ :: _, _ => rfl
  | _ :: _, [], h => by simp [ltL] at h
  | a :: x, b :: y, h => by
    simp only [ltL, Bool.or_eq_true, Bool.and_eq_true, decide_eq_true_eq] at h
    simp only [ltL, Bool.or_eq_false_iff, Bool.and_eq_false_iff, decide_eq_false_iff_not]
    rcases h with h | ⟨h, h2⟩
    · exact ⟨by omega, .inl (by omega)⟩
    · exact ⟨by omega, .inr (ltL_asym x y h2)⟩
theorem ltL_irr : ∀ a, ltL a a = false
  | [] => rfl
  | x :: r => by simp [ltL, ltL_irr r]
theorem ltL_app : ∀ p t, ltL (p ++ t) p = false
  | [], t => by cases t <;> rfl
  | x :: r, t => by simp [ltL, ltL_app r t]
theorem ltL_nx : ∀ p t, nx p ≠ [] → ltL (p ++ t) (nx p) = true
  | [], _, h => absurd rfl h
  | x :: r, t, h => by
    cases hn : nx r with
    | nil =>
      rw [nx_n hn] at h ⊢
      by_cases hx : x = 255
      · rw [if_pos hx] at h; exact absurd rfl h
      · rw [if_neg hx]
        have : x < x + 1 := by omega
        simp [ltL, this]
    | cons y s =>
      rw [nx_k hn]
      have := ltL_nx r t (by rw [hn]; simp)
      simp [ltL, this]
theorem pre_of_nx : ∀ r s, Byt s → nx r = [] → Byt r → ltL s r = false → ∃ t, s = r ++ t
  | [], s, _, _, _, _ => ⟨s, rfl⟩
  | x :: r, s, hs, hn, hr, hl => by
    have h1 : nx r = [] := by
      cases h : nx r with
      | nil => rfl
      | cons y t => unfold nx at hn; rw [h] at hn; simp at hn
    have h2 : x = 255 := by
      unfold nx at hn; rw [h1] at hn
      by_cases hx : x = 255
      · exact hx
      · simp [hx] at hn
    cases s with
    | nil => simp [ltL] at hl
    | cons c s =>
      have hc := wf_u8 (hs c List.mem_cons_self)
      simp [ltL] at hl
      obtain ⟨l1, l2⟩ := hl
      have hc2 : c = x := by omega
      obtain ⟨t, ht⟩ := pre_of_nx r s (fun y hy => hs y (List.mem_cons_of_mem _ hy)) h1 (fun y hy => hr y (List.mem_cons_of_mem _ hy)) (l2 hc2)
      exact ⟨t, by rw [ht, hc2]; rfl⟩
theorem nx_out : ∀ p a, Byt a → Byt p → nx p ≠ [] → ltL a p = false → (¬ ∃ t, a = p ++ t) → ltL a (nx p) = false
  | [], a, _, _, h, _, _ => absurd rfl h
  | x :: r, [], _, _, _, h, _ => by simp [ltL] at h
  | x :: r, c :: s, ha, hp, hne, hl, hno => by
    have hs : Byt s := fun y hy => ha y (List.mem_cons_of_mem _ hy)
    have hr : Byt r := fun y hy => hp y (List.mem_cons_of_mem _ hy)
    simp [ltL] at hl
    obtain ⟨l1, l2⟩ := hl
    have hno2 : c = x → ¬ ∃ t, s = r ++ t := fun e ⟨t, ht⟩ => hno ⟨t, by rw [ht, e]; rfl⟩
    cases hn : nx r with
    | nil =>
      rw [nx_n hn] at hne ⊢
      by_cases hx : x = 255
      · rw [if_pos hx] at hne; exact absurd rfl hne
      · rw [if_neg hx]
        have hcx : c ≠ x := fun e => hno2 e (pre_of_nx r s hs hn hr (l2 e))
        have : ¬ c < x + 1 := by omega
        cases s <;> simp [ltL, this]
    | cons y t =>
      rw [nx_k hn]
      simp only [ltL, Bool.or_eq_false_iff, Bool.and_eq_false_iff, decide_eq_false_iff_not]
      refine ⟨by omega, ?_⟩
      by_cases hc : c = x
      · exact .inr (nx_out r s hs hr (by rw [hn]; simp) (l2 hc) (hno2 hc))
      · exact .inl hc
theorem encV_bytes {v : ValT} (hv : valOk v) (hw : ∀ x ∈ v.2.2.1, (Lit.int .u8 x).wf = true) : ∀ x ∈ encV v, (Lit.int .u8 x).wf = true := by
  have he : ∀ x ∈ esc v.2.2.1, (Lit.int .u8 x).wf = true := by
    intro x hx
    obtain ⟨y, hy, hxy⟩ := List.mem_flatMap.1 hx
    have := hw y hy
    split at hxy
    · simp at hxy
      rcases hxy with rfl | rfl
      · exact this
      · decide
    · simp at hxy; subst hxy; exact this
  intro x hx
  unfold encV at hx
  split at hx
  · rcases List.mem_cons.1 hx with rfl | hx
    · decide
    · exact be_wf _ _ x hx
  · split at hx
    · rcases List.mem_cons.1 hx with rfl | hx
      · decide
      · rcases List.mem_append.1 hx with hx | hx
        · exact he x hx
        · simp at hx; rcases hx with rfl | rfl <;> decide
    · simp at hx; subst hx; decide
theorem flat_len : ∀ l : List ValT, (∀ v ∈ l, valOk v) → (l.flatMap encV).length ≤ 1000 * l.length
  | [], _ => by simp
  | v :: l, hv => by
    have := encV_length (hv v List.mem_cons_self)
    have ih := flat_len l fun w hw => hv w (List.mem_cons_of_mem _ hw)
    rw [List.flatMap_cons, List.length_append, List.length_cons]
    omega
def fewB (l : List ValT) (r : List ValT) : Bool := r.all (fun x => decide (x.2.2.1.length ≤ 100)) && decide (l.length ≤ 20)
theorem few_l0 (k : Nat) {l : List ValT} (hm : l.length ≤ 9223372036854775807) : ∀ n j, j ≤ l.length → l.length - j < n → law02_Few_l0 k n l l (l.length : Int) (j : Int) = some (fewB l (l.drop j), ())
  | 0, _, _, h => absurd h (Nat.not_lt_zero _)
  | n + 1, j, hj, hn => by
    rw [law02_Few_l0_eq]
    by_cases c : j < l.length
    · have hx := List.getElem?_eq_getElem c
      rw [bt (by omega), nth_get hx, Option.bind_some, List.drop_eq_getElem_cons c]
      by_cases c1 : 100 < (l[j].2.2.1.length : Int)
      · rw [bt c1, show fewB l (l[j] :: l.drop (j + 1)) = false from by unfold fewB; rw [List.all_cons, dF (by omega)]; rfl]
      rw [bf c1, wr_i64 (by omega)]
      refine (few_l0 k hm n (j + 1) c (by omega)).trans ?_
      rw [show fewB l (l[j] :: l.drop (j + 1)) = fewB l (l.drop (j + 1)) from by unfold fewB; rw [List.all_cons, dT (by omega)]; rfl]
    · have : j = l.length := by omega
      subst this
      rw [bf (by omega), List.drop_length]
      have : decide ((l.length : Int) ≤ 20) = decide (l.length ≤ 20) := by
        by_cases h : l.length ≤ 20
        · rw [dT h, dT (by omega)]
        · rw [dF h, dF (by omega)]
      rw [this]; rfl
theorem few_ev {l : List ValT} (h : wfD (.sl (.st (.pair (.int .i64) (.pair (.int .i64) (.pair .str .unit))))) l) : Ev (fun k => law02_Few k l) (fewB l l, ()) := by
  obtain ⟨hlen, hall⟩ := h
  have hlen : l.length ≤ maxLen := hlen
  have hmax : maxLen ≤ 9223372036854775807 := by decide
  refine ⟨l.length + 1, fun k hk => ?_⟩
  show law02_Few k l = _
  rw [law02_Few_eq]
  exact few_l0 k (by omega) k 0 (by omega) (by omega)
theorem few_ev' {l : List ValT} (h : l.length ≤ 9223372036854775807) : Ev (fun k => law02_Few k l) (fewB l l, ()) := by
  refine ⟨l.length + 1, fun k hk => ?_⟩
  show law02_Few k l = _
  rw [law02_Few_eq]
  exact few_l0 k h k 0 (by omega) (by omega)
theorem few_of {l : List ValT} (h : wfD (.sl (.st (.pair (.int .i64) (.pair (.int .i64) (.pair .str .unit))))) l) (hb : fewB l l = true) : l.length ≤ 20 ∧ ∀ v ∈ l, (valOk v ∧ v.2.2.1.length ≤ 100) ∧ (∀ x ∈ v.2.2.1, (Lit.int .u8 x).wf = true) ∧ (-9223372036854775808 ≤ v.1 ∧ v.1 ≤ 9223372036854775807) := by
  obtain ⟨hlen, hall⟩ := h
  unfold fewB at hb
  simp only [Bool.and_eq_true, List.all_eq_true, decide_eq_true_eq] at hb
  refine ⟨hb.2, fun v hv => ?_⟩
  obtain ⟨q0, q1, ⟨_, q2⟩, _⟩ := hall v hv
  have := hb.1 v hv
  exact ⟨⟨⟨wf_i64 q1, by omega⟩, this⟩, q2, wf_i64 q0⟩
def ofN (s : Nat) (x : Int) : Nat := (s * 256 + x.toNat) % 18446744073709551616
theorem ofN_lt (s : Nat) (x : Int) : ofN s x < 18446744073709551616 := Nat.mod_lt _ (by decide)
theorem or_add {a x : Nat} (h : x < 256) : (a * 256) ||| x = a * 256 + x := by
  have := Nat.two_pow_add_eq_or_of_lt (i := 8) h a
  rw [Nat.mul_comm a 256]
  exact this.symm
theorem of_step {s : Nat} {x : Int} (hs : s < 18446744073709551616) (hx : (Lit.int .u8 x).wf = true) : Go.bits .or .u64 (wr .u64 ((s : Int) * 256)) (wr .u64 x) = ((ofN s x : Nat) : Int) := by
  have := wf_u8 hx
  obtain ⟨y, rfl⟩ := Int.eq_ofNat_of_zero_le this.1
  have e1 : wr .u64 ((s : Int) * 256) = (((s % 72057594037927936) * 256 : Nat) : Int) := by rw [wrm_u64]; omega
  rw [e1, wr_u64 (n := (y : Int)) (by omega), u64_or_nat _ _ (by omega) (by omega), or_add (by omega)]
  unfold ofN
  rw [Int.toNat_natCast]
  omega
theorem num_Of_is (k : Nat) {l : List Int} (hl : ∀ x ∈ l, (Lit.int .u8 x).wf = true) (hn : l.length < k + 10) (hm : l.length ≤ 4611686018427387904) : num_Of (k + 10) l = some (((l.foldl ofN 0 : Nat) : Int), ()) := by
  rw [num_Of_eq]
  have := foldLoop l (fun n (s : Nat) j => num_Of_l0 (k + 10) n (s : Int) l (l.length : Int) j) ofN (fun s => some ((s : Int), ())) (fun s => s < 18446744073709551616) (fun s x _ _ => ofN_lt s x)
    (fun n s j x hs hx => by
      show num_Of_l0 (k + 10) (n + 1) _ _ _ _ = num_Of_l0 (k + 10) n _ _ _ _
      have hj : j < l.length := (List.getElem?_eq_some_iff.1 hx).1
      rw [num_Of_l0_eq, bif_true (by simp; omega), nth_get hx, Option.bind_some, of_step hs (hl x (List.mem_of_getElem? hx)), wr_next hj hm])
    (fun n s hs => by
      show num_Of_l0 (k + 10) (n + 1) _ _ _ _ = _
      rw [num_Of_l0_eq, bif_false (by simp)])
    (k + 10) 0 0 (by omega) (by omega) (by omega)
  rw [List.drop_zero] at this
  exact this
theorem fold_be (u : Nat) : ∀ (n s : Nat), s < 18446744073709551616 → (be n u).foldl ofN s = (s * 256 ^ n + u % 256 ^ n) % 18446744073709551616
  | 0, s, h => by simp [be, Nat.mod_one]; omega
  | n + 1, s, h => by
    show (be n u).foldl ofN (ofN s ((u / 256 ^ n % 256 : Nat) : Int)) = _
    rw [fold_be u n _ (ofN_lt _ _), mod_step]
    unfold ofN
    rw [Int.toNat_natCast, Nat.add_mod, Nat.mod_mul_mod, ← Nat.add_mod]
    congr 1
    rw [Nat.pow_succ, Nat.add_mul]
    have h1 : s * 256 * 256 ^ n = s * (256 ^ n * 256) := by ac_rfl
    have h2 : u / 256 ^ n % 256 * 256 ^ n = 256 ^ n * (u / 256 ^ n % 256) := Nat.mul_comm _ _
    omega
/-! ### Keys, read -/
def textD : List Int → Option (List Int × List Int)
  | [] => none
  | [x] => if x = 0 then none else none
  | x :: y :: r => if x = 0 then (if y = 255 then (textD r).map fun p => (x :: p.1, p.2) else if y = 1 then some ([], r) else none) else (textD (y :: r)).map fun p => (x :: p.1, p.2)
theorem textD_esc : ∀ (s r : List Int), textD (esc s ++ 0 :: 1 :: r) = some (s, r)
  | [], r => by simp [esc, textD]
  | x :: s, r => by
    have ih := textD_esc s r
    rw [esc_cons]
    by_cases h : x = 0
    · subst h
      simp [textD, ih]
    · rw [if_neg h, List.singleton_append]
      cases he : esc s ++ 0 :: 1 :: r with
      | nil => simp at he
      | cons y t =>
        rw [he] at ih
        show textD (x :: (esc s ++ 0 :: 1 :: r)) = _
        rw [he]
        simp [textD, h, ih]
theorem textD_back : ∀ (n : Nat) (f s r : List Int), f.length ≤ n → textD f = some (s, r) → f = esc s ++ 0 :: 1 :: r ∧ s.length + r.length < f.length
  | _, [], s, r, _, h => by simp [textD] at h
  | _, [x], s, r, _, h => by simp [textD] at h
  | 0, _ :: _ :: _, _, _, hn, _ => by simp at hn
  | n + 1, x :: y :: t, s, r, hn, h => by
    unfold textD at h
    split at h
    · rename_i hx
      subst hx
      split at h
      · rename_i hy
        subst hy
        obtain ⟨p, h1, h2⟩ := Option.map_eq_some_iff.1 h
        cases h2
        obtain ⟨k1, k2⟩ := textD_back n t p.1 p.2 (by simp at hn; omega) h1
        refine ⟨?_, by simp; omega⟩
        rw [esc_cons, if_pos rfl]
        simp [← k1]
      · split at h
        · rename_i hy
          subst hy
          cases h
          exact ⟨rfl, by simp; omega⟩
        · cases h
    · rename_i hx
      obtain ⟨p, h1, h2⟩ := Option.map_eq_some_iff.1 h
      cases h2
      obtain ⟨k1, k2⟩ := textD_back n (y :: t) p.1 p.2 (by simp at hn ⊢; omega) h1
      refine ⟨?_, by simp at k2 ⊢; omega⟩
      rw [esc_cons, if_neg hx]
      simp [← k1]
theorem take_some (k : Nat) {n : Nat} {r : List Int} (b : Bool) (h : n ≤ r.length) : okey_reader_take k (n : Int) r b = some (r.take n, ((r.drop n, (b, ())), ())) := by
  rw [okey_reader_take_eq, bf (by omega), show cut r 0 (n : Int) = _ from cut_ok (l := r) (a := 0) (b := n) (by omega) h, Option.bind_some, cut_ok h (Nat.le_refl _), Option.bind_some]
  simp
theorem take_none (k : Nat) {n : Nat} {r : List Int} (b : Bool) (h : r.length < n) (hn : n ≤ 8) : okey_reader_take k (n : Int) r b = some (List.replicate n 0, (([], (true, ())), ())) := by
  rw [okey_reader_take_eq, bt (by omega), must_true (by simp [beqI]), lim_ok (by simp; omega)]
  simp
def outT (acc : List Int) : Option (List Int × List Int) → List Int → List Int × ((List Int × (Bool × Unit)) × Unit)
  | some (s, r), _ => (acc ++ s, ((r, (false, ())), ()))
  | none, z => ([], ((z, (true, ())), ()))
theorem text_bad (k n : Nat) (b : Bool) (acc r : List Int) : okey_reader_text_l0 k (n + 1) b acc r true = some (outT acc none r) := by
  rw [okey_reader_text_l0_eq]; rfl
theorem t_nil (k : Nat) (b : Bool) : okey_reader_take k (1 : Int) [] b = some ([0], (([], (true, ())), ())) := take_none k (n := 1) b (by simp) (by omega)
theorem t_cons (k : Nat) (x : Int) (r : List Int) (b : Bool) : okey_reader_take k (1 : Int) (x :: r) b = some ([x], ((r, (b, ())), ())) := take_some k (n := 1) (r := x :: r) b (by simp)
theorem nth0 (x : Int) (l : List Int) : nth (x :: l) (0 : Int) = some x := rfl
theorem outT_none (acc acc' : List Int) (z : List Int) : outT acc none z = outT acc' none z := rfl
theorem outT_push (acc : List Int) (x : Int) (o : Option (List Int × List Int)) (z : List Int) : outT (acc ++ [x]) o z = outT acc (o.map fun p => (x :: p.1, p.2)) z := by
  cases o with
  | none => rfl
  | some p => simp [outT]
theorem j_true (k n : Nat) (b : Bool) (acc r : List Int) : okey_reader_text_j0 (k + 1) (n + 1) b acc r true = some (outT acc none r) := by
  rw [okey_reader_text_j0_eq, text_bad]
theorem text_loop (k : Nat) : ∀ n b acc (f : List Int), f.length + 1 < n → acc.length + f.length ≤ 60000000 → ∃ z, okey_reader_text_l0 (k + 1) n b acc f false = some (outT acc (textD f) z)
  | 0, _, _, _, h, _ => absurd h (Nat.not_lt_zero _)
  | 1, _, _, _, h, _ => by omega
  | n + 2, b, acc, [], hn, ha => by
    rw [okey_reader_text_l0_eq, bif_true (b := !false) rfl]
    simp only [t_nil, Option.bind_some, nth0]
    rw [bif_false (by decide), bf (by decide), bf (by decide), j_true]
    exact ⟨_, rfl⟩
  | n + 2, b, acc, [x], hn, ha => by
    rw [okey_reader_text_l0_eq, bif_true (b := !false) rfl]
    simp only [t_cons, t_nil, Option.bind_some, nth0]
    by_cases hx : x = 0
    · rw [bif_false (by simp [hx]), bf (by decide), bf (by decide), j_true]
      exact ⟨[], by simp [textD]⟩
    · rw [bif_true (by simp [hx]), lim_ok (by simp at ha ⊢; omega)]
      obtain ⟨z, hz⟩ := text_loop k (n + 1) (b && [x].isEmpty) (acc ++ [x]) [] (by simp at hn ⊢; omega) (by simp at ha ⊢; omega)
      exact ⟨z, hz.trans (by simp [textD, outT])⟩
  | n + 2, b, acc, x :: y :: t, hn, ha => by
    rw [okey_reader_text_l0_eq, bif_true (b := !false) rfl]
    simp only [t_cons, Option.bind_some, nth0]
    by_cases hx : x = 0
    · subst hx
      rw [bif_false (by decide)]
      by_cases hy : y = 255
      · subst hy
        rw [bt rfl, lim_ok (by simp at ha ⊢; omega), okey_reader_text_j0_eq]
        obtain ⟨z, hz⟩ := text_loop k (n + 1) (b && [(0 : Int)].isEmpty) (acc ++ [(0 : Int)]) t (by simp at hn ⊢; omega) (by simp at ha ⊢; omega)
        refine ⟨z, hz.trans ?_⟩
        rw [outT_push]
        simp [textD]
      · rw [bf hy]
        by_cases hy1 : y = 1
        · subst hy1
          rw [bt rfl]
          exact ⟨[], by simp [textD, outT]⟩
        · rw [bf hy1, j_true]
          exact ⟨t, by simp [textD, hy, hy1]⟩
    · rw [bif_true (by simp [hx]), lim_ok (by simp at ha ⊢; omega)]
      obtain ⟨z, hz⟩ := text_loop k (n + 1) (b && [x].isEmpty) (acc ++ [x]) (y :: t) (by simp at hn ⊢; omega) (by simp at ha ⊢; omega)
      refine ⟨z, hz.trans ?_⟩
      rw [outT_push]
      simp [textD, hx]
def plainV (v : ValT) : ValT := if v.1 = 1 then (1, (v.2.1, ([], ()))) else if v.1 = 2 then (2, (0, (v.2.2.1, ()))) else (0, (0, ([], ())))
def valD : List Int → Option (ValT × List Int)
  | [] => none
  | x :: r => if x = 1 then some ((0, (0, ([], ()))), r)
    else if x = 2 then (if 8 ≤ r.length then some ((1, ((((r.take 8).foldl ofN 0 : Nat) : Int) - 9223372036854775808, ([], ()))), r.drop 8) else none)
    else if x = 3 then (textD r).map fun p => ((2, (0, (p.1, ()))), p.2) else none
theorem be8_of {l : List Int} (hl : l.length = 8) (hw : ∀ x ∈ l, (Lit.int .u8 x).wf = true) : be 8 (l.foldl ofN 0) = l ∧ l.foldl ofN 0 < 18446744073709551616 := by
  obtain ⟨a, b, c, d, e, f, g, h, rfl⟩ : ∃ a b c d e f g h, l = [a, b, c, d, e, f, g, h] := by
    match l, hl with
    | [a, b, c, d, e, f, g, h], _ => exact ⟨a, b, c, d, e, f, g, h, rfl⟩
  have w := fun x hx => wf_u8 (hw x hx)
  obtain ⟨a, rfl⟩ := Int.eq_ofNat_of_zero_le (w a (by simp)).1
  obtain ⟨b, rfl⟩ := Int.eq_ofNat_of_zero_le (w b (by simp)).1
  obtain ⟨c, rfl⟩ := Int.eq_ofNat_of_zero_le (w c (by simp)).1
  obtain ⟨d, rfl⟩ := Int.eq_ofNat_of_zero_le (w d (by simp)).1
  obtain ⟨e, rfl⟩ := Int.eq_ofNat_of_zero_le (w e (by simp)).1
  obtain ⟨f, rfl⟩ := Int.eq_ofNat_of_zero_le (w f (by simp)).1
  obtain ⟨g, rfl⟩ := Int.eq_ofNat_of_zero_le (w g (by simp)).1
  obtain ⟨h, rfl⟩ := Int.eq_ofNat_of_zero_le (w h (by simp)).1
  have wa := (w a (by simp)).2
  have wb := (w b (by simp)).2
  have wc := (w c (by simp)).2
  have wd := (w d (by simp)).2
  have we := (w e (by simp)).2
  have wf := (w f (by simp)).2
  have wg := (w g (by simp)).2
  have wh := (w h (by simp)).2
  have hE : [(a : Int), b, c, d, e, f, g, h].foldl ofN 0 = a * 72057594037927936 + b * 281474976710656 + c * 1099511627776 + d * 4294967296 + e * 16777216 + f * 65536 + g * 256 + h := by
    simp only [List.foldl, ofN, Int.toNat_natCast]; omega
  rw [hE]
  refine ⟨?_, by omega⟩
  have p7 : (256 : Nat) ^ 7 = 72057594037927936 := by decide
  have p6 : (256 : Nat) ^ 6 = 281474976710656 := by decide
  have p5 : (256 : Nat) ^ 5 = 1099511627776 := by decide
  have p4 : (256 : Nat) ^ 4 = 4294967296 := by decide
  have p3 : (256 : Nat) ^ 3 = 16777216 := by decide
  have p2 : (256 : Nat) ^ 2 = 65536 := by decide
  have p1 : (256 : Nat) ^ 1 = 256 := by decide
  have p0 : (256 : Nat) ^ 0 = 1 := by decide
  unfold be be be be be be be be be
  rw [p7, p6, p5, p4, p3, p2, p1, p0]
  congr 1; · omega
  congr 1; · omega
  congr 1; · omega
  congr 1; · omega
  congr 1; · omega
  congr 1; · omega
  congr 1; · omega
  congr 1; · omega
theorem unflip_is (k : Nat) {u : Int} (h : 0 ≤ u ∧ u < 18446744073709551616) : num_Unflip k u = some (u - 9223372036854775808, ()) := by
  rw [num_Unflip_eq]
  unfold wr
  rw [wrap_i64, unflip_eq h]
theorem value_is (k : Nat) {f : List Int} (hw : ∀ x ∈ f, (Lit.int .u8 x).wf = true) (hk : f.length < k) (hm : f.length ≤ 1000000) :
    (∃ p, valD f = some p ∧ okey_reader_value (k + 500) f false = some (p.1, ((p.2, (false, ())), (p.1, ())))) ∨ (valD f = none ∧ ∃ v z, okey_reader_value (k + 500) f false = some (v, ((z, (true, ())), (v, ())))) := by
  rw [okey_reader_value_eq]
  cases f with
  | nil =>
    right
    simp only [t_nil, Option.bind_some, nth0]
    rw [bf (by decide), bf (by decide), bf (by decide)]
    exact ⟨rfl, _, _, rfl⟩
  | cons x r =>
    simp only [t_cons, Option.bind_some, nth0]
    by_cases c1 : x = 1
    · left
      rw [bt c1]
      exact ⟨((0, (0, ([], ()))), r), by simp [valD, c1], rfl⟩
    rw [bf c1]
    by_cases c2 : x = 2
    · rw [bt c2]
      by_cases c8 : 8 ≤ r.length
      · left
        have hl : (r.take 8).length = 8 := by simp; omega
        have hw8 : ∀ y ∈ r.take 8, (Lit.int .u8 y).wf = true := fun y hy => hw y (List.mem_cons_of_mem _ (List.mem_of_mem_take hy))
        have hlt := (be8_of hl hw8).2
        rw [show okey_reader_take (k + 500) (8 : Int) r false = _ from take_some (k + 500) (n := 8) false c8]
        simp only [Option.bind_some]
        rw [show num_Of (k + 500) (r.take 8) = _ from num_Of_is (k + 490) hw8 (by omega) (by omega), Option.bind_some, unflip_is _ (by omega), Option.bind_some]
        exact ⟨((1, ((((r.take 8).foldl ofN 0 : Nat) : Int) - 9223372036854775808, ([], ()))), r.drop 8), by simp [valD, c2, c8], rfl⟩
      · right
        rw [show okey_reader_take (k + 500) (8 : Int) r false = _ from take_none (k + 500) (n := 8) false (by omega) (by omega)]
        simp only [Option.bind_some]
        rw [show num_Of (k + 500) (List.replicate 8 (0 : Int)) = _ from num_Of_is (k + 490) (by decide) (by simp) (by simp), Option.bind_some, unflip_is _ (by decide), Option.bind_some]
        exact ⟨by simp [valD, c2, c8], _, _, rfl⟩
    rw [bf c2]
    by_cases c3 : x = 3
    · rw [bt c3, okey_reader_text_eq]
      obtain ⟨z, hz⟩ := text_loop (k + 499) (k + 500) true [] r (by simp at hk; omega) (by simp at hm ⊢; omega)
      rw [show okey_reader_text_l0 (k + 500) (k + 500) true [] r false = _ from hz, Option.bind_some]
      cases ht : textD r with
      | none => right; exact ⟨by simp [valD, c3, ht], _, _, rfl⟩
      | some p => left; exact ⟨((2, (0, (p.1, ()))), p.2), by simp [valD, c3, ht], by simp [outT]⟩
    · rw [bf c3]
      right
      exact ⟨by simp [valD, c1, c2, c3], _, _, rfl⟩
theorem valD_cons (x : Int) (r : List Int) : valD (x :: r) = if x = 1 then some ((0, (0, ([], ()))), r)
    else if x = 2 then (if 8 ≤ r.length then some ((1, ((((r.take 8).foldl ofN 0 : Nat) : Int) - 9223372036854775808, ([], ()))), r.drop 8) else none)
    else if x = 3 then (textD r).map fun p => ((2, (0, (p.1, ()))), p.2) else none := rfl
def ofD : Nat → List Int → Option (List ValT)
  | _, [] => some []
  | 0, _ :: _ => none
  | n + 1, x :: r => (valD (x :: r)).bind fun p => (ofD n p.2).map fun l => p.1 :: l
theorem valD_back {f : List Int} (hw : ∀ x ∈ f, (Lit.int .u8 x).wf = true) {v : ValT} {r : List Int} (h : valD f = some (v, r)) : f = encV v ++ r ∧ r.length < f.length ∧ (f.length ≤ 400 → valOk v) := by
  cases f with
  | nil => cases h
  | cons x t =>
    rw [valD_cons] at h
    split at h
    · rename_i hx
      subst hx
      cases h
      exact ⟨rfl, by simp, fun _ => ⟨by decide, by simp⟩⟩
    split at h
    · rename_i hx
      subst hx
      split at h
      · rename_i h8
        cases h
        have hl : (t.take 8).length = 8 := by simp; omega
        obtain ⟨g1, g2⟩ := be8_of hl fun y hy => hw y (List.mem_cons_of_mem _ (List.mem_of_mem_take hy))
        refine ⟨?_, by simp; omega, fun _ => ⟨by show _ ≤ _ - _ ∧ _ - _ ≤ _; omega, by simp⟩⟩
        unfold encV
        rw [if_pos rfl]
        show 2 :: t = 2 :: be 8 (((((t.take 8).foldl ofN 0 : Nat) : Int) - 9223372036854775808) + 9223372036854775808).toNat ++ t.drop 8
        rw [Int.sub_add_cancel, Int.toNat_natCast, g1, List.cons_append, List.take_append_drop]
      · cases h
    split at h
    · rename_i hx
      subst hx
      obtain ⟨p, h1, h2⟩ := Option.map_eq_some_iff.1 h
      cases h2
      obtain ⟨k1, k2⟩ := textD_back _ t p.1 p.2 (Nat.le_refl _) h1
      refine ⟨?_, by simp; omega, fun hm => ⟨by show _ ≤ (0 : Int) ∧ (0 : Int) ≤ _; omega, by simp at hm ⊢; omega⟩⟩
      unfold encV
      rw [if_neg (show ¬ ((2 : Int) = 1) by decide), if_pos (show (2 : Int) = 2 from rfl)]
      show 3 :: t = 3 :: (esc p.1 ++ [0, 1]) ++ p.2
      rw [k1]
      simp
    · cases h
theorem ofD_back : ∀ (n : Nat) (f : List Int), (∀ x ∈ f, (Lit.int .u8 x).wf = true) → f.length ≤ 400 → ∀ l, ofD n f = some l → l.flatMap encV = f ∧ l.length ≤ f.length ∧ ∀ v ∈ l, valOk v
  | n, [], _, _, l, h => by
    have : l = [] := by cases n <;> (cases h; rfl)
    subst this
    exact ⟨rfl, by simp, by simp⟩
  | 0, _ :: _, _, _, l, h => by cases h
  | n + 1, x :: r, hw, hm, l, h => by
    obtain ⟨p, h1, h2⟩ := Option.bind_eq_some_iff.1 (show (valD (x :: r)).bind (fun p => (ofD n p.2).map fun l => p.1 :: l) = some l from h)
    obtain ⟨l', h3, rfl⟩ := Option.map_eq_some_iff.1 h2
    obtain ⟨k1, k2, k3⟩ := valD_back hw (v := p.1) (r := p.2) h1
    have k3 := k3 hm
    have hw' : ∀ y ∈ p.2, (Lit.int .u8 y).wf = true := fun y hy => hw y (by rw [k1]; exact List.mem_append_right _ hy)
    obtain ⟨q1, q2, q3⟩ := ofD_back n p.2 hw' (by omega) l' h3
    refine ⟨by rw [List.flatMap_cons, q1]; exact k1.symm, by simp at k2 ⊢; omega, fun v hv => ?_⟩
    rcases List.mem_cons.1 hv with rfl | hv
    · exact k3
    · exact q3 v hv
theorem valD_enc {v : ValT} (hv : valOk v) (r : List Int) : valD (encV v ++ r) = some (plainV v, r) := by
  unfold encV plainV
  by_cases c1 : v.1 = 1
  · rw [if_pos c1, if_pos c1]
    obtain ⟨u, hu⟩ := Int.eq_ofNat_of_zero_le (show 0 ≤ v.2.1 + 9223372036854775808 by have := hv.1; omega)
    have hlt : u < 18446744073709551616 := by have := hv.1; omega
    rw [hu, Int.toNat_natCast]
    have ht : (be 8 u ++ r).take 8 = be 8 u := by rw [List.take_append_of_le_length (by rw [be_length]; omega), List.take_of_length_le (by rw [be_length]; omega)]
    have hd : (be 8 u ++ r).drop 8 = r := by rw [List.drop_append_of_le_length (by rw [be_length]; omega), List.drop_of_length_le (by rw [be_length]; omega)]; rfl
    have hf := fold_be u 8 0 (by omega)
    rw [show (256 : Nat) ^ 8 = 18446744073709551616 by decide] at hf
    have hf : (be 8 u).foldl ofN 0 = u := by rw [hf]; omega
    show valD (2 :: (be 8 u ++ r)) = _
    rw [valD_cons]
    rw [if_neg (by decide), if_pos rfl, if_pos (by simp [be_length]), ht, hd, hf]
    have : (u : Int) - 9223372036854775808 = v.2.1 := by omega
    rw [this]
  · rw [if_neg c1, if_neg c1]
    by_cases c2 : v.1 = 2
    · rw [if_pos c2, if_pos c2]
      show valD (3 :: ((esc v.2.2.1 ++ [0, 1]) ++ r)) = _
      rw [valD_cons]
      rw [if_neg (by decide), if_neg (by decide), if_pos rfl, List.append_assoc, show [(0 : Int), 1] ++ r = 0 :: 1 :: r from rfl, textD_esc]
      rfl
    · rw [if_neg c2, if_neg c2]
      rfl
theorem encV_ne (v : ValT) : ∃ x t, encV v = x :: t := by
  unfold encV
  split
  · exact ⟨_, _, rfl⟩
  · split <;> exact ⟨_, _, rfl⟩
theorem ofD_enc : ∀ (l : List ValT) (n : Nat), (∀ v ∈ l, valOk v) → (l.flatMap encV).length ≤ n → ofD n (l.flatMap encV) = some (l.map plainV)
  | [], n, _, _ => by cases n <;> rfl
  | v :: l, n, hl, hn => by
    obtain ⟨x, t, he⟩ := encV_ne v
    rw [List.flatMap_cons] at hn ⊢
    cases n with
    | zero => rw [he] at hn; simp at hn
    | succ n =>
      have hv := valD_enc (hl v List.mem_cons_self) (l.flatMap encV)
      have ih := ofD_enc l n (fun w hw => hl w (List.mem_cons_of_mem _ hw)) (by rw [he, List.cons_append, List.length_cons, List.length_append] at hn; omega)
      rw [he, List.cons_append] at hv ⊢
      show (valD (x :: (t ++ l.flatMap encV))).bind _ = _
      rw [hv, Option.bind_some, ih]
      rfl
def resT (acc : List ValT) : Option (List ValT) → List ValT × (Int × Unit)
  | some l => (acc ++ l, ((0 : Int), ()))
  | none => ([], ((20 : Int), ()))
theorem of_loop (k : Nat) : ∀ n b acc (f : List Int), (∀ x ∈ f, (Lit.int .u8 x).wf = true) → f.length < k → f.length ≤ 1000000 → f.length ≤ n → List.length acc + f.length ≤ 60000000 → okey_Of_l0 (k + 500) (n + 1) b acc f false = some (resT acc (ofD n f), ())
  | n, b, acc, [], _, _, _, _, _ => by
    rw [okey_Of_l0_eq, bf (by simp)]
    cases n <;> simp [ofD, resT]
  | 0, b, acc, _ :: _, _, _, _, h, _ => by simp at h
  | n + 1, b, acc, x :: r, hw, hk, hm, hn, ha => by
    rw [okey_Of_l0_eq, bt (by simp), bif_true (b := !false) rfl]
    have hbad : ∀ n b acc (z : List Int), okey_Of_l0 (k + 500) (n + 1) b acc z true = some (([], ((20 : Int), ())), ()) := by
      intro n b acc z
      rw [okey_Of_l0_eq]
      cases decide (0 < (z.length : Int)) <;> rfl
    rcases value_is k hw hk hm with ⟨p, h1, h2⟩ | ⟨h1, v, z, h2⟩
    · obtain ⟨k1, k2, _⟩ := valD_back hw (v := p.1) (r := p.2) h1
      have hw' : ∀ y ∈ p.2, (Lit.int .u8 y).wf = true := fun y hy => hw y (by rw [k1]; exact List.mem_append_right _ hy)
      rw [h2, Option.bind_some, lim_ok (by simp at ha ⊢; omega)]
      have ih := of_loop k n (b && [p.1].isEmpty) (acc ++ [p.1]) p.2 hw' (by omega) (by omega) (by simp at k2 hn; omega) (by simp at k2 ha ⊢; omega)
      refine ih.trans ?_
      show some (resT (acc ++ [p.1]) (ofD n p.2), ()) = some (resT acc ((valD (x :: r)).bind fun p => (ofD n p.2).map fun l => p.1 :: l), ())
      rw [h1, Option.bind_some]
      cases ofD n p.2 with
      | none => rfl
      | some l => simp [resT]
    · rw [h2, Option.bind_some, lim_ok (by simp at ha ⊢; omega)]
      refine (hbad n _ _ z).trans ?_
      show _ = some (resT acc ((valD (x :: r)).bind fun p => (ofD n p.2).map fun l => p.1 :: l), ())
      rw [h1]
      rfl
theorem okey_Of_is (k : Nat) {f : List Int} (hw : ∀ x ∈ f, (Lit.int .u8 x).wf = true) (hk : f.length < k) (hm : f.length ≤ 1000000) : okey_Of (k + 500) f = some (resT [] (ofD (k + 499) f), ()) := by
  rw [okey_Of_eq]
  exact of_loop k (k + 499) true [] f hw hk hm (by omega) (by simp; omega)
theorem ref_step {s : Nat} {x : Int} (hs : s < 18446744073709551616) (hx : (Lit.int .u8 x).wf = true) : wr .u64 ((wr .u64 ((s : Int) * 256)) + (wr .u64 x)) = ((ofN s x : Nat) : Int) := by
  have := wf_u8 hx
  obtain ⟨y, rfl⟩ := Int.eq_ofNat_of_zero_le this.1
  rw [wrm_u64, wrm_u64, wrm_u64]
  unfold ofN
  rw [Int.toNat_natCast]
  omega
theorem ref01_Of_is (k : Nat) {l : List Int} (hl : ∀ x ∈ l, (Lit.int .u8 x).wf = true) (hn : l.length < k + 10) (hm : l.length ≤ 4611686018427387904) : ref01_Of (k + 10) l = some (((l.foldl ofN 0 : Nat) : Int), ()) := by
  rw [ref01_Of_eq]
  have := foldLoop l (fun n (s : Nat) j => ref01_Of_l0 (k + 10) n (s : Int) l (l.length : Int) j) ofN (fun s => some ((s : Int), ())) (fun s => s < 18446744073709551616) (fun s x _ _ => ofN_lt s x)
    (fun n s j x hs hx => by
      show ref01_Of_l0 (k + 10) (n + 1) _ _ _ _ = ref01_Of_l0 (k + 10) n _ _ _ _
      have hj : j < l.length := (List.getElem?_eq_some_iff.1 hx).1
      rw [ref01_Of_l0_eq, bif_true (by simp; omega), nth_get hx, Option.bind_some, ref_step hs (hl x (List.mem_of_getElem? hx)), wr_next hj hm])
    (fun n s hs => by
      show ref01_Of_l0 (k + 10) (n + 1) _ _ _ _ = _
      rw [ref01_Of_l0_eq, bif_false (by simp)])
    (k + 10) 0 0 (by omega) (by omega) (by omega)
  rw [List.drop_zero] at this
  exact this
theorem refput_loop (k : Nat) {u w : Nat} (hu : u < 18446744073709551616) (hw : w ≤ 8) : ∀ n j b, j ≤ w → w - j < n → ref01_Put_l0 k n ((u / 256 ^ j : Nat) : Int) (w : Int) b (be j u) (j : Int) = some (be w u, ())
  | 0, _, _, _, h => absurd h (Nat.not_lt_zero _)
  | n + 1, j, b, hj, hn => by
    rw [ref01_Put_l0_eq]
    by_cases c : j < w
    · have e1 : Int.tmod ((u / 256 ^ j : Nat) : Int) 256 = ((u / 256 ^ j % 256 : Nat) : Int) := rfl
      have e2 : Int.tdiv ((u / 256 ^ j : Nat) : Int) 256 = ((u / 256 ^ j / 256 : Nat) : Int) := rfl
      have hm := Nat.mod_lt (u / 256 ^ j) (show 0 < 256 by decide)
      have hd := Nat.div_le_self u (256 ^ j)
      have hd2 := Nat.div_le_self (u / 256 ^ j) 256
      have e3 : u / 256 ^ j / 256 = u / 256 ^ (j + 1) := by rw [Nat.pow_succ, Nat.div_div_eq_div_mul]
      generalize hq : u / 256 ^ j = q at *
      rw [bif_true (by simp; omega), lim_ok (by rw [be_length]; simp; omega), e1, e2, wr_u8 (by omega), wr_u64 (by omega), wr_i64 (by omega), e3]
      subst hq
      exact refput_loop k hu hw n (j + 1) false c (by omega)
    · have : j = w := by omega
      subst this
      rw [bif_false (by simp)]
theorem ref01_Put_is (k : Nat) {u w : Nat} (hu : u < 18446744073709551616) (hw : w ≤ 8) : ref01_Put (k + 10) (u : Int) (w : Int) = some (be w u, ()) := by
  rw [ref01_Put_eq, bif_false (by simp), bif_false (by simp; omega)]
  have := refput_loop (k + 10) hu hw (k + 10) 0 true (by omega) (by omega)
  rw [Nat.pow_zero, Nat.div_one] at this
  exact this
theorem dn {α : Type} {l : List α} {t : Nat} {x : α} {r : List α} (h : l.drop t = x :: r) : l[t]? = some x ∧ l.drop (t + 1) = r ∧ t < l.length ∧ l.length - t = r.length + 1 := by
  have hlt : t < l.length := by
    rcases Nat.lt_or_ge t l.length with h1 | h1
    · exact h1
    · rw [List.drop_eq_nil_of_le h1] at h; cases h
  rw [List.drop_eq_getElem_cons hlt] at h
  injection h with h1 h2
  have h3 := congrArg List.length h2
  simp at h3
  exact ⟨by rw [List.getElem?_eq_getElem hlt, h1], h2, hlt, by omega⟩
theorem cut_one {l : List Int} {t : Nat} {x : Int} {r : List Int} (h : l.drop t = x :: r) : cut l (t : Int) ((t + 1 : Nat) : Int) = some [x] := by
  obtain ⟨h1, h2, h3, _⟩ := dn h
  rw [cut_ok (by omega) (by omega), List.drop_take, h]
  congr 1
  rw [show t + 1 - t = 1 by omega]; rfl
noncomputable def unkT (k n : Nat) (l : List Int) (b : Bool) (vs : List ValT) (acc : List Int) : Option (List Int × List Int) → Option (((List ValT) × (Int × Unit)) × Unit)
  | some p => ref01_Unkey_j1 k n l b vs ((l.length - p.2.length : Nat) : Int) (2 : Int) (0 : Int) (acc ++ p.1)
  | none => some (([], ((20 : Int), ())), ())
theorem unkT_map (k n : Nat) (l : List Int) (b : Bool) (vs : List ValT) (acc : List Int) (x : Int) (o : Option (List Int × List Int)) : unkT k n l b vs acc (o.map fun p => (x :: p.1, p.2)) = unkT k n l b vs (acc ++ [x]) o := by
  cases o with
  | none => rfl
  | some p => show ref01_Unkey_j1 _ _ _ _ _ _ _ _ (acc ++ x :: p.1) = ref01_Unkey_j1 _ _ _ _ _ _ _ _ ((acc ++ [x]) ++ p.1); simp
theorem unk_l1 (k n : Nat) {l : List Int} (hl : l.length ≤ 1000000) (b : Bool) (vs : List ValT) : ∀ n1 t acc, t ≤ l.length → l.length - t < n1 → List.length acc + (l.length - t) ≤ 2000000 →
    ref01_Unkey_l1 (k + 1) n n1 l b vs (t : Int) (2 : Int) (0 : Int) acc = unkT (k + 1) n l b vs acc (textD (l.drop t))
  | 0, _, _, _, h, _ => absurd h (Nat.not_lt_zero _)
  | n1 + 1, t, acc, ht, hn, ha => by
    rw [ref01_Unkey_l1_eq]
    have e1 : wr .i64 ((t : Int) + 1) = ((t + 1 : Nat) : Int) := wr_i64 (by omega)
    have e2 : wr .i64 ((t : Int) + 2) = ((t + 2 : Nat) : Int) := wr_i64 (by omega)
    have e3 : wr .i64 (((t + 1 : Nat) : Int) + 1) = ((t + 2 : Nat) : Int) := wr_i64 (by omega)
    have step : ∀ {x : Int} {r : List Int}, l.drop t = x :: r → ref01_Unkey_l1 (k + 1) n n1 l b vs ((t + 1 : Nat) : Int) (2 : Int) (0 : Int) (acc ++ [x]) = unkT (k + 1) n l b vs (acc ++ [x]) (textD r) := by
      intro x r h
      obtain ⟨h1, h2, h3, h4⟩ := dn h
      have := unk_l1 k n hl b vs n1 (t + 1) (acc ++ [x]) (by omega) (by omega) (by simp; omega)
      rw [h2] at this
      exact this
    match hd : l.drop t with
    | [] =>
      have : t = l.length := by have := congrArg List.length hd; simp at this; omega
      rw [bt (by omega)]; rfl
    | [x] =>
      obtain ⟨h1, h2, h3, h4⟩ := dn hd
      have h4 : l.length - t = 1 := h4
      rw [bf (by omega), nth_get h1, Option.bind_some, e1]
      by_cases hx : x = 0
      · rw [bt hx, bt (by omega)]
        simp [textD, unkT]
      · rw [bf hx]
        simp only [nth_get h1, Option.bind_some, bf hx, cut_one hd]
        rw [lim_ok (by simp; omega), ref01_Unkey_j2_eq, e1, step hd]
        simp [textD, unkT]
    | x :: y :: r =>
      obtain ⟨h1, h2, h3, h4⟩ := dn hd
      obtain ⟨g1, g2, g3, g4⟩ := dn h2
      have ng : ¬ ((l.length : Int) ≤ ((t + 1 : Nat) : Int)) := by omega
      rw [bf (by omega), nth_get h1, Option.bind_some, e1]
      by_cases hx : x = 0
      · simp only [bt hx, bf ng, nth_get h1, nth_get g1, Option.bind_some]
        by_cases hy : y = 1
        · have hy2 : ¬ y = 255 := by omega
          rw [bt hy, e2]
          show _ = unkT _ _ _ _ _ _ (if x = 0 then (if y = 255 then (textD r).map fun p => (x :: p.1, p.2) else if y = 1 then some ([], r) else none) else (textD (y :: r)).map fun p => (x :: p.1, p.2))
          rw [if_pos hx, if_neg hy2, if_pos hy]
          show _ = ref01_Unkey_j1 (k + 1) n l b vs ((l.length - r.length : Nat) : Int) (2 : Int) (0 : Int) (acc ++ [])
          have : l.length - r.length = t + 2 := by omega
          rw [this, List.append_nil]
        · rw [bf hy]
          show _ = unkT _ _ _ _ _ _ (if x = 0 then (if y = 255 then (textD r).map fun p => (x :: p.1, p.2) else if y = 1 then some ([], r) else none) else (textD (y :: r)).map fun p => (x :: p.1, p.2))
          rw [if_pos hx, if_neg hy]
          by_cases hy2 : y = 255
          · rw [bif_false (by simp [hy2]), if_pos hy2, cut_one hd, Option.bind_some, lim_ok (by simp; omega), ref01_Unkey_j2_eq, e3]
            have := unk_l1 k n hl b vs n1 (t + 2) (acc ++ [x]) (by omega) (by omega) (by simp; omega)
            rw [this, g2, unkT_map]
          · rw [bif_true (by simp [hy2]), if_neg hy2]; rfl
      · simp only [bf hx, nth_get h1, Option.bind_some, cut_one hd]
        rw [lim_ok (by simp; omega), ref01_Unkey_j2_eq, e1, step hd]
        show _ = unkT _ _ _ _ _ _ (if x = 0 then (if y = 255 then (textD r).map fun p => (x :: p.1, p.2) else if y = 1 then some ([], r) else none) else (textD (y :: r)).map fun p => (x :: p.1, p.2))
        rw [if_neg hx, unkT_map]
theorem textD_len : ∀ {f s r}, textD f = some (s, r) → r.length < f.length := by
  intro f s r h
  have := (textD_back f.length f s r (Nat.le_refl _) h).2
  omega
theorem unflip_w {u : Nat} (h : u < 18446744073709551616) : wr .i64 (wr .u64 ((u : Int) - 9223372036854775808)) = (u : Int) - 9223372036854775808 := by
  rw [wrm_u64]
  unfold wr
  simp only [IntKind.wrap, IntKind.signed, IntKind.bits]
  simp
  omega
theorem unk_l0 (k : Nat) {l : List Int} (hl : l.length ≤ 400) (hw : Byt l) : ∀ n i b vs m, i ≤ l.length → l.length - i < n → l.length - i ≤ m → List.length vs + (l.length - i) ≤ 2000000 →
    ref01_Unkey_l0 (k + 500) n l b vs (i : Int) = some (resT vs (ofD m (l.drop i)), ())
  | 0, _, _, _, _, _, h, _, _ => absurd h (Nat.not_lt_zero _)
  | n + 1, i, b, vs, m, hi, hn, hm, hv => by
    rw [ref01_Unkey_l0_eq]
    have go : ∀ (v : ValT) (r : List Int) (t : Nat) (m' : Nat), l.drop i = r → l.drop t = l.drop t → t ≤ l.length → i < t → l.length - t ≤ m' → ref01_Unkey_j0 (k + 500) n l b vs (t : Int) v.1 v.2.1 v.2.2.1 = some (resT vs ((ofD m' (l.drop t)).map fun l => v :: l), ()) := by
      intro v r t m' _ _ ht hit hm'
      show ref01_Unkey_j0 (k + 499 + 1) n _ _ _ _ _ _ _ = _
      rw [ref01_Unkey_j0_eq, lim_ok (by simp; omega)]
      refine (unk_l0 k hl hw n t _ (vs ++ [v]) m' ht (by omega) hm' (by simp; omega)).trans ?_
      cases ofD m' (l.drop t) with
      | none => rfl
      | some q => simp [resT]
    match hd : l.drop i with
    | [] =>
      have : i = l.length := by have := congrArg List.length hd; simp at this; omega
      rw [bf (by omega)]
      cases m <;> simp [ofD, resT]
    | x :: r =>
      obtain ⟨h1, h2, h3, h4⟩ := dn hd
      obtain ⟨m', rfl⟩ : ∃ m', m = m' + 1 := ⟨m - 1, by omega⟩
      have e1 : wr .i64 ((i : Int) + 1) = ((i + 1 : Nat) : Int) := wr_i64 (by omega)
      have e9 : wr .i64 ((i : Int) + 9) = ((i + 9 : Nat) : Int) := wr_i64 (by omega)
      rw [bt (by omega), nth_get h1, Option.bind_some, e1, e9]
      show _ = some (resT vs ((valD (x :: r)).bind fun p => (ofD m' p.2).map fun l => p.1 :: l), ())
      rw [valD_cons]
      by_cases c1 : x = 1
      · rw [bt c1, if_pos c1, Option.bind_some]
        have := go (0, (0, ([], ()))) _ (i + 1) m' hd rfl (by omega) (by omega) (by omega)
        rw [h2] at this
        exact this
      rw [bf c1, if_neg c1]
      by_cases c2 : x = 2
      · rw [bt c2, if_pos c2, wr_i64 (by omega)]
        by_cases c9 : 8 ≤ r.length
        · rw [bf (by omega), if_pos c9, Option.bind_some, cut_ok (by omega) (by omega)]
          have ht : (l.take (i + 9)).drop (i + 1) = r.take 8 := by rw [List.drop_take, h2]; congr 1; omega
          have hb : Byt (r.take 8) := fun y hy => hw y (List.mem_of_mem_drop (by rw [h2]; exact List.mem_of_mem_take hy))
          have h9 : l.drop (i + 9) = r.drop 8 := by rw [← h2, List.drop_drop]
          have hof := be8_of (l := r.take 8) (by simp; omega) hb
          rw [ht, Option.bind_some, show ref01_Of (k + 500) (r.take 8) = _ from ref01_Of_is (k + 490) hb (by simp; omega) (by simp; omega), Option.bind_some, unflip_w hof.2]
          show ref01_Unkey_j1 (k + 499 + 1) _ _ _ _ _ _ _ _ = _
          rw [ref01_Unkey_j1_eq]
          have := go (1, ((((r.take 8).foldl ofN 0 : Nat) : Int) - 9223372036854775808, ([], ()))) _ (i + 9) m' hd rfl (by omega) (by omega) (by omega)
          rw [h9] at this
          exact this
        · rw [bt (by omega), if_neg c9]; rfl
      rw [bf c2, if_neg c2]
      by_cases c3 : x = 3
      · rw [bt c3, if_pos c3]
        refine (unk_l1 (k + 499) n (by omega) b vs (k + 500) (i + 1) [] (by omega) (by omega) (by simp; omega)).trans ?_
        rw [h2]
        cases ht : textD r with
        | none => rfl
        | some p =>
          obtain ⟨s, q⟩ := p
          have hq := textD_len ht
          have hb := (textD_back r.length r s q (Nat.le_refl _) ht).1
          show ref01_Unkey_j1 (k + 499 + 1) n l b vs ((l.length - q.length : Nat) : Int) (2 : Int) (0 : Int) ([] ++ s) = _
          rw [ref01_Unkey_j1_eq]
          have h9 : l.drop (l.length - q.length) = q := by
            have e : l = (l.take (i + 1) ++ (esc s ++ [0, 1])) ++ q := by
              conv => lhs; rw [← List.take_append_drop (i + 1) l, h2, hb]
              simp
            have e2 : (l.take (i + 1) ++ (esc s ++ [0, 1])).length = l.length - q.length := by
              have := congrArg List.length e
              rw [List.length_append] at this
              omega
            have e3 := congrArg (List.drop (l.take (i + 1) ++ (esc s ++ [0, 1])).length) e
            rw [List.drop_left, e2] at e3
            exact e3
          have := go (2, (0, (s, ()))) _ (l.length - q.length) m' hd rfl (by omega) (by omega) (by omega)
          rw [h9] at this
          exact this
      · rw [bf c3, if_neg c3]; rfl
theorem unk_ev {l : List Int} (hl : l.length ≤ 400) (hw : Byt l) : Ev (fun k => ref01_Unkey k l) (resT [] (ofD l.length l), ()) := .from 500 fun k => by
  rw [ref01_Unkey_eq]
  exact unk_l0 k hl hw (k + 500) 0 true [] l.length (by omega) (by omega) (by omega) (by simp; omega)
theorem ofD_any : ∀ (f : List Int) (hw : Byt f) m n, f.length ≤ m → f.length ≤ n → ofD m f = ofD n f := by
  intro f hw m
  induction m generalizing f with
  | zero =>
    intro n h1 _
    cases f with
    | nil => cases n <;> rfl
    | cons x r => simp at h1
  | succ m ih =>
    intro n h1 h2
    cases f with
    | nil => cases n <;> rfl
    | cons x r =>
      obtain ⟨n', rfl⟩ : ∃ n', n = n' + 1 := ⟨n - 1, by simp at h2; omega⟩
      show (valD (x :: r)).bind _ = (valD (x :: r)).bind _
      cases hv : valD (x :: r) with
      | none => rfl
      | some p =>
        obtain ⟨v, q⟩ := p
        obtain ⟨g1, g2, _⟩ := valD_back hw hv
        show (ofD m q).map _ = (ofD n' q).map _
        rw [ih q (fun y hy => hw y (by rw [g1]; exact List.mem_append_right _ hy)) n' (by simp at h1 g2; omega) (by simp at h2 g2; omega)]
theorem of_ev {l : List Int} (hl : l.length ≤ 400) (hw : Byt l) : Ev (fun k => okey_Of k l) (resT [] (ofD l.length l), ()) := by
  refine ⟨1500, fun k hk => ?_⟩
  obtain ⟨j, rfl⟩ : ∃ j, k = j + 500 := ⟨k - 500, by omega⟩
  show okey_Of (j + 500) l = _
  rw [okey_Of_is j hw (by omega) (by omega), ofD_any l hw (j + 499) l.length (by omega) (by omega)]

/-! ### The document's key -/
theorem rFlip_is (k : Nat) {a : Int} (h : -9223372036854775808 ≤ a ∧ a ≤ 9223372036854775807) : ref01_Flip k a = some (a + 9223372036854775808, ()) := by
  rw [ref01_Flip_eq]
  by_cases c : 0 ≤ a
  · rw [bt c, wr_u64 (n := a) (by omega), wr_u64 (by omega)]
  · rw [bf c, wr_i64 (by omega), wr_u64 (by omega)]
    congr 2 <;> omega
theorem rKey_l1 (k n : Nat) (l : List ValT) (len j c d : Int) {s : List Int} (hs : s.length ≤ 400) : ∀ n1 i b out, i ≤ s.length → s.length - i < n1 → List.length out + 2 * (s.length - i) ≤ 60000000 →
    ∃ b', ref01_Key_l1 (k + 1) n n1 b out (i : Int) l len j c d s = ref01_Key_j2 (k + 1) n b' (out ++ (esc (s.drop i) ++ [0, 1])) l len j
  | 0, _, _, _, _, h, _ => absurd h (Nat.not_lt_zero _)
  | n1 + 1, i, b, out, hi, hn, ho => by
    rw [ref01_Key_l1_eq]
    by_cases e : i < s.length
    · have hx := List.getElem?_eq_getElem e
      have hd : s.drop i = s[i] :: s.drop (i + 1) := List.drop_eq_getElem_cons e
      rw [bt (by omega), nth_get hx, Option.bind_some, lim_ok (by simp; omega), Option.bind_some, hd, esc_cons]
      by_cases e0 : s[i] = 0
      · rw [bt e0, if_pos e0, lim_ok (by simp; omega), ref01_Key_j1_eq, wr_next e (by omega)]
        obtain ⟨b', h⟩ := rKey_l1 k n l len j c d hs n1 (i + 1) ((b && [s[i]].isEmpty) && [(255 : Int)].isEmpty) ((out ++ [s[i]]) ++ [(255 : Int)]) e (by omega) (by simp; omega)
        refine ⟨b', h.trans ?_⟩
        simp
      · rw [bf e0, if_neg e0, ref01_Key_j1_eq, wr_next e (by omega)]
        obtain ⟨b', h⟩ := rKey_l1 k n l len j c d hs n1 (i + 1) (b && [s[i]].isEmpty) (out ++ [s[i]]) e (by omega) (by simp; omega)
        refine ⟨b', h.trans ?_⟩
        simp
    · have : i = s.length := by omega
      subst this
      rw [bf (by omega), lim_ok (by simp; omega), List.drop_length]
      exact ⟨_, rfl⟩
theorem rKey_loop (k : Nat) {l : List ValT} (hl : ∀ v ∈ l, valOk v) (hlen : l.length ≤ 400) : ∀ n j b out, j ≤ l.length → l.length - j < n → List.length out + 1000 * (l.length - j) ≤ 50000000 →
    ref01_Key_l0 (k + 500) n b out l (l.length : Int) (j : Int) = some (out ++ (l.drop j).flatMap encV, ())
  | 0, _, _, _, _, h, _ => absurd h (Nat.not_lt_zero _)
  | n + 1, j, b, out, hj, hn, ho => by
    rw [ref01_Key_l0_eq]
    by_cases d : j < l.length
    · have hx := List.getElem?_eq_getElem d
      have hd : l.drop j = l[j] :: l.drop (j + 1) := List.drop_eq_getElem_cons d
      have hv := hl _ (List.getElem_mem d)
      have hle := encV_length hv
      rw [bt (by omega), nth_get hx, Option.bind_some, hd, List.flatMap_cons]
      generalize l[j] = v at *
      have next : ∀ b', ref01_Key_j0 (k + 500) n b' (out ++ encV v) l (l.length : Int) (j : Int) = some (out ++ (encV v ++ (l.drop (j + 1)).flatMap encV), ()) := by
        intro b'
        show ref01_Key_j0 (k + 499 + 1) n _ _ _ _ _ = _
        rw [ref01_Key_j0_eq, wr_next d (by omega)]
        have := rKey_loop k hl hlen n (j + 1) b' (out ++ encV v) d (by omega) (by simp; omega)
        rw [List.append_assoc] at this
        exact this
      have next2 : ∀ b', ref01_Key_j2 (k + 500) n b' (out ++ encV v) l (l.length : Int) (j : Int) = some (out ++ (encV v ++ (l.drop (j + 1)).flatMap encV), ()) := by
        intro b'
        show ref01_Key_j2 (k + 499 + 1) n _ _ _ _ _ = _
        rw [ref01_Key_j2_eq]
        exact next b'
      by_cases c1 : v.1 = 1
      · have he : encV v = 2 :: be 8 (v.2.1 + 9223372036854775808).toNat := if_pos c1
        obtain ⟨u, hu⟩ := Int.eq_ofNat_of_zero_le (show 0 ≤ v.2.1 + 9223372036854775808 by have := hv.1; omega)
        have hu2 : u < 18446744073709551616 := by have := hv.1; omega
        rw [bt c1, lim_ok (by simp; omega), rFlip_is _ hv.1, Option.bind_some, hu, show ref01_Put (k + 500) (u : Int) (8 : Int) = _ from ref01_Put_is (k + 490) (u := u) (w := 8) hu2 (by omega), Option.bind_some, lim_ok (by simp [be_length]; omega)]
        have e2 : (out ++ [(2 : Int)]) ++ be 8 u = out ++ encV v := by rw [he, hu]; simp
        rw [e2]
        exact next _
      rw [bf c1]
      by_cases c2 : v.1 = 2
      · have he : encV v = 3 :: (esc v.2.2.1 ++ [0, 1]) := by unfold encV; rw [if_neg c1, if_pos c2]
        have hs := hv.2
        obtain ⟨b', h⟩ := rKey_l1 (k + 499) n l (l.length : Int) (j : Int) v.1 v.2.1 hs (k + 500) 0 (b && [(3 : Int)].isEmpty) (out ++ [(3 : Int)]) (by omega) (by omega) (by simp; omega)
        rw [bt c2, lim_ok (by simp; omega)]
        refine h.trans ?_
        have e2 : (out ++ [(3 : Int)]) ++ (esc (v.2.2.1.drop 0) ++ [0, 1]) = out ++ encV v := by rw [he]; simp
        rw [e2]
        exact next2 _
      · have he : encV v = [1] := by unfold encV; rw [if_neg c1, if_neg c2]
        rw [bf c2, lim_ok (by simp; omega), ← he]
        exact next2 _
    · have : j = l.length := by omega
      subst this
      rw [bf (by omega), List.drop_length]
      simp
theorem key_ev {l : List ValT} (hl : ∀ v ∈ l, valOk v) (hlen : l.length ≤ 400) : Ev (fun k => ref01_Key k l) (l.flatMap encV, ()) := .from 500 fun k => by
  rw [ref01_Key_eq]
  have := rKey_loop k hl hlen (k + 500) 0 true [] (by omega) (by omega) (by simp; omega)
  simpa using this
theorem refNext_l0 (k : Nat) {l : List Int} (hl : l.length ≤ 1000000) (hw : Byt l) : ∀ n j, j ≤ l.length → j < n → ref01_Next_l0 k n l (j : Int) = some (nx (l.take j), ())
  | 0, _, _, h => absurd h (Nat.not_lt_zero _)
  | n + 1, 0, _, _ => by
    rw [ref01_Next_l0_eq, bf (by omega), bt (by omega)]; rfl
  | n + 1, j + 1, hj, hn => by
    have hlt : j < l.length := hj
    have e : wr .i64 (((j + 1 : Nat) : Int) - 1) = (j : Int) := by rw [wr_i64 (by omega)]; omega
    rw [ref01_Next_l0_eq, bt (by omega), e, nth_get (List.getElem?_eq_getElem hlt), Option.bind_some, take_snoc hlt]
    have hx := wf_u8 (hw _ (List.getElem_mem hlt))
    by_cases c : l[j] = 255
    · rw [bt c, c, nx_255]
      exact refNext_l0 k hl hw n j (by omega) (by omega)
    · have ht : (l.take (j + 1)).length = j + 1 := by simp; omega
      have hg : (l.take (j + 1))[j]? = some l[j] := by rw [List.getElem?_take_of_lt (by omega)]; exact List.getElem?_eq_getElem hlt
      rw [bf c, bf (by omega), nx_c c, cut_all (by omega), Option.bind_some, ht, lim_ok (by omega)]
      rw [Int.toNat_natCast, hg, Option.bind_some, must_true (inI_t (by omega) (by omega)), must_true (inI_t (by omega) (by omega)), must_true (blt_t (by omega)), wr_u8 (by omega), take_snoc hlt, List.set_append_right _ _ (by simp; omega)]
      have : j - (l.take j).length = 0 := by simp; omega
      rw [this]; rfl
theorem refNext_ev {l : List Int} (hl : l.length ≤ 1000000) (hw : Byt l) : Ev (fun k => ref01_Next k l) (nx l, ()) := by
  refine ⟨l.length + 1, fun k hk => ?_⟩
  show ref01_Next k l = _
  rw [ref01_Next_eq, refNext_l0 k hl hw k l.length (by omega) (by omega), List.take_length]
/-! ### Keys of tables -/
abbrev TabT := Int × ((List Int) × ((List ((List Int) × (Int × (Bool × Unit)))) × (Int × ((List Int) × Unit))))
theorem put_ev {l : List ValT} (hl : ∀ v ∈ l, valOk v) (hlen : l.length ≤ 400) : Ev (fun k => okey_Put k l) ((l.isEmpty, l.flatMap encV), ()) := .from 500 fun k => okey_Put_is k hl hlen
def wv (n : Int) : ValT := (1, (n, ([], ())))
def zv : ValT := (0, (0, ([], ())))
def I64 (n : Int) : Prop := -9223372036854775808 ≤ n ∧ n ≤ 9223372036854775807
theorem wv_ok {n : Int} (h : I64 n) : valOk (wv n) := ⟨h, by show ([] : List Int).length ≤ 400; simp⟩
theorem zv_ok : valOk zv := ⟨by constructor <;> decide, by show ([] : List Int).length ≤ 400; simp⟩
def atV (r : List ValT) (i : Int) : ValT := if i < 0 then zv else (r[i.toNat]?).getD zv
theorem at_is (k : Nat) (r : List ValT) (i : Int) : cat_at k r i = some (atV r i, (atV r i, ())) := by
  rw [cat_at_eq]
  unfold atV
  by_cases c : i < 0
  · rw [bt c, if_pos c]; rfl
  · rw [bf c, if_neg c]
    obtain ⟨j, rfl⟩ := Int.eq_ofNat_of_zero_le (show 0 ≤ i by omega)
    rw [Int.toNat_natCast]
    by_cases d : j < r.length
    · rw [bf (by omega), nth_get (List.getElem?_eq_getElem d), Option.bind_some, List.getElem?_eq_getElem d]; rfl
    · rw [bt (by omega), List.getElem?_eq_none (by omega)]; rfl
theorem atV_ok {r : List ValT} (h : ∀ v ∈ r, valOk v) (i : Int) : valOk (atV r i) := by
  unfold atV
  split
  · exact zv_ok
  · cases e : r[i.toNat]? with
    | none => exact zv_ok
    | some v => exact h v (List.mem_of_getElem? e)
theorem atV_get {r : List ValT} {j : Nat} (h : j < r.length) : atV r (j : Int) = r[j] := by
  unfold atV
  rw [if_neg (by omega), Int.toNat_natCast, List.getElem?_eq_getElem h]; rfl
def trowK (t : TabT) (r : List ValT) : List Int := [wv t.1, wv 0, atV r t.2.2.2.1].flatMap encV
theorem rowkey_ev {t : TabT} (ht : I64 t.1) {r : List ValT} (hr : ∀ v ∈ r, valOk v) : Ev (fun k => cat_RowKey k t r) (trowK t r, ()) := by
  simp only [cat_RowKey_eq, cat_whole_eq, at_is, Option.bind_some]
  refine .bind (F := fun k => okey_Put k [wv t.1, wv 0, atV r t.2.2.2.1]) (put_ev (by
    intro v hv
    simp only [List.mem_cons, List.not_mem_nil, or_false] at hv
    rcases hv with rfl | rfl | rfl
    · exact wv_ok ht
    · exact wv_ok (by constructor <;> decide)
    · exact atV_ok hr _) (by simp)) .ret
def idxV (t : TabT) (i : Int) : Option Int := if i < 0 then none else t.2.2.2.2.1[i.toNat]?
theorem column_is (k : Nat) (t : TabT) (i : Int) : cat_column k t i = some (((idxV t i).getD 0, ((idxV t i).isSome, ())), ()) := by
  rw [cat_column_eq]
  unfold idxV
  by_cases c : i < 0
  · rw [bt c, if_pos c]; rfl
  · rw [bf c, if_neg c]
    obtain ⟨j, rfl⟩ := Int.eq_ofNat_of_zero_le (show 0 ≤ i by omega)
    rw [Int.toNat_natCast]
    by_cases d : j < t.2.2.2.2.1.length
    · rw [bf (by omega), nth_get (List.getElem?_eq_getElem d), Option.bind_some, List.getElem?_eq_getElem d]; rfl
    · rw [bt (by omega), List.getElem?_eq_none (by omega)]; rfl
def tidxK (t : TabT) (i : Int) (r : List ValT) : List Int := match idxV t i with
  | none => []
  | some c => [wv t.1, wv (i + 1), atV r c, atV r t.2.2.2.1].flatMap encV
theorem idx_lt {t : TabT} {i c : Int} (h : idxV t i = some c) : 0 ≤ i ∧ i < t.2.2.2.2.1.length := by
  unfold idxV at h
  split at h
  · cases h
  · have := (List.getElem?_eq_some_iff.1 h).1
    omega
theorem idxkey_ev {t : TabT} (ht : I64 t.1) (hl : t.2.2.2.2.1.length ≤ 1000) {r : List ValT} (hr : ∀ v ∈ r, valOk v) (i : Int) : Ev (fun k => cat_IndexKey k t i r) (tidxK t i r, ()) := by
  simp only [cat_IndexKey_eq]
  have hc : ∀ k, cat_column k (t.1, (t.2.1, (t.2.2.1, (t.2.2.2.1, (t.2.2.2.2.1, ()))))) i = some (((idxV t i).getD 0, ((idxV t i).isSome, ())), ()) := fun k => column_is k t i
  simp only [hc, Option.bind_some]
  unfold tidxK
  cases hi : idxV t i with
  | none => exact .ret
  | some c =>
    have hlt := idx_lt hi
    simp only [Option.isSome_some, Bool.not_true, cond_false, Option.getD_some, cat_whole_eq, at_is, Option.bind_some]
    rw [wr_i64 (by omega)]
    refine .bind (F := fun k => okey_Put k [wv t.1, wv (i + 1), atV r c, atV r t.2.2.2.1]) (put_ev (by
      intro v hv
      simp only [List.mem_cons, List.not_mem_nil, or_false] at hv
      rcases hv with rfl | rfl | rfl | rfl
      · exact wv_ok ht
      · exact wv_ok ⟨by omega, by omega⟩
      · exact atV_ok hr _
      · exact atV_ok hr _) (by simp)) .ret
def tundK (t : TabT) (n : Int) : List Int := [wv t.1, wv n].flatMap encV
theorem enc_byt_w {n : Int} (h : I64 n) : Byt (encV (wv n)) := encV_bytes (wv_ok h) (fun x hx => by cases hx)
theorem tundK_byt {t : TabT} (ht : I64 t.1) {n : Int} (hn : I64 n) : Byt (tundK t n) := by
  intro x hx
  obtain ⟨v, hv, hx⟩ := List.mem_flatMap.1 hx
  simp only [List.mem_cons, List.not_mem_nil, or_false] at hv
  rcases hv with rfl | rfl
  · exact enc_byt_w ht x hx
  · exact enc_byt_w hn x hx
theorem encV_ne0 (v : ValT) : encV v ≠ [] := by
  unfold encV
  split
  · simp
  · split <;> simp
theorem under_ev {t : TabT} (ht : I64 t.1) {n : Int} (hn : I64 n) : Ev (fun k => cat_under k t n) ((tundK t n, (nx (tundK t n), ())), ((tundK t n, (nx (tundK t n), ())), ())) := by
  simp only [cat_under_eq, cat_whole_eq, Option.bind_some]
  have hv : ∀ v ∈ [wv t.1, wv n], valOk v := by
    intro v hv
    simp only [List.mem_cons, List.not_mem_nil, or_false] at hv
    rcases hv with rfl | rfl
    · exact wv_ok ht
    · exact wv_ok hn
  have hlen := flat_len _ hv
  refine .bind (F := fun k => okey_Put k [wv t.1, wv n]) (put_ev hv (by simp)) ?_
  refine .bind (F := fun k => okey_Next k ([wv t.1, wv n].isEmpty) (tundK t n)) (okNext_ev (fun h => by cases h) (by unfold tundK; simp at hlen ⊢; omega) (tundK_byt ht hn)) .ret
theorem rows_ev {t : TabT} (ht : I64 t.1) : Ev (fun k => cat_Rows k t) ((tundK t 0, (nx (tundK t 0), ())), ((tundK t 0, (nx (tundK t 0), ())), ())) := by
  simp only [cat_Rows_eq]
  exact .bind (F := fun k => cat_under k t 0) (under_ev ht (by constructor <;> decide)) .ret
def indS (t : TabT) (i : Int) : List Int × (List Int × Unit) := match idxV t i with
  | none => ([], ([], ()))
  | some _ => (tundK t (i + 1), (nx (tundK t (i + 1)), ()))
theorem index_ev {t : TabT} (ht : I64 t.1) (hl : t.2.2.2.2.1.length ≤ 1000) (i : Int) : Ev (fun k => cat_Index k t i) (indS t i, (indS t i, ())) := by
  simp only [cat_Index_eq]
  have hc : ∀ k, cat_column k (t.1, (t.2.1, (t.2.2.1, (t.2.2.2.1, (t.2.2.2.2.1, ()))))) i = some (((idxV t i).getD 0, ((idxV t i).isSome, ())), ()) := fun k => column_is k t i
  simp only [hc, Option.bind_some]
  unfold indS
  cases hi : idxV t i with
  | none => exact .ret
  | some c =>
    have hlt := idx_lt hi
    simp only [Option.isSome_some, Bool.not_true, cond_false]
    rw [wr_i64 (by omega)]
    exact .bind (F := fun k => cat_under k t (i + 1)) (under_ev ht ⟨by omega, by omega⟩) .ret
def smallB (t : TabT) (r : List ((List Int) × (Int × (Bool × Unit)))) : Bool := r.all (fun c => decide (c.1.length ≤ 100)) && (decide (t.2.2.1.length ≤ 14) && (decide (t.2.2.2.2.1.length ≤ 6) && decide (t.2.1.length ≤ 100)))
theorem small_l0 (k : Nat) {t : TabT} (hm : t.2.2.1.length ≤ 9223372036854775807) : ∀ n j, j ≤ t.2.2.1.length → t.2.2.1.length - j < n → law21_Small_l0 k n t.2.2.1 (t.2.2.1.length : Int) (j : Int) t.1 t.2.1 t.2.2.1 t.2.2.2.1 t.2.2.2.2.1 = some (smallB t (t.2.2.1.drop j), ())
  | 0, _, _, h => absurd h (Nat.not_lt_zero _)
  | n + 1, j, hj, hn => by
    rw [law21_Small_l0_eq]
    by_cases c : j < t.2.2.1.length
    · have hx := List.getElem?_eq_getElem c
      rw [bt (by omega), nth_get hx, Option.bind_some, List.drop_eq_getElem_cons c]
      by_cases c1 : 100 < (t.2.2.1[j].1.length : Int)
      · rw [bt c1, show smallB t (t.2.2.1[j] :: t.2.2.1.drop (j + 1)) = false from by unfold smallB; rw [List.all_cons, dF (by omega)]; rfl]
      rw [bf c1, wr_i64 (by omega)]
      refine (small_l0 k hm n (j + 1) c (by omega)).trans ?_
      rw [show smallB t (t.2.2.1[j] :: t.2.2.1.drop (j + 1)) = smallB t (t.2.2.1.drop (j + 1)) from by unfold smallB; rw [List.all_cons, dT (p := t.2.2.1[j].1.length ≤ 100) (by omega)]; rfl]
    · have : j = t.2.2.1.length := by omega
      subst this
      rw [bf (by omega), List.drop_length]
      unfold smallB
      by_cases h1 : t.2.2.1.length ≤ 14
      · rw [bt (by omega), dT h1]
        by_cases h2 : t.2.2.2.2.1.length ≤ 6
        · rw [bt (by omega), dT h2]
          by_cases h3 : t.2.1.length ≤ 100
          · rw [dT (p := ((t.2.1.length : Int) ≤ 100)) (by omega), dT h3]; rfl
          · rw [dF (p := ((t.2.1.length : Int) ≤ 100)) (by omega), dF h3]; rfl
        · rw [bf (by omega), dF h2]; rfl
      · rw [bf (by omega), dF h1]; rfl
theorem small_ev {t : TabT} (hm : t.2.2.1.length ≤ 9223372036854775807) : Ev (fun k => law21_Small k t) (smallB t t.2.2.1, ()) := by
  refine ⟨t.2.2.1.length + 1, fun k hk => ?_⟩
  show law21_Small k t = _
  rw [law21_Small_eq]
  exact small_l0 k hm k 0 (by omega) (by omega)
theorem small_of {t : TabT} (h : smallB t t.2.2.1 = true) : t.2.2.1.length ≤ 14 ∧ t.2.2.2.2.1.length ≤ 6 ∧ t.2.1.length ≤ 100 ∧ ∀ c ∈ t.2.2.1, c.1.length ≤ 100 := by
  unfold smallB at h
  simp only [Bool.and_eq_true, List.all_eq_true, decide_eq_true_eq] at h
  exact ⟨h.2.1, h.2.2.1, h.2.2.2, h.1⟩
theorem awake21_ev : Ev (fun k => law21_awake k) (true, ()) := by
  simp only [law21_awake_eq]
  refine .bind (F := fun k => cat_RowKey k ((1 : Int), ([], ([], ((0 : Int), ([], ()))))) [((1 : Int), ((5 : Int), ([], ())))]) (rowkey_ev (t := ((1 : Int), ([], ([], ((0 : Int), ([], ())))))) (by constructor <;> decide) (by
    intro v hv
    simp only [List.mem_cons, List.not_mem_nil, or_false] at hv
    subst hv
    exact ⟨by constructor <;> decide, by simp⟩)) ?_
  exact ⟨0, fun k _ => by simp only []; decide +kernel⟩
theorem refat_is (k : Nat) (r : List ValT) (i : Int) : ref21_at k r i = some (atV r i, (atV r i, ())) := by
  rw [ref21_at_eq]
  unfold atV
  by_cases c : i < 0
  · rw [bf (by omega), if_pos c]; rfl
  · rw [bt (by omega), if_neg c]
    obtain ⟨j, rfl⟩ := Int.eq_ofNat_of_zero_le (show 0 ≤ i by omega)
    rw [Int.toNat_natCast]
    by_cases d : j < r.length
    · rw [bt (by omega), nth_get (List.getElem?_eq_getElem d), Option.bind_some, List.getElem?_eq_getElem d]; rfl
    · rw [bf (by omega), List.getElem?_eq_none (by omega)]; rfl
theorem refrowkey_ev {t : TabT} (ht : I64 t.1) {r : List ValT} (hr : ∀ v ∈ r, valOk v) : Ev (fun k => ref21_RowKey k t r) (trowK t r, ()) := by
  simp only [ref21_RowKey_eq, ref21_n_eq, refat_is, Option.bind_some]
  refine .bind (F := fun k => ref01_Key k [wv t.1, wv 0, atV r t.2.2.2.1]) (key_ev (by
    intro v hv
    simp only [List.mem_cons, List.not_mem_nil, or_false] at hv
    rcases hv with rfl | rfl | rfl
    · exact wv_ok ht
    · exact wv_ok (by constructor <;> decide)
    · exact atV_ok hr _) (by simp)) .ret
theorem refidxkey_ev {t : TabT} (ht : I64 t.1) (hl : t.2.2.2.2.1.length ≤ 1000) {r : List ValT} (hr : ∀ v ∈ r, valOk v) (i : Int) : Ev (fun k => ref21_IndexKey k t i r) (tidxK t i r, ()) := by
  simp only [ref21_IndexKey_eq]
  unfold tidxK idxV
  by_cases c : i < 0
  · simp only [bt c, if_pos c]; exact .ret
  by_cases c2 : (t.2.2.2.2.1.length : Int) ≤ i
  · simp only [bf c, bt c2, if_neg c]
    rw [List.getElem?_eq_none (by omega)]; exact .ret
  obtain ⟨j, rfl⟩ := Int.eq_ofNat_of_zero_le (show 0 ≤ i by omega)
  have hj : j < t.2.2.2.2.1.length := by omega
  have hx := List.getElem?_eq_getElem hj
  simp only [bf c, bf c2, if_neg c, Int.toNat_natCast, hx, nth_get hx, ref21_n_eq, refat_is, Option.bind_some]
  generalize t.2.2.2.2.1[j] = cc
  rw [wr_i64 (by omega)]
  refine .bind (F := fun k => ref01_Key k [wv t.1, wv ((j : Int) + 1), atV r cc, atV r t.2.2.2.1]) (key_ev (by
    intro v hv
    simp only [List.mem_cons, List.not_mem_nil, or_false] at hv
    rcases hv with rfl | rfl | rfl | rfl
    · exact wv_ok ht
    · exact wv_ok ⟨by omega, by omega⟩
    · exact atV_ok hr _
    · exact atV_ok hr _) (by simp)) .ret
theorem und_ok {t : TabT} (ht : I64 t.1) {n : Int} (hn : I64 n) : (∀ v ∈ [wv t.1, wv n], valOk v) ∧ (tundK t n).length ≤ 1000000 := by
  have hv : ∀ v ∈ [wv t.1, wv n], valOk v := by
    intro v hv
    simp only [List.mem_cons, List.not_mem_nil, or_false] at hv
    rcases hv with rfl | rfl
    · exact wv_ok ht
    · exact wv_ok hn
  have hlen := flat_len _ hv
  exact ⟨hv, by unfold tundK; simp at hlen ⊢; omega⟩
theorem refrows_ev {t : TabT} (ht : I64 t.1) : Ev (fun k => ref21_Rows k t) ((tundK t 0, (nx (tundK t 0), ())), ((tundK t 0, (nx (tundK t 0), ())), ())) := by
  simp only [ref21_Rows_eq, ref21_n_eq, Option.bind_some]
  have hn : I64 0 := by constructor <;> decide
  obtain ⟨hv, hl⟩ := und_ok ht hn
  exact .bind (F := fun k => ref01_Key k [wv t.1, wv 0]) (key_ev hv (by simp)) (.bind (F := fun k => ref01_Next k (tundK t 0)) (refNext_ev hl (tundK_byt ht hn)) .ret)
theorem refindex_ev {t : TabT} (ht : I64 t.1) (hl : t.2.2.2.2.1.length ≤ 1000) (i : Int) : Ev (fun k => ref21_Index k t i) (indS t i, (indS t i, ())) := by
  simp only [ref21_Index_eq]
  unfold indS idxV
  by_cases c : i < 0
  · simp only [bt c, if_pos c]; exact .ret
  by_cases c2 : (t.2.2.2.2.1.length : Int) ≤ i
  · simp only [bf c, bt c2, if_neg c]
    rw [List.getElem?_eq_none (by omega)]; exact .ret
  obtain ⟨j, rfl⟩ := Int.eq_ofNat_of_zero_le (show 0 ≤ i by omega)
  have hj : j < t.2.2.2.2.1.length := by omega
  have hx := List.getElem?_eq_getElem hj
  simp only [bf c, bf c2, if_neg c, Int.toNat_natCast, hx, ref21_n_eq, Option.bind_some]
  rw [wr_i64 (by omega)]
  have hn : I64 ((j : Int) + 1) := ⟨by omega, by omega⟩
  obtain ⟨hv, hl2⟩ := und_ok ht hn
  exact .bind (F := fun k => ref01_Key k [wv t.1, wv ((j : Int) + 1)]) (key_ev hv (by simp)) (.bind (F := fun k => ref01_Next k (tundK t ((j : Int) + 1))) (refNext_ev hl2 (tundK_byt ht hn)) .ret)
theorem decEqV (x y : ValT) : Ty.decEq (.st (.pair (.int .i64) (.pair (.int .i64) (.pair .str .unit)))) x y = decide (x = y) := by
  obtain ⟨a, b, c, ⟨⟩⟩ := x
  obtain ⟨d, e, f, ⟨⟩⟩ := y
  show (beqI a d && (beqI b e && (beqL c f && true))) = _
  unfold beqI beqL
  by_cases h1 : a = d <;> by_cases h2 : b = e <;> by_cases h3 : c = f <;> simp [h1, h2, h3]
def keyM (t : TabT) : Option (List ValT) → ValT × Bool
  | none => (zv, false)
  | some l => if l.length < 3 then (zv, false) else if l.getD 0 zv ≠ wv t.1 then (zv, false) else if (l.getD 1 zv).1 ≠ 1 then (zv, false)
    else if ((l.getD 1 zv).2.1 = 0 ∧ l.length = 3) ∨ (1 ≤ (l.getD 1 zv).2.1 ∧ (l.getD 1 zv).2.1 ≤ t.2.2.2.2.1.length ∧ l.length = 4) then (l.getD (l.length - 1) zv, true) else (zv, false)
theorem nth_getD {l : List ValT} {j : Nat} (h : j < l.length) : nth l (j : Int) = some (l.getD j zv) := by
  rw [nth_get (List.getElem?_eq_getElem h), List.getD_eq_getElem?_getD, List.getElem?_eq_getElem h]; rfl
abbrev kRes (p : ValT × Bool) : (ValT × (Bool × Unit)) × (ValT × Unit) := ((p.1, (p.2, ())), (p.1, ()))
theorem keyof_is (k : Nat) (t : TabT) (key : List Int) (o : Option (List ValT)) (ho : okey_Of k key = some (resT [] o, ())) (hl : ∀ l, o = some l → l.length ≤ 1000) : cat_KeyOf k t key = some (kRes (keyM t o)) := by
  cases o with
  | none => rw [cat_KeyOf_eq, ho]; rfl
  | some l =>
    have hl := hl l rfl
    rw [show resT [] (some l) = (l, ((0 : Int), ())) by simp [resT]] at ho
    rw [cat_KeyOf_eq, ho, Option.bind_some]
    simp only [dT, Bool.not_true, cond_false]
    by_cases h3 : l.length < 3
    · have h3' : (l.length : Int) < 3 := by omega
      rw [bt h3', show keyM t (some l) = (zv, false) from if_pos h3]; rfl
    have h3' : ¬ (l.length : Int) < 3 := by omega
    have n0 : nth l 0 = some (l.getD 0 zv) := nth_getD (j := 0) (by omega)
    have n1 : nth l 1 = some (l.getD 1 zv) := nth_getD (j := 1) (by omega)
    have nl : nth l (wr .i64 ((l.length : Int) - 1)) = some (l.getD (l.length - 1) zv) := by
      rw [wr_i64 (by omega), show (l.length : Int) - 1 = ((l.length - 1 : Nat) : Int) by omega]; exact nth_getD (by omega)
    rw [bf h3']
    simp only [n0, n1, nl, Option.bind_some, cat_whole_eq, decEqV]
    have hk : keyM t (some l) = if l.getD 0 zv ≠ wv t.1 then (zv, false) else if (l.getD 1 zv).1 ≠ 1 then (zv, false)
      else if ((l.getD 1 zv).2.1 = 0 ∧ l.length = 3) ∨ (1 ≤ (l.getD 1 zv).2.1 ∧ (l.getD 1 zv).2.1 ≤ t.2.2.2.2.1.length ∧ l.length = 4) then (l.getD (l.length - 1) zv, true) else (zv, false) := if_neg h3
    rw [hk]
    generalize l.getD 0 zv = a
    generalize l.getD 1 zv = b
    generalize l.getD (l.length - 1) zv = c
    by_cases ha : a = wv t.1
    · rw [show decide (a = (1, (t.1, ([], ())))) = true from dT ha, if_neg (by simpa using ha), Bool.not_true, cond_false]
      by_cases hb : b.1 = 1
      · rw [dT hb, if_neg (by simpa using hb), Bool.not_true, cond_false]
        have e3 : decide ((l.length : Int) = 3) = decide (l.length = 3) := by by_cases h : l.length = 3 <;> simp [h]; omega
        have e4 : decide ((l.length : Int) = 4) = decide (l.length = 4) := by by_cases h : l.length = 4 <;> simp [h]; omega
        rw [e3, e4]
        by_cases z : b.2.1 = 0
        · have z1 : ¬ 1 ≤ b.2.1 := by omega
          rw [bt z, bf z1]
          by_cases q3 : l.length = 3
          · rw [dT q3, if_pos (.inl ⟨z, q3⟩)]; rfl
          · rw [dF q3, if_neg (by omega)]; rfl
        · rw [bf z]
          by_cases z1 : 1 ≤ b.2.1
          · rw [bt z1]
            by_cases z2 : b.2.1 ≤ (t.2.2.2.2.1.length : Int)
            · rw [bt z2]
              by_cases q4 : l.length = 4
              · rw [dT q4, if_pos (.inr ⟨z1, z2, q4⟩)]; rfl
              · rw [dF q4, if_neg (by omega)]; rfl
            · rw [bf z2, if_neg (by omega)]; rfl
          · rw [bf z1, if_neg (by omega)]; rfl
      · rw [dF hb, if_pos hb, Bool.not_false, cond_true]; rfl
    · rw [show decide (a = (1, (t.1, ([], ())))) = false from dF ha, if_pos ha, Bool.not_false, cond_true]; rfl
theorem refkeyof_is (k : Nat) (t : TabT) (key : List Int) (o : Option (List ValT)) (ho : ref01_Unkey k key = some (resT [] o, ())) (hl : ∀ l, o = some l → l.length ≤ 1000) : ref21_KeyOf k t key = some (kRes (keyM t o)) := by
  cases o with
  | none => rw [ref21_KeyOf_eq, ho]; rfl
  | some l =>
    have hl := hl l rfl
    rw [show resT [] (some l) = (l, ((0 : Int), ())) by simp [resT]] at ho
    rw [ref21_KeyOf_eq, ho, Option.bind_some]
    simp only [dT, Bool.not_true, cond_false]
    by_cases h3 : l.length < 3
    · have h3' : (l.length : Int) < 3 := by omega
      rw [bt h3', show keyM t (some l) = (zv, false) from if_pos h3]; rfl
    have h3' : ¬ (l.length : Int) < 3 := by omega
    have hk : keyM t (some l) = if l.getD 0 zv ≠ wv t.1 then (zv, false) else if (l.getD 1 zv).1 ≠ 1 then (zv, false)
      else if ((l.getD 1 zv).2.1 = 0 ∧ l.length = 3) ∨ (1 ≤ (l.getD 1 zv).2.1 ∧ (l.getD 1 zv).2.1 ≤ t.2.2.2.2.1.length ∧ l.length = 4) then (l.getD (l.length - 1) zv, true) else (zv, false) := if_neg h3
    rw [bf h3', hk]
    by_cases h4 : 4 < (l.length : Int)
    · rw [bt h4]
      have : ¬ (((l.getD 1 zv).2.1 = 0 ∧ l.length = 3) ∨ (1 ≤ (l.getD 1 zv).2.1 ∧ (l.getD 1 zv).2.1 ≤ t.2.2.2.2.1.length ∧ l.length = 4)) := by omega
      rw [if_neg this]
      split
      · rfl
      · split <;> rfl
    have n0 : nth l 0 = some (l.getD 0 zv) := nth_getD (j := 0) (by omega)
    have n1 : nth l 1 = some (l.getD 1 zv) := nth_getD (j := 1) (by omega)
    have nl : nth l (wr .i64 ((l.length : Int) - 1)) = some (l.getD (l.length - 1) zv) := by
      rw [wr_i64 (by omega), show (l.length : Int) - 1 = ((l.length - 1 : Nat) : Int) by omega]; exact nth_getD (by omega)
    rw [bf h4]
    simp only [n0, n1, nl, Option.bind_some, ref21_n_eq, decEqV]
    generalize l.getD 0 zv = a
    generalize l.getD 1 zv = b
    generalize l.getD (l.length - 1) zv = c
    by_cases ha : a = wv t.1
    · rw [show decide (a = (1, (t.1, ([], ())))) = true from dT ha, if_neg (by simpa using ha), Bool.not_true, cond_false]
      by_cases hb : b.1 = 1
      · rw [dT hb, if_neg (by simpa using hb), Bool.not_true, cond_false]
        have e3 : decide ((l.length : Int) = 3) = decide (l.length = 3) := by by_cases h : l.length = 3 <;> simp [h]; omega
        have e4 : decide ((l.length : Int) = 4) = decide (l.length = 4) := by by_cases h : l.length = 4 <;> simp [h]; omega
        rw [e3, e4]
        by_cases z : b.2.1 = 0
        · have z1 : ¬ 0 < b.2.1 := by omega
          rw [bt z, bf z1]
          by_cases q3 : l.length = 3
          · rw [dT q3, if_pos (.inl ⟨z, q3⟩)]; rfl
          · rw [dF q3, if_neg (by omega)]; rfl
        · rw [bf z]
          by_cases z1 : 0 < b.2.1
          · rw [bt z1]
            by_cases z2 : b.2.1 ≤ (t.2.2.2.2.1.length : Int)
            · rw [bt z2]
              by_cases q4 : l.length = 4
              · rw [dT q4, if_pos (.inr ⟨by omega, z2, q4⟩)]; rfl
              · rw [dF q4, if_neg (by omega)]; rfl
            · rw [bf z2, if_neg (by omega)]; rfl
          · rw [bf z1, if_neg (by omega)]; rfl
      · rw [dF hb, if_pos hb, Bool.not_false, cond_true]; rfl
    · rw [show decide (a = (1, (t.1, ([], ())))) = false from dF ha, if_pos ha, Bool.not_false, cond_true]; rfl
theorem same_span (k : Nat) (x : List Int × (List Int × Unit)) : ref21_SameSpan k x x = some (true, ()) := by
  rw [ref21_SameSpan_eq]
  simp only [show ∀ x, beqL x x = true from fun x => dT rfl, cond_true]
theorem CatKeys_true (t : TabT) (r : List ValT) (i : Int) (key : List Int) (hT : wfD (.st (.pair (.int .i64) (.pair .str (.pair (.sl (.st (.pair .str (.pair (.int .i64) (.pair .bool .unit))))) (.pair (.int .i64) (.pair (.sl (.int .i64)) .unit)))))) t) (h : wfD (.sl (.st (.pair (.int .i64) (.pair (.int .i64) (.pair .str .unit))))) r) (hi : (Lit.int .i64 i).wf = true) (hk : Byt key) : ∃ k, law21_CatKeys k t r i key = some (true, ()) := by
  refine Ev.ex (F := fun k => law21_CatKeys k t r i key) ?_
  obtain ⟨t1, t2, t3, t4, t5, _⟩ := hT
  have t1 := wf_i64 t1
  have hm : t.2.2.1.length ≤ 9223372036854775807 := Nat.le_trans t3.1 (by decide)
  simp only [law21_CatKeys_eq]
  refine .bind awake21_ev ?_
  simp only [Bool.not_true, cond_false]
  refine .bind (F := fun k => law21_Small k t) (small_ev hm) ?_
  cases hs : smallB t t.2.2.1 with
  | false => exact .ret
  | true =>
  obtain ⟨s1, s2, s3, s4⟩ := small_of hs
  simp only [Bool.not_true, cond_false]
  refine .bind (few_ev h) ?_
  cases hb : fewB r r with
  | false => exact .ret
  | true =>
  obtain ⟨a1, a2⟩ := few_of h hb
  simp only [Bool.not_true, cond_false]
  by_cases c : 300 < (key.length : Int)
  · simp only [bt c]; exact .ret
  simp only [bf c]
  have hr : ∀ v ∈ r, valOk v := fun v hv => (a2 v hv).1.1
  have hlen : ∀ l, ofD key.length key = some l → l.length ≤ 1000 := by
    intro l ho
    have := (ofD_back _ key hk (by omega) l ho).2.1
    omega
  have e1 : Ev (fun k => cat_KeyOf k t key) (kRes (keyM t (ofD key.length key))) := by
    obtain ⟨K, hK⟩ := of_ev (l := key) (by omega) hk
    exact ⟨K, fun k hk' => keyof_is k t key _ (hK k hk') hlen⟩
  have e2 : Ev (fun k => ref21_KeyOf k t key) (kRes (keyM t (ofD key.length key))) := by
    obtain ⟨K, hK⟩ := unk_ev (l := key) (by omega) hk
    exact ⟨K, fun k hk' => refkeyof_is k t key _ (hK k hk') hlen⟩
  refine .bind (F := fun k => cat_KeyOf k t key) e1 (.bind (F := fun k => ref21_KeyOf k t key) e2 (.bind (F := fun k => cat_RowKey k t r) (rowkey_ev t1 hr) (.bind (F := fun k => ref21_RowKey k t r) (refrowkey_ev t1 hr) ?_)))
  simp only [show ∀ x, beqL x x = true from fun x => dT rfl, cond_true]
  refine .bind (F := fun k => cat_IndexKey k t i r) (idxkey_ev t1 (by omega) hr i) (.bind (F := fun k => ref21_IndexKey k t i r) (refidxkey_ev t1 (by omega) hr i) ?_)
  simp only [show ∀ x, beqL x x = true from fun x => dT rfl, cond_true]
  refine .bind (F := fun k => cat_Rows k t) (rows_ev t1) (.bind (F := fun k => ref21_Rows k t) (refrows_ev t1) ?_)
  simp only [same_span, Option.bind_some, cond_true]
  refine .bind (F := fun k => cat_Index k t i) (index_ev t1 (by omega) i) (.bind (F := fun k => ref21_Index k t i) (refindex_ev t1 (by omega) i) ?_)
  simp only [same_span, Option.bind_some, cond_true]
  generalize keyM t (ofD key.length key) = p
  refine ⟨0, fun k _ => ?_⟩
  show (bif beqB p.2 p.2 then some (Ty.decEq (.st (.pair (.int .i64) (.pair (.int .i64) (.pair .str .unit)))) p.1 p.1, ()) else some (false, ())) = some (true, ())
  rw [show beqB p.2 p.2 = true from dT rfl, cond_true, decEqV, dT rfl]
end Go.Proofs.Ytmngjegceoidhaa.Den
