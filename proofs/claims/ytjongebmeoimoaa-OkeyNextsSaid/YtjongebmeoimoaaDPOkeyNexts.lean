import Derived.Test.YtjongebmeoimoaaDOkeyNexts
import Derived.Test.YtjongebmeoimoaaDen34
namespace Go.Proofs.Ytjongebmeoimoaa.Den
open Go Go.RowKit
set_option linter.unusedVariables false
/-! ### Bytes of a number -/
def be : Nat → Nat → List Int
  | 0, _ => []
  | n + 1, u => ((u / 256 ^ n % 256 : Nat) : Int) :: be n u
theorem be_length : ∀ n u, (be n u).length = n
  | 0, _ => rfl
  | n + 1, u => congrArg (· + 1) (be_length n u)
theorem be_wf : ∀ n u x, x ∈ be n u → (Lit.int .u8 x).wf = true
  | n + 1, u, x, h => by
    rcases List.mem_cons.1 h with rfl | h
    · have := Nat.mod_lt (u / 256 ^ n) (show 0 < 256 by decide)
      simp [Lit.wf, IntKind.min, IntKind.max, IntKind.signed, IntKind.bits]; omega
    · exact be_wf n u x h
theorem mod_step (u n : Nat) : u % 256 ^ (n + 1) = u % 256 ^ n + 256 ^ n * (u / 256 ^ n % 256) := by
  rw [Nat.pow_succ]; exact Nat.mod_mul
theorem lt_step {p a b r s : Nat} (hr : r < p) (hs : s < p) : (decide (a < b) || (decide (a = b) && decide (r < s))) = decide (r + p * a < s + p * b) := by
  rcases Nat.lt_trichotomy a b with h | h | h
  · have h1 := Nat.mul_le_mul_left p (show a + 1 ≤ b from h)
    rw [Nat.mul_succ] at h1
    rw [decide_eq_true h, decide_eq_true (show r + p * a < s + p * b by omega)]; rfl
  · subst h
    simp
  · have h1 := Nat.mul_le_mul_left p (show b + 1 ≤ a from h)
    rw [Nat.mul_succ] at h1
    rw [decide_eq_false (show ¬ a < b by omega), decide_eq_false (show ¬ a = b by omega), decide_eq_false (show ¬ r + p * a < s + p * b by omega)]; rfl
theorem ltL_be : ∀ n u v, ltL (be n u) (be n v) = decide (u % 256 ^ n < v % 256 ^ n)
  | 0, _, _ => by simp [be, ltL, Nat.mod_one]
  | n + 1, u, v => by
    show (decide (((u / 256 ^ n % 256 : Nat) : Int) < ((v / 256 ^ n % 256 : Nat) : Int)) || (decide (((u / 256 ^ n % 256 : Nat) : Int) = ((v / 256 ^ n % 256 : Nat) : Int)) && ltL (be n u) (be n v))) = _
    rw [ltL_be n u v, mod_step, mod_step]
    have hp : 0 < 256 ^ n := Nat.pow_pos (by decide)
    rw [← lt_step (Nat.mod_lt u hp) (Nat.mod_lt v hp)]
    congr 2
    · simp only [Int.ofNat_lt]
    · simp only [Int.natCast_inj]
theorem be_eq {u v : Nat} : ∀ n, be n u = be n v → u % 256 ^ n = v % 256 ^ n
  | 0, _ => by simp [Nat.mod_one]
  | n + 1, h => by
    have h : ((u / 256 ^ n % 256 : Nat) : Int) :: be n u = ((v / 256 ^ n % 256 : Nat) : Int) :: be n v := h
    injection h with h1 h2
    rw [mod_step, mod_step, be_eq n h2, Int.natCast_inj.1 h1]
theorem beqL_be {u v : Nat} (hu : u < 18446744073709551616) (hv : v < 18446744073709551616) : beqL (be 8 u) (be 8 v) = decide (u = v) := by
  unfold beqL
  by_cases h : u = v
  · subst h; simp
  · have : ¬ be 8 u = be 8 v := fun e => h (by have := be_eq 8 e; omega)
    simp [h, this]
theorem shr_is {u j : Nat} (hj : j < 8) : shrK .u64 (u : Int) (wr .i64 (8 * (j : Int))) = some (((u / 256 ^ j : Nat)) : Int) := by
  rw [wr_i64 (by omega)]
  have hj : j = 0 ∨ j = 1 ∨ j = 2 ∨ j = 3 ∨ j = 4 ∨ j = 5 ∨ j = 6 ∨ j = 7 := by omega
  rcases hj with rfl | rfl | rfl | rfl | rfl | rfl | rfl | rfl <;> rfl
theorem set_last (m : Nat) (l : List Int) (x : Int) : (List.replicate (m + 1) (0 : Int) ++ l).set m x = List.replicate m 0 ++ x :: l := by
  rw [List.replicate_succ', List.append_assoc, List.set_append_right _ _ (by simp)]
  simp
theorem put_loop (k : Nat) {u w : Nat} (hw : w ≤ 8) : ∀ n j, j ≤ w → w - j < n → num_Put_l0 k n (u : Int) (w : Int) (w : Int) (j : Int) (List.replicate (w - j) 0 ++ be j u) = some (be w u, ())
  | 0, _, _, h => absurd h (Nat.not_lt_zero _)
  | n + 1, j, hj, hn => by
    rw [num_Put_l0_eq]
    by_cases c : j < w
    · obtain ⟨m, hm⟩ : ∃ m, w - j = m + 1 := ⟨w - j - 1, by omega⟩
      have e1 : wr .i64 (wr .i64 ((w : Int) - 1) - (j : Int)) = (m : Int) := by
        rw [wr_i64 (n := (w : Int) - 1) (by omega), wr_i64 (by omega)]; omega
      have hlen : (List.replicate (w - j) (0 : Int) ++ be j u).length = w := by simp [be_length]; omega
      have e2 : wr .u8 (((u / 256 ^ j : Nat)) : Int) = ((u / 256 ^ j % 256 : Nat) : Int) := by rw [wrm_u8]; rfl
      rw [bif_true (by simp; omega), shr_is (by omega), Option.bind_some, e1, hlen, must_true (by unfold inI; simp; omega), must_true (by simp [Nat.blt]; omega), e2, wr_i64 (by omega), hm, Int.toNat_natCast, set_last]
      have ih := put_loop k (u := u) hw n (j + 1) c (by omega)
      have e3 : w - (j + 1) = m := by omega
      rw [e3] at ih
      exact ih
    · have : j = w := by omega
      subst this
      rw [bif_false (by simp)]
      simp
theorem num_Put_is (k : Nat) {u w : Nat} (hw : w ≤ 8) : num_Put (k + 10) (u : Int) (w : Int) = some (be w u, ()) := by
  rw [num_Put_eq, bif_false (by simp), bif_false (by simp; omega), must_true (by simp [beqI]), Int.toNat_natCast, lim_ok (by omega)]
  have := put_loop (k + 10) (u := u) hw (k + 10) 0 (by omega) (by omega)
  simpa [be] using this
/-! ### Keys -/
abbrev ValT := Int × (Int × ((List Int) × Unit))
def esc (s : List Int) : List Int := s.flatMap fun x => if x = 0 then [x, 255] else [x]
def encV (v : ValT) : List Int := if v.1 = 1 then 2 :: be 8 (v.2.1 + 9223372036854775808).toNat else if v.1 = 2 then 3 :: (esc v.2.2.1 ++ [0, 1]) else [1]
theorem esc_cons (x : Int) (s : List Int) : esc (x :: s) = (if x = 0 then [x, 255] else [x]) ++ esc s := rfl
theorem esc_length : ∀ s : List Int, (esc s).length ≤ 2 * s.length
  | [] => by simp [esc]
  | x :: s => by
    have := esc_length s
    rw [esc_cons]
    split <;> simp <;> omega
def valOk (v : ValT) : Prop := (-9223372036854775808 ≤ v.2.1 ∧ v.2.1 ≤ 9223372036854775807) ∧ v.2.2.1.length ≤ 400
theorem encV_length {v : ValT} (h : valOk v) : (encV v).length ≤ 1000 := by
  have := esc_length v.2.2.1
  have := h.2
  unfold encV
  split
  · simp [be_length]
  · split <;> simp <;> omega
theorem oFlip_is (k : Nat) {a : Int} (h : -9223372036854775808 ≤ a ∧ a ≤ 9223372036854775807) : num_Flip k a = some (a + 9223372036854775808, ()) := by
  rw [num_Flip_eq]
  unfold wr
  rw [flip_eq h]
theorem oPut_l1 (k n : Nat) (l : List ValT) (len j : Int) (c : Bool) {s : List Int} (hs : s.length ≤ 400) : ∀ n1 i b out, i ≤ s.length → s.length - i < n1 → List.length out + 2 * (s.length - i) ≤ 60000000 →
    ∃ b', okey_Put_l1 (k + 1) n n1 b out l len j c s (s.length : Int) (i : Int) = okey_Put_j2 (k + 1) n b' (out ++ (esc (s.drop i) ++ [0, 1])) l len j
  | 0, _, _, _, _, h, _ => absurd h (Nat.not_lt_zero _)
  | n1 + 1, i, b, out, hi, hn, ho => by
    rw [okey_Put_l1_eq]
    by_cases d : i < s.length
    · have hx := List.getElem?_eq_getElem d
      have hd : s.drop i = s[i] :: s.drop (i + 1) := List.drop_eq_getElem_cons d
      rw [bt (by omega), nth_get hx, Option.bind_some, lim_ok (by simp; omega), hd, esc_cons]
      by_cases e : s[i] = 0
      · rw [bt e, if_pos e, lim_ok (by simp; omega), okey_Put_j1_eq, wr_next d (by omega)]
        obtain ⟨b', h⟩ := oPut_l1 k n l len j c hs n1 (i + 1) ((b && [s[i]].isEmpty) && [(255 : Int)].isEmpty) ((out ++ [s[i]]) ++ [(255 : Int)]) d (by omega) (by simp; omega)
        refine ⟨b', h.trans ?_⟩
        simp
      · rw [bf e, if_neg e, okey_Put_j1_eq, wr_next d (by omega)]
        obtain ⟨b', h⟩ := oPut_l1 k n l len j c hs n1 (i + 1) (b && [s[i]].isEmpty) (out ++ [s[i]]) d (by omega) (by simp; omega)
        refine ⟨b', h.trans ?_⟩
        simp
    · have : i = s.length := by omega
      subst this
      rw [bf (by omega), lim_ok (by simp; omega), List.drop_length]
      exact ⟨_, rfl⟩
theorem oPut_loop (k : Nat) {l : List ValT} (hl : ∀ v ∈ l, valOk v) (hlen : l.length ≤ 400) : ∀ n j b out, j ≤ l.length → l.length - j < n → List.length out + 1000 * (l.length - j) ≤ 50000000 →
    okey_Put_l0 (k + 500) n b out l (l.length : Int) (j : Int) = some (out ++ (l.drop j).flatMap encV, ())
  | 0, _, _, _, _, h, _ => absurd h (Nat.not_lt_zero _)
  | n + 1, j, b, out, hj, hn, ho => by
    rw [okey_Put_l0_eq]
    by_cases d : j < l.length
    · have hx := List.getElem?_eq_getElem d
      have hd : l.drop j = l[j] :: l.drop (j + 1) := List.drop_eq_getElem_cons d
      have hv := hl _ (List.getElem_mem d)
      have hle := encV_length hv
      rw [bt (by omega), nth_get hx, Option.bind_some, hd, List.flatMap_cons]
      generalize l[j] = v at *
      have next : ∀ b', okey_Put_j0 (k + 500) n b' (out ++ encV v) l (l.length : Int) (j : Int) = some (out ++ (encV v ++ (l.drop (j + 1)).flatMap encV), ()) := by
        intro b'
        show okey_Put_j0 (k + 499 + 1) n _ _ _ _ _ = _
        rw [okey_Put_j0_eq, wr_next d (by omega)]
        have := oPut_loop k hl hlen n (j + 1) b' (out ++ encV v) d (by omega) (by simp; omega)
        rw [List.append_assoc] at this
        exact this
      have next2 : ∀ b', okey_Put_j2 (k + 500) n b' (out ++ encV v) l (l.length : Int) (j : Int) = some (out ++ (encV v ++ (l.drop (j + 1)).flatMap encV), ()) := by
        intro b'
        show okey_Put_j2 (k + 499 + 1) n _ _ _ _ _ = _
        rw [okey_Put_j2_eq]
        exact next b'
      by_cases c1 : v.1 = 1
      · have he : encV v = 2 :: be 8 (v.2.1 + 9223372036854775808).toNat := if_pos c1
        obtain ⟨u, hu⟩ := Int.eq_ofNat_of_zero_le (show 0 ≤ v.2.1 + 9223372036854775808 by have := hv.1; omega)
        rw [bt c1, lim_ok (by simp; omega), oFlip_is _ hv.1, Option.bind_some, hu, show num_Put (k + 500) (u : Int) (8 : Int) = _ from num_Put_is (k + 490) (u := u) (w := 8) (by omega), Option.bind_some, lim_ok (by simp [be_length]; omega)]
        have e2 : (out ++ [(2 : Int)]) ++ be 8 u = out ++ encV v := by rw [he, hu]; simp
        rw [e2]
        exact next _
      rw [bf c1]
      by_cases c2 : v.1 = 2
      · have he : encV v = 3 :: (esc v.2.2.1 ++ [0, 1]) := by unfold encV; rw [if_neg c1, if_pos c2]
        have hs := hv.2
        obtain ⟨b', h⟩ := oPut_l1 (k + 499) n l (l.length : Int) (j : Int) false hs (k + 500) 0 (b && [(3 : Int)].isEmpty) (out ++ [(3 : Int)]) (by omega) (by omega) (by simp; omega)
        rw [bt c2, lim_ok (by simp; omega)]
        refine h.trans ?_
        have e2 : (out ++ [(3 : Int)]) ++ (esc (v.2.2.1.drop 0) ++ [0, 1]) = out ++ encV v := by rw [he]; simp
        rw [e2]
        exact next2 _
      · have he : encV v = [1] := by unfold encV; rw [if_neg c1, if_neg c2]
        rw [bf c2, lim_ok (by simp; omega), ← he]
        exact next2 _
    · have : j = l.length := by omega
      subst this
      rw [bf (by omega), List.drop_length]
      simp
theorem okey_Put_is (k : Nat) {l : List ValT} (hl : ∀ v ∈ l, valOk v) (hlen : l.length ≤ 400) : okey_Put (k + 500) l = some (l.flatMap encV, ()) := by
  rw [okey_Put_eq]
  have := oPut_loop k hl hlen (k + 500) 0 true [] (by omega) (by omega) (by simp; omega)
  simpa using this
/-! ### The next bytes -/
def nx : List Int → List Int
  | [] => []
  | x :: r => match nx r with
    | [] => if x = 255 then [] else [x + 1]
    | y :: t => x :: y :: t
theorem nx_n {x : Int} {r : List Int} (h : nx r = []) : nx (x :: r) = if x = 255 then [] else [x + 1] := by
  conv => lhs; unfold nx
  rw [h]
theorem nx_k {x y : Int} {r s : List Int} (h : nx r = y :: s) : nx (x :: r) = x :: nx r := by
  conv => lhs; unfold nx
  rw [h]
theorem nx_255 : ∀ l, nx (l ++ [255]) = nx l
  | [] => rfl
  | x :: r => by
    show (match nx (r ++ [255]) with | [] => if x = 255 then [] else [x + 1] | y :: t => x :: y :: t) = _
    rw [nx_255 r]; rfl
theorem nx_c {c : Int} (hc : c ≠ 255) : ∀ l, nx (l ++ [c]) = l ++ [c + 1]
  | [] => if_neg hc
  | x :: r => by
    show (match nx (r ++ [c]) with | [] => if x = 255 then [] else [x + 1] | y :: t => x :: y :: t) = _
    rw [nx_c hc r]
    cases r <;> rfl
abbrev Byt (l : List Int) : Prop := ∀ x ∈ l, (Lit.int .u8 x).wf = true
theorem take_snoc {l : List Int} {j : Nat} (h : j < l.length) : l.take (j + 1) = l.take j ++ [l[j]] := List.take_succ_eq_append_getElem h
theorem okNext_l0 (k : Nat) {b : Bool} {l : List Int} (hb : b = true → l = []) (hl : l.length ≤ 1000000) (hw : Byt l) : ∀ n j, j ≤ l.length → j < n → okey_Next_l0 k n b l ((j : Int) - 1) = some (nx (l.take j), ())
  | 0, _, _, h => absurd h (Nat.not_lt_zero _)
  | n + 1, 0, _, _ => by
    rw [okey_Next_l0_eq, bf (by omega)]; rfl
  | n + 1, j + 1, hj, hn => by
    have hlt : j < l.length := hj
    have e : ((j + 1 : Nat) : Int) - 1 = (j : Int) := by omega
    rw [e, okey_Next_l0_eq, bt (by omega), nth_get (List.getElem?_eq_getElem hlt), Option.bind_some, take_snoc hlt]
    have hx := wf_u8 (hw _ (List.getElem_mem hlt))
    by_cases c : l[j] = 255
    · rw [bif_false (by simp [c]), c, nx_255, wr_i64 (by omega)]
      exact okNext_l0 k hb hl hw n j (by omega) (by omega)
    · have hb0 : b = false := by
        cases b with
        | false => rfl
        | true => have := hb rfl; subst this; simp at hlt
      have ht : (l.take (j + 1)).length = j + 1 := by simp; omega
      have hg : (l.take (j + 1))[j]? = some l[j] := by rw [List.getElem?_take_of_lt (by omega)]; exact List.getElem?_eq_getElem hlt
      rw [bif_true (by simp [c]), nx_c c, wr_next hlt (by omega), cut_all (by omega), Option.bind_some, bytes_Clone_eq, hb0, bif_false rfl, ht, lim_ok (by omega), Option.bind_some]
      show must (inI (j : Int) (l.take (j + 1)).length) (((l.take (j + 1))[(j : Int).toNat]?).bind _) = _
      rw [Int.toNat_natCast, hg, Option.bind_some, ht, must_true (inI_t (by omega) (by omega)), must_true (inI_t (by omega) (by omega)), must_true (blt_t (by omega)), wr_u8 (by omega), take_snoc hlt, List.set_append_right _ _ (by simp; omega)]
      have : j - (l.take j).length = 0 := by simp; omega
      rw [this]; rfl
theorem okNext_ev {b : Bool} {l : List Int} (hb : b = true → l = []) (hl : l.length ≤ 1000000) (hw : Byt l) : Ev (fun k => okey_Next k b l) (nx l, ()) := by
  refine ⟨l.length + 1, fun k hk => ?_⟩
  show okey_Next k b l = _
  rw [okey_Next_eq]
  show okey_Next_l0 k k b l (wr .i64 ((l.length : Int) - 1)) = _
  rw [wr_i64 (by omega), okNext_l0 k hb hl hw k l.length (by omega) (by omega), List.take_length]

/-! ### The order of bytes -/
theorem cmp_lt : ∀ a b, (cmpL a b < 0) ↔ ltL a b = true
  | [], [] => by simp [cmpL, ltL]
  | [], _ :: _ => by simp [cmpL, ltL]
  | _ :: _, [] => by simp [cmpL, ltL]
  | a :: x, b :: y => by
    have ih := cmp_lt x y
    unfold cmpL ltL
    by_cases h : a < b
    · simp [h]
    · by_cases h2 : b < a
      · have : ¬ a = b := by omega
        simp [h, h2, this]
      · have : a = b := by omega
        simp [this, ih]
theorem ltL_irr : ∀ a, ltL a a = false
  | [] => rfl
  | x :: r => by simp [ltL, ltL_irr r]
theorem ltL_app : ∀ p t, ltL (p ++ t) p = false
  | [], t => by cases t <;> rfl
  | x :: r, t => by simp [ltL, ltL_app r t]
theorem ltL_nx : ∀ p t, nx p ≠ [] → ltL (p ++ t) (nx p) = true
  | [], _, h => absurd rfl h
  | x :: r, t, h => by
    cases hn : nx r with
    | nil =>
      rw [nx_n hn] at h ⊢
      by_cases hx : x = 255
      · rw [if_pos hx] at h; exact absurd rfl h
      · rw [if_neg hx]
        have : x < x + 1 := by omega
        simp [ltL, this]
    | cons y s =>
      rw [nx_k hn]
      have := ltL_nx r t (by rw [hn]; simp)
      simp [ltL, this]
theorem pre_of_nx : ∀ r s, Byt s → nx r = [] → Byt r → ltL s r = false → ∃ t, s = r ++ t
  | [], s, _, _, _, _ => ⟨s, rfl⟩
  | x :: r, s, hs, hn, hr, hl => by
    have h1 : nx r = [] := by
      cases h : nx r with
      | nil => rfl
      | cons y t => unfold nx at hn; rw [h] at hn; simp at hn
    have h2 : x = 255 := by
      unfold nx at hn; rw [h1] at hn
      by_cases hx : x = 255
      · exact hx
      · simp [hx] at hn
    cases s with
    | nil => simp [ltL] at hl
    | cons c s =>
      have hc := wf_u8 (hs c List.mem_cons_self)
      simp [ltL] at hl
      obtain ⟨l1, l2⟩ := hl
      have hc2 : c = x := by omega
      obtain ⟨t, ht⟩ := pre_of_nx r s (fun y hy => hs y (List.mem_cons_of_mem _ hy)) h1 (fun y hy => hr y (List.mem_cons_of_mem _ hy)) (l2 hc2)
      exact ⟨t, by rw [ht, hc2]; rfl⟩
theorem nx_out : ∀ p a, Byt a → Byt p → nx p ≠ [] → ltL a p = false → (¬ ∃ t, a = p ++ t) → ltL a (nx p) = false
  | [], a, _, _, h, _, _ => absurd rfl h
  | x :: r, [], _, _, _, h, _ => by simp [ltL] at h
  | x :: r, c :: s, ha, hp, hne, hl, hno => by
    have hs : Byt s := fun y hy => ha y (List.mem_cons_of_mem _ hy)
    have hr : Byt r := fun y hy => hp y (List.mem_cons_of_mem _ hy)
    simp [ltL] at hl
    obtain ⟨l1, l2⟩ := hl
    have hno2 : c = x → ¬ ∃ t, s = r ++ t := fun e ⟨t, ht⟩ => hno ⟨t, by rw [ht, e]; rfl⟩
    cases hn : nx r with
    | nil =>
      rw [nx_n hn] at hne ⊢
      by_cases hx : x = 255
      · rw [if_pos hx] at hne; exact absurd rfl hne
      · rw [if_neg hx]
        have hcx : c ≠ x := fun e => hno2 e (pre_of_nx r s hs hn hr (l2 e))
        have : ¬ c < x + 1 := by omega
        cases s <;> simp [ltL, this]
    | cons y t =>
      rw [nx_k hn]
      simp only [ltL, Bool.or_eq_false_iff, Bool.and_eq_false_iff, decide_eq_false_iff_not]
      refine ⟨by omega, ?_⟩
      by_cases hc : c = x
      · exact .inr (nx_out r s hs hr (by rw [hn]; simp) (l2 hc) (hno2 hc))
      · exact .inl hc
theorem within_is (k : Nat) (a lo hi : List Int) : okey_Within k a lo hi = some (!ltL a lo && (decide (hi = []) || ltL a hi), ()) := by
  have h1 : decide (0 ≤ cmpL a lo) = !ltL a lo := by
    have := cmp_lt a lo
    cases h : ltL a lo with
    | true => have := this.2 h; simp; omega
    | false => simp; rw [h] at this; simp at this; exact this
  have h2 : decide (cmpL a hi < 0) = ltL a hi := by
    have := cmp_lt a hi
    cases h : ltL a hi with
    | true => simp [this.2 h]
    | false => rw [h] at this; simp at this; simp; exact this
  rw [okey_Within_eq, bytes_Compare_eq, internal_bytealg_Compare_eq]
  simp only [Option.bind_some]
  rw [h1, bytes_Compare_eq, internal_bytealg_Compare_eq]
  simp only [Option.bind_some]
  rw [h2]
  cases ltL a lo with
  | true => rfl
  | false =>
    cases hi with
    | nil => rfl
    | cons y t => rw [Bool.not_false, cond_true, bf (by simp; omega)]; simp
theorem refNext_l0 (k : Nat) {l : List Int} (hl : l.length ≤ 1000000) (hw : Byt l) : ∀ n j, j ≤ l.length → j < n → ref01_Next_l0 k n l (j : Int) = some (nx (l.take j), ())
  | 0, _, _, h => absurd h (Nat.not_lt_zero _)
  | n + 1, 0, _, _ => by
    rw [ref01_Next_l0_eq, bf (by omega), bt (by omega)]; rfl
  | n + 1, j + 1, hj, hn => by
    have hlt : j < l.length := hj
    have e : wr .i64 (((j + 1 : Nat) : Int) - 1) = (j : Int) := by rw [wr_i64 (by omega)]; omega
    rw [ref01_Next_l0_eq, bt (by omega), e, nth_get (List.getElem?_eq_getElem hlt), Option.bind_some, take_snoc hlt]
    have hx := wf_u8 (hw _ (List.getElem_mem hlt))
    by_cases c : l[j] = 255
    · rw [bt c, c, nx_255]
      exact refNext_l0 k hl hw n j (by omega) (by omega)
    · have ht : (l.take (j + 1)).length = j + 1 := by simp; omega
      have hg : (l.take (j + 1))[j]? = some l[j] := by rw [List.getElem?_take_of_lt (by omega)]; exact List.getElem?_eq_getElem hlt
      rw [bf c, bf (by omega), nx_c c, cut_all (by omega), Option.bind_some, ht, lim_ok (by omega)]
      rw [Int.toNat_natCast, hg, Option.bind_some, must_true (inI_t (by omega) (by omega)), must_true (inI_t (by omega) (by omega)), must_true (blt_t (by omega)), wr_u8 (by omega), take_snoc hlt, List.set_append_right _ _ (by simp; omega)]
      have : j - (l.take j).length = 0 := by simp; omega
      rw [this]; rfl
theorem refNext_ev {l : List Int} (hl : l.length ≤ 1000000) (hw : Byt l) : Ev (fun k => ref01_Next k l) (nx l, ()) := by
  refine ⟨l.length + 1, fun k hk => ?_⟩
  show ref01_Next k l = _
  rw [ref01_Next_eq, refNext_l0 k hl hw k l.length (by omega) (by omega), List.take_length]
theorem refWithin_is (k : Nat) (a lo hi : List Int) : ref01_Within k a lo hi = some (!ltL a lo && (decide (hi = []) || ltL a hi), ()) := by
  rw [ref01_Within_eq]
  cases ltL a lo with
  | true => rfl
  | false =>
    cases hi with
    | nil => rfl
    | cons y t => rw [Bool.not_false, cond_true, bf (by simp; omega)]; simp
theorem awake02_ev : Ev (fun k => law02_awake k) (true, ()) := by
  have h1 : Ev (fun k => okey_Put k [((0 : Int), ((0 : Int), ([], ()))), ((1 : Int), ((1 : Int), ([], ())))]) _ := .from 500 fun k => okey_Put_is k (l := [((0 : Int), ((0 : Int), ([], ()))), ((1 : Int), ((1 : Int), ([], ())))]) (by intro v hv; simp at hv; rcases hv with rfl | rfl <;> exact ⟨by decide, by simp⟩) (by simp)
  have h2 : Ev (fun k => okey_Next k false [(97 : Int), (255 : Int)]) _ := okNext_ev (b := false) (l := [97, 255]) (fun h => nomatch h) (by decide) (by intro x hx; simp at hx; rcases hx with rfl | rfl <;> decide)
  simp only [law02_awake_eq]
  refine .bind h1 (.bind h2 ?_)
  exact ⟨0, fun _ _ => by simp only []; decide +kernel⟩
theorem bool_tail (k : Nat) {a p : List Int} (ha : Byt a) (hp : Byt p) :
    (bif (decide ((p.length : Int) ≤ (a.length : Int))) then (cut a 0 (p.length : Int)).bind fun x82 => (okey_Within k a p (nx p)).bind fun r83 => (bif (beqL x82 p) then some ((beqB r83.1 true), ()) else (bif (decide (((nx p).length : Int) = 0)) then some ((beqB r83.1 (!ltL a p)), ()) else some ((beqB r83.1 false), ()))) else (okey_Within k a p (nx p)).bind fun r84 => (bif (decide (((nx p).length : Int) = 0)) then some ((beqB r84.1 (!ltL a p)), ()) else some ((beqB r84.1 false), ()))) = some (true, ()) := by
  rw [within_is]
  simp only [Option.bind_some]
  have hz : decide (((nx p).length : Int) = 0) = decide (nx p = []) := by cases nx p <;> simp <;> omega
  rw [hz]
  have tail : (¬ ∃ t, a = p ++ t) → (bif decide (nx p = []) then some ((beqB (!ltL a p && (decide (nx p = []) || ltL a (nx p))) (!ltL a p)), ()) else some ((beqB (!ltL a p && (decide (nx p = []) || ltL a (nx p))) false), ())) = some (true, ()) := by
    intro hno
    by_cases hn : nx p = []
    · rw [bt hn, dT hn]; simp [beqB]
    · rw [bf hn, dF hn]
      cases hl : ltL a p with
      | true => rfl
      | false => rw [nx_out p a ha hp hn hl hno]; rfl
  by_cases hlen : p.length ≤ a.length
  · rw [bt (by omega), cut_all hlen, Option.bind_some]
    by_cases he : a.take p.length = p
    · have : a = p ++ a.drop p.length := by conv => lhs; rw [← List.take_append_drop p.length a, he]
      have h1 : ltL a p = false := by rw [this]; exact ltL_app _ _
      rw [show beqL (a.take p.length) p = true from dT he, cond_true, h1]
      by_cases hn : nx p = []
      · rw [dT hn]; rfl
      · rw [show ltL a (nx p) = true by rw [this]; exact ltL_nx _ _ hn]; simp [beqB]
    · rw [show beqL (a.take p.length) p = false from dF he, cond_false]
      exact tail fun ⟨t, ht⟩ => he (by rw [ht]; simp)
  · rw [bf (by omega)]
    exact tail fun ⟨t, ht⟩ => hlen (by rw [ht]; simp)
theorem OkeyNexts_true (b : Bool) (x y z : List Int) (hx : Byt x) (hn : b = true → x = []) (hy : Byt y) (hz : Byt z) : ∃ k, law02_OkeyNexts k b x y z = some (true, ()) := by
  refine Ev.ex (F := fun k => law02_OkeyNexts k b x y z) ?_
  simp only [law02_OkeyNexts_eq]
  refine .bind awake02_ev ?_
  simp only [Bool.not_true, cond_false]
  by_cases c1 : 300 < (x.length : Int)
  · simp only [bt c1]; exact .ret
  by_cases c2 : 300 < (y.length : Int)
  · simp only [bf c1, bt c2]; exact .ret
  by_cases c3 : 300 < (z.length : Int)
  · simp only [bf c1, bf c2, bt c3]; exact .ret
  simp only [bf c1, bf c2, bf c3]
  refine .bind (okNext_ev hn (by omega) hx) (.bind (refNext_ev (by omega) hx) ?_)
  refine ⟨0, fun k _ => ?_⟩
  show (bif !beqL (nx x) (nx x) then _ else _) = _
  rw [show beqL (nx x) (nx x) = true from dT rfl, Bool.not_true, cond_false, within_is, refWithin_is, Option.bind_some, Option.bind_some, bif_false (by simp [beqB])]
  exact bool_tail k hy hx
end Go.Proofs.Ytjongebmeoimoaa.Den
