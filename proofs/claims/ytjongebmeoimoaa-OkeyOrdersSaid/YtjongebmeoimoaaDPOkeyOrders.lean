import Derived.Test.YtjongebmeoimoaaDOkeyOrders
import Derived.Test.YtjongebmeoimoaaDen34
namespace Go.Proofs.Ytjongebmeoimoaa.Den
open Go Go.RowKit
set_option linter.unusedVariables false
/-! ### Bytes of a number -/
def be : Nat → Nat → List Int
  | 0, _ => []
  | n + 1, u => ((u / 256 ^ n % 256 : Nat) : Int) :: be n u
theorem be_length : ∀ n u, (be n u).length = n
  | 0, _ => rfl
  | n + 1, u => congrArg (· + 1) (be_length n u)
theorem be_wf : ∀ n u x, x ∈ be n u → (Lit.int .u8 x).wf = true
  | n + 1, u, x, h => by
    rcases List.mem_cons.1 h with rfl | h
    · have := Nat.mod_lt (u / 256 ^ n) (show 0 < 256 by decide)
      simp [Lit.wf, IntKind.min, IntKind.max, IntKind.signed, IntKind.bits]; omega
    · exact be_wf n u x h
theorem mod_step (u n : Nat) : u % 256 ^ (n + 1) = u % 256 ^ n + 256 ^ n * (u / 256 ^ n % 256) := by
  rw [Nat.pow_succ]; exact Nat.mod_mul
theorem lt_step {p a b r s : Nat} (hr : r < p) (hs : s < p) : (decide (a < b) || (decide (a = b) && decide (r < s))) = decide (r + p * a < s + p * b) := by
  rcases Nat.lt_trichotomy a b with h | h | h
  · have h1 := Nat.mul_le_mul_left p (show a + 1 ≤ b from h)
    rw [Nat.mul_succ] at h1
    rw [decide_eq_true h, decide_eq_true (show r + p * a < s + p * b by omega)]; rfl
  · subst h
    simp
  · have h1 := Nat.mul_le_mul_left p (show b + 1 ≤ a from h)
    rw [Nat.mul_succ] at h1
    rw [decide_eq_false (show ¬ a < b by omega), decide_eq_false (show ¬ a = b by omega), decide_eq_false (show ¬ r + p * a < s + p * b by omega)]; rfl
theorem ltL_be : ∀ n u v, ltL (be n u) (be n v) = decide (u % 256 ^ n < v % 256 ^ n)
  | 0, _, _ => by simp [be, ltL, Nat.mod_one]
  | n + 1, u, v => by
    show (decide (((u / 256 ^ n % 256 : Nat) : Int) < ((v / 256 ^ n % 256 : Nat) : Int)) || (decide (((u / 256 ^ n % 256 : Nat) : Int) = ((v / 256 ^ n % 256 : Nat) : Int)) && ltL (be n u) (be n v))) = _
    rw [ltL_be n u v, mod_step, mod_step]
    have hp : 0 < 256 ^ n := Nat.pow_pos (by decide)
    rw [← lt_step (Nat.mod_lt u hp) (Nat.mod_lt v hp)]
    congr 2
    · simp only [Int.ofNat_lt]
    · simp only [Int.natCast_inj]
theorem be_eq {u v : Nat} : ∀ n, be n u = be n v → u % 256 ^ n = v % 256 ^ n
  | 0, _ => by simp [Nat.mod_one]
  | n + 1, h => by
    have h : ((u / 256 ^ n % 256 : Nat) : Int) :: be n u = ((v / 256 ^ n % 256 : Nat) : Int) :: be n v := h
    injection h with h1 h2
    rw [mod_step, mod_step, be_eq n h2, Int.natCast_inj.1 h1]
theorem beqL_be {u v : Nat} (hu : u < 18446744073709551616) (hv : v < 18446744073709551616) : beqL (be 8 u) (be 8 v) = decide (u = v) := by
  unfold beqL
  by_cases h : u = v
  · subst h; simp
  · have : ¬ be 8 u = be 8 v := fun e => h (by have := be_eq 8 e; omega)
    simp [h, this]
theorem shr_is {u j : Nat} (hj : j < 8) : shrK .u64 (u : Int) (wr .i64 (8 * (j : Int))) = some (((u / 256 ^ j : Nat)) : Int) := by
  rw [wr_i64 (by omega)]
  have hj : j = 0 ∨ j = 1 ∨ j = 2 ∨ j = 3 ∨ j = 4 ∨ j = 5 ∨ j = 6 ∨ j = 7 := by omega
  rcases hj with rfl | rfl | rfl | rfl | rfl | rfl | rfl | rfl <;> rfl
theorem set_last (m : Nat) (l : List Int) (x : Int) : (List.replicate (m + 1) (0 : Int) ++ l).set m x = List.replicate m 0 ++ x :: l := by
  rw [List.replicate_succ', List.append_assoc, List.set_append_right _ _ (by simp)]
  simp
theorem put_loop (k : Nat) {u w : Nat} (hw : w ≤ 8) : ∀ n j, j ≤ w → w - j < n → num_Put_l0 k n (u : Int) (w : Int) (w : Int) (j : Int) (List.replicate (w - j) 0 ++ be j u) = some (be w u, ())
  | 0, _, _, h => absurd h (Nat.not_lt_zero _)
  | n + 1, j, hj, hn => by
    rw [num_Put_l0_eq]
    by_cases c : j < w
    · obtain ⟨m, hm⟩ : ∃ m, w - j = m + 1 := ⟨w - j - 1, by omega⟩
      have e1 : wr .i64 (wr .i64 ((w : Int) - 1) - (j : Int)) = (m : Int) := by
        rw [wr_i64 (n := (w : Int) - 1) (by omega), wr_i64 (by omega)]; omega
      have hlen : (List.replicate (w - j) (0 : Int) ++ be j u).length = w := by simp [be_length]; omega
      have e2 : wr .u8 (((u / 256 ^ j : Nat)) : Int) = ((u / 256 ^ j % 256 : Nat) : Int) := by rw [wrm_u8]; rfl
      rw [bif_true (by simp; omega), shr_is (by omega), Option.bind_some, e1, hlen, must_true (by unfold inI; simp; omega), must_true (by simp [Nat.blt]; omega), e2, wr_i64 (by omega), hm, Int.toNat_natCast, set_last]
      have ih := put_loop k (u := u) hw n (j + 1) c (by omega)
      have e3 : w - (j + 1) = m := by omega
      rw [e3] at ih
      exact ih
    · have : j = w := by omega
      subst this
      rw [bif_false (by simp)]
      simp
theorem num_Put_is (k : Nat) {u w : Nat} (hw : w ≤ 8) : num_Put (k + 10) (u : Int) (w : Int) = some (be w u, ()) := by
  rw [num_Put_eq, bif_false (by simp), bif_false (by simp; omega), must_true (by simp [beqI]), Int.toNat_natCast, lim_ok (by omega)]
  have := put_loop (k + 10) (u := u) hw (k + 10) 0 (by omega) (by omega)
  simpa [be] using this
/-! ### Keys -/
abbrev ValT := Int × (Int × ((List Int) × Unit))
def esc (s : List Int) : List Int := s.flatMap fun x => if x = 0 then [x, 255] else [x]
def encV (v : ValT) : List Int := if v.1 = 1 then 2 :: be 8 (v.2.1 + 9223372036854775808).toNat else if v.1 = 2 then 3 :: (esc v.2.2.1 ++ [0, 1]) else [1]
theorem esc_cons (x : Int) (s : List Int) : esc (x :: s) = (if x = 0 then [x, 255] else [x]) ++ esc s := rfl
theorem esc_length : ∀ s : List Int, (esc s).length ≤ 2 * s.length
  | [] => by simp [esc]
  | x :: s => by
    have := esc_length s
    rw [esc_cons]
    split <;> simp <;> omega
def valOk (v : ValT) : Prop := (-9223372036854775808 ≤ v.2.1 ∧ v.2.1 ≤ 9223372036854775807) ∧ v.2.2.1.length ≤ 400
theorem encV_length {v : ValT} (h : valOk v) : (encV v).length ≤ 1000 := by
  have := esc_length v.2.2.1
  have := h.2
  unfold encV
  split
  · simp [be_length]
  · split <;> simp <;> omega
theorem oFlip_is (k : Nat) {a : Int} (h : -9223372036854775808 ≤ a ∧ a ≤ 9223372036854775807) : num_Flip k a = some (a + 9223372036854775808, ()) := by
  rw [num_Flip_eq]
  unfold wr
  rw [flip_eq h]
theorem oPut_l1 (k n : Nat) (l : List ValT) (len j : Int) (c : Bool) {s : List Int} (hs : s.length ≤ 400) : ∀ n1 i b out, i ≤ s.length → s.length - i < n1 → List.length out + 2 * (s.length - i) ≤ 60000000 →
    ∃ b', okey_Put_l1 (k + 1) n n1 b out l len j c s (s.length : Int) (i : Int) = okey_Put_j2 (k + 1) n b' (out ++ (esc (s.drop i) ++ [0, 1])) l len j
  | 0, _, _, _, _, h, _ => absurd h (Nat.not_lt_zero _)
  | n1 + 1, i, b, out, hi, hn, ho => by
    rw [okey_Put_l1_eq]
    by_cases d : i < s.length
    · have hx := List.getElem?_eq_getElem d
      have hd : s.drop i = s[i] :: s.drop (i + 1) := List.drop_eq_getElem_cons d
      rw [bt (by omega), nth_get hx, Option.bind_some, lim_ok (by simp; omega), hd, esc_cons]
      by_cases e : s[i] = 0
      · rw [bt e, if_pos e, lim_ok (by simp; omega), okey_Put_j1_eq, wr_next d (by omega)]
        obtain ⟨b', h⟩ := oPut_l1 k n l len j c hs n1 (i + 1) ((b && [s[i]].isEmpty) && [(255 : Int)].isEmpty) ((out ++ [s[i]]) ++ [(255 : Int)]) d (by omega) (by simp; omega)
        refine ⟨b', h.trans ?_⟩
        simp
      · rw [bf e, if_neg e, okey_Put_j1_eq, wr_next d (by omega)]
        obtain ⟨b', h⟩ := oPut_l1 k n l len j c hs n1 (i + 1) (b && [s[i]].isEmpty) (out ++ [s[i]]) d (by omega) (by simp; omega)
        refine ⟨b', h.trans ?_⟩
        simp
    · have : i = s.length := by omega
      subst this
      rw [bf (by omega), lim_ok (by simp; omega), List.drop_length]
      exact ⟨_, rfl⟩
theorem oPut_loop (k : Nat) {l : List ValT} (hl : ∀ v ∈ l, valOk v) (hlen : l.length ≤ 400) : ∀ n j b out, j ≤ l.length → l.length - j < n → List.length out + 1000 * (l.length - j) ≤ 50000000 →
    okey_Put_l0 (k + 500) n b out l (l.length : Int) (j : Int) = some (out ++ (l.drop j).flatMap encV, ())
  | 0, _, _, _, _, h, _ => absurd h (Nat.not_lt_zero _)
  | n + 1, j, b, out, hj, hn, ho => by
    rw [okey_Put_l0_eq]
    by_cases d : j < l.length
    · have hx := List.getElem?_eq_getElem d
      have hd : l.drop j = l[j] :: l.drop (j + 1) := List.drop_eq_getElem_cons d
      have hv := hl _ (List.getElem_mem d)
      have hle := encV_length hv
      rw [bt (by omega), nth_get hx, Option.bind_some, hd, List.flatMap_cons]
      generalize l[j] = v at *
      have next : ∀ b', okey_Put_j0 (k + 500) n b' (out ++ encV v) l (l.length : Int) (j : Int) = some (out ++ (encV v ++ (l.drop (j + 1)).flatMap encV), ()) := by
        intro b'
        show okey_Put_j0 (k + 499 + 1) n _ _ _ _ _ = _
        rw [okey_Put_j0_eq, wr_next d (by omega)]
        have := oPut_loop k hl hlen n (j + 1) b' (out ++ encV v) d (by omega) (by simp; omega)
        rw [List.append_assoc] at this
        exact this
      have next2 : ∀ b', okey_Put_j2 (k + 500) n b' (out ++ encV v) l (l.length : Int) (j : Int) = some (out ++ (encV v ++ (l.drop (j + 1)).flatMap encV), ()) := by
        intro b'
        show okey_Put_j2 (k + 499 + 1) n _ _ _ _ _ = _
        rw [okey_Put_j2_eq]
        exact next b'
      by_cases c1 : v.1 = 1
      · have he : encV v = 2 :: be 8 (v.2.1 + 9223372036854775808).toNat := if_pos c1
        obtain ⟨u, hu⟩ := Int.eq_ofNat_of_zero_le (show 0 ≤ v.2.1 + 9223372036854775808 by have := hv.1; omega)
        rw [bt c1, lim_ok (by simp; omega), oFlip_is _ hv.1, Option.bind_some, hu, show num_Put (k + 500) (u : Int) (8 : Int) = _ from num_Put_is (k + 490) (u := u) (w := 8) (by omega), Option.bind_some, lim_ok (by simp [be_length]; omega)]
        have e2 : (out ++ [(2 : Int)]) ++ be 8 u = out ++ encV v := by rw [he, hu]; simp
        rw [e2]
        exact next _
      rw [bf c1]
      by_cases c2 : v.1 = 2
      · have he : encV v = 3 :: (esc v.2.2.1 ++ [0, 1]) := by unfold encV; rw [if_neg c1, if_pos c2]
        have hs := hv.2
        obtain ⟨b', h⟩ := oPut_l1 (k + 499) n l (l.length : Int) (j : Int) false hs (k + 500) 0 (b && [(3 : Int)].isEmpty) (out ++ [(3 : Int)]) (by omega) (by omega) (by simp; omega)
        rw [bt c2, lim_ok (by simp; omega)]
        refine h.trans ?_
        have e2 : (out ++ [(3 : Int)]) ++ (esc (v.2.2.1.drop 0) ++ [0, 1]) = out ++ encV v := by rw [he]; simp
        rw [e2]
        exact next2 _
      · have he : encV v = [1] := by unfold encV; rw [if_neg c1, if_neg c2]
        rw [bf c2, lim_ok (by simp; omega), ← he]
        exact next2 _
    · have : j = l.length := by omega
      subst this
      rw [bf (by omega), List.drop_length]
      simp
theorem okey_Put_is (k : Nat) {l : List ValT} (hl : ∀ v ∈ l, valOk v) (hlen : l.length ≤ 400) : okey_Put (k + 500) l = some (l.flatMap encV, ()) := by
  rw [okey_Put_eq]
  have := oPut_loop k hl hlen (k + 500) 0 true [] (by omega) (by omega) (by simp; omega)
  simpa using this
/-! ### The next bytes -/
def nx : List Int → List Int
  | [] => []
  | x :: r => match nx r with
    | [] => if x = 255 then [] else [x + 1]
    | y :: t => x :: y :: t
theorem nx_n {x : Int} {r : List Int} (h : nx r = []) : nx (x :: r) = if x = 255 then [] else [x + 1] := by
  conv => lhs; unfold nx
  rw [h]
theorem nx_k {x y : Int} {r s : List Int} (h : nx r = y :: s) : nx (x :: r) = x :: nx r := by
  conv => lhs; unfold nx
  rw [h]
theorem nx_255 : ∀ l, nx (l ++ [255]) = nx l
  | [] => rfl
  | x :: r => by
    show (match nx (r ++ [255]) with | [] => if x = 255 then [] else [x + 1] | y :: t => x :: y :: t) = _
    rw [nx_255 r]; rfl
theorem nx_c {c : Int} (hc : c ≠ 255) : ∀ l, nx (l ++ [c]) = l ++ [c + 1]
  | [] => if_neg hc
  | x :: r => by
    show (match nx (r ++ [c]) with | [] => if x = 255 then [] else [x + 1] | y :: t => x :: y :: t) = _
    rw [nx_c hc r]
    cases r <;> rfl
abbrev Byt (l : List Int) : Prop := ∀ x ∈ l, (Lit.int .u8 x).wf = true
theorem take_snoc {l : List Int} {j : Nat} (h : j < l.length) : l.take (j + 1) = l.take j ++ [l[j]] := List.take_succ_eq_append_getElem h
theorem okNext_l0 (k : Nat) {b : Bool} {l : List Int} (hb : b = true → l = []) (hl : l.length ≤ 1000000) (hw : Byt l) : ∀ n j, j ≤ l.length → j < n → okey_Next_l0 k n b l ((j : Int) - 1) = some (nx (l.take j), ())
  | 0, _, _, h => absurd h (Nat.not_lt_zero _)
  | n + 1, 0, _, _ => by
    rw [okey_Next_l0_eq, bf (by omega)]; rfl
  | n + 1, j + 1, hj, hn => by
    have hlt : j < l.length := hj
    have e : ((j + 1 : Nat) : Int) - 1 = (j : Int) := by omega
    rw [e, okey_Next_l0_eq, bt (by omega), nth_get (List.getElem?_eq_getElem hlt), Option.bind_some, take_snoc hlt]
    have hx := wf_u8 (hw _ (List.getElem_mem hlt))
    by_cases c : l[j] = 255
    · rw [bif_false (by simp [c]), c, nx_255, wr_i64 (by omega)]
      exact okNext_l0 k hb hl hw n j (by omega) (by omega)
    · have hb0 : b = false := by
        cases b with
        | false => rfl
        | true => have := hb rfl; subst this; simp at hlt
      have ht : (l.take (j + 1)).length = j + 1 := by simp; omega
      have hg : (l.take (j + 1))[j]? = some l[j] := by rw [List.getElem?_take_of_lt (by omega)]; exact List.getElem?_eq_getElem hlt
      rw [bif_true (by simp [c]), nx_c c, wr_next hlt (by omega), cut_all (by omega), Option.bind_some, bytes_Clone_eq, hb0, bif_false rfl, ht, lim_ok (by omega), Option.bind_some]
      show must (inI (j : Int) (l.take (j + 1)).length) (((l.take (j + 1))[(j : Int).toNat]?).bind _) = _
      rw [Int.toNat_natCast, hg, Option.bind_some, ht, must_true (inI_t (by omega) (by omega)), must_true (inI_t (by omega) (by omega)), must_true (blt_t (by omega)), wr_u8 (by omega), take_snoc hlt, List.set_append_right _ _ (by simp; omega)]
      have : j - (l.take j).length = 0 := by simp; omega
      rw [this]; rfl
theorem okNext_ev {b : Bool} {l : List Int} (hb : b = true → l = []) (hl : l.length ≤ 1000000) (hw : Byt l) : Ev (fun k => okey_Next k b l) (nx l, ()) := by
  refine ⟨l.length + 1, fun k hk => ?_⟩
  show okey_Next k b l = _
  rw [okey_Next_eq]
  show okey_Next_l0 k k b l (wr .i64 ((l.length : Int) - 1)) = _
  rw [wr_i64 (by omega), okNext_l0 k hb hl hw k l.length (by omega) (by omega), List.take_length]

theorem awake02_ev : Ev (fun k => law02_awake k) (true, ()) := by
  have h1 : Ev (fun k => okey_Put k [((0 : Int), ((0 : Int), ([], ()))), ((1 : Int), ((1 : Int), ([], ())))]) _ := .from 500 fun k => okey_Put_is k (l := [((0 : Int), ((0 : Int), ([], ()))), ((1 : Int), ((1 : Int), ([], ())))]) (by intro v hv; simp at hv; rcases hv with rfl | rfl <;> exact ⟨by decide, by simp⟩) (by simp)
  have h2 : Ev (fun k => okey_Next k false [(97 : Int), (255 : Int)]) _ := okNext_ev (b := false) (l := [97, 255]) (fun h => nomatch h) (by decide) (by intro x hx; simp at hx; rcases hx with rfl | rfl <;> decide)
  simp only [law02_awake_eq]
  refine .bind h1 (.bind h2 ?_)
  exact ⟨0, fun _ _ => by simp only []; decide +kernel⟩
def fewB (l : List ValT) (r : List ValT) : Bool := r.all (fun x => decide (x.2.2.1.length ≤ 100)) && decide (l.length ≤ 20)
theorem few_l0 (k : Nat) {l : List ValT} (hm : l.length ≤ 9223372036854775807) : ∀ n j, j ≤ l.length → l.length - j < n → law02_Few_l0 k n l l (l.length : Int) (j : Int) = some (fewB l (l.drop j), ())
  | 0, _, _, h => absurd h (Nat.not_lt_zero _)
  | n + 1, j, hj, hn => by
    rw [law02_Few_l0_eq]
    by_cases c : j < l.length
    · have hx := List.getElem?_eq_getElem c
      rw [bt (by omega), nth_get hx, Option.bind_some, List.drop_eq_getElem_cons c]
      by_cases c1 : 100 < (l[j].2.2.1.length : Int)
      · rw [bt c1, show fewB l (l[j] :: l.drop (j + 1)) = false from by unfold fewB; rw [List.all_cons, dF (by omega)]; rfl]
      rw [bf c1, wr_i64 (by omega)]
      refine (few_l0 k hm n (j + 1) c (by omega)).trans ?_
      rw [show fewB l (l[j] :: l.drop (j + 1)) = fewB l (l.drop (j + 1)) from by unfold fewB; rw [List.all_cons, dT (by omega)]; rfl]
    · have : j = l.length := by omega
      subst this
      rw [bf (by omega), List.drop_length]
      have : decide ((l.length : Int) ≤ 20) = decide (l.length ≤ 20) := by
        by_cases h : l.length ≤ 20
        · rw [dT h, dT (by omega)]
        · rw [dF h, dF (by omega)]
      rw [this]; rfl
theorem few_ev {l : List ValT} (h : wfD (.sl (.st (.pair (.int .i64) (.pair (.int .i64) (.pair .str .unit))))) l) : Ev (fun k => law02_Few k l) (fewB l l, ()) := by
  obtain ⟨hlen, hall⟩ := h
  have hlen : l.length ≤ maxLen := hlen
  have hmax : maxLen ≤ 9223372036854775807 := by decide
  refine ⟨l.length + 1, fun k hk => ?_⟩
  show law02_Few k l = _
  rw [law02_Few_eq]
  exact few_l0 k (by omega) k 0 (by omega) (by omega)
theorem few_of {l : List ValT} (h : wfD (.sl (.st (.pair (.int .i64) (.pair (.int .i64) (.pair .str .unit))))) l) (hb : fewB l l = true) : l.length ≤ 20 ∧ ∀ v ∈ l, (valOk v ∧ v.2.2.1.length ≤ 100) ∧ (∀ x ∈ v.2.2.1, (Lit.int .u8 x).wf = true) ∧ (-9223372036854775808 ≤ v.1 ∧ v.1 ≤ 9223372036854775807) := by
  obtain ⟨hlen, hall⟩ := h
  unfold fewB at hb
  simp only [Bool.and_eq_true, List.all_eq_true, decide_eq_true_eq] at hb
  refine ⟨hb.2, fun v hv => ?_⟩
  obtain ⟨q0, q1, ⟨_, q2⟩, _⟩ := hall v hv
  have := hb.1 v hv
  exact ⟨⟨⟨wf_i64 q1, by omega⟩, this⟩, q2, wf_i64 q0⟩
theorem cmp_eq0 : ∀ a b, cmpL a b = 0 ↔ a = b
  | [], [] => by simp [cmpL]
  | [], _ :: _ => by simp [cmpL]
  | _ :: _, [] => by simp [cmpL]
  | a :: x, b :: y => by
    have ih := cmp_eq0 x y
    unfold cmpL
    by_cases h : a < b
    · rw [if_pos h]; simp; try omega
    · rw [if_neg h]
      by_cases h2 : b < a
      · rw [if_pos h2]; simp; try omega
      · rw [if_neg h2, ih]; simp; try omega
theorem cmp_vals : ∀ a b, cmpL a b = if ltL a b then -1 else if ltL b a then 1 else 0
  | [], [] => rfl
  | [], _ :: _ => rfl
  | _ :: _, [] => rfl
  | a :: x, b :: y => by
    have ih := cmp_vals x y
    unfold cmpL ltL
    by_cases h : a < b
    · simp [h]
    · by_cases h2 : b < a
      · have : ¬ a = b := by omega
        simp [h, h2, this]
      · have : a = b := by omega
        simp [this, ih]
/-- The order of two values. -/
def ordV (a b : ValT) : Int := if a.1 < b.1 then -1 else if b.1 < a.1 then 1 else if a.1 = 1 then (if a.2.1 < b.2.1 then -1 else if b.2.1 < a.2.1 then 1 else 0) else if a.1 = 2 then cmpL a.2.2.1 b.2.2.1 else 0
theorem compare_is (k : Nat) (a b : Int) : cmp_Compare_int k a b = some (if a < b then -1 else if b < a then 1 else 0, ()) := by
  rw [cmp_Compare_int_eq]
  simp only [cmp_isNaN_int_eq, Option.bind_some, dT, Bool.not_true, cond_false]
  by_cases h : a < b
  · rw [bt h, if_pos h]
  · rw [bf h, if_neg h]
    by_cases h2 : b < a
    · rw [bt h2, if_pos h2]
    · rw [bf h2, if_neg h2]
theorem compare64_is (k : Nat) (a b : Int) : cmp_Compare_int64 k a b = some (if a < b then -1 else if b < a then 1 else 0, ()) := by
  rw [cmp_Compare_int64_eq]
  simp only [cmp_isNaN_int64_eq, Option.bind_some, dT, Bool.not_true, cond_false]
  by_cases h : a < b
  · rw [bt h, if_pos h]
  · rw [bf h, if_neg h]
    by_cases h2 : b < a
    · rw [bt h2, if_pos h2]
    · rw [bf h2, if_neg h2]
theorem strings_is (k : Nat) (a b : List Int) : strings_Compare k a b = some (cmpL a b, ()) := by
  rw [strings_Compare_eq, internal_bytealg_CompareString_eq, internal_bytealg_abigen_runtime_cmpstring_eq]; rfl
theorem order_is (k : Nat) (a b : ValT) : okey_order k a b = some (ordV a b, ()) := by
  rw [okey_order_eq]
  unfold ordV
  by_cases h : a.1 = b.1
  · rw [bif_false (by simp [h]), if_neg (by omega), if_neg (by omega)]
    by_cases h1 : a.1 = 1
    · rw [bt h1, compare64_is, if_pos h1]; rfl
    · rw [bf h1, if_neg h1]
      by_cases h2 : a.1 = 2
      · rw [bt h2, strings_is, if_pos h2]; rfl
      · rw [bf h2, if_neg h2]
  · rw [bif_true (by simp [h]), compare_is]
    by_cases h1 : a.1 < b.1
    · rw [if_pos h1, if_pos h1]; rfl
    · rw [if_neg h1, if_neg h1, if_pos (by omega), if_pos (by omega)]; rfl
def cmpV : List ValT → List ValT → Int
  | [], [] => 0
  | [], _ :: _ => -1
  | _ :: _, [] => 1
  | a :: x, b :: y => if ordV a b = 0 then cmpV x y else ordV a b
theorem cmpV_nil {a b : List ValT} (h : a = [] ∨ b = []) : cmpV a b = if (a.length : Int) < b.length then -1 else if (b.length : Int) < a.length then 1 else 0 := by
  cases a with
  | nil => cases b with
    | nil => rfl
    | cons y t => rw [if_pos (by simp; try omega)]; rfl
  | cons x s => cases b with
    | nil => rw [if_neg (by simp; try omega), if_pos (by simp; try omega)]; rfl
    | cons y t => rcases h with h | h <;> cases h
theorem drop_two {a b : List ValT} {j : Nat} (h : ¬ (j < a.length ∧ j < b.length)) (h1 : j ≤ a.length) (h2 : j ≤ b.length) : cmpV (a.drop j) (b.drop j) = if (a.length : Int) < b.length then -1 else if (b.length : Int) < a.length then 1 else 0 := by
  rw [cmpV_nil (by
    by_cases c : j < a.length
    · exact .inr (List.drop_eq_nil_of_le (by omega))
    · exact .inl (List.drop_eq_nil_of_le (by omega)))]
  simp only [List.length_drop]
  by_cases c1 : a.length < b.length
  · rw [if_pos (by omega), if_pos (by omega)]
  · rw [if_neg (by omega), if_neg (show ¬ (a.length : Int) < b.length by omega)]
    by_cases c2 : b.length < a.length
    · rw [if_pos (by omega), if_pos (by omega)]
    · rw [if_neg (by omega), if_neg (by omega)]
theorem cmp_l0 (k : Nat) {a b : List ValT} (ha : a.length ≤ 1000) (hb : b.length ≤ 1000) (m : Nat) (hm : m = min a.length b.length) : ∀ n j, j ≤ m → m - j < n → okey_Cmp_l0 k n a b (m : Int) (j : Int) = some (cmpV (a.drop j) (b.drop j), ())
  | 0, _, _, h => absurd h (Nat.not_lt_zero _)
  | n + 1, j, hj, hn => by
    rw [okey_Cmp_l0_eq]
    by_cases c : j < m
    · have c1 : j < a.length := by omega
      have c2 : j < b.length := by omega
      rw [bt (by omega), nth_get (List.getElem?_eq_getElem c1), Option.bind_some, nth_get (List.getElem?_eq_getElem c2), Option.bind_some, order_is, Option.bind_some, List.drop_eq_getElem_cons c1, List.drop_eq_getElem_cons c2]
      show _ = some (if ordV a[j] b[j] = 0 then cmpV (a.drop (j + 1)) (b.drop (j + 1)) else ordV a[j] b[j], ())
      by_cases h0 : ordV a[j] b[j] = 0
      · rw [bif_false (by simp [h0]), if_pos h0, wr_i64 (by omega)]
        exact cmp_l0 k ha hb m hm n (j + 1) (by omega) (by omega)
      · rw [bif_true (by simp [h0]), if_neg h0]
    · rw [bf (by omega), compare_is, drop_two (by omega) (by omega) (by omega)]; rfl
theorem Cmp_ev {a b : List ValT} (ha : a.length ≤ 1000) (hb : b.length ≤ 1000) : Ev (fun k => okey_Cmp k a b) (cmpV a b, ()) := by
  refine ⟨1001, fun k hk => ?_⟩
  show okey_Cmp k a b = _
  have : mnI (a.length : Int) (b.length : Int) = ((min a.length b.length : Nat) : Int) := by unfold mnI; split <;> omega
  rw [okey_Cmp_eq, this]
  exact cmp_l0 k ha hb _ rfl k 0 (by omega) (by omega)
theorem refOrder_is (k : Nat) (a b : ValT) : ref01_Order k a b = some (ordV a b, ()) := by
  rw [ref01_Order_eq]
  unfold ordV
  rw [cmp_vals]
  by_cases h : a.1 < b.1
  · rw [bt h, if_pos h]
  rw [bf h, if_neg h]
  by_cases h' : b.1 < a.1
  · rw [bt h', if_pos h']
  rw [bf h', if_neg h']
  by_cases h1 : a.1 = 1
  · have h2 : ¬ a.1 = 2 := by omega
    rw [bt h1, if_pos h1]
    by_cases c : a.2.1 < b.2.1
    · rw [bt c, if_pos c]
    rw [bf c, if_neg c, bf h2, bt h1]
    by_cases d : b.2.1 < a.2.1
    · rw [bt d, if_pos d]
    rw [bf d, if_neg d, bf h2]
  rw [bf h1, if_neg h1]
  by_cases h2 : a.1 = 2
  · rw [bt h2, if_pos h2]
    cases ltL a.2.2.1 b.2.2.1 with
    | true => rfl
    | false =>
      rw [cond_false, bf h1, bt h2]
      cases ltL b.2.2.1 a.2.2.1 <;> rfl
  · rw [bf h2, if_neg h2, bf h1, bf h2]
theorem refcmp_l0 (k : Nat) {a b : List ValT} (ha : a.length ≤ 1000) (hb : b.length ≤ 1000) : ∀ n j, j ≤ a.length → j ≤ b.length → a.length - j < n → ref01_Cmp_l0 k n a b (a.length : Int) (j : Int) = some (cmpV (a.drop j) (b.drop j), ())
  | 0, _, _, _, h => absurd h (Nat.not_lt_zero _)
  | n + 1, j, hj, hj2, hn => by
    rw [ref01_Cmp_l0_eq]
    by_cases c1 : j < a.length
    · rw [bt (by omega)]
      by_cases c2 : j < b.length
      · rw [bf (by omega), nth_get (List.getElem?_eq_getElem c1), Option.bind_some, nth_get (List.getElem?_eq_getElem c2), Option.bind_some, refOrder_is, Option.bind_some, List.drop_eq_getElem_cons c1, List.drop_eq_getElem_cons c2]
        show _ = some (if ordV a[j] b[j] = 0 then cmpV (a.drop (j + 1)) (b.drop (j + 1)) else ordV a[j] b[j], ())
        by_cases h0 : ordV a[j] b[j] = 0
        · rw [bif_false (by simp [h0]), if_pos h0, wr_i64 (by omega)]
          exact refcmp_l0 k ha hb n (j + 1) (by omega) (by omega) (by omega)
        · rw [bif_true (by simp [h0]), if_neg h0]
      · rw [bt (by omega), drop_two (by omega) hj hj2, if_neg (by omega), if_pos (by omega)]
    · rw [bf (by omega), drop_two (by omega) hj hj2]
      by_cases c : (a.length : Int) < b.length
      · rw [bt c, if_pos c]
      · rw [bf c, if_neg c, if_neg (by omega)]
theorem refCmp_ev {a b : List ValT} (ha : a.length ≤ 1000) (hb : b.length ≤ 1000) : Ev (fun k => ref01_Cmp k a b) (cmpV a b, ()) := by
  refine ⟨1001, fun k hk => ?_⟩
  show ref01_Cmp k a b = _
  rw [ref01_Cmp_eq]
  exact refcmp_l0 k ha hb k 0 (by omega) (by omega) (by omega)
theorem orders_l0 {a b : List ValT} (ha : a.length ≤ 1000) (hb : b.length ≤ 1000) : ∀ d j, a.length - j ≤ d → Ev2 (fun k n => law02_OkeyOrders_l0 k n a b (j : Int)) (true, ()) := by
  have last : Ev2 (fun k _ => (okey_Cmp k a b).bind fun r97 => (ref01_Cmp k a b).bind fun r105 => some ((decide (r97.1 = r105.1)), ())) (true, ()) := by
    refine Ev.e2 (F := fun k => (okey_Cmp k a b).bind fun r97 => (ref01_Cmp k a b).bind fun r105 => some ((decide (r97.1 = r105.1)), ())) ?_
    refine .bind (Cmp_ev ha hb) (.bind (refCmp_ev ha hb) ?_)
    simp only [dT]
    exact .ret
  intro d
  induction d with
  | zero =>
    intro j hd
    refine .up ?_
    simp only [law02_OkeyOrders_l0_eq]
    rw [show decide ((j : Int) < (a.length : Int)) = false from dF (by omega)]
    exact last
  | succ d ih =>
    intro j hd
    refine .up ?_
    simp only [law02_OkeyOrders_l0_eq]
    by_cases c1 : j < a.length
    · rw [show decide ((j : Int) < (a.length : Int)) = true from dT (by omega)]
      by_cases c2 : j < b.length
      · rw [show decide ((j : Int) < (b.length : Int)) = true from dT (by omega)]
        simp only [cond_true, nth_get (List.getElem?_eq_getElem c1), nth_get (List.getElem?_eq_getElem c2), Option.bind_some, okey_Less_eq, order_is, refOrder_is]
        have : ∀ x y : ValT, ordV (x.1, (x.2.1, (x.2.2.1, ()))) (y.1, (y.2.1, (y.2.2.1, ()))) = ordV x y := fun _ _ => rfl
        simp only [this, show ∀ x : Bool, beqB x x = true from fun x => dT rfl, Bool.not_true, cond_false]
        rw [wr_i64 (by omega)]
        exact ih (j + 1) (by omega)
      · rw [show decide ((j : Int) < (b.length : Int)) = false from dF (by omega)]
        exact last
    · rw [show decide ((j : Int) < (a.length : Int)) = false from dF (by omega)]
      exact last
theorem OkeyOrders_true (l m : List ValT) (h : wfD (.sl (.st (.pair (.int .i64) (.pair (.int .i64) (.pair .str .unit))))) l) (h' : wfD (.sl (.st (.pair (.int .i64) (.pair (.int .i64) (.pair .str .unit))))) m) : ∃ k, law02_OkeyOrders k l m = some (true, ()) := by
  refine Ev.ex (F := fun k => law02_OkeyOrders k l m) ?_
  simp only [law02_OkeyOrders_eq]
  refine .bind awake02_ev ?_
  simp only [Bool.not_true, cond_false]
  refine .bind (few_ev h) ?_
  cases hb : fewB l l with
  | false => exact .ret
  | true =>
    obtain ⟨l1, l2⟩ := few_of h hb
    simp only [Bool.not_true, cond_false]
    refine .bind (few_ev h') ?_
    cases hb' : fewB m m with
    | false => exact .ret
    | true =>
      obtain ⟨m1, m2⟩ := few_of h' hb'
      simp only [Bool.not_true, cond_false]
      exact Ev2.dg (orders_l0 (by omega) (by omega) l.length 0 (by omega))
end Go.Proofs.Ytjongebmeoimoaa.Den
