import Derived.Test.YtmngjegceoidhaaDCatBack
import Derived.Test.YtmngjegceoidhaaDen34
namespace Go.Proofs.Ytmngjegceoidhaa.Den
open Go Go.RowKit
set_option linter.unusedVariables false
/-! ### Bytes of a number -/
def be : Nat → Nat → List Int
  | 0, _ => []
  | n + 1, u => ((u / 256 ^ n % 256 : Nat) : Int) :: be n u
theorem be_length : ∀ n u, (be n u).length = n
  | 0, _ => rfl
  | n + 1, u => congrArg (· + 1) (be_length n u)
theorem be_wf : ∀ n u x, x ∈ be n u → (Lit.int .u8 x).wf = true
  | n + 1, u, x, h => by
    rcases List.mem_cons.1 h with rfl | h
    · have := Nat.mod_lt (u / 256 ^ n) (show 0 < 256 by decide)
      simp [Lit.wf, IntKind.min, IntKind.max, IntKind.signed, IntKind.bits]; omega
    · exact be_wf n u x h
theorem mod_step (u n : Nat) : u % 256 ^ (n + 1) = u % 256 ^ n + 256 ^ n * (u / 256 ^ n % 256) := by
  rw [Nat.pow_succ]; exact Nat.mod_mul
theorem lt_step {p a b r s : Nat} (hr : r < p) (hs : s < p) : (decide (a < b) || (decide (a = b) && decide (r < s))) = decide (r + p * a < s + p * b) := by
  rcases Nat.lt_trichotomy a b with h | h | h
  · have h1 := Nat.mul_le_mul_left p (show a + 1 ≤ b from h)
    rw [Nat.mul_succ] at h1
    rw [decide_eq_true h, decide_eq_true (show r + p * a < s + p * b by omega)]; rfl
  · subst h
    simp
  · have h1 := Nat.mul_le_mul_left p (show b + 1 ≤ a from h)
    rw [Nat.mul_succ] at h1
    rw [decide_eq_false (show ¬ a < b by omega), decide_eq_false (show ¬ a = b by omega), decide_eq_false (show ¬ r + p * a < s + p * b by omega)]; rfl
theorem ltL_be : ∀ n u v, ltL (be n u) (be n v) = decide (u % 256 ^ n < v % 256 ^ n)
  | 0, _, _ => by simp [be, ltL, Nat.mod_one]
  | n + 1, u, v => by
    show (decide (((u / 256 ^ n % 256 : Nat) : Int) < ((v / 256 ^ n % 256 : Nat) : Int)) || (decide (((u / 256 ^ n % 256 : Nat) : Int) = ((v / 256 ^ n % 256 : Nat) : Int)) && ltL (be n u) (be n v))) = _
    rw [ltL_be n u v, mod_step, mod_step]
    have hp : 0 < 256 ^ n := Nat.pow_pos (by decide)
    rw [← lt_step (Nat.mod_lt u hp) (Nat.mod_lt v hp)]
    congr 2
    · simp only [Int.ofNat_lt]
    · simp only [Int.natCast_inj]
theorem be_eq {u v : Nat} : ∀ n, be n u = be n v → u % 256 ^ n = v % 256 ^ n
  | 0, _ => by simp [Nat.mod_one]
  | n + 1, h => by
    have h : ((u / 256 ^ n % 256 : Nat) : Int) :: be n u = ((v / 256 ^ n % 256 : Nat) : Int) :: be n v := h
    injection h with h1 h2
    rw [mod_step, mod_step, be_eq n h2, Int.natCast_inj.1 h1]
theorem beqL_be {u v : Nat} (hu : u < 18446744073709551616) (hv : v < 18446744073709551616) : beqL (be 8 u) (be 8 v) = decide (u = v) := by
  unfold beqL
  by_cases h : u = v
  · subst h; simp
  · have : ¬ be 8 u = be 8 v := fun e => h (by have := be_eq 8 e; omega)
    simp [h, this]
theorem shr_is {u j : Nat} (hj : j < 8) : shrK .u64 (u : Int) (wr .i64 (8 * (j : Int))) = some (((u / 256 ^ j : Nat)) : Int) := by
  rw [wr_i64 (by omega)]
  have hj : j = 0 ∨ j = 1 ∨ j = 2 ∨ j = 3 ∨ j = 4 ∨ j = 5 ∨ j = 6 ∨ j = 7 := by omega
  rcases hj with rfl | rfl | rfl | rfl | rfl | rfl | rfl | rfl <;> rfl
theorem set_last (m : Nat) (l : List Int) (x : Int) : (List.replicate (m + 1) (0 : Int) ++ l).set m x = List.replicate m 0 ++ x :: l := by
  rw [List.replicate_succ', List.append_assoc, List.set_append_right _ _ (by simp)]
  simp
theorem put_loop (k : Nat) {u w : Nat} (hw : w ≤ 8) : ∀ n j, j ≤ w → w - j < n → num_Put_l0 k n (u : Int) (w : Int) (w : Int) (j : Int) (List.replicate (w - j) 0 ++ be j u) = some (be w u, ())
  | 0, _, _, h => absurd h (Nat.not_lt_zero _)
  | n + 1, j, hj, hn => by
    rw [num_Put_l0_eq]
    by_cases c : j < w
    · obtain ⟨m, hm⟩ : ∃ m, w - j = m + 1 := ⟨w - j - 1, by omega⟩
      have e1 : wr .i64 (wr .i64 ((w : Int) - 1) - (j : Int)) = (m : Int) := by
        rw [wr_i64 (n := (w : Int) - 1) (by omega), wr_i64 (by omega)]; omega
      have hlen : (List.replicate (w - j) (0 : Int) ++ be j u).length = w := by simp [be_length]; omega
      have e2 : wr .u8 (((u / 256 ^ j : Nat)) : Int) = ((u / 256 ^ j % 256 : Nat) : Int) := by rw [wrm_u8]; rfl
      rw [bif_true (by simp; omega), shr_is (by omega), Option.bind_some, e1, hlen, must_true (by unfold inI; simp; omega), must_true (by simp [Nat.blt]; omega), e2, wr_i64 (by omega), hm, Int.toNat_natCast, set_last]
      have ih := put_loop k (u := u) hw n (j + 1) c (by omega)
      have e3 : w - (j + 1) = m := by omega
      rw [e3] at ih
      exact ih
    · have : j = w := by omega
      subst this
      rw [bif_false (by simp)]
      simp
theorem num_Put_is (k : Nat) {u w : Nat} (hw : w ≤ 8) : num_Put (k + 10) (u : Int) (w : Int) = some (be w u, ()) := by
  rw [num_Put_eq, bif_false (by simp), bif_false (by simp; omega), must_true (by simp [beqI]), Int.toNat_natCast, lim_ok (by omega)]
  have := put_loop (k + 10) (u := u) hw (k + 10) 0 (by omega) (by omega)
  simpa [be] using this
/-! ### Keys -/
abbrev ValT := Int × (Int × ((List Int) × Unit))
def esc (s : List Int) : List Int := s.flatMap fun x => if x = 0 then [x, 255] else [x]
def encV (v : ValT) : List Int := if v.1 = 1 then 2 :: be 8 (v.2.1 + 9223372036854775808).toNat else if v.1 = 2 then 3 :: (esc v.2.2.1 ++ [0, 1]) else [1]
theorem esc_cons (x : Int) (s : List Int) : esc (x :: s) = (if x = 0 then [x, 255] else [x]) ++ esc s := rfl
theorem esc_length : ∀ s : List Int, (esc s).length ≤ 2 * s.length
  | [] => by simp [esc]
  | x :: s => by
    have := esc_length s
    rw [esc_cons]
    split <;> simp <;> omega
def valOk (v : ValT) : Prop := (-9223372036854775808 ≤ v.2.1 ∧ v.2.1 ≤ 9223372036854775807) ∧ v.2.2.1.length ≤ 1100
theorem encV_length {v : ValT} (h : valOk v) : (encV v).length ≤ 3000 := by
  have := esc_length v.2.2.1
  have := h.2
  unfold encV
  split
  · simp [be_length]
  · split <;> simp <;> omega
theorem oFlip_is (k : Nat) {a : Int} (h : -9223372036854775808 ≤ a ∧ a ≤ 9223372036854775807) : num_Flip k a = some (a + 9223372036854775808, ()) := by
  rw [num_Flip_eq]
  unfold wr
  rw [flip_eq h]
theorem oPut_l1 (k n : Nat) (l : List ValT) (len j : Int) (c : Bool) {s : List Int} (hs : s.length ≤ 1100) : ∀ n1 i b out, i ≤ s.length → s.length - i < n1 → List.length out + 2 * (s.length - i) ≤ 60000000 →
    okey_Put_l1 (k + 1) n n1 b out l len j c s (s.length : Int) (i : Int) = okey_Put_j2 (k + 1) n false (out ++ (esc (s.drop i) ++ [0, 1])) l len j
  | 0, _, _, _, _, h, _ => absurd h (Nat.not_lt_zero _)
  | n1 + 1, i, b, out, hi, hn, ho => by
    rw [okey_Put_l1_eq]
    by_cases d : i < s.length
    · have hx := List.getElem?_eq_getElem d
      have hd : s.drop i = s[i] :: s.drop (i + 1) := List.drop_eq_getElem_cons d
      rw [bt (by omega), nth_get hx, Option.bind_some, lim_ok (by simp; omega), hd, esc_cons]
      by_cases e : s[i] = 0
      · rw [bt e, if_pos e, lim_ok (by simp; omega), okey_Put_j1_eq, wr_next d (by omega)]
        refine (oPut_l1 k n l len j c hs n1 (i + 1) ((b && [s[i]].isEmpty) && [(255 : Int)].isEmpty) ((out ++ [s[i]]) ++ [(255 : Int)]) d (by omega) (by simp; omega)).trans ?_
        simp
      · rw [bf e, if_neg e, okey_Put_j1_eq, wr_next d (by omega)]
        refine (oPut_l1 k n l len j c hs n1 (i + 1) (b && [s[i]].isEmpty) (out ++ [s[i]]) d (by omega) (by simp; omega)).trans ?_
        simp
    · have : i = s.length := by omega
      subst this
      rw [bf (by omega), lim_ok (by simp; omega), List.drop_length, show (b && [(0 : Int), (1 : Int)].isEmpty) = false from Bool.and_false b]
      rfl
theorem oPut_loop (k : Nat) {l : List ValT} (hl : ∀ v ∈ l, valOk v) (hlen : l.length ≤ 400) : ∀ n j b out, j ≤ l.length → l.length - j < n → List.length out + 3000 * (l.length - j) ≤ 50000000 →
    okey_Put_l0 (k + 1500) n b out l (l.length : Int) (j : Int) = some ((b && (l.drop j).isEmpty, out ++ (l.drop j).flatMap encV), ())
  | 0, _, _, _, _, h, _ => absurd h (Nat.not_lt_zero _)
  | n + 1, j, b, out, hj, hn, ho => by
    rw [okey_Put_l0_eq]
    by_cases d : j < l.length
    · have hx := List.getElem?_eq_getElem d
      have hd : l.drop j = l[j] :: l.drop (j + 1) := List.drop_eq_getElem_cons d
      have hv := hl _ (List.getElem_mem d)
      have hle := encV_length hv
      rw [bt (by omega), nth_get hx, Option.bind_some, hd, List.flatMap_cons, show ∀ x : ValT, (b && (x :: l.drop (j + 1)).isEmpty) = false from fun _ => Bool.and_false b]
      generalize l[j] = v at *
      have next : okey_Put_j0 (k + 1500) n false (out ++ encV v) l (l.length : Int) (j : Int) = some ((false, out ++ (encV v ++ (l.drop (j + 1)).flatMap encV)), ()) := by
        show okey_Put_j0 (k + 1499 + 1) n _ _ _ _ _ = _
        rw [okey_Put_j0_eq, wr_next d (by omega)]
        have := oPut_loop k hl hlen n (j + 1) false (out ++ encV v) d (by omega) (by simp; omega)
        rw [List.append_assoc] at this
        exact this
      have next2 : okey_Put_j2 (k + 1500) n false (out ++ encV v) l (l.length : Int) (j : Int) = some ((false, out ++ (encV v ++ (l.drop (j + 1)).flatMap encV)), ()) := by
        show okey_Put_j2 (k + 1499 + 1) n _ _ _ _ _ = _
        rw [okey_Put_j2_eq]
        exact next
      by_cases c1 : v.1 = 1
      · have he : encV v = 2 :: be 8 (v.2.1 + 9223372036854775808).toNat := if_pos c1
        obtain ⟨u, hu⟩ := Int.eq_ofNat_of_zero_le (show 0 ≤ v.2.1 + 9223372036854775808 by have := hv.1; omega)
        rw [bt c1, lim_ok (by simp; omega), oFlip_is _ hv.1, Option.bind_some, hu, show num_Put (k + 1500) (u : Int) (8 : Int) = _ from num_Put_is (k + 1490) (u := u) (w := 8) (by omega), Option.bind_some, lim_ok (by simp [be_length]; omega)]
        have e2 : (out ++ [(2 : Int)]) ++ be 8 u = out ++ encV v := by rw [he, hu]; simp
        rw [e2, show ((b && [(2 : Int)].isEmpty) && (be 8 u).isEmpty) = false by simp]
        exact next
      rw [bf c1]
      by_cases c2 : v.1 = 2
      · have he : encV v = 3 :: (esc v.2.2.1 ++ [0, 1]) := by unfold encV; rw [if_neg c1, if_pos c2]
        have hs := hv.2
        have h := oPut_l1 (k + 1499) n l (l.length : Int) (j : Int) false hs (k + 1500) 0 (b && [(3 : Int)].isEmpty) (out ++ [(3 : Int)]) (by omega) (by omega) (by simp; omega)
        rw [bt c2, lim_ok (by simp; omega)]
        refine h.trans ?_
        have e2 : (out ++ [(3 : Int)]) ++ (esc (v.2.2.1.drop 0) ++ [0, 1]) = out ++ encV v := by rw [he]; simp
        rw [e2]
        exact next2
      · have he : encV v = [1] := by unfold encV; rw [if_neg c1, if_neg c2]
        rw [bf c2, lim_ok (by simp; omega), ← he, show (b && (encV v).isEmpty) = false by rw [he]; exact Bool.and_false b]
        exact next2
    · have : j = l.length := by omega
      subst this
      rw [bf (by omega), List.drop_length]
      simp
theorem okey_Put_is (k : Nat) {l : List ValT} (hl : ∀ v ∈ l, valOk v) (hlen : l.length ≤ 400) : okey_Put (k + 1500) l = some ((l.isEmpty, l.flatMap encV), ()) := by
  rw [okey_Put_eq]
  have := oPut_loop k hl hlen (k + 1500) 0 true [] (by omega) (by omega) (by simp; omega)
  simpa using this
abbrev Byt (l : List Int) : Prop := ∀ x ∈ l, (Lit.int .u8 x).wf = true
theorem encV_bytes {v : ValT} (hv : valOk v) (hw : ∀ x ∈ v.2.2.1, (Lit.int .u8 x).wf = true) : ∀ x ∈ encV v, (Lit.int .u8 x).wf = true := by
  have he : ∀ x ∈ esc v.2.2.1, (Lit.int .u8 x).wf = true := by
    intro x hx
    obtain ⟨y, hy, hxy⟩ := List.mem_flatMap.1 hx
    have := hw y hy
    split at hxy
    · simp at hxy
      rcases hxy with rfl | rfl
      · exact this
      · decide
    · simp at hxy; subst hxy; exact this
  intro x hx
  unfold encV at hx
  split at hx
  · rcases List.mem_cons.1 hx with rfl | hx
    · decide
    · exact be_wf _ _ x hx
  · split at hx
    · rcases List.mem_cons.1 hx with rfl | hx
      · decide
      · rcases List.mem_append.1 hx with hx | hx
        · exact he x hx
        · simp at hx; rcases hx with rfl | rfl <;> decide
    · simp at hx; subst hx; decide
theorem flat_len : ∀ l : List ValT, (∀ v ∈ l, valOk v) → (l.flatMap encV).length ≤ 3000 * l.length
  | [], _ => by simp
  | v :: l, hv => by
    have := encV_length (hv v List.mem_cons_self)
    have ih := flat_len l fun w hw => hv w (List.mem_cons_of_mem _ hw)
    rw [List.flatMap_cons, List.length_append, List.length_cons]
    omega
def fewB (l : List ValT) (r : List ValT) : Bool := r.all (fun x => decide (x.2.2.1.length ≤ 100)) && decide (l.length ≤ 20)
theorem few_l0 (k : Nat) {l : List ValT} (hm : l.length ≤ 9223372036854775807) : ∀ n j, j ≤ l.length → l.length - j < n → law02_Few_l0 k n l l (l.length : Int) (j : Int) = some (fewB l (l.drop j), ())
  | 0, _, _, h => absurd h (Nat.not_lt_zero _)
  | n + 1, j, hj, hn => by
    rw [law02_Few_l0_eq]
    by_cases c : j < l.length
    · have hx := List.getElem?_eq_getElem c
      rw [bt (by omega), nth_get hx, Option.bind_some, List.drop_eq_getElem_cons c]
      by_cases c1 : 100 < (l[j].2.2.1.length : Int)
      · rw [bt c1, show fewB l (l[j] :: l.drop (j + 1)) = false from by unfold fewB; rw [List.all_cons, dF (by omega)]; rfl]
      rw [bf c1, wr_i64 (by omega)]
      refine (few_l0 k hm n (j + 1) c (by omega)).trans ?_
      rw [show fewB l (l[j] :: l.drop (j + 1)) = fewB l (l.drop (j + 1)) from by unfold fewB; rw [List.all_cons, dT (by omega)]; rfl]
    · have : j = l.length := by omega
      subst this
      rw [bf (by omega), List.drop_length]
      have : decide ((l.length : Int) ≤ 20) = decide (l.length ≤ 20) := by
        by_cases h : l.length ≤ 20
        · rw [dT h, dT (by omega)]
        · rw [dF h, dF (by omega)]
      rw [this]; rfl
theorem few_ev {l : List ValT} (h : wfD (.sl (.st (.pair (.int .i64) (.pair (.int .i64) (.pair .str .unit))))) l) : Ev (fun k => law02_Few k l) (fewB l l, ()) := by
  obtain ⟨hlen, hall⟩ := h
  have hlen : l.length ≤ maxLen := hlen
  have hmax : maxLen ≤ 9223372036854775807 := by decide
  refine ⟨l.length + 1, fun k hk => ?_⟩
  show law02_Few k l = _
  rw [law02_Few_eq]
  exact few_l0 k (by omega) k 0 (by omega) (by omega)
theorem few_ev' {l : List ValT} (h : l.length ≤ 9223372036854775807) : Ev (fun k => law02_Few k l) (fewB l l, ()) := by
  refine ⟨l.length + 1, fun k hk => ?_⟩
  show law02_Few k l = _
  rw [law02_Few_eq]
  exact few_l0 k h k 0 (by omega) (by omega)
theorem few_of {l : List ValT} (h : wfD (.sl (.st (.pair (.int .i64) (.pair (.int .i64) (.pair .str .unit))))) l) (hb : fewB l l = true) : l.length ≤ 20 ∧ ∀ v ∈ l, (valOk v ∧ v.2.2.1.length ≤ 100) ∧ (∀ x ∈ v.2.2.1, (Lit.int .u8 x).wf = true) ∧ (-9223372036854775808 ≤ v.1 ∧ v.1 ≤ 9223372036854775807) := by
  obtain ⟨hlen, hall⟩ := h
  unfold fewB at hb
  simp only [Bool.and_eq_true, List.all_eq_true, decide_eq_true_eq] at hb
  refine ⟨hb.2, fun v hv => ?_⟩
  obtain ⟨q0, q1, ⟨_, q2⟩, _⟩ := hall v hv
  have := hb.1 v hv
  exact ⟨⟨⟨wf_i64 q1, by omega⟩, this⟩, q2, wf_i64 q0⟩
/-! ### Numbers in groups of seven bits -/
def wt : Nat → Nat → List Int
  | 0, _ => []
  | m + 1, n => (((n / 128 ^ (m + 1) % 128 + 128 : Nat)) : Int) :: wt m n
theorem wt_length : ∀ m n, (wt m n).length = m
  | 0, _ => rfl
  | m + 1, n => congrArg (· + 1) (wt_length m n)
def Grp (m n : Nat) : Prop := n / 128 ^ m < 128 ∧ ∀ i, i < m → 128 ≤ n / 128 ^ i
theorem grp_ex : ∀ (m n : Nat), n / 128 ^ m < 128 → ∃ i, i ≤ m ∧ Grp i n
  | 0, n, h => ⟨0, Nat.le_refl _, h, fun i hi => absurd hi (Nat.not_lt_zero _)⟩
  | m + 1, n, h => by
    by_cases c : n / 128 ^ m < 128
    · obtain ⟨i, h1, h2⟩ := grp_ex m n c
      exact ⟨i, by omega, h2⟩
    · refine ⟨m + 1, Nat.le_refl _, h, fun i hi => ?_⟩
      have h1 : 128 ^ i ≤ 128 ^ m := Nat.pow_le_pow_right (by decide) (by omega)
      have h2 : n / 128 ^ m ≤ n / 128 ^ i := Nat.div_le_div_left h1 (Nat.pow_pos (by decide))
      omega
theorem shr7 {u i : Nat} (hi : i ≤ 9) : shrK .u64 (u : Int) ((7 * i : Nat) : Int) = some (((u / 128 ^ i : Nat)) : Int) := by
  have hi : i = 0 ∨ i = 1 ∨ i = 2 ∨ i = 3 ∨ i = 4 ∨ i = 5 ∨ i = 6 ∨ i = 7 ∨ i = 8 ∨ i = 9 := by omega
  rcases hi with rfl | rfl | rfl | rfl | rfl | rfl | rfl | rfl | rfl | rfl <;> rfl
theorem or128 : ∀ y : Fin 256, Go.bits .or .u8 ((y.val : Nat) : Int) 128 = (((y.val % 128 + 128 : Nat)) : Int) := by decide +kernel
theorem not128 : ∀ y : Fin 256, Go.bits .andNot .u8 ((y.val : Nat) : Int) 128 = (((y.val % 128 : Nat)) : Int) := by decide +kernel
theorem or_is (x : Nat) : Go.bits .or .u8 (wr .u8 (x : Int)) 128 = (((x % 128 + 128 : Nat)) : Int) := by
  have := or128 ⟨x % 256, Nat.mod_lt _ (by decide)⟩
  rw [show wr .u8 (x : Int) = ((x % 256 : Nat) : Int) by rw [wrm_u8]; rfl]
  refine this.trans ?_
  show (((x % 256 % 128 + 128 : Nat)) : Int) = _
  omega
theorem not_is (x : Nat) : Go.bits .andNot .u8 (wr .u8 (x : Int)) 128 = (((x % 128 : Nat)) : Int) := by
  have := not128 ⟨x % 256, Nat.mod_lt _ (by decide)⟩
  rw [show wr .u8 (x : Int) = ((x % 256 : Nat) : Int) by rw [wrm_u8]; rfl]
  refine this.trans ?_
  show (((x % 256 % 128 : Nat)) : Int) = _
  omega
theorem w_l1 (k n : Nat) {u m : Nat} (hm : m ≤ 9) (h : Grp m u) (l : List Int) (a j : Int) (out : List Int) : ∀ n1 i, i ≤ m → m - i < n1 →
    row_Writer_N_l1 k n n1 (u : Int) ((7 * i : Nat) : Int) l a j out = row_Writer_N_l2 k n k (u : Int) ((7 * m : Nat) : Int) l a j out
  | 0, _, _, h => absurd h (Nat.not_lt_zero _)
  | n1 + 1, i, hi, hn => by
    rw [row_Writer_N_l1_eq, shr7 (by omega), Option.bind_some]
    by_cases c : i < m
    · have := h.2 i c
      rw [bt (by omega), wr_i64 (by omega)]
      exact w_l1 k n hm h l a j out n1 (i + 1) c (by omega)
    · have : i = m := by omega
      subst this
      have := h.1
      rw [bf (by omega)]
theorem w_l2 (k n : Nat) {u : Nat} (l : List Int) (a j : Int) : ∀ n1 i out, i ≤ 9 → i < n1 → out.length + i ≤ 1000000 →
    row_Writer_N_l2 k n n1 (u : Int) ((7 * i : Nat) : Int) l a j out = row_Writer_N_l0 k n l a (wr .i64 (j + 1)) (out ++ (wt i u ++ [((u % 128 : Nat) : Int)]))
  | 0, _, _, _, h, _ => absurd h (Nat.not_lt_zero _)
  | n1 + 1, 0, out, _, _, ho => by
    rw [row_Writer_N_l2_eq, bf (by simp), lim_ok (by simp; omega), not_is]
    rfl
  | n1 + 1, i + 1, out, hi, hn, ho => by
    rw [row_Writer_N_l2_eq, bt (by omega), shr7 (by omega), Option.bind_some, lim_ok (by simp; omega), or_is, wr_i64 (by omega)]
    have e : ((7 * (i + 1) : Nat) : Int) - 7 = ((7 * i : Nat) : Int) := by omega
    rw [e, w_l2 k n l a j n1 i _ (by omega) (by omega) (by simp; omega), List.append_assoc]
    rfl
theorem w_N (k : Nat) {u m : Nat} (hm : m ≤ 9) (h : Grp m u) (out : List Int) (ho : out.length + 10 ≤ 1000000) :
    row_Writer_N (k + 20) [(u : Int)] out = some ((), ((out ++ (wt m u ++ [((u % 128 : Nat) : Int)]), ()), ())) := by
  have h1 := w_l1 (k + 20) (k + 19) hm h [(u : Int)] 1 0 out (k + 20) 0 (by omega) (by omega)
  have h2 := w_l2 (k + 20) (k + 19) (u := u) [(u : Int)] 1 0 (k + 20) m out hm (by omega) (by omega)
  rw [row_Writer_N_eq]
  show row_Writer_N_l0 (k + 20) (k + 19 + 1) _ 1 _ _ = _
  rw [row_Writer_N_l0_eq, bt (by decide), show nth [(u : Int)] 0 = some (u : Int) from rfl, Option.bind_some]
  refine h1.trans (h2.trans ?_)
  show row_Writer_N_l0 (k + 20) (k + 18 + 1) _ _ _ _ = _
  rw [row_Writer_N_l0_eq, bf (by decide)]
/-! ### Reading -/
def numG : Nat → Nat → List Int → Option (Nat × List Int)
  | _, _, [] => none
  | i, n, x :: r => if i = 10 then none else if i = 0 ∧ x = 128 then none else if 144115188075855872 ≤ n then none
    else if x < 128 then some (n * 128 + x.toNat % 128, r) else numG (i + 1) (n * 128 + x.toNat % 128) r
theorem numG_cons (i n : Nat) (x : Int) (r : List Int) : numG i n (x :: r) = if i = 10 then none else if i = 0 ∧ x = 128 then none else if 144115188075855872 ≤ n then none
    else if x < 128 then some (n * 128 + x.toNat % 128, r) else numG (i + 1) (n * 128 + x.toNat % 128) r := rfl
theorem numG_back : ∀ (f : List Int) (i n m : Nat) (r : List Int), numG i n f = some (m, r) → (∃ p, f = p ++ r ∧ 1 ≤ p.length) ∧ m < 18446744073709551616
  | [], _, _, _, _, h => by simp [numG] at h
  | x :: f, i, n, m, r, h => by
    rw [numG_cons] at h
    split at h
    · cases h
    · split at h
      · cases h
      · split at h
        · cases h
        · split at h
          · injection h with h; injection h with h1 h2
            have := Nat.mod_lt x.toNat (show 0 < 128 by decide)
            exact ⟨⟨[x], by rw [h2]; rfl, by simp⟩, by omega⟩
          · obtain ⟨⟨p, hp, _⟩, h2⟩ := numG_back f _ _ _ _ h
            exact ⟨⟨x :: p, by rw [hp]; rfl, by simp⟩, h2⟩
theorem or_add7 {a x : Nat} (h : x < 128) : (a * 128) ||| x = a * 128 + x := by
  have := Nat.two_pow_add_eq_or_of_lt (i := 7) h a
  rw [Nat.mul_comm a 128]
  exact this.symm
theorem grp_step {n : Nat} {x : Int} (hn : n < 144115188075855872) (hx : 0 ≤ x ∧ x ≤ 255) : Go.bits .or .u64 (wr .u64 ((n : Int) * 128)) (wr .u64 (Go.bits .andNot .u8 x 128)) = ((n * 128 + x.toNat % 128 : Nat) : Int) := by
  obtain ⟨y, rfl⟩ := Int.eq_ofNat_of_zero_le hx.1
  have e0 : Go.bits .andNot .u8 (y : Int) 128 = ((y % 128 : Nat) : Int) := not128 ⟨y, by omega⟩
  have hm := Nat.mod_lt y (show 0 < 128 by decide)
  have e1 : wr .u64 ((n : Int) * 128) = ((n * 128 : Nat) : Int) := by rw [wr_u64 (by omega)]; omega
  rw [e0, e1, wr_u64 (by omega), u64_or_nat _ _ (by omega) (by omega), or_add7 hm, Int.toNat_natCast]
theorem grp_step2 {n : Nat} {x : Int} (hn : n < 144115188075855872) (hx : 0 ≤ x ∧ x ≤ 255) : wr .u64 ((wr .u64 ((n : Int) * 128)) + (wr .u64 (Int.tmod x 128))) = ((n * 128 + x.toNat % 128 : Nat) : Int) := by
  obtain ⟨y, rfl⟩ := Int.eq_ofNat_of_zero_le hx.1
  have e0 : Int.tmod (y : Int) 128 = ((y % 128 : Nat) : Int) := rfl
  have hm := Nat.mod_lt y (show 0 < 128 by decide)
  rw [e0, wr_u64 (n := (n : Int) * 128) (by omega), wr_u64 (n := ((y % 128 : Nat) : Int)) (by omega), wr_u64 (by omega), Int.toNat_natCast]
  omega
theorem dn {α : Type} {l : List α} {t : Nat} {x : α} {r : List α} (h : l.drop t = x :: r) : l[t]? = some x ∧ l.drop (t + 1) = r ∧ t < l.length ∧ l.length - t = r.length + 1 := by
  have hlt : t < l.length := by
    rcases Nat.lt_or_ge t l.length with h1 | h1
    · exact h1
    · rw [List.drop_eq_nil_of_le h1] at h; cases h
  rw [List.drop_eq_getElem_cons hlt] at h
  injection h with h1 h2
  have h3 := congrArg List.length h2
  simp at h3
  exact ⟨by rw [List.getElem?_eq_getElem hlt, h1], h2, hlt, by omega⟩
def numT (l : List Int) : Option (Nat × List Int) → (Int × (Int × Unit)) × Unit
  | some p => (((p.1 : Int), (((l.length - p.2.length : Nat) : Int), ())), ())
  | none => (((0 : Int), ((0 : Int), ())), ())
theorem number_l0 (k : Nat) {l : List Int} (hl : l.length ≤ 1000000000) (hw : Byt l) : ∀ n j (acc : Nat), j ≤ 10 → j ≤ l.length → 10 - j < n →
    row_number_l0 k n (acc : Int) l (l.length : Int) (j : Int) = some (numT l (numG j acc (l.drop j)))
  | 0, _, _, _, _, h => absurd h (Nat.not_lt_zero _)
  | n + 1, j, acc, hj, hjl, hn => by
    rw [row_number_l0_eq]
    match hd : l.drop j with
    | [] =>
      have : j = l.length := by have := congrArg List.length hd; simp at this; omega
      rw [bf (by omega)]; rfl
    | x :: r =>
      obtain ⟨h1, h2, h3, h4⟩ := dn hd
      have hx := wf_u8 (hw x (List.mem_of_getElem? h1))
      rw [bt (by omega), nth_get h1, Option.bind_some, numG_cons]
      by_cases c10 : j = 10
      · rw [bt (by omega), if_pos c10]; rfl
      rw [bf (by omega), if_neg c10]
      have rest : (bif !decide ((acc : Int) / 144115188075855872 = 0) then some (((0 : Int), ((0 : Int), ())), ()) else bif decide (x < 128) then some ((Go.bits .or .u64 (wr .u64 ((acc : Int) * 128)) (wr .u64 (Go.bits .andNot .u8 x 128)), ((wr .i64 ((j : Int) + 1)), ())), ()) else row_number_l0 k n (Go.bits .or .u64 (wr .u64 ((acc : Int) * 128)) (wr .u64 (Go.bits .andNot .u8 x 128))) l (l.length : Int) (wr .i64 ((j : Int) + 1))) = some (numT l (if 144115188075855872 ≤ acc then none else if x < 128 then some (acc * 128 + x.toNat % 128, r) else numG (j + 1) (acc * 128 + x.toNat % 128) r)) := by
        by_cases ca : 144115188075855872 ≤ acc
        · rw [bif_true (by simp; omega), if_pos ca]; rfl
        rw [bif_false (by simp; omega), if_neg ca, grp_step (by omega) hx, wr_next h3 (by omega)]
        by_cases cx : x < 128
        · rw [bt cx, if_pos cx]
          show _ = some ((((_ : Nat) : Int), (((l.length - r.length : Nat) : Int), ())), ())
          rw [show l.length - r.length = j + 1 by omega]
        · rw [bf cx, if_neg cx]
          have := number_l0 k hl hw n (j + 1) (acc * 128 + x.toNat % 128) (by omega) (by omega) (by omega)
          rw [h2] at this
          exact this
      by_cases c0 : j = 0
      · rw [bt (by omega)]
        by_cases cx : x = 128
        · rw [bt cx, if_pos ⟨c0, cx⟩]; rfl
        · rw [bf cx, if_neg (by omega)]; exact rest
      · rw [bf (by omega), if_neg (by omega)]; exact rest
theorem number_is (k : Nat) {l : List Int} (hl : l.length ≤ 1000000000) (hw : Byt l) : row_number (k + 20) l = some (numT l (numG 0 0 l)) := by
  rw [row_number_eq]
  exact number_l0 (k + 20) hl hw (k + 20) 0 0 (by omega) (by omega) (by omega)
def rN (most : Int) : Option (List Int) → Int × Option (List Int)
  | none => (0, none)
  | some f => match numG 0 0 f with
    | none => (0, none)
    | some (n, r) => if most < n then (0, none) else ((n : Int), some r)
theorem rN_n {most : Int} {f : List Int} (h : numG 0 0 f = none) : rN most (some f) = (0, none) := by
  show (match numG 0 0 f with | none => (0, none) | some (n, r) => if most < n then (0, none) else ((n : Int), some r)) = _
  rw [h]
theorem rN_s {most : Int} {f r : List Int} {n : Nat} (h : numG 0 0 f = some (n, r)) : rN most (some f) = if most < n then (0, none) else ((n : Int), some r) := by
  show (match numG 0 0 f with | none => (0, none) | some (n, r) => if most < n then (0, none) else ((n : Int), some r)) = _
  rw [h]
def Fine (st : Option (List Int)) : Prop := ∀ f, st = some f → Byt f ∧ f.length ≤ 1000000000
theorem fine_none : Fine none := fun f h => by cases h
theorem rN_fine {most : Int} {st : Option (List Int)} (h : Fine st) : Fine (rN most st).2 ∧ (0 ≤ (rN most st).1 ∧ (rN most st).1 < 18446744073709551616) ∧ (0 ≤ most → (rN most st).1 ≤ most) := by
  cases st with
  | none => exact ⟨h, by simp [rN], fun h => h⟩
  | some f =>
    obtain ⟨h1, h2⟩ := h f rfl
    cases hg : numG 0 0 f with
    | none => rw [rN_n hg]; exact ⟨fine_none, by simp, fun h => h⟩
    | some p =>
      obtain ⟨n, r⟩ := p
      obtain ⟨⟨p, hp, _⟩, hlt⟩ := numG_back f _ _ _ _ hg
      rw [rN_s hg]
      split
      · exact ⟨fine_none, by simp, fun h => h⟩
      · refine ⟨fun g hgg => ?_, by simp; omega, fun _ => by simp; omega⟩
        injection hgg with hgg
        subst hgg
        subst hp
        exact ⟨fun x hx => h1 x (List.mem_append_right _ hx), by simp at h2; omega⟩
abbrev cE (st : Option (List Int)) : (List Int × (Bool × Unit)) × Unit := ((st.getD [], (st.isSome, ())), ())
abbrev rE (st : Option (List Int)) : (List Int × (Bool × Unit)) × Unit := ((st.getD [], (st.isNone, ())), ())
theorem cN (k : Nat) (most : Int) {st : Option (List Int)} (h : Fine st) : row_Reader_N (k + 20) most (st.getD []) st.isSome = some ((rN most st).1, cE (rN most st).2) := by
  rw [row_Reader_N_eq, row_Reader_ok_eq, Option.bind_some]
  cases st with
  | none => rfl
  | some f =>
    obtain ⟨h1, h2⟩ := h f rfl
    simp only [Option.isSome_some, Bool.not_true, cond_false, Option.getD_some, number_is k h2 h1, Option.bind_some]
    cases hg : numG 0 0 f with
    | none => rw [rN_n hg]; rfl
    | some p =>
      obtain ⟨n, r⟩ := p
      obtain ⟨⟨p, hp, h1p⟩, _⟩ := numG_back f _ _ _ _ hg
      have hlen : f.length = p.length + r.length := by rw [hp]; simp
      rw [rN_s hg]
      show (bif decide (((f.length - r.length : Nat) : Int) = 0) then _ else bif decide (most < (n : Int)) then (row_Reader_fail (k + 20) f true).bind _ else (cut f ((f.length - r.length : Nat) : Int) f.length).bind _) = _
      rw [bf (by omega)]
      by_cases c : most < (n : Int)
      · rw [bt c, if_pos c]; rfl
      · rw [bf c, if_neg c, cut_from (by omega), Option.bind_some]
        have : f.drop (f.length - r.length) = r := by rw [show f.length - r.length = p.length by omega, hp]; exact List.drop_left
        rw [this]; rfl
def zagF (u : Int) : Int := if u % 2 = 0 then u / 2 else -1 - u / 2
theorem zag_is (k : Nat) {u : Int} (h : 0 ≤ u ∧ u < 18446744073709551616) : num_Zag k u = some (zagF u, ()) := by
  rw [num_Zag_eq]
  unfold wr zagF
  rw [← zag_eq h]
  simp only [wrap_i64, Int.zero_sub]
def rI (st : Option (List Int)) : Int × Option (List Int) := (zagF (rN 18446744073709551615 st).1, (rN 18446744073709551615 st).2)
theorem cI (k : Nat) {st : Option (List Int)} (h : Fine st) : row_Reader_I (k + 20) (st.getD []) st.isSome = some ((rI st).1, cE (rI st).2) := by
  rw [row_Reader_I_eq, cN k _ h, Option.bind_some, zag_is _ (rN_fine h).2.1]; rfl
def rT (most : Int) (st : Option (List Int)) : List Int × Option (List Int) :=
  if most < 0 then ([], none) else match (rN most st).2 with
    | none => ([], none)
    | some r => if (r.length : Int) < (rN most st).1 then ([], none) else (r.take (rN most st).1.toNat, some (r.drop (rN most st).1.toNat))
theorem rT_fine {most : Int} {st : Option (List Int)} (h : Fine st) : Fine (rT most st).2 := by
  have h2 := (rN_fine (most := most) h).1
  unfold rT
  split
  · intro f h; cases h
  · cases hr : (rN most st).2 with
    | none => intro f h; cases h
    | some r =>
      simp only
      split
      · intro f h; cases h
      · intro f hf
        injection hf with hf
        subst hf
        obtain ⟨g1, g2⟩ := h2 r hr
        exact ⟨fun x hx => g1 x (List.mem_of_mem_drop hx), by simp; omega⟩
theorem cT (k : Nat) {most : Int} (hm : most < 9223372036854775808) {st : Option (List Int)} (h : Fine st) : row_Reader_Text (k + 20) most (st.getD []) st.isSome = some ((rT most st).1, cE (rT most st).2) := by
  rw [row_Reader_Text_eq]
  unfold rT
  simp only [row_Reader_fail_eq, row_Reader_ok_eq, Option.bind_some]
  by_cases c : most < 0
  · rw [bt c, if_pos c]; rfl
  rw [bf c, if_neg c, wr_u64 (by omega), cN k _ h, Option.bind_some]
  have hb := (rN_fine (most := most) h)
  generalize rN most st = q at *
  obtain ⟨u, st'⟩ := q
  cases st' with
  | none => rfl
  | some r =>
    obtain ⟨v, rfl⟩ := Int.eq_ofNat_of_zero_le hb.2.1.1
    have hr := (hb.1 r rfl).2
    show (bif !true then _ else bif decide (wr .u64 (r.length : Int) < (v : Int)) then some ([], (([], (false, ())), ())) else (cut r 0 (v : Int)).bind fun x280 => lim (0 + x280.length) ((cut r (v : Int) r.length).bind fun x281 => some (([] ++ x280), ((x281, (true, ())), ())))) = some ((if (r.length : Int) < (v : Int) then ([], none) else (r.take v, some (r.drop v)) : List Int × Option (List Int)).1, cE (if (r.length : Int) < (v : Int) then ([], none) else (r.take v, some (r.drop v)) : List Int × Option (List Int)).2)
    rw [Bool.not_true, cond_false, wr_u64 (by omega)]
    by_cases d : (r.length : Int) < (v : Int)
    · rw [bt d, if_pos d]; rfl
    · rw [bf d, if_neg d, cut_all (by omega), Option.bind_some, lim_ok (by simp; omega), cut_from (by omega), Option.bind_some]; rfl
def vOf (kd : Int) (n : Int) (s : List Int) : Option (List Int) → ValT × Option (List Int)
  | none => ((0, (0, ([], ()))), none)
  | some f => ((kd, (n, (s, ()))), some f)
def rV (st : Option (List Int)) : ValT × Option (List Int) :=
  if (rN 2 st).1 = 1 then vOf 1 (rI (rN 2 st).2).1 [] (rI (rN 2 st).2).2
  else if (rN 2 st).1 = 2 then vOf 2 0 (rT 1000 (rN 2 st).2).1 (rT 1000 (rN 2 st).2).2
  else vOf (rN 2 st).1 0 [] (rN 2 st).2
theorem vOf_fine {kd n : Int} {s : List Int} {st : Option (List Int)} (h : Fine st) : Fine (vOf kd n s st).2 := by cases st <;> exact h
theorem rV_fine {st : Option (List Int)} (h : Fine st) : Fine (rV st).2 := by
  have h2 := (rN_fine (most := 2) h).1
  unfold rV
  split
  · exact vOf_fine (rN_fine h2).1
  · split
    · exact vOf_fine (rT_fine h2)
    · exact vOf_fine h2
theorem cV_j0 (k : Nat) (a b : Int) (c : List Int) (kd n : Int) (s : List Int) (st : Option (List Int)) : row_Reader_Value_j0 (k + 1) (st.getD []) st.isSome a b c kd n s = some ((vOf kd n s st).1, ((cE (vOf kd n s st).2).1, ((vOf kd n s st).1, ()))) := by
  rw [row_Reader_Value_j0_eq, row_Reader_ok_eq]
  cases st <;> rfl
theorem cV (k : Nat) {st : Option (List Int)} (h : Fine st) : row_Reader_Value (k + 20) (st.getD []) st.isSome = some ((rV st).1, ((cE (rV st).2).1, ((rV st).1, ()))) := by
  rw [row_Reader_Value_eq, cN k _ h, Option.bind_some]
  have hb := rN_fine (most := 2) h
  unfold rV
  generalize rN 2 st = q at *
  obtain ⟨u, st'⟩ := q
  have hu := hb.2.2 (by omega)
  have hu0 := hb.2.1.1
  have hu : u ≤ 2 := hu
  have hu0 : 0 ≤ u := hu0
  simp only
  rw [wr_i64 (by omega)]
  by_cases c1 : u = 1
  · rw [bt c1, if_pos c1, cI k hb.1, Option.bind_some]
    subst c1
    exact cV_j0 (k + 19) _ _ _ _ _ _ _
  rw [bf c1, if_neg c1]
  by_cases c2 : u = 2
  · rw [bt c2, if_pos c2, cT k (by omega) hb.1, Option.bind_some]
    subst c2
    show row_Reader_Value_j1 (k + 19 + 1) _ _ _ _ _ _ _ _ = _
    rw [row_Reader_Value_j1_eq]
    exact cV_j0 (k + 19) _ _ _ _ _ _ _
  · rw [bf c2, if_neg c2]
    show row_Reader_Value_j1 (k + 19 + 1) _ _ _ _ _ _ _ _ = _
    rw [row_Reader_Value_j1_eq]
    exact cV_j0 (k + 19) _ _ _ _ _ _ _
/-! ### What is written -/
theorem grp_le {u : Nat} (h : u < 18446744073709551616) : ∃ i, i ≤ 9 ∧ Grp i u := grp_ex 9 u (by rw [show (128 : Nat) ^ 9 = 9223372036854775808 by decide]; omega)
open Classical in
noncomputable def mG (u : Nat) : Nat := if h : ∃ i, i ≤ 9 ∧ Grp i u then Classical.choose h else 0
theorem mG_ok {u : Nat} (h : u < 18446744073709551616) : mG u ≤ 9 ∧ Grp (mG u) u := by
  unfold mG
  rw [dif_pos (grp_le h)]
  exact Classical.choose_spec (grp_le h)
theorem grp_one {u a b : Nat} (ha : Grp a u) (hb : Grp b u) : a = b := by
  rcases Nat.lt_trichotomy a b with h | h | h
  · have := hb.2 a h; have := ha.1; omega
  · exact h
  · have := ha.2 b h; have := hb.1; omega
noncomputable def encN (u : Nat) : List Int := wt (mG u) u ++ [((u % 128 : Nat) : Int)]
theorem encN_length {u : Nat} (h : u < 18446744073709551616) : (encN u).length ≤ 10 ∧ 1 ≤ (encN u).length := by
  have := (mG_ok h).1
  unfold encN
  rw [List.length_append, wt_length]; simp; omega
theorem cwN (k : Nat) {u : Nat} (h : u < 18446744073709551616) (out : List Int) (ho : out.length + 10 ≤ 1000000) : row_Writer_N (k + 20) [(u : Int)] out = some ((), ((out ++ encN u, ()), ())) := w_N k (mG_ok h).1 (mG_ok h).2 out ho
def zigN (a : Int) : Nat := (if 0 ≤ a then 2 * a else -2 * a - 1).toNat
theorem zigN_is {a : Int} (h : -9223372036854775808 ≤ a ∧ a ≤ 9223372036854775807) : ((zigN a : Nat) : Int) = (if 0 ≤ a then 2 * a else -2 * a - 1) ∧ zigN a < 18446744073709551616 := by
  unfold zigN
  split <;> constructor <;> omega
theorem cZig (k : Nat) {a : Int} (h : -9223372036854775808 ≤ a ∧ a ≤ 9223372036854775807) : num_Zig k a = some (((zigN a : Nat) : Int), ()) := by
  rw [num_Zig_eq, (zigN_is h).1]
  unfold wr
  rw [zig_eq h]
theorem cwI (k : Nat) {a : Int} (h : -9223372036854775808 ≤ a ∧ a ≤ 9223372036854775807) (out : List Int) (ho : out.length + 10 ≤ 1000000) : row_Writer_I (k + 20) a out = some ((), ((out ++ encN (zigN a), ()), ())) := by
  rw [row_Writer_I_eq, cZig _ h, Option.bind_some, cwN k (zigN_is h).2 out ho]; rfl
noncomputable def encT (s : List Int) : List Int := encN s.length ++ s
theorem cwT (k : Nat) {s : List Int} (out : List Int) (ho : out.length + s.length + 10 ≤ 1000000) : row_Writer_Text (k + 20) s out = some ((), ((out ++ encT s, ()), ())) := by
  have := encN_length (u := s.length) (by omega)
  rw [row_Writer_Text_eq, wr_u64 (by omega), cwN k (by omega) out (by omega), Option.bind_some, lim_ok (by simp; omega)]
  unfold encT
  simp
abbrev ValW := Int × (Int × ((List Int) × Unit))
noncomputable def encR (v : ValW) : List Int := if v.1 = 1 then encN 1 ++ encN (zigN v.2.1) else if v.1 = 2 then encN 2 ++ encT v.2.2.1 else encN 0
theorem cwV (k : Nat) {v : ValW} (hn : -9223372036854775808 ≤ v.2.1 ∧ v.2.1 ≤ 9223372036854775807) (out : List Int) (ho : out.length + v.2.2.1.length + 30 ≤ 1000000) : row_Writer_Value (k + 20) v out = some ((), ((out ++ encR v, ()), ())) := by
  unfold encR
  have h1 := (encN_length (u := 1) (by omega)).1
  have h2 := (encN_length (u := 2) (by omega)).1
  by_cases c1 : v.1 = 1
  · rw [row_Writer_Value_eq, bt c1, if_pos c1, show row_Writer_N (k + 20) [(1 : Int)] out = _ from cwN k (u := 1) (by omega) out (by omega), Option.bind_some, cwI k hn _ (by simp; omega), Option.bind_some]
    show row_Writer_Value_j0 (k + 19 + 1) _ = _
    rw [row_Writer_Value_j0_eq]; simp
  by_cases c2 : v.1 = 2
  · rw [row_Writer_Value_eq, bf c1, bt c2, if_neg c1, if_pos c2, show row_Writer_N (k + 20) [(2 : Int)] out = _ from cwN k (u := 2) (by omega) out (by omega), Option.bind_some, cwT k _ (by simp; omega), Option.bind_some]
    show row_Writer_Value_j1 (k + 19 + 1) _ = _
    rw [row_Writer_Value_j1_eq, row_Writer_Value_j0_eq]; simp
  · rw [row_Writer_Value_eq, bf c1, bf c2, if_neg c1, if_neg c2, show row_Writer_N (k + 20) [(0 : Int)] out = _ from cwN k (u := 0) (by omega) out (by omega), Option.bind_some]
    show row_Writer_Value_j1 (k + 19 + 1) _ = _
    rw [row_Writer_Value_j1_eq, row_Writer_Value_j0_eq]
/-! Bytes -/
theorem wt_byt : ∀ m n, Byt (wt m n)
  | 0, _, x, h => by cases h
  | m + 1, n, x, h => by
    rcases List.mem_cons.1 (show x ∈ (((n / 128 ^ (m + 1) % 128 + 128 : Nat)) : Int) :: wt m n from h) with rfl | h
    · have := Nat.mod_lt (n / 128 ^ (m + 1)) (show 0 < 128 by decide)
      simp [Lit.wf, IntKind.min, IntKind.max, IntKind.signed, IntKind.bits]; omega
    · exact wt_byt m n x h
theorem encN_byt (u : Nat) : Byt (encN u) := by
  intro x hx
  rcases List.mem_append.1 hx with h | h
  · exact wt_byt _ _ x h
  · simp at h; subst h
    simp [Lit.wf, IntKind.min, IntKind.max, IntKind.signed, IntKind.bits]; omega
theorem encR_byt {v : ValW} (h : Byt v.2.2.1) : Byt (encR v) := by
  unfold encR encT
  intro x hx
  split at hx
  · rcases List.mem_append.1 hx with h | h <;> exact encN_byt _ x h
  · split at hx
    · rcases List.mem_append.1 hx with h1 | h1
      · exact encN_byt _ x h1
      · rcases List.mem_append.1 h1 with h1 | h1
        · exact encN_byt _ x h1
        · exact h x h1
    · exact encN_byt _ x hx
theorem encR_len {v : ValW} (hn : -9223372036854775808 ≤ v.2.1 ∧ v.2.1 ≤ 9223372036854775807) (hs : v.2.2.1.length ≤ 1000000) : (encR v).length ≤ 20 + v.2.2.1.length := by
  have h0 := (encN_length (u := 0) (by omega)).1
  have h1 := (encN_length (u := 1) (by omega)).1
  have h2 := (encN_length (u := 2) (by omega)).1
  have h3 := (encN_length (zigN_is hn).2).1
  have h4 := (encN_length (u := v.2.2.1.length) (by omega)).1
  unfold encR encT
  split
  · simp; omega
  · split
    · simp; omega
    · omega
/-! What is read of it -/
theorem numG_wt {u m : Nat} (hu : u < 18446744073709551616) (hm : m ≤ 9) (h : Grp m u) (r : List Int) : ∀ j i, j ≤ m → i + j = m → numG i (u / 128 ^ (j + 1)) (wt j u ++ ((u % 128 : Nat) : Int) :: r) = some (u, r)
  | 0, i, _, hi => by
    have hd : u / 128 ^ (0 + 1) = u / 128 := by rw [Nat.zero_add, Nat.pow_one]
    have hmod := Nat.mod_lt u (show 0 < 128 by decide)
    show numG i (u / 128 ^ (0 + 1)) (((u % 128 : Nat) : Int) :: r) = _
    rw [numG_cons, if_neg (by omega), if_neg (by omega), hd, if_neg (by omega), if_pos (by omega), Int.toNat_natCast]
    congr 2
    omega
  | j + 1, i, hj, hi => by
    have ih := numG_wt hu hm h r j (i + 1) (by omega) (by omega)
    have h1 : u / 128 ^ (j + 1 + 1) = u / 128 ^ (j + 1) / 128 := by rw [Nat.pow_succ, Nat.div_div_eq_div_mul]
    have hlead : i = 0 → 1 ≤ u / 128 ^ (j + 1) ∧ u / 128 ^ (j + 1) < 128 := by
      intro h0
      have e : j + 1 = m := by omega
      have h2 := h.2 j (by omega)
      have h3 := h.1
      rw [← e] at h3
      refine ⟨?_, h3⟩
      have : u / 128 ^ (j + 1) = u / 128 ^ j / 128 := by rw [Nat.pow_succ, Nat.div_div_eq_div_mul]
      omega
    show numG i (u / 128 ^ (j + 1 + 1)) ((((u / 128 ^ (j + 1) % 128 + 128 : Nat)) : Int) :: (wt j u ++ ((u % 128 : Nat) : Int) :: r)) = _
    have hle : u / 128 ^ (j + 1) ≤ u := Nat.div_le_self _ _
    rw [h1]
    generalize u / 128 ^ (j + 1) = v at *
    have hmod := Nat.mod_lt v (show 0 < 128 by decide)
    rw [numG_cons, if_neg (by omega), if_neg (by intro ⟨h0, h5⟩; have := hlead h0; omega), if_neg (by omega), if_neg (by omega), Int.toNat_natCast]
    have : v / 128 * 128 + (v % 128 + 128) % 128 = v := by omega
    rw [this]
    exact ih
theorem numG_enc {u : Nat} (hu : u < 18446744073709551616) (r : List Int) : numG 0 0 (encN u ++ r) = some (u, r) := by
  obtain ⟨hm, h⟩ := mG_ok hu
  have := numG_wt hu hm h r (mG u) 0 (Nat.le_refl _) (by omega)
  have h0 : u / 128 ^ (mG u + 1) = 0 := by rw [Nat.pow_succ, ← Nat.div_div_eq_div_mul]; exact Nat.div_eq_of_lt h.1
  rw [h0] at this
  unfold encN
  rw [List.append_assoc]
  exact this
theorem rN_enc {u : Nat} {most : Int} (hu : u < 18446744073709551616) (hm : (u : Int) ≤ most) (r : List Int) : rN most (some (encN u ++ r)) = ((u : Int), some r) := by
  rw [rN_s (numG_enc hu r), if_neg (by omega)]
theorem rI_enc {a : Int} (h : -9223372036854775808 ≤ a ∧ a ≤ 9223372036854775807) (r : List Int) : rI (some (encN (zigN a) ++ r)) = (a, some r) := by
  have hz := zigN_is h
  unfold rI
  rw [rN_enc hz.2 (by omega)]
  have e : zagF ((zigN a : Nat) : Int) = a := by
    rw [hz.1]; unfold zagF
    by_cases c : 0 ≤ a
    · rw [if_pos c, if_pos (by omega)]; omega
    · rw [if_neg c, if_neg (by omega)]; omega
  simp only [e]
theorem rT_enc {s : List Int} {most : Int} (hs : (s.length : Int) ≤ most) (h : s.length < 18446744073709551616) (r : List Int) : rT most (some (encT s ++ r)) = (s, some r) := by
  unfold rT encT
  rw [List.append_assoc, rN_enc h hs, if_neg (by omega)]
  show (if ((s ++ r).length : Int) < (s.length : Int) then (([] : List Int), none) else ((s ++ r).take ((s.length : Int)).toNat, some ((s ++ r).drop ((s.length : Int)).toNat))) = _
  rw [if_neg (by simp; omega), Int.toNat_natCast, List.take_left, List.drop_left]
def plainW (v : ValW) : ValW := if v.1 = 1 then (1, (v.2.1, ([], ()))) else if v.1 = 2 then (2, (0, (v.2.2.1, ()))) else (0, (0, ([], ())))
theorem rV_enc {v : ValW} (hn : -9223372036854775808 ≤ v.2.1 ∧ v.2.1 ≤ 9223372036854775807) (hs : v.1 = 2 → v.2.2.1.length ≤ 1000) (r : List Int) : rV (some (encR v ++ r)) = (plainW v, some r) := by
  unfold encR plainW
  by_cases c1 : v.1 = 1
  · rw [if_pos c1, if_pos c1]
    unfold rV
    rw [List.append_assoc, rN_enc (u := 1) (by omega) (by omega)]
    refine (if_pos (show ((1 : Nat) : Int) = 1 from rfl)).trans ?_
    rw [rI_enc hn]; rfl
  rw [if_neg c1, if_neg c1]
  by_cases c2 : v.1 = 2
  · have := hs c2
    rw [if_pos c2, if_pos c2]
    unfold rV
    rw [List.append_assoc, rN_enc (u := 2) (by omega) (by omega)]
    refine (if_neg (show ¬ ((2 : Nat) : Int) = 1 by decide)).trans ((if_pos (show ((2 : Nat) : Int) = 2 from rfl)).trans ?_)
    rw [rT_enc (by omega) (by omega)]; rfl
  · rw [if_neg c2, if_neg c2]
    unfold rV
    rw [rN_enc (u := 0) (by omega) (by omega)]
    exact (if_neg (show ¬ ((0 : Nat) : Int) = 1 by decide)).trans (if_neg (show ¬ ((0 : Nat) : Int) = 2 by decide))
/-! ### Rows -/
noncomputable def ofR : Nat → Option (List Int) → List ValW × Option (List Int)
  | 0, st => ([], st)
  | n + 1, st => ((rV st).1 :: (ofR n (rV st).2).1, (ofR n (rV st).2).2)
theorem ofR_fine : ∀ n {st}, Fine st → Fine (ofR n st).2
  | 0, _, h => h
  | n + 1, _, h => ofR_fine n (rV_fine h)
theorem ofR_len : ∀ n st, (ofR n st).1.length = n
  | 0, _ => rfl
  | n + 1, st => congrArg (· + 1) (ofR_len n _)
def endR (st : Option (List Int)) : Bool := match st with | some [] => true | _ => false
def resR (l : List ValW) (e : Bool) : (List ValW × (Int × Unit)) × Unit := if e then ((l, ((0 : Int), ())), ()) else (([], ((30 : Int), ())), ())
theorem cEnd (k : Nat) (st : Option (List Int)) : row_Reader_End k (st.getD []) st.isSome = some (if endR st then (0 : Int) else 30, cE st) := by
  rw [row_Reader_End_eq, row_Reader_ok_eq]
  cases st with
  | none => rfl
  | some f =>
    cases f with
    | nil => rfl
    | cons x r =>
      exact bt (p := 0 < ((x :: r).length : Int)) (by simp; try omega)
theorem of_l0 (k : Nat) : ∀ n1 n b acc st, Fine st → n < n1 → List.length acc + n ≤ 1000 → row_Of_l0 (k + 20) n1 b acc (n : Int) (st.getD []) st.isSome = some (resR (acc ++ (ofR n st).1) (endR (ofR n st).2))
  | 0, _, _, _, _, _, h, _ => absurd h (Nat.not_lt_zero _)
  | n1 + 1, 0, b, acc, st, hf, _, _ => by
    rw [row_Of_l0_eq, bf (by omega), cEnd, Option.bind_some]
    show (bif !decide ((if endR st then (0 : Int) else 30) = 0) then _ else _) = some (resR (acc ++ []) (endR st))
    cases he : endR st with
    | true => simp [resR]
    | false => simp [resR]
  | n1 + 1, n + 1, b, acc, st, hf, hn, ha => by
    rw [row_Of_l0_eq, bt (by omega), cV k hf, Option.bind_some, lim_ok (by simp; omega), wr_u64 (by omega)]
    have e : ((n + 1 : Nat) : Int) - 1 = (n : Int) := by omega
    have := of_l0 k n1 n (b && [(rV st).1].isEmpty) (acc ++ [(rV st).1]) (rV st).2 (rV_fine hf) (by omega) (by simp; omega)
    rw [List.append_assoc] at this
    rw [e]
    exact this
noncomputable def ofRow (b : List Int) : (List ValW × (Int × Unit)) × Unit := resR (ofR (rN 32 (some b)).1.toNat (rN 32 (some b)).2).1 (endR (ofR (rN 32 (some b)).1.toNat (rN 32 (some b)).2).2)
theorem rowOf_is (k : Nat) {b : List Int} (hb : Byt b) (hl : b.length ≤ 1000000000) : row_Of (k + 50) b = some (ofRow b) := by
  have hf : Fine (some b) := fun f h => by injection h with h; subst h; exact ⟨hb, hl⟩
  have hn := rN_fine (most := 32) hf
  rw [row_Of_eq, row_Read_eq, lim_ok (by omega), Option.bind_some, show row_Reader_N (k + 50) 32 ([] ++ b) true = _ from cN (k + 30) 32 (st := some b) hf, Option.bind_some]
  have h3 := hn.2.2 (by omega)
  unfold ofRow
  generalize rN 32 (some b) = q at *
  obtain ⟨u, st⟩ := q
  obtain ⟨v, rfl⟩ := Int.eq_ofNat_of_zero_le hn.2.1.1
  have h3 : (v : Int) ≤ 32 := h3
  exact of_l0 (k + 30) (k + 50) v true [] st hn.1 (by omega) (by simp; omega)
/-- What a row is written as. -/
def badV (v : ValW) : Bool := decide (v.1 < 0) || decide (2 < v.1) || (decide (v.1 = 2) && decide (1000 < v.2.2.1.length))
noncomputable def putRow (l : List ValW) : (List Int × (Int × Unit)) × Unit := if 32 < l.length then (([], ((30 : Int), ())), ()) else if l.any badV then (([], ((30 : Int), ())), ()) else ((encN l.length ++ l.flatMap encR, ((0 : Int), ())), ())
def vnOk (v : ValW) : Prop := (-9223372036854775808 ≤ v.2.1 ∧ v.2.1 ≤ 9223372036854775807)
theorem put_l0 (k : Nat) {l : List ValW} (hl : ∀ v ∈ l, vnOk v) (hlen : l.length ≤ 40) : ∀ n j out, j ≤ l.length → l.length - j < n → List.length out ≤ 10 + 1100 * j →
    row_Put_l0 (k + 20) n l (l.length : Int) (j : Int) out = some (if (l.drop j).any badV then (([], ((30 : Int), ())), ()) else ((out ++ (l.drop j).flatMap encR, ((0 : Int), ())), ()))
  | 0, _, _, _, h, _ => absurd h (Nat.not_lt_zero _)
  | n + 1, j, out, hj, hn, ho => by
    rw [row_Put_l0_eq]
    by_cases c : j < l.length
    · rw [bt (by omega), nth_get (List.getElem?_eq_getElem c), Option.bind_some, List.drop_eq_getElem_cons c, List.flatMap_cons, List.any_cons]
      have hv := hl _ (List.getElem_mem c)
      generalize l[j] = v at *
      by_cases c1 : v.1 < 0
      · rw [bt c1, show badV v = true by simp [badV, c1], Bool.true_or, if_pos rfl]
      by_cases c2 : 2 < v.1
      · rw [bf c1, bt c2, show badV v = true by simp [badV, c2], Bool.true_or, if_pos rfl]
      rw [bf c1, bf c2]
      have step : v.2.2.1.length ≤ 1000 ∨ v.1 ≠ 2 → (row_Writer_Value (k + 20) (v.1, (v.2.1, (v.2.2.1, ()))) out).bind (fun r62 => row_Put_l0 (k + 20) n l (l.length : Int) (wr .i64 ((j : Int) + 1)) r62.2.1.1) = some (if (l.drop (j + 1)).any badV then (([], ((30 : Int), ())), ()) else ((out ++ (encR v ++ (l.drop (j + 1)).flatMap encR), ((0 : Int), ())), ())) := by
        intro hs
        have hw : row_Writer_Value (k + 20) v out = some ((), ((out ++ encR v, ()), ())) ∧ (encR v).length ≤ 1020 := by
          rcases hs with hs | hs
          · exact ⟨cwV k hv out (by omega), by have := encR_len hv (by omega); omega⟩
          · have e : ∀ s : List Int, encR v = encR (v.1, (v.2.1, (([] : List Int), ()))) := fun _ => by unfold encR; simp only [if_neg hs]
            have e2 : ∀ s : List Int, row_Writer_Value (k + 20) v out = row_Writer_Value (k + 20) (v.1, (v.2.1, (([] : List Int), ()))) out := fun _ => by
              rw [row_Writer_Value_eq, row_Writer_Value_eq]
              show (bif decide (v.1 = 1) then _ else bif decide (v.1 = 2) then _ else _) = (bif decide (v.1 = 1) then _ else bif decide (v.1 = 2) then _ else _)
              rw [bf hs, bf hs]
            rw [e2 [], e []]
            have hl' := encR_len (v := (v.1, (v.2.1, (([] : List Int), ())))) hv (by simp)
            exact ⟨cwV k (v := (v.1, (v.2.1, (([] : List Int), ())))) hv out (by simp; omega), by simp at hl'; omega⟩
        rw [show row_Writer_Value (k + 20) (v.1, (v.2.1, (v.2.2.1, ()))) out = _ from hw.1, Option.bind_some, wr_i64 (by omega)]
        have := put_l0 k hl hlen n (j + 1) (out ++ encR v) c (by omega) (by simp; omega)
        rw [List.append_assoc] at this
        exact this
      by_cases c3 : v.1 = 2
      · rw [bt c3]
        by_cases c4 : 1000 < v.2.2.1.length
        · rw [bt (by omega), show badV v = true by simp [badV, c3, c4], Bool.true_or, if_pos rfl]
        · rw [bf (by omega), show badV v = false from (by simp [badV, c1, c2, c3, c4]; try omega), Bool.false_or]
          exact step (.inl (by omega))
      · rw [bf c3, show badV v = false by simp [badV, c1, c2, c3], Bool.false_or]
        exact step (.inr c3)
    · have : j = l.length := by omega
      subst this
      rw [bf (by omega), row_Writer_Bytes_eq, lim_ok (by omega), List.drop_length]
      simp
theorem rowPut_is (k : Nat) {l : List ValW} (hl : ∀ v ∈ l, vnOk v) (hlen : l.length ≤ 40) : row_Put (k + 100) l = some (putRow l) := by
  rw [row_Put_eq]
  unfold putRow
  by_cases c : 32 < l.length
  · rw [bt (by omega), if_pos c]
  · have h1 := encN_length (u := l.length) (by omega)
    rw [bf (by omega), if_neg c, wr_u64 (by omega), show row_Writer_N (k + 100) [(l.length : Int)] [] = _ from cwN (k + 80) (u := l.length) (by omega) [] (by simp), Option.bind_some]
    have := put_l0 (k + 80) hl hlen (k + 100) 0 (encN l.length) (by omega) (by omega) (by omega)
    exact this
theorem flat_enc : ∀ (l : List ValW), (∀ v ∈ l, vnOk v) → (∀ v ∈ l, badV v = false) → ∀ r, ofR l.length (some (l.flatMap encR ++ r)) = (l.map plainW, some r)
  | [], _, _, r => rfl
  | v :: l, h1, h2, r => by
    have hb := h2 v List.mem_cons_self
    have hv : v.1 = 2 → v.2.2.1.length ≤ 1000 := by
      intro h; unfold badV at hb; simp [h] at hb; omega
    show ((rV (some ((v :: l).flatMap encR ++ r))).1 :: (ofR l.length (rV (some ((v :: l).flatMap encR ++ r))).2).1, (ofR l.length (rV (some ((v :: l).flatMap encR ++ r))).2).2) = _
    rw [List.flatMap_cons, List.append_assoc, rV_enc (h1 v List.mem_cons_self) hv]
    simp only
    rw [flat_enc l (fun w hw => h1 w (List.mem_cons_of_mem _ hw)) (fun w hw => h2 w (List.mem_cons_of_mem _ hw)) r]
    rfl
theorem plainW_is (k : Nat) (v : ValW) : ref01_Plain k v = some (plainW v, (plainW v, ())) := by
  rw [ref01_Plain_eq]
  unfold plainW
  by_cases c1 : v.1 = 1
  · rw [bt c1, if_pos c1]
  · rw [bf c1, if_neg c1]
    by_cases c2 : v.1 = 2
    · rw [bt c2, if_pos c2]
    · rw [bf c2, if_neg c2]
theorem same_row (k : Nat) {T : List ValT} (h : T.length ≤ 1000) : ref01_SameRow (k + 2000) T T = some (true, ()) := by
  rw [ref01_SameRow_eq, bif_false (by simp)]
  have := countLoop T.length (fun n (_ : Unit) j => ref01_SameRow_l0 (k + 2000) n T T (T.length : Int) j) id (fun _ => some (true, ())) (fun _ => True) (fun _ _ => trivial)
    (fun n s j _ hj => by
      show ref01_SameRow_l0 (k + 2000) (n + 1) _ _ _ _ = ref01_SameRow_l0 (k + 2000) n _ _ _ _
      have hx := List.getElem?_eq_getElem hj
      rw [ref01_SameRow_l0_eq, bt (by omega), nth_get hx, Option.bind_some, Option.bind_some, bif_false (by simp [Ty.decEq, beqI, beqL]; exact ⟨rfl, rfl⟩), wr_next hj (by omega)])
    (fun n s _ => by
      show ref01_SameRow_l0 (k + 2000) (n + 1) _ _ _ _ = _
      rw [ref01_SameRow_l0_eq, bf (by omega)])
    (k + 2000) () 0 trivial (by omega) (by omega)
  exact this
attribute [local irreducible] bytes_Equal cat_IndexKey cat_Of cat_RowKey cat_Writes cat_Writes_j0 cat_Writes_j1 cat_Writes_j2 cat_Writes_j3 cat_Writes_l0 cat_at cat_change cat_change_j0 cat_change_j1 cat_column cat_whole law02_Few law02_Few_l0 law21_CatBack law21_CatBack_l0 law21_CatBack_l1 law21_Small law21_Small_l0 law21_awake num_Flip num_Put num_Put_l0 num_Zag num_Zig okey_Put okey_Put_j0 okey_Put_j1 okey_Put_j2 okey_Put_l0 okey_Put_l1 ref01_Plain ref01_SameRow ref01_SameRow_l0 row_Of row_Of_l0 row_Put row_Put_l0 row_Read row_Reader_End row_Reader_I row_Reader_N row_Reader_Text row_Reader_Value row_Reader_Value_j0 row_Reader_Value_j1 row_Reader_fail row_Reader_ok row_Writer_Bytes row_Writer_I row_Writer_N row_Writer_N_l0 row_Writer_N_l1 row_Writer_N_l2 row_Writer_Text row_Writer_Value row_Writer_Value_j0 row_Writer_Value_j1 row_number row_number_l0
theorem put_ev {l : List ValT} (hl : ∀ v ∈ l, valOk v) (hlen : l.length ≤ 400) : Ev (fun k => okey_Put k l) ((l.isEmpty, l.flatMap encV), ()) := .from 1500 fun k => okey_Put_is k hl hlen
/-! ### Keys of tables -/
abbrev TabT := Int × ((List Int) × ((List ((List Int) × (Int × (Bool × Unit)))) × (Int × ((List Int) × Unit))))
def wv (n : Int) : ValT := (1, (n, ([], ())))
def zv : ValT := (0, (0, ([], ())))
def I64 (n : Int) : Prop := -9223372036854775808 ≤ n ∧ n ≤ 9223372036854775807
theorem wv_ok {n : Int} (h : I64 n) : valOk (wv n) := ⟨h, by show ([] : List Int).length ≤ 1100; simp⟩
theorem zv_ok : valOk zv := ⟨by constructor <;> decide, by show ([] : List Int).length ≤ 1100; simp⟩
def atV (r : List ValT) (i : Int) : ValT := if i < 0 then zv else (r[i.toNat]?).getD zv
theorem at_is (k : Nat) (r : List ValT) (i : Int) : cat_at k r i = some (atV r i, (atV r i, ())) := by
  rw [cat_at_eq]
  unfold atV
  by_cases c : i < 0
  · rw [bt c, if_pos c]; rfl
  · rw [bf c, if_neg c]
    obtain ⟨j, rfl⟩ := Int.eq_ofNat_of_zero_le (show 0 ≤ i by omega)
    rw [Int.toNat_natCast]
    by_cases d : j < r.length
    · rw [bf (by omega), nth_get (List.getElem?_eq_getElem d), Option.bind_some, List.getElem?_eq_getElem d]; rfl
    · rw [bt (by omega), List.getElem?_eq_none (by omega)]; rfl
theorem atV_ok {r : List ValT} (h : ∀ v ∈ r, valOk v) (i : Int) : valOk (atV r i) := by
  unfold atV
  split
  · exact zv_ok
  · cases e : r[i.toNat]? with
    | none => exact zv_ok
    | some v => exact h v (List.mem_of_getElem? e)
theorem atV_get {r : List ValT} {j : Nat} (h : j < r.length) : atV r (j : Int) = r[j] := by
  unfold atV
  rw [if_neg (by omega), Int.toNat_natCast, List.getElem?_eq_getElem h]; rfl
def trowK (t : TabT) (r : List ValT) : List Int := [wv t.1, wv 0, atV r t.2.2.2.1].flatMap encV
theorem rowkeyN_ev {t : TabT} (ht : I64 t.1) {r : List ValT} (hr : ∀ v ∈ r, valOk v) : Ev (fun k => cat_RowKey k t r) ((false, trowK t r), ()) := by
  simp only [cat_RowKey_eq, cat_whole_eq, at_is, Option.bind_some]
  refine .bind (F := fun k => okey_Put k [wv t.1, wv 0, atV r t.2.2.2.1]) (put_ev (by
    intro v hv
    simp only [List.mem_cons, List.not_mem_nil, or_false] at hv
    rcases hv with rfl | rfl | rfl
    · exact wv_ok ht
    · exact wv_ok (by constructor <;> decide)
    · exact atV_ok hr _) (by simp)) .ret
def idxV (t : TabT) (i : Int) : Option Int := if i < 0 then none else t.2.2.2.2.1[i.toNat]?
theorem column_is (k : Nat) (t : TabT) (i : Int) : cat_column k t i = some (((idxV t i).getD 0, ((idxV t i).isSome, ())), ()) := by
  rw [cat_column_eq]
  unfold idxV
  by_cases c : i < 0
  · rw [bt c, if_pos c]; rfl
  · rw [bf c, if_neg c]
    obtain ⟨j, rfl⟩ := Int.eq_ofNat_of_zero_le (show 0 ≤ i by omega)
    rw [Int.toNat_natCast]
    by_cases d : j < t.2.2.2.2.1.length
    · rw [bf (by omega), nth_get (List.getElem?_eq_getElem d), Option.bind_some, List.getElem?_eq_getElem d]; rfl
    · rw [bt (by omega), List.getElem?_eq_none (by omega)]; rfl
def tidxK (t : TabT) (i : Int) (r : List ValT) : List Int := match idxV t i with
  | none => []
  | some c => [wv t.1, wv (i + 1), atV r c, atV r t.2.2.2.1].flatMap encV
theorem idx_lt {t : TabT} {i c : Int} (h : idxV t i = some c) : 0 ≤ i ∧ i < t.2.2.2.2.1.length := by
  unfold idxV at h
  split at h
  · cases h
  · have := (List.getElem?_eq_some_iff.1 h).1
    omega
theorem idxkeyN_ev {t : TabT} (ht : I64 t.1) (hl : t.2.2.2.2.1.length ≤ 1000) {r : List ValT} (hr : ∀ v ∈ r, valOk v) (i : Int) : Ev (fun k => cat_IndexKey k t i r) (((idxV t i).isNone, tidxK t i r), ()) := by
  simp only [cat_IndexKey_eq]
  have hc : ∀ k, cat_column k (t.1, (t.2.1, (t.2.2.1, (t.2.2.2.1, (t.2.2.2.2.1, ()))))) i = some (((idxV t i).getD 0, ((idxV t i).isSome, ())), ()) := fun k => column_is k t i
  simp only [hc, Option.bind_some]
  unfold tidxK
  cases hi : idxV t i with
  | none => exact .ret
  | some c =>
    have hlt := idx_lt hi
    simp only [Option.isSome_some, Bool.not_true, cond_false, Option.getD_some, cat_whole_eq, at_is, Option.bind_some]
    rw [wr_i64 (by omega)]
    refine .bind (F := fun k => okey_Put k [wv t.1, wv (i + 1), atV r c, atV r t.2.2.2.1]) (put_ev (by
      intro v hv
      simp only [List.mem_cons, List.not_mem_nil, or_false] at hv
      rcases hv with rfl | rfl | rfl | rfl
      · exact wv_ok ht
      · exact wv_ok ⟨by omega, by omega⟩
      · exact atV_ok hr _
      · exact atV_ok hr _) (by simp)) .ret
def smallB (t : TabT) (r : List ((List Int) × (Int × (Bool × Unit)))) : Bool := r.all (fun c => decide (c.1.length ≤ 100)) && (decide (t.2.2.1.length ≤ 14) && (decide (t.2.2.2.2.1.length ≤ 6) && decide (t.2.1.length ≤ 100)))
theorem small_l0 (k : Nat) {t : TabT} (hm : t.2.2.1.length ≤ 9223372036854775807) : ∀ n j, j ≤ t.2.2.1.length → t.2.2.1.length - j < n → law21_Small_l0 k n t.2.2.1 (t.2.2.1.length : Int) (j : Int) t.1 t.2.1 t.2.2.1 t.2.2.2.1 t.2.2.2.2.1 = some (smallB t (t.2.2.1.drop j), ())
  | 0, _, _, h => absurd h (Nat.not_lt_zero _)
  | n + 1, j, hj, hn => by
    rw [law21_Small_l0_eq]
    by_cases c : j < t.2.2.1.length
    · have hx := List.getElem?_eq_getElem c
      rw [bt (by omega), nth_get hx, Option.bind_some, List.drop_eq_getElem_cons c]
      by_cases c1 : 100 < (t.2.2.1[j].1.length : Int)
      · rw [bt c1, show smallB t (t.2.2.1[j] :: t.2.2.1.drop (j + 1)) = false from by unfold smallB; rw [List.all_cons, dF (by omega)]; rfl]
      rw [bf c1, wr_i64 (by omega)]
      refine (small_l0 k hm n (j + 1) c (by omega)).trans ?_
      rw [show smallB t (t.2.2.1[j] :: t.2.2.1.drop (j + 1)) = smallB t (t.2.2.1.drop (j + 1)) from by unfold smallB; rw [List.all_cons, dT (p := t.2.2.1[j].1.length ≤ 100) (by omega)]; rfl]
    · have : j = t.2.2.1.length := by omega
      subst this
      rw [bf (by omega), List.drop_length]
      unfold smallB
      by_cases h1 : t.2.2.1.length ≤ 14
      · rw [bt (by omega), dT h1]
        by_cases h2 : t.2.2.2.2.1.length ≤ 6
        · rw [bt (by omega), dT h2]
          by_cases h3 : t.2.1.length ≤ 100
          · rw [dT (p := ((t.2.1.length : Int) ≤ 100)) (by omega), dT h3]; rfl
          · rw [dF (p := ((t.2.1.length : Int) ≤ 100)) (by omega), dF h3]; rfl
        · rw [bf (by omega), dF h2]; rfl
      · rw [bf (by omega), dF h1]; rfl
theorem small_ev {t : TabT} (hm : t.2.2.1.length ≤ 9223372036854775807) : Ev (fun k => law21_Small k t) (smallB t t.2.2.1, ()) := by
  refine ⟨t.2.2.1.length + 1, fun k hk => ?_⟩
  show law21_Small k t = _
  rw [law21_Small_eq]
  exact small_l0 k hm k 0 (by omega) (by omega)
theorem small_of {t : TabT} (h : smallB t t.2.2.1 = true) : t.2.2.1.length ≤ 14 ∧ t.2.2.2.2.1.length ≤ 6 ∧ t.2.1.length ≤ 100 ∧ ∀ c ∈ t.2.2.1, c.1.length ≤ 100 := by
  unfold smallB at h
  simp only [Bool.and_eq_true, List.all_eq_true, decide_eq_true_eq] at h
  exact ⟨h.2.1, h.2.2.1, h.2.2.2, h.1⟩
theorem awake21_ev : Ev (fun k => law21_awake k) (true, ()) := by
  simp only [law21_awake_eq]
  refine .bind (F := fun k => cat_RowKey k ((1 : Int), ([], ([], ((0 : Int), ([], ()))))) [((1 : Int), ((5 : Int), ([], ())))]) (rowkeyN_ev (t := ((1 : Int), ([], ([], ((0 : Int), ([], ())))))) (by constructor <;> decide) (by
    intro v hv
    simp only [List.mem_cons, List.not_mem_nil, or_false] at hv
    subst hv
    exact ⟨by constructor <;> decide, by simp⟩)) ?_
  exact ⟨0, fun k _ => by simp only []; decide +kernel⟩
abbrev WrT := (List Int) × (Bool × ((List Int) × Unit))
def chM (wn : Bool) (w : List Int) (nn : Bool) (n val : List Int) (al : Bool) : List WrT :=
  (if wn = false ∧ ¬ w = n then [(w, (true, ([], ())))] else []) ++ (if nn = false ∧ (al = true ∨ ¬ (wn = false ∧ w = n)) then [(n, (false, (val, ())))] else [])
theorem chM_len (wn : Bool) (w : List Int) (nn : Bool) (n val : List Int) (al : Bool) : (chM wn w nn n val al).length ≤ 2 := by
  unfold chM
  split <;> split <;> simp
theorem change_is (k : Nat) (wn : Bool) (w : List Int) (nn : Bool) (n val : List Int) (al : Bool) : cat_change (k + 1) wn w nn n val al = some (chM wn w nn n val al, ()) := by
  have l1 : ∀ {α : Type} (x : Option α) (a : WrT), lim (0 + [a].length) x = x := fun x a => lim_ok (by simp)
  have l2 : ∀ {α : Type} (x : Option α) (a : WrT), lim (([] : List WrT).length + [a].length) x = x := fun x a => lim_ok (by simp)
  have l3 : ∀ {α : Type} (x : Option α) (a b : WrT), lim ([b].length + [a].length) x = x := fun x a b => lim_ok (by simp)
  rw [cat_change_eq]
  unfold chM
  have hq : ∀ h : w = n, beqL w n = true := fun h => dT h
  have hq' : ∀ h : ¬ w = n, beqL w n = false := fun h => dF h
  by_cases h : w = n
  · have e := hq h
    cases wn <;> cases nn <;> cases al <;> simp only [bytes_Equal_eq, Option.bind_some, Bool.not_false, Bool.not_true, cond_true, cond_false, l1, cat_change_j0_eq, cat_change_j1_eq, List.nil_append, l2, l3, e] <;> simp [h]
  · have e := hq' h
    cases wn <;> cases nn <;> cases al <;> simp only [bytes_Equal_eq, Option.bind_some, Bool.not_false, Bool.not_true, cond_true, cond_false, l1, cat_change_j0_eq, cat_change_j1_eq, List.nil_append, l2, l3, e] <;> simp [h]
def kp (t : TabT) (r : List ValT) (i : Nat) : Bool × List Int := if 0 < r.length then (false, tidxK t (i : Int) r) else (true, [])
def wl (t : TabT) (was now : List ValT) : Nat → Nat → List WrT
  | 0, _ => []
  | d + 1, i => chM (kp t was i).1 (kp t was i).2 (kp t now i).1 (kp t now i).2 [] false ++ wl t was now d (i + 1)
theorem kp_ev {t : TabT} (ht : I64 t.1) (hl : t.2.2.2.2.1.length ≤ 1000) {r : List ValT} (hr : ∀ v ∈ r, valOk v) {i : Nat} (hi : i < t.2.2.2.2.1.length) (h : 0 < r.length) : Ev (fun k => cat_IndexKey k t (i : Int) r) (kp t r i, ()) := by
  have := idxkeyN_ev ht hl hr (i : Int)
  have e : idxV t (i : Int) = some t.2.2.2.2.1[i] := by unfold idxV; rw [if_neg (by omega), Int.toNat_natCast, List.getElem?_eq_getElem hi]
  rw [e] at this
  unfold kp
  rw [if_pos h]
  exact this
theorem wr_l0 {t : TabT} (ht : I64 t.1) (hl : t.2.2.2.2.1.length ≤ 6) {was now : List ValT} (hw : ∀ v ∈ was, valOk v) (hn : ∀ v ∈ now, valOk v) : ∀ d i (out : List WrT), i + d = t.2.2.2.2.1.length → out.length ≤ 2 + 2 * i →
    Ev2 (fun k n => cat_Writes_l0 k n was now out (t.2.2.2.2.1.length : Int) (i : Int) t.1 t.2.1 t.2.2.1 t.2.2.2.1 t.2.2.2.2.1) (out ++ wl t was now d i, ()) := by
  intro d
  induction d with
  | zero =>
    intro i out hi ho
    refine .up ?_
    simp only [cat_Writes_l0_eq, bf (show ¬ ((i : Int) < (t.2.2.2.2.1.length : Int)) by omega)]
    show Ev2 _ (out ++ [], ())
    rw [List.append_nil]; exact .ret
  | succ d ih =>
    intro i out hi ho
    have hlt : i < t.2.2.2.2.1.length := by omega
    refine .up ?_
    simp only [cat_Writes_l0_eq, bt (show ((i : Int) < (t.2.2.2.2.1.length : Int)) by omega)]
    have tail : ∀ (a b : Bool × List Int), a = kp t was i → b = kp t now i → Ev2 (fun k n => cat_Writes_j3 k n was now out a.1 a.2 b.1 b.2 (t.2.2.2.2.1.length : Int) (i : Int) t.1 t.2.1 t.2.2.1 t.2.2.2.1 t.2.2.2.2.1) (out ++ wl t was now (d + 1) i, ()) := by
      intro a b ha hb
      refine .upk ?_
      simp only [cat_Writes_j3_eq, change_is, Option.bind_some]
      have hcl := chM_len a.1 a.2 b.1 b.2 [] false
      have hlim : ∀ {α : Type} (x : Option α), lim (out.length + (chM a.1 a.2 b.1 b.2 [] false).length) x = x := fun x => lim_ok (by omega)
      simp only [hlim]
      rw [wr_i64 (by omega)]
      have := ih (i + 1) (out ++ chM a.1 a.2 b.1 b.2 [] false) (by omega) (by rw [List.length_append]; omega)
      rw [List.append_assoc, ha, hb] at this
      rw [ha, hb]
      obtain ⟨K, hK⟩ := this
      exact ⟨K, fun k n hk hn' => hK (k + 1) n (by omega) hn'⟩
    have mid : ∀ (a : Bool × List Int), a = kp t was i → Ev2 (fun k n => cat_Writes_j2 k n was now out (i : Int) a.1 a.2 true [] (t.2.2.2.2.1.length : Int) (i : Int) t.1 t.2.1 t.2.2.1 t.2.2.2.1 t.2.2.2.2.1) (out ++ wl t was now (d + 1) i, ()) := by
      intro a ha
      refine .upk ?_
      simp only [cat_Writes_j2_eq]
      by_cases c : 0 < now.length
      · simp only [bt (show (0 : Int) < (now.length : Int) by omega)]
        obtain ⟨K, hK⟩ := kp_ev ht (by omega) hn hlt c
        refine .bind (F := fun k (_ : Nat) => cat_IndexKey (k + 1) t (i : Int) now) ⟨K, fun k n hk hn' => hK (k + 1) (by omega)⟩ ?_
        obtain ⟨L, hL⟩ := tail a (kp t now i) ha rfl
        exact ⟨L, fun k n hk hn' => hL (k + 1) n (by omega) hn'⟩
      · simp only [bf (show ¬ (0 : Int) < (now.length : Int) by omega)]
        obtain ⟨L, hL⟩ := tail a (true, []) ha (by unfold kp; rw [if_neg c])
        exact ⟨L, fun k n hk hn' => hL (k + 1) n (by omega) hn'⟩
    by_cases c : 0 < was.length
    · simp only [bt (show (0 : Int) < (was.length : Int) by omega)]
      exact .bind (F := fun k (_ : Nat) => cat_IndexKey k t (i : Int) was) (kp_ev ht (by omega) hw hlt c).e2 (mid (kp t was i) rfl)
    · simp only [bf (show ¬ (0 : Int) < (was.length : Int) by omega)]
      exact mid (true, []) (by unfold kp; rw [if_neg c])
def rp (t : TabT) (r : List ValT) : Bool × List Int := if 0 < r.length then (false, trowK t r) else (true, [])
noncomputable def wM (t : TabT) (was now : List ValT) : List WrT :=
  chM (rp t was).1 (rp t was).2 (rp t now).1 (rp t now).2 (if 0 < now.length then (putRow now).1.1 else []) true ++ wl t was now t.2.2.2.2.1.length 0
theorem writes_ev {t : TabT} (ht : I64 t.1) (hl : t.2.2.2.2.1.length ≤ 6) {was now : List ValT} (hw : ∀ v ∈ was, valOk v) (hn : ∀ v ∈ now, valOk v) (hnl : now.length ≤ 40) : Ev (fun k => cat_Writes k t was now) (wM t was now, ()) := by
  have j1 : ∀ (a b : Bool × List Int) (val : List Int), a = rp t was → b = rp t now → val = (if 0 < now.length then (putRow now).1.1 else []) → Ev (fun k => cat_Writes_j1 k was now a.1 a.2 b.1 b.2 val t.1 t.2.1 t.2.2.1 t.2.2.2.1 t.2.2.2.2.1) (wM t was now, ()) := by
    intro a b val ha hb hv
    refine .up ?_
    simp only [cat_Writes_j1_eq, change_is, Option.bind_some]
    have hcl := chM_len a.1 a.2 b.1 b.2 val true
    have := (wr_l0 ht hl hw hn t.2.2.2.2.1.length 0 (chM a.1 a.2 b.1 b.2 val true) (by omega) (by omega)).dg
    obtain ⟨K, hK⟩ := this
    refine ⟨K, fun k hk => (hK (k + 1) (by omega)).trans ?_⟩
    rw [ha, hb, hv]; rfl
  have j0 : ∀ (a : Bool × List Int), a = rp t was → Ev (fun k => cat_Writes_j0 k was now a.1 a.2 true [] true [] t.1 t.2.1 t.2.2.1 t.2.2.2.1 t.2.2.2.2.1) (wM t was now, ()) := by
    intro a ha
    refine .up ?_
    simp only [cat_Writes_j0_eq]
    by_cases c : 0 < now.length
    · simp only [bt (show (0 : Int) < (now.length : Int) by omega)]
      obtain ⟨K, hK⟩ := rowkeyN_ev ht hn
      refine .bind (F := fun k => cat_RowKey (k + 1) t now) ⟨K, fun k hk => hK (k + 1) (by omega)⟩ ?_
      refine .bind (F := fun k => row_Put (k + 1) now) ⟨100, fun k hk => by
        obtain ⟨m, hm⟩ : ∃ m, k + 1 = m + 100 := ⟨k + 1 - 100, by omega⟩
        show row_Put (k + 1) now = _
        rw [hm]; exact rowPut_is m (fun v hv => (hn v hv).1) hnl⟩ ?_
      obtain ⟨L, hL⟩ := j1 a (false, trowK t now) (putRow now).1.1 ha (by unfold rp; rw [if_pos c]) (by rw [if_pos c])
      exact ⟨L, fun k hk => hL (k + 1) (by omega)⟩
    · simp only [bf (show ¬ (0 : Int) < (now.length : Int) by omega)]
      obtain ⟨L, hL⟩ := j1 a (true, []) [] ha (by unfold rp; rw [if_neg c]) (by rw [if_neg c])
      exact ⟨L, fun k hk => hL (k + 1) (by omega)⟩
  simp only [cat_Writes_eq]
  by_cases c : 0 < was.length
  · simp only [bt (show (0 : Int) < (was.length : Int) by omega)]
    exact .bind (F := fun k => cat_RowKey k t was) (rowkeyN_ev ht hw) (j0 (false, trowK t was) (by unfold rp; rw [if_pos c]))
  · simp only [bf (show ¬ (0 : Int) < (was.length : Int) by omega)]
    exact j0 (true, []) (by unfold rp; rw [if_neg c])
theorem flat_ne {v : ValT} {l : List ValT} : (v :: l).flatMap encV ≠ [] := by
  rw [List.flatMap_cons]
  intro h
  have := (List.append_eq_nil_iff.1 h).1
  revert this
  unfold encV
  split
  · simp
  · split <;> simp
theorem trowK_ne (t : TabT) (r : List ValT) : trowK t r ≠ [] := flat_ne
theorem tidxK_ne {t : TabT} {i : Nat} (hi : i < t.2.2.2.2.1.length) (r : List ValT) : tidxK t (i : Int) r ≠ [] := by
  have e : idxV t (i : Int) = some t.2.2.2.2.1[i] := by unfold idxV; rw [if_neg (by omega), Int.toNat_natCast, List.getElem?_eq_getElem hi]
  unfold tidxK
  rw [e]
  exact flat_ne
theorem rI_rng {st : Option (List Int)} (h : Fine st) : I64 (rI st).1 := by
  have hb := (rN_fine (most := 18446744073709551615) h).2.1
  unfold rI zagF I64
  generalize (rN 18446744073709551615 st).1 = u at *
  show -9223372036854775808 ≤ (if u % 2 = 0 then u / 2 else -1 - u / 2) ∧ (if u % 2 = 0 then u / 2 else -1 - u / 2) ≤ 9223372036854775807
  split <;> omega
theorem rT_rng {st : Option (List Int)} (h : Fine st) : (rT 1000 st).1.length ≤ 1000 := by
  have hb := (rN_fine (most := 1000) h).2.2 (by omega)
  unfold rT
  rw [if_neg (by decide)]
  cases (rN 1000 st).2 with
  | none => simp
  | some r =>
    simp only
    split
    · simp
    · simp; omega
theorem vOf_val {kd n : Int} {s : List Int} (st : Option (List Int)) (hn : I64 n) (hs : s.length ≤ 1100) : valOk (vOf kd n s st).1 := by
  cases st with
  | none => exact zv_ok
  | some f => exact ⟨hn, hs⟩
theorem rV_val {st : Option (List Int)} (h : Fine st) : valOk (rV st).1 := by
  have h2 := (rN_fine (most := 2) h).1
  have z : I64 0 := by constructor <;> decide
  unfold rV
  split
  · exact vOf_val _ (rI_rng h2) (by simp)
  · split
    · exact vOf_val _ z (by have := rT_rng h2; omega)
    · exact vOf_val _ z (by simp)
theorem ofR_val : ∀ n {st}, Fine st → ∀ v ∈ (ofR n st).1, valOk v
  | 0, _, _, v, hv => by cases hv
  | n + 1, st, h, v, hv => by
    rcases List.mem_cons.1 (show v ∈ (rV st).1 :: (ofR n (rV st).2).1 from hv) with rfl | hv
    · exact rV_val h
    · exact ofR_val n (rV_fine h) v hv
theorem ofRow_val {b : List Int} (hb : Byt b) (hl : b.length ≤ 1000000000) : (∀ v ∈ (ofRow b).1.1, valOk v) ∧ (ofRow b).1.1.length ≤ 32 := by
  have hf : Fine (some b) := fun f h => by injection h with h; subst h; exact ⟨hb, hl⟩
  have hn := rN_fine (most := 32) hf
  have h3 := hn.2.2 (by omega)
  unfold ofRow
  generalize rN 32 (some b) = q at *
  obtain ⟨u, st⟩ := q
  unfold resR
  split
  · refine ⟨ofR_val _ hn.1, ?_⟩
    show (ofR u.toNat st).1.length ≤ 32
    rw [ofR_len]
    have h3 : u ≤ 32 := h3
    omega
  · exact ⟨fun v hv => (nomatch hv), Nat.zero_le _⟩
noncomputable def ofM (t : TabT) (key : List Int) (o : (List ValW × (Int × Unit)) × Unit) : List ValW × (Int × Unit) :=
  if o.1.2.1 = 0 ∧ o.1.1.length = t.2.2.1.length ∧ trowK t o.1.1 = key then (o.1.1, ((0 : Int), ())) else ([], ((210 : Int), ()))
theorem of_evC {t : TabT} (ht : I64 t.1) {key b : List Int} (hb : Byt b) (hl : b.length ≤ 1000000000) : Ev (fun k => cat_Of k t (key, (b, ()))) (ofM t key (ofRow b), ()) := by
  obtain ⟨hv, _⟩ := ofRow_val hb hl
  simp only [cat_Of_eq]
  refine .bind (F := fun k => row_Of k b) (.from 50 fun k => rowOf_is k hb hl) ?_
  generalize ofRow b = o at *
  unfold ofM
  by_cases c1 : o.1.2.1 = 0
  · by_cases c2 : o.1.1.length = t.2.2.1.length
    · simp only [dT c1, dT (show (o.1.1.length : Int) = (t.2.2.1.length : Int) by omega), Bool.not_true, cond_false]
      refine .bind (F := fun k => cat_RowKey k t o.1.1) (rowkeyN_ev ht hv) ?_
      simp only [bytes_Equal_eq, Option.bind_some]
      by_cases c3 : trowK t o.1.1 = key
      · simp only [show beqL (trowK t o.1.1) key = true from dT c3, Bool.not_true, cond_false]
        rw [if_pos ⟨c1, c2, c3⟩]; exact .ret
      · simp only [show beqL (trowK t o.1.1) key = false from dF c3, Bool.not_false, cond_true]
        rw [if_neg (fun h => c3 h.2.2)]; exact .ret
    · simp only [dT c1, dF (show ¬ (o.1.1.length : Int) = (t.2.2.1.length : Int) by omega), Bool.not_true, Bool.not_false, cond_false, cond_true]
      rw [if_neg (fun h => c2 h.2.1)]; exact .ret
  · simp only [dF c1, Bool.not_false, cond_true]
    rw [if_neg (fun h => c1 h.1)]; exact .ret
theorem decEqV (x y : ValT) : Ty.decEq (.st (.pair (.int .i64) (.pair (.int .i64) (.pair .str .unit)))) x y = decide (x = y) := by
  obtain ⟨a, b, c, ⟨⟩⟩ := x
  obtain ⟨d, e, f, ⟨⟩⟩ := y
  show (beqI a d && (beqI b e && (beqL c f && true))) = _
  unfold beqI beqL
  by_cases h1 : a = d <;> by_cases h2 : b = e <;> by_cases h3 : c = f <;> simp [h1, h2, h3]
def ks (t : TabT) (r : List ValT) : Nat → Nat → List (List Int)
  | 0, _ => []
  | d + 1, i => tidxK t (i : Int) r :: ks t r d (i + 1)
theorem wl_new {t : TabT} {r : List ValT} (h : 0 < r.length) : ∀ d i, wl t [] r d i = (ks t r d i).map fun k => (k, (false, ([], ())))
  | 0, _ => rfl
  | d + 1, i => by
    have e1 : kp t [] i = (true, []) := rfl
    have e2 : kp t r i = (false, tidxK t (i : Int) r) := if_pos h
    show chM (kp t [] i).1 (kp t [] i).2 (kp t r i).1 (kp t r i).2 [] false ++ wl t [] r d (i + 1) = _
    rw [e1, e2, wl_new h d (i + 1)]
    rfl
theorem wl_gone {t : TabT} {r : List ValT} (h : 0 < r.length) : ∀ d i, i + d ≤ t.2.2.2.2.1.length → wl t r [] d i = (ks t r d i).map fun k => (k, (true, ([], ())))
  | 0, _, _ => rfl
  | d + 1, i, hi => by
    have e1 : kp t [] i = (true, []) := rfl
    have e2 : kp t r i = (false, tidxK t (i : Int) r) := if_pos h
    have hne := tidxK_ne (t := t) (i := i) (by omega) r
    show chM (kp t r i).1 (kp t r i).2 (kp t [] i).1 (kp t [] i).2 [] false ++ wl t r [] d (i + 1) = _
    rw [e1, e2, wl_gone h d (i + 1) (by omega)]
    have hc : chM false (tidxK t (i : Int) r) true [] [] false = [(tidxK t (i : Int) r, (true, ([], ())))] := by unfold chM; simp [hne]
    show chM false (tidxK t (i : Int) r) true [] [] false ++ _ = _
    rw [hc]; rfl
theorem ks_len (t : TabT) (r : List ValT) : ∀ d i, (ks t r d i).length = d
  | 0, _ => rfl
  | d + 1, i => congrArg (· + 1) (ks_len t r d (i + 1))
theorem wM_new {t : TabT} {r : List ValT} (h : 0 < r.length) : wM t [] r = (trowK t r, (false, ((putRow r).1.1, ()))) :: (ks t r t.2.2.2.2.1.length 0).map fun k => (k, (false, ([], ()))) := by
  unfold wM
  have e1 : rp t [] = (true, []) := rfl
  have e2 : rp t r = (false, trowK t r) := if_pos h
  rw [e1, e2, if_pos h, wl_new h]; rfl
theorem wM_gone {t : TabT} {r : List ValT} (h : 0 < r.length) : wM t r [] = (trowK t r, (true, ([], ()))) :: (ks t r t.2.2.2.2.1.length 0).map fun k => (k, (true, ([], ()))) := by
  unfold wM
  have e1 : rp t [] = (true, []) := rfl
  have e2 : rp t r = (false, trowK t r) := if_pos h
  have hc : chM false (trowK t r) true [] [] true = [(trowK t r, (true, ([], ())))] := by unfold chM; simp [trowK_ne t r]
  rw [e1, e2, wl_gone h _ _ (by omega)]
  show chM false (trowK t r) true [] [] true ++ _ = _
  rw [hc]; rfl
theorem back_l1 (k : Nat) {W G : List WrT} (hl : W.length ≤ 1000) (he : G.length = W.length) (hd : ∀ j (h : j < G.length), G[j].2.1 = true) (hk : ∀ j (h : j < G.length) (h' : j < W.length), G[j].1 = W[j].1) : ∀ n j, j ≤ G.length → G.length - j < n → law21_CatBack_l1 k n W G (G.length : Int) (j : Int) = some (true, ())
  | 0, _, _, h => absurd h (Nat.not_lt_zero _)
  | n + 1, j, hj, hn => by
    rw [law21_CatBack_l1_eq]
    by_cases c : j < G.length
    · have h1 := hd j c
      have h2 := hk j c (by omega)
      rw [bt (by omega)]
      simp only [nth_get (List.getElem?_eq_getElem c), nth_get (List.getElem?_eq_getElem (show j < W.length by omega)), Option.bind_some, h1, h2, show ∀ x, beqL x x = true from fun x => dT rfl, Bool.not_true, cond_false]
      rw [wr_i64 (by omega)]
      exact back_l1 k hl he hd hk n (j + 1) (by omega) (by omega)
    · rw [bf (by omega), dT (by omega)]
theorem map_at {α β : Type} {l : List α} {f : α → β} {j : Nat} (h : j < (l.map f).length) (h' : j < l.length) : (l.map f)[j] = f l[j] := List.getElem_map ..
theorem row_back {r : List ValW} (hn : ∀ v ∈ r, vnOk v) (hp : ∀ v ∈ r, v = plainW v ∧ 0 ≤ v.1 ∧ v.1 ≤ 2) (ht : ∀ v ∈ r, Byt v.2.2.1 ∧ v.2.2.1.length ≤ 100) (hl : r.length ≤ 32) :
    putRow r = ((encN r.length ++ r.flatMap encR, ((0 : Int), ())), ()) ∧ ofRow (encN r.length ++ r.flatMap encR) = ((r, ((0 : Int), ())), ()) ∧ Byt (encN r.length ++ r.flatMap encR) ∧ (encN r.length ++ r.flatMap encR).length ≤ 1000000 := by
  have hnb : ∀ v ∈ r, badV v = false := by
    intro v hv
    obtain ⟨_, h1, h2⟩ := hp v hv
    have h3 := (ht v hv).2
    have n1 : ¬ v.1 < 0 := by omega
    have n2 : ¬ 2 < v.1 := by omega
    have n3 : ¬ 1000 < v.2.2.1.length := by omega
    unfold badV
    simp [n1, n2, n3]
  have hany : r.any badV = false := by
    rw [List.any_eq_false]; intro v hv; rw [hnb v hv]; decide
  have hmap : r.map plainW = r := by
    have : ∀ l : List ValW, (∀ v ∈ l, v = plainW v) → l.map plainW = l := by
      intro l
      induction l with
      | nil => intro _; rfl
      | cons v l ih => intro h; rw [List.map_cons, ih fun w hw => h w (List.mem_cons_of_mem _ hw), ← h v List.mem_cons_self]
    exact this r fun v hv => (hp v hv).1
  refine ⟨?_, ?_, ?_, ?_⟩
  · unfold putRow; rw [if_neg (by omega), hany]; rfl
  · unfold ofRow
    rw [rN_enc (u := r.length) (by omega) (by omega)]
    simp only [Int.toNat_natCast]
    have := flat_enc r hn hnb []
    rw [List.append_nil, hmap] at this
    rw [this]; rfl
  · intro x hx
    rcases List.mem_append.1 hx with g | g
    · exact encN_byt _ x g
    · obtain ⟨v, hv, g⟩ := List.mem_flatMap.1 g
      exact encR_byt (ht v hv).1 x g
  · have hlen : ∀ m : List ValW, (∀ v ∈ m, (encR v).length ≤ 120) → (m.flatMap encR).length ≤ 120 * m.length := by
      intro m
      induction m with
      | nil => intro _; simp
      | cons v m ih =>
        intro hm
        have h1 := hm v List.mem_cons_self
        have h2 := ih fun w hw => hm w (List.mem_cons_of_mem _ hw)
        rw [List.flatMap_cons, List.length_append, List.length_cons]; omega
    have h1 := hlen r fun v hv => by have := encR_len (hn v hv) (by have := (ht v hv).2; omega); have := (ht v hv).2; omega
    have h2 := (encN_length (u := r.length) (by omega)).1
    rw [List.length_append]; omega
theorem back_l0 {t : TabT} (t1 : I64 t.1) (s2 : t.2.2.2.2.1.length ≤ 6) {r : List ValT} (hv : ∀ v ∈ r, valOk v) (hn : ∀ v ∈ r, vnOk v) (ht : ∀ v ∈ r, Byt v.2.2.1 ∧ v.2.2.1.length ≤ 100) (h0 : 0 < r.length) (hl : r.length ≤ 32) (hc : r.length = t.2.2.1.length) : ∀ d j, j + d = r.length → (∀ i (h : i < r.length), i < j → r[i] = plainW r[i] ∧ 0 ≤ r[i].1 ∧ r[i].1 ≤ 2) →
    Ev2 (fun k n => law21_CatBack_l0 k n r r (r.length : Int) (j : Int) t.1 t.2.1 t.2.2.1 t.2.2.2.1 t.2.2.2.2.1) (true, ()) := by
  intro d
  induction d with
  | zero =>
    intro j hj hp
    refine .up ?_
    simp only [law21_CatBack_l0_eq, bf (show ¬ ((j : Int) < (r.length : Int)) by omega)]
    have hp' : ∀ v ∈ r, v = plainW v ∧ 0 ≤ v.1 ∧ v.1 ≤ 2 := by
      intro v hv
      obtain ⟨i, hi, rfl⟩ := List.getElem_of_mem hv
      exact hp i hi (by omega)
    obtain ⟨p1, p2, p3, p4⟩ := row_back hn hp' ht hl
    have wn := writes_ev (was := []) (now := r) t1 s2 (fun v hv => (nomatch hv)) hv (by omega)
    have wg := writes_ev (was := r) (now := []) t1 s2 hv (fun v hv => (nomatch hv)) (by simp)
    rw [wM_new h0, p1] at wn
    rw [wM_gone h0] at wg
    have hk := ks_len t r t.2.2.2.2.1.length 0
    refine Ev.e2 (F := fun k => _) ?_
    refine .bind (F := fun k => cat_Writes k t [] r) wn ?_
    have e1 : wr .i64 (1 + (t.2.2.2.2.1.length : Int)) = 1 + (t.2.2.2.2.1.length : Int) := wr_i64 (by omega)
    have e2 : (((trowK t r, (false, (encN r.length ++ r.flatMap encR, ()))) :: (ks t r t.2.2.2.2.1.length 0).map fun k => ((k, (false, ([], ()))) : WrT)).length : Int) = 1 + (t.2.2.2.2.1.length : Int) := by
      rw [List.length_cons, List.length_map, hk]; omega
    have e3 : ∀ (a : WrT) (l : List WrT), nth (a :: l) 0 = some a := fun a l => rfl
    simp only [e1, e2, dT, Bool.not_true, cond_false, e3, Option.bind_some]
    refine .bind (F := fun k => cat_Of k t (trowK t r, (encN r.length ++ r.flatMap encR, ()))) (of_evC t1 p3 (by omega)) ?_
    rw [p2]
    have e4 : ofM t (trowK t r) ((r, ((0 : Int), ())), ()) = (r, ((0 : Int), ())) := if_pos ⟨rfl, hc, rfl⟩
    rw [e4]
    simp only [dT, Bool.not_true, cond_false]
    refine .bind (r := (true, ())) (.from 2000 fun k => same_row k (by omega)) ?_
    simp only [Bool.not_true, cond_false]
    refine .bind (F := fun k => cat_Writes k t r []) wg ?_
    refine ⟨100, fun k hk' => ?_⟩
    refine back_l1 k (by rw [List.length_cons, List.length_map, hk]; omega) (by simp) ?_ ?_ k 0 (by omega) (by rw [List.length_cons, List.length_map, hk]; omega)
    · intro j h
      cases j with
      | zero => rfl
      | succ j => simp
    · intro j h h'
      cases j with
      | zero => rfl
      | succ j => simp
  | succ d ih =>
    intro j hj hp
    have c : j < r.length := by omega
    refine .up ?_
    simp only [law21_CatBack_l0_eq, bt (show ((j : Int) < (r.length : Int)) by omega), nth_get (List.getElem?_eq_getElem c), Option.bind_some]
    have hpl : ∀ k, ref01_Plain k (r[j].1, (r[j].2.1, (r[j].2.2.1, ()))) = some (plainW r[j], (plainW r[j], ())) := fun k => plainW_is k r[j]
    simp only [hpl, Option.bind_some]
    have hde := decEqV r[j] (plainW r[j])
    have hdd : Ty.decEq (.st (.pair (.int .i64) (.pair (.int .i64) (.pair .str .unit)))) (r[j].1, (r[j].2.1, (r[j].2.2.1, ()))) (plainW r[j]) = decide (r[j] = plainW r[j]) := hde
    by_cases c1 : r[j] = plainW r[j]
    · rw [dT c1] at hdd
      simp only [hdd, Bool.not_true, cond_false]
      by_cases c2 : r[j].1 < 0
      · simp only [bt c2]; exact .ret
      by_cases c3 : 2 < r[j].1
      · simp only [bf c2, bt c3]; exact .ret
      simp only [bf c2, bf c3]
      rw [wr_i64 (by omega)]
      refine ih (j + 1) (by omega) fun i h hi => ?_
      by_cases hij : i < j
      · exact hp i h hij
      · have : i = j := by omega
        subst this
        exact ⟨c1, by omega, by omega⟩
    · rw [dF c1] at hdd
      simp only [hdd, Bool.not_false, cond_true]; exact .ret
theorem CatBack_true (t : TabT) (r : List ValT) (hT : wfD (.st (.pair (.int .i64) (.pair .str (.pair (.sl (.st (.pair .str (.pair (.int .i64) (.pair .bool .unit))))) (.pair (.int .i64) (.pair (.sl (.int .i64)) .unit)))))) t) (h : wfD (.sl (.st (.pair (.int .i64) (.pair (.int .i64) (.pair .str .unit))))) r) : ∃ k, law21_CatBack k t r = some (true, ()) := by
  refine Ev.ex (F := fun k => law21_CatBack k t r) ?_
  obtain ⟨t1, t2, t3, t4, t5, _⟩ := hT
  have t1 := wf_i64 t1
  have hm : t.2.2.1.length ≤ 9223372036854775807 := Nat.le_trans t3.1 (by decide)
  simp only [law21_CatBack_eq]
  refine .bind awake21_ev ?_
  simp only [Bool.not_true, cond_false]
  refine .bind (F := fun k => law21_Small k t) (small_ev hm) ?_
  cases hs : smallB t t.2.2.1 with
  | false => exact .ret
  | true =>
  obtain ⟨s1, s2, s3, s4⟩ := small_of hs
  simp only [Bool.not_true, cond_false]
  refine .bind (few_ev h) ?_
  cases hb : fewB r r with
  | false => exact .ret
  | true =>
  obtain ⟨a1, a2⟩ := few_of h hb
  simp only [Bool.not_true, cond_false]
  by_cases c0 : (r.length : Int) = 0
  · simp only [bt c0]; exact .ret
  by_cases c1 : (r.length : Int) = (t.2.2.1.length : Int)
  · by_cases c2 : 32 < (r.length : Int)
    · simp only [bf c0, dT c1, Bool.not_true, cond_false, bt c2]; exact .ret
    simp only [bf c0, dT c1, Bool.not_true, cond_false, bf c2]
    exact (back_l0 t1 s2 (fun v hv => (a2 v hv).1.1) (fun v hv => (a2 v hv).1.1.1) (fun v hv => ⟨(a2 v hv).2.1, (a2 v hv).1.2⟩) (by omega) (by omega) (by omega) r.length 0 (by omega) (fun i h hi => absurd hi (Nat.not_lt_zero _))).dg
  · simp only [bf c0, dF c1, Bool.not_false, cond_true]; exact .ret
end Go.Proofs.Ytmngjegceoidhaa.Den
