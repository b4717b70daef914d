import Derived.Test.YtnojkokhfmgcfaaDNumBytes
import Derived.Test.YtnojkokhfmgcfaaDen31
namespace Go.Proofs.Ytnojkokhfmgcfaa.Den
open Go Go.RowKit
set_option linter.unusedVariables false
theorem bt {α : Type} {p : Prop} [Decidable p] {x y : α} (h : p) : (bif decide p then x else y) = x := by rw [decide_eq_true h]; rfl
theorem bf {α : Type} {p : Prop} [Decidable p] {x y : α} (h : ¬ p) : (bif decide p then x else y) = y := by rw [decide_eq_false h]; rfl
theorem awake01_is (k : Nat) : law01_awake k = some (true, ()) := by
  simp only [law01_awake_eq, num_Add_eq, num_same_eq, num_kept_eq, num_Zig_eq, num_Flip_eq]
  decide +kernel
/-! ### Bytes of a number -/
def be : Nat → Nat → List Int
  | 0, _ => []
  | n + 1, u => ((u / 256 ^ n % 256 : Nat) : Int) :: be n u
theorem be_length : ∀ n u, (be n u).length = n
  | 0, _ => rfl
  | n + 1, u => congrArg (· + 1) (be_length n u)
theorem be_wf : ∀ n u x, x ∈ be n u → (Lit.int .u8 x).wf = true
  | n + 1, u, x, h => by
    rcases List.mem_cons.1 h with rfl | h
    · have := Nat.mod_lt (u / 256 ^ n) (show 0 < 256 by decide)
      simp [Lit.wf, IntKind.min, IntKind.max, IntKind.signed, IntKind.bits]; omega
    · exact be_wf n u x h
theorem mod_step (u n : Nat) : u % 256 ^ (n + 1) = u % 256 ^ n + 256 ^ n * (u / 256 ^ n % 256) := by
  rw [Nat.pow_succ]; exact Nat.mod_mul
theorem lt_step {p a b r s : Nat} (hr : r < p) (hs : s < p) : (decide (a < b) || (decide (a = b) && decide (r < s))) = decide (r + p * a < s + p * b) := by
  rcases Nat.lt_trichotomy a b with h | h | h
  · have h1 := Nat.mul_le_mul_left p (show a + 1 ≤ b from h)
    rw [Nat.mul_succ] at h1
    rw [decide_eq_true h, decide_eq_true (show r + p * a < s + p * b by omega)]; rfl
  · subst h
    simp
  · have h1 := Nat.mul_le_mul_left p (show b + 1 ≤ a from h)
    rw [Nat.mul_succ] at h1
    rw [decide_eq_false (show ¬ a < b by omega), decide_eq_false (show ¬ a = b by omega), decide_eq_false (show ¬ r + p * a < s + p * b by omega)]; rfl
theorem ltL_be : ∀ n u v, ltL (be n u) (be n v) = decide (u % 256 ^ n < v % 256 ^ n)
  | 0, _, _ => by simp [be, ltL, Nat.mod_one]
  | n + 1, u, v => by
    show (decide (((u / 256 ^ n % 256 : Nat) : Int) < ((v / 256 ^ n % 256 : Nat) : Int)) || (decide (((u / 256 ^ n % 256 : Nat) : Int) = ((v / 256 ^ n % 256 : Nat) : Int)) && ltL (be n u) (be n v))) = _
    rw [ltL_be n u v, mod_step, mod_step]
    have hp : 0 < 256 ^ n := Nat.pow_pos (by decide)
    rw [← lt_step (Nat.mod_lt u hp) (Nat.mod_lt v hp)]
    congr 2
    · simp only [Int.ofNat_lt]
    · simp only [Int.natCast_inj]
theorem be_eq {u v : Nat} : ∀ n, be n u = be n v → u % 256 ^ n = v % 256 ^ n
  | 0, _ => by simp [Nat.mod_one]
  | n + 1, h => by
    have h : ((u / 256 ^ n % 256 : Nat) : Int) :: be n u = ((v / 256 ^ n % 256 : Nat) : Int) :: be n v := h
    injection h with h1 h2
    rw [mod_step, mod_step, be_eq n h2, Int.natCast_inj.1 h1]
theorem beqL_be {u v : Nat} (hu : u < 18446744073709551616) (hv : v < 18446744073709551616) : beqL (be 8 u) (be 8 v) = decide (u = v) := by
  unfold beqL
  by_cases h : u = v
  · subst h; simp
  · have : ¬ be 8 u = be 8 v := fun e => h (by have := be_eq 8 e; omega)
    simp [h, this]
theorem shr_is {u j : Nat} (hj : j < 8) : shrK .u64 (u : Int) (wr .i64 (8 * (j : Int))) = some (((u / 256 ^ j : Nat)) : Int) := by
  rw [wr_i64 (by omega)]
  have hj : j = 0 ∨ j = 1 ∨ j = 2 ∨ j = 3 ∨ j = 4 ∨ j = 5 ∨ j = 6 ∨ j = 7 := by omega
  rcases hj with rfl | rfl | rfl | rfl | rfl | rfl | rfl | rfl <;> rfl
theorem set_last (m : Nat) (l : List Int) (x : Int) : (List.replicate (m + 1) (0 : Int) ++ l).set m x = List.replicate m 0 ++ x :: l := by
  rw [List.replicate_succ', List.append_assoc, List.set_append_right _ _ (by simp)]
  simp
theorem put_loop (k : Nat) {u w : Nat} (hw : w ≤ 8) : ∀ n j, j ≤ w → w - j < n → num_Put_l0 k n (u : Int) (w : Int) (w : Int) (j : Int) (List.replicate (w - j) 0 ++ be j u) = some (be w u, ())
  | 0, _, _, h => absurd h (Nat.not_lt_zero _)
  | n + 1, j, hj, hn => by
    rw [num_Put_l0_eq]
    by_cases c : j < w
    · obtain ⟨m, hm⟩ : ∃ m, w - j = m + 1 := ⟨w - j - 1, by omega⟩
      have e1 : wr .i64 (wr .i64 ((w : Int) - 1) - (j : Int)) = (m : Int) := by
        rw [wr_i64 (n := (w : Int) - 1) (by omega), wr_i64 (by omega)]; omega
      have hlen : (List.replicate (w - j) (0 : Int) ++ be j u).length = w := by simp [be_length]; omega
      have e2 : wr .u8 (((u / 256 ^ j : Nat)) : Int) = ((u / 256 ^ j % 256 : Nat) : Int) := by rw [wrm_u8]; rfl
      rw [bif_true (by simp; omega), shr_is (by omega), Option.bind_some, e1, hlen, must_true (by unfold inI; simp; omega), must_true (by simp [Nat.blt]; omega), e2, wr_i64 (by omega), hm, Int.toNat_natCast, set_last]
      have ih := put_loop k (u := u) hw n (j + 1) c (by omega)
      have e3 : w - (j + 1) = m := by omega
      rw [e3] at ih
      exact ih
    · have : j = w := by omega
      subst this
      rw [bif_false (by simp)]
      simp
theorem num_Put_is (k : Nat) {u w : Nat} (hw : w ≤ 8) : num_Put (k + 10) (u : Int) (w : Int) = some (be w u, ()) := by
  rw [num_Put_eq, bif_false (by simp), bif_false (by simp; omega), must_true (by simp [beqI]), Int.toNat_natCast, lim_ok (by omega)]
  have := put_loop (k + 10) (u := u) hw (k + 10) 0 (by omega) (by omega)
  simpa [be] using this
theorem refput_loop (k : Nat) {u w : Nat} (hu : u < 18446744073709551616) (hw : w ≤ 8) : ∀ n j b, j ≤ w → w - j < n → ref01_Put_l0 k n ((u / 256 ^ j : Nat) : Int) (w : Int) b (be j u) (j : Int) = some (be w u, ())
  | 0, _, _, _, h => absurd h (Nat.not_lt_zero _)
  | n + 1, j, b, hj, hn => by
    rw [ref01_Put_l0_eq]
    by_cases c : j < w
    · have e1 : Int.tmod ((u / 256 ^ j : Nat) : Int) 256 = ((u / 256 ^ j % 256 : Nat) : Int) := rfl
      have e2 : Int.tdiv ((u / 256 ^ j : Nat) : Int) 256 = ((u / 256 ^ j / 256 : Nat) : Int) := rfl
      have hm := Nat.mod_lt (u / 256 ^ j) (show 0 < 256 by decide)
      have hd := Nat.div_le_self u (256 ^ j)
      have hd2 := Nat.div_le_self (u / 256 ^ j) 256
      have e3 : u / 256 ^ j / 256 = u / 256 ^ (j + 1) := by rw [Nat.pow_succ, Nat.div_div_eq_div_mul]
      generalize hq : u / 256 ^ j = q at *
      rw [bif_true (by simp; omega), lim_ok (by rw [be_length]; simp; omega), e1, e2, wr_u8 (by omega), wr_u64 (by omega), wr_i64 (by omega), e3]
      subst hq
      exact refput_loop k hu hw n (j + 1) false c (by omega)
    · have : j = w := by omega
      subst this
      rw [bif_false (by simp)]
theorem Puts_same (k : Nat) {u : Nat} (hu : u < 18446744073709551616) (a : Int) : num_Put (k + 10) (u : Int) a = ref01_Put (k + 10) (u : Int) a := by
  by_cases c : a < 0
  · rw [num_Put_eq, ref01_Put_eq, bt c, bt c]
  by_cases d : 8 < a
  · rw [num_Put_eq, ref01_Put_eq, bf c, bf c, bt d, bt d]
  obtain ⟨w, rfl⟩ := Int.eq_ofNat_of_zero_le (show 0 ≤ a by omega)
  rw [num_Put_is k (by omega), ref01_Put_eq, bif_false (by simp), bif_false (by simp; omega)]
  have := refput_loop (k + 10) hu (w := w) (by omega) (k + 10) 0 true (by omega) (by omega)
  rw [Nat.pow_zero, Nat.div_one] at this
  exact this.symm
def ofN (s : Nat) (x : Int) : Nat := (s * 256 + x.toNat) % 18446744073709551616
theorem ofN_lt (s : Nat) (x : Int) : ofN s x < 18446744073709551616 := Nat.mod_lt _ (by decide)
theorem or_add {a x : Nat} (h : x < 256) : (a * 256) ||| x = a * 256 + x := by
  have := Nat.two_pow_add_eq_or_of_lt (i := 8) h a
  rw [Nat.mul_comm a 256]
  exact this.symm
theorem of_step {s : Nat} {x : Int} (hs : s < 18446744073709551616) (hx : (Lit.int .u8 x).wf = true) : Go.bits .or .u64 (wr .u64 ((s : Int) * 256)) (wr .u64 x) = ((ofN s x : Nat) : Int) := by
  have := wf_u8 hx
  obtain ⟨y, rfl⟩ := Int.eq_ofNat_of_zero_le this.1
  have e1 : wr .u64 ((s : Int) * 256) = (((s % 72057594037927936) * 256 : Nat) : Int) := by rw [wrm_u64]; omega
  rw [e1, wr_u64 (n := (y : Int)) (by omega), u64_or_nat _ _ (by omega) (by omega), or_add (by omega)]
  unfold ofN
  rw [Int.toNat_natCast]
  omega
theorem ref_step {s : Nat} {x : Int} (hs : s < 18446744073709551616) (hx : (Lit.int .u8 x).wf = true) : wr .u64 ((wr .u64 ((s : Int) * 256)) + (wr .u64 x)) = ((ofN s x : Nat) : Int) := by
  have := wf_u8 hx
  obtain ⟨y, rfl⟩ := Int.eq_ofNat_of_zero_le this.1
  rw [wrm_u64, wrm_u64, wrm_u64]
  unfold ofN
  rw [Int.toNat_natCast]
  omega
theorem num_Of_is (k : Nat) {l : List Int} (hl : ∀ x ∈ l, (Lit.int .u8 x).wf = true) (hn : l.length < k + 10) (hm : l.length ≤ 4611686018427387904) : num_Of (k + 10) l = some (((l.foldl ofN 0 : Nat) : Int), ()) := by
  rw [num_Of_eq]
  have := foldLoop l (fun n (s : Nat) j => num_Of_l0 (k + 10) n (s : Int) l (l.length : Int) j) ofN (fun s => some ((s : Int), ())) (fun s => s < 18446744073709551616) (fun s x _ _ => ofN_lt s x)
    (fun n s j x hs hx => by
      show num_Of_l0 (k + 10) (n + 1) _ _ _ _ = num_Of_l0 (k + 10) n _ _ _ _
      have hj : j < l.length := (List.getElem?_eq_some_iff.1 hx).1
      rw [num_Of_l0_eq, bif_true (by simp; omega), nth_get hx, Option.bind_some, of_step hs (hl x (List.mem_of_getElem? hx)), wr_next hj hm])
    (fun n s hs => by
      show num_Of_l0 (k + 10) (n + 1) _ _ _ _ = _
      rw [num_Of_l0_eq, bif_false (by simp)])
    (k + 10) 0 0 (by omega) (by omega) (by omega)
  rw [List.drop_zero] at this
  exact this
theorem ref01_Of_is (k : Nat) {l : List Int} (hl : ∀ x ∈ l, (Lit.int .u8 x).wf = true) (hn : l.length < k + 10) (hm : l.length ≤ 4611686018427387904) : ref01_Of (k + 10) l = some (((l.foldl ofN 0 : Nat) : Int), ()) := by
  rw [ref01_Of_eq]
  have := foldLoop l (fun n (s : Nat) j => ref01_Of_l0 (k + 10) n (s : Int) l (l.length : Int) j) ofN (fun s => some ((s : Int), ())) (fun s => s < 18446744073709551616) (fun s x _ _ => ofN_lt s x)
    (fun n s j x hs hx => by
      show ref01_Of_l0 (k + 10) (n + 1) _ _ _ _ = ref01_Of_l0 (k + 10) n _ _ _ _
      have hj : j < l.length := (List.getElem?_eq_some_iff.1 hx).1
      rw [ref01_Of_l0_eq, bif_true (by simp; omega), nth_get hx, Option.bind_some, ref_step hs (hl x (List.mem_of_getElem? hx)), wr_next hj hm])
    (fun n s hs => by
      show ref01_Of_l0 (k + 10) (n + 1) _ _ _ _ = _
      rw [ref01_Of_l0_eq, bif_false (by simp)])
    (k + 10) 0 0 (by omega) (by omega) (by omega)
  rw [List.drop_zero] at this
  exact this
theorem fold_be (u : Nat) : ∀ (n s : Nat), s < 18446744073709551616 → (be n u).foldl ofN s = (s * 256 ^ n + u % 256 ^ n) % 18446744073709551616
  | 0, s, h => by simp [be, Nat.mod_one]; omega
  | n + 1, s, h => by
    show (be n u).foldl ofN (ofN s ((u / 256 ^ n % 256 : Nat) : Int)) = _
    rw [fold_be u n _ (ofN_lt _ _), mod_step]
    unfold ofN
    rw [Int.toNat_natCast, Nat.add_mod, Nat.mod_mul_mod, ← Nat.add_mod]
    congr 1
    rw [Nat.pow_succ, Nat.add_mul]
    have h1 : s * 256 * 256 ^ n = s * (256 ^ n * 256) := by ac_rfl
    have h2 : u / 256 ^ n % 256 * 256 ^ n = 256 ^ n * (u / 256 ^ n % 256) := Nat.mul_comm _ _
    omega
theorem Fits_same (k : Nat) {a w : Int} (ha : -9223372036854775808 ≤ a ∧ a ≤ 9223372036854775807) : num_Fits k a w = ref01_Fits k a w := by
  rw [num_Fits_eq, ref01_Fits_eq]
  by_cases c : w < 1
  · rw [bt c, bt c]
  rw [bf c, bf c]
  by_cases d : 64 < w
  · rw [bt d, bt d]
  rw [bf d, bf d]
  obtain ⟨m, hm⟩ := Int.eq_ofNat_of_zero_le (show 0 ≤ w - 1 by omega)
  have hwm : w = (m : Int) + 1 := by omega
  subst hwm
  rw [show (m : Int) + 1 - 1 = (m : Int) by omega, wr_i64 (n := (m : Int)) (by omega), wr_u64 (n := (m : Int)) (by omega)]
  have h1 : shrK .i64 a (m : Int) = some (a / 2 ^ m) := by
    unfold shrK; rw [if_neg (by omega)]
    congr 2
    show (2 : Int) ^ (min ((m : Int)).toNat 64) = _
    rw [Int.toNat_natCast, Nat.min_eq_left (by omega)]
  rw [h1, Option.bind_some]
  have hp : ∃ p : Int, (2 : Int) ^ m = p ∧ 0 < p ∧ (m ≤ 62 → p < 9223372036854775808) ∧ (m = 63 → p = 9223372036854775808) := by
    refine ⟨2 ^ m, rfl, ?_, fun h => ?_, fun h => by rw [h]; rfl⟩
    · exact Int.pow_pos (by decide)
    · have : 2 ^ m ≤ 2 ^ 62 := Nat.pow_le_pow_right (by decide) h
      have h2 : ((2 ^ m : Nat) : Int) = (2 : Int) ^ m := by simp
      omega
  obtain ⟨p, hpe, hp0, hp1, hp2⟩ := hp
  have hq0 : (a / p = 0) ↔ (0 ≤ a ∧ a < p) := by
    constructor
    · intro h
      have g1 := Int.mul_ediv_self_le (x := a) (k := p) (by omega)
      have g2 := Int.lt_mul_ediv_self_add (x := a) (k := p) hp0
      rw [h] at g1 g2
      omega
    · intro h; exact Int.ediv_eq_zero_of_lt h.1 h.2
  have hq1 : (a / p = -1) ↔ (-p ≤ a ∧ a < 0) := by
    constructor
    · intro h
      have g1 := Int.mul_ediv_self_le (x := a) (k := p) (by omega)
      have g2 := Int.lt_mul_ediv_self_add (x := a) (k := p) hp0
      rw [h] at g1 g2
      omega
    · intro h
      have e : a = (a + p) + p * (-1) := by omega
      rw [e, Int.add_mul_ediv_left _ _ (by omega), Int.ediv_eq_zero_of_lt (by omega) (by omega)]
      rfl
  rw [hpe]
  have hL : (bif decide (a / p = 0) then some (true, ()) else some (decide (a / p = -1), ())) = some (decide (-p ≤ a ∧ a < p), ()) := by
    by_cases x : 0 ≤ a ∧ a < p
    · rw [bif_true (by simpa using hq0.2 x), decide_eq_true (show -p ≤ a ∧ a < p by omega)]
    · rw [bif_false (by simpa using fun h => x (hq0.1 h))]
      by_cases y : -p ≤ a ∧ a < 0
      · rw [decide_eq_true (hq1.2 y), decide_eq_true (show -p ≤ a ∧ a < p by omega)]
      · rw [decide_eq_false (fun h => y (hq1.1 h)), decide_eq_false (show ¬ (-p ≤ a ∧ a < p) by omega)]
  rw [hL]
  by_cases e : m = 63
  · subst e
    rw [bif_true (by simp), decide_eq_true (show -p ≤ a ∧ a < p by have := hp2 rfl; omega)]
  · rw [bif_false (by simp; omega)]
    have h2 : shlK .i64 1 (m : Int) = some p := by
      unfold shlK; rw [if_neg (by omega)]
      congr 1
      show wr .i64 (1 * (2 : Int) ^ (min ((m : Int)).toNat 64)) = _
      have := hp1 (by omega)
      rw [Int.toNat_natCast, Nat.min_eq_left (by omega), hpe, wr_i64 (by omega), Int.one_mul]
    have := hp1 (by omega)
    rw [h2, Option.bind_some, wr_i64 (n := 0 - p) (by omega), wr_i64 (n := p - 1) (by omega)]
    by_cases x : 0 - p ≤ a
    · rw [bif_true (by simpa using x)]
      congr 2
      by_cases y : a < p
      · rw [decide_eq_true (show -p ≤ a ∧ a < p by omega), decide_eq_true (show a ≤ p - 1 by omega)]
      · rw [decide_eq_false (show ¬ (-p ≤ a ∧ a < p) by omega), decide_eq_false (show ¬ a ≤ p - 1 by omega)]
    · rw [bif_false (by simpa using x), decide_eq_false (show ¬ (-p ≤ a ∧ a < p) by omega)]
theorem Fits_some (k : Nat) (a w : Int) (hw : (Lit.int .i64 w).wf = true) : ∃ b, num_Fits k a w = some (b, ()) := by
  rw [num_Fits_eq]
  by_cases c : w < 1
  · exact ⟨_, by rw [bif_true (by simpa using c)]⟩
  rw [bif_false (by simpa using c)]
  by_cases d : 64 < w
  · exact ⟨_, by rw [bif_true (by simpa using d)]⟩
  rw [bif_false (by simpa using d), wr_i64 (by omega)]
  unfold shrK
  rw [if_neg (by omega), Option.bind_some]
  cases decide (a / 2 ^ min (w - 1).toNat IntKind.i64.bits = 0)
  · exact ⟨_, rfl⟩
  · exact ⟨_, rfl⟩
theorem NumBytes_true (a0 a1 : Int) (l : List Int) (a3 a4 : Int) (h0 : (Lit.int .u64 a0).wf = true) (h1 : (Lit.int .i64 a1).wf = true) (h : ∀ x ∈ l, (Lit.int .u8 x).wf = true)
    (h3 : (Lit.int .i64 a3).wf = true) (h4 : (Lit.int .i64 a4).wf = true) : law01_NumBytes 1000 a0 a1 l a3 a4 = some (true, ()) := by
  have b0 := wf_u64 h0
  obtain ⟨u, rfl⟩ := Int.eq_ofNat_of_zero_le b0.1
  rw [law01_NumBytes_eq, awake01_is]
  simp only [Option.bind_some, Bool.not_true, cond_false]
  by_cases c : 100 < (l.length : Int)
  · rw [bif_true (by simpa using c)]
  rw [bif_false (by simpa using c), Puts_same 990 (by omega)]
  obtain ⟨r, hr⟩ : ∃ r, ref01_Put 1000 (u : Int) a1 = some r := by
    by_cases c : a1 < 0
    · exact ⟨_, by rw [ref01_Put_eq, bif_true (by simpa using c)]⟩
    by_cases d : 8 < a1
    · exact ⟨_, by rw [ref01_Put_eq, bif_false (by simpa using c), bif_true (by simpa using d)]⟩
    obtain ⟨w, rfl⟩ := Int.eq_ofNat_of_zero_le (show 0 ≤ a1 by omega)
    exact ⟨_, (Puts_same 990 (u := u) (by omega) _).symm.trans (num_Put_is 990 (by omega))⟩
  have p1 := num_Put_is 990 (u := u) (w := 8) (by omega)
  have f8 := fold_be u 8 0 (by omega)
  have e8 : (0 * 256 ^ 8 + u % 256 ^ 8) % 18446744073709551616 = u := by
    rw [show (256 : Nat) ^ 8 = 18446744073709551616 by decide]; omega
  rw [e8] at f8
  obtain ⟨b, hb⟩ := Fits_some 1000 a3 a4 h4
  have hb2 : ref01_Fits 1000 a3 a4 = some (b, ()) := by rw [← Fits_same 1000 (wf_i64 h3), hb]
  simp only [hr, Option.bind_some]
  rw [bif_true (by simp [beqL]), num_Of_is 990 h (by omega) (by omega), ref01_Of_is 990 h (by omega) (by omega)]
  simp only [Option.bind_some]
  rw [bif_true (by simp), show num_Put 1000 (u : Int) (8 : Int) = _ from p1, Option.bind_some, num_Of_is 990 (be_wf 8 u) (by rw [be_length]; omega) (by rw [be_length]; omega), Option.bind_some, f8, bif_true (by simp), hb, Option.bind_some, hb2, Option.bind_some]
  simp [beqB]
end Go.Proofs.Ytnojkokhfmgcfaa.Den
