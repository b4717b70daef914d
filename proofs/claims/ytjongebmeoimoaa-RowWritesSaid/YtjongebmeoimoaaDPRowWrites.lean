import Derived.Test.YtjongebmeoimoaaDRowWrites
import Derived.Test.YtjongebmeoimoaaDen32
namespace Go.Proofs.Ytjongebmeoimoaa.Den
open Go Go.RowKit
set_option linter.unusedVariables false
theorem bt {α : Type} {p : Prop} [Decidable p] {x y : α} (h : p) : (bif decide p then x else y) = x := by rw [decide_eq_true h]; rfl
theorem bf {α : Type} {p : Prop} [Decidable p] {x y : α} (h : ¬ p) : (bif decide p then x else y) = y := by rw [decide_eq_false h]; rfl
/-! ### Numbers in groups of seven bits -/
def wt : Nat → Nat → List Int
  | 0, _ => []
  | m + 1, n => (((n / 128 ^ (m + 1) % 128 + 128 : Nat)) : Int) :: wt m n
theorem wt_length : ∀ m n, (wt m n).length = m
  | 0, _ => rfl
  | m + 1, n => congrArg (· + 1) (wt_length m n)
def Grp (m n : Nat) : Prop := n / 128 ^ m < 128 ∧ ∀ i, i < m → 128 ≤ n / 128 ^ i
theorem grp_ex : ∀ (m n : Nat), n / 128 ^ m < 128 → ∃ i, i ≤ m ∧ Grp i n
  | 0, n, h => ⟨0, Nat.le_refl _, h, fun i hi => absurd hi (Nat.not_lt_zero _)⟩
  | m + 1, n, h => by
    by_cases c : n / 128 ^ m < 128
    · obtain ⟨i, h1, h2⟩ := grp_ex m n c
      exact ⟨i, by omega, h2⟩
    · refine ⟨m + 1, Nat.le_refl _, h, fun i hi => ?_⟩
      have h1 : 128 ^ i ≤ 128 ^ m := Nat.pow_le_pow_right (by decide) (by omega)
      have h2 : n / 128 ^ m ≤ n / 128 ^ i := Nat.div_le_div_left h1 (Nat.pow_pos (by decide))
      omega
theorem shr7 {u i : Nat} (hi : i ≤ 9) : shrK .u64 (u : Int) ((7 * i : Nat) : Int) = some (((u / 128 ^ i : Nat)) : Int) := by
  have hi : i = 0 ∨ i = 1 ∨ i = 2 ∨ i = 3 ∨ i = 4 ∨ i = 5 ∨ i = 6 ∨ i = 7 ∨ i = 8 ∨ i = 9 := by omega
  rcases hi with rfl | rfl | rfl | rfl | rfl | rfl | rfl | rfl | rfl | rfl <;> rfl
theorem or128 : ∀ y : Fin 256, Go.bits .or .u8 ((y.val : Nat) : Int) 128 = (((y.val % 128 + 128 : Nat)) : Int) := by decide +kernel
theorem not128 : ∀ y : Fin 256, Go.bits .andNot .u8 ((y.val : Nat) : Int) 128 = (((y.val % 128 : Nat)) : Int) := by decide +kernel
theorem or_is (x : Nat) : Go.bits .or .u8 (wr .u8 (x : Int)) 128 = (((x % 128 + 128 : Nat)) : Int) := by
  have := or128 ⟨x % 256, Nat.mod_lt _ (by decide)⟩
  rw [show wr .u8 (x : Int) = ((x % 256 : Nat) : Int) by rw [wrm_u8]; rfl]
  refine this.trans ?_
  show (((x % 256 % 128 + 128 : Nat)) : Int) = _
  omega
theorem not_is (x : Nat) : Go.bits .andNot .u8 (wr .u8 (x : Int)) 128 = (((x % 128 : Nat)) : Int) := by
  have := not128 ⟨x % 256, Nat.mod_lt _ (by decide)⟩
  rw [show wr .u8 (x : Int) = ((x % 256 : Nat) : Int) by rw [wrm_u8]; rfl]
  refine this.trans ?_
  show (((x % 256 % 128 : Nat)) : Int) = _
  omega
theorem w_l1 (k n : Nat) {u m : Nat} (hm : m ≤ 9) (h : Grp m u) (l : List Int) (a j : Int) (out : List Int) : ∀ n1 i, i ≤ m → m - i < n1 →
    row_Writer_N_l1 k n n1 (u : Int) ((7 * i : Nat) : Int) l a j out = row_Writer_N_l2 k n k (u : Int) ((7 * m : Nat) : Int) l a j out
  | 0, _, _, h => absurd h (Nat.not_lt_zero _)
  | n1 + 1, i, hi, hn => by
    rw [row_Writer_N_l1_eq, shr7 (by omega), Option.bind_some]
    by_cases c : i < m
    · have := h.2 i c
      rw [bt (by omega), wr_i64 (by omega)]
      exact w_l1 k n hm h l a j out n1 (i + 1) c (by omega)
    · have : i = m := by omega
      subst this
      have := h.1
      rw [bf (by omega)]
theorem w_l2 (k n : Nat) {u : Nat} (l : List Int) (a j : Int) : ∀ n1 i out, i ≤ 9 → i < n1 → out.length + i ≤ 1000000 →
    row_Writer_N_l2 k n n1 (u : Int) ((7 * i : Nat) : Int) l a j out = row_Writer_N_l0 k n l a (wr .i64 (j + 1)) (out ++ (wt i u ++ [((u % 128 : Nat) : Int)]))
  | 0, _, _, _, h, _ => absurd h (Nat.not_lt_zero _)
  | n1 + 1, 0, out, _, _, ho => by
    rw [row_Writer_N_l2_eq, bf (by simp), lim_ok (by simp; omega), not_is]
    rfl
  | n1 + 1, i + 1, out, hi, hn, ho => by
    rw [row_Writer_N_l2_eq, bt (by omega), shr7 (by omega), Option.bind_some, lim_ok (by simp; omega), or_is, wr_i64 (by omega)]
    have e : ((7 * (i + 1) : Nat) : Int) - 7 = ((7 * i : Nat) : Int) := by omega
    rw [e, w_l2 k n l a j n1 i _ (by omega) (by omega) (by simp; omega), List.append_assoc]
    rfl
theorem w_N (k : Nat) {u m : Nat} (hm : m ≤ 9) (h : Grp m u) (out : List Int) (ho : out.length + 10 ≤ 1000000) :
    row_Writer_N (k + 20) [(u : Int)] out = some ((), ((out ++ (wt m u ++ [((u % 128 : Nat) : Int)]), ()), ())) := by
  have h1 := w_l1 (k + 20) (k + 19) hm h [(u : Int)] 1 0 out (k + 20) 0 (by omega) (by omega)
  have h2 := w_l2 (k + 20) (k + 19) (u := u) [(u : Int)] 1 0 (k + 20) m out hm (by omega) (by omega)
  rw [row_Writer_N_eq]
  show row_Writer_N_l0 (k + 20) (k + 19 + 1) _ 1 _ _ = _
  rw [row_Writer_N_l0_eq, bt (by decide), show nth [(u : Int)] 0 = some (u : Int) from rfl, Option.bind_some]
  refine h1.trans (h2.trans ?_)
  show row_Writer_N_l0 (k + 20) (k + 18 + 1) _ _ _ _ = _
  rw [row_Writer_N_l0_eq, bf (by decide)]
theorem r_l0 (k : Nat) {u m : Nat} (hu : u < 18446744073709551616) (h : Grp m u) (base : List Int) (hb : base.length + 20 ≤ 1000000) : ∀ n i t, i ≤ m → m ≤ 9 → m - i < n →
    ref01_N_l0 k n base ((u / 128 ^ (i + 1) : Nat) : Int) t (wt i u ++ [((u % 128 : Nat) : Int)]) = some (base ++ (wt m u ++ [((u % 128 : Nat) : Int)]), ())
  | 0, _, _, _, _, h => absurd h (Nat.not_lt_zero _)
  | n + 1, i, t, hi, hm, hn => by
    rw [ref01_N_l0_eq]
    have hd : ∀ j, u / 128 ^ (j + 1) = u / 128 ^ j / 128 := fun j => by rw [Nat.pow_succ, Nat.div_div_eq_div_mul]
    by_cases c : i < m
    · have h1 := h.2 i c
      have hpos : 0 < u / 128 ^ (i + 1) := by rw [hd i]; exact Nat.div_pos h1 (by decide)
      have hle : u / 128 ^ (i + 1) ≤ u := Nat.div_le_self _ _
      have h3 := hd (i + 1)
      have ih := r_l0 k hu h base hb n (i + 1) false c hm (by omega)
      rw [h3] at ih
      have hw : wt (i + 1) u = (((u / 128 ^ (i + 1) % 128 + 128 : Nat)) : Int) :: wt i u := rfl
      rw [hw] at ih
      generalize u / 128 ^ (i + 1) = v at *
      have e1 : Int.tmod ((v : Nat) : Int) 128 = ((v % 128 : Nat) : Int) := rfl
      have e2 : Int.tdiv ((v : Nat) : Int) 128 = ((v / 128 : Nat) : Int) := rfl
      have hm128 := Nat.mod_lt v (show 0 < 128 by decide)
      have hd128 := Nat.div_le_self v 128
      rw [bt (by omega), lim_ok (by simp [wt_length]; omega), e1, e2, wr_u8 (n := ((v % 128 : Nat) : Int)) (by omega), wr_u8 (by omega), wr_u64 (by omega)]
      have e3 : (((v % 128 : Nat) : Int) + 128) = ((v % 128 + 128 : Nat) : Int) := by omega
      rw [e3]
      exact ih
    · have : i = m := by omega
      subst this
      have h3 : u / 128 ^ (i + 1) = 0 := by rw [hd i]; exact Nat.div_eq_of_lt h.1
      rw [h3, bf (by simp), lim_ok (by omega), lim_ok (by simp [wt_length]; omega)]
      rfl
theorem r_N (k : Nat) {u m : Nat} (hu : u < 18446744073709551616) (hm : m ≤ 9) (h : Grp m u) (base : List Int) (hb : base.length + 20 ≤ 1000000) :
    ref01_N (k + 20) base (u : Int) = some (base ++ (wt m u ++ [((u % 128 : Nat) : Int)]), ()) := by
  have := r_l0 (k + 20) hu h base hb (k + 20) 0 false (by omega) hm (by omega)
  have e1 : Int.tmod ((u : Nat) : Int) 128 = ((u % 128 : Nat) : Int) := rfl
  have e2 : Int.tdiv ((u : Nat) : Int) 128 = ((u / 128 : Nat) : Int) := rfl
  have hm128 := Nat.mod_lt u (show 0 < 128 by decide)
  have hd128 := Nat.div_le_self u 128
  rw [ref01_N_eq, e1, e2, wr_u8 (by omega), wr_u64 (by omega)]
  rw [show u / 128 ^ (0 + 1) = u / 128 by rw [Nat.zero_add, Nat.pow_one]] at this
  exact this
/-- Both write a number alike. -/
theorem N_both {u : Nat} (hu : u < 18446744073709551616) : ∃ e : List Int, e.length ≤ 10 ∧ ∀ k out, List.length out + 20 ≤ 1000000 → row_Writer_N (k + 20) [(u : Int)] out = some ((), ((out ++ e, ()), ())) ∧ ref01_N (k + 20) out (u : Int) = some (out ++ e, ()) := by
  obtain ⟨m, hm, h⟩ := grp_ex 9 u (by rw [show (128 : Nat) ^ 9 = 9223372036854775808 by decide]; omega)
  exact ⟨wt m u ++ [((u % 128 : Nat) : Int)], by simp [wt_length]; omega, fun k out ho => ⟨w_N k hm h out (by omega), r_N k hu hm h out ho⟩⟩
theorem number_bad (k : Nat) : row_number (k + 20) [(128 : Int), (5 : Int)] = some (((0 : Int), ((0 : Int), ())), ()) := by
  rw [row_number_eq]
  show row_number_l0 (k + 20) (k + 19 + 1) _ _ _ _ = _
  rw [row_number_l0_eq]
  rfl
theorem awake03_is (k : Nat) : law03_awake (k + 20) = some (true, ()) := by
  have hg : Grp 1 300 := ⟨by decide, fun i hi => by
    have : i = 0 := by omega
    subst this; decide⟩
  rw [law03_awake_eq, show row_Writer_N (k + 20) [(300 : Int)] [] = _ from w_N k (u := 300) (by omega) hg [] (by simp), Option.bind_some, row_Writer_Bytes_eq, lim_ok (by simp [wt_length]), Option.bind_some, row_Read_eq, lim_ok (by simp), Option.bind_some]
  simp only [row_Reader_ok_eq, row_Reader_N_eq, row_Reader_fail_eq, row_Reader_End_eq, List.nil_append, number_bad, Option.bind_some, Bool.not_true, cond_false]
  decide +kernel
theorem Zig_is (k : Nat) {a : Int} (h : -9223372036854775808 ≤ a ∧ a ≤ 9223372036854775807) : num_Zig k a = some (if 0 ≤ a then 2 * a else -2 * a - 1, ()) := by
  rw [num_Zig_eq]
  unfold wr
  rw [zig_eq h]
theorem refZig_is (k : Nat) {a : Int} (h : -9223372036854775808 ≤ a ∧ a ≤ 9223372036854775807) : ref01_Zig k a = some (if 0 ≤ a then 2 * a else -2 * a - 1, ()) := by
  rw [ref01_Zig_eq]
  unfold wr
  simp only [wu64, wrap_i64]
  unfold wrap64
  by_cases h0 : 0 ≤ a
  · simp only [h0, decide_true, cond_true, if_true]
    congr 2
    omega
  · simp only [h0, decide_false, cond_false, if_false]
    congr 2
    omega
theorem I_both {a : Int} (h : -9223372036854775808 ≤ a ∧ a ≤ 9223372036854775807) : ∃ e : List Int, e.length ≤ 10 ∧ ∀ k out, List.length out + 20 ≤ 1000000 → row_Writer_I (k + 20) a out = some ((), ((out ++ e, ()), ())) ∧
    ∃ z, ref01_Zig (k + 20) a = some (z, ()) ∧ ref01_N (k + 20) out z = some (out ++ e, ()) := by
  obtain ⟨u, hu⟩ := Int.eq_ofNat_of_zero_le (show 0 ≤ (if 0 ≤ a then 2 * a else -2 * a - 1) by split <;> omega)
  have hlt : u < 18446744073709551616 := by split at hu <;> omega
  obtain ⟨e, he, hall⟩ := N_both hlt
  refine ⟨e, he, fun k out ho => ⟨?_, _, refZig_is _ h, ?_⟩⟩
  · rw [row_Writer_I_eq, Zig_is _ h, Option.bind_some, hu, (hall k out ho).1, Option.bind_some]
  · rw [hu]; exact (hall k out ho).2
theorem Text_both {s : List Int} (hs : s.length ≤ 200) : ∃ e : List Int, e.length ≤ 210 ∧ ∀ k out, List.length out + 300 ≤ 1000000 → row_Writer_Text (k + 20) s out = some ((), ((out ++ e, ()), ())) ∧ ref01_Text (k + 20) out s = some (out ++ e, ()) := by
  obtain ⟨e, he, hall⟩ := N_both (u := s.length) (by omega)
  refine ⟨e ++ s, by simp; omega, fun k out ho => ⟨?_, ?_⟩⟩
  · rw [row_Writer_Text_eq, wr_u64 (by omega), (hall k out (by omega)).1, Option.bind_some, lim_ok (by simp; omega)]
    simp
  · rw [ref01_Text_eq, wr_u64 (by omega), (hall k out (by omega)).2, Option.bind_some, lim_ok (by simp; omega)]
    simp
theorem Val_both {v : Int × (Int × ((List Int) × Unit))} (hn : -9223372036854775808 ≤ v.2.1 ∧ v.2.1 ≤ 9223372036854775807) (hs : v.2.2.1.length ≤ 200) :
    ∃ e : List Int, e.length ≤ 220 ∧ ∀ k out, List.length out + 400 ≤ 1000000 → row_Writer_Value (k + 20) v out = some ((), ((out ++ e, ()), ())) ∧ ref01_Val (k + 20) out v = some (out ++ e, ()) := by
  by_cases c1 : v.1 = 1
  · obtain ⟨e1, h1, g1⟩ := N_both (u := 1) (by omega)
    obtain ⟨e2, h2, g2⟩ := I_both hn
    refine ⟨e1 ++ e2, by simp; omega, fun k out ho => ?_⟩
    obtain ⟨a1, a2⟩ := g1 k out (by omega)
    obtain ⟨b1, z, b2, b3⟩ := g2 k (out ++ e1) (by simp; omega)
    constructor
    · rw [row_Writer_Value_eq, bt c1, show row_Writer_N (k + 20) [(1 : Int)] out = _ from a1, Option.bind_some, b1, Option.bind_some]
      show row_Writer_Value_j0 (k + 19 + 1) _ = _
      rw [row_Writer_Value_j0_eq]; simp
    · rw [ref01_Val_eq, bt c1, show ref01_N (k + 20) out (1 : Int) = _ from a2, Option.bind_some, b2, Option.bind_some, b3, Option.bind_some]; simp
  by_cases c2 : v.1 = 2
  · obtain ⟨e1, h1, g1⟩ := N_both (u := 2) (by omega)
    obtain ⟨e2, h2, g2⟩ := Text_both hs
    refine ⟨e1 ++ e2, by simp; omega, fun k out ho => ?_⟩
    obtain ⟨a1, a2⟩ := g1 k out (by omega)
    obtain ⟨b1, b2⟩ := g2 k (out ++ e1) (by simp; omega)
    constructor
    · rw [row_Writer_Value_eq, bf c1, bt c2, show row_Writer_N (k + 20) [(2 : Int)] out = _ from a1, Option.bind_some, b1, Option.bind_some]
      show row_Writer_Value_j1 (k + 19 + 1) _ = _
      rw [row_Writer_Value_j1_eq, row_Writer_Value_j0_eq]; simp
    · rw [ref01_Val_eq, bf c1, bt c2, show ref01_N (k + 20) out (2 : Int) = _ from a2, Option.bind_some, b2, Option.bind_some]; simp
  · obtain ⟨e1, h1, g1⟩ := N_both (u := 0) (by omega)
    refine ⟨e1, by omega, fun k out ho => ?_⟩
    obtain ⟨a1, a2⟩ := g1 k out (by omega)
    constructor
    · rw [row_Writer_Value_eq, bf c1, bf c2, show row_Writer_N (k + 20) [(0 : Int)] out = _ from a1, Option.bind_some]
      show row_Writer_Value_j1 (k + 19 + 1) _ = _
      rw [row_Writer_Value_j1_eq, row_Writer_Value_j0_eq]
    · rw [ref01_Val_eq, bf c1, bf c2, show ref01_N (k + 20) out (0 : Int) = _ from a2, Option.bind_some]
theorem wr_next2 {α : Type} {j : Nat} {l : List α} (h : j < l.length) (hl : l.length ≤ 9223372036854775807) : wr .i64 ((j : Int) + 1) = ((j + 1 : Nat) : Int) := by
  rw [wr_i64 (by omega)]; omega
abbrev StepT := Int × (Int × ((List Int) × ((Int × (Int × ((List Int) × Unit))) × (Int × Unit))))
def stepOk (x : StepT) : Prop := (0 ≤ x.2.1 ∧ x.2.1 < 18446744073709551616) ∧ x.2.2.1.length ≤ 200 ∧ (-9223372036854775808 ≤ x.2.2.2.1.2.1 ∧ x.2.2.2.1.2.1 ≤ 9223372036854775807) ∧ x.2.2.2.1.2.2.1.length ≤ 200
theorem wrote_loop (k : Nat) {l : List StepT} (hl : ∀ x ∈ l, stepOk x) (hc : l.length ≤ 20) : ∀ n j out, j ≤ l.length → l.length - j < n → List.length out ≤ 300 * j →
    ∃ r : List Int, law03_wrote_l0 (k + 20) n out l (l.length : Int) (j : Int) out = some ((r, (r, ())), ())
  | 0, _, _, _, h, _ => absurd h (Nat.not_lt_zero _)
  | n + 1, j, out, hj, hn, ho => by
    rw [law03_wrote_l0_eq]
    by_cases c : j < l.length
    · have hx := List.getElem?_eq_getElem c
      obtain ⟨⟨g1, g2⟩, g3, g4, g5⟩ := hl _ (List.getElem_mem c)
      rw [bt (by omega), nth_get hx, Option.bind_some]
      generalize l[j] = x at *
      have next : ∀ e : List Int, e.length ≤ 300 → ∃ r : List Int, law03_wrote_j0 (k + 20) n (out ++ e) l (l.length : Int) (j : Int) (out ++ e) = some ((r, (r, ())), ()) := by
        intro e he
        have := wrote_loop k hl hc n (j + 1) (out ++ e) c (by omega) (by simp; omega)
        show ∃ r : List Int, law03_wrote_j0 (k + 19 + 1) n _ _ _ _ _ = _
        rw [law03_wrote_j0_eq, wr_next c (by omega)]
        exact this
      have next1 : ∀ e : List Int, e.length ≤ 300 → ∃ r : List Int, law03_wrote_j1 (k + 20) n (out ++ e) l (l.length : Int) (j : Int) (out ++ e) = some ((r, (r, ())), ()) := by
        intro e he
        show ∃ r : List Int, law03_wrote_j1 (k + 19 + 1) n _ _ _ _ _ = _
        rw [law03_wrote_j1_eq]
        exact next e he
      have next2 : ∀ e : List Int, e.length ≤ 300 → ∃ r : List Int, law03_wrote_j2 (k + 20) n (out ++ e) l (l.length : Int) (j : Int) (out ++ e) = some ((r, (r, ())), ()) := by
        intro e he
        show ∃ r : List Int, law03_wrote_j2 (k + 19 + 1) n _ _ _ _ _ = _
        rw [law03_wrote_j2_eq]
        exact next1 e he
      by_cases c0 : x.1 = 0
      · obtain ⟨u, hu⟩ := Int.eq_ofNat_of_zero_le g1
        obtain ⟨e, h1, h2⟩ := N_both (u := u) (by omega)
        obtain ⟨a1, a2⟩ := h2 k out (by omega)
        rw [bt c0, hu, a1, Option.bind_some, a2, Option.bind_some]
        exact next e (by omega)
      rw [bf c0]
      by_cases c1 : x.1 = 1
      · have hw : -9223372036854775808 ≤ wr .i64 x.2.1 ∧ wr .i64 x.2.1 ≤ 9223372036854775807 := by unfold wr; rw [wrap_i64]; unfold wrap64; omega
        obtain ⟨e, h1, h2⟩ := I_both hw
        obtain ⟨a1, z, a2, a3⟩ := h2 k out (by omega)
        rw [bt c1, a1, Option.bind_some, a2, Option.bind_some, a3, Option.bind_some]
        exact next1 e (by omega)
      rw [bf c1]
      by_cases c2 : x.1 = 2
      · obtain ⟨e, h1, h2⟩ := Text_both g3
        obtain ⟨a1, a2⟩ := h2 k out (by omega)
        rw [bt c2, a1, Option.bind_some, a2, Option.bind_some]
        exact next2 e (by omega)
      rw [bf c2]
      obtain ⟨e, h1, h2⟩ := Val_both (v := (x.2.2.2.1.1, (x.2.2.2.1.2.1, (x.2.2.2.1.2.2.1, ())))) g4 g5
      obtain ⟨a1, a2⟩ := h2 k out (by omega)
      rw [a1, Option.bind_some, a2, Option.bind_some]
      exact next2 e (by omega)
    · have : j = l.length := by omega
      subst this
      rw [bf (by omega), row_Writer_Bytes_eq, lim_ok (by omega), Option.bind_some]
      exact ⟨out, by simp⟩
theorem few_is (k : Nat) (l : List StepT) (hm : l.length ≤ 9223372036854775807) : ∀ n j, j ≤ l.length → l.length - j < n → ∃ b, law03_few_l0 k n l l (l.length : Int) (j : Int) = some (b, ()) ∧
    (b = true → l.length ≤ 20 ∧ ∀ x ∈ l.drop j, x.2.2.1.length ≤ 200 ∧ x.2.2.2.1.2.2.1.length ≤ 200)
  | 0, _, _, h => absurd h (Nat.not_lt_zero _)
  | n + 1, j, hj, hn => by
    rw [law03_few_l0_eq]
    by_cases c : j < l.length
    · have hx := List.getElem?_eq_getElem c
      rw [bt (by omega), nth_get hx, Option.bind_some]
      by_cases c1 : 200 < (l[j].2.2.1.length : Int)
      · exact ⟨false, by rw [bt c1], nofun⟩
      rw [bf c1]
      by_cases c2 : 200 < (l[j].2.2.2.1.2.2.1.length : Int)
      · exact ⟨false, by rw [bt c2], nofun⟩
      rw [bf c2, wr_next2 c hm]
      obtain ⟨b, h1, h2⟩ := few_is k l hm n (j + 1) c (by omega)
      refine ⟨b, h1, fun hb => ?_⟩
      obtain ⟨k1, k2⟩ := h2 hb
      refine ⟨k1, fun x hx' => ?_⟩
      rw [List.drop_eq_getElem_cons c] at hx'
      rcases List.mem_cons.1 hx' with rfl | hx'
      · exact ⟨by omega, by omega⟩
      · exact k2 x hx'
    · have : j = l.length := by omega
      subst this
      rw [bf (by omega)]
      refine ⟨_, rfl, fun hb => ⟨?_, fun x hx => ?_⟩⟩
      · have hb : decide ((l.length : Int) ≤ 20) = true := hb
        have := of_decide_eq_true hb
        omega
      · rw [List.drop_length] at hx; cases hx
theorem RowWrites_true (l : List StepT) (h : wfD (.sl (.st (.pair (.int .i64) (.pair (.int .u64) (.pair (.sl (.int .u8)) (.pair (.st (.pair (.int .i64) (.pair (.int .i64) (.pair .str .unit)))) (.pair (.int .i64) .unit))))))) l) : law03_RowWrites (List.length l + 1000) l = some (true, ()) := by
  obtain ⟨hlen, hall⟩ := h
  have hlen : l.length ≤ maxLen := hlen
  have hmax : maxLen ≤ 9223372036854775807 := by decide
  have hw : ∀ x ∈ l, (0 ≤ x.2.1 ∧ x.2.1 < 18446744073709551616) ∧ (-9223372036854775808 ≤ x.2.2.2.1.2.1 ∧ x.2.2.2.1.2.1 ≤ 9223372036854775807) := by
    intro x hx
    obtain ⟨_, h1, _, ⟨_, h2, _⟩, _⟩ := hall x hx
    have h1 := wf_u64 h1
    exact ⟨⟨h1.1, by omega⟩, wf_i64 h2⟩
  have ha : law03_awake (List.length l + 1000) = some (true, ()) := awake03_is (List.length l + 980)
  rw [law03_RowWrites_eq, ha]
  simp only [Option.bind_some, Bool.not_true, cond_false]
  obtain ⟨b, h1, h2⟩ := few_is (l.length + 1000) l (by omega) (l.length + 1000) 0 (by omega) (by omega)
  rw [law03_few_eq, show law03_few_l0 (l.length + 1000) (l.length + 1000) l l (l.length : Int) (0 : Int) = _ from h1, Option.bind_some]
  cases b with
  | false => rfl
  | true =>
    obtain ⟨k1, k2⟩ := h2 rfl
    have hs : ∀ x ∈ l, stepOk x := fun x hx => by
      obtain ⟨a1, a2⟩ := k2 x (by simpa using hx)
      obtain ⟨b1, b2⟩ := hw x hx
      exact ⟨b1, a1, b2, a2⟩
    obtain ⟨r, hr⟩ := wrote_loop (l.length + 980) hs k1 (l.length + 1000) 0 [] (by omega) (by omega) (by simp)
    rw [law03_wrote_eq]
    have hr : law03_wrote_l0 (l.length + 1000) (l.length + 1000) [] l (l.length : Int) (0 : Int) [] = some ((r, (r, ())), ()) := hr
    simp only [Bool.not_true, cond_false]
    rw [hr, Option.bind_some]
    simp [beqL]
end Go.Proofs.Ytjongebmeoimoaa.Den
