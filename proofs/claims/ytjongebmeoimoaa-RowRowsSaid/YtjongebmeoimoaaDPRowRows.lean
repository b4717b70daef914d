import Derived.Test.YtjongebmeoimoaaDRowRows
import Derived.Test.YtjongebmeoimoaaDen34
namespace Go.Proofs.Ytjongebmeoimoaa.Den
open Go Go.RowKit
set_option linter.unusedVariables false
/-! ### Numbers in groups of seven bits -/
def wt : Nat → Nat → List Int
  | 0, _ => []
  | m + 1, n => (((n / 128 ^ (m + 1) % 128 + 128 : Nat)) : Int) :: wt m n
theorem wt_length : ∀ m n, (wt m n).length = m
  | 0, _ => rfl
  | m + 1, n => congrArg (· + 1) (wt_length m n)
def Grp (m n : Nat) : Prop := n / 128 ^ m < 128 ∧ ∀ i, i < m → 128 ≤ n / 128 ^ i
theorem grp_ex : ∀ (m n : Nat), n / 128 ^ m < 128 → ∃ i, i ≤ m ∧ Grp i n
  | 0, n, h => ⟨0, Nat.le_refl _, h, fun i hi => absurd hi (Nat.not_lt_zero _)⟩
  | m + 1, n, h => by
    by_cases c : n / 128 ^ m < 128
    · obtain ⟨i, h1, h2⟩ := grp_ex m n c
      exact ⟨i, by omega, h2⟩
    · refine ⟨m + 1, Nat.le_refl _, h, fun i hi => ?_⟩
      have h1 : 128 ^ i ≤ 128 ^ m := Nat.pow_le_pow_right (by decide) (by omega)
      have h2 : n / 128 ^ m ≤ n / 128 ^ i := Nat.div_le_div_left h1 (Nat.pow_pos (by decide))
      omega
theorem shr7 {u i : Nat} (hi : i ≤ 9) : shrK .u64 (u : Int) ((7 * i : Nat) : Int) = some (((u / 128 ^ i : Nat)) : Int) := by
  have hi : i = 0 ∨ i = 1 ∨ i = 2 ∨ i = 3 ∨ i = 4 ∨ i = 5 ∨ i = 6 ∨ i = 7 ∨ i = 8 ∨ i = 9 := by omega
  rcases hi with rfl | rfl | rfl | rfl | rfl | rfl | rfl | rfl | rfl | rfl <;> rfl
theorem or128 : ∀ y : Fin 256, Go.bits .or .u8 ((y.val : Nat) : Int) 128 = (((y.val % 128 + 128 : Nat)) : Int) := by decide +kernel
theorem not128 : ∀ y : Fin 256, Go.bits .andNot .u8 ((y.val : Nat) : Int) 128 = (((y.val % 128 : Nat)) : Int) := by decide +kernel
theorem or_is (x : Nat) : Go.bits .or .u8 (wr .u8 (x : Int)) 128 = (((x % 128 + 128 : Nat)) : Int) := by
  have := or128 ⟨x % 256, Nat.mod_lt _ (by decide)⟩
  rw [show wr .u8 (x : Int) = ((x % 256 : Nat) : Int) by rw [wrm_u8]; rfl]
  refine this.trans ?_
  show (((x % 256 % 128 + 128 : Nat)) : Int) = _
  omega
theorem not_is (x : Nat) : Go.bits .andNot .u8 (wr .u8 (x : Int)) 128 = (((x % 128 : Nat)) : Int) := by
  have := not128 ⟨x % 256, Nat.mod_lt _ (by decide)⟩
  rw [show wr .u8 (x : Int) = ((x % 256 : Nat) : Int) by rw [wrm_u8]; rfl]
  refine this.trans ?_
  show (((x % 256 % 128 : Nat)) : Int) = _
  omega
theorem w_l1 (k n : Nat) {u m : Nat} (hm : m ≤ 9) (h : Grp m u) (l : List Int) (a j : Int) (out : List Int) : ∀ n1 i, i ≤ m → m - i < n1 →
    row_Writer_N_l1 k n n1 (u : Int) ((7 * i : Nat) : Int) l a j out = row_Writer_N_l2 k n k (u : Int) ((7 * m : Nat) : Int) l a j out
  | 0, _, _, h => absurd h (Nat.not_lt_zero _)
  | n1 + 1, i, hi, hn => by
    rw [row_Writer_N_l1_eq, shr7 (by omega), Option.bind_some]
    by_cases c : i < m
    · have := h.2 i c
      rw [bt (by omega), wr_i64 (by omega)]
      exact w_l1 k n hm h l a j out n1 (i + 1) c (by omega)
    · have : i = m := by omega
      subst this
      have := h.1
      rw [bf (by omega)]
theorem w_l2 (k n : Nat) {u : Nat} (l : List Int) (a j : Int) : ∀ n1 i out, i ≤ 9 → i < n1 → out.length + i ≤ 1000000 →
    row_Writer_N_l2 k n n1 (u : Int) ((7 * i : Nat) : Int) l a j out = row_Writer_N_l0 k n l a (wr .i64 (j + 1)) (out ++ (wt i u ++ [((u % 128 : Nat) : Int)]))
  | 0, _, _, _, h, _ => absurd h (Nat.not_lt_zero _)
  | n1 + 1, 0, out, _, _, ho => by
    rw [row_Writer_N_l2_eq, bf (by simp), lim_ok (by simp; omega), not_is]
    rfl
  | n1 + 1, i + 1, out, hi, hn, ho => by
    rw [row_Writer_N_l2_eq, bt (by omega), shr7 (by omega), Option.bind_some, lim_ok (by simp; omega), or_is, wr_i64 (by omega)]
    have e : ((7 * (i + 1) : Nat) : Int) - 7 = ((7 * i : Nat) : Int) := by omega
    rw [e, w_l2 k n l a j n1 i _ (by omega) (by omega) (by simp; omega), List.append_assoc]
    rfl
theorem w_N (k : Nat) {u m : Nat} (hm : m ≤ 9) (h : Grp m u) (out : List Int) (ho : out.length + 10 ≤ 1000000) :
    row_Writer_N (k + 20) [(u : Int)] out = some ((), ((out ++ (wt m u ++ [((u % 128 : Nat) : Int)]), ()), ())) := by
  have h1 := w_l1 (k + 20) (k + 19) hm h [(u : Int)] 1 0 out (k + 20) 0 (by omega) (by omega)
  have h2 := w_l2 (k + 20) (k + 19) (u := u) [(u : Int)] 1 0 (k + 20) m out hm (by omega) (by omega)
  rw [row_Writer_N_eq]
  show row_Writer_N_l0 (k + 20) (k + 19 + 1) _ 1 _ _ = _
  rw [row_Writer_N_l0_eq, bt (by decide), show nth [(u : Int)] 0 = some (u : Int) from rfl, Option.bind_some]
  refine h1.trans (h2.trans ?_)
  show row_Writer_N_l0 (k + 20) (k + 18 + 1) _ _ _ _ = _
  rw [row_Writer_N_l0_eq, bf (by decide)]
theorem r_l0 (k : Nat) {u m : Nat} (hu : u < 18446744073709551616) (h : Grp m u) (base : List Int) (hb : base.length + 20 ≤ 1000000) : ∀ n i t, i ≤ m → m ≤ 9 → m - i < n →
    ref01_N_l0 k n base ((u / 128 ^ (i + 1) : Nat) : Int) t (wt i u ++ [((u % 128 : Nat) : Int)]) = some (base ++ (wt m u ++ [((u % 128 : Nat) : Int)]), ())
  | 0, _, _, _, _, h => absurd h (Nat.not_lt_zero _)
  | n + 1, i, t, hi, hm, hn => by
    rw [ref01_N_l0_eq]
    have hd : ∀ j, u / 128 ^ (j + 1) = u / 128 ^ j / 128 := fun j => by rw [Nat.pow_succ, Nat.div_div_eq_div_mul]
    by_cases c : i < m
    · have h1 := h.2 i c
      have hpos : 0 < u / 128 ^ (i + 1) := by rw [hd i]; exact Nat.div_pos h1 (by decide)
      have hle : u / 128 ^ (i + 1) ≤ u := Nat.div_le_self _ _
      have h3 := hd (i + 1)
      have ih := r_l0 k hu h base hb n (i + 1) false c hm (by omega)
      rw [h3] at ih
      have hw : wt (i + 1) u = (((u / 128 ^ (i + 1) % 128 + 128 : Nat)) : Int) :: wt i u := rfl
      rw [hw] at ih
      generalize u / 128 ^ (i + 1) = v at *
      have e1 : Int.tmod ((v : Nat) : Int) 128 = ((v % 128 : Nat) : Int) := rfl
      have e2 : Int.tdiv ((v : Nat) : Int) 128 = ((v / 128 : Nat) : Int) := rfl
      have hm128 := Nat.mod_lt v (show 0 < 128 by decide)
      have hd128 := Nat.div_le_self v 128
      rw [bt (by omega), lim_ok (by simp [wt_length]; omega), e1, e2, wr_u8 (n := ((v % 128 : Nat) : Int)) (by omega), wr_u8 (by omega), wr_u64 (by omega)]
      have e3 : (((v % 128 : Nat) : Int) + 128) = ((v % 128 + 128 : Nat) : Int) := by omega
      rw [e3]
      exact ih
    · have : i = m := by omega
      subst this
      have h3 : u / 128 ^ (i + 1) = 0 := by rw [hd i]; exact Nat.div_eq_of_lt h.1
      rw [h3, bf (by simp), lim_ok (by omega), lim_ok (by simp [wt_length]; omega)]
      rfl
theorem r_N (k : Nat) {u m : Nat} (hu : u < 18446744073709551616) (hm : m ≤ 9) (h : Grp m u) (base : List Int) (hb : base.length + 20 ≤ 1000000) :
    ref01_N (k + 20) base (u : Int) = some (base ++ (wt m u ++ [((u % 128 : Nat) : Int)]), ()) := by
  have := r_l0 (k + 20) hu h base hb (k + 20) 0 false (by omega) hm (by omega)
  have e1 : Int.tmod ((u : Nat) : Int) 128 = ((u % 128 : Nat) : Int) := rfl
  have e2 : Int.tdiv ((u : Nat) : Int) 128 = ((u / 128 : Nat) : Int) := rfl
  have hm128 := Nat.mod_lt u (show 0 < 128 by decide)
  have hd128 := Nat.div_le_self u 128
  rw [ref01_N_eq, e1, e2, wr_u8 (by omega), wr_u64 (by omega)]
  rw [show u / 128 ^ (0 + 1) = u / 128 by rw [Nat.zero_add, Nat.pow_one]] at this
  exact this
/-- Both write a number alike. -/
theorem N_both {u : Nat} (hu : u < 18446744073709551616) : ∃ e : List Int, e.length ≤ 10 ∧ ∀ k out, List.length out + 20 ≤ 1000000 → row_Writer_N (k + 20) [(u : Int)] out = some ((), ((out ++ e, ()), ())) ∧ ref01_N (k + 20) out (u : Int) = some (out ++ e, ()) := by
  obtain ⟨m, hm, h⟩ := grp_ex 9 u (by rw [show (128 : Nat) ^ 9 = 9223372036854775808 by decide]; omega)
  exact ⟨wt m u ++ [((u % 128 : Nat) : Int)], by simp [wt_length]; omega, fun k out ho => ⟨w_N k hm h out (by omega), r_N k hu hm h out ho⟩⟩
theorem number_bad (k : Nat) : row_number (k + 20) [(128 : Int), (5 : Int)] = some (((0 : Int), ((0 : Int), ())), ()) := by
  rw [row_number_eq]
  show row_number_l0 (k + 20) (k + 19 + 1) _ _ _ _ = _
  rw [row_number_l0_eq]
  rfl
theorem awake03_is (k : Nat) : law03_awake (k + 20) = some (true, ()) := by
  have hg : Grp 1 300 := ⟨by decide, fun i hi => by
    have : i = 0 := by omega
    subst this; decide⟩
  rw [law03_awake_eq, show row_Writer_N (k + 20) [(300 : Int)] [] = _ from w_N k (u := 300) (by omega) hg [] (by simp), Option.bind_some, row_Writer_Bytes_eq, lim_ok (by simp [wt_length]), Option.bind_some, row_Read_eq, lim_ok (by simp), Option.bind_some]
  simp only [row_Reader_ok_eq, row_Reader_N_eq, row_Reader_fail_eq, row_Reader_End_eq, List.nil_append, number_bad, Option.bind_some, Bool.not_true, cond_false]
  decide +kernel
/-! ### Reading -/
def numG : Nat → Nat → List Int → Option (Nat × List Int)
  | _, _, [] => none
  | i, n, x :: r => if i = 10 then none else if i = 0 ∧ x = 128 then none else if 144115188075855872 ≤ n then none
    else if x < 128 then some (n * 128 + x.toNat % 128, r) else numG (i + 1) (n * 128 + x.toNat % 128) r
theorem numG_cons (i n : Nat) (x : Int) (r : List Int) : numG i n (x :: r) = if i = 10 then none else if i = 0 ∧ x = 128 then none else if 144115188075855872 ≤ n then none
    else if x < 128 then some (n * 128 + x.toNat % 128, r) else numG (i + 1) (n * 128 + x.toNat % 128) r := rfl
theorem numG_back : ∀ (f : List Int) (i n m : Nat) (r : List Int), numG i n f = some (m, r) → (∃ p, f = p ++ r ∧ 1 ≤ p.length) ∧ m < 18446744073709551616
  | [], _, _, _, _, h => by simp [numG] at h
  | x :: f, i, n, m, r, h => by
    rw [numG_cons] at h
    split at h
    · cases h
    · split at h
      · cases h
      · split at h
        · cases h
        · split at h
          · injection h with h; injection h with h1 h2
            have := Nat.mod_lt x.toNat (show 0 < 128 by decide)
            exact ⟨⟨[x], by rw [h2]; rfl, by simp⟩, by omega⟩
          · obtain ⟨⟨p, hp, _⟩, h2⟩ := numG_back f _ _ _ _ h
            exact ⟨⟨x :: p, by rw [hp]; rfl, by simp⟩, h2⟩
theorem or_add7 {a x : Nat} (h : x < 128) : (a * 128) ||| x = a * 128 + x := by
  have := Nat.two_pow_add_eq_or_of_lt (i := 7) h a
  rw [Nat.mul_comm a 128]
  exact this.symm
theorem grp_step {n : Nat} {x : Int} (hn : n < 144115188075855872) (hx : 0 ≤ x ∧ x ≤ 255) : Go.bits .or .u64 (wr .u64 ((n : Int) * 128)) (wr .u64 (Go.bits .andNot .u8 x 128)) = ((n * 128 + x.toNat % 128 : Nat) : Int) := by
  obtain ⟨y, rfl⟩ := Int.eq_ofNat_of_zero_le hx.1
  have e0 : Go.bits .andNot .u8 (y : Int) 128 = ((y % 128 : Nat) : Int) := not128 ⟨y, by omega⟩
  have hm := Nat.mod_lt y (show 0 < 128 by decide)
  have e1 : wr .u64 ((n : Int) * 128) = ((n * 128 : Nat) : Int) := by rw [wr_u64 (by omega)]; omega
  rw [e0, e1, wr_u64 (by omega), u64_or_nat _ _ (by omega) (by omega), or_add7 hm, Int.toNat_natCast]
theorem grp_step2 {n : Nat} {x : Int} (hn : n < 144115188075855872) (hx : 0 ≤ x ∧ x ≤ 255) : wr .u64 ((wr .u64 ((n : Int) * 128)) + (wr .u64 (Int.tmod x 128))) = ((n * 128 + x.toNat % 128 : Nat) : Int) := by
  obtain ⟨y, rfl⟩ := Int.eq_ofNat_of_zero_le hx.1
  have e0 : Int.tmod (y : Int) 128 = ((y % 128 : Nat) : Int) := rfl
  have hm := Nat.mod_lt y (show 0 < 128 by decide)
  rw [e0, wr_u64 (n := (n : Int) * 128) (by omega), wr_u64 (n := ((y % 128 : Nat) : Int)) (by omega), wr_u64 (by omega), Int.toNat_natCast]
  omega
theorem dn {α : Type} {l : List α} {t : Nat} {x : α} {r : List α} (h : l.drop t = x :: r) : l[t]? = some x ∧ l.drop (t + 1) = r ∧ t < l.length ∧ l.length - t = r.length + 1 := by
  have hlt : t < l.length := by
    rcases Nat.lt_or_ge t l.length with h1 | h1
    · exact h1
    · rw [List.drop_eq_nil_of_le h1] at h; cases h
  rw [List.drop_eq_getElem_cons hlt] at h
  injection h with h1 h2
  have h3 := congrArg List.length h2
  simp at h3
  exact ⟨by rw [List.getElem?_eq_getElem hlt, h1], h2, hlt, by omega⟩
abbrev Byt (l : List Int) : Prop := ∀ x ∈ l, (Lit.int .u8 x).wf = true
def numT (l : List Int) : Option (Nat × List Int) → (Int × (Int × Unit)) × Unit
  | some p => (((p.1 : Int), (((l.length - p.2.length : Nat) : Int), ())), ())
  | none => (((0 : Int), ((0 : Int), ())), ())
theorem number_l0 (k : Nat) {l : List Int} (hl : l.length ≤ 1000000000) (hw : Byt l) : ∀ n j (acc : Nat), j ≤ 10 → j ≤ l.length → 10 - j < n →
    row_number_l0 k n (acc : Int) l (l.length : Int) (j : Int) = some (numT l (numG j acc (l.drop j)))
  | 0, _, _, _, _, h => absurd h (Nat.not_lt_zero _)
  | n + 1, j, acc, hj, hjl, hn => by
    rw [row_number_l0_eq]
    match hd : l.drop j with
    | [] =>
      have : j = l.length := by have := congrArg List.length hd; simp at this; omega
      rw [bf (by omega)]; rfl
    | x :: r =>
      obtain ⟨h1, h2, h3, h4⟩ := dn hd
      have hx := wf_u8 (hw x (List.mem_of_getElem? h1))
      rw [bt (by omega), nth_get h1, Option.bind_some, numG_cons]
      by_cases c10 : j = 10
      · rw [bt (by omega), if_pos c10]; rfl
      rw [bf (by omega), if_neg c10]
      have rest : (bif !decide ((acc : Int) / 144115188075855872 = 0) then some (((0 : Int), ((0 : Int), ())), ()) else bif decide (x < 128) then some ((Go.bits .or .u64 (wr .u64 ((acc : Int) * 128)) (wr .u64 (Go.bits .andNot .u8 x 128)), ((wr .i64 ((j : Int) + 1)), ())), ()) else row_number_l0 k n (Go.bits .or .u64 (wr .u64 ((acc : Int) * 128)) (wr .u64 (Go.bits .andNot .u8 x 128))) l (l.length : Int) (wr .i64 ((j : Int) + 1))) = some (numT l (if 144115188075855872 ≤ acc then none else if x < 128 then some (acc * 128 + x.toNat % 128, r) else numG (j + 1) (acc * 128 + x.toNat % 128) r)) := by
        by_cases ca : 144115188075855872 ≤ acc
        · rw [bif_true (by simp; omega), if_pos ca]; rfl
        rw [bif_false (by simp; omega), if_neg ca, grp_step (by omega) hx, wr_next h3 (by omega)]
        by_cases cx : x < 128
        · rw [bt cx, if_pos cx]
          show _ = some ((((_ : Nat) : Int), (((l.length - r.length : Nat) : Int), ())), ())
          rw [show l.length - r.length = j + 1 by omega]
        · rw [bf cx, if_neg cx]
          have := number_l0 k hl hw n (j + 1) (acc * 128 + x.toNat % 128) (by omega) (by omega) (by omega)
          rw [h2] at this
          exact this
      by_cases c0 : j = 0
      · rw [bt (by omega)]
        by_cases cx : x = 128
        · rw [bt cx, if_pos ⟨c0, cx⟩]; rfl
        · rw [bf cx, if_neg (by omega)]; exact rest
      · rw [bf (by omega), if_neg (by omega)]; exact rest
theorem number_is (k : Nat) {l : List Int} (hl : l.length ≤ 1000000000) (hw : Byt l) : row_number (k + 20) l = some (numT l (numG 0 0 l)) := by
  rw [row_number_eq]
  exact number_l0 (k + 20) hl hw (k + 20) 0 0 (by omega) (by omega) (by omega)
def rN (most : Int) : Option (List Int) → Int × Option (List Int)
  | none => (0, none)
  | some f => match numG 0 0 f with
    | none => (0, none)
    | some (n, r) => if most < n then (0, none) else ((n : Int), some r)
theorem rN_n {most : Int} {f : List Int} (h : numG 0 0 f = none) : rN most (some f) = (0, none) := by
  show (match numG 0 0 f with | none => (0, none) | some (n, r) => if most < n then (0, none) else ((n : Int), some r)) = _
  rw [h]
theorem rN_s {most : Int} {f r : List Int} {n : Nat} (h : numG 0 0 f = some (n, r)) : rN most (some f) = if most < n then (0, none) else ((n : Int), some r) := by
  show (match numG 0 0 f with | none => (0, none) | some (n, r) => if most < n then (0, none) else ((n : Int), some r)) = _
  rw [h]
def Fine (st : Option (List Int)) : Prop := ∀ f, st = some f → Byt f ∧ f.length ≤ 1000000000
theorem fine_none : Fine none := fun f h => by cases h
theorem rN_fine {most : Int} {st : Option (List Int)} (h : Fine st) : Fine (rN most st).2 ∧ (0 ≤ (rN most st).1 ∧ (rN most st).1 < 18446744073709551616) ∧ (0 ≤ most → (rN most st).1 ≤ most) := by
  cases st with
  | none => exact ⟨h, by simp [rN], fun h => h⟩
  | some f =>
    obtain ⟨h1, h2⟩ := h f rfl
    cases hg : numG 0 0 f with
    | none => rw [rN_n hg]; exact ⟨fine_none, by simp, fun h => h⟩
    | some p =>
      obtain ⟨n, r⟩ := p
      obtain ⟨⟨p, hp, _⟩, hlt⟩ := numG_back f _ _ _ _ hg
      rw [rN_s hg]
      split
      · exact ⟨fine_none, by simp, fun h => h⟩
      · refine ⟨fun g hgg => ?_, by simp; omega, fun _ => by simp; omega⟩
        injection hgg with hgg
        subst hgg
        subst hp
        exact ⟨fun x hx => h1 x (List.mem_append_right _ hx), by simp at h2; omega⟩
abbrev cE (st : Option (List Int)) : (List Int × (Bool × Unit)) × Unit := ((st.getD [], (st.isSome, ())), ())
abbrev rE (st : Option (List Int)) : (List Int × (Bool × Unit)) × Unit := ((st.getD [], (st.isNone, ())), ())
theorem cN (k : Nat) (most : Int) {st : Option (List Int)} (h : Fine st) : row_Reader_N (k + 20) most (st.getD []) st.isSome = some ((rN most st).1, cE (rN most st).2) := by
  rw [row_Reader_N_eq, row_Reader_ok_eq, Option.bind_some]
  cases st with
  | none => rfl
  | some f =>
    obtain ⟨h1, h2⟩ := h f rfl
    simp only [Option.isSome_some, Bool.not_true, cond_false, Option.getD_some, number_is k h2 h1, Option.bind_some]
    cases hg : numG 0 0 f with
    | none => rw [rN_n hg]; rfl
    | some p =>
      obtain ⟨n, r⟩ := p
      obtain ⟨⟨p, hp, h1p⟩, _⟩ := numG_back f _ _ _ _ hg
      have hlen : f.length = p.length + r.length := by rw [hp]; simp
      rw [rN_s hg]
      show (bif decide (((f.length - r.length : Nat) : Int) = 0) then _ else bif decide (most < (n : Int)) then (row_Reader_fail (k + 20) f true).bind _ else (cut f ((f.length - r.length : Nat) : Int) f.length).bind _) = _
      rw [bf (by omega)]
      by_cases c : most < (n : Int)
      · rw [bt c, if_pos c]; rfl
      · rw [bf c, if_neg c, cut_from (by omega), Option.bind_some]
        have : f.drop (f.length - r.length) = r := by rw [show f.length - r.length = p.length by omega, hp]; exact List.drop_left
        rw [this]; rfl
def zagF (u : Int) : Int := if u % 2 = 0 then u / 2 else -1 - u / 2
theorem zag_is (k : Nat) {u : Int} (h : 0 ≤ u ∧ u < 18446744073709551616) : num_Zag k u = some (zagF u, ()) := by
  rw [num_Zag_eq]
  unfold wr zagF
  rw [← zag_eq h]
  simp only [wrap_i64, Int.zero_sub]
def rI (st : Option (List Int)) : Int × Option (List Int) := (zagF (rN 18446744073709551615 st).1, (rN 18446744073709551615 st).2)
theorem cI (k : Nat) {st : Option (List Int)} (h : Fine st) : row_Reader_I (k + 20) (st.getD []) st.isSome = some ((rI st).1, cE (rI st).2) := by
  rw [row_Reader_I_eq, cN k _ h, Option.bind_some, zag_is _ (rN_fine h).2.1]; rfl
def rT (most : Int) (st : Option (List Int)) : List Int × Option (List Int) :=
  if most < 0 then ([], none) else match (rN most st).2 with
    | none => ([], none)
    | some r => if (r.length : Int) < (rN most st).1 then ([], none) else (r.take (rN most st).1.toNat, some (r.drop (rN most st).1.toNat))
theorem rT_fine {most : Int} {st : Option (List Int)} (h : Fine st) : Fine (rT most st).2 := by
  have h2 := (rN_fine (most := most) h).1
  unfold rT
  split
  · intro f h; cases h
  · cases hr : (rN most st).2 with
    | none => intro f h; cases h
    | some r =>
      simp only
      split
      · intro f h; cases h
      · intro f hf
        injection hf with hf
        subst hf
        obtain ⟨g1, g2⟩ := h2 r hr
        exact ⟨fun x hx => g1 x (List.mem_of_mem_drop hx), by simp; omega⟩
theorem cT (k : Nat) {most : Int} (hm : most < 9223372036854775808) {st : Option (List Int)} (h : Fine st) : row_Reader_Text (k + 20) most (st.getD []) st.isSome = some ((rT most st).1, cE (rT most st).2) := by
  rw [row_Reader_Text_eq]
  unfold rT
  simp only [row_Reader_fail_eq, row_Reader_ok_eq, Option.bind_some]
  by_cases c : most < 0
  · rw [bt c, if_pos c]; rfl
  rw [bf c, if_neg c, wr_u64 (by omega), cN k _ h, Option.bind_some]
  have hb := (rN_fine (most := most) h)
  generalize rN most st = q at *
  obtain ⟨u, st'⟩ := q
  cases st' with
  | none => rfl
  | some r =>
    obtain ⟨v, rfl⟩ := Int.eq_ofNat_of_zero_le hb.2.1.1
    have hr := (hb.1 r rfl).2
    show (bif !true then _ else bif decide (wr .u64 (r.length : Int) < (v : Int)) then some ([], (([], (false, ())), ())) else (cut r 0 (v : Int)).bind fun x280 => lim (0 + x280.length) ((cut r (v : Int) r.length).bind fun x281 => some (([] ++ x280), ((x281, (true, ())), ())))) = some ((if (r.length : Int) < (v : Int) then ([], none) else (r.take v, some (r.drop v)) : List Int × Option (List Int)).1, cE (if (r.length : Int) < (v : Int) then ([], none) else (r.take v, some (r.drop v)) : List Int × Option (List Int)).2)
    rw [Bool.not_true, cond_false, wr_u64 (by omega)]
    by_cases d : (r.length : Int) < (v : Int)
    · rw [bt d, if_pos d]; rfl
    · rw [bf d, if_neg d, cut_all (by omega), Option.bind_some, lim_ok (by simp; omega), cut_from (by omega), Option.bind_some]; rfl
abbrev ValT := Int × (Int × ((List Int) × Unit))
def vOf (kd : Int) (n : Int) (s : List Int) : Option (List Int) → ValT × Option (List Int)
  | none => ((0, (0, ([], ()))), none)
  | some f => ((kd, (n, (s, ()))), some f)
def rV (st : Option (List Int)) : ValT × Option (List Int) :=
  if (rN 2 st).1 = 1 then vOf 1 (rI (rN 2 st).2).1 [] (rI (rN 2 st).2).2
  else if (rN 2 st).1 = 2 then vOf 2 0 (rT 1000 (rN 2 st).2).1 (rT 1000 (rN 2 st).2).2
  else vOf (rN 2 st).1 0 [] (rN 2 st).2
theorem vOf_fine {kd n : Int} {s : List Int} {st : Option (List Int)} (h : Fine st) : Fine (vOf kd n s st).2 := by cases st <;> exact h
theorem rV_fine {st : Option (List Int)} (h : Fine st) : Fine (rV st).2 := by
  have h2 := (rN_fine (most := 2) h).1
  unfold rV
  split
  · exact vOf_fine (rN_fine h2).1
  · split
    · exact vOf_fine (rT_fine h2)
    · exact vOf_fine h2
theorem cV_j0 (k : Nat) (a b : Int) (c : List Int) (kd n : Int) (s : List Int) (st : Option (List Int)) : row_Reader_Value_j0 (k + 1) (st.getD []) st.isSome a b c kd n s = some ((vOf kd n s st).1, ((cE (vOf kd n s st).2).1, ((vOf kd n s st).1, ()))) := by
  rw [row_Reader_Value_j0_eq, row_Reader_ok_eq]
  cases st <;> rfl
theorem cV (k : Nat) {st : Option (List Int)} (h : Fine st) : row_Reader_Value (k + 20) (st.getD []) st.isSome = some ((rV st).1, ((cE (rV st).2).1, ((rV st).1, ()))) := by
  rw [row_Reader_Value_eq, cN k _ h, Option.bind_some]
  have hb := rN_fine (most := 2) h
  unfold rV
  generalize rN 2 st = q at *
  obtain ⟨u, st'⟩ := q
  have hu := hb.2.2 (by omega)
  have hu0 := hb.2.1.1
  have hu : u ≤ 2 := hu
  have hu0 : 0 ≤ u := hu0
  simp only
  rw [wr_i64 (by omega)]
  by_cases c1 : u = 1
  · rw [bt c1, if_pos c1, cI k hb.1, Option.bind_some]
    subst c1
    exact cV_j0 (k + 19) _ _ _ _ _ _ _
  rw [bf c1, if_neg c1]
  by_cases c2 : u = 2
  · rw [bt c2, if_pos c2, cT k (by omega) hb.1, Option.bind_some]
    subst c2
    show row_Reader_Value_j1 (k + 19 + 1) _ _ _ _ _ _ _ _ = _
    rw [row_Reader_Value_j1_eq]
    exact cV_j0 (k + 19) _ _ _ _ _ _ _
  · rw [bf c2, if_neg c2]
    show row_Reader_Value_j1 (k + 19 + 1) _ _ _ _ _ _ _ _ = _
    rw [row_Reader_Value_j1_eq]
    exact cV_j0 (k + 19) _ _ _ _ _ _ _
theorem rN_l0 (k : Nat) (most : Int) {l : List Int} (hl : l.length ≤ 1000000000) (hw : Byt l) (b : Bool) : ∀ n j (acc : Nat), j ≤ 10 → j ≤ l.length → 10 - j < n →
    ref01_Reader_N_l0 k n most (acc : Int) (j : Int) l b = some (match numG j acc (l.drop j) with
      | none => ((0 : Int), rE none)
      | some (m, r) => if most < m then ((0 : Int), rE none) else ((m : Int), ((r, (b, ())), ())))
  | 0, _, _, _, _, h => absurd h (Nat.not_lt_zero _)
  | n + 1, j, acc, hj, hjl, hn => by
    rw [ref01_Reader_N_l0_eq]
    simp only [ref01_Reader_fail_eq, Option.bind_some]
    match hd : l.drop j with
    | [] =>
      have : j = l.length := by have := congrArg List.length hd; simp at this; omega
      rw [bf (by omega)]; rfl
    | x :: r =>
      obtain ⟨h1, h2, h3, h4⟩ := dn hd
      have hx := wf_u8 (hw x (List.mem_of_getElem? h1))
      rw [bt (by omega), numG_cons]
      by_cases c10 : j = 10
      · rw [bf (by omega), if_pos c10]; rfl
      rw [bt (by omega), if_neg c10, nth_get h1, Option.bind_some]
      have rest : (bif decide (144115188075855872 ≤ (acc : Int)) then some ((0 : Int), (([], (true, ())), ())) else bif decide (x < 128) then bif decide (most < wr .u64 (wr .u64 ((acc : Int) * 128) + wr .u64 (Int.tmod x 128))) then some ((0 : Int), (([], (true, ())), ())) else (cut l (wr .i64 ((j : Int) + 1)) l.length).bind fun x97 => some (wr .u64 (wr .u64 ((acc : Int) * 128) + wr .u64 (Int.tmod x 128)), ((x97, (b, ())), ())) else ref01_Reader_N_l0 k n most (wr .u64 (wr .u64 ((acc : Int) * 128) + wr .u64 (Int.tmod x 128))) (wr .i64 ((j : Int) + 1)) l b) = some (match (if 144115188075855872 ≤ acc then none else if x < 128 then some (acc * 128 + x.toNat % 128, r) else numG (j + 1) (acc * 128 + x.toNat % 128) r) with
      | none => ((0 : Int), rE none)
      | some (m, r) => if most < m then ((0 : Int), rE none) else ((m : Int), ((r, (b, ())), ()))) := by
        by_cases ca : 144115188075855872 ≤ acc
        · rw [bt (by omega), if_pos ca]; rfl
        rw [bf (by omega), if_neg ca, grp_step2 (by omega) hx, wr_next h3 (by omega)]
        by_cases cx : x < 128
        · rw [bt cx, if_pos cx]
          simp only
          by_cases cm : most < ((acc * 128 + x.toNat % 128 : Nat) : Int)
          · rw [bt cm, if_pos cm]; rfl
          · rw [bf cm, if_neg cm, cut_from (by omega), Option.bind_some, h2]
        · rw [bf cx, if_neg cx]
          have := rN_l0 k most hl hw b n (j + 1) (acc * 128 + x.toNat % 128) (by omega) (by omega) (by omega)
          rw [h2] at this
          exact this
      by_cases c0 : j = 0
      · rw [bt (by omega)]
        by_cases cx : x = 128
        · rw [bt cx, if_pos ⟨c0, cx⟩]; rfl
        · rw [bf cx, if_neg (by omega)]; exact rest
      · rw [bf (by omega), if_neg (by omega)]; exact rest
theorem fN (k : Nat) (most : Int) {st : Option (List Int)} (h : Fine st) : ref01_Reader_N (k + 20) most (st.getD []) st.isNone = some ((rN most st).1, rE (rN most st).2) := by
  rw [ref01_Reader_N_eq]
  have hf : Byt (st.getD []) ∧ (st.getD []).length ≤ 1000000000 := by
    cases st with
    | none => exact ⟨fun x (hx : x ∈ ([] : List Int)) => (nomatch hx), Nat.zero_le _⟩
    | some f => exact h f rfl
  refine (rN_l0 (k + 20) most hf.2 hf.1 st.isNone (k + 20) 0 0 (by omega) (by omega) (by omega)).trans ?_
  cases st with
  | none => rfl
  | some f =>
    show some (match numG 0 0 f with
      | none => ((0 : Int), rE none)
      | some (m, r) => if most < m then ((0 : Int), rE none) else ((m : Int), ((r, (false, ())), ()))) = _
    cases hg : numG 0 0 f with
    | none => rw [rN_n hg]
    | some p =>
      obtain ⟨n, r⟩ := p
      rw [rN_s hg]
      simp only
      split <;> rfl
theorem fI (k : Nat) {st : Option (List Int)} (h : Fine st) : ref01_Reader_I (k + 20) (st.getD []) st.isNone = some ((rI st).1, rE (rI st).2) := by
  rw [ref01_Reader_I_eq, fN k _ h, Option.bind_some]
  have hb := (rN_fine (most := 18446744073709551615) h).2.1
  unfold rI zagF
  generalize rN 18446744073709551615 st = q at *
  obtain ⟨u, st'⟩ := q
  obtain ⟨v, rfl⟩ := Int.eq_ofNat_of_zero_le hb.1
  have e1 : Int.tmod (v : Int) 2 = ((v % 2 : Nat) : Int) := rfl
  have e2 : Int.tdiv (v : Int) 2 = ((v / 2 : Nat) : Int) := rfl
  have hb : 0 ≤ (v : Int) ∧ (v : Int) < 18446744073709551616 := hb
  show (bif decide (Int.tmod (v : Int) 2 = 1) then some (wr .i64 (wr .i64 (0 - wr .i64 (wr .u64 (Int.tdiv (v : Int) 2))) - 1), rE st') else some (wr .i64 (wr .u64 (Int.tdiv (v : Int) 2)), rE st')) = _
  rw [e1, e2, wr_u64 (n := ((v / 2 : Nat) : Int)) (by omega), wr_i64 (n := ((v / 2 : Nat) : Int)) (by omega)]
  by_cases c : (v : Int) % 2 = 0
  · rw [bf (by omega), if_pos c]
    congr 2
  · rw [bt (by omega), if_neg c, wr_i64 (n := 0 - ((v / 2 : Nat) : Int)) (by omega), wr_i64 (by omega)]
    congr 2
    omega
theorem fT (k : Nat) {most : Int} (hm : most < 9223372036854775808) {st : Option (List Int)} (h : Fine st) : ref01_Reader_Text (k + 20) most (st.getD []) st.isNone = some ((rT most st).1, rE (rT most st).2) := by
  rw [ref01_Reader_Text_eq]
  unfold rT
  simp only [ref01_Reader_fail_eq, Option.bind_some]
  by_cases c : most < 0
  · rw [bt c, if_pos c]; rfl
  rw [bf c, if_neg c, wr_u64 (by omega), fN k _ h, Option.bind_some]
  have hb := (rN_fine (most := most) h)
  generalize rN most st = q at *
  obtain ⟨u, st'⟩ := q
  cases st' with
  | none => rfl
  | some r =>
    obtain ⟨v, rfl⟩ := Int.eq_ofNat_of_zero_le hb.2.1.1
    have hr := (hb.1 r rfl).2
    show (bif decide (wr .u64 (r.length : Int) < (v : Int)) then some ([], (([], (true, ())), ())) else (cut r 0 (v : Int)).bind fun x280 => (cut r (v : Int) r.length).bind fun x281 => some (x280, ((x281, (false, ())), ()))) = some ((if (r.length : Int) < (v : Int) then ([], none) else (r.take v, some (r.drop v)) : List Int × Option (List Int)).1, rE (if (r.length : Int) < (v : Int) then ([], none) else (r.take v, some (r.drop v)) : List Int × Option (List Int)).2)
    rw [wr_u64 (by omega)]
    by_cases d : (r.length : Int) < (v : Int)
    · rw [bt d, if_pos d]; rfl
    · rw [bf d, if_neg d, cut_all (by omega), Option.bind_some, cut_from (by omega), Option.bind_some]; rfl
theorem fV_j0 (k : Nat) (a b : Int) (c : List Int) (kd n : Int) (s : List Int) (st : Option (List Int)) : ref01_Reader_Val_j0 (k + 1) (st.getD []) st.isNone a b c kd n s = some ((vOf kd n s st).1, ((rE (vOf kd n s st).2).1, ((vOf kd n s st).1, ()))) := by
  rw [ref01_Reader_Val_j0_eq]
  cases st <;> rfl
theorem fV (k : Nat) {st : Option (List Int)} (h : Fine st) : ref01_Reader_Val (k + 20) (st.getD []) st.isNone = some ((rV st).1, ((rE (rV st).2).1, ((rV st).1, ()))) := by
  rw [ref01_Reader_Val_eq, fN k _ h, Option.bind_some]
  have hb := rN_fine (most := 2) h
  unfold rV
  generalize rN 2 st = q at *
  obtain ⟨u, st'⟩ := q
  have hu := hb.2.2 (by omega)
  have hu0 := hb.2.1.1
  have hu : u ≤ 2 := hu
  have hu0 : 0 ≤ u := hu0
  simp only
  rw [wr_i64 (by omega)]
  by_cases c1 : u = 1
  · rw [bt c1, if_pos c1, fI k hb.1, Option.bind_some]
    subst c1
    exact fV_j0 (k + 19) _ _ _ _ _ _ _
  rw [bf c1, if_neg c1]
  by_cases c2 : u = 2
  · rw [bt c2, if_pos c2, fT k (by omega) hb.1, Option.bind_some]
    subst c2
    show ref01_Reader_Val_j1 (k + 19 + 1) _ _ _ _ _ _ _ _ = _
    rw [ref01_Reader_Val_j1_eq]
    exact fV_j0 (k + 19) _ _ _ _ _ _ _
  · rw [bf c2, if_neg c2]
    show ref01_Reader_Val_j1 (k + 19 + 1) _ _ _ _ _ _ _ _ = _
    rw [ref01_Reader_Val_j1_eq]
    exact fV_j0 (k + 19) _ _ _ _ _ _ _
/-! ### What is written -/
theorem grp_le {u : Nat} (h : u < 18446744073709551616) : ∃ i, i ≤ 9 ∧ Grp i u := grp_ex 9 u (by rw [show (128 : Nat) ^ 9 = 9223372036854775808 by decide]; omega)
open Classical in
noncomputable def mG (u : Nat) : Nat := if h : ∃ i, i ≤ 9 ∧ Grp i u then Classical.choose h else 0
theorem mG_ok {u : Nat} (h : u < 18446744073709551616) : mG u ≤ 9 ∧ Grp (mG u) u := by
  unfold mG
  rw [dif_pos (grp_le h)]
  exact Classical.choose_spec (grp_le h)
theorem grp_one {u a b : Nat} (ha : Grp a u) (hb : Grp b u) : a = b := by
  rcases Nat.lt_trichotomy a b with h | h | h
  · have := hb.2 a h; have := ha.1; omega
  · exact h
  · have := ha.2 b h; have := hb.1; omega
noncomputable def encN (u : Nat) : List Int := wt (mG u) u ++ [((u % 128 : Nat) : Int)]
theorem encN_length {u : Nat} (h : u < 18446744073709551616) : (encN u).length ≤ 10 ∧ 1 ≤ (encN u).length := by
  have := (mG_ok h).1
  unfold encN
  rw [List.length_append, wt_length]; simp; omega
theorem cwN (k : Nat) {u : Nat} (h : u < 18446744073709551616) (out : List Int) (ho : out.length + 10 ≤ 1000000) : row_Writer_N (k + 20) [(u : Int)] out = some ((), ((out ++ encN u, ()), ())) := w_N k (mG_ok h).1 (mG_ok h).2 out ho
def zigN (a : Int) : Nat := (if 0 ≤ a then 2 * a else -2 * a - 1).toNat
theorem zigN_is {a : Int} (h : -9223372036854775808 ≤ a ∧ a ≤ 9223372036854775807) : ((zigN a : Nat) : Int) = (if 0 ≤ a then 2 * a else -2 * a - 1) ∧ zigN a < 18446744073709551616 := by
  unfold zigN
  split <;> constructor <;> omega
theorem cZig (k : Nat) {a : Int} (h : -9223372036854775808 ≤ a ∧ a ≤ 9223372036854775807) : num_Zig k a = some (((zigN a : Nat) : Int), ()) := by
  rw [num_Zig_eq, (zigN_is h).1]
  unfold wr
  rw [zig_eq h]
theorem cwI (k : Nat) {a : Int} (h : -9223372036854775808 ≤ a ∧ a ≤ 9223372036854775807) (out : List Int) (ho : out.length + 10 ≤ 1000000) : row_Writer_I (k + 20) a out = some ((), ((out ++ encN (zigN a), ()), ())) := by
  rw [row_Writer_I_eq, cZig _ h, Option.bind_some, cwN k (zigN_is h).2 out ho]; rfl
noncomputable def encT (s : List Int) : List Int := encN s.length ++ s
theorem cwT (k : Nat) {s : List Int} (out : List Int) (ho : out.length + s.length + 10 ≤ 1000000) : row_Writer_Text (k + 20) s out = some ((), ((out ++ encT s, ()), ())) := by
  have := encN_length (u := s.length) (by omega)
  rw [row_Writer_Text_eq, wr_u64 (by omega), cwN k (by omega) out (by omega), Option.bind_some, lim_ok (by simp; omega)]
  unfold encT
  simp
abbrev ValW := Int × (Int × ((List Int) × Unit))
noncomputable def encR (v : ValW) : List Int := if v.1 = 1 then encN 1 ++ encN (zigN v.2.1) else if v.1 = 2 then encN 2 ++ encT v.2.2.1 else encN 0
theorem cwV (k : Nat) {v : ValW} (hn : -9223372036854775808 ≤ v.2.1 ∧ v.2.1 ≤ 9223372036854775807) (out : List Int) (ho : out.length + v.2.2.1.length + 30 ≤ 1000000) : row_Writer_Value (k + 20) v out = some ((), ((out ++ encR v, ()), ())) := by
  unfold encR
  have h1 := (encN_length (u := 1) (by omega)).1
  have h2 := (encN_length (u := 2) (by omega)).1
  by_cases c1 : v.1 = 1
  · rw [row_Writer_Value_eq, bt c1, if_pos c1, show row_Writer_N (k + 20) [(1 : Int)] out = _ from cwN k (u := 1) (by omega) out (by omega), Option.bind_some, cwI k hn _ (by simp; omega), Option.bind_some]
    show row_Writer_Value_j0 (k + 19 + 1) _ = _
    rw [row_Writer_Value_j0_eq]; simp
  by_cases c2 : v.1 = 2
  · rw [row_Writer_Value_eq, bf c1, bt c2, if_neg c1, if_pos c2, show row_Writer_N (k + 20) [(2 : Int)] out = _ from cwN k (u := 2) (by omega) out (by omega), Option.bind_some, cwT k _ (by simp; omega), Option.bind_some]
    show row_Writer_Value_j1 (k + 19 + 1) _ = _
    rw [row_Writer_Value_j1_eq, row_Writer_Value_j0_eq]; simp
  · rw [row_Writer_Value_eq, bf c1, bf c2, if_neg c1, if_neg c2, show row_Writer_N (k + 20) [(0 : Int)] out = _ from cwN k (u := 0) (by omega) out (by omega), Option.bind_some]
    show row_Writer_Value_j1 (k + 19 + 1) _ = _
    rw [row_Writer_Value_j1_eq, row_Writer_Value_j0_eq]
/-! Bytes -/
theorem wt_byt : ∀ m n, Byt (wt m n)
  | 0, _, x, h => by cases h
  | m + 1, n, x, h => by
    rcases List.mem_cons.1 (show x ∈ (((n / 128 ^ (m + 1) % 128 + 128 : Nat)) : Int) :: wt m n from h) with rfl | h
    · have := Nat.mod_lt (n / 128 ^ (m + 1)) (show 0 < 128 by decide)
      simp [Lit.wf, IntKind.min, IntKind.max, IntKind.signed, IntKind.bits]; omega
    · exact wt_byt m n x h
theorem encN_byt (u : Nat) : Byt (encN u) := by
  intro x hx
  rcases List.mem_append.1 hx with h | h
  · exact wt_byt _ _ x h
  · simp at h; subst h
    simp [Lit.wf, IntKind.min, IntKind.max, IntKind.signed, IntKind.bits]; omega
theorem encR_byt {v : ValW} (h : Byt v.2.2.1) : Byt (encR v) := by
  unfold encR encT
  intro x hx
  split at hx
  · rcases List.mem_append.1 hx with h | h <;> exact encN_byt _ x h
  · split at hx
    · rcases List.mem_append.1 hx with h1 | h1
      · exact encN_byt _ x h1
      · rcases List.mem_append.1 h1 with h1 | h1
        · exact encN_byt _ x h1
        · exact h x h1
    · exact encN_byt _ x hx
theorem encR_len {v : ValW} (hn : -9223372036854775808 ≤ v.2.1 ∧ v.2.1 ≤ 9223372036854775807) (hs : v.2.2.1.length ≤ 1000000) : (encR v).length ≤ 20 + v.2.2.1.length := by
  have h0 := (encN_length (u := 0) (by omega)).1
  have h1 := (encN_length (u := 1) (by omega)).1
  have h2 := (encN_length (u := 2) (by omega)).1
  have h3 := (encN_length (zigN_is hn).2).1
  have h4 := (encN_length (u := v.2.2.1.length) (by omega)).1
  unfold encR encT
  split
  · simp; omega
  · split
    · simp; omega
    · omega
/-! What is read of it -/
theorem numG_wt {u m : Nat} (hu : u < 18446744073709551616) (hm : m ≤ 9) (h : Grp m u) (r : List Int) : ∀ j i, j ≤ m → i + j = m → numG i (u / 128 ^ (j + 1)) (wt j u ++ ((u % 128 : Nat) : Int) :: r) = some (u, r)
  | 0, i, _, hi => by
    have hd : u / 128 ^ (0 + 1) = u / 128 := by rw [Nat.zero_add, Nat.pow_one]
    have hmod := Nat.mod_lt u (show 0 < 128 by decide)
    show numG i (u / 128 ^ (0 + 1)) (((u % 128 : Nat) : Int) :: r) = _
    rw [numG_cons, if_neg (by omega), if_neg (by omega), hd, if_neg (by omega), if_pos (by omega), Int.toNat_natCast]
    congr 2
    omega
  | j + 1, i, hj, hi => by
    have ih := numG_wt hu hm h r j (i + 1) (by omega) (by omega)
    have h1 : u / 128 ^ (j + 1 + 1) = u / 128 ^ (j + 1) / 128 := by rw [Nat.pow_succ, Nat.div_div_eq_div_mul]
    have hlead : i = 0 → 1 ≤ u / 128 ^ (j + 1) ∧ u / 128 ^ (j + 1) < 128 := by
      intro h0
      have e : j + 1 = m := by omega
      have h2 := h.2 j (by omega)
      have h3 := h.1
      rw [← e] at h3
      refine ⟨?_, h3⟩
      have : u / 128 ^ (j + 1) = u / 128 ^ j / 128 := by rw [Nat.pow_succ, Nat.div_div_eq_div_mul]
      omega
    show numG i (u / 128 ^ (j + 1 + 1)) ((((u / 128 ^ (j + 1) % 128 + 128 : Nat)) : Int) :: (wt j u ++ ((u % 128 : Nat) : Int) :: r)) = _
    have hle : u / 128 ^ (j + 1) ≤ u := Nat.div_le_self _ _
    rw [h1]
    generalize u / 128 ^ (j + 1) = v at *
    have hmod := Nat.mod_lt v (show 0 < 128 by decide)
    rw [numG_cons, if_neg (by omega), if_neg (by intro ⟨h0, h5⟩; have := hlead h0; omega), if_neg (by omega), if_neg (by omega), Int.toNat_natCast]
    have : v / 128 * 128 + (v % 128 + 128) % 128 = v := by omega
    rw [this]
    exact ih
theorem numG_enc {u : Nat} (hu : u < 18446744073709551616) (r : List Int) : numG 0 0 (encN u ++ r) = some (u, r) := by
  obtain ⟨hm, h⟩ := mG_ok hu
  have := numG_wt hu hm h r (mG u) 0 (Nat.le_refl _) (by omega)
  have h0 : u / 128 ^ (mG u + 1) = 0 := by rw [Nat.pow_succ, ← Nat.div_div_eq_div_mul]; exact Nat.div_eq_of_lt h.1
  rw [h0] at this
  unfold encN
  rw [List.append_assoc]
  exact this
theorem rN_enc {u : Nat} {most : Int} (hu : u < 18446744073709551616) (hm : (u : Int) ≤ most) (r : List Int) : rN most (some (encN u ++ r)) = ((u : Int), some r) := by
  rw [rN_s (numG_enc hu r), if_neg (by omega)]
theorem rI_enc {a : Int} (h : -9223372036854775808 ≤ a ∧ a ≤ 9223372036854775807) (r : List Int) : rI (some (encN (zigN a) ++ r)) = (a, some r) := by
  have hz := zigN_is h
  unfold rI
  rw [rN_enc hz.2 (by omega)]
  have e : zagF ((zigN a : Nat) : Int) = a := by
    rw [hz.1]; unfold zagF
    by_cases c : 0 ≤ a
    · rw [if_pos c, if_pos (by omega)]; omega
    · rw [if_neg c, if_neg (by omega)]; omega
  simp only [e]
theorem rT_enc {s : List Int} {most : Int} (hs : (s.length : Int) ≤ most) (h : s.length < 18446744073709551616) (r : List Int) : rT most (some (encT s ++ r)) = (s, some r) := by
  unfold rT encT
  rw [List.append_assoc, rN_enc h hs, if_neg (by omega)]
  show (if ((s ++ r).length : Int) < (s.length : Int) then (([] : List Int), none) else ((s ++ r).take ((s.length : Int)).toNat, some ((s ++ r).drop ((s.length : Int)).toNat))) = _
  rw [if_neg (by simp; omega), Int.toNat_natCast, List.take_left, List.drop_left]
def plainW (v : ValW) : ValW := if v.1 = 1 then (1, (v.2.1, ([], ()))) else if v.1 = 2 then (2, (0, (v.2.2.1, ()))) else (0, (0, ([], ())))
theorem rV_enc {v : ValW} (hn : -9223372036854775808 ≤ v.2.1 ∧ v.2.1 ≤ 9223372036854775807) (hs : v.1 = 2 → v.2.2.1.length ≤ 1000) (r : List Int) : rV (some (encR v ++ r)) = (plainW v, some r) := by
  unfold encR plainW
  by_cases c1 : v.1 = 1
  · rw [if_pos c1, if_pos c1]
    unfold rV
    rw [List.append_assoc, rN_enc (u := 1) (by omega) (by omega)]
    refine (if_pos (show ((1 : Nat) : Int) = 1 from rfl)).trans ?_
    rw [rI_enc hn]; rfl
  rw [if_neg c1, if_neg c1]
  by_cases c2 : v.1 = 2
  · have := hs c2
    rw [if_pos c2, if_pos c2]
    unfold rV
    rw [List.append_assoc, rN_enc (u := 2) (by omega) (by omega)]
    refine (if_neg (show ¬ ((2 : Nat) : Int) = 1 by decide)).trans ((if_pos (show ((2 : Nat) : Int) = 2 from rfl)).trans ?_)
    rw [rT_enc (by omega) (by omega)]; rfl
  · rw [if_neg c2, if_neg c2]
    unfold rV
    rw [rN_enc (u := 0) (by omega) (by omega)]
    exact (if_neg (show ¬ ((0 : Nat) : Int) = 1 by decide)).trans (if_neg (show ¬ ((0 : Nat) : Int) = 2 by decide))
theorem rwN (k : Nat) {u : Nat} (h : u < 18446744073709551616) (out : List Int) (ho : out.length + 20 ≤ 1000000) : ref01_N (k + 20) out (u : Int) = some (out ++ encN u, ()) := r_N k h (mG_ok h).1 (mG_ok h).2 out ho
theorem rZig (k : Nat) {a : Int} (h : -9223372036854775808 ≤ a ∧ a ≤ 9223372036854775807) : ref01_Zig k a = some (((zigN a : Nat) : Int), ()) := by
  rw [ref01_Zig_eq, (zigN_is h).1]
  unfold wr
  simp only [wu64, wrap_i64]
  unfold wrap64
  by_cases h0 : 0 ≤ a
  · simp only [h0, decide_true, cond_true, if_true]
    congr 2
    omega
  · simp only [h0, decide_false, cond_false, if_false]
    congr 2
    omega
theorem rwT (k : Nat) {s : List Int} (out : List Int) (ho : out.length + s.length + 20 ≤ 1000000) : ref01_Text (k + 20) out s = some (out ++ encT s, ()) := by
  have := encN_length (u := s.length) (by omega)
  rw [ref01_Text_eq, wr_u64 (by omega), rwN k (by omega) out (by omega), Option.bind_some, lim_ok (by simp; omega)]
  unfold encT
  simp
theorem rwV (k : Nat) {v : ValW} (hn : -9223372036854775808 ≤ v.2.1 ∧ v.2.1 ≤ 9223372036854775807) (out : List Int) (ho : out.length + v.2.2.1.length + 40 ≤ 1000000) : ref01_Val (k + 20) out v = some (out ++ encR v, ()) := by
  unfold encR
  have h1 := (encN_length (u := 1) (by omega)).1
  have h2 := (encN_length (u := 2) (by omega)).1
  by_cases c1 : v.1 = 1
  · rw [ref01_Val_eq, bt c1, if_pos c1, show ref01_N (k + 20) out (1 : Int) = _ from rwN k (u := 1) (by omega) out (by omega), Option.bind_some, rZig _ hn, Option.bind_some, rwN k (zigN_is hn).2 _ (by simp; omega)]
    simp
  by_cases c2 : v.1 = 2
  · rw [ref01_Val_eq, bf c1, bt c2, if_neg c1, if_pos c2, show ref01_N (k + 20) out (2 : Int) = _ from rwN k (u := 2) (by omega) out (by omega), Option.bind_some, rwT k _ (by simp; omega)]
    simp
  · rw [ref01_Val_eq, bf c1, bf c2, if_neg c1, if_neg c2, show ref01_N (k + 20) out (0 : Int) = _ from rwN k (u := 0) (by omega) out (by omega)]
    rfl
/-! ### Rows -/
noncomputable def ofR : Nat → Option (List Int) → List ValW × Option (List Int)
  | 0, st => ([], st)
  | n + 1, st => ((rV st).1 :: (ofR n (rV st).2).1, (ofR n (rV st).2).2)
theorem ofR_fine : ∀ n {st}, Fine st → Fine (ofR n st).2
  | 0, _, h => h
  | n + 1, _, h => ofR_fine n (rV_fine h)
theorem ofR_len : ∀ n st, (ofR n st).1.length = n
  | 0, _ => rfl
  | n + 1, st => congrArg (· + 1) (ofR_len n _)
def endR (st : Option (List Int)) : Bool := match st with | some [] => true | _ => false
def resR (l : List ValW) (e : Bool) : (List ValW × (Int × Unit)) × Unit := if e then ((l, ((0 : Int), ())), ()) else (([], ((30 : Int), ())), ())
theorem cEnd (k : Nat) (st : Option (List Int)) : row_Reader_End k (st.getD []) st.isSome = some (if endR st then (0 : Int) else 30, cE st) := by
  rw [row_Reader_End_eq, row_Reader_ok_eq]
  cases st with
  | none => rfl
  | some f =>
    cases f with
    | nil => rfl
    | cons x r =>
      exact bt (p := 0 < ((x :: r).length : Int)) (by simp; try omega)
theorem of_l0 (k : Nat) : ∀ n1 n b acc st, Fine st → n < n1 → List.length acc + n ≤ 1000 → row_Of_l0 (k + 20) n1 b acc (n : Int) (st.getD []) st.isSome = some (resR (acc ++ (ofR n st).1) (endR (ofR n st).2))
  | 0, _, _, _, _, _, h, _ => absurd h (Nat.not_lt_zero _)
  | n1 + 1, 0, b, acc, st, hf, _, _ => by
    rw [row_Of_l0_eq, bf (by omega), cEnd, Option.bind_some]
    show (bif !decide ((if endR st then (0 : Int) else 30) = 0) then _ else _) = some (resR (acc ++ []) (endR st))
    cases he : endR st with
    | true => simp [resR]
    | false => simp [resR]
  | n1 + 1, n + 1, b, acc, st, hf, hn, ha => by
    rw [row_Of_l0_eq, bt (by omega), cV k hf, Option.bind_some, lim_ok (by simp; omega), wr_u64 (by omega)]
    have e : ((n + 1 : Nat) : Int) - 1 = (n : Int) := by omega
    have := of_l0 k n1 n (b && [(rV st).1].isEmpty) (acc ++ [(rV st).1]) (rV st).2 (rV_fine hf) (by omega) (by simp; omega)
    rw [List.append_assoc] at this
    rw [e]
    exact this
noncomputable def ofRow (b : List Int) : (List ValW × (Int × Unit)) × Unit := resR (ofR (rN 32 (some b)).1.toNat (rN 32 (some b)).2).1 (endR (ofR (rN 32 (some b)).1.toNat (rN 32 (some b)).2).2)
theorem rowOf_is (k : Nat) {b : List Int} (hb : Byt b) (hl : b.length ≤ 1000000000) : row_Of (k + 50) b = some (ofRow b) := by
  have hf : Fine (some b) := fun f h => by injection h with h; subst h; exact ⟨hb, hl⟩
  have hn := rN_fine (most := 32) hf
  rw [row_Of_eq, row_Read_eq, lim_ok (by omega), Option.bind_some, show row_Reader_N (k + 50) 32 ([] ++ b) true = _ from cN (k + 30) 32 (st := some b) hf, Option.bind_some]
  have h3 := hn.2.2 (by omega)
  unfold ofRow
  generalize rN 32 (some b) = q at *
  obtain ⟨u, st⟩ := q
  obtain ⟨v, rfl⟩ := Int.eq_ofNat_of_zero_le hn.2.1.1
  have h3 : (v : Int) ≤ 32 := h3
  exact of_l0 (k + 30) (k + 50) v true [] st hn.1 (by omega) (by simp; omega)
/-- What a row is written as. -/
def badV (v : ValW) : Bool := decide (v.1 < 0) || decide (2 < v.1) || (decide (v.1 = 2) && decide (1000 < v.2.2.1.length))
noncomputable def putRow (l : List ValW) : (List Int × (Int × Unit)) × Unit := if 32 < l.length then (([], ((30 : Int), ())), ()) else if l.any badV then (([], ((30 : Int), ())), ()) else ((encN l.length ++ l.flatMap encR, ((0 : Int), ())), ())
def vnOk (v : ValW) : Prop := (-9223372036854775808 ≤ v.2.1 ∧ v.2.1 ≤ 9223372036854775807)
theorem put_l0 (k : Nat) {l : List ValW} (hl : ∀ v ∈ l, vnOk v) (hlen : l.length ≤ 40) : ∀ n j out, j ≤ l.length → l.length - j < n → List.length out ≤ 10 + 1100 * j →
    row_Put_l0 (k + 20) n l (l.length : Int) (j : Int) out = some (if (l.drop j).any badV then (([], ((30 : Int), ())), ()) else ((out ++ (l.drop j).flatMap encR, ((0 : Int), ())), ()))
  | 0, _, _, _, h, _ => absurd h (Nat.not_lt_zero _)
  | n + 1, j, out, hj, hn, ho => by
    rw [row_Put_l0_eq]
    by_cases c : j < l.length
    · rw [bt (by omega), nth_get (List.getElem?_eq_getElem c), Option.bind_some, List.drop_eq_getElem_cons c, List.flatMap_cons, List.any_cons]
      have hv := hl _ (List.getElem_mem c)
      generalize l[j] = v at *
      by_cases c1 : v.1 < 0
      · rw [bt c1, show badV v = true by simp [badV, c1], Bool.true_or, if_pos rfl]
      by_cases c2 : 2 < v.1
      · rw [bf c1, bt c2, show badV v = true by simp [badV, c2], Bool.true_or, if_pos rfl]
      rw [bf c1, bf c2]
      have step : v.2.2.1.length ≤ 1000 ∨ v.1 ≠ 2 → (row_Writer_Value (k + 20) (v.1, (v.2.1, (v.2.2.1, ()))) out).bind (fun r62 => row_Put_l0 (k + 20) n l (l.length : Int) (wr .i64 ((j : Int) + 1)) r62.2.1.1) = some (if (l.drop (j + 1)).any badV then (([], ((30 : Int), ())), ()) else ((out ++ (encR v ++ (l.drop (j + 1)).flatMap encR), ((0 : Int), ())), ())) := by
        intro hs
        have hw : row_Writer_Value (k + 20) v out = some ((), ((out ++ encR v, ()), ())) ∧ (encR v).length ≤ 1020 := by
          rcases hs with hs | hs
          · exact ⟨cwV k hv out (by omega), by have := encR_len hv (by omega); omega⟩
          · have e : ∀ s : List Int, encR v = encR (v.1, (v.2.1, (([] : List Int), ()))) := fun _ => by unfold encR; simp only [if_neg hs]
            have e2 : ∀ s : List Int, row_Writer_Value (k + 20) v out = row_Writer_Value (k + 20) (v.1, (v.2.1, (([] : List Int), ()))) out := fun _ => by
              rw [row_Writer_Value_eq, row_Writer_Value_eq]
              show (bif decide (v.1 = 1) then _ else bif decide (v.1 = 2) then _ else _) = (bif decide (v.1 = 1) then _ else bif decide (v.1 = 2) then _ else _)
              rw [bf hs, bf hs]
            rw [e2 [], e []]
            have hl' := encR_len (v := (v.1, (v.2.1, (([] : List Int), ())))) hv (by simp)
            exact ⟨cwV k (v := (v.1, (v.2.1, (([] : List Int), ())))) hv out (by simp; omega), by simp at hl'; omega⟩
        rw [show row_Writer_Value (k + 20) (v.1, (v.2.1, (v.2.2.1, ()))) out = _ from hw.1, Option.bind_some, wr_i64 (by omega)]
        have := put_l0 k hl hlen n (j + 1) (out ++ encR v) c (by omega) (by simp; omega)
        rw [List.append_assoc] at this
        exact this
      by_cases c3 : v.1 = 2
      · rw [bt c3]
        by_cases c4 : 1000 < v.2.2.1.length
        · rw [bt (by omega), show badV v = true by simp [badV, c3, c4], Bool.true_or, if_pos rfl]
        · rw [bf (by omega), show badV v = false from (by simp [badV, c1, c2, c3, c4]; try omega), Bool.false_or]
          exact step (.inl (by omega))
      · rw [bf c3, show badV v = false by simp [badV, c1, c2, c3], Bool.false_or]
        exact step (.inr c3)
    · have : j = l.length := by omega
      subst this
      rw [bf (by omega), row_Writer_Bytes_eq, lim_ok (by omega), List.drop_length]
      simp
theorem rowPut_is (k : Nat) {l : List ValW} (hl : ∀ v ∈ l, vnOk v) (hlen : l.length ≤ 40) : row_Put (k + 100) l = some (putRow l) := by
  rw [row_Put_eq]
  unfold putRow
  by_cases c : 32 < l.length
  · rw [bt (by omega), if_pos c]
  · have h1 := encN_length (u := l.length) (by omega)
    rw [bf (by omega), if_neg c, wr_u64 (by omega), show row_Writer_N (k + 100) [(l.length : Int)] [] = _ from cwN (k + 80) (u := l.length) (by omega) [] (by simp), Option.bind_some]
    have := put_l0 (k + 80) hl hlen (k + 100) 0 (encN l.length) (by omega) (by omega) (by omega)
    exact this
def fewB (l : List ValT) (r : List ValT) : Bool := r.all (fun x => decide (x.2.2.1.length ≤ 100)) && decide (l.length ≤ 20)
theorem few_l0 (k : Nat) {l : List ValT} (hm : l.length ≤ 9223372036854775807) : ∀ n j, j ≤ l.length → l.length - j < n → law02_Few_l0 k n l l (l.length : Int) (j : Int) = some (fewB l (l.drop j), ())
  | 0, _, _, h => absurd h (Nat.not_lt_zero _)
  | n + 1, j, hj, hn => by
    rw [law02_Few_l0_eq]
    by_cases c : j < l.length
    · have hx := List.getElem?_eq_getElem c
      rw [bt (by omega), nth_get hx, Option.bind_some, List.drop_eq_getElem_cons c]
      by_cases c1 : 100 < (l[j].2.2.1.length : Int)
      · rw [bt c1, show fewB l (l[j] :: l.drop (j + 1)) = false from by unfold fewB; rw [List.all_cons, dF (by omega)]; rfl]
      rw [bf c1, wr_i64 (by omega)]
      refine (few_l0 k hm n (j + 1) c (by omega)).trans ?_
      rw [show fewB l (l[j] :: l.drop (j + 1)) = fewB l (l.drop (j + 1)) from by unfold fewB; rw [List.all_cons, dT (by omega)]; rfl]
    · have : j = l.length := by omega
      subst this
      rw [bf (by omega), List.drop_length]
      have : decide ((l.length : Int) ≤ 20) = decide (l.length ≤ 20) := by
        by_cases h : l.length ≤ 20
        · rw [dT h, dT (by omega)]
        · rw [dF h, dF (by omega)]
      rw [this]; rfl
theorem few_ev {l : List ValT} (h : wfD (.sl (.st (.pair (.int .i64) (.pair (.int .i64) (.pair .str .unit))))) l) : Ev (fun k => law02_Few k l) (fewB l l, ()) := by
  obtain ⟨hlen, hall⟩ := h
  have hlen : l.length ≤ maxLen := hlen
  have hmax : maxLen ≤ 9223372036854775807 := by decide
  refine ⟨l.length + 1, fun k hk => ?_⟩
  show law02_Few k l = _
  rw [law02_Few_eq]
  exact few_l0 k (by omega) k 0 (by omega) (by omega)
theorem few_ev' {l : List ValT} (h : l.length ≤ 9223372036854775807) : Ev (fun k => law02_Few k l) (fewB l l, ()) := by
  refine ⟨l.length + 1, fun k hk => ?_⟩
  show law02_Few k l = _
  rw [law02_Few_eq]
  exact few_l0 k h k 0 (by omega) (by omega)
theorem same_row (k : Nat) {T : List ValT} (h : T.length ≤ 1000) : ref01_SameRow (k + 2000) T T = some (true, ()) := by
  rw [ref01_SameRow_eq, bif_false (by simp)]
  have := countLoop T.length (fun n (_ : Unit) j => ref01_SameRow_l0 (k + 2000) n T T (T.length : Int) j) id (fun _ => some (true, ())) (fun _ => True) (fun _ _ => trivial)
    (fun n s j _ hj => by
      show ref01_SameRow_l0 (k + 2000) (n + 1) _ _ _ _ = ref01_SameRow_l0 (k + 2000) n _ _ _ _
      have hx := List.getElem?_eq_getElem hj
      rw [ref01_SameRow_l0_eq, bt (by omega), nth_get hx, Option.bind_some, Option.bind_some, bif_false (by simp [Ty.decEq, beqI, beqL]; exact ⟨rfl, rfl⟩), wr_next hj (by omega)])
    (fun n s _ => by
      show ref01_SameRow_l0 (k + 2000) (n + 1) _ _ _ _ = _
      rw [ref01_SameRow_l0_eq, bf (by omega)])
    (k + 2000) () 0 trivial (by omega) (by omega)
  exact this
theorem rEnd (k : Nat) (st : Option (List Int)) : ref01_Reader_End k (st.getD []) st.isNone = some (if endR st then (0 : Int) else 30, rE st) := by
  rw [ref01_Reader_End_eq]
  cases st with
  | none => rfl
  | some f =>
    cases f with
    | nil => rfl
    | cons x r =>
      exact bt (p := 0 < ((x :: r).length : Int)) (by simp; try omega)
theorem unrow_l0 (k : Nat) {N : Nat} (hN : N ≤ 32) : ∀ n1 n b acc st, Fine st → n < n1 → n ≤ N → List.length acc + n ≤ 1000 → ref01_Unrow_l0 (k + 20) n1 (N : Int) b acc ((N - n : Nat) : Int) (st.getD []) st.isNone = some (resR (acc ++ (ofR n st).1) (endR (ofR n st).2))
  | 0, _, _, _, _, _, h, _, _ => absurd h (Nat.not_lt_zero _)
  | n1 + 1, 0, b, acc, st, hf, _, _, _ => by
    rw [ref01_Unrow_l0_eq, bf (by omega), rEnd, Option.bind_some]
    show (bif !decide ((if endR st then (0 : Int) else 30) = 0) then _ else _) = some (resR (acc ++ []) (endR st))
    cases he : endR st with
    | true => simp [resR]
    | false => simp [resR]
  | n1 + 1, n + 1, b, acc, st, hf, hn, hnN, ha => by
    rw [ref01_Unrow_l0_eq, bt (by omega), fV k hf, Option.bind_some, lim_ok (by simp; omega), wr_u64 (by omega)]
    have e : ((N - (n + 1) : Nat) : Int) + 1 = ((N - n : Nat) : Int) := by omega
    have := unrow_l0 k hN n1 n (b && [(rV st).1].isEmpty) (acc ++ [(rV st).1]) (rV st).2 (rV_fine hf) (by omega) (by omega) (by simp; omega)
    rw [List.append_assoc] at this
    rw [e]
    exact this
theorem unrow_is (k : Nat) {b : List Int} (hb : Byt b) (hl : b.length ≤ 1000000000) : ref01_Unrow (k + 50) b = some (ofRow b) := by
  have hf : Fine (some b) := fun f h => by injection h with h; subst h; exact ⟨hb, hl⟩
  have hn := rN_fine (most := 32) hf
  rw [ref01_Unrow_eq, show ref01_Reader_N (k + 50) 32 b false = _ from fN (k + 30) 32 (st := some b) hf, Option.bind_some]
  have h3 := hn.2.2 (by omega)
  unfold ofRow
  generalize rN 32 (some b) = q at *
  obtain ⟨u, st⟩ := q
  obtain ⟨v, rfl⟩ := Int.eq_ofNat_of_zero_le hn.2.1.1
  have h3 : (v : Int) ≤ 32 := h3
  have := unrow_l0 (k + 30) (N := v) (by omega) (k + 50) v true [] st hn.1 (by omega) (by omega) (by simp; omega)
  rw [Nat.sub_self] at this
  exact this
theorem rrow_l0 (k : Nat) {l : List ValW} (hl : ∀ v ∈ l, vnOk v) (hlen : l.length ≤ 40) : ∀ n j out, j ≤ l.length → l.length - j < n → List.length out ≤ 10 + 1100 * j →
    ref01_Row_l0 (k + 20) n out l (l.length : Int) (j : Int) = some (if (l.drop j).any badV then (([], ((30 : Int), ())), ()) else ((out ++ (l.drop j).flatMap encR, ((0 : Int), ())), ()))
  | 0, _, _, _, h, _ => absurd h (Nat.not_lt_zero _)
  | n + 1, j, out, hj, hn, ho => by
    rw [ref01_Row_l0_eq]
    by_cases c : j < l.length
    · rw [bt (by omega), nth_get (List.getElem?_eq_getElem c), Option.bind_some, List.drop_eq_getElem_cons c, List.flatMap_cons, List.any_cons]
      have hv := hl _ (List.getElem_mem c)
      generalize l[j] = v at *
      by_cases c1 : v.1 < 0
      · rw [bt c1, show badV v = true by simp [badV, c1], Bool.true_or, if_pos rfl]
      by_cases c2 : 2 < v.1
      · rw [bf c1, bt c2, show badV v = true by simp [badV, c2], Bool.true_or, if_pos rfl]
      rw [bf c1, bf c2]
      have step : v.2.2.1.length ≤ 1000 ∨ v.1 ≠ 2 → (ref01_Val (k + 20) out (v.1, (v.2.1, (v.2.2.1, ())))).bind (fun r62 => ref01_Row_l0 (k + 20) n r62.1 l (l.length : Int) (wr .i64 ((j : Int) + 1))) = some (if (l.drop (j + 1)).any badV then (([], ((30 : Int), ())), ()) else ((out ++ (encR v ++ (l.drop (j + 1)).flatMap encR), ((0 : Int), ())), ())) := by
        intro hs
        have hw : ref01_Val (k + 20) out v = some (out ++ encR v, ()) ∧ (encR v).length ≤ 1020 := by
          rcases hs with hs | hs
          · exact ⟨rwV k hv out (by omega), by have := encR_len hv (by omega); omega⟩
          · have e : encR v = encR (v.1, (v.2.1, (([] : List Int), ()))) := by unfold encR; simp only [if_neg hs]
            have e2 : ref01_Val (k + 20) out v = ref01_Val (k + 20) out (v.1, (v.2.1, (([] : List Int), ()))) := by
              rw [ref01_Val_eq, ref01_Val_eq]
              show (bif decide (v.1 = 1) then _ else bif decide (v.1 = 2) then _ else _) = (bif decide (v.1 = 1) then _ else bif decide (v.1 = 2) then _ else _)
              rw [bf hs, bf hs]
            rw [e2, e]
            have hl' := encR_len (v := (v.1, (v.2.1, (([] : List Int), ())))) hv (by simp)
            exact ⟨rwV k (v := (v.1, (v.2.1, (([] : List Int), ())))) hv out (by simp; omega), by simp at hl'; omega⟩
        rw [show ref01_Val (k + 20) out (v.1, (v.2.1, (v.2.2.1, ()))) = _ from hw.1, Option.bind_some, wr_i64 (by omega)]
        have := rrow_l0 k hl hlen n (j + 1) (out ++ encR v) c (by omega) (by simp; omega)
        rw [List.append_assoc] at this
        exact this
      by_cases c3 : v.1 = 2
      · rw [bt c3]
        by_cases c4 : 1000 < v.2.2.1.length
        · rw [bt (by omega), show badV v = true by simp [badV, c3, c4], Bool.true_or, if_pos rfl]
        · rw [bf (by omega), show badV v = false from (by simp [badV, c1, c2, c3, c4]; try omega), Bool.false_or]
          exact step (.inl (by omega))
      · rw [bf c3, show badV v = false by simp [badV, c1, c2, c3], Bool.false_or]
        exact step (.inr c3)
    · have : j = l.length := by omega
      subst this
      rw [bf (by omega), List.drop_length]
      simp
theorem rrow_is (k : Nat) {l : List ValW} (hl : ∀ v ∈ l, vnOk v) (hlen : l.length ≤ 40) : ref01_Row (k + 100) l = some (putRow l) := by
  rw [ref01_Row_eq]
  unfold putRow
  by_cases c : 32 < l.length
  · rw [bt (by omega), if_pos c]
  · have h1 := encN_length (u := l.length) (by omega)
    rw [bf (by omega), if_neg c, wr_u64 (by omega), show ref01_N (k + 100) [] (l.length : Int) = _ from rwN (k + 80) (u := l.length) (by omega) [] (by simp), Option.bind_some]
    exact rrow_l0 (k + 80) hl hlen (k + 100) 0 (encN l.length) (by omega) (by omega) (by omega)
theorem RowRows_true (l : List ValT) (b : List Int) (h : wfD (.sl (.st (.pair (.int .i64) (.pair (.int .i64) (.pair .str .unit))))) l) (hb : Byt b) : ∃ k, law03_RowRows k l b = some (true, ()) := by
  refine Ev.ex (F := fun k => law03_RowRows k l b) ?_
  simp only [law03_RowRows_eq]
  refine .bind (.from 20 awake03_is) ?_
  simp only [Bool.not_true, cond_false]
  by_cases c : 40 < (l.length : Int)
  · simp only [bt c]; exact .ret
  have hm : mnI (l.length : Int) 20 = ((min l.length 20 : Nat) : Int) := by unfold mnI; split <;> omega
  simp only [bf c, hm, cut_all (show min l.length 20 ≤ l.length by omega), Option.bind_some]
  have hall : ∀ v ∈ l, vnOk v := fun v hv => wf_i64 (h.2 v hv).2.1
  refine .bind (few_ev' (l := l.take (min l.length 20)) (by simp; omega)) ?_
  cases fewB (l.take (min l.length 20)) (l.take (min l.length 20)) with
  | false => exact .ret
  | true =>
    simp only [Bool.not_true, cond_false]
    by_cases c5 : 500 < (b.length : Int)
    · simp only [bt c5]; exact .ret
    simp only [bf c5]
    refine .bind (.from 100 fun k => rowPut_is k hall (by omega)) (.bind (.from 100 fun k => rrow_is k hall (by omega)) (.bind (.from 50 fun k => rowOf_is k hb (by omega)) (.bind (.from 50 fun k => unrow_is k hb (by omega)) ?_)))
    simp only [show ∀ x, beqL x x = true from fun x => dT rfl, cond_true, dT]
    refine .bind (r := (true, ())) (.from 2000 fun k => same_row k ?_) .ret
    unfold ofRow resR
    split
    · show List.length (ofR _ _).1 ≤ _
      rw [ofR_len]
      have := (rN_fine (most := 32) (st := some b) (fun f h => by injection h with h; subst h; exact ⟨hb, by omega⟩)).2.2 (by omega)
      omega
    · exact Nat.zero_le _
end Go.Proofs.Ytjongebmeoimoaa.Den
