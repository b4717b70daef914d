import Derived.Test.YtgmeimbamfggkaaDMetaCommands
import Derived.Test.YtgmeimbamfggkaaDen35
namespace Go.Proofs.Ytgmeimbamfggkaa.Den
open Go Go.RowKit
set_option linter.unusedVariables false
/-! ### Numbers in groups of seven bits -/
def wt : Nat → Nat → List Int
  | 0, _ => []
  | m + 1, n => (((n / 128 ^ (m + 1) % 128 + 128 : Nat)) : Int) :: wt m n
theorem wt_length : ∀ m n, (wt m n).length = m
  | 0, _ => rfl
  | m + 1, n => congrArg (· + 1) (wt_length m n)
def Grp (m n : Nat) : Prop := n / 128 ^ m < 128 ∧ ∀ i, i < m → 128 ≤ n / 128 ^ i
theorem grp_ex : ∀ (m n : Nat), n / 128 ^ m < 128 → ∃ i, i ≤ m ∧ Grp i n
  | 0, n, h => ⟨0, Nat.le_refl _, h, fun i hi => absurd hi (Nat.not_lt_zero _)⟩
  | m + 1, n, h => by
    by_cases c : n / 128 ^ m < 128
    · obtain ⟨i, h1, h2⟩ := grp_ex m n c
      exact ⟨i, by omega, h2⟩
    · refine ⟨m + 1, Nat.le_refl _, h, fun i hi => ?_⟩
      have h1 : 128 ^ i ≤ 128 ^ m := Nat.pow_le_pow_right (by decide) (by omega)
      have h2 : n / 128 ^ m ≤ n / 128 ^ i := Nat.div_le_div_left h1 (Nat.pow_pos (by decide))
      omega
theorem shr7 {u i : Nat} (hi : i ≤ 9) : shrK .u64 (u : Int) ((7 * i : Nat) : Int) = some (((u / 128 ^ i : Nat)) : Int) := by
  have hi : i = 0 ∨ i = 1 ∨ i = 2 ∨ i = 3 ∨ i = 4 ∨ i = 5 ∨ i = 6 ∨ i = 7 ∨ i = 8 ∨ i = 9 := by omega
  rcases hi with rfl | rfl | rfl | rfl | rfl | rfl | rfl | rfl | rfl | rfl <;> rfl
theorem or128 : ∀ y : Fin 256, Go.bits .or .u8 ((y.val : Nat) : Int) 128 = (((y.val % 128 + 128 : Nat)) : Int) := by decide +kernel
theorem not128 : ∀ y : Fin 256, Go.bits .andNot .u8 ((y.val : Nat) : Int) 128 = (((y.val % 128 : Nat)) : Int) := by decide +kernel
theorem or_is (x : Nat) : Go.bits .or .u8 (wr .u8 (x : Int)) 128 = (((x % 128 + 128 : Nat)) : Int) := by
  have := or128 ⟨x % 256, Nat.mod_lt _ (by decide)⟩
  rw [show wr .u8 (x : Int) = ((x % 256 : Nat) : Int) by rw [wrm_u8]; rfl]
  refine this.trans ?_
  show (((x % 256 % 128 + 128 : Nat)) : Int) = _
  omega
theorem not_is (x : Nat) : Go.bits .andNot .u8 (wr .u8 (x : Int)) 128 = (((x % 128 : Nat)) : Int) := by
  have := not128 ⟨x % 256, Nat.mod_lt _ (by decide)⟩
  rw [show wr .u8 (x : Int) = ((x % 256 : Nat) : Int) by rw [wrm_u8]; rfl]
  refine this.trans ?_
  show (((x % 256 % 128 : Nat)) : Int) = _
  omega
theorem w_l1 (k n : Nat) {u m : Nat} (hm : m ≤ 9) (h : Grp m u) (l : List Int) (a j : Int) (out : List Int) : ∀ n1 i, i ≤ m → m - i < n1 →
    row_Writer_N_l1 k n n1 (u : Int) ((7 * i : Nat) : Int) l a j out = row_Writer_N_l2 k n k (u : Int) ((7 * m : Nat) : Int) l a j out
  | 0, _, _, h => absurd h (Nat.not_lt_zero _)
  | n1 + 1, i, hi, hn => by
    rw [row_Writer_N_l1_eq, shr7 (by omega), Option.bind_some]
    by_cases c : i < m
    · have := h.2 i c
      rw [bt (by omega), wr_i64 (by omega)]
      exact w_l1 k n hm h l a j out n1 (i + 1) c (by omega)
    · have : i = m := by omega
      subst this
      have := h.1
      rw [bf (by omega)]
theorem w_l2 (k n : Nat) {u : Nat} (l : List Int) (a j : Int) : ∀ n1 i out, i ≤ 9 → i < n1 → out.length + i ≤ 1000000 →
    row_Writer_N_l2 k n n1 (u : Int) ((7 * i : Nat) : Int) l a j out = row_Writer_N_l0 k n l a (wr .i64 (j + 1)) (out ++ (wt i u ++ [((u % 128 : Nat) : Int)]))
  | 0, _, _, _, h, _ => absurd h (Nat.not_lt_zero _)
  | n1 + 1, 0, out, _, _, ho => by
    rw [row_Writer_N_l2_eq, bf (by simp), lim_ok (by simp; omega), not_is]
    rfl
  | n1 + 1, i + 1, out, hi, hn, ho => by
    rw [row_Writer_N_l2_eq, bt (by omega), shr7 (by omega), Option.bind_some, lim_ok (by simp; omega), or_is, wr_i64 (by omega)]
    have e : ((7 * (i + 1) : Nat) : Int) - 7 = ((7 * i : Nat) : Int) := by omega
    rw [e, w_l2 k n l a j n1 i _ (by omega) (by omega) (by simp; omega), List.append_assoc]
    rfl
theorem w_N (k : Nat) {u m : Nat} (hm : m ≤ 9) (h : Grp m u) (out : List Int) (ho : out.length + 10 ≤ 1000000) :
    row_Writer_N (k + 20) [(u : Int)] out = some ((), ((out ++ (wt m u ++ [((u % 128 : Nat) : Int)]), ()), ())) := by
  have h1 := w_l1 (k + 20) (k + 19) hm h [(u : Int)] 1 0 out (k + 20) 0 (by omega) (by omega)
  have h2 := w_l2 (k + 20) (k + 19) (u := u) [(u : Int)] 1 0 (k + 20) m out hm (by omega) (by omega)
  rw [row_Writer_N_eq]
  show row_Writer_N_l0 (k + 20) (k + 19 + 1) _ 1 _ _ = _
  rw [row_Writer_N_l0_eq, bt (by decide), show nth [(u : Int)] 0 = some (u : Int) from rfl, Option.bind_some]
  refine h1.trans (h2.trans ?_)
  show row_Writer_N_l0 (k + 20) (k + 18 + 1) _ _ _ _ = _
  rw [row_Writer_N_l0_eq, bf (by decide)]
theorem r_l0 (k : Nat) {u m : Nat} (hu : u < 18446744073709551616) (h : Grp m u) (base : List Int) (hb : base.length + 20 ≤ 1000000) : ∀ n i t, i ≤ m → m ≤ 9 → m - i < n →
    ref01_N_l0 k n base ((u / 128 ^ (i + 1) : Nat) : Int) t (wt i u ++ [((u % 128 : Nat) : Int)]) = some (base ++ (wt m u ++ [((u % 128 : Nat) : Int)]), ())
  | 0, _, _, _, _, h => absurd h (Nat.not_lt_zero _)
  | n + 1, i, t, hi, hm, hn => by
    rw [ref01_N_l0_eq]
    have hd : ∀ j, u / 128 ^ (j + 1) = u / 128 ^ j / 128 := fun j => by rw [Nat.pow_succ, Nat.div_div_eq_div_mul]
    by_cases c : i < m
    · have h1 := h.2 i c
      have hpos : 0 < u / 128 ^ (i + 1) := by rw [hd i]; exact Nat.div_pos h1 (by decide)
      have hle : u / 128 ^ (i + 1) ≤ u := Nat.div_le_self _ _
      have h3 := hd (i + 1)
      have ih := r_l0 k hu h base hb n (i + 1) false c hm (by omega)
      rw [h3] at ih
      have hw : wt (i + 1) u = (((u / 128 ^ (i + 1) % 128 + 128 : Nat)) : Int) :: wt i u := rfl
      rw [hw] at ih
      generalize u / 128 ^ (i + 1) = v at *
      have e1 : Int.tmod ((v : Nat) : Int) 128 = ((v % 128 : Nat) : Int) := rfl
      have e2 : Int.tdiv ((v : Nat) : Int) 128 = ((v / 128 : Nat) : Int) := rfl
      have hm128 := Nat.mod_lt v (show 0 < 128 by decide)
      have hd128 := Nat.div_le_self v 128
      rw [bt (by omega), lim_ok (by simp [wt_length]; omega), e1, e2, wr_u8 (n := ((v % 128 : Nat) : Int)) (by omega), wr_u8 (by omega), wr_u64 (by omega)]
      have e3 : (((v % 128 : Nat) : Int) + 128) = ((v % 128 + 128 : Nat) : Int) := by omega
      rw [e3]
      exact ih
    · have : i = m := by omega
      subst this
      have h3 : u / 128 ^ (i + 1) = 0 := by rw [hd i]; exact Nat.div_eq_of_lt h.1
      rw [h3, bf (by simp), lim_ok (by omega), lim_ok (by simp [wt_length]; omega)]
      rfl
theorem r_N (k : Nat) {u m : Nat} (hu : u < 18446744073709551616) (hm : m ≤ 9) (h : Grp m u) (base : List Int) (hb : base.length + 20 ≤ 1000000) :
    ref01_N (k + 20) base (u : Int) = some (base ++ (wt m u ++ [((u % 128 : Nat) : Int)]), ()) := by
  have := r_l0 (k + 20) hu h base hb (k + 20) 0 false (by omega) hm (by omega)
  have e1 : Int.tmod ((u : Nat) : Int) 128 = ((u % 128 : Nat) : Int) := rfl
  have e2 : Int.tdiv ((u : Nat) : Int) 128 = ((u / 128 : Nat) : Int) := rfl
  have hm128 := Nat.mod_lt u (show 0 < 128 by decide)
  have hd128 := Nat.div_le_self u 128
  rw [ref01_N_eq, e1, e2, wr_u8 (by omega), wr_u64 (by omega)]
  rw [show u / 128 ^ (0 + 1) = u / 128 by rw [Nat.zero_add, Nat.pow_one]] at this
  exact this
/-- Both write a number alike. -/
theorem N_both {u : Nat} (hu : u < 18446744073709551616) : ∃ e : List Int, e.length ≤ 10 ∧ ∀ k out, List.length out + 20 ≤ 1000000 → row_Writer_N (k + 20) [(u : Int)] out = some ((), ((out ++ e, ()), ())) ∧ ref01_N (k + 20) out (u : Int) = some (out ++ e, ()) := by
  obtain ⟨m, hm, h⟩ := grp_ex 9 u (by rw [show (128 : Nat) ^ 9 = 9223372036854775808 by decide]; omega)
  exact ⟨wt m u ++ [((u % 128 : Nat) : Int)], by simp [wt_length]; omega, fun k out ho => ⟨w_N k hm h out (by omega), r_N k hu hm h out ho⟩⟩
/-! ### Reading -/
def numG : Nat → Nat → List Int → Option (Nat × List Int)
  | _, _, [] => none
  | i, n, x :: r => if i = 10 then none else if i = 0 ∧ x = 128 then none else if 144115188075855872 ≤ n then none
    else if x < 128 then some (n * 128 + x.toNat % 128, r) else numG (i + 1) (n * 128 + x.toNat % 128) r
theorem numG_cons (i n : Nat) (x : Int) (r : List Int) : numG i n (x :: r) = if i = 10 then none else if i = 0 ∧ x = 128 then none else if 144115188075855872 ≤ n then none
    else if x < 128 then some (n * 128 + x.toNat % 128, r) else numG (i + 1) (n * 128 + x.toNat % 128) r := rfl
theorem numG_back : ∀ (f : List Int) (i n m : Nat) (r : List Int), numG i n f = some (m, r) → (∃ p, f = p ++ r ∧ 1 ≤ p.length) ∧ m < 18446744073709551616
  | [], _, _, _, _, h => by simp [numG] at h
  | x :: f, i, n, m, r, h => by
    rw [numG_cons] at h
    split at h
    · cases h
    · split at h
      · cases h
      · split at h
        · cases h
        · split at h
          · injection h with h; injection h with h1 h2
            have := Nat.mod_lt x.toNat (show 0 < 128 by decide)
            exact ⟨⟨[x], by rw [h2]; rfl, by simp⟩, by omega⟩
          · obtain ⟨⟨p, hp, _⟩, h2⟩ := numG_back f _ _ _ _ h
            exact ⟨⟨x :: p, by rw [hp]; rfl, by simp⟩, h2⟩
theorem or_add7 {a x : Nat} (h : x < 128) : (a * 128) ||| x = a * 128 + x := by
  have := Nat.two_pow_add_eq_or_of_lt (i := 7) h a
  rw [Nat.mul_comm a 128]
  exact this.symm
theorem grp_step {n : Nat} {x : Int} (hn : n < 144115188075855872) (hx : 0 ≤ x ∧ x ≤ 255) : Go.bits .or .u64 (wr .u64 ((n : Int) * 128)) (wr .u64 (Go.bits .andNot .u8 x 128)) = ((n * 128 + x.toNat % 128 : Nat) : Int) := by
  obtain ⟨y, rfl⟩ := Int.eq_ofNat_of_zero_le hx.1
  have e0 : Go.bits .andNot .u8 (y : Int) 128 = ((y % 128 : Nat) : Int) := not128 ⟨y, by omega⟩
  have hm := Nat.mod_lt y (show 0 < 128 by decide)
  have e1 : wr .u64 ((n : Int) * 128) = ((n * 128 : Nat) : Int) := by rw [wr_u64 (by omega)]; omega
  rw [e0, e1, wr_u64 (by omega), u64_or_nat _ _ (by omega) (by omega), or_add7 hm, Int.toNat_natCast]
theorem grp_step2 {n : Nat} {x : Int} (hn : n < 144115188075855872) (hx : 0 ≤ x ∧ x ≤ 255) : wr .u64 ((wr .u64 ((n : Int) * 128)) + (wr .u64 (Int.tmod x 128))) = ((n * 128 + x.toNat % 128 : Nat) : Int) := by
  obtain ⟨y, rfl⟩ := Int.eq_ofNat_of_zero_le hx.1
  have e0 : Int.tmod (y : Int) 128 = ((y % 128 : Nat) : Int) := rfl
  have hm := Nat.mod_lt y (show 0 < 128 by decide)
  rw [e0, wr_u64 (n := (n : Int) * 128) (by omega), wr_u64 (n := ((y % 128 : Nat) : Int)) (by omega), wr_u64 (by omega), Int.toNat_natCast]
  omega
theorem dn {α : Type} {l : List α} {t : Nat} {x : α} {r : List α} (h : l.drop t = x :: r) : l[t]? = some x ∧ l.drop (t + 1) = r ∧ t < l.length ∧ l.length - t = r.length + 1 := by
  have hlt : t < l.length := by
    rcases Nat.lt_or_ge t l.length with h1 | h1
    · exact h1
    · rw [List.drop_eq_nil_of_le h1] at h; cases h
  rw [List.drop_eq_getElem_cons hlt] at h
  injection h with h1 h2
  have h3 := congrArg List.length h2
  simp at h3
  exact ⟨by rw [List.getElem?_eq_getElem hlt, h1], h2, hlt, by omega⟩
abbrev Byt (l : List Int) : Prop := ∀ x ∈ l, (Lit.int .u8 x).wf = true
def numT (l : List Int) : Option (Nat × List Int) → (Int × (Int × Unit)) × Unit
  | some p => (((p.1 : Int), (((l.length - p.2.length : Nat) : Int), ())), ())
  | none => (((0 : Int), ((0 : Int), ())), ())
theorem number_l0 (k : Nat) {l : List Int} (hl : l.length ≤ 1000000000) (hw : Byt l) : ∀ n j (acc : Nat), j ≤ 10 → j ≤ l.length → 10 - j < n →
    row_number_l0 k n (acc : Int) l (l.length : Int) (j : Int) = some (numT l (numG j acc (l.drop j)))
  | 0, _, _, _, _, h => absurd h (Nat.not_lt_zero _)
  | n + 1, j, acc, hj, hjl, hn => by
    rw [row_number_l0_eq]
    match hd : l.drop j with
    | [] =>
      have : j = l.length := by have := congrArg List.length hd; simp at this; omega
      rw [bf (by omega)]; rfl
    | x :: r =>
      obtain ⟨h1, h2, h3, h4⟩ := dn hd
      have hx := wf_u8 (hw x (List.mem_of_getElem? h1))
      rw [bt (by omega), nth_get h1, Option.bind_some, numG_cons]
      by_cases c10 : j = 10
      · rw [bt (by omega), if_pos c10]; rfl
      rw [bf (by omega), if_neg c10]
      have rest : (bif !decide ((acc : Int) / 144115188075855872 = 0) then some (((0 : Int), ((0 : Int), ())), ()) else bif decide (x < 128) then some ((Go.bits .or .u64 (wr .u64 ((acc : Int) * 128)) (wr .u64 (Go.bits .andNot .u8 x 128)), ((wr .i64 ((j : Int) + 1)), ())), ()) else row_number_l0 k n (Go.bits .or .u64 (wr .u64 ((acc : Int) * 128)) (wr .u64 (Go.bits .andNot .u8 x 128))) l (l.length : Int) (wr .i64 ((j : Int) + 1))) = some (numT l (if 144115188075855872 ≤ acc then none else if x < 128 then some (acc * 128 + x.toNat % 128, r) else numG (j + 1) (acc * 128 + x.toNat % 128) r)) := by
        by_cases ca : 144115188075855872 ≤ acc
        · rw [bif_true (by simp; omega), if_pos ca]; rfl
        rw [bif_false (by simp; omega), if_neg ca, grp_step (by omega) hx, wr_next h3 (by omega)]
        by_cases cx : x < 128
        · rw [bt cx, if_pos cx]
          show _ = some ((((_ : Nat) : Int), (((l.length - r.length : Nat) : Int), ())), ())
          rw [show l.length - r.length = j + 1 by omega]
        · rw [bf cx, if_neg cx]
          have := number_l0 k hl hw n (j + 1) (acc * 128 + x.toNat % 128) (by omega) (by omega) (by omega)
          rw [h2] at this
          exact this
      by_cases c0 : j = 0
      · rw [bt (by omega)]
        by_cases cx : x = 128
        · rw [bt cx, if_pos ⟨c0, cx⟩]; rfl
        · rw [bf cx, if_neg (by omega)]; exact rest
      · rw [bf (by omega), if_neg (by omega)]; exact rest
theorem number_is (k : Nat) {l : List Int} (hl : l.length ≤ 1000000000) (hw : Byt l) : row_number (k + 20) l = some (numT l (numG 0 0 l)) := by
  rw [row_number_eq]
  exact number_l0 (k + 20) hl hw (k + 20) 0 0 (by omega) (by omega) (by omega)
def rN (most : Int) : Option (List Int) → Int × Option (List Int)
  | none => (0, none)
  | some f => match numG 0 0 f with
    | none => (0, none)
    | some (n, r) => if most < n then (0, none) else ((n : Int), some r)
theorem rN_n {most : Int} {f : List Int} (h : numG 0 0 f = none) : rN most (some f) = (0, none) := by
  show (match numG 0 0 f with | none => (0, none) | some (n, r) => if most < n then (0, none) else ((n : Int), some r)) = _
  rw [h]
theorem rN_s {most : Int} {f r : List Int} {n : Nat} (h : numG 0 0 f = some (n, r)) : rN most (some f) = if most < n then (0, none) else ((n : Int), some r) := by
  show (match numG 0 0 f with | none => (0, none) | some (n, r) => if most < n then (0, none) else ((n : Int), some r)) = _
  rw [h]
def Fine (st : Option (List Int)) : Prop := ∀ f, st = some f → Byt f ∧ f.length ≤ 1000000000
theorem fine_none : Fine none := fun f h => by cases h
theorem rN_fine {most : Int} {st : Option (List Int)} (h : Fine st) : Fine (rN most st).2 ∧ (0 ≤ (rN most st).1 ∧ (rN most st).1 < 18446744073709551616) ∧ (0 ≤ most → (rN most st).1 ≤ most) := by
  cases st with
  | none => exact ⟨h, by simp [rN], fun h => h⟩
  | some f =>
    obtain ⟨h1, h2⟩ := h f rfl
    cases hg : numG 0 0 f with
    | none => rw [rN_n hg]; exact ⟨fine_none, by simp, fun h => h⟩
    | some p =>
      obtain ⟨n, r⟩ := p
      obtain ⟨⟨p, hp, _⟩, hlt⟩ := numG_back f _ _ _ _ hg
      rw [rN_s hg]
      split
      · exact ⟨fine_none, by simp, fun h => h⟩
      · refine ⟨fun g hgg => ?_, by simp; omega, fun _ => by simp; omega⟩
        injection hgg with hgg
        subst hgg
        subst hp
        exact ⟨fun x hx => h1 x (List.mem_append_right _ hx), by simp at h2; omega⟩
abbrev cE (st : Option (List Int)) : (List Int × (Bool × Unit)) × Unit := ((st.getD [], (st.isSome, ())), ())
abbrev rE (st : Option (List Int)) : (List Int × (Bool × Unit)) × Unit := ((st.getD [], (st.isNone, ())), ())
theorem cN (k : Nat) (most : Int) {st : Option (List Int)} (h : Fine st) : row_Reader_N (k + 20) most (st.getD []) st.isSome = some ((rN most st).1, cE (rN most st).2) := by
  rw [row_Reader_N_eq, row_Reader_ok_eq, Option.bind_some]
  cases st with
  | none => rfl
  | some f =>
    obtain ⟨h1, h2⟩ := h f rfl
    simp only [Option.isSome_some, Bool.not_true, cond_false, Option.getD_some, number_is k h2 h1, Option.bind_some]
    cases hg : numG 0 0 f with
    | none => rw [rN_n hg]; rfl
    | some p =>
      obtain ⟨n, r⟩ := p
      obtain ⟨⟨p, hp, h1p⟩, _⟩ := numG_back f _ _ _ _ hg
      have hlen : f.length = p.length + r.length := by rw [hp]; simp
      rw [rN_s hg]
      show (bif decide (((f.length - r.length : Nat) : Int) = 0) then _ else bif decide (most < (n : Int)) then (row_Reader_fail (k + 20) f true).bind _ else (cut f ((f.length - r.length : Nat) : Int) f.length).bind _) = _
      rw [bf (by omega)]
      by_cases c : most < (n : Int)
      · rw [bt c, if_pos c]; rfl
      · rw [bf c, if_neg c, cut_from (by omega), Option.bind_some]
        have : f.drop (f.length - r.length) = r := by rw [show f.length - r.length = p.length by omega, hp]; exact List.drop_left
        rw [this]; rfl
def zagF (u : Int) : Int := if u % 2 = 0 then u / 2 else -1 - u / 2
theorem zag_is (k : Nat) {u : Int} (h : 0 ≤ u ∧ u < 18446744073709551616) : num_Zag k u = some (zagF u, ()) := by
  rw [num_Zag_eq]
  unfold wr zagF
  rw [← zag_eq h]
  simp only [wrap_i64, Int.zero_sub]
def rI (st : Option (List Int)) : Int × Option (List Int) := (zagF (rN 18446744073709551615 st).1, (rN 18446744073709551615 st).2)
theorem cI (k : Nat) {st : Option (List Int)} (h : Fine st) : row_Reader_I (k + 20) (st.getD []) st.isSome = some ((rI st).1, cE (rI st).2) := by
  rw [row_Reader_I_eq, cN k _ h, Option.bind_some, zag_is _ (rN_fine h).2.1]; rfl
def rT (most : Int) (st : Option (List Int)) : List Int × Option (List Int) :=
  if most < 0 then ([], none) else match (rN most st).2 with
    | none => ([], none)
    | some r => if (r.length : Int) < (rN most st).1 then ([], none) else (r.take (rN most st).1.toNat, some (r.drop (rN most st).1.toNat))
theorem rT_fine {most : Int} {st : Option (List Int)} (h : Fine st) : Fine (rT most st).2 := by
  have h2 := (rN_fine (most := most) h).1
  unfold rT
  split
  · intro f h; cases h
  · cases hr : (rN most st).2 with
    | none => intro f h; cases h
    | some r =>
      simp only
      split
      · intro f h; cases h
      · intro f hf
        injection hf with hf
        subst hf
        obtain ⟨g1, g2⟩ := h2 r hr
        exact ⟨fun x hx => g1 x (List.mem_of_mem_drop hx), by simp; omega⟩
theorem cT (k : Nat) {most : Int} (hm : most < 9223372036854775808) {st : Option (List Int)} (h : Fine st) : row_Reader_Text (k + 20) most (st.getD []) st.isSome = some ((rT most st).1, cE (rT most st).2) := by
  rw [row_Reader_Text_eq]
  unfold rT
  simp only [row_Reader_fail_eq, row_Reader_ok_eq, Option.bind_some]
  by_cases c : most < 0
  · rw [bt c, if_pos c]; rfl
  rw [bf c, if_neg c, wr_u64 (by omega), cN k _ h, Option.bind_some]
  have hb := (rN_fine (most := most) h)
  generalize rN most st = q at *
  obtain ⟨u, st'⟩ := q
  cases st' with
  | none => rfl
  | some r =>
    obtain ⟨v, rfl⟩ := Int.eq_ofNat_of_zero_le hb.2.1.1
    have hr := (hb.1 r rfl).2
    show (bif !true then _ else bif decide (wr .u64 (r.length : Int) < (v : Int)) then some ([], (([], (false, ())), ())) else (cut r 0 (v : Int)).bind fun x280 => lim (0 + x280.length) ((cut r (v : Int) r.length).bind fun x281 => some (([] ++ x280), ((x281, (true, ())), ())))) = some ((if (r.length : Int) < (v : Int) then ([], none) else (r.take v, some (r.drop v)) : List Int × Option (List Int)).1, cE (if (r.length : Int) < (v : Int) then ([], none) else (r.take v, some (r.drop v)) : List Int × Option (List Int)).2)
    rw [Bool.not_true, cond_false, wr_u64 (by omega)]
    by_cases d : (r.length : Int) < (v : Int)
    · rw [bt d, if_pos d]; rfl
    · rw [bf d, if_neg d, cut_all (by omega), Option.bind_some, lim_ok (by simp; omega), cut_from (by omega), Option.bind_some]; rfl
theorem rN_l0 (k : Nat) (most : Int) {l : List Int} (hl : l.length ≤ 1000000000) (hw : Byt l) (b : Bool) : ∀ n j (acc : Nat), j ≤ 10 → j ≤ l.length → 10 - j < n →
    ref01_Reader_N_l0 k n most (acc : Int) (j : Int) l b = some (match numG j acc (l.drop j) with
      | none => ((0 : Int), rE none)
      | some (m, r) => if most < m then ((0 : Int), rE none) else ((m : Int), ((r, (b, ())), ())))
  | 0, _, _, _, _, h => absurd h (Nat.not_lt_zero _)
  | n + 1, j, acc, hj, hjl, hn => by
    rw [ref01_Reader_N_l0_eq]
    simp only [ref01_Reader_fail_eq, Option.bind_some]
    match hd : l.drop j with
    | [] =>
      have : j = l.length := by have := congrArg List.length hd; simp at this; omega
      rw [bf (by omega)]; rfl
    | x :: r =>
      obtain ⟨h1, h2, h3, h4⟩ := dn hd
      have hx := wf_u8 (hw x (List.mem_of_getElem? h1))
      rw [bt (by omega), numG_cons]
      by_cases c10 : j = 10
      · rw [bf (by omega), if_pos c10]; rfl
      rw [bt (by omega), if_neg c10, nth_get h1, Option.bind_some]
      have rest : (bif decide (144115188075855872 ≤ (acc : Int)) then some ((0 : Int), (([], (true, ())), ())) else bif decide (x < 128) then bif decide (most < wr .u64 (wr .u64 ((acc : Int) * 128) + wr .u64 (Int.tmod x 128))) then some ((0 : Int), (([], (true, ())), ())) else (cut l (wr .i64 ((j : Int) + 1)) l.length).bind fun x97 => some (wr .u64 (wr .u64 ((acc : Int) * 128) + wr .u64 (Int.tmod x 128)), ((x97, (b, ())), ())) else ref01_Reader_N_l0 k n most (wr .u64 (wr .u64 ((acc : Int) * 128) + wr .u64 (Int.tmod x 128))) (wr .i64 ((j : Int) + 1)) l b) = some (match (if 144115188075855872 ≤ acc then none else if x < 128 then some (acc * 128 + x.toNat % 128, r) else numG (j + 1) (acc * 128 + x.toNat % 128) r) with
      | none => ((0 : Int), rE none)
      | some (m, r) => if most < m then ((0 : Int), rE none) else ((m : Int), ((r, (b, ())), ()))) := by
        by_cases ca : 144115188075855872 ≤ acc
        · rw [bt (by omega), if_pos ca]; rfl
        rw [bf (by omega), if_neg ca, grp_step2 (by omega) hx, wr_next h3 (by omega)]
        by_cases cx : x < 128
        · rw [bt cx, if_pos cx]
          simp only
          by_cases cm : most < ((acc * 128 + x.toNat % 128 : Nat) : Int)
          · rw [bt cm, if_pos cm]; rfl
          · rw [bf cm, if_neg cm, cut_from (by omega), Option.bind_some, h2]
        · rw [bf cx, if_neg cx]
          have := rN_l0 k most hl hw b n (j + 1) (acc * 128 + x.toNat % 128) (by omega) (by omega) (by omega)
          rw [h2] at this
          exact this
      by_cases c0 : j = 0
      · rw [bt (by omega)]
        by_cases cx : x = 128
        · rw [bt cx, if_pos ⟨c0, cx⟩]; rfl
        · rw [bf cx, if_neg (by omega)]; exact rest
      · rw [bf (by omega), if_neg (by omega)]; exact rest
theorem fN (k : Nat) (most : Int) {st : Option (List Int)} (h : Fine st) : ref01_Reader_N (k + 20) most (st.getD []) st.isNone = some ((rN most st).1, rE (rN most st).2) := by
  rw [ref01_Reader_N_eq]
  have hf : Byt (st.getD []) ∧ (st.getD []).length ≤ 1000000000 := by
    cases st with
    | none => exact ⟨fun x (hx : x ∈ ([] : List Int)) => (nomatch hx), Nat.zero_le _⟩
    | some f => exact h f rfl
  refine (rN_l0 (k + 20) most hf.2 hf.1 st.isNone (k + 20) 0 0 (by omega) (by omega) (by omega)).trans ?_
  cases st with
  | none => rfl
  | some f =>
    show some (match numG 0 0 f with
      | none => ((0 : Int), rE none)
      | some (m, r) => if most < m then ((0 : Int), rE none) else ((m : Int), ((r, (false, ())), ()))) = _
    cases hg : numG 0 0 f with
    | none => rw [rN_n hg]
    | some p =>
      obtain ⟨n, r⟩ := p
      rw [rN_s hg]
      simp only
      split <;> rfl
theorem fI (k : Nat) {st : Option (List Int)} (h : Fine st) : ref01_Reader_I (k + 20) (st.getD []) st.isNone = some ((rI st).1, rE (rI st).2) := by
  rw [ref01_Reader_I_eq, fN k _ h, Option.bind_some]
  have hb := (rN_fine (most := 18446744073709551615) h).2.1
  unfold rI zagF
  generalize rN 18446744073709551615 st = q at *
  obtain ⟨u, st'⟩ := q
  obtain ⟨v, rfl⟩ := Int.eq_ofNat_of_zero_le hb.1
  have e1 : Int.tmod (v : Int) 2 = ((v % 2 : Nat) : Int) := rfl
  have e2 : Int.tdiv (v : Int) 2 = ((v / 2 : Nat) : Int) := rfl
  have hb : 0 ≤ (v : Int) ∧ (v : Int) < 18446744073709551616 := hb
  show (bif decide (Int.tmod (v : Int) 2 = 1) then some (wr .i64 (wr .i64 (0 - wr .i64 (wr .u64 (Int.tdiv (v : Int) 2))) - 1), rE st') else some (wr .i64 (wr .u64 (Int.tdiv (v : Int) 2)), rE st')) = _
  rw [e1, e2, wr_u64 (n := ((v / 2 : Nat) : Int)) (by omega), wr_i64 (n := ((v / 2 : Nat) : Int)) (by omega)]
  by_cases c : (v : Int) % 2 = 0
  · rw [bf (by omega), if_pos c]
    congr 2
  · rw [bt (by omega), if_neg c, wr_i64 (n := 0 - ((v / 2 : Nat) : Int)) (by omega), wr_i64 (by omega)]
    congr 2
    omega
theorem fT (k : Nat) {most : Int} (hm : most < 9223372036854775808) {st : Option (List Int)} (h : Fine st) : ref01_Reader_Text (k + 20) most (st.getD []) st.isNone = some ((rT most st).1, rE (rT most st).2) := by
  rw [ref01_Reader_Text_eq]
  unfold rT
  simp only [ref01_Reader_fail_eq, Option.bind_some]
  by_cases c : most < 0
  · rw [bt c, if_pos c]; rfl
  rw [bf c, if_neg c, wr_u64 (by omega), fN k _ h, Option.bind_some]
  have hb := (rN_fine (most := most) h)
  generalize rN most st = q at *
  obtain ⟨u, st'⟩ := q
  cases st' with
  | none => rfl
  | some r =>
    obtain ⟨v, rfl⟩ := Int.eq_ofNat_of_zero_le hb.2.1.1
    have hr := (hb.1 r rfl).2
    show (bif decide (wr .u64 (r.length : Int) < (v : Int)) then some ([], (([], (true, ())), ())) else (cut r 0 (v : Int)).bind fun x280 => (cut r (v : Int) r.length).bind fun x281 => some (x280, ((x281, (false, ())), ()))) = some ((if (r.length : Int) < (v : Int) then ([], none) else (r.take v, some (r.drop v)) : List Int × Option (List Int)).1, rE (if (r.length : Int) < (v : Int) then ([], none) else (r.take v, some (r.drop v)) : List Int × Option (List Int)).2)
    rw [wr_u64 (by omega)]
    by_cases d : (r.length : Int) < (v : Int)
    · rw [bt d, if_pos d]; rfl
    · rw [bf d, if_neg d, cut_all (by omega), Option.bind_some, cut_from (by omega), Option.bind_some]; rfl
/-! ### What is written -/
theorem grp_le {u : Nat} (h : u < 18446744073709551616) : ∃ i, i ≤ 9 ∧ Grp i u := grp_ex 9 u (by rw [show (128 : Nat) ^ 9 = 9223372036854775808 by decide]; omega)
open Classical in
noncomputable def mG (u : Nat) : Nat := if h : ∃ i, i ≤ 9 ∧ Grp i u then Classical.choose h else 0
theorem mG_ok {u : Nat} (h : u < 18446744073709551616) : mG u ≤ 9 ∧ Grp (mG u) u := by
  unfold mG
  rw [dif_pos (grp_le h)]
  exact Classical.choose_spec (grp_le h)
theorem grp_one {u a b : Nat} (ha : Grp a u) (hb : Grp b u) : a = b := by
  rcases Nat.lt_trichotomy a b with h | h | h
  · have := hb.2 a h; have := ha.1; omega
  · exact h
  · have := ha.2 b h; have := hb.1; omega
noncomputable def encN (u : Nat) : List Int := wt (mG u) u ++ [((u % 128 : Nat) : Int)]
theorem encN_length {u : Nat} (h : u < 18446744073709551616) : (encN u).length ≤ 10 ∧ 1 ≤ (encN u).length := by
  have := (mG_ok h).1
  unfold encN
  rw [List.length_append, wt_length]; simp; omega
theorem cwN (k : Nat) {u : Nat} (h : u < 18446744073709551616) (out : List Int) (ho : out.length + 10 ≤ 1000000) : row_Writer_N (k + 20) [(u : Int)] out = some ((), ((out ++ encN u, ()), ())) := w_N k (mG_ok h).1 (mG_ok h).2 out ho
def zigN (a : Int) : Nat := (if 0 ≤ a then 2 * a else -2 * a - 1).toNat
theorem zigN_is {a : Int} (h : -9223372036854775808 ≤ a ∧ a ≤ 9223372036854775807) : ((zigN a : Nat) : Int) = (if 0 ≤ a then 2 * a else -2 * a - 1) ∧ zigN a < 18446744073709551616 := by
  unfold zigN
  split <;> constructor <;> omega
theorem cZig (k : Nat) {a : Int} (h : -9223372036854775808 ≤ a ∧ a ≤ 9223372036854775807) : num_Zig k a = some (((zigN a : Nat) : Int), ()) := by
  rw [num_Zig_eq, (zigN_is h).1]
  unfold wr
  rw [zig_eq h]
theorem cwI (k : Nat) {a : Int} (h : -9223372036854775808 ≤ a ∧ a ≤ 9223372036854775807) (out : List Int) (ho : out.length + 10 ≤ 1000000) : row_Writer_I (k + 20) a out = some ((), ((out ++ encN (zigN a), ()), ())) := by
  rw [row_Writer_I_eq, cZig _ h, Option.bind_some, cwN k (zigN_is h).2 out ho]; rfl
noncomputable def encT (s : List Int) : List Int := encN s.length ++ s
theorem cwT (k : Nat) {s : List Int} (out : List Int) (ho : out.length + s.length + 10 ≤ 1000000) : row_Writer_Text (k + 20) s out = some ((), ((out ++ encT s, ()), ())) := by
  have := encN_length (u := s.length) (by omega)
  rw [row_Writer_Text_eq, wr_u64 (by omega), cwN k (by omega) out (by omega), Option.bind_some, lim_ok (by simp; omega)]
  unfold encT
  simp
/-! Bytes -/
theorem wt_byt : ∀ m n, Byt (wt m n)
  | 0, _, x, h => by cases h
  | m + 1, n, x, h => by
    rcases List.mem_cons.1 (show x ∈ (((n / 128 ^ (m + 1) % 128 + 128 : Nat)) : Int) :: wt m n from h) with rfl | h
    · have := Nat.mod_lt (n / 128 ^ (m + 1)) (show 0 < 128 by decide)
      simp [Lit.wf, IntKind.min, IntKind.max, IntKind.signed, IntKind.bits]; omega
    · exact wt_byt m n x h
theorem encN_byt (u : Nat) : Byt (encN u) := by
  intro x hx
  rcases List.mem_append.1 hx with h | h
  · exact wt_byt _ _ x h
  · simp at h; subst h
    simp [Lit.wf, IntKind.min, IntKind.max, IntKind.signed, IntKind.bits]; omega
/-! What is read of it -/
theorem numG_wt {u m : Nat} (hu : u < 18446744073709551616) (hm : m ≤ 9) (h : Grp m u) (r : List Int) : ∀ j i, j ≤ m → i + j = m → numG i (u / 128 ^ (j + 1)) (wt j u ++ ((u % 128 : Nat) : Int) :: r) = some (u, r)
  | 0, i, _, hi => by
    have hd : u / 128 ^ (0 + 1) = u / 128 := by rw [Nat.zero_add, Nat.pow_one]
    have hmod := Nat.mod_lt u (show 0 < 128 by decide)
    show numG i (u / 128 ^ (0 + 1)) (((u % 128 : Nat) : Int) :: r) = _
    rw [numG_cons, if_neg (by omega), if_neg (by omega), hd, if_neg (by omega), if_pos (by omega), Int.toNat_natCast]
    congr 2
    omega
  | j + 1, i, hj, hi => by
    have ih := numG_wt hu hm h r j (i + 1) (by omega) (by omega)
    have h1 : u / 128 ^ (j + 1 + 1) = u / 128 ^ (j + 1) / 128 := by rw [Nat.pow_succ, Nat.div_div_eq_div_mul]
    have hlead : i = 0 → 1 ≤ u / 128 ^ (j + 1) ∧ u / 128 ^ (j + 1) < 128 := by
      intro h0
      have e : j + 1 = m := by omega
      have h2 := h.2 j (by omega)
      have h3 := h.1
      rw [← e] at h3
      refine ⟨?_, h3⟩
      have : u / 128 ^ (j + 1) = u / 128 ^ j / 128 := by rw [Nat.pow_succ, Nat.div_div_eq_div_mul]
      omega
    show numG i (u / 128 ^ (j + 1 + 1)) ((((u / 128 ^ (j + 1) % 128 + 128 : Nat)) : Int) :: (wt j u ++ ((u % 128 : Nat) : Int) :: r)) = _
    have hle : u / 128 ^ (j + 1) ≤ u := Nat.div_le_self _ _
    rw [h1]
    generalize u / 128 ^ (j + 1) = v at *
    have hmod := Nat.mod_lt v (show 0 < 128 by decide)
    rw [numG_cons, if_neg (by omega), if_neg (by intro ⟨h0, h5⟩; have := hlead h0; omega), if_neg (by omega), if_neg (by omega), Int.toNat_natCast]
    have : v / 128 * 128 + (v % 128 + 128) % 128 = v := by omega
    rw [this]
    exact ih
theorem numG_enc {u : Nat} (hu : u < 18446744073709551616) (r : List Int) : numG 0 0 (encN u ++ r) = some (u, r) := by
  obtain ⟨hm, h⟩ := mG_ok hu
  have := numG_wt hu hm h r (mG u) 0 (Nat.le_refl _) (by omega)
  have h0 : u / 128 ^ (mG u + 1) = 0 := by rw [Nat.pow_succ, ← Nat.div_div_eq_div_mul]; exact Nat.div_eq_of_lt h.1
  rw [h0] at this
  unfold encN
  rw [List.append_assoc]
  exact this
theorem rN_enc {u : Nat} {most : Int} (hu : u < 18446744073709551616) (hm : (u : Int) ≤ most) (r : List Int) : rN most (some (encN u ++ r)) = ((u : Int), some r) := by
  rw [rN_s (numG_enc hu r), if_neg (by omega)]
theorem rI_enc {a : Int} (h : -9223372036854775808 ≤ a ∧ a ≤ 9223372036854775807) (r : List Int) : rI (some (encN (zigN a) ++ r)) = (a, some r) := by
  have hz := zigN_is h
  unfold rI
  rw [rN_enc hz.2 (by omega)]
  have e : zagF ((zigN a : Nat) : Int) = a := by
    rw [hz.1]; unfold zagF
    by_cases c : 0 ≤ a
    · rw [if_pos c, if_pos (by omega)]; omega
    · rw [if_neg c, if_neg (by omega)]; omega
  simp only [e]
theorem rT_enc {s : List Int} {most : Int} (hs : (s.length : Int) ≤ most) (h : s.length < 18446744073709551616) (r : List Int) : rT most (some (encT s ++ r)) = (s, some r) := by
  unfold rT encT
  rw [List.append_assoc, rN_enc h hs, if_neg (by omega)]
  show (if ((s ++ r).length : Int) < (s.length : Int) then (([] : List Int), none) else ((s ++ r).take ((s.length : Int)).toNat, some ((s ++ r).drop ((s.length : Int)).toNat))) = _
  rw [if_neg (by simp; omega), Int.toNat_natCast, List.take_left, List.drop_left]
theorem rwN (k : Nat) {u : Nat} (h : u < 18446744073709551616) (out : List Int) (ho : out.length + 20 ≤ 1000000) : ref01_N (k + 20) out (u : Int) = some (out ++ encN u, ()) := r_N k h (mG_ok h).1 (mG_ok h).2 out ho
theorem rZig (k : Nat) {a : Int} (h : -9223372036854775808 ≤ a ∧ a ≤ 9223372036854775807) : ref01_Zig k a = some (((zigN a : Nat) : Int), ()) := by
  rw [ref01_Zig_eq, (zigN_is h).1]
  unfold wr
  simp only [wu64, wrap_i64]
  unfold wrap64
  by_cases h0 : 0 ≤ a
  · simp only [h0, decide_true, cond_true, if_true]
    congr 2
    omega
  · simp only [h0, decide_false, cond_false, if_false]
    congr 2
    omega
theorem rwT (k : Nat) {s : List Int} (out : List Int) (ho : out.length + s.length + 20 ≤ 1000000) : ref01_Text (k + 20) out s = some (out ++ encT s, ()) := by
  have := encN_length (u := s.length) (by omega)
  rw [ref01_Text_eq, wr_u64 (by omega), rwN k (by omega) out (by omega), Option.bind_some, lim_ok (by simp; omega)]
  unfold encT
  simp
attribute [local irreducible] _meta_reader_count _meta_reader_flag _meta_reader_lock _meta_reader_table _meta_reader_table_l0 _meta_reader_table_l1 _meta_reader_text law15_MetaCommands law15_Small law15_Small_l0 law15_Small_l1 law15_Small_l2 law15_Small_l3 law15_awake lock_New meta_Machine_Do_c meta_Machine_ok meta_Machine_one_c meta_New meta_OfCommand meta_OfCommand_l0 meta_OfCommand_l1 meta_OfCommand_l2 meta_PutCommand meta_PutCommand_l0 meta_PutCommand_l1 meta_bit meta_putTable meta_putTable_l0 meta_putTable_l1 num_Zag num_Zig ref01_N ref01_N_l0 ref01_Reader_End ref01_Reader_I ref01_Reader_N ref01_Reader_N_l0 ref01_Reader_Text ref01_Reader_fail ref01_Text ref01_Zig ref15_CommandOf ref15_CommandOf_l0 ref15_CommandOf_l1 ref15_CommandOf_l2 ref15_CommandOf_l3 ref15_CommandOf_l4 ref15_PutCommand ref15_PutCommand_l0 ref15_PutCommand_l1 ref15_PutCommand_l2 ref15_PutCommand_l3 ref15_PutCommand_l4 ref15_SameCommand ref15_flag ref15_i ref15_t row_Read row_Reader_End row_Reader_I row_Reader_N row_Reader_Text row_Reader_fail row_Reader_ok row_Writer_Bytes row_Writer_I row_Writer_N row_Writer_N_l0 row_Writer_N_l1 row_Writer_N_l2 row_Writer_Text row_number row_number_l0
abbrev LockD := Int × (Int × (Int × ((List Int) × ((List Int) × Unit))))
abbrev WrD := (List Int) × (Bool × ((List Int) × Unit))
abbrev ColD := (List Int) × (Int × (Bool × Unit))
abbrev TabD := Int × ((List Int) × ((List ColD) × (Int × ((List Int) × Unit))))
abbrev CmdD := Int × (Int × (Int × (Int × (Int × (Bool × (LockD × ((List Int) × ((List Int) × ((List Int) × ((List WrD) × ((List (List Int)) × (TabD × Unit))))))))))))
def sW (x : WrD) : Bool := decide (x.1.length + x.2.2.1.length ≤ 300)
def sK (x : List Int) : Bool := decide (x.length ≤ 100)
def sCo (x : ColD) : Bool := decide (x.1.length ≤ 100)
/-- A small command. -/
def sC (c : CmdD) : Bool := decide (c.2.2.2.2.2.2.2.1.length + c.2.2.2.2.2.2.2.2.1.length + c.2.2.2.2.2.2.1.2.2.2.1.length + c.2.2.2.2.2.2.1.2.2.2.2.1.length ≤ 200) && (decide (c.2.2.2.2.2.2.2.2.2.1.length ≤ 10) && (decide (c.2.2.2.2.2.2.2.2.2.2.1.length ≤ 10) &&
  (decide (c.2.2.2.2.2.2.2.2.2.2.2.1.length ≤ 10) && (decide (c.2.2.2.2.2.2.2.2.2.2.2.2.1.2.2.1.length ≤ 14) && (decide (c.2.2.2.2.2.2.2.2.2.2.2.2.1.2.2.2.2.1.length ≤ 6) && (decide (c.2.2.2.2.2.2.2.2.2.2.2.2.1.2.1.length ≤ 100) &&
  (c.2.2.2.2.2.2.2.2.2.2.1.all sW && (c.2.2.2.2.2.2.2.2.2.2.2.1.all sK && c.2.2.2.2.2.2.2.2.2.2.2.2.1.2.2.1.all sCo))))))))
theorem sm_l3 (k n : Nat) (v108 : (List (Int × (Int × (Int × (Int × (Int × (Bool × ((Int × (Int × (Int × ((List Int) × ((List Int) × Unit))))) × ((List Int) × ((List Int) × ((List Int) × ((List ((List Int) × (Bool × ((List Int) × Unit)))) × ((List (List Int)) × ((Int × ((List Int) × ((List ((List Int) × (Int × (Bool × Unit)))) × (Int × ((List Int) × Unit))))) × Unit))))))))))))))) (v109 : (List (Int × (Int × (Int × (Int × (Int × (Bool × ((Int × (Int × (Int × ((List Int) × ((List Int) × Unit))))) × ((List Int) × ((List Int) × ((List Int) × ((List ((List Int) × (Bool × ((List Int) × Unit)))) × ((List (List Int)) × ((Int × ((List Int) × ((List ((List Int) × (Int × (Bool × Unit)))) × (Int × ((List Int) × Unit))))) × Unit))))))))))))))) (v110 : Int) (v111 : Int) (v112 : (List Int)) (v113 : Int) (v114 : Bool) (v115 : (List ((List Int) × (Bool × ((List Int) × Unit))))) (v116 : Int) (v117 : Bool) (v118 : (List (List Int))) (v119 : Int) (v120 : Bool) (v121 : (List ((List Int) × (Int × (Bool × Unit))))) (v122 : Int) (v123 : Bool) (v124 : (List Int)) (v125 : Int) (v126 : Bool) (v127 : (List Int)) (v128 : Int) (v129 : Bool) (v130 : (List ((List Int) × (Int × (Bool × Unit))))) (v133 : Int) (v134 : Int) (v135 : Int) (v136 : Int) (v137 : Int) (v138 : Bool) (v139 : Int) (v140 : Int) (v141 : Int) (v142 : (List Int)) (v143 : (List Int)) (v144 : (List Int)) (v145 : (List Int)) (v146 : (List Int)) (v147 : (List ((List Int) × (Bool × ((List Int) × Unit))))) (v148 : (List (List Int))) (v149 : Int) (v150 : (List Int)) (v151 : (List ((List Int) × (Int × (Bool × Unit))))) (v152 : Int) (v153 : (List Int)) (hm : v130.length ≤ 9223372036854775807) (hq : ∀ x ∈ v130, (sCo x = true → decide (100 < (x.1.length : Int)) = false) ∧ (¬ sCo x = true → decide (100 < (x.1.length : Int)) = true)) : ∀ n1 j, j ≤ v130.length → v130.length - j < n1 →
    law15_Small_l3 k n n1 v108 v109 v110 v111 v112 v113 v114 v115 v116 v117 v118 v119 v120 v121 v122 v123 v124 v125 v126 v127 v128 v129 v130 (v130.length : Int) (j : Int) v133 v134 v135 v136 v137 v138 v139 v140 v141 v142 v143 v144 v145 v146 v147 v148 v149 v150 v151 v152 v153 = bif (v130.drop j).all sCo then law15_Small_l0 k n v108 v109 v110 (wr .i64 (v111 + 1)) else some (false, ())
  | 0, _, _, h => absurd h (Nat.not_lt_zero _)
  | n1 + 1, j, hj, hn => by
    rw [law15_Small_l3_eq]
    by_cases c : j < v130.length
    · have hx := List.getElem?_eq_getElem c
      rw [bt (by omega), nth_get hx, Option.bind_some, List.drop_eq_getElem_cons c, List.all_cons]
      have hb := hq v130[j] (List.getElem_mem c)
      by_cases c1 : sCo v130[j] = true
      · rw [c1, Bool.true_and, hb.1 c1, cond_false, wr_i64 (by omega)]
        exact sm_l3 k n v108 v109 v110 v111 v112 v113 v114 v115 v116 v117 v118 v119 v120 v121 v122 v123 v124 v125 v126 v127 v128 v129 v130 v133 v134 v135 v136 v137 v138 v139 v140 v141 v142 v143 v144 v145 v146 v147 v148 v149 v150 v151 v152 v153 hm hq n1 (j + 1) c (by omega)
      · rw [Bool.eq_false_iff.2 c1, Bool.false_and, hb.2 c1]; rfl
    · have : j = v130.length := by omega
      subst this
      rw [bf (by omega), List.drop_length]; rfl
theorem sm_l2 (k n : Nat) (v61 : (List (Int × (Int × (Int × (Int × (Int × (Bool × ((Int × (Int × (Int × ((List Int) × ((List Int) × Unit))))) × ((List Int) × ((List Int) × ((List Int) × ((List ((List Int) × (Bool × ((List Int) × Unit)))) × ((List (List Int)) × ((Int × ((List Int) × ((List ((List Int) × (Int × (Bool × Unit)))) × (Int × ((List Int) × Unit))))) × Unit))))))))))))))) (v62 : (List (Int × (Int × (Int × (Int × (Int × (Bool × ((Int × (Int × (Int × ((List Int) × ((List Int) × Unit))))) × ((List Int) × ((List Int) × ((List Int) × ((List ((List Int) × (Bool × ((List Int) × Unit)))) × ((List (List Int)) × ((Int × ((List Int) × ((List ((List Int) × (Int × (Bool × Unit)))) × (Int × ((List Int) × Unit))))) × Unit))))))))))))))) (v63 : Int) (v64 : Int) (v65 : (List Int)) (v66 : Int) (v67 : Bool) (v68 : (List ((List Int) × (Bool × ((List Int) × Unit))))) (v69 : Int) (v70 : Bool) (v71 : (List (List Int))) (v72 : Int) (v73 : Bool) (v74 : (List ((List Int) × (Int × (Bool × Unit))))) (v75 : Int) (v76 : Bool) (v77 : (List Int)) (v78 : Int) (v79 : Bool) (v80 : (List Int)) (v81 : Int) (v82 : Bool) (v83 : (List (List Int))) (v86 : Int) (v87 : Int) (v88 : Int) (v89 : Int) (v90 : Int) (v91 : Bool) (v92 : Int) (v93 : Int) (v94 : Int) (v95 : (List Int)) (v96 : (List Int)) (v97 : (List Int)) (v98 : (List Int)) (v99 : (List Int)) (v100 : (List ((List Int) × (Bool × ((List Int) × Unit))))) (v101 : (List (List Int))) (v102 : Int) (v103 : (List Int)) (v104 : (List ((List Int) × (Int × (Bool × Unit))))) (v105 : Int) (v106 : (List Int)) (hm : v83.length ≤ 9223372036854775807) (hq : ∀ x ∈ v83, (sK x = true → decide (100 < (x.length : Int)) = false) ∧ (¬ sK x = true → decide (100 < (x.length : Int)) = true)) : ∀ n1 j, j ≤ v83.length → v83.length - j < n1 →
    law15_Small_l2 k n n1 v61 v62 v63 v64 v65 v66 v67 v68 v69 v70 v71 v72 v73 v74 v75 v76 v77 v78 v79 v80 v81 v82 v83 (v83.length : Int) (j : Int) v86 v87 v88 v89 v90 v91 v92 v93 v94 v95 v96 v97 v98 v99 v100 v101 v102 v103 v104 v105 v106 = bif (v83.drop j).all sK then law15_Small_l3 k n k v61 v62 v63 v64 v65 v66 v67 v68 v69 v70 v71 v72 v73 v74 v75 v76 v77 v78 v79 v80 v81 v82 v104 (v104.length : Int) (0 : Int) v86 v87 v88 v89 v90 v91 v92 v93 v94 v95 v96 v97 v98 v99 v100 v101 v102 v103 v104 v105 v106 else some (false, ())
  | 0, _, _, h => absurd h (Nat.not_lt_zero _)
  | n1 + 1, j, hj, hn => by
    rw [law15_Small_l2_eq]
    by_cases c : j < v83.length
    · have hx := List.getElem?_eq_getElem c
      rw [bt (by omega), nth_get hx, Option.bind_some, List.drop_eq_getElem_cons c, List.all_cons]
      have hb := hq v83[j] (List.getElem_mem c)
      by_cases c1 : sK v83[j] = true
      · rw [c1, Bool.true_and, hb.1 c1, cond_false, wr_i64 (by omega)]
        exact sm_l2 k n v61 v62 v63 v64 v65 v66 v67 v68 v69 v70 v71 v72 v73 v74 v75 v76 v77 v78 v79 v80 v81 v82 v83 v86 v87 v88 v89 v90 v91 v92 v93 v94 v95 v96 v97 v98 v99 v100 v101 v102 v103 v104 v105 v106 hm hq n1 (j + 1) c (by omega)
      · rw [Bool.eq_false_iff.2 c1, Bool.false_and, hb.2 c1]; rfl
    · have : j = v83.length := by omega
      subst this
      rw [bf (by omega), List.drop_length]; rfl
theorem sm_l1 (k n : Nat) (v14 : (List (Int × (Int × (Int × (Int × (Int × (Bool × ((Int × (Int × (Int × ((List Int) × ((List Int) × Unit))))) × ((List Int) × ((List Int) × ((List Int) × ((List ((List Int) × (Bool × ((List Int) × Unit)))) × ((List (List Int)) × ((Int × ((List Int) × ((List ((List Int) × (Int × (Bool × Unit)))) × (Int × ((List Int) × Unit))))) × Unit))))))))))))))) (v15 : (List (Int × (Int × (Int × (Int × (Int × (Bool × ((Int × (Int × (Int × ((List Int) × ((List Int) × Unit))))) × ((List Int) × ((List Int) × ((List Int) × ((List ((List Int) × (Bool × ((List Int) × Unit)))) × ((List (List Int)) × ((Int × ((List Int) × ((List ((List Int) × (Int × (Bool × Unit)))) × (Int × ((List Int) × Unit))))) × Unit))))))))))))))) (v16 : Int) (v17 : Int) (v18 : (List Int)) (v19 : Int) (v20 : Bool) (v21 : (List ((List Int) × (Bool × ((List Int) × Unit))))) (v22 : Int) (v23 : Bool) (v24 : (List (List Int))) (v25 : Int) (v26 : Bool) (v27 : (List ((List Int) × (Int × (Bool × Unit))))) (v28 : Int) (v29 : Bool) (v30 : (List Int)) (v31 : Int) (v32 : Bool) (v33 : (List Int)) (v34 : Int) (v35 : Bool) (v36 : (List ((List Int) × (Bool × ((List Int) × Unit))))) (v39 : Int) (v40 : Int) (v41 : Int) (v42 : Int) (v43 : Int) (v44 : Bool) (v45 : Int) (v46 : Int) (v47 : Int) (v48 : (List Int)) (v49 : (List Int)) (v50 : (List Int)) (v51 : (List Int)) (v52 : (List Int)) (v53 : (List ((List Int) × (Bool × ((List Int) × Unit))))) (v54 : (List (List Int))) (v55 : Int) (v56 : (List Int)) (v57 : (List ((List Int) × (Int × (Bool × Unit))))) (v58 : Int) (v59 : (List Int)) (hm : v36.length ≤ 9223372036854775807) (hq : ∀ x ∈ v36, (sW x = true → decide (300 < (wr .i64 ((x.1.length : Int) + (x.2.2.1.length : Int)))) = false) ∧ (¬ sW x = true → decide (300 < (wr .i64 ((x.1.length : Int) + (x.2.2.1.length : Int)))) = true)) : ∀ n1 j, j ≤ v36.length → v36.length - j < n1 →
    law15_Small_l1 k n n1 v14 v15 v16 v17 v18 v19 v20 v21 v22 v23 v24 v25 v26 v27 v28 v29 v30 v31 v32 v33 v34 v35 v36 (v36.length : Int) (j : Int) v39 v40 v41 v42 v43 v44 v45 v46 v47 v48 v49 v50 v51 v52 v53 v54 v55 v56 v57 v58 v59 = bif (v36.drop j).all sW then law15_Small_l2 k n k v14 v15 v16 v17 v18 v19 v20 v21 v22 v23 v24 v25 v26 v27 v28 v29 v30 v31 v32 v33 v34 v35 v54 (v54.length : Int) (0 : Int) v39 v40 v41 v42 v43 v44 v45 v46 v47 v48 v49 v50 v51 v52 v53 v54 v55 v56 v57 v58 v59 else some (false, ())
  | 0, _, _, h => absurd h (Nat.not_lt_zero _)
  | n1 + 1, j, hj, hn => by
    rw [law15_Small_l1_eq]
    by_cases c : j < v36.length
    · have hx := List.getElem?_eq_getElem c
      rw [bt (by omega), nth_get hx, Option.bind_some, List.drop_eq_getElem_cons c, List.all_cons]
      have hb := hq v36[j] (List.getElem_mem c)
      by_cases c1 : sW v36[j] = true
      · rw [c1, Bool.true_and, hb.1 c1, cond_false, wr_i64 (by omega)]
        exact sm_l1 k n v14 v15 v16 v17 v18 v19 v20 v21 v22 v23 v24 v25 v26 v27 v28 v29 v30 v31 v32 v33 v34 v35 v36 v39 v40 v41 v42 v43 v44 v45 v46 v47 v48 v49 v50 v51 v52 v53 v54 v55 v56 v57 v58 v59 hm hq n1 (j + 1) c (by omega)
      · rw [Bool.eq_false_iff.2 c1, Bool.false_and, hb.2 c1]; rfl
    · have : j = v36.length := by omega
      subst this
      rw [bf (by omega), List.drop_length]; rfl
def RB : Nat := 140737488351232
structure SzC (x : CmdD) : Prop where
  lo : x.2.2.2.2.2.2.2.1.length ≤ RB
  hi : x.2.2.2.2.2.2.2.2.1.length ≤ RB
  llo : x.2.2.2.2.2.2.1.2.2.2.1.length ≤ RB
  lhi : x.2.2.2.2.2.2.1.2.2.2.2.1.length ≤ RB
  wr : ∀ w ∈ x.2.2.2.2.2.2.2.2.2.2.1, w.1.length ≤ RB ∧ w.2.2.1.length ≤ RB
  wl : x.2.2.2.2.2.2.2.2.2.2.1.length ≤ 9223372036854775807
  kl : x.2.2.2.2.2.2.2.2.2.2.2.1.length ≤ 9223372036854775807
  cl : x.2.2.2.2.2.2.2.2.2.2.2.2.1.2.2.1.length ≤ 9223372036854775807
theorem small_l0 (k : Nat) (hk : 20 ≤ k) (l : List CmdD) (hm : l.length ≤ 9223372036854775807) (hz : ∀ x ∈ l, SzC x) : ∀ n j, j ≤ l.length → l.length - j < n →
    law15_Small_l0 k n l l (l.length : Int) (j : Int) = some ((l.drop j).all sC && decide (l.length ≤ 40), ())
  | 0, _, _, h => absurd h (Nat.not_lt_zero _)
  | n + 1, j, hj, hn => by
    rw [law15_Small_l0_eq]
    by_cases c : j < l.length
    · have hx := List.getElem?_eq_getElem c
      rw [bt (by omega), nth_get hx, Option.bind_some, List.drop_eq_getElem_cons c, List.all_cons]
      have hzx := hz l[j] (List.getElem_mem c)
      have ih := small_l0 k hk l hm hz n (j + 1) c (by omega)
      generalize l[j] = x at hzx
      have z1 := hzx.lo; have z2 := hzx.hi; have z3 := hzx.llo; have z4 := hzx.lhi
      unfold RB at z1 z2 z3 z4
      rw [wr_i64 (n := (x.2.2.2.2.2.2.2.1.length : Int) + (x.2.2.2.2.2.2.2.2.1.length : Int)) (by omega), wr_i64 (n := (x.2.2.2.2.2.2.2.1.length : Int) + (x.2.2.2.2.2.2.2.2.1.length : Int) + (x.2.2.2.2.2.2.1.2.2.2.1.length : Int)) (by omega), wr_i64 (by omega)]
      by_cases c0 : x.2.2.2.2.2.2.2.1.length + x.2.2.2.2.2.2.2.2.1.length + x.2.2.2.2.2.2.1.2.2.2.1.length + x.2.2.2.2.2.2.1.2.2.2.2.1.length ≤ 200
      rotate_left
      · rw [bt (by omega), show sC x = false from by simp only [sC, dF c0, Bool.false_and]]; rfl
      rw [bf (by omega)]
      by_cases c1 : x.2.2.2.2.2.2.2.2.2.1.length ≤ 10
      rotate_left
      · rw [bt (by omega), show sC x = false from by simp only [sC, dF c1, Bool.false_and, Bool.and_false]]; rfl
      rw [bf (by omega)]
      by_cases c2 : x.2.2.2.2.2.2.2.2.2.2.1.length ≤ 10
      rotate_left
      · rw [bt (by omega), show sC x = false from by simp only [sC, dF c2, Bool.false_and, Bool.and_false]]; rfl
      rw [bf (by omega)]
      by_cases c3 : x.2.2.2.2.2.2.2.2.2.2.2.1.length ≤ 10
      rotate_left
      · rw [bt (by omega), show sC x = false from by simp only [sC, dF c3, Bool.false_and, Bool.and_false]]; rfl
      rw [bf (by omega)]
      by_cases c4 : x.2.2.2.2.2.2.2.2.2.2.2.2.1.2.2.1.length ≤ 14
      rotate_left
      · rw [bt (by omega), show sC x = false from by simp only [sC, dF c4, Bool.false_and, Bool.and_false]]; rfl
      rw [bf (by omega)]
      by_cases c5 : x.2.2.2.2.2.2.2.2.2.2.2.2.1.2.2.2.2.1.length ≤ 6
      rotate_left
      · rw [bt (by omega), show sC x = false from by simp only [sC, dF c5, Bool.false_and, Bool.and_false]]; rfl
      rw [bf (by omega)]
      by_cases c6 : x.2.2.2.2.2.2.2.2.2.2.2.2.1.2.1.length ≤ 100
      rotate_left
      · rw [bt (by omega), show sC x = false from by simp only [sC, dF c6, Bool.false_and, Bool.and_false]]; rfl
      rw [bf (by omega)]
      have hs : sC x = (x.2.2.2.2.2.2.2.2.2.2.1.all sW && (x.2.2.2.2.2.2.2.2.2.2.2.1.all sK && x.2.2.2.2.2.2.2.2.2.2.2.2.1.2.2.1.all sCo)) := by simp only [sC, dT c0, dT c1, dT c2, dT c3, dT c4, dT c5, dT c6, Bool.true_and]
      rw [hs]
      refine (sm_l1 k n _ _ _ _ _ _ _ _ _ _ _ _ _ _ _ _ _ _ _ _ _ _ _ _ _ _ _ _ _ _ _ _ _ _ _ _ _ _ _ _ _ _ _ _ hzx.wl (fun w hw => ?_) k 0 (by omega) (by omega)).trans ?_
      · have hw := hzx.wr w (by simpa using hw)
        unfold RB at hw
        unfold sW
        rw [wr_i64 (by omega), decide_eq_true_eq, decide_eq_false_iff_not, decide_eq_true_eq]
        constructor <;> omega
      rw [List.drop_zero]
      by_cases d1 : x.2.2.2.2.2.2.2.2.2.2.1.all sW = true
      rotate_left
      · rw [Bool.eq_false_iff.2 d1]; rfl
      rw [d1, cond_true, Bool.true_and]
      refine (sm_l2 k n _ _ _ _ _ _ _ _ _ _ _ _ _ _ _ _ _ _ _ _ _ _ _ _ _ _ _ _ _ _ _ _ _ _ _ _ _ _ _ _ _ _ _ _ hzx.kl (fun w hw => ?_) k 0 (by omega) (by omega)).trans ?_
      · unfold sK
        rw [decide_eq_true_eq, decide_eq_false_iff_not, decide_eq_true_eq]
        constructor <;> omega
      rw [List.drop_zero]
      by_cases d2 : x.2.2.2.2.2.2.2.2.2.2.2.1.all sK = true
      rotate_left
      · rw [Bool.eq_false_iff.2 d2]; rfl
      rw [d2, cond_true, Bool.true_and]
      refine (sm_l3 k n _ _ _ _ _ _ _ _ _ _ _ _ _ _ _ _ _ _ _ _ _ _ _ _ _ _ _ _ _ _ _ _ _ _ _ _ _ _ _ _ _ _ _ _ hzx.cl (fun w hw => ?_) k 0 (by omega) (by omega)).trans ?_
      · unfold sCo
        rw [decide_eq_true_eq, decide_eq_false_iff_not, decide_eq_true_eq]
        constructor <;> omega
      rw [List.drop_zero]
      by_cases d3 : x.2.2.2.2.2.2.2.2.2.2.2.2.1.2.2.1.all sCo = true
      rotate_left
      · rw [Bool.eq_false_iff.2 d3]; rfl
      rw [d3, cond_true, Bool.true_and, wr_i64 (by omega)]
      exact ih
    · have : j = l.length := by omega
      subst this
      rw [bf (by omega), List.drop_length, List.all_nil, Bool.true_and]
      congr 2
      exact decide_eq_decide.2 (by omega)
theorem small_ev {l : List CmdD} (hm : l.length ≤ 9223372036854775807) (hz : ∀ x ∈ l, SzC x) : Ev (fun k => law15_Small k l) (l.all sC && decide (l.length ≤ 40), ()) := by
  refine ⟨l.length + 20, fun k hk => ?_⟩
  show law15_Small k l = _
  rw [law15_Small_eq]
  exact small_l0 k (by omega) l hm hz k 0 (by omega) (by omega)
structure SmC (x : CmdD) : Prop where
  t : x.2.2.2.2.2.2.2.1.length + x.2.2.2.2.2.2.2.2.1.length + x.2.2.2.2.2.2.1.2.2.2.1.length + x.2.2.2.2.2.2.1.2.2.2.2.1.length ≤ 200
  tx : x.2.2.2.2.2.2.2.2.2.1.length ≤ 10
  wr : x.2.2.2.2.2.2.2.2.2.2.1.length ≤ 10
  ky : x.2.2.2.2.2.2.2.2.2.2.2.1.length ≤ 10
  co : x.2.2.2.2.2.2.2.2.2.2.2.2.1.2.2.1.length ≤ 14
  ix : x.2.2.2.2.2.2.2.2.2.2.2.2.1.2.2.2.2.1.length ≤ 6
  na : x.2.2.2.2.2.2.2.2.2.2.2.2.1.2.1.length ≤ 100
  ws : ∀ w ∈ x.2.2.2.2.2.2.2.2.2.2.1, w.1.length + w.2.2.1.length ≤ 300
  ks : ∀ w ∈ x.2.2.2.2.2.2.2.2.2.2.2.1, w.length ≤ 100
  cs : ∀ w ∈ x.2.2.2.2.2.2.2.2.2.2.2.2.1.2.2.1, w.1.length ≤ 100
theorem sC_of {x : CmdD} (h : sC x = true) : SmC x := by
  simp only [sC, Bool.and_eq_true, decide_eq_true_eq, List.all_eq_true, sW, sK, sCo] at h
  obtain ⟨h0, h1, h2, h3, h4, h5, h6, h7, h8, h9⟩ := h
  exact ⟨h0, h1, h2, h3, h4, h5, h6, h7, h8, h9⟩

/-! ### Reading, part by part -/
abbrev Rs := Option (List Int)
abbrev Rdr (α : Type) := Rs → α × Rs
def rb {α β : Type} (p : Rdr α) (f : α → Rdr β) : Rdr β := fun s => f (p s).1 (p s).2
def rp {α : Type} (x : α) : Rdr α := fun s => (x, s)
def rdL {α : Type} (p : Rdr α) : Nat → Rdr (List α)
  | 0 => rp []
  | m + 1 => rb p fun x => rb (rdL p m) fun l => rp (x :: l)
abbrev F64 : Int := 18446744073709551615
def mF : Rdr Bool := rb (rN 1) fun x => rp (decide (x = 1))
def rLk : Rdr LockD := rb (rN F64) fun a => rb rI fun b => rb rI fun c => rb (rT 65536) fun d => rb (rT 65536) fun e => rp (a, (b, (c, (d, (e, ())))))
def rWr : Rdr WrD := rb (rT 65536) fun a => rb mF fun b => rb (rT 65536) fun c => rp (a, (b, (c, ())))
def rCo : Rdr ColD := rb (rT 65536) fun a => rb rI fun b => rb mF fun c => rp (a, (b, (c, ())))
def rCn {α : Type} (p : Rdr α) : Rdr (List α) := rb (rN 1000) fun n => rdL p n.toNat
def rTb : Rdr TabD := rb rI fun i => rb (rT 65536) fun nm => rb (rCn rCo) fun cs => rb rI fun ky => rb (rCn rI) fun ix => rp (i, (nm, (cs, (ky, (ix, ())))))
def rCm : Rdr CmdD := rb (rN F64) fun a1 => rb (rN F64) fun a2 => rb rI fun a3 => rb (rN F64) fun a4 => rb (rN F64) fun a5 => rb mF fun a6 => rb rLk fun a7 => rb (rT 65536) fun a8 => rb (rT 65536) fun a9 =>
  rb (rCn (rN F64)) fun b1 => rb (rCn rWr) fun b2 => rb (rCn (rT 65536)) fun b3 => rb rTb fun b4 => rp (a1, (a2, (a3, (a4, (a5, (a6, (a7, (a8, (a9, (b1, (b2, (b3, (b4, ())))))))))))))
def CZ : CmdD := (0, (0, (0, (0, (0, (false, ((0, (0, (0, ([], ([], ()))))), ([], ([], ([], ([], ([], ((0, ([], ([], (0, ([], ()))))), ())))))))))))))
def eN : Rs → Int
  | some [] => 0
  | _ => 30
def decC (b : List Int) : CmdD × Int := if eN (rCm (some b)).2 = 0 then ((rCm (some b)).1, 0) else (CZ, 30)
theorem bn_t {α : Type} {p : Prop} [Decidable p] {x y : α} (h : p) : (bif !decide p then x else y) = y := by rw [decide_eq_true h]; rfl
theorem bn_f {α : Type} {p : Prop} [Decidable p] {x y : α} (h : ¬ p) : (bif !decide p then x else y) = x := by rw [decide_eq_false h]; rfl
theorem mF_fine {st : Rs} (h : Fine st) : Fine (mF st).2 := (rN_fine (most := 1) h).1
theorem rI_fine {st : Rs} (h : Fine st) : Fine (rI st).2 := (rN_fine (most := 18446744073709551615) h).1
theorem rF_fine {st : Rs} (h : Fine st) : Fine (rN F64 st).2 := (rN_fine (most := F64) h).1
theorem rWr_fine {st : Rs} (h : Fine st) : Fine (rWr st).2 := rT_fine (mF_fine (rT_fine h))
theorem rCo_fine {st : Rs} (h : Fine st) : Fine (rCo st).2 := mF_fine (rI_fine (rT_fine h))
theorem rLk_fine {st : Rs} (h : Fine st) : Fine (rLk st).2 := rT_fine (rT_fine (rI_fine (rI_fine (rF_fine h))))
theorem rdL_fine {α : Type} {p : Rdr α} (hp : ∀ st, Fine st → Fine (p st).2) : ∀ m st, Fine st → Fine (rdL p m st).2
  | 0, _, h => h
  | m + 1, st, h => rdL_fine hp m _ (hp st h)
theorem rCn_fine {α : Type} {p : Rdr α} (hp : ∀ st, Fine st → Fine (p st).2) {st : Rs} (h : Fine st) : Fine (rCn p st).2 := rdL_fine hp _ _ (rN_fine (most := 1000) h).1
theorem rTb_fine {st : Rs} (h : Fine st) : Fine (rTb st).2 := rCn_fine (fun _ => rI_fine) (rI_fine (rCn_fine (fun _ => rCo_fine) (rT_fine (rI_fine h))))
theorem rCn_ex {α : Type} {p : Rdr α} {st : Rs} (h : Fine st) : ∃ m : Nat, m ≤ 1000 ∧ (rN 1000 st).1 = (m : Int) ∧ rCn p st = rdL p m (rN 1000 st).2 := by
  have hb := rN_fine (most := 1000) h
  refine ⟨(rN 1000 st).1.toNat, by have := hb.2.2 (by omega); omega, by have := hb.2.1.1; omega, rfl⟩
theorem mText (k : Nat) {st : Rs} (h : Fine st) : _meta_reader_text (k + 20) (st.getD []) st.isSome = some ((rT 65536 st).1, cE (rT 65536 st).2) := by
  rw [_meta_reader_text_eq, cT k (by omega) h, Option.bind_some]
theorem mFlag (k : Nat) {st : Rs} (h : Fine st) : _meta_reader_flag (k + 20) (st.getD []) st.isSome = some ((mF st).1, cE (mF st).2) := by
  rw [_meta_reader_flag_eq, cN k _ h, Option.bind_some]; rfl
theorem mCount (k : Nat) {st : Rs} (h : Fine st) : _meta_reader_count (k + 20) (st.getD []) st.isSome = some ((rN 1000 st).1, cE (rN 1000 st).2) := by
  have hb := rN_fine (most := 1000) h
  have h1 := hb.2.2 (by omega)
  have h2 := hb.2.1
  rw [_meta_reader_count_eq, cN k _ h, Option.bind_some, wr_i64 (by omega)]
theorem mLock (k : Nat) {st : Rs} (h : Fine st) : _meta_reader_lock (k + 20) (st.getD []) st.isSome = some ((rLk st).1, ((cE (rLk st).2).1, ((rLk st).1, ()))) := by
  rw [_meta_reader_lock_eq, cN k _ h, Option.bind_some, cI k (rF_fine h), Option.bind_some, cI k (rI_fine (rF_fine h)), Option.bind_some, mText k (rI_fine (rI_fine (rF_fine h))), Option.bind_some, mText k (rT_fine (rI_fine (rI_fine (rF_fine h)))), Option.bind_some]
  rfl
theorem mEnd (k : Nat) (st : Rs) : row_Reader_End k (st.getD []) st.isSome = some (eN st, cE st) := by
  rw [row_Reader_End_eq, row_Reader_ok_eq, Option.bind_some]
  match st with
  | none => rfl
  | some [] => rfl
  | some (x :: l) =>
    show (bif decide ((0 : Int) < ((x :: l).length : Int)) then _ else _) = _
    rw [bt (by simp)]; rfl
theorem fEnd (k : Nat) (st : Rs) : ref01_Reader_End k (st.getD []) st.isNone = some (eN st, rE st) := by
  rw [ref01_Reader_End_eq]
  match st with
  | none => rfl
  | some [] => rfl
  | some (x :: l) =>
    show (bif decide ((0 : Int) < ((x :: l).length : Int)) then _ else _) = _
    rw [bt (by simp)]; rfl
theorem fFlag {k : Nat} {st : Rs} (h : Fine st) : ref01_Reader_N (k + 20) 1 (st.getD []) st.isNone = some ((rN 1 st).1, rE (rN 1 st).2) := fN k 1 h
theorem mt_l0 (k : Nat) (v1138 : Int) (v1139 : (List Int)) (v1140 : (List ((List Int) × (Int × (Bool × Unit))))) (v1141 : Int) (v1142 : (List Int)) (v1143 : Int) (v1144 : (List Int)) (v1146 : Int) (v1147 : (List Int)) : ∀ (m N : Nat) (acc : (List ((List Int) × (Int × (Bool × Unit))))) (st : Rs), m ≤ N → m ≤ 100000 → Fine st → acc.length + m ≤ 1000000 →
    _meta_reader_table_l0 (k + 20) N (m : Int) (st.getD []) st.isSome v1138 v1139 v1140 v1141 v1142 v1143 v1144 acc v1146 v1147 = _meta_reader_table_l0 (k + 20) (N - m) (0 : Int) ((rdL rCo m st).2.getD []) (rdL rCo m st).2.isSome v1138 v1139 v1140 v1141 v1142 v1143 v1144 (acc ++ (rdL rCo m st).1) v1146 v1147
  | 0, N, acc, st, _, _, _, _ => by
    show _ = _meta_reader_table_l0 (k + 20) (N - 0) (0 : Int) (st.getD []) st.isSome v1138 v1139 v1140 v1141 v1142 v1143 v1144 (acc ++ []) v1146 v1147
    rw [List.append_nil, Nat.sub_zero]; rfl
  | m + 1, 0, _, _, h, _, _, _ => absurd h (Nat.not_succ_le_zero _)
  | m + 1, N + 1, acc, st, h, hm, hf, ha => by
    rw [_meta_reader_table_l0_eq, bt (by omega), mText k hf, Option.bind_some, cI k (rT_fine hf), Option.bind_some, mFlag k (rI_fine (rT_fine hf)), Option.bind_some, lim_ok (by simp; omega), wr_i64 (n := ((m + 1 : Nat) : Int) - 1) (by omega)]
    have e : ((m + 1 : Nat) : Int) - 1 = (m : Int) := by omega
    rw [e]
    refine (mt_l0 k v1138 v1139 v1140 v1141 v1142 v1143 v1144 v1146 v1147 m N _ (rCo st).2 (by omega) (by omega) (rCo_fine hf) (by simp; omega)).trans ?_
    rw [List.append_assoc, Nat.succ_sub_succ]; rfl
theorem mt_l0_c (k : Nat) (v1138 : Int) (v1139 : (List Int)) (v1140 : (List ((List Int) × (Int × (Bool × Unit))))) (v1141 : Int) (v1142 : (List Int)) (v1143 : Int) (v1144 : (List Int)) (v1146 : Int) (v1147 : (List Int)) (m N : Nat) (st : Rs) (c : Int) (hc : c = (m : Int)) (h : m ≤ N) (hm : m ≤ 1000) (hf : Fine st) :
    _meta_reader_table_l0 (k + 20) N c (st.getD []) st.isSome v1138 v1139 v1140 v1141 v1142 v1143 v1144 [] v1146 v1147 = _meta_reader_table_l0 (k + 20) (N - m) (0 : Int) ((rdL rCo m st).2.getD []) (rdL rCo m st).2.isSome v1138 v1139 v1140 v1141 v1142 v1143 v1144 (rdL rCo m st).1 v1146 v1147 := by
  subst hc
  have := mt_l0 k v1138 v1139 v1140 v1141 v1142 v1143 v1144 v1146 v1147 m N [] st h (by omega) hf (by simp; omega)
  rw [List.nil_append] at this
  exact this
theorem mt_l1 (k : Nat) (v1156 : Int) (v1157 : (List Int)) (v1158 : (List ((List Int) × (Int × (Bool × Unit))))) (v1159 : Int) (v1160 : (List Int)) (v1161 : Int) (v1162 : (List Int)) (v1163 : (List ((List Int) × (Int × (Bool × Unit))))) (v1164 : Int) : ∀ (m N : Nat) (acc : (List Int)) (st : Rs), m ≤ N → m ≤ 100000 → Fine st → acc.length + m ≤ 1000000 →
    _meta_reader_table_l1 (k + 20) N (m : Int) (st.getD []) st.isSome v1156 v1157 v1158 v1159 v1160 v1161 v1162 v1163 v1164 acc = _meta_reader_table_l1 (k + 20) (N - m) (0 : Int) ((rdL rI m st).2.getD []) (rdL rI m st).2.isSome v1156 v1157 v1158 v1159 v1160 v1161 v1162 v1163 v1164 (acc ++ (rdL rI m st).1)
  | 0, N, acc, st, _, _, _, _ => by
    show _ = _meta_reader_table_l1 (k + 20) (N - 0) (0 : Int) (st.getD []) st.isSome v1156 v1157 v1158 v1159 v1160 v1161 v1162 v1163 v1164 (acc ++ [])
    rw [List.append_nil, Nat.sub_zero]; rfl
  | m + 1, 0, _, _, h, _, _, _ => absurd h (Nat.not_succ_le_zero _)
  | m + 1, N + 1, acc, st, h, hm, hf, ha => by
    rw [_meta_reader_table_l1_eq, bt (by omega), cI k hf, Option.bind_some, lim_ok (by simp; omega), wr_i64 (n := ((m + 1 : Nat) : Int) - 1) (by omega)]
    have e : ((m + 1 : Nat) : Int) - 1 = (m : Int) := by omega
    rw [e]
    refine (mt_l1 k v1156 v1157 v1158 v1159 v1160 v1161 v1162 v1163 v1164 m N _ (rI st).2 (by omega) (by omega) (rI_fine hf) (by simp; omega)).trans ?_
    rw [List.append_assoc, Nat.succ_sub_succ]; rfl
theorem mt_l1_c (k : Nat) (v1156 : Int) (v1157 : (List Int)) (v1158 : (List ((List Int) × (Int × (Bool × Unit))))) (v1159 : Int) (v1160 : (List Int)) (v1161 : Int) (v1162 : (List Int)) (v1163 : (List ((List Int) × (Int × (Bool × Unit))))) (v1164 : Int) (m N : Nat) (st : Rs) (c : Int) (hc : c = (m : Int)) (h : m ≤ N) (hm : m ≤ 1000) (hf : Fine st) :
    _meta_reader_table_l1 (k + 20) N c (st.getD []) st.isSome v1156 v1157 v1158 v1159 v1160 v1161 v1162 v1163 v1164 [] = _meta_reader_table_l1 (k + 20) (N - m) (0 : Int) ((rdL rI m st).2.getD []) (rdL rI m st).2.isSome v1156 v1157 v1158 v1159 v1160 v1161 v1162 v1163 v1164 (rdL rI m st).1 := by
  subst hc
  have := mt_l1 k v1156 v1157 v1158 v1159 v1160 v1161 v1162 v1163 v1164 m N [] st h (by omega) hf (by simp; omega)
  rw [List.nil_append] at this
  exact this
theorem mo_l0 (k : Nat) (v1802 : Int) (v1803 : Int) (v1804 : Int) (v1805 : Int) (v1806 : Int) (v1807 : Bool) (v1808 : Int) (v1809 : Int) (v1810 : Int) (v1811 : (List Int)) (v1812 : (List Int)) (v1813 : (List Int)) (v1814 : (List Int)) (v1815 : (List Int)) (v1816 : (List ((List Int) × (Bool × ((List Int) × Unit))))) (v1817 : (List (List Int))) (v1818 : Int) (v1819 : (List Int)) (v1820 : (List ((List Int) × (Int × (Bool × Unit))))) (v1821 : Int) (v1822 : (List Int)) (v1823 : Int) (v1824 : Int) (v1825 : Int) (v1826 : Int) (v1827 : Int) (v1828 : Bool) (v1829 : Int) (v1830 : Int) (v1831 : Int) (v1832 : (List Int)) (v1833 : (List Int)) (v1834 : (List Int)) (v1835 : (List Int)) (v1837 : (List ((List Int) × (Bool × ((List Int) × Unit))))) (v1838 : (List (List Int))) (v1839 : Int) (v1840 : (List Int)) (v1841 : (List ((List Int) × (Int × (Bool × Unit))))) (v1842 : Int) (v1843 : (List Int)) : ∀ (m N : Nat) (acc : (List Int)) (st : Rs), m ≤ N → m ≤ 100000 → Fine st → acc.length + m ≤ 1000000 →
    meta_OfCommand_l0 (k + 20) N (m : Int) v1802 v1803 v1804 v1805 v1806 v1807 v1808 v1809 v1810 v1811 v1812 v1813 v1814 v1815 v1816 v1817 v1818 v1819 v1820 v1821 v1822 v1823 v1824 v1825 v1826 v1827 v1828 v1829 v1830 v1831 v1832 v1833 v1834 v1835 acc v1837 v1838 v1839 v1840 v1841 v1842 v1843 (st.getD []) st.isSome = meta_OfCommand_l0 (k + 20) (N - m) (0 : Int) v1802 v1803 v1804 v1805 v1806 v1807 v1808 v1809 v1810 v1811 v1812 v1813 v1814 v1815 v1816 v1817 v1818 v1819 v1820 v1821 v1822 v1823 v1824 v1825 v1826 v1827 v1828 v1829 v1830 v1831 v1832 v1833 v1834 v1835 (acc ++ (rdL (rN F64) m st).1) v1837 v1838 v1839 v1840 v1841 v1842 v1843 ((rdL (rN F64) m st).2.getD []) (rdL (rN F64) m st).2.isSome
  | 0, N, acc, st, _, _, _, _ => by
    show _ = meta_OfCommand_l0 (k + 20) (N - 0) (0 : Int) v1802 v1803 v1804 v1805 v1806 v1807 v1808 v1809 v1810 v1811 v1812 v1813 v1814 v1815 v1816 v1817 v1818 v1819 v1820 v1821 v1822 v1823 v1824 v1825 v1826 v1827 v1828 v1829 v1830 v1831 v1832 v1833 v1834 v1835 (acc ++ []) v1837 v1838 v1839 v1840 v1841 v1842 v1843 (st.getD []) st.isSome
    rw [List.append_nil, Nat.sub_zero]; rfl
  | m + 1, 0, _, _, h, _, _, _ => absurd h (Nat.not_succ_le_zero _)
  | m + 1, N + 1, acc, st, h, hm, hf, ha => by
    rw [meta_OfCommand_l0_eq, bt (by omega), cN k _ hf, Option.bind_some, lim_ok (by simp; omega), wr_i64 (n := ((m + 1 : Nat) : Int) - 1) (by omega)]
    have e : ((m + 1 : Nat) : Int) - 1 = (m : Int) := by omega
    rw [e]
    refine (mo_l0 k v1802 v1803 v1804 v1805 v1806 v1807 v1808 v1809 v1810 v1811 v1812 v1813 v1814 v1815 v1816 v1817 v1818 v1819 v1820 v1821 v1822 v1823 v1824 v1825 v1826 v1827 v1828 v1829 v1830 v1831 v1832 v1833 v1834 v1835 v1837 v1838 v1839 v1840 v1841 v1842 v1843 m N _ ((rN F64) st).2 (by omega) (by omega) (rF_fine hf) (by simp; omega)).trans ?_
    rw [List.append_assoc, Nat.succ_sub_succ]; rfl
theorem mo_l0_c (k : Nat) (v1802 : Int) (v1803 : Int) (v1804 : Int) (v1805 : Int) (v1806 : Int) (v1807 : Bool) (v1808 : Int) (v1809 : Int) (v1810 : Int) (v1811 : (List Int)) (v1812 : (List Int)) (v1813 : (List Int)) (v1814 : (List Int)) (v1815 : (List Int)) (v1816 : (List ((List Int) × (Bool × ((List Int) × Unit))))) (v1817 : (List (List Int))) (v1818 : Int) (v1819 : (List Int)) (v1820 : (List ((List Int) × (Int × (Bool × Unit))))) (v1821 : Int) (v1822 : (List Int)) (v1823 : Int) (v1824 : Int) (v1825 : Int) (v1826 : Int) (v1827 : Int) (v1828 : Bool) (v1829 : Int) (v1830 : Int) (v1831 : Int) (v1832 : (List Int)) (v1833 : (List Int)) (v1834 : (List Int)) (v1835 : (List Int)) (v1837 : (List ((List Int) × (Bool × ((List Int) × Unit))))) (v1838 : (List (List Int))) (v1839 : Int) (v1840 : (List Int)) (v1841 : (List ((List Int) × (Int × (Bool × Unit))))) (v1842 : Int) (v1843 : (List Int)) (m N : Nat) (st : Rs) (c : Int) (hc : c = (m : Int)) (h : m ≤ N) (hm : m ≤ 1000) (hf : Fine st) :
    meta_OfCommand_l0 (k + 20) N c v1802 v1803 v1804 v1805 v1806 v1807 v1808 v1809 v1810 v1811 v1812 v1813 v1814 v1815 v1816 v1817 v1818 v1819 v1820 v1821 v1822 v1823 v1824 v1825 v1826 v1827 v1828 v1829 v1830 v1831 v1832 v1833 v1834 v1835 [] v1837 v1838 v1839 v1840 v1841 v1842 v1843 (st.getD []) st.isSome = meta_OfCommand_l0 (k + 20) (N - m) (0 : Int) v1802 v1803 v1804 v1805 v1806 v1807 v1808 v1809 v1810 v1811 v1812 v1813 v1814 v1815 v1816 v1817 v1818 v1819 v1820 v1821 v1822 v1823 v1824 v1825 v1826 v1827 v1828 v1829 v1830 v1831 v1832 v1833 v1834 v1835 (rdL (rN F64) m st).1 v1837 v1838 v1839 v1840 v1841 v1842 v1843 ((rdL (rN F64) m st).2.getD []) (rdL (rN F64) m st).2.isSome := by
  subst hc
  have := mo_l0 k v1802 v1803 v1804 v1805 v1806 v1807 v1808 v1809 v1810 v1811 v1812 v1813 v1814 v1815 v1816 v1817 v1818 v1819 v1820 v1821 v1822 v1823 v1824 v1825 v1826 v1827 v1828 v1829 v1830 v1831 v1832 v1833 v1834 v1835 v1837 v1838 v1839 v1840 v1841 v1842 v1843 m N [] st h (by omega) hf (by simp; omega)
  rw [List.nil_append] at this
  exact this
theorem mo_l1 (k : Nat) (v1849 : Int) (v1850 : Int) (v1851 : Int) (v1852 : Int) (v1853 : Int) (v1854 : Bool) (v1855 : Int) (v1856 : Int) (v1857 : Int) (v1858 : (List Int)) (v1859 : (List Int)) (v1860 : (List Int)) (v1861 : (List Int)) (v1862 : (List Int)) (v1863 : (List ((List Int) × (Bool × ((List Int) × Unit))))) (v1864 : (List (List Int))) (v1865 : Int) (v1866 : (List Int)) (v1867 : (List ((List Int) × (Int × (Bool × Unit))))) (v1868 : Int) (v1869 : (List Int)) (v1870 : Int) (v1871 : Int) (v1872 : Int) (v1873 : Int) (v1874 : Int) (v1875 : Bool) (v1876 : Int) (v1877 : Int) (v1878 : Int) (v1879 : (List Int)) (v1880 : (List Int)) (v1881 : (List Int)) (v1882 : (List Int)) (v1883 : (List Int)) (v1885 : (List (List Int))) (v1886 : Int) (v1887 : (List Int)) (v1888 : (List ((List Int) × (Int × (Bool × Unit))))) (v1889 : Int) (v1890 : (List Int)) : ∀ (m N : Nat) (acc : (List ((List Int) × (Bool × ((List Int) × Unit))))) (st : Rs), m ≤ N → m ≤ 100000 → Fine st → acc.length + m ≤ 1000000 →
    meta_OfCommand_l1 (k + 20) N (m : Int) v1849 v1850 v1851 v1852 v1853 v1854 v1855 v1856 v1857 v1858 v1859 v1860 v1861 v1862 v1863 v1864 v1865 v1866 v1867 v1868 v1869 v1870 v1871 v1872 v1873 v1874 v1875 v1876 v1877 v1878 v1879 v1880 v1881 v1882 v1883 acc v1885 v1886 v1887 v1888 v1889 v1890 (st.getD []) st.isSome = meta_OfCommand_l1 (k + 20) (N - m) (0 : Int) v1849 v1850 v1851 v1852 v1853 v1854 v1855 v1856 v1857 v1858 v1859 v1860 v1861 v1862 v1863 v1864 v1865 v1866 v1867 v1868 v1869 v1870 v1871 v1872 v1873 v1874 v1875 v1876 v1877 v1878 v1879 v1880 v1881 v1882 v1883 (acc ++ (rdL rWr m st).1) v1885 v1886 v1887 v1888 v1889 v1890 ((rdL rWr m st).2.getD []) (rdL rWr m st).2.isSome
  | 0, N, acc, st, _, _, _, _ => by
    show _ = meta_OfCommand_l1 (k + 20) (N - 0) (0 : Int) v1849 v1850 v1851 v1852 v1853 v1854 v1855 v1856 v1857 v1858 v1859 v1860 v1861 v1862 v1863 v1864 v1865 v1866 v1867 v1868 v1869 v1870 v1871 v1872 v1873 v1874 v1875 v1876 v1877 v1878 v1879 v1880 v1881 v1882 v1883 (acc ++ []) v1885 v1886 v1887 v1888 v1889 v1890 (st.getD []) st.isSome
    rw [List.append_nil, Nat.sub_zero]; rfl
  | m + 1, 0, _, _, h, _, _, _ => absurd h (Nat.not_succ_le_zero _)
  | m + 1, N + 1, acc, st, h, hm, hf, ha => by
    rw [meta_OfCommand_l1_eq, bt (by omega), mText k hf, Option.bind_some, mFlag k (rT_fine hf), Option.bind_some, mText k (mF_fine (rT_fine hf)), Option.bind_some, lim_ok (by simp; omega), wr_i64 (n := ((m + 1 : Nat) : Int) - 1) (by omega)]
    have e : ((m + 1 : Nat) : Int) - 1 = (m : Int) := by omega
    rw [e]
    refine (mo_l1 k v1849 v1850 v1851 v1852 v1853 v1854 v1855 v1856 v1857 v1858 v1859 v1860 v1861 v1862 v1863 v1864 v1865 v1866 v1867 v1868 v1869 v1870 v1871 v1872 v1873 v1874 v1875 v1876 v1877 v1878 v1879 v1880 v1881 v1882 v1883 v1885 v1886 v1887 v1888 v1889 v1890 m N _ (rWr st).2 (by omega) (by omega) (rWr_fine hf) (by simp; omega)).trans ?_
    rw [List.append_assoc, Nat.succ_sub_succ]; rfl
theorem mo_l1_c (k : Nat) (v1849 : Int) (v1850 : Int) (v1851 : Int) (v1852 : Int) (v1853 : Int) (v1854 : Bool) (v1855 : Int) (v1856 : Int) (v1857 : Int) (v1858 : (List Int)) (v1859 : (List Int)) (v1860 : (List Int)) (v1861 : (List Int)) (v1862 : (List Int)) (v1863 : (List ((List Int) × (Bool × ((List Int) × Unit))))) (v1864 : (List (List Int))) (v1865 : Int) (v1866 : (List Int)) (v1867 : (List ((List Int) × (Int × (Bool × Unit))))) (v1868 : Int) (v1869 : (List Int)) (v1870 : Int) (v1871 : Int) (v1872 : Int) (v1873 : Int) (v1874 : Int) (v1875 : Bool) (v1876 : Int) (v1877 : Int) (v1878 : Int) (v1879 : (List Int)) (v1880 : (List Int)) (v1881 : (List Int)) (v1882 : (List Int)) (v1883 : (List Int)) (v1885 : (List (List Int))) (v1886 : Int) (v1887 : (List Int)) (v1888 : (List ((List Int) × (Int × (Bool × Unit))))) (v1889 : Int) (v1890 : (List Int)) (m N : Nat) (st : Rs) (c : Int) (hc : c = (m : Int)) (h : m ≤ N) (hm : m ≤ 1000) (hf : Fine st) :
    meta_OfCommand_l1 (k + 20) N c v1849 v1850 v1851 v1852 v1853 v1854 v1855 v1856 v1857 v1858 v1859 v1860 v1861 v1862 v1863 v1864 v1865 v1866 v1867 v1868 v1869 v1870 v1871 v1872 v1873 v1874 v1875 v1876 v1877 v1878 v1879 v1880 v1881 v1882 v1883 [] v1885 v1886 v1887 v1888 v1889 v1890 (st.getD []) st.isSome = meta_OfCommand_l1 (k + 20) (N - m) (0 : Int) v1849 v1850 v1851 v1852 v1853 v1854 v1855 v1856 v1857 v1858 v1859 v1860 v1861 v1862 v1863 v1864 v1865 v1866 v1867 v1868 v1869 v1870 v1871 v1872 v1873 v1874 v1875 v1876 v1877 v1878 v1879 v1880 v1881 v1882 v1883 (rdL rWr m st).1 v1885 v1886 v1887 v1888 v1889 v1890 ((rdL rWr m st).2.getD []) (rdL rWr m st).2.isSome := by
  subst hc
  have := mo_l1 k v1849 v1850 v1851 v1852 v1853 v1854 v1855 v1856 v1857 v1858 v1859 v1860 v1861 v1862 v1863 v1864 v1865 v1866 v1867 v1868 v1869 v1870 v1871 v1872 v1873 v1874 v1875 v1876 v1877 v1878 v1879 v1880 v1881 v1882 v1883 v1885 v1886 v1887 v1888 v1889 v1890 m N [] st h (by omega) hf (by simp; omega)
  rw [List.nil_append] at this
  exact this
theorem mo_l2 (k : Nat) (v1898 : Int) (v1899 : Int) (v1900 : Int) (v1901 : Int) (v1902 : Int) (v1903 : Bool) (v1904 : Int) (v1905 : Int) (v1906 : Int) (v1907 : (List Int)) (v1908 : (List Int)) (v1909 : (List Int)) (v1910 : (List Int)) (v1911 : (List Int)) (v1912 : (List ((List Int) × (Bool × ((List Int) × Unit))))) (v1913 : (List (List Int))) (v1914 : Int) (v1915 : (List Int)) (v1916 : (List ((List Int) × (Int × (Bool × Unit))))) (v1917 : Int) (v1918 : (List Int)) (v1919 : Int) (v1920 : Int) (v1921 : Int) (v1922 : Int) (v1923 : Int) (v1924 : Bool) (v1925 : Int) (v1926 : Int) (v1927 : Int) (v1928 : (List Int)) (v1929 : (List Int)) (v1930 : (List Int)) (v1931 : (List Int)) (v1932 : (List Int)) (v1933 : (List ((List Int) × (Bool × ((List Int) × Unit))))) (v1935 : Int) (v1936 : (List Int)) (v1937 : (List ((List Int) × (Int × (Bool × Unit))))) (v1938 : Int) (v1939 : (List Int)) : ∀ (m N : Nat) (acc : (List (List Int))) (st : Rs), m ≤ N → m ≤ 100000 → Fine st → acc.length + m ≤ 1000000 →
    meta_OfCommand_l2 (k + 20) N (m : Int) v1898 v1899 v1900 v1901 v1902 v1903 v1904 v1905 v1906 v1907 v1908 v1909 v1910 v1911 v1912 v1913 v1914 v1915 v1916 v1917 v1918 v1919 v1920 v1921 v1922 v1923 v1924 v1925 v1926 v1927 v1928 v1929 v1930 v1931 v1932 v1933 acc v1935 v1936 v1937 v1938 v1939 (st.getD []) st.isSome = meta_OfCommand_l2 (k + 20) (N - m) (0 : Int) v1898 v1899 v1900 v1901 v1902 v1903 v1904 v1905 v1906 v1907 v1908 v1909 v1910 v1911 v1912 v1913 v1914 v1915 v1916 v1917 v1918 v1919 v1920 v1921 v1922 v1923 v1924 v1925 v1926 v1927 v1928 v1929 v1930 v1931 v1932 v1933 (acc ++ (rdL (rT 65536) m st).1) v1935 v1936 v1937 v1938 v1939 ((rdL (rT 65536) m st).2.getD []) (rdL (rT 65536) m st).2.isSome
  | 0, N, acc, st, _, _, _, _ => by
    show _ = meta_OfCommand_l2 (k + 20) (N - 0) (0 : Int) v1898 v1899 v1900 v1901 v1902 v1903 v1904 v1905 v1906 v1907 v1908 v1909 v1910 v1911 v1912 v1913 v1914 v1915 v1916 v1917 v1918 v1919 v1920 v1921 v1922 v1923 v1924 v1925 v1926 v1927 v1928 v1929 v1930 v1931 v1932 v1933 (acc ++ []) v1935 v1936 v1937 v1938 v1939 (st.getD []) st.isSome
    rw [List.append_nil, Nat.sub_zero]; rfl
  | m + 1, 0, _, _, h, _, _, _ => absurd h (Nat.not_succ_le_zero _)
  | m + 1, N + 1, acc, st, h, hm, hf, ha => by
    rw [meta_OfCommand_l2_eq, bt (by omega), mText k hf, Option.bind_some, lim_ok (by simp; omega), wr_i64 (n := ((m + 1 : Nat) : Int) - 1) (by omega)]
    have e : ((m + 1 : Nat) : Int) - 1 = (m : Int) := by omega
    rw [e]
    refine (mo_l2 k v1898 v1899 v1900 v1901 v1902 v1903 v1904 v1905 v1906 v1907 v1908 v1909 v1910 v1911 v1912 v1913 v1914 v1915 v1916 v1917 v1918 v1919 v1920 v1921 v1922 v1923 v1924 v1925 v1926 v1927 v1928 v1929 v1930 v1931 v1932 v1933 v1935 v1936 v1937 v1938 v1939 m N _ ((rT 65536) st).2 (by omega) (by omega) (rT_fine hf) (by simp; omega)).trans ?_
    rw [List.append_assoc, Nat.succ_sub_succ]; rfl
theorem mo_l2_c (k : Nat) (v1898 : Int) (v1899 : Int) (v1900 : Int) (v1901 : Int) (v1902 : Int) (v1903 : Bool) (v1904 : Int) (v1905 : Int) (v1906 : Int) (v1907 : (List Int)) (v1908 : (List Int)) (v1909 : (List Int)) (v1910 : (List Int)) (v1911 : (List Int)) (v1912 : (List ((List Int) × (Bool × ((List Int) × Unit))))) (v1913 : (List (List Int))) (v1914 : Int) (v1915 : (List Int)) (v1916 : (List ((List Int) × (Int × (Bool × Unit))))) (v1917 : Int) (v1918 : (List Int)) (v1919 : Int) (v1920 : Int) (v1921 : Int) (v1922 : Int) (v1923 : Int) (v1924 : Bool) (v1925 : Int) (v1926 : Int) (v1927 : Int) (v1928 : (List Int)) (v1929 : (List Int)) (v1930 : (List Int)) (v1931 : (List Int)) (v1932 : (List Int)) (v1933 : (List ((List Int) × (Bool × ((List Int) × Unit))))) (v1935 : Int) (v1936 : (List Int)) (v1937 : (List ((List Int) × (Int × (Bool × Unit))))) (v1938 : Int) (v1939 : (List Int)) (m N : Nat) (st : Rs) (c : Int) (hc : c = (m : Int)) (h : m ≤ N) (hm : m ≤ 1000) (hf : Fine st) :
    meta_OfCommand_l2 (k + 20) N c v1898 v1899 v1900 v1901 v1902 v1903 v1904 v1905 v1906 v1907 v1908 v1909 v1910 v1911 v1912 v1913 v1914 v1915 v1916 v1917 v1918 v1919 v1920 v1921 v1922 v1923 v1924 v1925 v1926 v1927 v1928 v1929 v1930 v1931 v1932 v1933 [] v1935 v1936 v1937 v1938 v1939 (st.getD []) st.isSome = meta_OfCommand_l2 (k + 20) (N - m) (0 : Int) v1898 v1899 v1900 v1901 v1902 v1903 v1904 v1905 v1906 v1907 v1908 v1909 v1910 v1911 v1912 v1913 v1914 v1915 v1916 v1917 v1918 v1919 v1920 v1921 v1922 v1923 v1924 v1925 v1926 v1927 v1928 v1929 v1930 v1931 v1932 v1933 (rdL (rT 65536) m st).1 v1935 v1936 v1937 v1938 v1939 ((rdL (rT 65536) m st).2.getD []) (rdL (rT 65536) m st).2.isSome := by
  subst hc
  have := mo_l2 k v1898 v1899 v1900 v1901 v1902 v1903 v1904 v1905 v1906 v1907 v1908 v1909 v1910 v1911 v1912 v1913 v1914 v1915 v1916 v1917 v1918 v1919 v1920 v1921 v1922 v1923 v1924 v1925 v1926 v1927 v1928 v1929 v1930 v1931 v1932 v1933 v1935 v1936 v1937 v1938 v1939 m N [] st h (by omega) hf (by simp; omega)
  rw [List.nil_append] at this
  exact this
theorem ro_l0 (k : Nat) (v4726 : Int) (v4727 : Int) (v4728 : Int) (v4729 : Int) (v4730 : Int) (v4731 : Bool) (v4732 : Int) (v4733 : Int) (v4734 : Int) (v4735 : (List Int)) (v4736 : (List Int)) (v4737 : (List Int)) (v4738 : (List Int)) (v4739 : (List Int)) (v4740 : (List ((List Int) × (Bool × ((List Int) × Unit))))) (v4741 : (List (List Int))) (v4742 : Int) (v4743 : (List Int)) (v4744 : (List ((List Int) × (Int × (Bool × Unit))))) (v4745 : Int) (v4746 : (List Int)) (v4749 : Int) (v4750 : Int) (v4751 : Int) (v4752 : Int) (v4753 : Int) (v4754 : Bool) (v4755 : Int) (v4756 : Int) (v4757 : Int) (v4758 : (List Int)) (v4759 : (List Int)) (v4760 : (List Int)) (v4761 : (List Int)) (v4763 : (List ((List Int) × (Bool × ((List Int) × Unit))))) (v4764 : (List (List Int))) (v4765 : Int) (v4766 : (List Int)) (v4767 : (List ((List Int) × (Int × (Bool × Unit))))) (v4768 : Int) (v4769 : (List Int)) : ∀ (m N j : Nat) (acc : (List Int)) (st : Rs), m ≤ N → j + m ≤ 100000 → Fine st → acc.length + m ≤ 1000000 →
    ref15_CommandOf_l0 (k + 20) N ((j + m : Nat) : Int) (j : Int) v4726 v4727 v4728 v4729 v4730 v4731 v4732 v4733 v4734 v4735 v4736 v4737 v4738 v4739 v4740 v4741 v4742 v4743 v4744 v4745 v4746 (st.getD []) st.isNone v4749 v4750 v4751 v4752 v4753 v4754 v4755 v4756 v4757 v4758 v4759 v4760 v4761 acc v4763 v4764 v4765 v4766 v4767 v4768 v4769 = ref15_CommandOf_l0 (k + 20) (N - m) ((j + m : Nat) : Int) ((j + m : Nat) : Int) v4726 v4727 v4728 v4729 v4730 v4731 v4732 v4733 v4734 v4735 v4736 v4737 v4738 v4739 v4740 v4741 v4742 v4743 v4744 v4745 v4746 ((rdL (rN F64) m st).2.getD []) (rdL (rN F64) m st).2.isNone v4749 v4750 v4751 v4752 v4753 v4754 v4755 v4756 v4757 v4758 v4759 v4760 v4761 (acc ++ (rdL (rN F64) m st).1) v4763 v4764 v4765 v4766 v4767 v4768 v4769
  | 0, N, j, acc, st, _, _, _, _ => by
    show _ = ref15_CommandOf_l0 (k + 20) (N - 0) ((j + 0 : Nat) : Int) ((j + 0 : Nat) : Int) v4726 v4727 v4728 v4729 v4730 v4731 v4732 v4733 v4734 v4735 v4736 v4737 v4738 v4739 v4740 v4741 v4742 v4743 v4744 v4745 v4746 (st.getD []) st.isNone v4749 v4750 v4751 v4752 v4753 v4754 v4755 v4756 v4757 v4758 v4759 v4760 v4761 (acc ++ []) v4763 v4764 v4765 v4766 v4767 v4768 v4769
    rw [List.append_nil, Nat.sub_zero]; rfl
  | m + 1, 0, _, _, _, h, _, _, _ => absurd h (Nat.not_succ_le_zero _)
  | m + 1, N + 1, j, acc, st, h, hj, hf, ha => by
    rw [ref15_CommandOf_l0_eq, bt (by omega), fN k _ hf, Option.bind_some, lim_ok (by simp; omega), wr_u64 (n := (j : Int) + 1) (by omega)]
    have e : (j : Int) + 1 = ((j + 1 : Nat) : Int) := by omega
    have e2 : j + (m + 1) = j + 1 + m := by omega
    rw [e, e2]
    refine (ro_l0 k v4726 v4727 v4728 v4729 v4730 v4731 v4732 v4733 v4734 v4735 v4736 v4737 v4738 v4739 v4740 v4741 v4742 v4743 v4744 v4745 v4746 v4749 v4750 v4751 v4752 v4753 v4754 v4755 v4756 v4757 v4758 v4759 v4760 v4761 v4763 v4764 v4765 v4766 v4767 v4768 v4769 m N (j + 1) _ ((rN F64) st).2 (by omega) (by omega) (rF_fine hf) (by simp; omega)).trans ?_
    rw [List.append_assoc, Nat.succ_sub_succ]; rfl
theorem ro_l0_c (k : Nat) (v4726 : Int) (v4727 : Int) (v4728 : Int) (v4729 : Int) (v4730 : Int) (v4731 : Bool) (v4732 : Int) (v4733 : Int) (v4734 : Int) (v4735 : (List Int)) (v4736 : (List Int)) (v4737 : (List Int)) (v4738 : (List Int)) (v4739 : (List Int)) (v4740 : (List ((List Int) × (Bool × ((List Int) × Unit))))) (v4741 : (List (List Int))) (v4742 : Int) (v4743 : (List Int)) (v4744 : (List ((List Int) × (Int × (Bool × Unit))))) (v4745 : Int) (v4746 : (List Int)) (v4749 : Int) (v4750 : Int) (v4751 : Int) (v4752 : Int) (v4753 : Int) (v4754 : Bool) (v4755 : Int) (v4756 : Int) (v4757 : Int) (v4758 : (List Int)) (v4759 : (List Int)) (v4760 : (List Int)) (v4761 : (List Int)) (v4763 : (List ((List Int) × (Bool × ((List Int) × Unit))))) (v4764 : (List (List Int))) (v4765 : Int) (v4766 : (List Int)) (v4767 : (List ((List Int) × (Int × (Bool × Unit))))) (v4768 : Int) (v4769 : (List Int)) (m N : Nat) (st : Rs) (c : Int) (hc : c = (m : Int)) (h : m ≤ N) (hm : m ≤ 1000) (hf : Fine st) :
    ref15_CommandOf_l0 (k + 20) N c (0 : Int) v4726 v4727 v4728 v4729 v4730 v4731 v4732 v4733 v4734 v4735 v4736 v4737 v4738 v4739 v4740 v4741 v4742 v4743 v4744 v4745 v4746 (st.getD []) st.isNone v4749 v4750 v4751 v4752 v4753 v4754 v4755 v4756 v4757 v4758 v4759 v4760 v4761 [] v4763 v4764 v4765 v4766 v4767 v4768 v4769 = ref15_CommandOf_l0 (k + 20) (N - m) (m : Int) (m : Int) v4726 v4727 v4728 v4729 v4730 v4731 v4732 v4733 v4734 v4735 v4736 v4737 v4738 v4739 v4740 v4741 v4742 v4743 v4744 v4745 v4746 ((rdL (rN F64) m st).2.getD []) (rdL (rN F64) m st).2.isNone v4749 v4750 v4751 v4752 v4753 v4754 v4755 v4756 v4757 v4758 v4759 v4760 v4761 (rdL (rN F64) m st).1 v4763 v4764 v4765 v4766 v4767 v4768 v4769 := by
  subst hc
  have := ro_l0 k v4726 v4727 v4728 v4729 v4730 v4731 v4732 v4733 v4734 v4735 v4736 v4737 v4738 v4739 v4740 v4741 v4742 v4743 v4744 v4745 v4746 v4749 v4750 v4751 v4752 v4753 v4754 v4755 v4756 v4757 v4758 v4759 v4760 v4761 v4763 v4764 v4765 v4766 v4767 v4768 v4769 m N 0 [] st h (by omega) hf (by simp; omega)
  rw [Nat.zero_add, List.nil_append] at this
  exact this
theorem ro_l1 (k : Nat) (v4774 : Int) (v4775 : Int) (v4776 : Int) (v4777 : Int) (v4778 : Int) (v4779 : Bool) (v4780 : Int) (v4781 : Int) (v4782 : Int) (v4783 : (List Int)) (v4784 : (List Int)) (v4785 : (List Int)) (v4786 : (List Int)) (v4787 : (List Int)) (v4788 : (List ((List Int) × (Bool × ((List Int) × Unit))))) (v4789 : (List (List Int))) (v4790 : Int) (v4791 : (List Int)) (v4792 : (List ((List Int) × (Int × (Bool × Unit))))) (v4793 : Int) (v4794 : (List Int)) (v4797 : Int) (v4798 : Int) (v4799 : Int) (v4800 : Int) (v4801 : Int) (v4802 : Bool) (v4803 : Int) (v4804 : Int) (v4805 : Int) (v4806 : (List Int)) (v4807 : (List Int)) (v4808 : (List Int)) (v4809 : (List Int)) (v4810 : (List Int)) (v4812 : (List (List Int))) (v4813 : Int) (v4814 : (List Int)) (v4815 : (List ((List Int) × (Int × (Bool × Unit))))) (v4816 : Int) (v4817 : (List Int)) : ∀ (m N j : Nat) (acc : (List ((List Int) × (Bool × ((List Int) × Unit))))) (st : Rs), m ≤ N → j + m ≤ 100000 → Fine st → acc.length + m ≤ 1000000 →
    ref15_CommandOf_l1 (k + 20) N ((j + m : Nat) : Int) (j : Int) v4774 v4775 v4776 v4777 v4778 v4779 v4780 v4781 v4782 v4783 v4784 v4785 v4786 v4787 v4788 v4789 v4790 v4791 v4792 v4793 v4794 (st.getD []) st.isNone v4797 v4798 v4799 v4800 v4801 v4802 v4803 v4804 v4805 v4806 v4807 v4808 v4809 v4810 acc v4812 v4813 v4814 v4815 v4816 v4817 = ref15_CommandOf_l1 (k + 20) (N - m) ((j + m : Nat) : Int) ((j + m : Nat) : Int) v4774 v4775 v4776 v4777 v4778 v4779 v4780 v4781 v4782 v4783 v4784 v4785 v4786 v4787 v4788 v4789 v4790 v4791 v4792 v4793 v4794 ((rdL rWr m st).2.getD []) (rdL rWr m st).2.isNone v4797 v4798 v4799 v4800 v4801 v4802 v4803 v4804 v4805 v4806 v4807 v4808 v4809 v4810 (acc ++ (rdL rWr m st).1) v4812 v4813 v4814 v4815 v4816 v4817
  | 0, N, j, acc, st, _, _, _, _ => by
    show _ = ref15_CommandOf_l1 (k + 20) (N - 0) ((j + 0 : Nat) : Int) ((j + 0 : Nat) : Int) v4774 v4775 v4776 v4777 v4778 v4779 v4780 v4781 v4782 v4783 v4784 v4785 v4786 v4787 v4788 v4789 v4790 v4791 v4792 v4793 v4794 (st.getD []) st.isNone v4797 v4798 v4799 v4800 v4801 v4802 v4803 v4804 v4805 v4806 v4807 v4808 v4809 v4810 (acc ++ []) v4812 v4813 v4814 v4815 v4816 v4817
    rw [List.append_nil, Nat.sub_zero]; rfl
  | m + 1, 0, _, _, _, h, _, _, _ => absurd h (Nat.not_succ_le_zero _)
  | m + 1, N + 1, j, acc, st, h, hj, hf, ha => by
    rw [ref15_CommandOf_l1_eq, bt (by omega), fT k (by omega) hf, Option.bind_some, fN k _ (rT_fine hf), Option.bind_some, fT k (by omega) (rN_fine (rT_fine hf)).1, Option.bind_some, lim_ok (by simp; omega), wr_u64 (n := (j : Int) + 1) (by omega)]
    have e : (j : Int) + 1 = ((j + 1 : Nat) : Int) := by omega
    have e2 : j + (m + 1) = j + 1 + m := by omega
    rw [e, e2]
    refine (ro_l1 k v4774 v4775 v4776 v4777 v4778 v4779 v4780 v4781 v4782 v4783 v4784 v4785 v4786 v4787 v4788 v4789 v4790 v4791 v4792 v4793 v4794 v4797 v4798 v4799 v4800 v4801 v4802 v4803 v4804 v4805 v4806 v4807 v4808 v4809 v4810 v4812 v4813 v4814 v4815 v4816 v4817 m N (j + 1) _ (rWr st).2 (by omega) (by omega) (rWr_fine hf) (by simp; omega)).trans ?_
    rw [List.append_assoc, Nat.succ_sub_succ]; rfl
theorem ro_l1_c (k : Nat) (v4774 : Int) (v4775 : Int) (v4776 : Int) (v4777 : Int) (v4778 : Int) (v4779 : Bool) (v4780 : Int) (v4781 : Int) (v4782 : Int) (v4783 : (List Int)) (v4784 : (List Int)) (v4785 : (List Int)) (v4786 : (List Int)) (v4787 : (List Int)) (v4788 : (List ((List Int) × (Bool × ((List Int) × Unit))))) (v4789 : (List (List Int))) (v4790 : Int) (v4791 : (List Int)) (v4792 : (List ((List Int) × (Int × (Bool × Unit))))) (v4793 : Int) (v4794 : (List Int)) (v4797 : Int) (v4798 : Int) (v4799 : Int) (v4800 : Int) (v4801 : Int) (v4802 : Bool) (v4803 : Int) (v4804 : Int) (v4805 : Int) (v4806 : (List Int)) (v4807 : (List Int)) (v4808 : (List Int)) (v4809 : (List Int)) (v4810 : (List Int)) (v4812 : (List (List Int))) (v4813 : Int) (v4814 : (List Int)) (v4815 : (List ((List Int) × (Int × (Bool × Unit))))) (v4816 : Int) (v4817 : (List Int)) (m N : Nat) (st : Rs) (c : Int) (hc : c = (m : Int)) (h : m ≤ N) (hm : m ≤ 1000) (hf : Fine st) :
    ref15_CommandOf_l1 (k + 20) N c (0 : Int) v4774 v4775 v4776 v4777 v4778 v4779 v4780 v4781 v4782 v4783 v4784 v4785 v4786 v4787 v4788 v4789 v4790 v4791 v4792 v4793 v4794 (st.getD []) st.isNone v4797 v4798 v4799 v4800 v4801 v4802 v4803 v4804 v4805 v4806 v4807 v4808 v4809 v4810 [] v4812 v4813 v4814 v4815 v4816 v4817 = ref15_CommandOf_l1 (k + 20) (N - m) (m : Int) (m : Int) v4774 v4775 v4776 v4777 v4778 v4779 v4780 v4781 v4782 v4783 v4784 v4785 v4786 v4787 v4788 v4789 v4790 v4791 v4792 v4793 v4794 ((rdL rWr m st).2.getD []) (rdL rWr m st).2.isNone v4797 v4798 v4799 v4800 v4801 v4802 v4803 v4804 v4805 v4806 v4807 v4808 v4809 v4810 (rdL rWr m st).1 v4812 v4813 v4814 v4815 v4816 v4817 := by
  subst hc
  have := ro_l1 k v4774 v4775 v4776 v4777 v4778 v4779 v4780 v4781 v4782 v4783 v4784 v4785 v4786 v4787 v4788 v4789 v4790 v4791 v4792 v4793 v4794 v4797 v4798 v4799 v4800 v4801 v4802 v4803 v4804 v4805 v4806 v4807 v4808 v4809 v4810 v4812 v4813 v4814 v4815 v4816 v4817 m N 0 [] st h (by omega) hf (by simp; omega)
  rw [Nat.zero_add, List.nil_append] at this
  exact this
theorem ro_l2 (k : Nat) (v4824 : Int) (v4825 : Int) (v4826 : Int) (v4827 : Int) (v4828 : Int) (v4829 : Bool) (v4830 : Int) (v4831 : Int) (v4832 : Int) (v4833 : (List Int)) (v4834 : (List Int)) (v4835 : (List Int)) (v4836 : (List Int)) (v4837 : (List Int)) (v4838 : (List ((List Int) × (Bool × ((List Int) × Unit))))) (v4839 : (List (List Int))) (v4840 : Int) (v4841 : (List Int)) (v4842 : (List ((List Int) × (Int × (Bool × Unit))))) (v4843 : Int) (v4844 : (List Int)) (v4847 : Int) (v4848 : Int) (v4849 : Int) (v4850 : Int) (v4851 : Int) (v4852 : Bool) (v4853 : Int) (v4854 : Int) (v4855 : Int) (v4856 : (List Int)) (v4857 : (List Int)) (v4858 : (List Int)) (v4859 : (List Int)) (v4860 : (List Int)) (v4861 : (List ((List Int) × (Bool × ((List Int) × Unit))))) (v4863 : Int) (v4864 : (List Int)) (v4865 : (List ((List Int) × (Int × (Bool × Unit))))) (v4866 : Int) (v4867 : (List Int)) : ∀ (m N j : Nat) (acc : (List (List Int))) (st : Rs), m ≤ N → j + m ≤ 100000 → Fine st → acc.length + m ≤ 1000000 →
    ref15_CommandOf_l2 (k + 20) N ((j + m : Nat) : Int) (j : Int) v4824 v4825 v4826 v4827 v4828 v4829 v4830 v4831 v4832 v4833 v4834 v4835 v4836 v4837 v4838 v4839 v4840 v4841 v4842 v4843 v4844 (st.getD []) st.isNone v4847 v4848 v4849 v4850 v4851 v4852 v4853 v4854 v4855 v4856 v4857 v4858 v4859 v4860 v4861 acc v4863 v4864 v4865 v4866 v4867 = ref15_CommandOf_l2 (k + 20) (N - m) ((j + m : Nat) : Int) ((j + m : Nat) : Int) v4824 v4825 v4826 v4827 v4828 v4829 v4830 v4831 v4832 v4833 v4834 v4835 v4836 v4837 v4838 v4839 v4840 v4841 v4842 v4843 v4844 ((rdL (rT 65536) m st).2.getD []) (rdL (rT 65536) m st).2.isNone v4847 v4848 v4849 v4850 v4851 v4852 v4853 v4854 v4855 v4856 v4857 v4858 v4859 v4860 v4861 (acc ++ (rdL (rT 65536) m st).1) v4863 v4864 v4865 v4866 v4867
  | 0, N, j, acc, st, _, _, _, _ => by
    show _ = ref15_CommandOf_l2 (k + 20) (N - 0) ((j + 0 : Nat) : Int) ((j + 0 : Nat) : Int) v4824 v4825 v4826 v4827 v4828 v4829 v4830 v4831 v4832 v4833 v4834 v4835 v4836 v4837 v4838 v4839 v4840 v4841 v4842 v4843 v4844 (st.getD []) st.isNone v4847 v4848 v4849 v4850 v4851 v4852 v4853 v4854 v4855 v4856 v4857 v4858 v4859 v4860 v4861 (acc ++ []) v4863 v4864 v4865 v4866 v4867
    rw [List.append_nil, Nat.sub_zero]; rfl
  | m + 1, 0, _, _, _, h, _, _, _ => absurd h (Nat.not_succ_le_zero _)
  | m + 1, N + 1, j, acc, st, h, hj, hf, ha => by
    rw [ref15_CommandOf_l2_eq, bt (by omega), fT k (by omega) hf, Option.bind_some, lim_ok (by simp; omega), wr_u64 (n := (j : Int) + 1) (by omega)]
    have e : (j : Int) + 1 = ((j + 1 : Nat) : Int) := by omega
    have e2 : j + (m + 1) = j + 1 + m := by omega
    rw [e, e2]
    refine (ro_l2 k v4824 v4825 v4826 v4827 v4828 v4829 v4830 v4831 v4832 v4833 v4834 v4835 v4836 v4837 v4838 v4839 v4840 v4841 v4842 v4843 v4844 v4847 v4848 v4849 v4850 v4851 v4852 v4853 v4854 v4855 v4856 v4857 v4858 v4859 v4860 v4861 v4863 v4864 v4865 v4866 v4867 m N (j + 1) _ ((rT 65536) st).2 (by omega) (by omega) (rT_fine hf) (by simp; omega)).trans ?_
    rw [List.append_assoc, Nat.succ_sub_succ]; rfl
theorem ro_l2_c (k : Nat) (v4824 : Int) (v4825 : Int) (v4826 : Int) (v4827 : Int) (v4828 : Int) (v4829 : Bool) (v4830 : Int) (v4831 : Int) (v4832 : Int) (v4833 : (List Int)) (v4834 : (List Int)) (v4835 : (List Int)) (v4836 : (List Int)) (v4837 : (List Int)) (v4838 : (List ((List Int) × (Bool × ((List Int) × Unit))))) (v4839 : (List (List Int))) (v4840 : Int) (v4841 : (List Int)) (v4842 : (List ((List Int) × (Int × (Bool × Unit))))) (v4843 : Int) (v4844 : (List Int)) (v4847 : Int) (v4848 : Int) (v4849 : Int) (v4850 : Int) (v4851 : Int) (v4852 : Bool) (v4853 : Int) (v4854 : Int) (v4855 : Int) (v4856 : (List Int)) (v4857 : (List Int)) (v4858 : (List Int)) (v4859 : (List Int)) (v4860 : (List Int)) (v4861 : (List ((List Int) × (Bool × ((List Int) × Unit))))) (v4863 : Int) (v4864 : (List Int)) (v4865 : (List ((List Int) × (Int × (Bool × Unit))))) (v4866 : Int) (v4867 : (List Int)) (m N : Nat) (st : Rs) (c : Int) (hc : c = (m : Int)) (h : m ≤ N) (hm : m ≤ 1000) (hf : Fine st) :
    ref15_CommandOf_l2 (k + 20) N c (0 : Int) v4824 v4825 v4826 v4827 v4828 v4829 v4830 v4831 v4832 v4833 v4834 v4835 v4836 v4837 v4838 v4839 v4840 v4841 v4842 v4843 v4844 (st.getD []) st.isNone v4847 v4848 v4849 v4850 v4851 v4852 v4853 v4854 v4855 v4856 v4857 v4858 v4859 v4860 v4861 [] v4863 v4864 v4865 v4866 v4867 = ref15_CommandOf_l2 (k + 20) (N - m) (m : Int) (m : Int) v4824 v4825 v4826 v4827 v4828 v4829 v4830 v4831 v4832 v4833 v4834 v4835 v4836 v4837 v4838 v4839 v4840 v4841 v4842 v4843 v4844 ((rdL (rT 65536) m st).2.getD []) (rdL (rT 65536) m st).2.isNone v4847 v4848 v4849 v4850 v4851 v4852 v4853 v4854 v4855 v4856 v4857 v4858 v4859 v4860 v4861 (rdL (rT 65536) m st).1 v4863 v4864 v4865 v4866 v4867 := by
  subst hc
  have := ro_l2 k v4824 v4825 v4826 v4827 v4828 v4829 v4830 v4831 v4832 v4833 v4834 v4835 v4836 v4837 v4838 v4839 v4840 v4841 v4842 v4843 v4844 v4847 v4848 v4849 v4850 v4851 v4852 v4853 v4854 v4855 v4856 v4857 v4858 v4859 v4860 v4861 v4863 v4864 v4865 v4866 v4867 m N 0 [] st h (by omega) hf (by simp; omega)
  rw [Nat.zero_add, List.nil_append] at this
  exact this
theorem ro_l3 (k : Nat) (v4874 : Int) (v4875 : Int) (v4876 : Int) (v4877 : Int) (v4878 : Int) (v4879 : Bool) (v4880 : Int) (v4881 : Int) (v4882 : Int) (v4883 : (List Int)) (v4884 : (List Int)) (v4885 : (List Int)) (v4886 : (List Int)) (v4887 : (List Int)) (v4888 : (List ((List Int) × (Bool × ((List Int) × Unit))))) (v4889 : (List (List Int))) (v4890 : Int) (v4891 : (List Int)) (v4892 : (List ((List Int) × (Int × (Bool × Unit))))) (v4893 : Int) (v4894 : (List Int)) (v4897 : Int) (v4898 : Int) (v4899 : Int) (v4900 : Int) (v4901 : Int) (v4902 : Bool) (v4903 : Int) (v4904 : Int) (v4905 : Int) (v4906 : (List Int)) (v4907 : (List Int)) (v4908 : (List Int)) (v4909 : (List Int)) (v4910 : (List Int)) (v4911 : (List ((List Int) × (Bool × ((List Int) × Unit))))) (v4912 : (List (List Int))) (v4913 : Int) (v4914 : (List Int)) (v4916 : Int) (v4917 : (List Int)) : ∀ (m N j : Nat) (acc : (List ((List Int) × (Int × (Bool × Unit))))) (st : Rs), m ≤ N → j + m ≤ 100000 → Fine st → acc.length + m ≤ 1000000 →
    ref15_CommandOf_l3 (k + 20) N ((j + m : Nat) : Int) (j : Int) v4874 v4875 v4876 v4877 v4878 v4879 v4880 v4881 v4882 v4883 v4884 v4885 v4886 v4887 v4888 v4889 v4890 v4891 v4892 v4893 v4894 (st.getD []) st.isNone v4897 v4898 v4899 v4900 v4901 v4902 v4903 v4904 v4905 v4906 v4907 v4908 v4909 v4910 v4911 v4912 v4913 v4914 acc v4916 v4917 = ref15_CommandOf_l3 (k + 20) (N - m) ((j + m : Nat) : Int) ((j + m : Nat) : Int) v4874 v4875 v4876 v4877 v4878 v4879 v4880 v4881 v4882 v4883 v4884 v4885 v4886 v4887 v4888 v4889 v4890 v4891 v4892 v4893 v4894 ((rdL rCo m st).2.getD []) (rdL rCo m st).2.isNone v4897 v4898 v4899 v4900 v4901 v4902 v4903 v4904 v4905 v4906 v4907 v4908 v4909 v4910 v4911 v4912 v4913 v4914 (acc ++ (rdL rCo m st).1) v4916 v4917
  | 0, N, j, acc, st, _, _, _, _ => by
    show _ = ref15_CommandOf_l3 (k + 20) (N - 0) ((j + 0 : Nat) : Int) ((j + 0 : Nat) : Int) v4874 v4875 v4876 v4877 v4878 v4879 v4880 v4881 v4882 v4883 v4884 v4885 v4886 v4887 v4888 v4889 v4890 v4891 v4892 v4893 v4894 (st.getD []) st.isNone v4897 v4898 v4899 v4900 v4901 v4902 v4903 v4904 v4905 v4906 v4907 v4908 v4909 v4910 v4911 v4912 v4913 v4914 (acc ++ []) v4916 v4917
    rw [List.append_nil, Nat.sub_zero]; rfl
  | m + 1, 0, _, _, _, h, _, _, _ => absurd h (Nat.not_succ_le_zero _)
  | m + 1, N + 1, j, acc, st, h, hj, hf, ha => by
    rw [ref15_CommandOf_l3_eq, bt (by omega), fT k (by omega) hf, Option.bind_some, fI k (rT_fine hf), Option.bind_some, fN k _ (rI_fine (rT_fine hf)), Option.bind_some, lim_ok (by simp; omega), wr_u64 (n := (j : Int) + 1) (by omega)]
    have e : (j : Int) + 1 = ((j + 1 : Nat) : Int) := by omega
    have e2 : j + (m + 1) = j + 1 + m := by omega
    rw [e, e2]
    refine (ro_l3 k v4874 v4875 v4876 v4877 v4878 v4879 v4880 v4881 v4882 v4883 v4884 v4885 v4886 v4887 v4888 v4889 v4890 v4891 v4892 v4893 v4894 v4897 v4898 v4899 v4900 v4901 v4902 v4903 v4904 v4905 v4906 v4907 v4908 v4909 v4910 v4911 v4912 v4913 v4914 v4916 v4917 m N (j + 1) _ (rCo st).2 (by omega) (by omega) (rCo_fine hf) (by simp; omega)).trans ?_
    rw [List.append_assoc, Nat.succ_sub_succ]; rfl
theorem ro_l3_c (k : Nat) (v4874 : Int) (v4875 : Int) (v4876 : Int) (v4877 : Int) (v4878 : Int) (v4879 : Bool) (v4880 : Int) (v4881 : Int) (v4882 : Int) (v4883 : (List Int)) (v4884 : (List Int)) (v4885 : (List Int)) (v4886 : (List Int)) (v4887 : (List Int)) (v4888 : (List ((List Int) × (Bool × ((List Int) × Unit))))) (v4889 : (List (List Int))) (v4890 : Int) (v4891 : (List Int)) (v4892 : (List ((List Int) × (Int × (Bool × Unit))))) (v4893 : Int) (v4894 : (List Int)) (v4897 : Int) (v4898 : Int) (v4899 : Int) (v4900 : Int) (v4901 : Int) (v4902 : Bool) (v4903 : Int) (v4904 : Int) (v4905 : Int) (v4906 : (List Int)) (v4907 : (List Int)) (v4908 : (List Int)) (v4909 : (List Int)) (v4910 : (List Int)) (v4911 : (List ((List Int) × (Bool × ((List Int) × Unit))))) (v4912 : (List (List Int))) (v4913 : Int) (v4914 : (List Int)) (v4916 : Int) (v4917 : (List Int)) (m N : Nat) (st : Rs) (c : Int) (hc : c = (m : Int)) (h : m ≤ N) (hm : m ≤ 1000) (hf : Fine st) :
    ref15_CommandOf_l3 (k + 20) N c (0 : Int) v4874 v4875 v4876 v4877 v4878 v4879 v4880 v4881 v4882 v4883 v4884 v4885 v4886 v4887 v4888 v4889 v4890 v4891 v4892 v4893 v4894 (st.getD []) st.isNone v4897 v4898 v4899 v4900 v4901 v4902 v4903 v4904 v4905 v4906 v4907 v4908 v4909 v4910 v4911 v4912 v4913 v4914 [] v4916 v4917 = ref15_CommandOf_l3 (k + 20) (N - m) (m : Int) (m : Int) v4874 v4875 v4876 v4877 v4878 v4879 v4880 v4881 v4882 v4883 v4884 v4885 v4886 v4887 v4888 v4889 v4890 v4891 v4892 v4893 v4894 ((rdL rCo m st).2.getD []) (rdL rCo m st).2.isNone v4897 v4898 v4899 v4900 v4901 v4902 v4903 v4904 v4905 v4906 v4907 v4908 v4909 v4910 v4911 v4912 v4913 v4914 (rdL rCo m st).1 v4916 v4917 := by
  subst hc
  have := ro_l3 k v4874 v4875 v4876 v4877 v4878 v4879 v4880 v4881 v4882 v4883 v4884 v4885 v4886 v4887 v4888 v4889 v4890 v4891 v4892 v4893 v4894 v4897 v4898 v4899 v4900 v4901 v4902 v4903 v4904 v4905 v4906 v4907 v4908 v4909 v4910 v4911 v4912 v4913 v4914 v4916 v4917 m N 0 [] st h (by omega) hf (by simp; omega)
  rw [Nat.zero_add, List.nil_append] at this
  exact this
theorem ro_l4 (k : Nat) (v4925 : Int) (v4926 : Int) (v4927 : Int) (v4928 : Int) (v4929 : Int) (v4930 : Bool) (v4931 : Int) (v4932 : Int) (v4933 : Int) (v4934 : (List Int)) (v4935 : (List Int)) (v4936 : (List Int)) (v4937 : (List Int)) (v4938 : (List Int)) (v4939 : (List ((List Int) × (Bool × ((List Int) × Unit))))) (v4940 : (List (List Int))) (v4941 : Int) (v4942 : (List Int)) (v4943 : (List ((List Int) × (Int × (Bool × Unit))))) (v4944 : Int) (v4945 : (List Int)) (v4948 : Int) (v4949 : Int) (v4950 : Int) (v4951 : Int) (v4952 : Int) (v4953 : Bool) (v4954 : Int) (v4955 : Int) (v4956 : Int) (v4957 : (List Int)) (v4958 : (List Int)) (v4959 : (List Int)) (v4960 : (List Int)) (v4961 : (List Int)) (v4962 : (List ((List Int) × (Bool × ((List Int) × Unit))))) (v4963 : (List (List Int))) (v4964 : Int) (v4965 : (List Int)) (v4966 : (List ((List Int) × (Int × (Bool × Unit))))) (v4967 : Int) : ∀ (m N j : Nat) (acc : (List Int)) (st : Rs), m ≤ N → j + m ≤ 100000 → Fine st → acc.length + m ≤ 1000000 →
    ref15_CommandOf_l4 (k + 20) N ((j + m : Nat) : Int) (j : Int) v4925 v4926 v4927 v4928 v4929 v4930 v4931 v4932 v4933 v4934 v4935 v4936 v4937 v4938 v4939 v4940 v4941 v4942 v4943 v4944 v4945 (st.getD []) st.isNone v4948 v4949 v4950 v4951 v4952 v4953 v4954 v4955 v4956 v4957 v4958 v4959 v4960 v4961 v4962 v4963 v4964 v4965 v4966 v4967 acc = ref15_CommandOf_l4 (k + 20) (N - m) ((j + m : Nat) : Int) ((j + m : Nat) : Int) v4925 v4926 v4927 v4928 v4929 v4930 v4931 v4932 v4933 v4934 v4935 v4936 v4937 v4938 v4939 v4940 v4941 v4942 v4943 v4944 v4945 ((rdL rI m st).2.getD []) (rdL rI m st).2.isNone v4948 v4949 v4950 v4951 v4952 v4953 v4954 v4955 v4956 v4957 v4958 v4959 v4960 v4961 v4962 v4963 v4964 v4965 v4966 v4967 (acc ++ (rdL rI m st).1)
  | 0, N, j, acc, st, _, _, _, _ => by
    show _ = ref15_CommandOf_l4 (k + 20) (N - 0) ((j + 0 : Nat) : Int) ((j + 0 : Nat) : Int) v4925 v4926 v4927 v4928 v4929 v4930 v4931 v4932 v4933 v4934 v4935 v4936 v4937 v4938 v4939 v4940 v4941 v4942 v4943 v4944 v4945 (st.getD []) st.isNone v4948 v4949 v4950 v4951 v4952 v4953 v4954 v4955 v4956 v4957 v4958 v4959 v4960 v4961 v4962 v4963 v4964 v4965 v4966 v4967 (acc ++ [])
    rw [List.append_nil, Nat.sub_zero]; rfl
  | m + 1, 0, _, _, _, h, _, _, _ => absurd h (Nat.not_succ_le_zero _)
  | m + 1, N + 1, j, acc, st, h, hj, hf, ha => by
    rw [ref15_CommandOf_l4_eq, bt (by omega), fI k hf, Option.bind_some, lim_ok (by simp; omega), wr_u64 (n := (j : Int) + 1) (by omega)]
    have e : (j : Int) + 1 = ((j + 1 : Nat) : Int) := by omega
    have e2 : j + (m + 1) = j + 1 + m := by omega
    rw [e, e2]
    refine (ro_l4 k v4925 v4926 v4927 v4928 v4929 v4930 v4931 v4932 v4933 v4934 v4935 v4936 v4937 v4938 v4939 v4940 v4941 v4942 v4943 v4944 v4945 v4948 v4949 v4950 v4951 v4952 v4953 v4954 v4955 v4956 v4957 v4958 v4959 v4960 v4961 v4962 v4963 v4964 v4965 v4966 v4967 m N (j + 1) _ (rI st).2 (by omega) (by omega) (rI_fine hf) (by simp; omega)).trans ?_
    rw [List.append_assoc, Nat.succ_sub_succ]; rfl
theorem ro_l4_c (k : Nat) (v4925 : Int) (v4926 : Int) (v4927 : Int) (v4928 : Int) (v4929 : Int) (v4930 : Bool) (v4931 : Int) (v4932 : Int) (v4933 : Int) (v4934 : (List Int)) (v4935 : (List Int)) (v4936 : (List Int)) (v4937 : (List Int)) (v4938 : (List Int)) (v4939 : (List ((List Int) × (Bool × ((List Int) × Unit))))) (v4940 : (List (List Int))) (v4941 : Int) (v4942 : (List Int)) (v4943 : (List ((List Int) × (Int × (Bool × Unit))))) (v4944 : Int) (v4945 : (List Int)) (v4948 : Int) (v4949 : Int) (v4950 : Int) (v4951 : Int) (v4952 : Int) (v4953 : Bool) (v4954 : Int) (v4955 : Int) (v4956 : Int) (v4957 : (List Int)) (v4958 : (List Int)) (v4959 : (List Int)) (v4960 : (List Int)) (v4961 : (List Int)) (v4962 : (List ((List Int) × (Bool × ((List Int) × Unit))))) (v4963 : (List (List Int))) (v4964 : Int) (v4965 : (List Int)) (v4966 : (List ((List Int) × (Int × (Bool × Unit))))) (v4967 : Int) (m N : Nat) (st : Rs) (c : Int) (hc : c = (m : Int)) (h : m ≤ N) (hm : m ≤ 1000) (hf : Fine st) :
    ref15_CommandOf_l4 (k + 20) N c (0 : Int) v4925 v4926 v4927 v4928 v4929 v4930 v4931 v4932 v4933 v4934 v4935 v4936 v4937 v4938 v4939 v4940 v4941 v4942 v4943 v4944 v4945 (st.getD []) st.isNone v4948 v4949 v4950 v4951 v4952 v4953 v4954 v4955 v4956 v4957 v4958 v4959 v4960 v4961 v4962 v4963 v4964 v4965 v4966 v4967 [] = ref15_CommandOf_l4 (k + 20) (N - m) (m : Int) (m : Int) v4925 v4926 v4927 v4928 v4929 v4930 v4931 v4932 v4933 v4934 v4935 v4936 v4937 v4938 v4939 v4940 v4941 v4942 v4943 v4944 v4945 ((rdL rI m st).2.getD []) (rdL rI m st).2.isNone v4948 v4949 v4950 v4951 v4952 v4953 v4954 v4955 v4956 v4957 v4958 v4959 v4960 v4961 v4962 v4963 v4964 v4965 v4966 v4967 (rdL rI m st).1 := by
  subst hc
  have := ro_l4 k v4925 v4926 v4927 v4928 v4929 v4930 v4931 v4932 v4933 v4934 v4935 v4936 v4937 v4938 v4939 v4940 v4941 v4942 v4943 v4944 v4945 v4948 v4949 v4950 v4951 v4952 v4953 v4954 v4955 v4956 v4957 v4958 v4959 v4960 v4961 v4962 v4963 v4964 v4965 v4966 v4967 m N 0 [] st h (by omega) hf (by simp; omega)
  rw [Nat.zero_add, List.nil_append] at this
  exact this
theorem mTable (k : Nat) (hk : 3000 ≤ k) {st : Rs} (h : Fine st) : _meta_reader_table (k + 20) (st.getD []) st.isSome = some ((rTb st).1, ((cE (rTb st).2).1, ((rTb st).1, ()))) := by
  have h1 := rI_fine h
  have h2 := rT_fine (most := 65536) h1
  obtain ⟨m, hm, e, ec⟩ := rCn_ex (p := rCo) h2
  have h3 := (rN_fine (most := 1000) h2).1
  have h4 := rdL_fine (p := rCo) (fun _ => rCo_fine) m _ h3
  have h5 := rI_fine h4
  obtain ⟨m2, hm2, e2, ec2⟩ := rCn_ex (p := rI) h5
  have h6 := (rN_fine (most := 1000) h5).1
  have hs : k + 20 - m = (k + 19 - m) + 1 := by omega
  have hs2 : k + 20 - m2 = (k + 19 - m2) + 1 := by omega
  rw [_meta_reader_table_eq, cI k h, Option.bind_some, mText k h1, Option.bind_some, mCount k h2, Option.bind_some]
  refine (mt_l0_c k _ _ _ _ _ _ _ _ _ m (k + 20) _ _ e (by omega) hm h3).trans ?_
  rw [hs, _meta_reader_table_l0_eq, bf (by omega), cI k h4, Option.bind_some, mCount k h5, Option.bind_some]
  refine (mt_l1_c k _ _ _ _ _ _ _ _ _ m2 (k + 20) _ _ e2 (by omega) hm2 h6).trans ?_
  rw [hs2, _meta_reader_table_l1_eq, bf (by omega)]
  simp only [rTb, rb, rp, ec, ec2]
theorem rTb_fine' {st : Rs} (h : Fine st) : Fine (rTb st).2 := rTb_fine h
theorem meta_of (k : Nat) (hk : 3000 ≤ k) (b : List Int) (hb : Byt b) (hl : b.length ≤ 1000000) : ∃ z, meta_OfCommand (k + 20) b = some (((decC b).1, ((decC b).2, ())), z) := by
  have h0 : Fine (some b) := fun f hf => by cases hf; exact ⟨hb, by omega⟩
  have h1 := rF_fine h0
  have h2 := rF_fine h1
  have h3 := rI_fine h2
  have h4 := rF_fine h3
  have h5 := rF_fine h4
  have h6 := mF_fine h5
  have h7 := rLk_fine h6
  have h8 := rT_fine (most := 65536) h7
  have h9 := rT_fine (most := 65536) h8
  obtain ⟨m1, hm1, e1, c1⟩ := rCn_ex (p := rN F64) h9
  have g1 := rdL_fine (p := rN F64) (fun _ => rF_fine) m1 _ (rN_fine (most := 1000) h9).1
  obtain ⟨m2, hm2, e2, c2⟩ := rCn_ex (p := rWr) g1
  have g2 := rdL_fine (p := rWr) (fun _ => rWr_fine) m2 _ (rN_fine (most := 1000) g1).1
  obtain ⟨m3, hm3, e3, c3⟩ := rCn_ex (p := rT 65536) g2
  have g3 := rdL_fine (p := rT 65536) (fun _ => rT_fine) m3 _ (rN_fine (most := 1000) g2).1
  have hs1 : k + 20 - m1 = (k + 19 - m1) + 1 := by omega
  have hs2 : k + 20 - m2 = (k + 19 - m2) + 1 := by omega
  have hs3 : k + 20 - m3 = (k + 19 - m3) + 1 := by omega
  have hrd : row_Read (k + 20) b = some ((), ((b, (true, ())), ())) := by rw [row_Read_eq, lim_ok (by omega)]; rfl
  rw [meta_OfCommand_eq, hrd, Option.bind_some, show row_Reader_N (k + 20) 18446744073709551615 b true = _ from cN k _ h0, Option.bind_some, cN k _ h1, Option.bind_some, cI k h2, Option.bind_some, cN k _ h3, Option.bind_some, cN k _ h4, Option.bind_some,
    mFlag k h5, Option.bind_some, mLock k h6, Option.bind_some, mText k h7, Option.bind_some, mText k h8, Option.bind_some, mCount k h9, Option.bind_some]
  refine Exists.imp (fun z hz => (mo_l0_c k _ _ _ _ _ _ _ _ _ _ _ _ _ _ _ _ _ _ _ _ _ _ _ _ _ _ _ _ _ _ _ _ _ _ _ _ _ _ _ _ _ m1 (k + 20) _ _ e1 (by omega) hm1 (rN_fine (most := 1000) h9).1).trans hz) ?_
  rw [hs1, meta_OfCommand_l0_eq, bf (by omega), mCount k g1, Option.bind_some]
  refine Exists.imp (fun z hz => (mo_l1_c k _ _ _ _ _ _ _ _ _ _ _ _ _ _ _ _ _ _ _ _ _ _ _ _ _ _ _ _ _ _ _ _ _ _ _ _ _ _ _ _ _ m2 (k + 20) _ _ e2 (by omega) hm2 (rN_fine (most := 1000) g1).1).trans hz) ?_
  rw [hs2, meta_OfCommand_l1_eq, bf (by omega), mCount k g2, Option.bind_some]
  refine Exists.imp (fun z hz => (mo_l2_c k _ _ _ _ _ _ _ _ _ _ _ _ _ _ _ _ _ _ _ _ _ _ _ _ _ _ _ _ _ _ _ _ _ _ _ _ _ _ _ _ _ m3 (k + 20) _ _ e3 (by omega) hm3 (rN_fine (most := 1000) g2).1).trans hz) ?_
  rw [hs3, meta_OfCommand_l2_eq, bf (by omega), mTable k hk g3, Option.bind_some, mEnd, Option.bind_some]
  unfold decC
  simp only [rCm, rLk, rb, rp, c1, c2, c3] at *
  split
  · rename_i hz
    exact ⟨_, (bn_t hz).trans rfl⟩
  · rename_i hz
    exact ⟨_, (bn_f hz).trans rfl⟩
theorem ref_of (k : Nat) (hk : 3000 ≤ k) (b : List Int) (hb : Byt b) (hl : b.length ≤ 1000000) : ∃ z, ref15_CommandOf (k + 20) b = some (((decC b).1, ((decC b).2, ())), z) := by
  have h0 : Fine (some b) := fun f hf => by cases hf; exact ⟨hb, by omega⟩
  have h1 := rF_fine h0
  have h2 := rF_fine h1
  have h3 := rI_fine h2
  have h4 := rF_fine h3
  have h5 := rF_fine h4
  have h6 := (rN_fine (most := 1) h5).1
  have h7a := rF_fine h6
  have h7b := rI_fine h7a
  have h7c := rI_fine h7b
  have h7d := rT_fine (most := 65536) h7c
  have h7 := rT_fine (most := 65536) h7d
  have h8 := rT_fine (most := 65536) h7
  have h9 := rT_fine (most := 65536) h8
  obtain ⟨m1, hm1, e1, c1⟩ := rCn_ex (p := rN F64) h9
  have g1 := rdL_fine (p := rN F64) (fun _ => rF_fine) m1 _ (rN_fine (most := 1000) h9).1
  obtain ⟨m2, hm2, e2, c2⟩ := rCn_ex (p := rWr) g1
  have g2 := rdL_fine (p := rWr) (fun _ => rWr_fine) m2 _ (rN_fine (most := 1000) g1).1
  obtain ⟨m3, hm3, e3, c3⟩ := rCn_ex (p := rT 65536) g2
  have g3 := rdL_fine (p := rT 65536) (fun _ => rT_fine) m3 _ (rN_fine (most := 1000) g2).1
  have g3a := rI_fine g3
  have g3b := rT_fine (most := 65536) g3a
  obtain ⟨m4, hm4, e4, c4⟩ := rCn_ex (p := rCo) g3b
  have g4 := rdL_fine (p := rCo) (fun _ => rCo_fine) m4 _ (rN_fine (most := 1000) g3b).1
  have g4a := rI_fine g4
  obtain ⟨m5, hm5, e5, c5⟩ := rCn_ex (p := rI) g4a
  have g5 := rdL_fine (p := rI) (fun _ => rI_fine) m5 _ (rN_fine (most := 1000) g4a).1
  have hs1 : k + 20 - m1 = (k + 19 - m1) + 1 := by omega
  have hs2 : k + 20 - m2 = (k + 19 - m2) + 1 := by omega
  have hs3 : k + 20 - m3 = (k + 19 - m3) + 1 := by omega
  have hs4 : k + 20 - m4 = (k + 19 - m4) + 1 := by omega
  have hs5 : k + 20 - m5 = (k + 19 - m5) + 1 := by omega
  rw [ref15_CommandOf_eq, show ref01_Reader_N (k + 20) 18446744073709551615 b false = _ from fN k _ h0, Option.bind_some, fN k _ h1, Option.bind_some, fI k h2, Option.bind_some, fN k _ h3, Option.bind_some, fN k _ h4, Option.bind_some,
    fN k _ h5, Option.bind_some, fN k _ h6, Option.bind_some, fI k h7a, Option.bind_some, fI k h7b, Option.bind_some, fT k (by omega) h7c, Option.bind_some, fT k (by omega) h7d, Option.bind_some, fT k (by omega) h7, Option.bind_some, fT k (by omega) h8, Option.bind_some, fN k _ h9, Option.bind_some]
  refine Exists.imp (fun z hz => (ro_l0_c k _ _ _ _ _ _ _ _ _ _ _ _ _ _ _ _ _ _ _ _ _ _ _ _ _ _ _ _ _ _ _ _ _ _ _ _ _ _ _ _ _ m1 (k + 20) _ _ e1 (by omega) hm1 (rN_fine (most := 1000) h9).1).trans hz) ?_
  rw [hs1, ref15_CommandOf_l0_eq, bf (by omega), fN k _ g1, Option.bind_some]
  refine Exists.imp (fun z hz => (ro_l1_c k _ _ _ _ _ _ _ _ _ _ _ _ _ _ _ _ _ _ _ _ _ _ _ _ _ _ _ _ _ _ _ _ _ _ _ _ _ _ _ _ _ m2 (k + 20) _ _ e2 (by omega) hm2 (rN_fine (most := 1000) g1).1).trans hz) ?_
  rw [hs2, ref15_CommandOf_l1_eq, bf (by omega), fN k _ g2, Option.bind_some]
  refine Exists.imp (fun z hz => (ro_l2_c k _ _ _ _ _ _ _ _ _ _ _ _ _ _ _ _ _ _ _ _ _ _ _ _ _ _ _ _ _ _ _ _ _ _ _ _ _ _ _ _ _ m3 (k + 20) _ _ e3 (by omega) hm3 (rN_fine (most := 1000) g2).1).trans hz) ?_
  rw [hs3, ref15_CommandOf_l2_eq, bf (by omega), fI k g3, Option.bind_some, fT k (by omega) g3a, Option.bind_some, fN k _ g3b, Option.bind_some]
  refine Exists.imp (fun z hz => (ro_l3_c k _ _ _ _ _ _ _ _ _ _ _ _ _ _ _ _ _ _ _ _ _ _ _ _ _ _ _ _ _ _ _ _ _ _ _ _ _ _ _ _ _ m4 (k + 20) _ _ e4 (by omega) hm4 (rN_fine (most := 1000) g3b).1).trans hz) ?_
  rw [hs4, ref15_CommandOf_l3_eq, bf (by omega), fI k g4, Option.bind_some, fN k _ g4a, Option.bind_some]
  refine Exists.imp (fun z hz => (ro_l4_c k _ _ _ _ _ _ _ _ _ _ _ _ _ _ _ _ _ _ _ _ _ _ _ _ _ _ _ _ _ _ _ _ _ _ _ _ _ _ _ _ _ m5 (k + 20) _ _ e5 (by omega) hm5 (rN_fine (most := 1000) g4a).1).trans hz) ?_
  rw [hs5, ref15_CommandOf_l4_eq, bf (by omega), fEnd, Option.bind_some]
  unfold decC
  simp only [rCm, rLk, rTb, mF, rb, rp, c1, c2, c3, c4, c5] at *
  split
  · rename_i hz
    exact ⟨_, (bn_t hz).trans rfl⟩
  · rename_i hz
    exact ⟨_, (bn_f hz).trans rfl⟩

/-! ### What a command is as bytes -/
abbrev I64 (n : Int) : Prop := -9223372036854775808 ≤ n ∧ n ≤ 9223372036854775807
abbrev U64 (n : Int) : Prop := 0 ≤ n ∧ n < 18446744073709551616
noncomputable def encU (v : Int) : List Int := encN v.toNat
noncomputable def encI (v : Int) : List Int := encN (zigN v)
def bitN (b : Bool) : Nat := bif b then 1 else 0
noncomputable def encB (b : Bool) : List Int := encN (bitN b)
noncomputable def encLk (l : LockD) : List Int := encU l.1 ++ (encI l.2.1 ++ (encI l.2.2.1 ++ (encT l.2.2.2.1 ++ encT l.2.2.2.2.1)))
noncomputable def encW (w : WrD) : List Int := encT w.1 ++ (encB w.2.1 ++ encT w.2.2.1)
noncomputable def encCo (c : ColD) : List Int := encT c.1 ++ (encI c.2.1 ++ encB c.2.2.1)
noncomputable def encLs {α : Type} (e : α → List Int) (l : List α) : List Int := encN l.length ++ l.flatMap e
noncomputable def encTb (t : TabD) : List Int := encI t.1 ++ (encT t.2.1 ++ (encLs encCo t.2.2.1 ++ (encI t.2.2.2.1 ++ encLs encI t.2.2.2.2.1)))
noncomputable def encC (c : CmdD) : List Int := encU c.1 ++ (encU c.2.1 ++ (encI c.2.2.1 ++ (encU c.2.2.2.1 ++ (encU c.2.2.2.2.1 ++ (encB c.2.2.2.2.2.1 ++ (encLk c.2.2.2.2.2.2.1 ++ (encT c.2.2.2.2.2.2.2.1 ++ (encT c.2.2.2.2.2.2.2.2.1 ++
  (encLs encU c.2.2.2.2.2.2.2.2.2.1 ++ (encLs encW c.2.2.2.2.2.2.2.2.2.2.1 ++ (encLs encT c.2.2.2.2.2.2.2.2.2.2.2.1 ++ encTb c.2.2.2.2.2.2.2.2.2.2.2.2.1)))))))))))
structure OkLk (z : LockD) : Prop where
  t : U64 z.1
  l : I64 z.2.1
  m : I64 z.2.2.1
structure OkTb (z : TabD) : Prop where
  i : I64 z.1
  c : ∀ x ∈ z.2.2.1, I64 x.2.1
  k : I64 z.2.2.2.1
  x : ∀ x ∈ z.2.2.2.2.1, I64 x
  cl : z.2.2.1.length ≤ 1000
  xl : z.2.2.2.2.1.length ≤ 1000
/-- A command's numbers. -/
structure OkC (c : CmdD) : Prop where
  cl : U64 c.1
  sq : U64 c.2.1
  kd : I64 c.2.2.1
  tx : U64 c.2.2.2.1
  ts : U64 c.2.2.2.2.1
  lk : OkLk c.2.2.2.2.2.2.1
  xs : ∀ x ∈ c.2.2.2.2.2.2.2.2.2.1, U64 x
  tb : OkTb c.2.2.2.2.2.2.2.2.2.2.2.2.1
  xl : c.2.2.2.2.2.2.2.2.2.1.length ≤ 1000
  wl : c.2.2.2.2.2.2.2.2.2.2.1.length ≤ 1000
  kl : c.2.2.2.2.2.2.2.2.2.2.2.1.length ≤ 1000
theorem encU_nat {v : Int} (h : U64 v) : ((v.toNat : Nat) : Int) = v ∧ v.toNat < 18446744073709551616 := by have := h.1; have := h.2; constructor <;> omega
theorem bitN_lt (b : Bool) : bitN b < 18446744073709551616 := by cases b <;> decide
/-! ### Read again -/
def RE {α : Type} (p : Rdr α) (e : List Int) (x : α) : Prop := ∀ r, p (some (e ++ r)) = (x, some r)
theorem RE.bind {α β : Type} {p : Rdr α} {f : α → Rdr β} {e1 e2 : List Int} {x : α} {y : β} (h1 : RE p e1 x) (h2 : RE (f x) e2 y) : RE (rb p f) (e1 ++ e2) y := fun r => by
  unfold rb
  rw [List.append_assoc, h1]; exact h2 r
theorem RE.last {α β : Type} {p : Rdr α} {g : α → β} {e : List Int} {x : α} (h : RE p e x) : RE (rb p fun a => rp (g a)) e (g x) := fun r => by
  unfold rb
  rw [h]; rfl
theorem RE.list {α : Type} {p : Rdr α} {e : α → List Int} : ∀ l : List α, (∀ x ∈ l, RE p (e x) x) → RE (rdL p l.length) (l.flatMap e) l
  | [], _ => fun r => rfl
  | x :: l, h => by
    rw [List.flatMap_cons]
    exact RE.bind (h x (List.mem_cons_self ..)) (RE.last (RE.list l fun y hy => h y (List.mem_cons_of_mem _ hy)))
theorem RE.cn {α : Type} {p : Rdr α} {e : α → List Int} {l : List α} (hl : l.length ≤ 1000) (h : ∀ x ∈ l, RE p (e x) x) : RE (rCn p) (encLs e l) l := by
  refine RE.bind (x := (l.length : Int)) (fun r => rN_enc (by omega) (by omega) r) ?_
  rw [Int.toNat_natCast]
  exact RE.list l h
theorem RE.u {v : Int} (h : U64 v) : RE (rN F64) (encU v) v := fun r => by
  have := encU_nat h
  have h2 := rN_enc (most := F64) this.2 (by show ((v.toNat : Nat) : Int) ≤ 18446744073709551615; omega) r
  rw [this.1] at h2
  exact h2
theorem RE.i {v : Int} (h : I64 v) : RE rI (encI v) v := fun r => rI_enc h r
theorem RE.t {s : List Int} (h : s.length ≤ 65536) : RE (rT 65536) (encT s) s := fun r => rT_enc (by omega) (by omega) r
theorem RE.b (b : Bool) : RE mF (encB b) b := by
  have h : RE (rN 1) (encB b) ((bitN b : Nat) : Int) := fun r => rN_enc (bitN_lt b) (by cases b <;> decide) r
  have := RE.last (g := fun x => decide (x = 1)) h
  cases b <;> exact this
/-- Texts that may be read again. -/
structure TxC (z : CmdD) : Prop where
  lo : z.2.2.2.2.2.2.2.1.length ≤ 65536
  hi : z.2.2.2.2.2.2.2.2.1.length ≤ 65536
  llo : z.2.2.2.2.2.2.1.2.2.2.1.length ≤ 65536
  lhi : z.2.2.2.2.2.2.1.2.2.2.2.1.length ≤ 65536
  w : ∀ x ∈ z.2.2.2.2.2.2.2.2.2.2.1, x.1.length ≤ 65536 ∧ x.2.2.1.length ≤ 65536
  k : ∀ x ∈ z.2.2.2.2.2.2.2.2.2.2.2.1, x.length ≤ 65536
  n : z.2.2.2.2.2.2.2.2.2.2.2.2.1.2.1.length ≤ 65536
  c : ∀ x ∈ z.2.2.2.2.2.2.2.2.2.2.2.2.1.2.2.1, x.1.length ≤ 65536
theorem RE.cm {c : CmdD} (h : OkC c) (t : TxC c) : RE rCm (encC c) c :=
  .bind (.u h.cl) <| .bind (.u h.sq) <| .bind (.i h.kd) <| .bind (.u h.tx) <| .bind (.u h.ts) <| .bind (.b _) <|
  .bind (.bind (.u h.lk.t) <| .bind (.i h.lk.l) <| .bind (.i h.lk.m) <| .bind (.t t.llo) <| .last (.t t.lhi)) <| .bind (.t t.lo) <| .bind (.t t.hi) <|
  .bind (.cn h.xl fun x hx => .u (h.xs x hx)) <| .bind (.cn h.wl fun x hx => .bind (.t (t.w x hx).1) <| .bind (.b _) <| .last (.t (t.w x hx).2)) <| .bind (.cn h.kl fun x hx => .t (t.k x hx)) <|
  .last (.bind (.i h.tb.i) <| .bind (.t t.n) <| .bind (.cn h.tb.cl fun x hx => .bind (.t (t.c x hx)) <| .bind (.i (h.tb.c x hx)) <| .last (.b _)) <| .bind (.i h.tb.k) <| .last (.cn h.tb.xl fun x hx => .i (h.tb.x x hx)))
theorem dec_enc {c : CmdD} (h : OkC c) (t : TxC c) : decC (encC c) = (c, 0) := by
  have := RE.cm h t []
  rw [List.append_nil] at this
  unfold decC
  rw [this]; rfl
/-! ### Written -/
theorem cwU (k : Nat) {v : Int} (h : U64 v) (out : List Int) (ho : out.length + 10 ≤ 1000000) : row_Writer_N (k + 20) [v] out = some ((), ((out ++ encU v, ()), ())) := by
  have := encU_nat h
  have h2 := cwN k this.2 out ho
  rw [this.1] at h2
  exact h2
theorem cwU_l0 (k : Nat) (l : List Int) (hl : ∀ v ∈ l, U64 v) (hm : l.length ≤ 2000) : ∀ d j N out, j + d = l.length → d < N → out.length + ((l.drop j).flatMap encU).length ≤ 999000 →
    row_Writer_N_l0 (k + 20) N l (l.length : Int) (j : Int) out = some ((), ((out ++ (l.drop j).flatMap encU, ()), ()))
  | 0, j, 0, _, _, h, _ => absurd h (Nat.not_lt_zero _)
  | 0, j, N + 1, out, hj, _, _ => by
    have : j = l.length := by omega
    subst this
    rw [row_Writer_N_l0_eq, bf (by omega), List.drop_length, List.flatMap_nil, List.append_nil]
  | d + 1, j, 0, _, _, h, _ => absurd h (Nat.not_lt_zero _)
  | d + 1, j, N + 1, out, hj, hN, hB => by
    have c : j < l.length := by omega
    have hx := List.getElem?_eq_getElem c
    have hu := hl l[j] (List.getElem_mem c)
    rw [List.drop_eq_getElem_cons c, List.flatMap_cons, List.length_append] at hB
    rw [row_Writer_N_l0_eq, bt (by omega), nth_get hx, Option.bind_some, List.drop_eq_getElem_cons c, List.flatMap_cons, ← List.append_assoc]
    generalize l[j] = v at hu hB
    have hv := encU_nat hu
    obtain ⟨h1, h2⟩ := mG_ok hv.2
    have g1 := w_l1 (k + 20) N h1 h2 l (l.length : Int) (j : Int) out (k + 20) 0 (by omega) (by omega)
    rw [hv.1] at g1
    have g2 := w_l2 (k + 20) N (u := v.toNat) l (l.length : Int) (j : Int) (k + 20) (mG v.toNat) out h1 (by omega) (by omega)
    rw [hv.1] at g2
    refine g1.trans (g2.trans ?_)
    rw [wr_i64 (by omega)]
    exact cwU_l0 k l hl hm d (j + 1) N (out ++ encU v) (by omega) (by omega) (by rw [List.length_append]; omega)
theorem cwUs (k : Nat) (hk : 3000 ≤ k) {l : List Int} (hl : ∀ v ∈ l, U64 v) (hm : l.length ≤ 2000) (out : List Int) (hB : out.length + (l.flatMap encU).length ≤ 999000) : row_Writer_N (k + 20) l out = some ((), ((out ++ l.flatMap encU, ()), ())) := by
  rw [row_Writer_N_eq]
  exact cwU_l0 k l hl hm l.length 0 (k + 20) out (by omega) (by omega) hB
theorem mBit (k : Nat) (b : Bool) : meta_bit k b = some (((bitN b : Nat) : Int), ()) := by rw [meta_bit_eq]; cases b <;> rfl
theorem cwB (k : Nat) (b : Bool) (out : List Int) (ho : out.length + 10 ≤ 1000000) : row_Writer_N (k + 20) [((bitN b : Nat) : Int)] out = some ((), ((out ++ encB b, ()), ())) := cwN k (bitN_lt b) out ho
theorem cwI' (k : Nat) {a : Int} (h : I64 a) (out : List Int) (ho : out.length + 10 ≤ 1000000) : row_Writer_I (k + 20) a out = some ((), ((out ++ encI a, ()), ())) := cwI k h out ho
theorem cwL (k n : Nat) (hn : n < 18446744073709551616) (out : List Int) (ho : out.length + 10 ≤ 1000000) : row_Writer_N (k + 20) [wr .u64 (n : Int)] out = some ((), ((out ++ encN n, ()), ())) := by
  rw [wr_u64 (by omega)]; exact cwN k hn out ho
theorem rwU (k : Nat) {v : Int} (h : U64 v) (out : List Int) (ho : out.length + 20 ≤ 1000000) : ref01_N (k + 20) out v = some (out ++ encU v, ()) := by
  have := encU_nat h
  have h2 := rwN k this.2 out ho
  rw [this.1] at h2
  exact h2
theorem rwL (k n : Nat) (hn : n < 18446744073709551616) (out : List Int) (ho : out.length + 20 ≤ 1000000) : ref01_N (k + 20) out (wr .u64 (n : Int)) = some (out ++ encN n, ()) := by
  rw [wr_u64 (by omega)]; exact rwN k hn out ho
theorem ri (k : Nat) {a : Int} (h : I64 a) (out : List Int) (ho : out.length + 20 ≤ 1000000) : ref15_i (k + 20) out a = some (out ++ encI a, ()) := by
  rw [ref15_i_eq, rZig _ h, Option.bind_some, rwN k (zigN_is h).2 out ho]; rfl
theorem rfl' (k : Nat) (b : Bool) (out : List Int) (ho : out.length + 20 ≤ 1000000) : ref15_flag (k + 20) out b = some (out ++ encB b, ()) := by
  rw [ref15_flag_eq]
  cases b with
  | true => rw [cond_true, show ref01_N (k + 20) out (1 : Int) = _ from rwN k (u := 1) (by omega) out ho]; rfl
  | false => rw [cond_false, show ref01_N (k + 20) out (0 : Int) = _ from rwN k (u := 0) (by omega) out ho]; rfl
theorem rt (k : Nat) {s : List Int} (out : List Int) (ho : out.length + s.length + 20 ≤ 1000000) : ref15_t (k + 20) out s = some (out ++ encT s, ()) := by
  rw [ref15_t_eq, rwT k out ho]; rfl
theorem encT_len (s : List Int) : (encT s).length = (encN s.length).length + s.length := by unfold encT; rw [List.length_append]
theorem pt_l0 (k : Nat) (v5075 : Int) (v5076 : (List Int)) (v5077 : (List ((List Int) × (Int × (Bool × Unit))))) (v5078 : Int) (v5079 : (List Int)) (l : (List ((List Int) × (Int × (Bool × Unit))))) (hl : ∀ x ∈ l, I64 x.2.1) (hm : l.length ≤ 9223372036854775806) : ∀ d j N out, j + d = l.length → d ≤ N → out.length + ((l.drop j).flatMap encCo).length ≤ 999000 →
    meta_putTable_l0 (k + 20) N l (l.length : Int) (j : Int) out v5075 v5076 v5077 v5078 v5079 = meta_putTable_l0 (k + 20) (N - d) l (l.length : Int) (l.length : Int) (out ++ (l.drop j).flatMap encCo) v5075 v5076 v5077 v5078 v5079
  | 0, j, N, out, hj, _, _ => by
    have : j = l.length := by omega
    subst this
    rw [List.drop_length, List.flatMap_nil, List.append_nil, Nat.sub_zero]
  | d + 1, j, 0, _, _, h, _ => absurd h (Nat.not_succ_le_zero _)
  | d + 1, j, N + 1, out, hj, hN, hB => by
    have c : j < l.length := by omega
    have hx := List.getElem?_eq_getElem c
    have hu := hl l[j] (List.getElem_mem c)
    have ih := fun o ho => pt_l0 k v5075 v5076 v5077 v5078 v5079 l hl hm d (j + 1) N o (by omega) (by omega) ho
    rw [List.drop_eq_getElem_cons c, List.flatMap_cons] at hB ⊢
    rw [meta_putTable_l0_eq, bt (by omega), nth_get hx, Option.bind_some]
    generalize l[j] = x at hu hB
    rw [show encCo x = encT x.1 ++ (encI x.2.1 ++ encB x.2.2.1) from rfl] at hB ⊢
    simp only [List.length_append, encT_len] at hB
    rw [cwT k _ (by first | omega | (simp only [List.length_append, encT_len]; omega)), Option.bind_some, cwI' k hu _ (by first | omega | (simp only [List.length_append, encT_len]; omega)), Option.bind_some, mBit, Option.bind_some, cwB k _ _ (by first | omega | (simp only [List.length_append, encT_len]; omega)), Option.bind_some, wr_i64 (by omega)]
    refine (ih _ (by simp only [List.length_append, encT_len]; omega)).trans ?_
    rw [Nat.succ_sub_succ]
    simp only [List.append_assoc]
theorem pt_l0_c (k : Nat) (v5075 : Int) (v5076 : (List Int)) (v5077 : (List ((List Int) × (Int × (Bool × Unit))))) (v5078 : Int) (v5079 : (List Int)) (l : (List ((List Int) × (Int × (Bool × Unit))))) (hl : ∀ x ∈ l, I64 x.2.1) (hm : l.length ≤ 9223372036854775806) (N : Nat) (out : List Int) (h : l.length ≤ N) (hB : out.length + (l.flatMap encCo).length ≤ 999000) :
    meta_putTable_l0 (k + 20) N l (l.length : Int) (0 : Int) out v5075 v5076 v5077 v5078 v5079 = meta_putTable_l0 (k + 20) (N - l.length) l (l.length : Int) (l.length : Int) (out ++ l.flatMap encCo) v5075 v5076 v5077 v5078 v5079 :=
  pt_l0 k v5075 v5076 v5077 v5078 v5079 l hl hm l.length 0 N out (by omega) h hB
theorem pt_l1 (k : Nat)  (l : (List Int)) (hl : ∀ x ∈ l, I64 x) (hm : l.length ≤ 9223372036854775806) : ∀ d j N out, j + d = l.length → d ≤ N → out.length + ((l.drop j).flatMap encI).length ≤ 999000 →
    meta_putTable_l1 (k + 20) N l (l.length : Int) (j : Int) out = meta_putTable_l1 (k + 20) (N - d) l (l.length : Int) (l.length : Int) (out ++ (l.drop j).flatMap encI)
  | 0, j, N, out, hj, _, _ => by
    have : j = l.length := by omega
    subst this
    rw [List.drop_length, List.flatMap_nil, List.append_nil, Nat.sub_zero]
  | d + 1, j, 0, _, _, h, _ => absurd h (Nat.not_succ_le_zero _)
  | d + 1, j, N + 1, out, hj, hN, hB => by
    have c : j < l.length := by omega
    have hx := List.getElem?_eq_getElem c
    have hu := hl l[j] (List.getElem_mem c)
    have ih := fun o ho => pt_l1 k  l hl hm d (j + 1) N o (by omega) (by omega) ho
    rw [List.drop_eq_getElem_cons c, List.flatMap_cons] at hB ⊢
    rw [meta_putTable_l1_eq, bt (by omega), nth_get hx, Option.bind_some]
    generalize l[j] = x at hu hB
    simp only [List.length_append, encT_len] at hB
    rw [cwI' k hu _ (by first | omega | (simp only [List.length_append, encT_len]; omega)), Option.bind_some, wr_i64 (by omega)]
    refine (ih _ (by simp only [List.length_append, encT_len]; omega)).trans ?_
    rw [Nat.succ_sub_succ]
    simp only [List.append_assoc]
theorem pt_l1_c (k : Nat)  (l : (List Int)) (hl : ∀ x ∈ l, I64 x) (hm : l.length ≤ 9223372036854775806) (N : Nat) (out : List Int) (h : l.length ≤ N) (hB : out.length + (l.flatMap encI).length ≤ 999000) :
    meta_putTable_l1 (k + 20) N l (l.length : Int) (0 : Int) out = meta_putTable_l1 (k + 20) (N - l.length) l (l.length : Int) (l.length : Int) (out ++ l.flatMap encI) :=
  pt_l1 k  l hl hm l.length 0 N out (by omega) h hB
theorem pc_l0 (k : Nat) (v5013 : Int) (v5014 : Int) (v5015 : Int) (v5016 : Int) (v5017 : Int) (v5018 : Bool) (v5019 : Int) (v5020 : Int) (v5021 : Int) (v5022 : (List Int)) (v5023 : (List Int)) (v5024 : (List Int)) (v5025 : (List Int)) (v5026 : (List Int)) (v5027 : (List ((List Int) × (Bool × ((List Int) × Unit))))) (v5028 : (List (List Int))) (v5029 : Int) (v5030 : (List Int)) (v5031 : (List ((List Int) × (Int × (Bool × Unit))))) (v5032 : Int) (v5033 : (List Int)) (l : (List ((List Int) × (Bool × ((List Int) × Unit))))) (hl : ∀ x ∈ l, True) (hm : l.length ≤ 9223372036854775806) : ∀ d j N out, j + d = l.length → d ≤ N → out.length + ((l.drop j).flatMap encW).length ≤ 999000 →
    meta_PutCommand_l0 (k + 20) N l (l.length : Int) (j : Int) v5013 v5014 v5015 v5016 v5017 v5018 v5019 v5020 v5021 v5022 v5023 v5024 v5025 v5026 v5027 v5028 v5029 v5030 v5031 v5032 v5033 out = meta_PutCommand_l0 (k + 20) (N - d) l (l.length : Int) (l.length : Int) v5013 v5014 v5015 v5016 v5017 v5018 v5019 v5020 v5021 v5022 v5023 v5024 v5025 v5026 v5027 v5028 v5029 v5030 v5031 v5032 v5033 (out ++ (l.drop j).flatMap encW)
  | 0, j, N, out, hj, _, _ => by
    have : j = l.length := by omega
    subst this
    rw [List.drop_length, List.flatMap_nil, List.append_nil, Nat.sub_zero]
  | d + 1, j, 0, _, _, h, _ => absurd h (Nat.not_succ_le_zero _)
  | d + 1, j, N + 1, out, hj, hN, hB => by
    have c : j < l.length := by omega
    have hx := List.getElem?_eq_getElem c
    have hu := hl l[j] (List.getElem_mem c)
    have ih := fun o ho => pc_l0 k v5013 v5014 v5015 v5016 v5017 v5018 v5019 v5020 v5021 v5022 v5023 v5024 v5025 v5026 v5027 v5028 v5029 v5030 v5031 v5032 v5033 l hl hm d (j + 1) N o (by omega) (by omega) ho
    rw [List.drop_eq_getElem_cons c, List.flatMap_cons] at hB ⊢
    rw [meta_PutCommand_l0_eq, bt (by omega), nth_get hx, Option.bind_some]
    generalize l[j] = x at hu hB
    rw [show encW x = encT x.1 ++ (encB x.2.1 ++ encT x.2.2.1) from rfl] at hB ⊢
    simp only [List.length_append, encT_len] at hB
    rw [cwT k _ (by first | omega | (simp only [List.length_append, encT_len]; omega)), Option.bind_some, mBit, Option.bind_some, cwB k _ _ (by first | omega | (simp only [List.length_append, encT_len]; omega)), Option.bind_some, cwT k _ (by first | omega | (simp only [List.length_append, encT_len]; omega)), Option.bind_some, wr_i64 (by omega)]
    refine (ih _ (by simp only [List.length_append, encT_len]; omega)).trans ?_
    rw [Nat.succ_sub_succ]
    simp only [List.append_assoc]
theorem pc_l0_c (k : Nat) (v5013 : Int) (v5014 : Int) (v5015 : Int) (v5016 : Int) (v5017 : Int) (v5018 : Bool) (v5019 : Int) (v5020 : Int) (v5021 : Int) (v5022 : (List Int)) (v5023 : (List Int)) (v5024 : (List Int)) (v5025 : (List Int)) (v5026 : (List Int)) (v5027 : (List ((List Int) × (Bool × ((List Int) × Unit))))) (v5028 : (List (List Int))) (v5029 : Int) (v5030 : (List Int)) (v5031 : (List ((List Int) × (Int × (Bool × Unit))))) (v5032 : Int) (v5033 : (List Int)) (l : (List ((List Int) × (Bool × ((List Int) × Unit))))) (hl : ∀ x ∈ l, True) (hm : l.length ≤ 9223372036854775806) (N : Nat) (out : List Int) (h : l.length ≤ N) (hB : out.length + (l.flatMap encW).length ≤ 999000) :
    meta_PutCommand_l0 (k + 20) N l (l.length : Int) (0 : Int) v5013 v5014 v5015 v5016 v5017 v5018 v5019 v5020 v5021 v5022 v5023 v5024 v5025 v5026 v5027 v5028 v5029 v5030 v5031 v5032 v5033 out = meta_PutCommand_l0 (k + 20) (N - l.length) l (l.length : Int) (l.length : Int) v5013 v5014 v5015 v5016 v5017 v5018 v5019 v5020 v5021 v5022 v5023 v5024 v5025 v5026 v5027 v5028 v5029 v5030 v5031 v5032 v5033 (out ++ l.flatMap encW) :=
  pc_l0 k v5013 v5014 v5015 v5016 v5017 v5018 v5019 v5020 v5021 v5022 v5023 v5024 v5025 v5026 v5027 v5028 v5029 v5030 v5031 v5032 v5033 l hl hm l.length 0 N out (by omega) h hB
theorem pc_l1 (k : Nat) (v5044 : Int) (v5045 : Int) (v5046 : Int) (v5047 : Int) (v5048 : Int) (v5049 : Bool) (v5050 : Int) (v5051 : Int) (v5052 : Int) (v5053 : (List Int)) (v5054 : (List Int)) (v5055 : (List Int)) (v5056 : (List Int)) (v5057 : (List Int)) (v5058 : (List ((List Int) × (Bool × ((List Int) × Unit))))) (v5059 : (List (List Int))) (v5060 : Int) (v5061 : (List Int)) (v5062 : (List ((List Int) × (Int × (Bool × Unit))))) (v5063 : Int) (v5064 : (List Int)) (l : (List (List Int))) (hl : ∀ x ∈ l, True) (hm : l.length ≤ 9223372036854775806) : ∀ d j N out, j + d = l.length → d ≤ N → out.length + ((l.drop j).flatMap encT).length ≤ 999000 →
    meta_PutCommand_l1 (k + 20) N l (l.length : Int) (j : Int) v5044 v5045 v5046 v5047 v5048 v5049 v5050 v5051 v5052 v5053 v5054 v5055 v5056 v5057 v5058 v5059 v5060 v5061 v5062 v5063 v5064 out = meta_PutCommand_l1 (k + 20) (N - d) l (l.length : Int) (l.length : Int) v5044 v5045 v5046 v5047 v5048 v5049 v5050 v5051 v5052 v5053 v5054 v5055 v5056 v5057 v5058 v5059 v5060 v5061 v5062 v5063 v5064 (out ++ (l.drop j).flatMap encT)
  | 0, j, N, out, hj, _, _ => by
    have : j = l.length := by omega
    subst this
    rw [List.drop_length, List.flatMap_nil, List.append_nil, Nat.sub_zero]
  | d + 1, j, 0, _, _, h, _ => absurd h (Nat.not_succ_le_zero _)
  | d + 1, j, N + 1, out, hj, hN, hB => by
    have c : j < l.length := by omega
    have hx := List.getElem?_eq_getElem c
    have hu := hl l[j] (List.getElem_mem c)
    have ih := fun o ho => pc_l1 k v5044 v5045 v5046 v5047 v5048 v5049 v5050 v5051 v5052 v5053 v5054 v5055 v5056 v5057 v5058 v5059 v5060 v5061 v5062 v5063 v5064 l hl hm d (j + 1) N o (by omega) (by omega) ho
    rw [List.drop_eq_getElem_cons c, List.flatMap_cons] at hB ⊢
    rw [meta_PutCommand_l1_eq, bt (by omega), nth_get hx, Option.bind_some]
    generalize l[j] = x at hu hB
    simp only [List.length_append, encT_len] at hB
    rw [cwT k _ (by first | omega | (simp only [List.length_append, encT_len]; omega)), Option.bind_some, wr_i64 (by omega)]
    refine (ih _ (by simp only [List.length_append, encT_len]; omega)).trans ?_
    rw [Nat.succ_sub_succ]
    simp only [List.append_assoc]
theorem pc_l1_c (k : Nat) (v5044 : Int) (v5045 : Int) (v5046 : Int) (v5047 : Int) (v5048 : Int) (v5049 : Bool) (v5050 : Int) (v5051 : Int) (v5052 : Int) (v5053 : (List Int)) (v5054 : (List Int)) (v5055 : (List Int)) (v5056 : (List Int)) (v5057 : (List Int)) (v5058 : (List ((List Int) × (Bool × ((List Int) × Unit))))) (v5059 : (List (List Int))) (v5060 : Int) (v5061 : (List Int)) (v5062 : (List ((List Int) × (Int × (Bool × Unit))))) (v5063 : Int) (v5064 : (List Int)) (l : (List (List Int))) (hl : ∀ x ∈ l, True) (hm : l.length ≤ 9223372036854775806) (N : Nat) (out : List Int) (h : l.length ≤ N) (hB : out.length + (l.flatMap encT).length ≤ 999000) :
    meta_PutCommand_l1 (k + 20) N l (l.length : Int) (0 : Int) v5044 v5045 v5046 v5047 v5048 v5049 v5050 v5051 v5052 v5053 v5054 v5055 v5056 v5057 v5058 v5059 v5060 v5061 v5062 v5063 v5064 out = meta_PutCommand_l1 (k + 20) (N - l.length) l (l.length : Int) (l.length : Int) v5044 v5045 v5046 v5047 v5048 v5049 v5050 v5051 v5052 v5053 v5054 v5055 v5056 v5057 v5058 v5059 v5060 v5061 v5062 v5063 v5064 (out ++ l.flatMap encT) :=
  pc_l1 k v5044 v5045 v5046 v5047 v5048 v5049 v5050 v5051 v5052 v5053 v5054 v5055 v5056 v5057 v5058 v5059 v5060 v5061 v5062 v5063 v5064 l hl hm l.length 0 N out (by omega) h hB
theorem rp_l0 (k : Nat) (v5126 : Int) (v5127 : Int) (v5128 : Int) (v5129 : Int) (v5130 : Int) (v5131 : Bool) (v5132 : Int) (v5133 : Int) (v5134 : Int) (v5135 : (List Int)) (v5136 : (List Int)) (v5137 : (List Int)) (v5138 : (List Int)) (v5139 : (List Int)) (v5140 : (List ((List Int) × (Bool × ((List Int) × Unit))))) (v5141 : (List (List Int))) (v5142 : Int) (v5143 : (List Int)) (v5144 : (List ((List Int) × (Int × (Bool × Unit))))) (v5145 : Int) (v5146 : (List Int)) (l : (List Int)) (hl : ∀ x ∈ l, U64 x) (hm : l.length ≤ 9223372036854775806) : ∀ d j N out, j + d = l.length → d ≤ N → out.length + ((l.drop j).flatMap encU).length ≤ 999000 →
    ref15_PutCommand_l0 (k + 20) N out l (l.length : Int) (j : Int) v5126 v5127 v5128 v5129 v5130 v5131 v5132 v5133 v5134 v5135 v5136 v5137 v5138 v5139 v5140 v5141 v5142 v5143 v5144 v5145 v5146 = ref15_PutCommand_l0 (k + 20) (N - d) (out ++ (l.drop j).flatMap encU) l (l.length : Int) (l.length : Int) v5126 v5127 v5128 v5129 v5130 v5131 v5132 v5133 v5134 v5135 v5136 v5137 v5138 v5139 v5140 v5141 v5142 v5143 v5144 v5145 v5146
  | 0, j, N, out, hj, _, _ => by
    have : j = l.length := by omega
    subst this
    rw [List.drop_length, List.flatMap_nil, List.append_nil, Nat.sub_zero]
  | d + 1, j, 0, _, _, h, _ => absurd h (Nat.not_succ_le_zero _)
  | d + 1, j, N + 1, out, hj, hN, hB => by
    have c : j < l.length := by omega
    have hx := List.getElem?_eq_getElem c
    have hu := hl l[j] (List.getElem_mem c)
    have ih := fun o ho => rp_l0 k v5126 v5127 v5128 v5129 v5130 v5131 v5132 v5133 v5134 v5135 v5136 v5137 v5138 v5139 v5140 v5141 v5142 v5143 v5144 v5145 v5146 l hl hm d (j + 1) N o (by omega) (by omega) ho
    rw [List.drop_eq_getElem_cons c, List.flatMap_cons] at hB ⊢
    rw [ref15_PutCommand_l0_eq, bt (by omega), nth_get hx, Option.bind_some]
    generalize l[j] = x at hu hB
    simp only [List.length_append, encT_len] at hB
    rw [rwU k hu _ (by first | omega | (simp only [List.length_append, encT_len]; omega)), Option.bind_some, wr_i64 (by omega)]
    refine (ih _ (by simp only [List.length_append, encT_len]; omega)).trans ?_
    rw [Nat.succ_sub_succ]
    simp only [List.append_assoc]
theorem rp_l0_c (k : Nat) (v5126 : Int) (v5127 : Int) (v5128 : Int) (v5129 : Int) (v5130 : Int) (v5131 : Bool) (v5132 : Int) (v5133 : Int) (v5134 : Int) (v5135 : (List Int)) (v5136 : (List Int)) (v5137 : (List Int)) (v5138 : (List Int)) (v5139 : (List Int)) (v5140 : (List ((List Int) × (Bool × ((List Int) × Unit))))) (v5141 : (List (List Int))) (v5142 : Int) (v5143 : (List Int)) (v5144 : (List ((List Int) × (Int × (Bool × Unit))))) (v5145 : Int) (v5146 : (List Int)) (l : (List Int)) (hl : ∀ x ∈ l, U64 x) (hm : l.length ≤ 9223372036854775806) (N : Nat) (out : List Int) (h : l.length ≤ N) (hB : out.length + (l.flatMap encU).length ≤ 999000) :
    ref15_PutCommand_l0 (k + 20) N out l (l.length : Int) (0 : Int) v5126 v5127 v5128 v5129 v5130 v5131 v5132 v5133 v5134 v5135 v5136 v5137 v5138 v5139 v5140 v5141 v5142 v5143 v5144 v5145 v5146 = ref15_PutCommand_l0 (k + 20) (N - l.length) (out ++ l.flatMap encU) l (l.length : Int) (l.length : Int) v5126 v5127 v5128 v5129 v5130 v5131 v5132 v5133 v5134 v5135 v5136 v5137 v5138 v5139 v5140 v5141 v5142 v5143 v5144 v5145 v5146 :=
  rp_l0 k v5126 v5127 v5128 v5129 v5130 v5131 v5132 v5133 v5134 v5135 v5136 v5137 v5138 v5139 v5140 v5141 v5142 v5143 v5144 v5145 v5146 l hl hm l.length 0 N out (by omega) h hB
theorem rp_l1 (k : Nat) (v5154 : Int) (v5155 : Int) (v5156 : Int) (v5157 : Int) (v5158 : Int) (v5159 : Bool) (v5160 : Int) (v5161 : Int) (v5162 : Int) (v5163 : (List Int)) (v5164 : (List Int)) (v5165 : (List Int)) (v5166 : (List Int)) (v5167 : (List Int)) (v5168 : (List ((List Int) × (Bool × ((List Int) × Unit))))) (v5169 : (List (List Int))) (v5170 : Int) (v5171 : (List Int)) (v5172 : (List ((List Int) × (Int × (Bool × Unit))))) (v5173 : Int) (v5174 : (List Int)) (l : (List ((List Int) × (Bool × ((List Int) × Unit))))) (hl : ∀ x ∈ l, True) (hm : l.length ≤ 9223372036854775806) : ∀ d j N out, j + d = l.length → d ≤ N → out.length + ((l.drop j).flatMap encW).length ≤ 999000 →
    ref15_PutCommand_l1 (k + 20) N out l (l.length : Int) (j : Int) v5154 v5155 v5156 v5157 v5158 v5159 v5160 v5161 v5162 v5163 v5164 v5165 v5166 v5167 v5168 v5169 v5170 v5171 v5172 v5173 v5174 = ref15_PutCommand_l1 (k + 20) (N - d) (out ++ (l.drop j).flatMap encW) l (l.length : Int) (l.length : Int) v5154 v5155 v5156 v5157 v5158 v5159 v5160 v5161 v5162 v5163 v5164 v5165 v5166 v5167 v5168 v5169 v5170 v5171 v5172 v5173 v5174
  | 0, j, N, out, hj, _, _ => by
    have : j = l.length := by omega
    subst this
    rw [List.drop_length, List.flatMap_nil, List.append_nil, Nat.sub_zero]
  | d + 1, j, 0, _, _, h, _ => absurd h (Nat.not_succ_le_zero _)
  | d + 1, j, N + 1, out, hj, hN, hB => by
    have c : j < l.length := by omega
    have hx := List.getElem?_eq_getElem c
    have hu := hl l[j] (List.getElem_mem c)
    have ih := fun o ho => rp_l1 k v5154 v5155 v5156 v5157 v5158 v5159 v5160 v5161 v5162 v5163 v5164 v5165 v5166 v5167 v5168 v5169 v5170 v5171 v5172 v5173 v5174 l hl hm d (j + 1) N o (by omega) (by omega) ho
    rw [List.drop_eq_getElem_cons c, List.flatMap_cons] at hB ⊢
    rw [ref15_PutCommand_l1_eq, bt (by omega), nth_get hx, Option.bind_some]
    generalize l[j] = x at hu hB
    rw [show encW x = encT x.1 ++ (encB x.2.1 ++ encT x.2.2.1) from rfl] at hB ⊢
    simp only [List.length_append, encT_len] at hB
    rw [rt k _ (by first | omega | (simp only [List.length_append, encT_len]; omega)), Option.bind_some, rfl' k _ _ (by first | omega | (simp only [List.length_append, encT_len]; omega)), Option.bind_some, rt k _ (by first | omega | (simp only [List.length_append, encT_len]; omega)), Option.bind_some, wr_i64 (by omega)]
    refine (ih _ (by simp only [List.length_append, encT_len]; omega)).trans ?_
    rw [Nat.succ_sub_succ]
    simp only [List.append_assoc]
theorem rp_l1_c (k : Nat) (v5154 : Int) (v5155 : Int) (v5156 : Int) (v5157 : Int) (v5158 : Int) (v5159 : Bool) (v5160 : Int) (v5161 : Int) (v5162 : Int) (v5163 : (List Int)) (v5164 : (List Int)) (v5165 : (List Int)) (v5166 : (List Int)) (v5167 : (List Int)) (v5168 : (List ((List Int) × (Bool × ((List Int) × Unit))))) (v5169 : (List (List Int))) (v5170 : Int) (v5171 : (List Int)) (v5172 : (List ((List Int) × (Int × (Bool × Unit))))) (v5173 : Int) (v5174 : (List Int)) (l : (List ((List Int) × (Bool × ((List Int) × Unit))))) (hl : ∀ x ∈ l, True) (hm : l.length ≤ 9223372036854775806) (N : Nat) (out : List Int) (h : l.length ≤ N) (hB : out.length + (l.flatMap encW).length ≤ 999000) :
    ref15_PutCommand_l1 (k + 20) N out l (l.length : Int) (0 : Int) v5154 v5155 v5156 v5157 v5158 v5159 v5160 v5161 v5162 v5163 v5164 v5165 v5166 v5167 v5168 v5169 v5170 v5171 v5172 v5173 v5174 = ref15_PutCommand_l1 (k + 20) (N - l.length) (out ++ l.flatMap encW) l (l.length : Int) (l.length : Int) v5154 v5155 v5156 v5157 v5158 v5159 v5160 v5161 v5162 v5163 v5164 v5165 v5166 v5167 v5168 v5169 v5170 v5171 v5172 v5173 v5174 :=
  rp_l1 k v5154 v5155 v5156 v5157 v5158 v5159 v5160 v5161 v5162 v5163 v5164 v5165 v5166 v5167 v5168 v5169 v5170 v5171 v5172 v5173 v5174 l hl hm l.length 0 N out (by omega) h hB
theorem rp_l2 (k : Nat) (v5184 : Int) (v5185 : Int) (v5186 : Int) (v5187 : Int) (v5188 : Int) (v5189 : Bool) (v5190 : Int) (v5191 : Int) (v5192 : Int) (v5193 : (List Int)) (v5194 : (List Int)) (v5195 : (List Int)) (v5196 : (List Int)) (v5197 : (List Int)) (v5198 : (List ((List Int) × (Bool × ((List Int) × Unit))))) (v5199 : (List (List Int))) (v5200 : Int) (v5201 : (List Int)) (v5202 : (List ((List Int) × (Int × (Bool × Unit))))) (v5203 : Int) (v5204 : (List Int)) (l : (List (List Int))) (hl : ∀ x ∈ l, True) (hm : l.length ≤ 9223372036854775806) : ∀ d j N out, j + d = l.length → d ≤ N → out.length + ((l.drop j).flatMap encT).length ≤ 999000 →
    ref15_PutCommand_l2 (k + 20) N out l (l.length : Int) (j : Int) v5184 v5185 v5186 v5187 v5188 v5189 v5190 v5191 v5192 v5193 v5194 v5195 v5196 v5197 v5198 v5199 v5200 v5201 v5202 v5203 v5204 = ref15_PutCommand_l2 (k + 20) (N - d) (out ++ (l.drop j).flatMap encT) l (l.length : Int) (l.length : Int) v5184 v5185 v5186 v5187 v5188 v5189 v5190 v5191 v5192 v5193 v5194 v5195 v5196 v5197 v5198 v5199 v5200 v5201 v5202 v5203 v5204
  | 0, j, N, out, hj, _, _ => by
    have : j = l.length := by omega
    subst this
    rw [List.drop_length, List.flatMap_nil, List.append_nil, Nat.sub_zero]
  | d + 1, j, 0, _, _, h, _ => absurd h (Nat.not_succ_le_zero _)
  | d + 1, j, N + 1, out, hj, hN, hB => by
    have c : j < l.length := by omega
    have hx := List.getElem?_eq_getElem c
    have hu := hl l[j] (List.getElem_mem c)
    have ih := fun o ho => rp_l2 k v5184 v5185 v5186 v5187 v5188 v5189 v5190 v5191 v5192 v5193 v5194 v5195 v5196 v5197 v5198 v5199 v5200 v5201 v5202 v5203 v5204 l hl hm d (j + 1) N o (by omega) (by omega) ho
    rw [List.drop_eq_getElem_cons c, List.flatMap_cons] at hB ⊢
    rw [ref15_PutCommand_l2_eq, bt (by omega), nth_get hx, Option.bind_some]
    generalize l[j] = x at hu hB
    simp only [List.length_append, encT_len] at hB
    rw [rt k _ (by first | omega | (simp only [List.length_append, encT_len]; omega)), Option.bind_some, wr_i64 (by omega)]
    refine (ih _ (by simp only [List.length_append, encT_len]; omega)).trans ?_
    rw [Nat.succ_sub_succ]
    simp only [List.append_assoc]
theorem rp_l2_c (k : Nat) (v5184 : Int) (v5185 : Int) (v5186 : Int) (v5187 : Int) (v5188 : Int) (v5189 : Bool) (v5190 : Int) (v5191 : Int) (v5192 : Int) (v5193 : (List Int)) (v5194 : (List Int)) (v5195 : (List Int)) (v5196 : (List Int)) (v5197 : (List Int)) (v5198 : (List ((List Int) × (Bool × ((List Int) × Unit))))) (v5199 : (List (List Int))) (v5200 : Int) (v5201 : (List Int)) (v5202 : (List ((List Int) × (Int × (Bool × Unit))))) (v5203 : Int) (v5204 : (List Int)) (l : (List (List Int))) (hl : ∀ x ∈ l, True) (hm : l.length ≤ 9223372036854775806) (N : Nat) (out : List Int) (h : l.length ≤ N) (hB : out.length + (l.flatMap encT).length ≤ 999000) :
    ref15_PutCommand_l2 (k + 20) N out l (l.length : Int) (0 : Int) v5184 v5185 v5186 v5187 v5188 v5189 v5190 v5191 v5192 v5193 v5194 v5195 v5196 v5197 v5198 v5199 v5200 v5201 v5202 v5203 v5204 = ref15_PutCommand_l2 (k + 20) (N - l.length) (out ++ l.flatMap encT) l (l.length : Int) (l.length : Int) v5184 v5185 v5186 v5187 v5188 v5189 v5190 v5191 v5192 v5193 v5194 v5195 v5196 v5197 v5198 v5199 v5200 v5201 v5202 v5203 v5204 :=
  rp_l2 k v5184 v5185 v5186 v5187 v5188 v5189 v5190 v5191 v5192 v5193 v5194 v5195 v5196 v5197 v5198 v5199 v5200 v5201 v5202 v5203 v5204 l hl hm l.length 0 N out (by omega) h hB
theorem rp_l3 (k : Nat) (v5214 : Int) (v5215 : Int) (v5216 : Int) (v5217 : Int) (v5218 : Int) (v5219 : Bool) (v5220 : Int) (v5221 : Int) (v5222 : Int) (v5223 : (List Int)) (v5224 : (List Int)) (v5225 : (List Int)) (v5226 : (List Int)) (v5227 : (List Int)) (v5228 : (List ((List Int) × (Bool × ((List Int) × Unit))))) (v5229 : (List (List Int))) (v5230 : Int) (v5231 : (List Int)) (v5232 : (List ((List Int) × (Int × (Bool × Unit))))) (v5233 : Int) (v5234 : (List Int)) (l : (List ((List Int) × (Int × (Bool × Unit))))) (hl : ∀ x ∈ l, I64 x.2.1) (hm : l.length ≤ 9223372036854775806) : ∀ d j N out, j + d = l.length → d ≤ N → out.length + ((l.drop j).flatMap encCo).length ≤ 999000 →
    ref15_PutCommand_l3 (k + 20) N out l (l.length : Int) (j : Int) v5214 v5215 v5216 v5217 v5218 v5219 v5220 v5221 v5222 v5223 v5224 v5225 v5226 v5227 v5228 v5229 v5230 v5231 v5232 v5233 v5234 = ref15_PutCommand_l3 (k + 20) (N - d) (out ++ (l.drop j).flatMap encCo) l (l.length : Int) (l.length : Int) v5214 v5215 v5216 v5217 v5218 v5219 v5220 v5221 v5222 v5223 v5224 v5225 v5226 v5227 v5228 v5229 v5230 v5231 v5232 v5233 v5234
  | 0, j, N, out, hj, _, _ => by
    have : j = l.length := by omega
    subst this
    rw [List.drop_length, List.flatMap_nil, List.append_nil, Nat.sub_zero]
  | d + 1, j, 0, _, _, h, _ => absurd h (Nat.not_succ_le_zero _)
  | d + 1, j, N + 1, out, hj, hN, hB => by
    have c : j < l.length := by omega
    have hx := List.getElem?_eq_getElem c
    have hu := hl l[j] (List.getElem_mem c)
    have ih := fun o ho => rp_l3 k v5214 v5215 v5216 v5217 v5218 v5219 v5220 v5221 v5222 v5223 v5224 v5225 v5226 v5227 v5228 v5229 v5230 v5231 v5232 v5233 v5234 l hl hm d (j + 1) N o (by omega) (by omega) ho
    rw [List.drop_eq_getElem_cons c, List.flatMap_cons] at hB ⊢
    rw [ref15_PutCommand_l3_eq, bt (by omega), nth_get hx, Option.bind_some]
    generalize l[j] = x at hu hB
    rw [show encCo x = encT x.1 ++ (encI x.2.1 ++ encB x.2.2.1) from rfl] at hB ⊢
    simp only [List.length_append, encT_len] at hB
    rw [rt k _ (by first | omega | (simp only [List.length_append, encT_len]; omega)), Option.bind_some, ri k hu _ (by first | omega | (simp only [List.length_append, encT_len]; omega)), Option.bind_some, rfl' k _ _ (by first | omega | (simp only [List.length_append, encT_len]; omega)), Option.bind_some, wr_i64 (by omega)]
    refine (ih _ (by simp only [List.length_append, encT_len]; omega)).trans ?_
    rw [Nat.succ_sub_succ]
    simp only [List.append_assoc]
theorem rp_l3_c (k : Nat) (v5214 : Int) (v5215 : Int) (v5216 : Int) (v5217 : Int) (v5218 : Int) (v5219 : Bool) (v5220 : Int) (v5221 : Int) (v5222 : Int) (v5223 : (List Int)) (v5224 : (List Int)) (v5225 : (List Int)) (v5226 : (List Int)) (v5227 : (List Int)) (v5228 : (List ((List Int) × (Bool × ((List Int) × Unit))))) (v5229 : (List (List Int))) (v5230 : Int) (v5231 : (List Int)) (v5232 : (List ((List Int) × (Int × (Bool × Unit))))) (v5233 : Int) (v5234 : (List Int)) (l : (List ((List Int) × (Int × (Bool × Unit))))) (hl : ∀ x ∈ l, I64 x.2.1) (hm : l.length ≤ 9223372036854775806) (N : Nat) (out : List Int) (h : l.length ≤ N) (hB : out.length + (l.flatMap encCo).length ≤ 999000) :
    ref15_PutCommand_l3 (k + 20) N out l (l.length : Int) (0 : Int) v5214 v5215 v5216 v5217 v5218 v5219 v5220 v5221 v5222 v5223 v5224 v5225 v5226 v5227 v5228 v5229 v5230 v5231 v5232 v5233 v5234 = ref15_PutCommand_l3 (k + 20) (N - l.length) (out ++ l.flatMap encCo) l (l.length : Int) (l.length : Int) v5214 v5215 v5216 v5217 v5218 v5219 v5220 v5221 v5222 v5223 v5224 v5225 v5226 v5227 v5228 v5229 v5230 v5231 v5232 v5233 v5234 :=
  rp_l3 k v5214 v5215 v5216 v5217 v5218 v5219 v5220 v5221 v5222 v5223 v5224 v5225 v5226 v5227 v5228 v5229 v5230 v5231 v5232 v5233 v5234 l hl hm l.length 0 N out (by omega) h hB
theorem rp_l4 (k : Nat)  (l : (List Int)) (hl : ∀ x ∈ l, I64 x) (hm : l.length ≤ 9223372036854775806) : ∀ d j N out, j + d = l.length → d ≤ N → out.length + ((l.drop j).flatMap encI).length ≤ 999000 →
    ref15_PutCommand_l4 (k + 20) N out l (l.length : Int) (j : Int) = ref15_PutCommand_l4 (k + 20) (N - d) (out ++ (l.drop j).flatMap encI) l (l.length : Int) (l.length : Int)
  | 0, j, N, out, hj, _, _ => by
    have : j = l.length := by omega
    subst this
    rw [List.drop_length, List.flatMap_nil, List.append_nil, Nat.sub_zero]
  | d + 1, j, 0, _, _, h, _ => absurd h (Nat.not_succ_le_zero _)
  | d + 1, j, N + 1, out, hj, hN, hB => by
    have c : j < l.length := by omega
    have hx := List.getElem?_eq_getElem c
    have hu := hl l[j] (List.getElem_mem c)
    have ih := fun o ho => rp_l4 k  l hl hm d (j + 1) N o (by omega) (by omega) ho
    rw [List.drop_eq_getElem_cons c, List.flatMap_cons] at hB ⊢
    rw [ref15_PutCommand_l4_eq, bt (by omega), nth_get hx, Option.bind_some]
    generalize l[j] = x at hu hB
    simp only [List.length_append, encT_len] at hB
    rw [ri k hu _ (by first | omega | (simp only [List.length_append, encT_len]; omega)), Option.bind_some, wr_i64 (by omega)]
    refine (ih _ (by simp only [List.length_append, encT_len]; omega)).trans ?_
    rw [Nat.succ_sub_succ]
    simp only [List.append_assoc]
theorem rp_l4_c (k : Nat)  (l : (List Int)) (hl : ∀ x ∈ l, I64 x) (hm : l.length ≤ 9223372036854775806) (N : Nat) (out : List Int) (h : l.length ≤ N) (hB : out.length + (l.flatMap encI).length ≤ 999000) :
    ref15_PutCommand_l4 (k + 20) N out l (l.length : Int) (0 : Int) = ref15_PutCommand_l4 (k + 20) (N - l.length) (out ++ l.flatMap encI) l (l.length : Int) (l.length : Int) :=
  rp_l4 k  l hl hm l.length 0 N out (by omega) h hB
theorem put_tb (k : Nat) (hk : 3000 ≤ k) {t : TabD} (h : OkTb t) (out : List Int) (hB : out.length + (encTb t).length ≤ 999000) : meta_putTable (k + 20) t out = some ((), ((out ++ encTb t, ()), ())) := by
  have hc := h.cl
  have hx := h.xl
  unfold encTb encLs at hB ⊢
  simp only [List.length_append, encT_len] at hB
  rw [meta_putTable_eq, cwI' k h.i _ (by (try simp only [List.length_append, encT_len, List.length_nil]); omega), Option.bind_some, cwT k _ (by (try simp only [List.length_append, encT_len, List.length_nil]); omega), Option.bind_some, cwL k _ (by omega) _ (by (try simp only [List.length_append, encT_len, List.length_nil]); omega), Option.bind_some]
  refine (pt_l0_c k _ _ _ _ _ t.2.2.1 h.c (by omega) (k + 20) _ (by omega) (by (try simp only [List.length_append, encT_len, List.length_nil]); omega)).trans ?_
  rw [show k + 20 - t.2.2.1.length = (k + 19 - t.2.2.1.length) + 1 from by omega, meta_putTable_l0_eq, bf (by omega), cwI' k h.k _ (by (try simp only [List.length_append, encT_len, List.length_nil]); omega), Option.bind_some, cwL k _ (by omega) _ (by (try simp only [List.length_append, encT_len, List.length_nil]); omega), Option.bind_some]
  refine (pt_l1_c k  t.2.2.2.2.1 h.x (by omega) (k + 20) _ (by omega) (by (try simp only [List.length_append, encT_len, List.length_nil]); omega)).trans ?_
  rw [show k + 20 - t.2.2.2.2.1.length = (k + 19 - t.2.2.2.2.1.length) + 1 from by omega, meta_putTable_l1_eq, bf (by omega)]
  simp only [List.append_assoc]
theorem cwN2 (k : Nat) (hk : 3000 ≤ k) {c : CmdD} (h : OkC c) (hB : (encU c.1).length + (encU c.2.1).length ≤ 999000) : row_Writer_N (k + 20) [c.1, c.2.1] [] = some ((), ((encU c.1 ++ encU c.2.1, ()), ())) := by
  refine (cwUs k hk (l := [c.1, c.2.1]) (fun v hv => ?_) (by simp) [] (by simp only [List.flatMap_cons, List.flatMap_nil, List.length_append, List.length_nil]; omega)).trans (by simp)
  rcases List.mem_cons.1 hv with rfl | hv
  · exact h.cl
  · rw [List.mem_singleton.1 hv]; exact h.sq
theorem cwN4 (k : Nat) (hk : 3000 ≤ k) {c : CmdD} (h : OkC c) (out : List Int) (ho : out.length + (encU c.2.2.2.1).length + (encU c.2.2.2.2.1).length + (encB c.2.2.2.2.2.1).length + (encU c.2.2.2.2.2.2.1.1).length ≤ 999000) :
    row_Writer_N (k + 20) [c.2.2.2.1, c.2.2.2.2.1, ((bitN c.2.2.2.2.2.1 : Nat) : Int), c.2.2.2.2.2.2.1.1] out = some ((), ((out ++ (encU c.2.2.2.1 ++ (encU c.2.2.2.2.1 ++ (encB c.2.2.2.2.2.1 ++ encU c.2.2.2.2.2.2.1.1))), ()), ())) := by
  have hb : encU ((bitN c.2.2.2.2.2.1 : Nat) : Int) = encB c.2.2.2.2.2.1 := by unfold encU encB; rw [Int.toNat_natCast]
  refine (cwUs k hk (l := [c.2.2.2.1, c.2.2.2.2.1, ((bitN c.2.2.2.2.2.1 : Nat) : Int), c.2.2.2.2.2.2.1.1]) (fun v hv => ?_) (by simp) out (by simp only [List.flatMap_cons, List.flatMap_nil, List.length_append, List.length_nil, hb]; omega)).trans (by simp [hb])
  rcases List.mem_cons.1 hv with rfl | hv
  · exact h.tx
  · rcases List.mem_cons.1 hv with rfl | hv
    · exact h.ts
    · rcases List.mem_cons.1 hv with rfl | hv
      · have := bitN_lt c.2.2.2.2.2.1
        exact ⟨by omega, by omega⟩
      · rw [List.mem_singleton.1 hv]; exact h.lk.t
set_option maxHeartbeats 8000000 in
theorem put_meta (k : Nat) (hk : 3000 ≤ k) {c : CmdD} (h : OkC c) (hB : (encC c).length ≤ 999000) : meta_PutCommand (k + 20) c = some (encC c, ()) := by
  have hx := h.xl
  have hw := h.wl
  have hkl := h.kl
  have hB2 := hB
  unfold encC encLk encLs at hB
  simp only [List.length_append, encT_len] at hB
  rw [meta_PutCommand_eq, cwN2 k hk h (by omega), Option.bind_some]
  rw [cwI' k h.kd _ (by (try simp only [List.length_append, encT_len, List.length_nil]); omega), Option.bind_some, mBit, Option.bind_some]
  rw [cwN4 k hk h _ (by (try simp only [List.length_append, encT_len, List.length_nil]); omega), Option.bind_some, cwI' k h.lk.l _ (by (try simp only [List.length_append, encT_len, List.length_nil]); omega), Option.bind_some, cwI' k h.lk.m _ (by (try simp only [List.length_append, encT_len, List.length_nil]); omega), Option.bind_some, cwT k _ (by (try simp only [List.length_append, encT_len, List.length_nil]); omega), Option.bind_some, cwT k _ (by (try simp only [List.length_append, encT_len, List.length_nil]); omega), Option.bind_some, cwT k _ (by (try simp only [List.length_append, encT_len, List.length_nil]); omega), Option.bind_some, cwT k _ (by (try simp only [List.length_append, encT_len, List.length_nil]); omega), Option.bind_some,
    cwL k _ (by omega) _ (by (try simp only [List.length_append, encT_len, List.length_nil]); omega), Option.bind_some, cwUs k hk h.xs (by omega) _ (by (try simp only [List.length_append, encT_len, List.length_nil]); omega), Option.bind_some, cwL k _ (by omega) _ (by (try simp only [List.length_append, encT_len, List.length_nil]); omega), Option.bind_some]
  refine (pc_l0_c k _ _ _ _ _ _ _ _ _ _ _ _ _ _ _ _ _ _ _ _ _ c.2.2.2.2.2.2.2.2.2.2.1 (fun _ _ => trivial) (by omega) (k + 20) _ (by omega) (by (try simp only [List.length_append, encT_len, List.length_nil]); omega)).trans ?_
  rw [show k + 20 - c.2.2.2.2.2.2.2.2.2.2.1.length = (k + 19 - c.2.2.2.2.2.2.2.2.2.2.1.length) + 1 from by omega, meta_PutCommand_l0_eq, bf (by omega), cwL k _ (by omega) _ (by (try simp only [List.length_append, encT_len, List.length_nil]); omega), Option.bind_some]
  refine (pc_l1_c k _ _ _ _ _ _ _ _ _ _ _ _ _ _ _ _ _ _ _ _ _ c.2.2.2.2.2.2.2.2.2.2.2.1 (fun _ _ => trivial) (by omega) (k + 20) _ (by omega) (by (try simp only [List.length_append, encT_len, List.length_nil]); omega)).trans ?_
  rw [show k + 20 - c.2.2.2.2.2.2.2.2.2.2.2.1.length = (k + 19 - c.2.2.2.2.2.2.2.2.2.2.2.1.length) + 1 from by omega, meta_PutCommand_l1_eq, bf (by omega)]
  rw [show meta_putTable (k + 20) (c.2.2.2.2.2.2.2.2.2.2.2.2.1.1, (c.2.2.2.2.2.2.2.2.2.2.2.2.1.2.1, (c.2.2.2.2.2.2.2.2.2.2.2.2.1.2.2.1, (c.2.2.2.2.2.2.2.2.2.2.2.2.1.2.2.2.1, (c.2.2.2.2.2.2.2.2.2.2.2.2.1.2.2.2.2.1, ()))))) = meta_putTable (k + 20) c.2.2.2.2.2.2.2.2.2.2.2.2.1 from rfl]
  rw [put_tb k hk h.tb _ (by (try simp only [List.length_append, encT_len, List.length_nil]); omega), Option.bind_some, row_Writer_Bytes_eq, lim_ok (by (try simp only [List.length_append, encT_len, List.length_nil]); omega), Option.bind_some]
  unfold encC encLk encLs
  simp only [List.append_assoc, List.nil_append]
set_option maxHeartbeats 8000000 in
theorem put_ref (k : Nat) (hk : 3000 ≤ k) {c : CmdD} (h : OkC c) (hB : (encC c).length ≤ 999000) : ref15_PutCommand (k + 20) c = some (encC c, ()) := by
  have hx := h.xl
  have hw := h.wl
  have hkl := h.kl
  have hcl := h.tb.cl
  have hxl := h.tb.xl
  have hB2 := hB
  unfold encC encLk encTb encLs at hB
  simp only [List.length_append, encT_len] at hB
  rw [ref15_PutCommand_eq, rwU k h.cl _ (by (try simp only [List.length_append, encT_len, List.length_nil]); omega), Option.bind_some, rwU k h.sq _ (by (try simp only [List.length_append, encT_len, List.length_nil]); omega), Option.bind_some, ri k h.kd _ (by (try simp only [List.length_append, encT_len, List.length_nil]); omega), Option.bind_some, rwU k h.tx _ (by (try simp only [List.length_append, encT_len, List.length_nil]); omega), Option.bind_some, rwU k h.ts _ (by (try simp only [List.length_append, encT_len, List.length_nil]); omega), Option.bind_some, rfl' k _ _ (by (try simp only [List.length_append, encT_len, List.length_nil]); omega), Option.bind_some, rwU k h.lk.t _ (by (try simp only [List.length_append, encT_len, List.length_nil]); omega), Option.bind_some,
    ri k h.lk.l _ (by (try simp only [List.length_append, encT_len, List.length_nil]); omega), Option.bind_some, ri k h.lk.m _ (by (try simp only [List.length_append, encT_len, List.length_nil]); omega), Option.bind_some, rt k _ (by (try simp only [List.length_append, encT_len, List.length_nil]); omega), Option.bind_some, rt k _ (by (try simp only [List.length_append, encT_len, List.length_nil]); omega), Option.bind_some, rt k _ (by (try simp only [List.length_append, encT_len, List.length_nil]); omega), Option.bind_some, rt k _ (by (try simp only [List.length_append, encT_len, List.length_nil]); omega), Option.bind_some, rwL k _ (by omega) _ (by (try simp only [List.length_append, encT_len, List.length_nil]); omega), Option.bind_some]
  refine (rp_l0_c k _ _ _ _ _ _ _ _ _ _ _ _ _ _ _ _ _ _ _ _ _ c.2.2.2.2.2.2.2.2.2.1 h.xs (by omega) (k + 20) _ (by omega) (by (try simp only [List.length_append, encT_len, List.length_nil]); omega)).trans ?_
  rw [show k + 20 - c.2.2.2.2.2.2.2.2.2.1.length = (k + 19 - c.2.2.2.2.2.2.2.2.2.1.length) + 1 from by omega, ref15_PutCommand_l0_eq, bf (by omega), rwL k _ (by omega) _ (by (try simp only [List.length_append, encT_len, List.length_nil]); omega), Option.bind_some]
  refine (rp_l1_c k _ _ _ _ _ _ _ _ _ _ _ _ _ _ _ _ _ _ _ _ _ c.2.2.2.2.2.2.2.2.2.2.1 (fun _ _ => trivial) (by omega) (k + 20) _ (by omega) (by (try simp only [List.length_append, encT_len, List.length_nil]); omega)).trans ?_
  rw [show k + 20 - c.2.2.2.2.2.2.2.2.2.2.1.length = (k + 19 - c.2.2.2.2.2.2.2.2.2.2.1.length) + 1 from by omega, ref15_PutCommand_l1_eq, bf (by omega), rwL k _ (by omega) _ (by (try simp only [List.length_append, encT_len, List.length_nil]); omega), Option.bind_some]
  refine (rp_l2_c k _ _ _ _ _ _ _ _ _ _ _ _ _ _ _ _ _ _ _ _ _ c.2.2.2.2.2.2.2.2.2.2.2.1 (fun _ _ => trivial) (by omega) (k + 20) _ (by omega) (by (try simp only [List.length_append, encT_len, List.length_nil]); omega)).trans ?_
  rw [show k + 20 - c.2.2.2.2.2.2.2.2.2.2.2.1.length = (k + 19 - c.2.2.2.2.2.2.2.2.2.2.2.1.length) + 1 from by omega, ref15_PutCommand_l2_eq, bf (by omega), ri k h.tb.i _ (by (try simp only [List.length_append, encT_len, List.length_nil]); omega), Option.bind_some, rt k _ (by (try simp only [List.length_append, encT_len, List.length_nil]); omega), Option.bind_some, rwL k _ (by omega) _ (by (try simp only [List.length_append, encT_len, List.length_nil]); omega), Option.bind_some]
  refine (rp_l3_c k _ _ _ _ _ _ _ _ _ _ _ _ _ _ _ _ _ _ _ _ _ c.2.2.2.2.2.2.2.2.2.2.2.2.1.2.2.1 h.tb.c (by omega) (k + 20) _ (by omega) (by (try simp only [List.length_append, encT_len, List.length_nil]); omega)).trans ?_
  rw [show k + 20 - c.2.2.2.2.2.2.2.2.2.2.2.2.1.2.2.1.length = (k + 19 - c.2.2.2.2.2.2.2.2.2.2.2.2.1.2.2.1.length) + 1 from by omega, ref15_PutCommand_l3_eq, bf (by omega), ri k h.tb.k _ (by (try simp only [List.length_append, encT_len, List.length_nil]); omega), Option.bind_some, rwL k _ (by omega) _ (by (try simp only [List.length_append, encT_len, List.length_nil]); omega), Option.bind_some]
  refine (rp_l4_c k  c.2.2.2.2.2.2.2.2.2.2.2.2.1.2.2.2.2.1 h.tb.x (by omega) (k + 20) _ (by omega) (by (try simp only [List.length_append, encT_len, List.length_nil]); omega)).trans ?_
  rw [show k + 20 - c.2.2.2.2.2.2.2.2.2.2.2.2.1.2.2.2.2.1.length = (k + 19 - c.2.2.2.2.2.2.2.2.2.2.2.2.1.2.2.2.2.1.length) + 1 from by omega, ref15_PutCommand_l4_eq, bf (by omega)]
  unfold encC encLk encTb encLs
  simp only [List.append_assoc, List.nil_append]
/-! ### How large what is read is -/
def sz (st : Rs) : Nat := (st.getD []).length
theorem rN_sz {most : Int} {st : Rs} (h : Fine st) : sz (rN most st).2 ≤ sz st := by
  cases st with
  | none => exact Nat.le_refl _
  | some f =>
    cases hg : numG 0 0 f with
    | none => rw [rN_n hg]; exact Nat.zero_le _
    | some p =>
      obtain ⟨n, r⟩ := p
      obtain ⟨⟨p, hp, _⟩, _⟩ := numG_back f _ _ _ _ hg
      rw [rN_s hg]
      split
      · exact Nat.zero_le _
      · show r.length ≤ f.length
        rw [hp]; simp
theorem rT_sz {most : Int} {st : Rs} (h : Fine st) : (rT most st).1.length + sz (rT most st).2 ≤ sz st := by
  have h1 := rN_sz (most := most) h
  unfold rT
  split
  · exact Nat.zero_le _
  · cases hr : (rN most st).2 with
    | none => exact Nat.zero_le _
    | some r =>
      simp only
      rw [hr] at h1
      have h1 : r.length ≤ sz st := h1
      split
      · exact Nat.zero_le _
      · show (r.take _).length + (r.drop _).length ≤ _
        rw [List.length_take, List.length_drop]; omega
theorem u_b {most : Int} {st : Rs} (h : Fine st) : U64 (rN most st).1 ∧ (encU (rN most st).1).length + sz (rN most st).2 ≤ sz st + 10 := by
  have h1 := rN_sz (most := most) h
  have h2 := (rN_fine (most := most) h).2.1
  have h3 := (encN_length (encU_nat h2).2).1
  exact ⟨h2, by unfold encU; omega⟩
theorem i_b {st : Rs} (h : Fine st) : I64 (rI st).1 ∧ (encI (rI st).1).length + sz (rI st).2 ≤ sz st + 10 := by
  have h1 := rN_sz (most := 18446744073709551615) h
  have h2 := (rN_fine (most := 18446744073709551615) h).2.1
  have hI : I64 (rI st).1 := by
    show I64 (zagF (rN 18446744073709551615 st).1)
    unfold zagF
    split <;> constructor <;> omega
  have h3 := (encN_length (zigN_is hI).2).1
  refine ⟨hI, ?_⟩
  have : sz (rI st).2 ≤ sz st := h1
  unfold encI; omega
theorem b_b {st : Rs} (h : Fine st) : (encB (mF st).1).length + sz (mF st).2 ≤ sz st + 10 := by
  have h1 := rN_sz (most := 1) h
  have h3 := (encN_length (bitN_lt (mF st).1)).1
  have : sz (mF st).2 ≤ sz st := h1
  unfold encB; omega
theorem t_b {most : Int} {st : Rs} (h : Fine st) : (encT (rT most st).1).length + sz (rT most st).2 ≤ sz st + 10 := by
  have h1 := rT_sz (most := most) h
  have h2 : (rT most st).1.length ≤ 1000000000 := by
    have : sz st ≤ 1000000000 := by
      unfold sz
      cases st with
      | none => exact Nat.zero_le _
      | some f => exact (h f rfl).2
    omega
  have h3 := (encN_length (u := (rT most st).1.length) (by omega)).1
  rw [encT_len]; omega
theorem lk_b {st : Rs} (h : Fine st) : OkLk (rLk st).1 ∧ (encLk (rLk st).1).length + sz (rLk st).2 ≤ sz st + 50 := by
  have g1 := rF_fine h
  have g2 := rI_fine g1
  have g3 := rI_fine g2
  have g4 := rT_fine (most := 65536) g3
  obtain ⟨o1, b1⟩ := u_b (most := F64) h
  obtain ⟨o2, b2⟩ := i_b g1
  obtain ⟨o3, b3⟩ := i_b g2
  have b4 := t_b (most := 65536) g3
  have b5 := t_b (most := 65536) g4
  refine ⟨⟨o1, o2, o3⟩, ?_⟩
  show (encU (rN F64 st).1 ++ (encI (rI (rN F64 st).2).1 ++ (encI (rI (rI (rN F64 st).2).2).1 ++ (encT (rT 65536 (rI (rI (rN F64 st).2).2).2).1 ++ encT (rT 65536 (rT 65536 (rI (rI (rN F64 st).2).2).2).2).1)))).length + sz (rT 65536 (rT 65536 (rI (rI (rN F64 st).2).2).2).2).2 ≤ _
  simp only [List.length_append]
  omega
theorem w_b {st : Rs} (h : Fine st) : (encW (rWr st).1).length + sz (rWr st).2 ≤ sz st + 30 := by
  have g1 := rT_fine (most := 65536) h
  have g2 := mF_fine g1
  have b1 := t_b (most := 65536) h
  have b2 := b_b g1
  have b3 := t_b (most := 65536) g2
  show (encT (rT 65536 st).1 ++ (encB (mF (rT 65536 st).2).1 ++ encT (rT 65536 (mF (rT 65536 st).2).2).1)).length + sz (rT 65536 (mF (rT 65536 st).2).2).2 ≤ _
  simp only [List.length_append]
  omega
theorem co_b {st : Rs} (h : Fine st) : I64 (rCo st).1.2.1 ∧ (encCo (rCo st).1).length + sz (rCo st).2 ≤ sz st + 30 := by
  have g1 := rT_fine (most := 65536) h
  have g2 := rI_fine g1
  have b1 := t_b (most := 65536) h
  obtain ⟨o2, b2⟩ := i_b g1
  have b3 := b_b g2
  refine ⟨o2, ?_⟩
  show (encT (rT 65536 st).1 ++ (encI (rI (rT 65536 st).2).1 ++ encB (mF (rI (rT 65536 st).2).2).1)).length + sz (mF (rI (rT 65536 st).2).2).2 ≤ _
  simp only [List.length_append]
  omega
theorem rdL_b {α : Type} {p : Rdr α} {e : α → List Int} {C : Nat} {Q : α → Prop} (hf : ∀ st, Fine st → Fine (p st).2) (hb : ∀ st, Fine st → Q (p st).1 ∧ (e (p st).1).length + sz (p st).2 ≤ sz st + C) : ∀ m st, Fine st →
    (∀ x ∈ (rdL p m st).1, Q x) ∧ (rdL p m st).1.length = m ∧ ((rdL p m st).1.flatMap e).length + sz (rdL p m st).2 ≤ sz st + m * C
  | 0, st, _ => ⟨fun x hx => (by cases hx), rfl, by show 0 + sz st ≤ sz st + 0 * C; omega⟩
  | m + 1, st, h => by
    obtain ⟨i1, i2, i3⟩ := rdL_b hf hb m (p st).2 (hf st h)
    obtain ⟨q1, q2⟩ := hb st h
    refine ⟨fun x hx => ?_, ?_, ?_⟩
    · rcases List.mem_cons.1 (show x ∈ (p st).1 :: (rdL p m (p st).2).1 from hx) with rfl | hx
      · exact q1
      · exact i1 x hx
    · show ((p st).1 :: (rdL p m (p st).2).1).length = m + 1
      rw [List.length_cons, i2]
    · show (((p st).1 :: (rdL p m (p st).2).1).flatMap e).length + sz (rdL p m (p st).2).2 ≤ sz st + (m + 1) * C
      rw [List.flatMap_cons, List.length_append, Nat.add_mul]; omega
theorem cn_b {α : Type} {p : Rdr α} {e : α → List Int} {C : Nat} {Q : α → Prop} (hf : ∀ st, Fine st → Fine (p st).2) (hb : ∀ st, Fine st → Q (p st).1 ∧ (e (p st).1).length + sz (p st).2 ≤ sz st + C) {st : Rs} (h : Fine st) :
    (∀ x ∈ (rCn p st).1, Q x) ∧ (rCn p st).1.length ≤ 1000 ∧ (encLs e (rCn p st).1).length + sz (rCn p st).2 ≤ sz st + 1000 * C + 10 := by
  obtain ⟨m, hm, _, ec⟩ := rCn_ex (p := p) h
  obtain ⟨i1, i2, i3⟩ := rdL_b hf hb m _ (rN_fine (most := 1000) h).1
  have h1 := rN_sz (most := 1000) h
  have h2 := (encN_length (u := m) (by omega)).1
  have h3 : m * C ≤ 1000 * C := Nat.mul_le_mul_right C hm
  rw [ec]
  refine ⟨i1, by omega, ?_⟩
  unfold encLs
  rw [List.length_append, i2]
  omega
theorem tb_b {st : Rs} (h : Fine st) : OkTb (rTb st).1 ∧ (encTb (rTb st).1).length + sz (rTb st).2 ≤ sz st + 40050 := by
  have g1 := rI_fine h
  have g2 := rT_fine (most := 65536) g1
  have g3 := rCn_fine (fun _ => rCo_fine) g2
  have g4 := rI_fine g3
  obtain ⟨o1, b1⟩ := i_b h
  have b2 := t_b (most := 65536) g1
  obtain ⟨o3, l3, b3⟩ := cn_b (p := rCo) (e := encCo) (C := 30) (Q := fun x => I64 x.2.1) (fun _ => rCo_fine) (fun _ => co_b) g2
  obtain ⟨o4, b4⟩ := i_b g3
  obtain ⟨o5, l5, b5⟩ := cn_b (p := rI) (e := encI) (C := 10) (Q := fun x => I64 x) (fun _ => rI_fine) (fun _ => i_b) g4
  refine ⟨⟨o1, o3, o4, o5, l3, l5⟩, ?_⟩
  show (encI (rI st).1 ++ (encT (rT 65536 (rI st).2).1 ++ (encLs encCo (rCn rCo (rT 65536 (rI st).2).2).1 ++ (encI (rI (rCn rCo (rT 65536 (rI st).2).2).2).1 ++ encLs encI (rCn rI (rI (rCn rCo (rT 65536 (rI st).2).2).2).2).1)))).length + sz (rCn rI (rI (rCn rCo (rT 65536 (rI st).2).2).2).2).2 ≤ _
  simp only [List.length_append]
  omega
theorem cm_b {st : Rs} (h : Fine st) : OkC (rCm st).1 ∧ (encC (rCm st).1).length ≤ sz st + 100000 := by
  have g1 := rF_fine h
  have g2 := rF_fine g1
  have g3 := rI_fine g2
  have g4 := rF_fine g3
  have g5 := rF_fine g4
  have g6 := mF_fine g5
  have g7 := rLk_fine g6
  have g8 := rT_fine (most := 65536) g7
  have g9 := rT_fine (most := 65536) g8
  have k1 := rCn_fine (p := rN F64) (fun _ => rF_fine) g9
  have k2 := rCn_fine (p := rWr) (fun _ => rWr_fine) k1
  have k3 := rCn_fine (p := rT 65536) (fun _ => rT_fine) k2
  obtain ⟨o1, b1⟩ := u_b (most := F64) h
  obtain ⟨o2, b2⟩ := u_b (most := F64) g1
  obtain ⟨o3, b3⟩ := i_b g2
  obtain ⟨o4, b4⟩ := u_b (most := F64) g3
  obtain ⟨o5, b5⟩ := u_b (most := F64) g4
  have b6 := b_b g5
  obtain ⟨o7, b7⟩ := lk_b g6
  have b8 := t_b (most := 65536) g7
  have b9 := t_b (most := 65536) g8
  obtain ⟨p1, l1, c1⟩ := cn_b (p := rN F64) (e := encU) (C := 10) (Q := fun x => U64 x) (fun _ => rF_fine) (fun _ => u_b) g9
  obtain ⟨p2, l2, c2⟩ := cn_b (p := rWr) (e := encW) (C := 30) (Q := fun _ => True) (fun _ => rWr_fine) (fun _ h => ⟨trivial, w_b h⟩) k1
  obtain ⟨p3, l3, c3⟩ := cn_b (p := rT 65536) (e := encT) (C := 10) (Q := fun _ => True) (fun _ => rT_fine) (fun _ h => ⟨trivial, t_b h⟩) k2
  obtain ⟨p4, c4⟩ := tb_b k3
  refine ⟨⟨o1, o2, o3, o4, o5, o7, p1, p4, l1, l2, l3⟩, ?_⟩
  unfold encC
  simp only [rCm, rb, rp, List.length_append]
  omega
theorem CZ_ok : OkC CZ := ⟨⟨by decide, by decide⟩, ⟨by decide, by decide⟩, ⟨by decide, by decide⟩, ⟨by decide, by decide⟩, ⟨by decide, by decide⟩, ⟨⟨by decide, by decide⟩, ⟨by decide, by decide⟩, ⟨by decide, by decide⟩⟩, fun x hx => (by cases hx),
  ⟨⟨by decide, by decide⟩, fun x hx => (by cases hx), ⟨by decide, by decide⟩, fun x hx => (by cases hx), Nat.zero_le _, Nat.zero_le _⟩, Nat.zero_le _, Nat.zero_le _, Nat.zero_le _⟩
theorem CZ_len : (encC CZ).length ≤ 999000 := by
  have h0 := (encN_length (u := 0) (by omega)).1
  have hu : encU 0 = encN 0 := rfl
  have hi : encI 0 = encN 0 := rfl
  have hb : encB false = encN 0 := rfl
  have ht : encT ([] : List Int) = encN 0 := by unfold encT; rw [List.append_nil]; rfl
  have hl : ∀ {α : Type} (e : α → List Int), encLs e [] = encN 0 := fun e => by unfold encLs; rw [List.flatMap_nil, List.append_nil]; rfl
  unfold encC encLk encTb CZ
  simp only [List.length_append, hu, hi, hb, ht, hl]
  omega
theorem dec_ok {b : List Int} (hb : Byt b) (hl : b.length ≤ 1000) : OkC (decC b).1 ∧ (encC (decC b).1).length ≤ 999000 := by
  have h0 : Fine (some b) := fun f hf => by cases hf; exact ⟨hb, by omega⟩
  obtain ⟨h1, h2⟩ := cm_b h0
  have h2 : (encC (rCm (some b)).1).length ≤ b.length + 100000 := h2
  unfold decC
  split
  · exact ⟨h1, by show (encC (rCm (some b)).1).length ≤ 999000; omega⟩
  · exact ⟨CZ_ok, CZ_len⟩
theorem bind_of {α β : Type} {o : Option α} {r : α} {F : α → Option β} {s : Option β} (h : o = some r) (h2 : F r = s) : o.bind F = s := by rw [h]; exact h2
theorem awake15 (k : Nat) : law15_awake k = some (true, ()) := by
  simp only [law15_awake_eq, meta_New_eq, lock_New_eq, Option.bind_some, meta_Machine_Do_c_eq, meta_Machine_ok_eq, meta_Machine_one_c_eq]
  rfl
abbrev LT : Ty := .st (.pair (.int .u64) (.pair (.int .i64) (.pair (.int .i64) (.pair (.sl (.int .u8)) (.pair (.sl (.int .u8)) .unit)))))
abbrev CT : Ty := (.st (.pair (.int .u64) (.pair (.int .u64) (.pair (.int .i64) (.pair (.int .u64) (.pair (.int .u64) (.pair .bool (.pair (.st (.pair (.int .u64) (.pair (.int .i64) (.pair (.int .i64) (.pair (.sl (.int .u8)) (.pair (.sl (.int .u8)) .unit)))))) (.pair (.sl (.int .u8)) (.pair (.sl (.int .u8)) (.pair (.sl (.int .u64)) (.pair (.sl (.st (.pair (.sl (.int .u8)) (.pair .bool (.pair (.sl (.int .u8)) .unit))))) (.pair (.sl (.sl (.int .u8))) (.pair (.st (.pair (.int .i64) (.pair .str (.pair (.sl (.st (.pair .str (.pair (.int .i64) (.pair .bool .unit))))) (.pair (.int .i64) (.pair (.sl (.int .i64)) .unit)))))) .unit))))))))))))))
theorem wf_byt {l : List Int} (h : ∀ x : Int, List.Mem x l → (Lit.int .u8 x).wf = true) : Byt l := h
theorem w64 {n : Int} (h : (Lit.int .u64 n).wf = true) : U64 n := by have := wf_u64 h; exact ⟨this.1, by omega⟩
/-- What is told of a command that is handed. -/
structure WfC (c : CmdD) : Prop where
  cl : U64 c.1
  sq : U64 c.2.1
  kd : I64 c.2.2.1
  tx : U64 c.2.2.2.1
  ts : U64 c.2.2.2.2.1
  lk : OkLk c.2.2.2.2.2.2.1
  llo : Byt c.2.2.2.2.2.2.1.2.2.2.1
  lhi : Byt c.2.2.2.2.2.2.1.2.2.2.2.1
  lo : Byt c.2.2.2.2.2.2.2.1
  hi : Byt c.2.2.2.2.2.2.2.2.1
  xs : ∀ x ∈ c.2.2.2.2.2.2.2.2.2.1, U64 x
  w : ∀ x ∈ c.2.2.2.2.2.2.2.2.2.2.1, Byt x.1 ∧ Byt x.2.2.1
  k : ∀ x ∈ c.2.2.2.2.2.2.2.2.2.2.2.1, Byt x
  ti : I64 c.2.2.2.2.2.2.2.2.2.2.2.2.1.1
  tn : Byt c.2.2.2.2.2.2.2.2.2.2.2.2.1.2.1
  tc : ∀ x ∈ c.2.2.2.2.2.2.2.2.2.2.2.2.1.2.2.1, Byt x.1 ∧ I64 x.2.1
  tk : I64 c.2.2.2.2.2.2.2.2.2.2.2.2.1.2.2.2.1
  tx2 : ∀ x ∈ c.2.2.2.2.2.2.2.2.2.2.2.2.1.2.2.2.2.1, I64 x
theorem wfC_of {c : CmdD} (h : wfD CT c) : WfC c := by
  obtain ⟨a1, a2, a3, a4, a5, _, ⟨b1, b2, b3, b4, b5, _⟩, a8, a9, a10, a11, a12, ⟨t1, t2, t3, t4, t5, _⟩, _⟩ := h
  exact ⟨w64 a1, w64 a2, wf_i64 a3, w64 a4, w64 a5, ⟨w64 b1, wf_i64 b2, wf_i64 b3⟩, b4.2, b5.2, a8.2, a9.2, fun x hx => w64 (a10.2 x hx), fun x hx => ⟨(a11.2 x hx).1.2, (a11.2 x hx).2.2.1.2⟩, fun x hx => (a12.2 x hx).2,
    wf_i64 t1, t2.2, fun x hx => ⟨(t3.2 x hx).1.2, wf_i64 (t3.2 x hx).2.1⟩, wf_i64 t4, fun x hx => wf_i64 (t5.2 x hx)⟩
theorem szC_of {c : CmdD} (h : szD CT c) (f : wfD CT c) : SzC c := by
  obtain ⟨_, _, _, _, _, _, ⟨_, _, _, b4, b5, _⟩, a8, a9, _, a11, a12, ⟨_, _, t3, _⟩, _⟩ := h
  obtain ⟨_, _, _, _, _, _, _, _, _, _, f11, f12, ⟨_, _, f3, _⟩, _⟩ := f
  exact ⟨a8.1 rfl, a9.1 rfl, b4.1 rfl, b5.1 rfl, fun x hx => ⟨(a11.2 x hx).1.1 rfl, (a11.2 x hx).2.2.1.1 rfl⟩, f11.1, f12.1, f3.1⟩
theorem okC_of {c : CmdD} (w : WfC c) (s : SmC c) : OkC c :=
  ⟨w.cl, w.sq, w.kd, w.tx, w.ts, w.lk, w.xs, ⟨w.ti, fun x hx => (w.tc x hx).2, w.tk, w.tx2, by have := s.co; omega, by have := s.ix; omega⟩, by have := s.tx; omega, by have := s.wr; omega, by have := s.ky; omega⟩
theorem txC_of {c : CmdD} (s : SmC c) : TxC c := by
  have t := s.t
  exact ⟨by omega, by omega, by omega, by omega, fun x hx => by have := s.ws x hx; omega, fun x hx => by have := s.ks x hx; omega, by have := s.na; omega, fun x hx => by have := s.cs x hx; omega⟩
/-! How large, and of which bytes -/
theorem u_l {v : Int} (h : U64 v) : (encU v).length ≤ 10 := (encN_length (encU_nat h).2).1
theorem i_l {v : Int} (h : I64 v) : (encI v).length ≤ 10 := (encN_length (zigN_is h).2).1
theorem b_l (b : Bool) : (encB b).length ≤ 10 := (encN_length (bitN_lt b)).1
theorem t_l {s : List Int} (h : s.length ≤ 100000) : (encT s).length ≤ 10 + s.length := by
  have := (encN_length (u := s.length) (by omega)).1
  rw [encT_len]; omega
theorem flat_l {α : Type} {e : α → List Int} {C : Nat} : ∀ l : List α, (∀ x ∈ l, (e x).length ≤ C) → (l.flatMap e).length ≤ l.length * C
  | [], _ => by simp
  | x :: l, h => by
    have h1 := h x (List.mem_cons_self ..)
    have h2 := flat_l l fun y hy => h y (List.mem_cons_of_mem _ hy)
    rw [List.flatMap_cons, List.length_append, List.length_cons, Nat.add_mul]; omega
theorem ls_l {α : Type} {e : α → List Int} {C m : Nat} {l : List α} (hl : l.length ≤ m) (hm : m ≤ 1000) (h : ∀ x ∈ l, (e x).length ≤ C) : (encLs e l).length ≤ 10 + m * C := by
  have h1 := flat_l l h
  have h2 := (encN_length (u := l.length) (by omega)).1
  have h3 : l.length * C ≤ m * C := Nat.mul_le_mul_right C hl
  unfold encLs
  rw [List.length_append]; omega
set_option maxHeartbeats 8000000 in
theorem enc_l {c : CmdD} (w : WfC c) (s : SmC c) : (encC c).length ≤ 20000 := by
  have t := s.t
  have h1 := u_l w.cl
  have h2 := u_l w.sq
  have h3 := i_l w.kd
  have h4 := u_l w.tx
  have h5 := u_l w.ts
  have h6 := b_l c.2.2.2.2.2.1
  have h7 := u_l w.lk.t
  have h8 := i_l w.lk.l
  have h9 := i_l w.lk.m
  have h10 := t_l (s := c.2.2.2.2.2.2.1.2.2.2.1) (by omega)
  have h11 := t_l (s := c.2.2.2.2.2.2.1.2.2.2.2.1) (by omega)
  have h12 := t_l (s := c.2.2.2.2.2.2.2.1) (by omega)
  have h13 := t_l (s := c.2.2.2.2.2.2.2.2.1) (by omega)
  have h14 := ls_l (e := encU) (C := 10) s.tx (by omega) fun x hx => u_l (w.xs x hx)
  have h15 := ls_l (e := encW) (C := 400) s.wr (by omega) fun x hx => by
    have hs := s.ws x hx
    have q1 := t_l (s := x.1) (by omega)
    have q2 := b_l x.2.1
    have q3 := t_l (s := x.2.2.1) (by omega)
    unfold encW
    simp only [List.length_append]; omega
  have h16 := ls_l (e := encT) (C := 200) s.ky (by omega) fun x hx => by
    have hs := s.ks x hx
    have q1 := t_l (s := x) (by omega)
    omega
  have h17 := i_l w.ti
  have h18 := t_l (s := c.2.2.2.2.2.2.2.2.2.2.2.2.1.2.1) (by have := s.na; omega)
  have na := s.na
  have h19 := ls_l (e := encCo) (C := 200) s.co (by omega) fun x hx => by
    have hs := s.cs x hx
    have q1 := t_l (s := x.1) (by omega)
    have q2 := i_l (w.tc x hx).2
    have q3 := b_l x.2.2.1
    unfold encCo
    simp only [List.length_append]; omega
  have h20 := i_l w.tk
  have h21 := ls_l (e := encI) (C := 10) s.ix (by omega) fun x hx => i_l (w.tx2 x hx)
  unfold encC encLk encTb
  simp only [List.length_append]
  omega
theorem app_byt {a b : List Int} (h : Byt a) (k : Byt b) : Byt (a ++ b) := fun x hx => (List.mem_append.1 hx).elim (h x) (k x)
theorem t_byt {s : List Int} (h : Byt s) : Byt (encT s) := app_byt (encN_byt _) h
theorem ls_byt {α : Type} {e : α → List Int} {l : List α} (h : ∀ x ∈ l, Byt (e x)) : Byt (encLs e l) := app_byt (encN_byt _) fun x hx => by
  obtain ⟨y, hy, hx⟩ := List.mem_flatMap.1 hx
  exact h y hy x hx
theorem enc_byt {c : CmdD} (w : WfC c) : Byt (encC c) :=
  app_byt (encN_byt _) <| app_byt (encN_byt _) <| app_byt (encN_byt _) <| app_byt (encN_byt _) <| app_byt (encN_byt _) <| app_byt (encN_byt _) <|
  app_byt (app_byt (encN_byt _) <| app_byt (encN_byt _) <| app_byt (encN_byt _) <| app_byt (t_byt w.llo) (t_byt w.lhi)) <| app_byt (t_byt w.lo) <| app_byt (t_byt w.hi) <|
  app_byt (ls_byt fun x _ => encN_byt _) <| app_byt (ls_byt fun x hx => app_byt (t_byt (w.w x hx).1) <| app_byt (encN_byt _) (t_byt (w.w x hx).2)) <| app_byt (ls_byt fun x hx => t_byt (w.k x hx)) <|
  app_byt (encN_byt _) <| app_byt (t_byt w.tn) <| app_byt (ls_byt fun x hx => app_byt (t_byt (w.tc x hx).1) <| app_byt (encN_byt _) (encN_byt _)) <| app_byt (encN_byt _) (ls_byt fun x _ => encN_byt _)
theorem beqL_self (l : List Int) : beqL l l = true := decide_eq_true rfl
theorem same_ok (k : Nat) (hk : 3000 ≤ k) {x : CmdD} (h : OkC x) (hB : (encC x).length ≤ 999000) : ref15_SameCommand (k + 20) x x = some (true, ()) := by
  rw [ref15_SameCommand_eq]
  refine bind_of (put_ref k hk h hB) (bind_of (put_ref k hk h hB) ?_)
  rw [beqL_self]
theorem mc_core (c : CmdD) (b : List Int) (hw : WfC c) (hz : SzC c) (w1 : ∀ x ∈ b, (Lit.int .u8 x).wf = true) : ∃ k, law15_MetaCommands k c b = some (true, ()) := by
  obtain ⟨K, hK⟩ := small_ev (l := [c]) (by simp) (fun x hx => by rw [List.mem_singleton.1 hx]; exact hz)
  refine ⟨K + 3000 + 20, ?_⟩
  have hk : 3000 ≤ K + 3000 := by omega
  have hs := hK (K + 3000 + 20) (by omega)
  generalize K + 3000 = k at hk hs
  rw [law15_MetaCommands_eq, awake15, Option.bind_some]
  show (law15_Small (k + 20) [c]).bind _ = _
  refine bind_of hs ?_
  cases hb : (([c] : List CmdD).all sC && decide (([c] : List CmdD).length ≤ 40)) with
  | false => rfl
  | true =>
    have hsc : sC c = true := by simpa using hb
    have sm := sC_of hsc
    have ok := okC_of hw sm
    have el := enc_l hw sm
    have hB : (encC c).length ≤ 999000 := by omega
    by_cases hl : 1000 < (b.length : Int)
    · show (bif decide (1000 < (b.length : Int)) then _ else _) = _
      rw [bt hl]
    show (bif decide (1000 < (b.length : Int)) then _ else _) = _
    rw [bf hl]
    obtain ⟨z1, e1⟩ := meta_of k hk b w1 (by omega)
    obtain ⟨z2, e2⟩ := ref_of k hk b w1 (by omega)
    obtain ⟨z3, e3⟩ := meta_of k hk (encC c) (enc_byt hw) (by omega)
    rw [dec_enc ok (txC_of sm)] at e3
    obtain ⟨o1, o2⟩ := dec_ok w1 (by omega)
    generalize decC b = q at e1 e2 o1 o2
    refine bind_of e1 (bind_of e2 (bind_of (put_meta (c := c) k hk ok hB) (bind_of e3 (bind_of (put_meta (c := c) k hk ok hB) (bind_of (put_ref (c := c) k hk ok hB) ?_)))))
    show (bif beqL (encC c) (encC c) then bif decide (q.2 = q.2) then _ else _ else _) = _
    rw [beqL_self, cond_true, bt rfl]
    refine bind_of (same_ok (x := q.1) k hk o1 o2) ?_
    show (bif decide ((0 : Int) = 0) then _ else _) = _
    rw [bt rfl]
    exact bind_of (same_ok (x := c) k hk ok hB) rfl
theorem MetaCommands_true (c : ((.st (.pair (.int .u64) (.pair (.int .u64) (.pair (.int .i64) (.pair (.int .u64) (.pair (.int .u64) (.pair .bool (.pair (.st (.pair (.int .u64) (.pair (.int .i64) (.pair (.int .i64) (.pair (.sl (.int .u8)) (.pair (.sl (.int .u8)) .unit)))))) (.pair (.sl (.int .u8)) (.pair (.sl (.int .u8)) (.pair (.sl (.int .u64)) (.pair (.sl (.st (.pair (.sl (.int .u8)) (.pair .bool (.pair (.sl (.int .u8)) .unit))))) (.pair (.sl (.sl (.int .u8))) (.pair (.st (.pair (.int .i64) (.pair .str (.pair (.sl (.st (.pair .str (.pair (.int .i64) (.pair .bool .unit))))) (.pair (.int .i64) (.pair (.sl (.int .i64)) .unit)))))) .unit)))))))))))))) : Ty).D) (b : List Int) (f0 : wfD (.st (.pair (.int .u64) (.pair (.int .u64) (.pair (.int .i64) (.pair (.int .u64) (.pair (.int .u64) (.pair .bool (.pair (.st (.pair (.int .u64) (.pair (.int .i64) (.pair (.int .i64) (.pair (.sl (.int .u8)) (.pair (.sl (.int .u8)) .unit)))))) (.pair (.sl (.int .u8)) (.pair (.sl (.int .u8)) (.pair (.sl (.int .u64)) (.pair (.sl (.st (.pair (.sl (.int .u8)) (.pair .bool (.pair (.sl (.int .u8)) .unit))))) (.pair (.sl (.sl (.int .u8))) (.pair (.st (.pair (.int .i64) (.pair .str (.pair (.sl (.st (.pair .str (.pair (.int .i64) (.pair .bool .unit))))) (.pair (.int .i64) (.pair (.sl (.int .i64)) .unit)))))) .unit)))))))))))))) c) (w1 : ∀ x ∈ b, (Lit.int .u8 x).wf = true) (z0 : szD (.st (.pair (.int .u64) (.pair (.int .u64) (.pair (.int .i64) (.pair (.int .u64) (.pair (.int .u64) (.pair .bool (.pair (.st (.pair (.int .u64) (.pair (.int .i64) (.pair (.int .i64) (.pair (.sl (.int .u8)) (.pair (.sl (.int .u8)) .unit)))))) (.pair (.sl (.int .u8)) (.pair (.sl (.int .u8)) (.pair (.sl (.int .u64)) (.pair (.sl (.st (.pair (.sl (.int .u8)) (.pair .bool (.pair (.sl (.int .u8)) .unit))))) (.pair (.sl (.sl (.int .u8))) (.pair (.st (.pair (.int .i64) (.pair .str (.pair (.sl (.st (.pair .str (.pair (.int .i64) (.pair .bool .unit))))) (.pair (.int .i64) (.pair (.sl (.int .i64)) .unit)))))) .unit)))))))))))))) c) : ∃ k, law15_MetaCommands k c b = some (true, ()) := mc_core c b (wfC_of f0) (szC_of z0 f0) w1
end Go.Proofs.Ytgmeimbamfggkaa.Den
