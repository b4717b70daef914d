import Derived.Test.YtjongebmeoimoaaDRowReads
import Derived.Test.YtjongebmeoimoaaDen34
namespace Go.Proofs.Ytjongebmeoimoaa.Den
open Go Go.RowKit
set_option linter.unusedVariables false
/-! ### Numbers in groups of seven bits -/
def wt : Nat → Nat → List Int
  | 0, _ => []
  | m + 1, n => (((n / 128 ^ (m + 1) % 128 + 128 : Nat)) : Int) :: wt m n
theorem wt_length : ∀ m n, (wt m n).length = m
  | 0, _ => rfl
  | m + 1, n => congrArg (· + 1) (wt_length m n)
def Grp (m n : Nat) : Prop := n / 128 ^ m < 128 ∧ ∀ i, i < m → 128 ≤ n / 128 ^ i
theorem grp_ex : ∀ (m n : Nat), n / 128 ^ m < 128 → ∃ i, i ≤ m ∧ Grp i n
  | 0, n, h => ⟨0, Nat.le_refl _, h, fun i hi => absurd hi (Nat.not_lt_zero _)⟩
  | m + 1, n, h => by
    by_cases c : n / 128 ^ m < 128
    · obtain ⟨i, h1, h2⟩ := grp_ex m n c
      exact ⟨i, by omega, h2⟩
    · refine ⟨m + 1, Nat.le_refl _, h, fun i hi => ?_⟩
      have h1 : 128 ^ i ≤ 128 ^ m := Nat.pow_le_pow_right (by decide) (by omega)
      have h2 : n / 128 ^ m ≤ n / 128 ^ i := Nat.div_le_div_left h1 (Nat.pow_pos (by decide))
      omega
theorem shr7 {u i : Nat} (hi : i ≤ 9) : shrK .u64 (u : Int) ((7 * i : Nat) : Int) = some (((u / 128 ^ i : Nat)) : Int) := by
  have hi : i = 0 ∨ i = 1 ∨ i = 2 ∨ i = 3 ∨ i = 4 ∨ i = 5 ∨ i = 6 ∨ i = 7 ∨ i = 8 ∨ i = 9 := by omega
  rcases hi with rfl | rfl | rfl | rfl | rfl | rfl | rfl | rfl | rfl | rfl <;> rfl
theorem or128 : ∀ y : Fin 256, Go.bits .or .u8 ((y.val : Nat) : Int) 128 = (((y.val % 128 + 128 : Nat)) : Int) := by decide +kernel
theorem not128 : ∀ y : Fin 256, Go.bits .andNot .u8 ((y.val : Nat) : Int) 128 = (((y.val % 128 : Nat)) : Int) := by decide +kernel
theorem or_is (x : Nat) : Go.bits .or .u8 (wr .u8 (x : Int)) 128 = (((x % 128 + 128 : Nat)) : Int) := by
  have := or128 ⟨x % 256, Nat.mod_lt _ (by decide)⟩
  rw [show wr .u8 (x : Int) = ((x % 256 : Nat) : Int) by rw [wrm_u8]; rfl]
  refine this.trans ?_
  show (((x % 256 % 128 + 128 : Nat)) : Int) = _
  omega
theorem not_is (x : Nat) : Go.bits .andNot .u8 (wr .u8 (x : Int)) 128 = (((x % 128 : Nat)) : Int) := by
  have := not128 ⟨x % 256, Nat.mod_lt _ (by decide)⟩
  rw [show wr .u8 (x : Int) = ((x % 256 : Nat) : Int) by rw [wrm_u8]; rfl]
  refine this.trans ?_
  show (((x % 256 % 128 : Nat)) : Int) = _
  omega
theorem w_l1 (k n : Nat) {u m : Nat} (hm : m ≤ 9) (h : Grp m u) (l : List Int) (a j : Int) (out : List Int) : ∀ n1 i, i ≤ m → m - i < n1 →
    row_Writer_N_l1 k n n1 (u : Int) ((7 * i : Nat) : Int) l a j out = row_Writer_N_l2 k n k (u : Int) ((7 * m : Nat) : Int) l a j out
  | 0, _, _, h => absurd h (Nat.not_lt_zero _)
  | n1 + 1, i, hi, hn => by
    rw [row_Writer_N_l1_eq, shr7 (by omega), Option.bind_some]
    by_cases c : i < m
    · have := h.2 i c
      rw [bt (by omega), wr_i64 (by omega)]
      exact w_l1 k n hm h l a j out n1 (i + 1) c (by omega)
    · have : i = m := by omega
      subst this
      have := h.1
      rw [bf (by omega)]
theorem w_l2 (k n : Nat) {u : Nat} (l : List Int) (a j : Int) : ∀ n1 i out, i ≤ 9 → i < n1 → out.length + i ≤ 1000000 →
    row_Writer_N_l2 k n n1 (u : Int) ((7 * i : Nat) : Int) l a j out = row_Writer_N_l0 k n l a (wr .i64 (j + 1)) (out ++ (wt i u ++ [((u % 128 : Nat) : Int)]))
  | 0, _, _, _, h, _ => absurd h (Nat.not_lt_zero _)
  | n1 + 1, 0, out, _, _, ho => by
    rw [row_Writer_N_l2_eq, bf (by simp), lim_ok (by simp; omega), not_is]
    rfl
  | n1 + 1, i + 1, out, hi, hn, ho => by
    rw [row_Writer_N_l2_eq, bt (by omega), shr7 (by omega), Option.bind_some, lim_ok (by simp; omega), or_is, wr_i64 (by omega)]
    have e : ((7 * (i + 1) : Nat) : Int) - 7 = ((7 * i : Nat) : Int) := by omega
    rw [e, w_l2 k n l a j n1 i _ (by omega) (by omega) (by simp; omega), List.append_assoc]
    rfl
theorem w_N (k : Nat) {u m : Nat} (hm : m ≤ 9) (h : Grp m u) (out : List Int) (ho : out.length + 10 ≤ 1000000) :
    row_Writer_N (k + 20) [(u : Int)] out = some ((), ((out ++ (wt m u ++ [((u % 128 : Nat) : Int)]), ()), ())) := by
  have h1 := w_l1 (k + 20) (k + 19) hm h [(u : Int)] 1 0 out (k + 20) 0 (by omega) (by omega)
  have h2 := w_l2 (k + 20) (k + 19) (u := u) [(u : Int)] 1 0 (k + 20) m out hm (by omega) (by omega)
  rw [row_Writer_N_eq]
  show row_Writer_N_l0 (k + 20) (k + 19 + 1) _ 1 _ _ = _
  rw [row_Writer_N_l0_eq, bt (by decide), show nth [(u : Int)] 0 = some (u : Int) from rfl, Option.bind_some]
  refine h1.trans (h2.trans ?_)
  show row_Writer_N_l0 (k + 20) (k + 18 + 1) _ _ _ _ = _
  rw [row_Writer_N_l0_eq, bf (by decide)]
theorem number_bad (k : Nat) : row_number (k + 20) [(128 : Int), (5 : Int)] = some (((0 : Int), ((0 : Int), ())), ()) := by
  rw [row_number_eq]
  show row_number_l0 (k + 20) (k + 19 + 1) _ _ _ _ = _
  rw [row_number_l0_eq]
  rfl
theorem awake03_is (k : Nat) : law03_awake (k + 20) = some (true, ()) := by
  have hg : Grp 1 300 := ⟨by decide, fun i hi => by
    have : i = 0 := by omega
    subst this; decide⟩
  rw [law03_awake_eq, show row_Writer_N (k + 20) [(300 : Int)] [] = _ from w_N k (u := 300) (by omega) hg [] (by simp), Option.bind_some, row_Writer_Bytes_eq, lim_ok (by simp [wt_length]), Option.bind_some, row_Read_eq, lim_ok (by simp), Option.bind_some]
  simp only [row_Reader_ok_eq, row_Reader_N_eq, row_Reader_fail_eq, row_Reader_End_eq, List.nil_append, number_bad, Option.bind_some, Bool.not_true, cond_false]
  decide +kernel
/-! ### Reading -/
def numG : Nat → Nat → List Int → Option (Nat × List Int)
  | _, _, [] => none
  | i, n, x :: r => if i = 10 then none else if i = 0 ∧ x = 128 then none else if 144115188075855872 ≤ n then none
    else if x < 128 then some (n * 128 + x.toNat % 128, r) else numG (i + 1) (n * 128 + x.toNat % 128) r
theorem numG_cons (i n : Nat) (x : Int) (r : List Int) : numG i n (x :: r) = if i = 10 then none else if i = 0 ∧ x = 128 then none else if 144115188075855872 ≤ n then none
    else if x < 128 then some (n * 128 + x.toNat % 128, r) else numG (i + 1) (n * 128 + x.toNat % 128) r := rfl
theorem numG_back : ∀ (f : List Int) (i n m : Nat) (r : List Int), numG i n f = some (m, r) → (∃ p, f = p ++ r ∧ 1 ≤ p.length) ∧ m < 18446744073709551616
  | [], _, _, _, _, h => by simp [numG] at h
  | x :: f, i, n, m, r, h => by
    rw [numG_cons] at h
    split at h
    · cases h
    · split at h
      · cases h
      · split at h
        · cases h
        · split at h
          · injection h with h; injection h with h1 h2
            have := Nat.mod_lt x.toNat (show 0 < 128 by decide)
            exact ⟨⟨[x], by rw [h2]; rfl, by simp⟩, by omega⟩
          · obtain ⟨⟨p, hp, _⟩, h2⟩ := numG_back f _ _ _ _ h
            exact ⟨⟨x :: p, by rw [hp]; rfl, by simp⟩, h2⟩
theorem or_add7 {a x : Nat} (h : x < 128) : (a * 128) ||| x = a * 128 + x := by
  have := Nat.two_pow_add_eq_or_of_lt (i := 7) h a
  rw [Nat.mul_comm a 128]
  exact this.symm
theorem grp_step {n : Nat} {x : Int} (hn : n < 144115188075855872) (hx : 0 ≤ x ∧ x ≤ 255) : Go.bits .or .u64 (wr .u64 ((n : Int) * 128)) (wr .u64 (Go.bits .andNot .u8 x 128)) = ((n * 128 + x.toNat % 128 : Nat) : Int) := by
  obtain ⟨y, rfl⟩ := Int.eq_ofNat_of_zero_le hx.1
  have e0 : Go.bits .andNot .u8 (y : Int) 128 = ((y % 128 : Nat) : Int) := not128 ⟨y, by omega⟩
  have hm := Nat.mod_lt y (show 0 < 128 by decide)
  have e1 : wr .u64 ((n : Int) * 128) = ((n * 128 : Nat) : Int) := by rw [wr_u64 (by omega)]; omega
  rw [e0, e1, wr_u64 (by omega), u64_or_nat _ _ (by omega) (by omega), or_add7 hm, Int.toNat_natCast]
theorem grp_step2 {n : Nat} {x : Int} (hn : n < 144115188075855872) (hx : 0 ≤ x ∧ x ≤ 255) : wr .u64 ((wr .u64 ((n : Int) * 128)) + (wr .u64 (Int.tmod x 128))) = ((n * 128 + x.toNat % 128 : Nat) : Int) := by
  obtain ⟨y, rfl⟩ := Int.eq_ofNat_of_zero_le hx.1
  have e0 : Int.tmod (y : Int) 128 = ((y % 128 : Nat) : Int) := rfl
  have hm := Nat.mod_lt y (show 0 < 128 by decide)
  rw [e0, wr_u64 (n := (n : Int) * 128) (by omega), wr_u64 (n := ((y % 128 : Nat) : Int)) (by omega), wr_u64 (by omega), Int.toNat_natCast]
  omega
theorem dn {α : Type} {l : List α} {t : Nat} {x : α} {r : List α} (h : l.drop t = x :: r) : l[t]? = some x ∧ l.drop (t + 1) = r ∧ t < l.length ∧ l.length - t = r.length + 1 := by
  have hlt : t < l.length := by
    rcases Nat.lt_or_ge t l.length with h1 | h1
    · exact h1
    · rw [List.drop_eq_nil_of_le h1] at h; cases h
  rw [List.drop_eq_getElem_cons hlt] at h
  injection h with h1 h2
  have h3 := congrArg List.length h2
  simp at h3
  exact ⟨by rw [List.getElem?_eq_getElem hlt, h1], h2, hlt, by omega⟩
abbrev Byt (l : List Int) : Prop := ∀ x ∈ l, (Lit.int .u8 x).wf = true
def numT (l : List Int) : Option (Nat × List Int) → (Int × (Int × Unit)) × Unit
  | some p => (((p.1 : Int), (((l.length - p.2.length : Nat) : Int), ())), ())
  | none => (((0 : Int), ((0 : Int), ())), ())
theorem number_l0 (k : Nat) {l : List Int} (hl : l.length ≤ 1000000000) (hw : Byt l) : ∀ n j (acc : Nat), j ≤ 10 → j ≤ l.length → 10 - j < n →
    row_number_l0 k n (acc : Int) l (l.length : Int) (j : Int) = some (numT l (numG j acc (l.drop j)))
  | 0, _, _, _, _, h => absurd h (Nat.not_lt_zero _)
  | n + 1, j, acc, hj, hjl, hn => by
    rw [row_number_l0_eq]
    match hd : l.drop j with
    | [] =>
      have : j = l.length := by have := congrArg List.length hd; simp at this; omega
      rw [bf (by omega)]; rfl
    | x :: r =>
      obtain ⟨h1, h2, h3, h4⟩ := dn hd
      have hx := wf_u8 (hw x (List.mem_of_getElem? h1))
      rw [bt (by omega), nth_get h1, Option.bind_some, numG_cons]
      by_cases c10 : j = 10
      · rw [bt (by omega), if_pos c10]; rfl
      rw [bf (by omega), if_neg c10]
      have rest : (bif !decide ((acc : Int) / 144115188075855872 = 0) then some (((0 : Int), ((0 : Int), ())), ()) else bif decide (x < 128) then some ((Go.bits .or .u64 (wr .u64 ((acc : Int) * 128)) (wr .u64 (Go.bits .andNot .u8 x 128)), ((wr .i64 ((j : Int) + 1)), ())), ()) else row_number_l0 k n (Go.bits .or .u64 (wr .u64 ((acc : Int) * 128)) (wr .u64 (Go.bits .andNot .u8 x 128))) l (l.length : Int) (wr .i64 ((j : Int) + 1))) = some (numT l (if 144115188075855872 ≤ acc then none else if x < 128 then some (acc * 128 + x.toNat % 128, r) else numG (j + 1) (acc * 128 + x.toNat % 128) r)) := by
        by_cases ca : 144115188075855872 ≤ acc
        · rw [bif_true (by simp; omega), if_pos ca]; rfl
        rw [bif_false (by simp; omega), if_neg ca, grp_step (by omega) hx, wr_next h3 (by omega)]
        by_cases cx : x < 128
        · rw [bt cx, if_pos cx]
          show _ = some ((((_ : Nat) : Int), (((l.length - r.length : Nat) : Int), ())), ())
          rw [show l.length - r.length = j + 1 by omega]
        · rw [bf cx, if_neg cx]
          have := number_l0 k hl hw n (j + 1) (acc * 128 + x.toNat % 128) (by omega) (by omega) (by omega)
          rw [h2] at this
          exact this
      by_cases c0 : j = 0
      · rw [bt (by omega)]
        by_cases cx : x = 128
        · rw [bt cx, if_pos ⟨c0, cx⟩]; rfl
        · rw [bf cx, if_neg (by omega)]; exact rest
      · rw [bf (by omega), if_neg (by omega)]; exact rest
theorem number_is (k : Nat) {l : List Int} (hl : l.length ≤ 1000000000) (hw : Byt l) : row_number (k + 20) l = some (numT l (numG 0 0 l)) := by
  rw [row_number_eq]
  exact number_l0 (k + 20) hl hw (k + 20) 0 0 (by omega) (by omega) (by omega)
def rN (most : Int) : Option (List Int) → Int × Option (List Int)
  | none => (0, none)
  | some f => match numG 0 0 f with
    | none => (0, none)
    | some (n, r) => if most < n then (0, none) else ((n : Int), some r)
theorem rN_n {most : Int} {f : List Int} (h : numG 0 0 f = none) : rN most (some f) = (0, none) := by
  show (match numG 0 0 f with | none => (0, none) | some (n, r) => if most < n then (0, none) else ((n : Int), some r)) = _
  rw [h]
theorem rN_s {most : Int} {f r : List Int} {n : Nat} (h : numG 0 0 f = some (n, r)) : rN most (some f) = if most < n then (0, none) else ((n : Int), some r) := by
  show (match numG 0 0 f with | none => (0, none) | some (n, r) => if most < n then (0, none) else ((n : Int), some r)) = _
  rw [h]
def Fine (st : Option (List Int)) : Prop := ∀ f, st = some f → Byt f ∧ f.length ≤ 1000000000
theorem fine_none : Fine none := fun f h => by cases h
theorem rN_fine {most : Int} {st : Option (List Int)} (h : Fine st) : Fine (rN most st).2 ∧ (0 ≤ (rN most st).1 ∧ (rN most st).1 < 18446744073709551616) ∧ (0 ≤ most → (rN most st).1 ≤ most) := by
  cases st with
  | none => exact ⟨h, by simp [rN], fun h => h⟩
  | some f =>
    obtain ⟨h1, h2⟩ := h f rfl
    cases hg : numG 0 0 f with
    | none => rw [rN_n hg]; exact ⟨fine_none, by simp, fun h => h⟩
    | some p =>
      obtain ⟨n, r⟩ := p
      obtain ⟨⟨p, hp, _⟩, hlt⟩ := numG_back f _ _ _ _ hg
      rw [rN_s hg]
      split
      · exact ⟨fine_none, by simp, fun h => h⟩
      · refine ⟨fun g hgg => ?_, by simp; omega, fun _ => by simp; omega⟩
        injection hgg with hgg
        subst hgg
        subst hp
        exact ⟨fun x hx => h1 x (List.mem_append_right _ hx), by simp at h2; omega⟩
abbrev cE (st : Option (List Int)) : (List Int × (Bool × Unit)) × Unit := ((st.getD [], (st.isSome, ())), ())
abbrev rE (st : Option (List Int)) : (List Int × (Bool × Unit)) × Unit := ((st.getD [], (st.isNone, ())), ())
theorem cN (k : Nat) (most : Int) {st : Option (List Int)} (h : Fine st) : row_Reader_N (k + 20) most (st.getD []) st.isSome = some ((rN most st).1, cE (rN most st).2) := by
  rw [row_Reader_N_eq, row_Reader_ok_eq, Option.bind_some]
  cases st with
  | none => rfl
  | some f =>
    obtain ⟨h1, h2⟩ := h f rfl
    simp only [Option.isSome_some, Bool.not_true, cond_false, Option.getD_some, number_is k h2 h1, Option.bind_some]
    cases hg : numG 0 0 f with
    | none => rw [rN_n hg]; rfl
    | some p =>
      obtain ⟨n, r⟩ := p
      obtain ⟨⟨p, hp, h1p⟩, _⟩ := numG_back f _ _ _ _ hg
      have hlen : f.length = p.length + r.length := by rw [hp]; simp
      rw [rN_s hg]
      show (bif decide (((f.length - r.length : Nat) : Int) = 0) then _ else bif decide (most < (n : Int)) then (row_Reader_fail (k + 20) f true).bind _ else (cut f ((f.length - r.length : Nat) : Int) f.length).bind _) = _
      rw [bf (by omega)]
      by_cases c : most < (n : Int)
      · rw [bt c, if_pos c]; rfl
      · rw [bf c, if_neg c, cut_from (by omega), Option.bind_some]
        have : f.drop (f.length - r.length) = r := by rw [show f.length - r.length = p.length by omega, hp]; exact List.drop_left
        rw [this]; rfl
theorem rN_l0 (k : Nat) (most : Int) {l : List Int} (hl : l.length ≤ 1000000000) (hw : Byt l) (b : Bool) : ∀ n j (acc : Nat), j ≤ 10 → j ≤ l.length → 10 - j < n →
    ref01_Reader_N_l0 k n most (acc : Int) (j : Int) l b = some (match numG j acc (l.drop j) with
      | none => ((0 : Int), rE none)
      | some (m, r) => if most < m then ((0 : Int), rE none) else ((m : Int), ((r, (b, ())), ())))
  | 0, _, _, _, _, h => absurd h (Nat.not_lt_zero _)
  | n + 1, j, acc, hj, hjl, hn => by
    rw [ref01_Reader_N_l0_eq]
    simp only [ref01_Reader_fail_eq, Option.bind_some]
    match hd : l.drop j with
    | [] =>
      have : j = l.length := by have := congrArg List.length hd; simp at this; omega
      rw [bf (by omega)]; rfl
    | x :: r =>
      obtain ⟨h1, h2, h3, h4⟩ := dn hd
      have hx := wf_u8 (hw x (List.mem_of_getElem? h1))
      rw [bt (by omega), numG_cons]
      by_cases c10 : j = 10
      · rw [bf (by omega), if_pos c10]; rfl
      rw [bt (by omega), if_neg c10, nth_get h1, Option.bind_some]
      have rest : (bif decide (144115188075855872 ≤ (acc : Int)) then some ((0 : Int), (([], (true, ())), ())) else bif decide (x < 128) then bif decide (most < wr .u64 (wr .u64 ((acc : Int) * 128) + wr .u64 (Int.tmod x 128))) then some ((0 : Int), (([], (true, ())), ())) else (cut l (wr .i64 ((j : Int) + 1)) l.length).bind fun x97 => some (wr .u64 (wr .u64 ((acc : Int) * 128) + wr .u64 (Int.tmod x 128)), ((x97, (b, ())), ())) else ref01_Reader_N_l0 k n most (wr .u64 (wr .u64 ((acc : Int) * 128) + wr .u64 (Int.tmod x 128))) (wr .i64 ((j : Int) + 1)) l b) = some (match (if 144115188075855872 ≤ acc then none else if x < 128 then some (acc * 128 + x.toNat % 128, r) else numG (j + 1) (acc * 128 + x.toNat % 128) r) with
      | none => ((0 : Int), rE none)
      | some (m, r) => if most < m then ((0 : Int), rE none) else ((m : Int), ((r, (b, ())), ()))) := by
        by_cases ca : 144115188075855872 ≤ acc
        · rw [bt (by omega), if_pos ca]; rfl
        rw [bf (by omega), if_neg ca, grp_step2 (by omega) hx, wr_next h3 (by omega)]
        by_cases cx : x < 128
        · rw [bt cx, if_pos cx]
          simp only
          by_cases cm : most < ((acc * 128 + x.toNat % 128 : Nat) : Int)
          · rw [bt cm, if_pos cm]; rfl
          · rw [bf cm, if_neg cm, cut_from (by omega), Option.bind_some, h2]
        · rw [bf cx, if_neg cx]
          have := rN_l0 k most hl hw b n (j + 1) (acc * 128 + x.toNat % 128) (by omega) (by omega) (by omega)
          rw [h2] at this
          exact this
      by_cases c0 : j = 0
      · rw [bt (by omega)]
        by_cases cx : x = 128
        · rw [bt cx, if_pos ⟨c0, cx⟩]; rfl
        · rw [bf cx, if_neg (by omega)]; exact rest
      · rw [bf (by omega), if_neg (by omega)]; exact rest
theorem fN (k : Nat) (most : Int) {st : Option (List Int)} (h : Fine st) : ref01_Reader_N (k + 20) most (st.getD []) st.isNone = some ((rN most st).1, rE (rN most st).2) := by
  rw [ref01_Reader_N_eq]
  have hf : Byt (st.getD []) ∧ (st.getD []).length ≤ 1000000000 := by
    cases st with
    | none => exact ⟨fun x (hx : x ∈ ([] : List Int)) => (nomatch hx), Nat.zero_le _⟩
    | some f => exact h f rfl
  refine (rN_l0 (k + 20) most hf.2 hf.1 st.isNone (k + 20) 0 0 (by omega) (by omega) (by omega)).trans ?_
  cases st with
  | none => rfl
  | some f =>
    show some (match numG 0 0 f with
      | none => ((0 : Int), rE none)
      | some (m, r) => if most < m then ((0 : Int), rE none) else ((m : Int), ((r, (false, ())), ()))) = _
    cases hg : numG 0 0 f with
    | none => rw [rN_n hg]
    | some p =>
      obtain ⟨n, r⟩ := p
      rw [rN_s hg]
      simp only
      split <;> rfl
def zagF (u : Int) : Int := if u % 2 = 0 then u / 2 else -1 - u / 2
theorem zag_is (k : Nat) {u : Int} (h : 0 ≤ u ∧ u < 18446744073709551616) : num_Zag k u = some (zagF u, ()) := by
  rw [num_Zag_eq]
  unfold wr zagF
  rw [← zag_eq h]
  simp only [wrap_i64, Int.zero_sub]
def rI (st : Option (List Int)) : Int × Option (List Int) := (zagF (rN 18446744073709551615 st).1, (rN 18446744073709551615 st).2)
theorem cI (k : Nat) {st : Option (List Int)} (h : Fine st) : row_Reader_I (k + 20) (st.getD []) st.isSome = some ((rI st).1, cE (rI st).2) := by
  rw [row_Reader_I_eq, cN k _ h, Option.bind_some, zag_is _ (rN_fine h).2.1]; rfl
theorem fI (k : Nat) {st : Option (List Int)} (h : Fine st) : ref01_Reader_I (k + 20) (st.getD []) st.isNone = some ((rI st).1, rE (rI st).2) := by
  rw [ref01_Reader_I_eq, fN k _ h, Option.bind_some]
  have hb := (rN_fine (most := 18446744073709551615) h).2.1
  unfold rI zagF
  generalize rN 18446744073709551615 st = q at *
  obtain ⟨u, st'⟩ := q
  obtain ⟨v, rfl⟩ := Int.eq_ofNat_of_zero_le hb.1
  have e1 : Int.tmod (v : Int) 2 = ((v % 2 : Nat) : Int) := rfl
  have e2 : Int.tdiv (v : Int) 2 = ((v / 2 : Nat) : Int) := rfl
  have hb : 0 ≤ (v : Int) ∧ (v : Int) < 18446744073709551616 := hb
  show (bif decide (Int.tmod (v : Int) 2 = 1) then some (wr .i64 (wr .i64 (0 - wr .i64 (wr .u64 (Int.tdiv (v : Int) 2))) - 1), rE st') else some (wr .i64 (wr .u64 (Int.tdiv (v : Int) 2)), rE st')) = _
  rw [e1, e2, wr_u64 (n := ((v / 2 : Nat) : Int)) (by omega), wr_i64 (n := ((v / 2 : Nat) : Int)) (by omega)]
  by_cases c : (v : Int) % 2 = 0
  · rw [bf (by omega), if_pos c]
    congr 2
  · rw [bt (by omega), if_neg c, wr_i64 (n := 0 - ((v / 2 : Nat) : Int)) (by omega), wr_i64 (by omega)]
    congr 2
    omega
def rT (most : Int) (st : Option (List Int)) : List Int × Option (List Int) :=
  if most < 0 then ([], none) else match (rN most st).2 with
    | none => ([], none)
    | some r => if (r.length : Int) < (rN most st).1 then ([], none) else (r.take (rN most st).1.toNat, some (r.drop (rN most st).1.toNat))
theorem rT_fine {most : Int} {st : Option (List Int)} (h : Fine st) : Fine (rT most st).2 := by
  have h2 := (rN_fine (most := most) h).1
  unfold rT
  split
  · intro f h; cases h
  · cases hr : (rN most st).2 with
    | none => intro f h; cases h
    | some r =>
      simp only
      split
      · intro f h; cases h
      · intro f hf
        injection hf with hf
        subst hf
        obtain ⟨g1, g2⟩ := h2 r hr
        exact ⟨fun x hx => g1 x (List.mem_of_mem_drop hx), by simp; omega⟩
theorem cT (k : Nat) {most : Int} (hm : most < 9223372036854775808) {st : Option (List Int)} (h : Fine st) : row_Reader_Text (k + 20) most (st.getD []) st.isSome = some ((rT most st).1, cE (rT most st).2) := by
  rw [row_Reader_Text_eq]
  unfold rT
  simp only [row_Reader_fail_eq, row_Reader_ok_eq, Option.bind_some]
  by_cases c : most < 0
  · rw [bt c, if_pos c]; rfl
  rw [bf c, if_neg c, wr_u64 (by omega), cN k _ h, Option.bind_some]
  have hb := (rN_fine (most := most) h)
  generalize rN most st = q at *
  obtain ⟨u, st'⟩ := q
  cases st' with
  | none => rfl
  | some r =>
    obtain ⟨v, rfl⟩ := Int.eq_ofNat_of_zero_le hb.2.1.1
    have hr := (hb.1 r rfl).2
    show (bif !true then _ else bif decide (wr .u64 (r.length : Int) < (v : Int)) then some ([], (([], (false, ())), ())) else (cut r 0 (v : Int)).bind fun x280 => lim (0 + x280.length) ((cut r (v : Int) r.length).bind fun x281 => some (([] ++ x280), ((x281, (true, ())), ())))) = some ((if (r.length : Int) < (v : Int) then ([], none) else (r.take v, some (r.drop v)) : List Int × Option (List Int)).1, cE (if (r.length : Int) < (v : Int) then ([], none) else (r.take v, some (r.drop v)) : List Int × Option (List Int)).2)
    rw [Bool.not_true, cond_false, wr_u64 (by omega)]
    by_cases d : (r.length : Int) < (v : Int)
    · rw [bt d, if_pos d]; rfl
    · rw [bf d, if_neg d, cut_all (by omega), Option.bind_some, lim_ok (by simp; omega), cut_from (by omega), Option.bind_some]; rfl
theorem fT (k : Nat) {most : Int} (hm : most < 9223372036854775808) {st : Option (List Int)} (h : Fine st) : ref01_Reader_Text (k + 20) most (st.getD []) st.isNone = some ((rT most st).1, rE (rT most st).2) := by
  rw [ref01_Reader_Text_eq]
  unfold rT
  simp only [ref01_Reader_fail_eq, Option.bind_some]
  by_cases c : most < 0
  · rw [bt c, if_pos c]; rfl
  rw [bf c, if_neg c, wr_u64 (by omega), fN k _ h, Option.bind_some]
  have hb := (rN_fine (most := most) h)
  generalize rN most st = q at *
  obtain ⟨u, st'⟩ := q
  cases st' with
  | none => rfl
  | some r =>
    obtain ⟨v, rfl⟩ := Int.eq_ofNat_of_zero_le hb.2.1.1
    have hr := (hb.1 r rfl).2
    show (bif decide (wr .u64 (r.length : Int) < (v : Int)) then some ([], (([], (true, ())), ())) else (cut r 0 (v : Int)).bind fun x280 => (cut r (v : Int) r.length).bind fun x281 => some (x280, ((x281, (false, ())), ()))) = some ((if (r.length : Int) < (v : Int) then ([], none) else (r.take v, some (r.drop v)) : List Int × Option (List Int)).1, rE (if (r.length : Int) < (v : Int) then ([], none) else (r.take v, some (r.drop v)) : List Int × Option (List Int)).2)
    rw [wr_u64 (by omega)]
    by_cases d : (r.length : Int) < (v : Int)
    · rw [bt d, if_pos d]; rfl
    · rw [bf d, if_neg d, cut_all (by omega), Option.bind_some, cut_from (by omega), Option.bind_some]; rfl
abbrev ValT := Int × (Int × ((List Int) × Unit))
def vOf (kd : Int) (n : Int) (s : List Int) : Option (List Int) → ValT × Option (List Int)
  | none => ((0, (0, ([], ()))), none)
  | some f => ((kd, (n, (s, ()))), some f)
def rV (st : Option (List Int)) : ValT × Option (List Int) :=
  if (rN 2 st).1 = 1 then vOf 1 (rI (rN 2 st).2).1 [] (rI (rN 2 st).2).2
  else if (rN 2 st).1 = 2 then vOf 2 0 (rT 1000 (rN 2 st).2).1 (rT 1000 (rN 2 st).2).2
  else vOf (rN 2 st).1 0 [] (rN 2 st).2
theorem vOf_fine {kd n : Int} {s : List Int} {st : Option (List Int)} (h : Fine st) : Fine (vOf kd n s st).2 := by cases st <;> exact h
theorem rV_fine {st : Option (List Int)} (h : Fine st) : Fine (rV st).2 := by
  have h2 := (rN_fine (most := 2) h).1
  unfold rV
  split
  · exact vOf_fine (rN_fine h2).1
  · split
    · exact vOf_fine (rT_fine h2)
    · exact vOf_fine h2
theorem cV_j0 (k : Nat) (a b : Int) (c : List Int) (kd n : Int) (s : List Int) (st : Option (List Int)) : row_Reader_Value_j0 (k + 1) (st.getD []) st.isSome a b c kd n s = some ((vOf kd n s st).1, ((cE (vOf kd n s st).2).1, ((vOf kd n s st).1, ()))) := by
  rw [row_Reader_Value_j0_eq, row_Reader_ok_eq]
  cases st <;> rfl
theorem cV (k : Nat) {st : Option (List Int)} (h : Fine st) : row_Reader_Value (k + 20) (st.getD []) st.isSome = some ((rV st).1, ((cE (rV st).2).1, ((rV st).1, ()))) := by
  rw [row_Reader_Value_eq, cN k _ h, Option.bind_some]
  have hb := rN_fine (most := 2) h
  unfold rV
  generalize rN 2 st = q at *
  obtain ⟨u, st'⟩ := q
  have hu := hb.2.2 (by omega)
  have hu0 := hb.2.1.1
  have hu : u ≤ 2 := hu
  have hu0 : 0 ≤ u := hu0
  simp only
  rw [wr_i64 (by omega)]
  by_cases c1 : u = 1
  · rw [bt c1, if_pos c1, cI k hb.1, Option.bind_some]
    subst c1
    exact cV_j0 (k + 19) _ _ _ _ _ _ _
  rw [bf c1, if_neg c1]
  by_cases c2 : u = 2
  · rw [bt c2, if_pos c2, cT k (by omega) hb.1, Option.bind_some]
    subst c2
    show row_Reader_Value_j1 (k + 19 + 1) _ _ _ _ _ _ _ _ = _
    rw [row_Reader_Value_j1_eq]
    exact cV_j0 (k + 19) _ _ _ _ _ _ _
  · rw [bf c2, if_neg c2]
    show row_Reader_Value_j1 (k + 19 + 1) _ _ _ _ _ _ _ _ = _
    rw [row_Reader_Value_j1_eq]
    exact cV_j0 (k + 19) _ _ _ _ _ _ _
theorem fV_j0 (k : Nat) (a b : Int) (c : List Int) (kd n : Int) (s : List Int) (st : Option (List Int)) : ref01_Reader_Val_j0 (k + 1) (st.getD []) st.isNone a b c kd n s = some ((vOf kd n s st).1, ((rE (vOf kd n s st).2).1, ((vOf kd n s st).1, ()))) := by
  rw [ref01_Reader_Val_j0_eq]
  cases st <;> rfl
theorem fV (k : Nat) {st : Option (List Int)} (h : Fine st) : ref01_Reader_Val (k + 20) (st.getD []) st.isNone = some ((rV st).1, ((rE (rV st).2).1, ((rV st).1, ()))) := by
  rw [ref01_Reader_Val_eq, fN k _ h, Option.bind_some]
  have hb := rN_fine (most := 2) h
  unfold rV
  generalize rN 2 st = q at *
  obtain ⟨u, st'⟩ := q
  have hu := hb.2.2 (by omega)
  have hu0 := hb.2.1.1
  have hu : u ≤ 2 := hu
  have hu0 : 0 ≤ u := hu0
  simp only
  rw [wr_i64 (by omega)]
  by_cases c1 : u = 1
  · rw [bt c1, if_pos c1, fI k hb.1, Option.bind_some]
    subst c1
    exact fV_j0 (k + 19) _ _ _ _ _ _ _
  rw [bf c1, if_neg c1]
  by_cases c2 : u = 2
  · rw [bt c2, if_pos c2, fT k (by omega) hb.1, Option.bind_some]
    subst c2
    show ref01_Reader_Val_j1 (k + 19 + 1) _ _ _ _ _ _ _ _ = _
    rw [ref01_Reader_Val_j1_eq]
    exact fV_j0 (k + 19) _ _ _ _ _ _ _
  · rw [bf c2, if_neg c2]
    show ref01_Reader_Val_j1 (k + 19 + 1) _ _ _ _ _ _ _ _ = _
    rw [ref01_Reader_Val_j1_eq]
    exact fV_j0 (k + 19) _ _ _ _ _ _ _
abbrev StepT := Int × (Int × ((List Int) × ((Int × (Int × ((List Int) × Unit))) × (Int × Unit))))
def few3B (l : List StepT) (r : List StepT) : Bool := r.all (fun x => decide (x.2.2.1.length ≤ 200) && decide (x.2.2.2.1.2.2.1.length ≤ 200)) && decide (l.length ≤ 20)
theorem few3_l0 (k : Nat) {l : List StepT} (hm : l.length ≤ 9223372036854775807) : ∀ n j, j ≤ l.length → l.length - j < n → law03_few_l0 k n l l (l.length : Int) (j : Int) = some (few3B l (l.drop j), ())
  | 0, _, _, h => absurd h (Nat.not_lt_zero _)
  | n + 1, j, hj, hn => by
    rw [law03_few_l0_eq]
    by_cases c : j < l.length
    · have hx := List.getElem?_eq_getElem c
      rw [bt (by omega), nth_get hx, Option.bind_some, List.drop_eq_getElem_cons c]
      by_cases c1 : 200 < (l[j].2.2.1.length : Int)
      · rw [bt c1, show few3B l (l[j] :: l.drop (j + 1)) = false from by unfold few3B; rw [List.all_cons, dF (by omega)]; rfl]
      by_cases c2 : 200 < (l[j].2.2.2.1.2.2.1.length : Int)
      · rw [bf c1, bt c2, show few3B l (l[j] :: l.drop (j + 1)) = false from by unfold few3B; rw [List.all_cons, dF (p := l[j].2.2.2.1.2.2.1.length ≤ 200) (by omega), Bool.and_false]; rfl]
      rw [bf c1, bf c2, wr_i64 (by omega)]
      refine (few3_l0 k hm n (j + 1) c (by omega)).trans ?_
      rw [show few3B l (l[j] :: l.drop (j + 1)) = few3B l (l.drop (j + 1)) from by unfold few3B; rw [List.all_cons, dT (by omega), dT (by omega)]; rfl]
    · have : j = l.length := by omega
      subst this
      rw [bf (by omega), List.drop_length]
      have : decide ((l.length : Int) ≤ 20) = decide (l.length ≤ 20) := by
        by_cases h : l.length ≤ 20
        · rw [dT h, dT (by omega)]
        · rw [dF h, dF (by omega)]
      rw [this]; rfl
theorem few3_ev {l : List StepT} (h : wfD (.sl (.st (.pair (.int .i64) (.pair (.int .u64) (.pair (.sl (.int .u8)) (.pair (.st (.pair (.int .i64) (.pair (.int .i64) (.pair .str .unit)))) (.pair (.int .i64) .unit))))))) l) : Ev (fun k => law03_few k l) (few3B l l, ()) := by
  obtain ⟨hlen, hall⟩ := h
  have hlen : l.length ≤ maxLen := hlen
  have hmax : maxLen ≤ 9223372036854775807 := by decide
  refine ⟨l.length + 1, fun k hk => ?_⟩
  show law03_few k l = _
  rw [law03_few_eq]
  exact few3_l0 k (by omega) k 0 (by omega) (by omega)
theorem few3_of {l : List StepT} (h : wfD (.sl (.st (.pair (.int .i64) (.pair (.int .u64) (.pair (.sl (.int .u8)) (.pair (.st (.pair (.int .i64) (.pair (.int .i64) (.pair .str .unit)))) (.pair (.int .i64) .unit))))))) l) (hb : few3B l l = true) : l.length ≤ 20 ∧ ∀ x ∈ l, ((0 ≤ x.2.1 ∧ x.2.1 < 18446744073709551616) ∧ x.2.2.1.length ≤ 200 ∧ (-9223372036854775808 ≤ x.2.2.2.1.2.1 ∧ x.2.2.2.1.2.1 ≤ 9223372036854775807) ∧ x.2.2.2.1.2.2.1.length ≤ 200) ∧ Byt x.2.2.1 ∧ (Byt x.2.2.2.1.2.2.1) ∧ x.2.2.2.2.1 < 9223372036854775808 := by
  obtain ⟨hlen, hall⟩ := h
  unfold few3B at hb
  simp only [Bool.and_eq_true, List.all_eq_true, decide_eq_true_eq] at hb
  refine ⟨hb.2, fun x hx => ?_⟩
  obtain ⟨_, h1, ⟨_, h3⟩, ⟨_, h2, ⟨_, h4⟩, _⟩, h5, _⟩ := hall x hx
  have h1 := wf_u64 h1
  have h5 := wf_i64 h5
  have := hb.1 x hx
  exact ⟨⟨⟨h1.1, by omega⟩, this.1, wf_i64 h2, this.2⟩, h3, h4, by omega⟩
theorem reads_l0 (k : Nat) {l : List StepT} (hl : l.length ≤ 1000000) (hm : ∀ x ∈ l, x.2.2.2.2.1 < 9223372036854775808) : ∀ n j st, Fine st → j ≤ l.length → l.length - j < n →
    law03_RowReads_l0 (k + 20) n l (l.length : Int) (j : Int) (st.getD []) st.isSome (st.getD []) st.isNone = some (true, ())
  | 0, _, _, _, _, h => absurd h (Nat.not_lt_zero _)
  | n + 1, j, st, hf, hj, hn => by
    rw [law03_RowReads_l0_eq]
    by_cases c : j < l.length
    · rw [bt (by omega), nth_get (List.getElem?_eq_getElem c), Option.bind_some]
      have hx := hm _ (List.getElem_mem c)
      generalize l[j] = x at hx
      have next : ∀ st', Fine st' → law03_RowReads_j0 (k + 20) n l (l.length : Int) (j : Int) (st'.getD []) st'.isSome (st'.getD []) st'.isNone = some (true, ()) := by
        intro st' hf'
        show law03_RowReads_j0 (k + 19 + 1) _ _ _ _ _ _ _ _ = _
        rw [law03_RowReads_j0_eq, row_Reader_Left_eq, row_Reader_ok_eq, wr_next c (by omega)]
        have := reads_l0 k hl hm n (j + 1) st' hf' c (by omega)
        cases st' with
        | none => exact this
        | some f =>
          show (bif !decide ((f.length : Int) = (f.length : Int)) then _ else _) = _
          rw [dT rfl]
          exact this
      have next1 : ∀ st', Fine st' → law03_RowReads_j1 (k + 20) n l (l.length : Int) (j : Int) (st'.getD []) st'.isSome (st'.getD []) st'.isNone = some (true, ()) := by
        intro st' hf'
        show law03_RowReads_j1 (k + 19 + 1) _ _ _ _ _ _ _ _ = _
        rw [law03_RowReads_j1_eq]; exact next st' hf'
      have next2 : ∀ st', Fine st' → law03_RowReads_j2 (k + 20) n l (l.length : Int) (j : Int) (st'.getD []) st'.isSome (st'.getD []) st'.isNone = some (true, ()) := by
        intro st' hf'
        show law03_RowReads_j2 (k + 19 + 1) _ _ _ _ _ _ _ _ = _
        rw [law03_RowReads_j2_eq]; exact next1 st' hf'
      by_cases c0 : x.1 = 0
      · rw [bt c0, cN k _ hf, Option.bind_some, fN k _ hf, Option.bind_some]
        simp only [dT, Bool.not_true, cond_false]
        exact next _ (rN_fine hf).1
      rw [bf c0]
      by_cases c1 : x.1 = 1
      · rw [bt c1, cI k hf, Option.bind_some, fI k hf, Option.bind_some]
        simp only [dT, Bool.not_true, cond_false]
        exact next1 _ (rN_fine hf).1
      rw [bf c1]
      by_cases c2 : x.1 = 2
      · rw [bt c2, cT k hx hf, Option.bind_some, fT k hx hf, Option.bind_some]
        simp only [show ∀ x, beqL x x = true from fun x => dT rfl, Bool.not_true, cond_false]
        exact next2 _ (rT_fine hf)
      · rw [bf c2, cV k hf, Option.bind_some, fV k hf, Option.bind_some]
        rw [bif_false (by simp [Ty.decEq, beqI, beqL]; exact ⟨rfl, rfl⟩)]
        exact next2 _ (rV_fine hf)
    · have : j = l.length := by omega
      subst this
      rw [bf (by omega), row_Reader_End_eq, ref01_Reader_End_eq, row_Reader_ok_eq]
      cases st with
      | none => rfl
      | some f =>
        cases f with
        | nil => rfl
        | cons x r =>
          simp only [Option.bind_some, Option.isSome_some, Option.isNone_some, Option.getD_some, Bool.not_true, cond_false, show decide (0 < ((x :: r).length : Int)) = true from dT (by simp; try omega), cond_true, dT]
theorem RowReads_true (b : List Int) (l : List StepT) (hb : Byt b) (h : wfD (.sl (.st (.pair (.int .i64) (.pair (.int .u64) (.pair (.sl (.int .u8)) (.pair (.st (.pair (.int .i64) (.pair (.int .i64) (.pair .str .unit)))) (.pair (.int .i64) .unit))))))) l) : ∃ k, law03_RowReads k b l = some (true, ()) := by
  refine Ev.ex (F := fun k => law03_RowReads k b l) ?_
  simp only [law03_RowReads_eq]
  refine .bind (.from 20 awake03_is) ?_
  simp only [Bool.not_true, cond_false]
  refine .bind (few3_ev h) ?_
  cases hb' : few3B l l with
  | false => exact .ret
  | true =>
    obtain ⟨l1, l2⟩ := few3_of h hb'
    simp only [Bool.not_true, cond_false]
    by_cases c : 500 < (b.length : Int)
    · simp only [bt c]; exact .ret
    simp only [bf c]
    refine .from (F := fun k => (row_Read k b).bind _) 50 fun k => ?_
    show (row_Read (k + 50) b).bind _ = _
    rw [row_Read_eq, lim_ok (by omega), Option.bind_some]
    exact reads_l0 (k + 30) (by omega) (fun x hx => (l2 x hx).2.2.2) (k + 50) 0 (some b) (fun f h => by injection h with h; subst h; exact ⟨hb, by omega⟩) (by omega) (by omega)
end Go.Proofs.Ytjongebmeoimoaa.Den
