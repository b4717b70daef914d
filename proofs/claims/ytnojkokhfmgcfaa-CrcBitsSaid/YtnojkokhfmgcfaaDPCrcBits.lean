import Derived.Test.YtnojkokhfmgcfaaDCrcBits
import Derived.Test.YtnojkokhfmgcfaaDen31
namespace Go.Proofs.Ytnojkokhfmgcfaa.Den
open Go Go.RowKit
set_option linter.unusedVariables false
/-! ### Sums -/
def tnN (x : Nat) : Nat := (x / 2) ^^^ (if x % 2 = 1 then 2197175160 else 0)
theorem tnN_lt {x : Nat} (h : x < 4294967296) : tnN x < 4294967296 := by
  unfold tnN; exact xorlt32 (by omega) (by split <;> omega)
theorem tnN_xor (x y : Nat) : tnN (x ^^^ y) = tnN x ^^^ tnN y := by
  have h1 := Nat.xor_mod_two_pow (a := x) (b := y) (n := 1)
  have h2 := Nat.xor_div_two_pow (a := x) (b := y) (n := 1)
  simp only [Nat.pow_one] at h1 h2
  unfold tnN
  rw [h1, h2]
  have e : (if (x % 2 ^^^ y % 2) = 1 then 2197175160 else 0) = (if x % 2 = 1 then 2197175160 else 0) ^^^ (if y % 2 = 1 then 2197175160 else 0) := by
    rcases Nat.mod_two_eq_zero_or_one x with a | a <;> rcases Nat.mod_two_eq_zero_or_one y with b | b <;> rw [a, b] <;> decide
  rw [e]
  ac_rfl
def tn8 (x : Nat) : Nat := Nat.repeat tnN 8 x
theorem rep_lt {x : Nat} (h : x < 4294967296) : ∀ n, Nat.repeat tnN n x < 4294967296
  | 0 => h
  | n + 1 => tnN_lt (rep_lt h n)
theorem rep_xor (x y : Nat) : ∀ n, Nat.repeat tnN n (x ^^^ y) = Nat.repeat tnN n x ^^^ Nat.repeat tnN n y
  | 0 => rfl
  | n + 1 => by show tnN _ = tnN _ ^^^ tnN _; rw [rep_xor x y n, tnN_xor]
theorem tn8_lt {x : Nat} (h : x < 4294967296) : tn8 x < 4294967296 := rep_lt h 8
theorem tn8_xor (x y : Nat) : tn8 (x ^^^ y) = tn8 x ^^^ tn8 y := rep_xor x y 8
/-- A sum and a byte more. -/
def stp (c : Nat) (x : Int) : Nat := tn8 (c ^^^ x.toNat)
theorem stp_lt {c : Nat} {x : Int} (h : c < 4294967296) (hx : (Lit.int .u8 x).wf = true) : stp c x < 4294967296 := by
  have := wf_u8 hx
  exact tn8_lt (xorlt32 h (by omega))

theorem turn_one {x : Nat} (h : x < 4294967296) : Go.bits .xor .u32 ((x : Int) / 2) (Go.bits .and .u32 2197175160 (wr .u32 (0 - (Go.bits .and .u32 (x : Int) 1)))) = ((tnN x : Nat) : Int) := by
  have e := and32 h (b := 1) (by omega)
  rw [Nat.and_one_is_mod] at e
  have e : Go.bits .and .u32 (x : Int) 1 = ((x % 2 : Nat) : Int) := e
  have e2 : ((x : Int) / 2) = ((x / 2 : Nat) : Int) := by omega
  rw [e, e2]
  unfold tnN
  rcases Nat.mod_two_eq_zero_or_one x with a | a
  · rw [a, show Go.bits .and .u32 2197175160 (wr .u32 (0 - ((0 : Nat) : Int))) = ((0 : Nat) : Int) by decide +kernel, xor32 (by omega) (by omega)]; rfl
  · rw [a, show Go.bits .and .u32 2197175160 (wr .u32 (0 - ((1 : Nat) : Int))) = ((2197175160 : Nat) : Int) by decide +kernel, xor32 (by omega) (by omega)]; rfl

theorem crc_turn_is (k : Nat) {x : Nat} (h : x < 4294967296) : crc_turn (k + 10) (x : Int) = some (((tn8 x : Nat) : Int), ()) := by
  rw [crc_turn_eq]
  have := countLoop 8 (fun n (s : Nat) j => crc_turn_l0 (k + 10) n (s : Int) j) tnN (fun s => some ((s : Int), ())) (fun s => s < 4294967296) (fun s => tnN_lt)
    (fun n s j hs hj => by
      show crc_turn_l0 (k + 10) (n + 1) _ _ = crc_turn_l0 (k + 10) n _ _
      rw [crc_turn_l0_eq, bif_true (by simp; omega), turn_one hs, wr_i64 (by omega)]; rfl)
    (fun n s hs => by
      show crc_turn_l0 (k + 10) (n + 1) _ _ = _
      rw [crc_turn_l0_eq, bif_false (by decide)])
    (k + 10) x 0 h (by omega) (by omega)
  exact this
theorem mix {c : Nat} {x : Int} (h : c < 4294967296) (hx : (Lit.int .u8 x).wf = true) : Go.bits .xor .u32 (c : Int) (wr .u32 x) = ((c ^^^ x.toNat : Nat) : Int) := by
  have := wf_u8 hx
  rw [wr_u32 (by omega)]
  have e : x = ((x.toNat : Nat) : Int) := by omega
  conv => lhs; rw [e]
  exact xor32 h (by omega)
theorem crc_Step_is (k : Nat) {c : Nat} {x : Int} (h : c < 4294967296) (hx : (Lit.int .u8 x).wf = true) : crc_Step (k + 10) (c : Int) x = some (((stp c x : Nat) : Int), ()) := by
  have := wf_u8 hx
  rw [crc_Step_eq, mix h hx, crc_turn_is k (xorlt32 h (by omega))]; rfl
theorem crc_More_is (k : Nat) {c : Nat} {l : List Int} (h : c < 4294967296) (hl : ∀ x ∈ l, (Lit.int .u8 x).wf = true) (hn : l.length < k + 10) (hm : l.length ≤ 4611686018427387904) :
    crc_More (k + 10) (c : Int) l = some (((l.foldl stp c : Nat) : Int), ()) := by
  rw [crc_More_eq]
  have := foldLoop l (fun n (s : Nat) j => crc_More_l0 (k + 10) n (s : Int) l (l.length : Int) j) stp (fun s => some ((s : Int), ())) (fun s => s < 4294967296) (fun s x hs hx => stp_lt hs (hl x hx))
    (fun n s j x hs hx => by
      show crc_More_l0 (k + 10) (n + 1) _ _ _ _ = crc_More_l0 (k + 10) n _ _ _ _
      have hj : j < l.length := (List.getElem?_eq_some_iff.1 hx).1
      rw [crc_More_l0_eq, bif_true (by simp; omega), nth_get hx, Option.bind_some, crc_Step_is k hs (hl x (List.mem_of_getElem? hx)), Option.bind_some, wr_next hj hm])
    (fun n s hs => by
      show crc_More_l0 (k + 10) (n + 1) _ _ _ _ = _
      rw [crc_More_l0_eq, bif_false (by simp)])
    (k + 10) c 0 h (by omega) (by omega)
  rw [List.drop_zero] at this
  exact this
theorem fold_lt {l : List Int} (hl : ∀ x ∈ l, (Lit.int .u8 x).wf = true) {c : Nat} (h : c < 4294967296) : l.foldl stp c < 4294967296 := by
  induction l generalizing c with
  | nil => exact h
  | cons x l ih => exact ih (fun y hy => hl y (List.mem_cons_of_mem _ hy)) (stp_lt h (hl x (List.mem_cons_self)))
theorem ones32 {n : Nat} (h : n < 4294967296) : Go.bits .xor .u32 4294967295 (n : Int) = ((4294967295 ^^^ n : Nat) : Int) := xor32 (a := 4294967295) (by omega) h
theorem crc_Sum_is (k : Nat) {l : List Int} (hl : ∀ x ∈ l, (Lit.int .u8 x).wf = true) (hn : l.length < k + 10) (hm : l.length ≤ 4611686018427387904) :
    crc_Sum (k + 10) l = some (((4294967295 ^^^ l.foldl stp 4294967295 : Nat) : Int), ()) := by
  rw [crc_Sum_eq, show crc_More (k + 10) (4294967295 : Int) l = _ from crc_More_is k (c := 4294967295) (by omega) hl hn hm, Option.bind_some, ones32 (fold_lt hl (by omega))]
theorem awake04_is (k : Nat) : law04_awake (k + 10) = some (true, ()) := by
  rw [law04_awake_eq, crc_Sum_is k (by decide) (by simp) (by simp)]
  decide +kernel
theorem xor_zero_eq {x y : Nat} (h : x ^^^ y = 0) : x = y := by
  have := congrArg (x ^^^ ·) h
  simp [← Nat.xor_assoc] at this
  exact this.symm
theorem tnN_zero {x : Nat} (h : x < 4294967296) (e : tnN x = 0) : x = 0 := by
  unfold tnN at e
  have e := xor_zero_eq e
  split at e <;> omega
theorem rep_zero {x : Nat} (h : x < 4294967296) : ∀ n, Nat.repeat tnN n x = 0 → x = 0
  | 0, e => e
  | n + 1, e => rep_zero h n (tnN_zero (rep_lt h n) e)
theorem tn8_inj {x y : Nat} (hx : x < 4294967296) (hy : y < 4294967296) (e : tn8 x = tn8 y) : x = y := by
  have h : tn8 (x ^^^ y) = 0 := by rw [tn8_xor, e, Nat.xor_self]
  exact xor_zero_eq (rep_zero (xorlt32 hx hy) 8 h)
theorem xor_left_inj {c x y : Nat} (e : c ^^^ x = c ^^^ y) : x = y := by
  have := congrArg (c ^^^ ·) e
  simpa [← Nat.xor_assoc] using this
theorem stp_inj {c d : Nat} {x : Int} (hc : c < 4294967296) (hd : d < 4294967296) (hx : (Lit.int .u8 x).wf = true) (e : stp c x = stp d x) : c = d := by
  have := wf_u8 hx
  have e := tn8_inj (xorlt32 hc (by omega)) (xorlt32 hd (by omega)) e
  rw [Nat.xor_comm c, Nat.xor_comm d] at e
  exact xor_left_inj e
theorem fold_inj {l : List Int} (hl : ∀ x ∈ l, (Lit.int .u8 x).wf = true) {c d : Nat} (hc : c < 4294967296) (hd : d < 4294967296) (e : l.foldl stp c = l.foldl stp d) : c = d := by
  induction l generalizing c d with
  | nil => exact e
  | cons x l ih =>
    have hx := hl x List.mem_cons_self
    exact stp_inj hc hd hx (ih (fun y hy => hl y (List.mem_cons_of_mem _ hy)) (stp_lt hc hx) (stp_lt hd hx) e)
theorem fold_set : ∀ (l : List Int) (hl : ∀ x ∈ l, (Lit.int .u8 x).wf = true) (i : Nat) (x y : Int) (hi : l[i]? = some x) (hy : (Lit.int .u8 y).wf = true) (c : Nat) (hc : c < 4294967296) (e : (l.set i y).foldl stp c = l.foldl stp c), x = y
  | [], _, i, x, y, hi, _, _, _, _ => by simp at hi
  | z :: l, hl, 0, x, y, hi, hy, c, hc, e => by
    have hz := hl z List.mem_cons_self
    have : z = x := by simpa using hi
    subst this
    have e : l.foldl stp (stp c y) = l.foldl stp (stp c z) := e
    have e := fold_inj (fun w hw => hl w (List.mem_cons_of_mem _ hw)) (stp_lt hc hy) (stp_lt hc hz) e
    have b1 := wf_u8 hy
    have b2 := wf_u8 hz
    have e := xor_left_inj (tn8_inj (xorlt32 hc (by omega)) (xorlt32 hc (by omega)) e)
    omega
  | z :: l, hl, i + 1, x, y, hi, hy, c, hc, e => by
    have hz := hl z List.mem_cons_self
    exact fold_set l (fun w hw => hl w (List.mem_cons_of_mem _ hw)) i x y (by simpa using hi) hy (stp c z) (stp_lt hc hz) e
theorem CrcBits_true (l : List Int) (a1 : Int) (h : ∀ x ∈ l, (Lit.int .u8 x).wf = true) (h1 : (Lit.int .i64 a1).wf = true) : law04_CrcBits 1000 l a1 = some (true, ()) := by
  rw [law04_CrcBits_eq, awake04_is 990]
  simp only [Option.bind_some, Bool.not_true, cond_false]
  by_cases c : 300 < (l.length : Int)
  · rw [bif_true (by simpa using c)]
  rw [bif_false (by simpa using c)]
  by_cases d : a1 < 0
  · rw [bif_true (by simpa using d)]
  rw [bif_false (by simpa using d), wr_i64 (n := 8 * (l.length : Int)) (by omega)]
  by_cases d2 : 8 * (l.length : Int) ≤ a1
  · rw [bif_true (by simpa using d2)]
  rw [bif_false (by simpa using d2), lim_ok (by omega)]
  obtain ⟨n, rfl⟩ := Int.eq_ofNat_of_zero_le (show 0 ≤ a1 by omega)
  have e1 : wr .i64 (Int.tdiv (n : Int) 8) = ((n / 8 : Nat) : Int) := by
    have : Int.tdiv (n : Int) 8 = ((n / 8 : Nat) : Int) := rfl
    rw [this, wr_i64 (by omega)]
  have e2 : wr .u64 (Int.tmod (n : Int) 8) = ((n % 8 : Nat) : Int) := by
    have : Int.tmod (n : Int) 8 = ((n % 8 : Nat) : Int) := rfl
    rw [this, wr_u64 (by omega)]
  have hi : n / 8 < l.length := by omega
  have hx : l[n / 8]? = some l[n / 8] := List.getElem?_eq_getElem hi
  have hin : inI ((n / 8 : Nat) : Int) l.length = true := by unfold inI; simp; omega
  have hs : shlK .u8 1 ((n % 8 : Nat) : Int) = some (((2 ^ (n % 8) : Nat)) : Int) := by
    have : n % 8 < 8 := Nat.mod_lt _ (by decide)
    generalize n % 8 = m at *
    have : m = 0 ∨ m = 1 ∨ m = 2 ∨ m = 3 ∨ m = 4 ∨ m = 5 ∨ m = 6 ∨ m = 7 := by omega
    rcases this with rfl | rfl | rfl | rfl | rfl | rfl | rfl | rfl <;> decide +kernel
  rw [e1, e2, must_true hin, Int.toNat_natCast, hx, Option.bind_some, hs, Option.bind_some, must_true hin, must_true (b := Nat.blt (n / 8) l.length) (by simp [Nat.blt]; omega)]
  have hwx := h _ (List.getElem_mem hi)
  have hwy : (Lit.int .u8 (Go.bits .xor .u8 l[n / 8] (((2 ^ (n % 8) : Nat)) : Int))).wf = true := wf_bits _ _ _ _
  have hne : l[n / 8] ≠ Go.bits .xor .u8 l[n / 8] (((2 ^ (n % 8) : Nat)) : Int) := by
    have b := wf_u8 hwx
    have hp : 2 ^ (n % 8) < 256 := Nat.pow_lt_pow_right (a := 2) (m := n % 8) (n := 8) (by decide) (Nat.mod_lt _ (by decide))
    have hq : 0 < 2 ^ (n % 8) := Nat.pow_pos (by decide)
    generalize 2 ^ (n % 8) = q at *
    intro e
    generalize l[n / 8] = x at *
    obtain ⟨m, rfl⟩ := Int.eq_ofNat_of_zero_le b.1
    rw [show Go.bits .xor .u8 (m : Int) (q : Int) = ((m ^^^ q : Nat) : Int) from u8_xor_nat m q (by omega) (by omega)] at e
    have e : m = m ^^^ q := by omega
    have : m ^^^ 0 = m ^^^ q := by rw [Nat.xor_zero]; exact e
    have := xor_left_inj this
    omega
  generalize Go.bits .xor .u8 l[n / 8] (((2 ^ (n % 8) : Nat)) : Int) = y at *
  have hset : ∀ x ∈ l.set (n / 8) y, (Lit.int .u8 x).wf = true := by
    intro x hx
    rcases List.mem_or_eq_of_mem_set hx with hx | rfl
    · exact h x hx
    · exact hwy
  rw [crc_Sum_is 990 hset (by simp; omega) (by simp; omega), Option.bind_some, crc_Sum_is 990 h (by omega) (by omega), Option.bind_some]
  have hd : (4294967295 ^^^ (l.set (n / 8) y).foldl stp 4294967295) ≠ 4294967295 ^^^ l.foldl stp 4294967295 := fun e =>
    hne (fold_set l h _ _ _ hx hwy _ (by omega) (xor_left_inj e))
  have : decide (((4294967295 ^^^ (l.set (n / 8) y).foldl stp 4294967295 : Nat) : Int) = ((4294967295 ^^^ l.foldl stp 4294967295 : Nat) : Int)) = false := by
    apply decide_eq_false
    omega
  simp only [this, Bool.not_false]
end Go.Proofs.Ytnojkokhfmgcfaa.Den
