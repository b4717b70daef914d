/- Plain lemmas: numbers of a kind, bits, lists read in turn. Nothing of a program in it. -/
import Derived.Test.YtgmeimbamfggkaaDen30
import Derived.Laws.BitsLemmas
import Derived.Laws.BitsAllLaws
import Derived.OpenShut
namespace Go.Proofs.Ytgmeimbamfggkaa.Den
open Go Go.RowKit

theorem wrap_i64 (n : Int) : IntKind.i64.wrap n = wrap64 n := by
  simp only [IntKind.wrap, IntKind.bits, IntKind.signed, wrap64]
  simp
  split <;> omega

theorem wf_i64 {a : Int} (h : (Lit.int .i64 a).wf = true) : -9223372036854775808 ≤ a ∧ a ≤ 9223372036854775807 := by
  simpa [Lit.wf, IntKind.min, IntKind.max, IntKind.signed, IntKind.bits] using h
theorem wf_u64 {a : Int} (h : (Lit.int .u64 a).wf = true) : 0 ≤ a ∧ a ≤ 18446744073709551615 := by
  simpa [Lit.wf, IntKind.min, IntKind.max, IntKind.signed, IntKind.bits] using h
theorem wf_u8 {a : Int} (h : (Lit.int .u8 a).wf = true) : 0 ≤ a ∧ a ≤ 255 := by
  simpa [Lit.wf, IntKind.min, IntKind.max, IntKind.signed, IntKind.bits] using h
theorem wf_u32 {a : Int} (h : (Lit.int .u32 a).wf = true) : 0 ≤ a ∧ a ≤ 4294967295 := by
  simpa [Lit.wf, IntKind.min, IntKind.max, IntKind.signed, IntKind.bits] using h

theorem wu64 (n : Int) : IntKind.u64.wrap n = n % 18446744073709551616 := by
  simp [IntKind.wrap, IntKind.bits, IntKind.signed]

theorem toNat_wrap_i64 (x : BitVec 64) : IntKind.i64.wrap (x.toNat : Int) = x.toInt := by
  rw [BitVec.toInt_eq_toNat_cond, wrap_i64]
  unfold wrap64
  have := x.isLt
  split <;> omega

theorem xor_i64 (a b : Int) : Go.bits .xor .i64 a b = (BitVec.ofInt 64 a ^^^ BitVec.ofInt 64 b).toInt := by
  unfold Go.bits
  exact toNat_wrap_i64 _

theorem toInt_ofInt64 {a : Int} (h0 : -9223372036854775808 ≤ a) (h1 : a ≤ 9223372036854775807) : (BitVec.ofInt 64 a).toInt = a := by
  rw [BitVec.toInt_ofInt]
  exact Int.bmod_eq_of_le (by omega) (by omega)

theorem msb64 {a : Int} (h0 : -9223372036854775808 ≤ a) (h1 : a ≤ 9223372036854775807) : (BitVec.ofInt 64 a).msb = decide (a < 0) := by
  rw [BitVec.msb_eq_toInt, toInt_ofInt64 h0 h1]

/-- The sign of two numbers taken together by xor. -/
theorem same_eq {a b : Int} (ha : -9223372036854775808 ≤ a ∧ a ≤ 9223372036854775807) (hb : -9223372036854775808 ≤ b ∧ b ≤ 9223372036854775807) :
    (((Go.bits .xor .i64 a b) / 9223372036854775808) == 0) = (decide (a < 0) == decide (b < 0)) := by
  have hm : (BitVec.ofInt 64 a ^^^ BitVec.ofInt 64 b).msb = (decide (a < 0)).xor (decide (b < 0)) := by
    rw [BitVec.msb_xor, msb64 ha.1 ha.2, msb64 hb.1 hb.2]
  rw [xor_i64]
  rw [BitVec.msb_eq_toInt] at hm
  have hlt := BitVec.toInt_lt (x := BitVec.ofInt 64 a ^^^ BitVec.ofInt 64 b)
  have hle := BitVec.le_toInt (x := BitVec.ofInt 64 a ^^^ BitVec.ofInt 64 b)
  generalize (BitVec.ofInt 64 a ^^^ BitVec.ofInt 64 b).toInt = x at *
  by_cases h1 : a < 0 <;> by_cases h2 : b < 0 <;> simp [h1, h2] at hm ⊢ <;> omega

theorem xor_u64_zero {x : Int} (h : 0 ≤ x ∧ x < 18446744073709551616) : Go.bits .xor .u64 x 0 = x := by
  obtain ⟨n, rfl⟩ := Int.eq_ofNat_of_zero_le h.1
  have := u64_xor_nat n 0 (by omega) (by omega)
  simpa using this

theorem xor_u64_ones {x : Int} (h : 0 ≤ x ∧ x < 18446744073709551616) : Go.bits .xor .u64 x 18446744073709551615 = 18446744073709551615 - x := by
  obtain ⟨n, rfl⟩ := Int.eq_ofNat_of_zero_le h.1
  have h2 := u64_xor_nat n 18446744073709551615 (by omega) (by omega)
  have e : n ^^^ 18446744073709551615 = 18446744073709551615 - n := by
    have := congrArg BitVec.toNat (BitVec.xor_allOnes (x := BitVec.ofNat 64 n))
    rw [BitVec.toNat_xor, BitVec.toNat_not, BitVec.toNat_allOnes, BitVec.toNat_ofNat] at this
    have hn : n % 2 ^ 64 = n := Nat.mod_eq_of_lt (by omega)
    rw [hn] at this
    simpa using this
  rw [show ((18446744073709551615 : Int)) = ((18446744073709551615 : Nat) : Int) from rfl, h2, e]
  omega

theorem xor_high (n : Nat) (h : n < 18446744073709551616) : n ^^^ 9223372036854775808 = if n < 9223372036854775808 then n + 9223372036854775808 else n - 9223372036854775808 := by
  have h1 := Nat.xor_mod_two_pow (a := n) (b := 9223372036854775808) (n := 63)
  have h2 := Nat.xor_div_two_pow (a := n) (b := 9223372036854775808) (n := 63)
  simp at h1 h2
  by_cases c : n < 9223372036854775808
  · rw [if_pos c]
    have e : n / 9223372036854775808 = 0 := by omega
    rw [e] at h2
    simp at h2
    omega
  · rw [if_neg c]
    have e : n / 9223372036854775808 = 1 := by omega
    rw [e] at h2
    simp at h2
    omega

theorem xor_u64_high {x : Int} (h : 0 ≤ x ∧ x < 18446744073709551616) :
    Go.bits .xor .u64 x 9223372036854775808 = if x < 9223372036854775808 then x + 9223372036854775808 else x - 9223372036854775808 := by
  obtain ⟨n, rfl⟩ := Int.eq_ofNat_of_zero_le h.1
  have h2 := u64_xor_nat n 9223372036854775808 (by omega) (by omega)
  have e := xor_high n (by omega)
  rw [show ((9223372036854775808 : Int)) = ((9223372036854775808 : Nat) : Int) from rfl, h2, e]
  split <;> split <;> omega

theorem and_u64_one {x : Int} (h : 0 ≤ x ∧ x < 18446744073709551616) : Go.bits .and .u64 x 1 = x % 2 := by
  obtain ⟨n, rfl⟩ := Int.eq_ofNat_of_zero_le h.1
  have h2 := u64_and_nat n 1 (by omega) (by omega)
  rw [show ((1 : Int)) = ((1 : Nat) : Int) from rfl, h2, Nat.and_one_is_mod]
  omega

theorem xor_i64_zero {x : Int} (h : -9223372036854775808 ≤ x ∧ x ≤ 9223372036854775807) : Go.bits .xor .i64 x 0 = x := by
  rw [xor_i64]
  simp [toInt_ofInt64 h.1 h.2]
theorem xor_i64_ones {x : Int} (h : -9223372036854775808 ≤ x ∧ x ≤ 9223372036854775807) : Go.bits .xor .i64 x (-1) = -1 - x := by
  rw [xor_i64]
  have e : BitVec.ofInt 64 (-1) = BitVec.allOnes 64 := by decide
  rw [e, BitVec.xor_allOnes, BitVec.toInt_not]
  have h2 : (BitVec.ofInt 64 x).toNat = (x % 18446744073709551616).toNat := by simp [BitVec.toNat_ofInt]
  rw [h2]
  simp only [Int.bmod_def]
  split <;> omega

/-- Flip, as it is printed. -/
theorem flip_eq {a : Int} (h : -9223372036854775808 ≤ a ∧ a ≤ 9223372036854775807) :
    Go.bits .xor .u64 (IntKind.u64.wrap (a)) 9223372036854775808 = a + 9223372036854775808 := by
  rw [wu64, xor_u64_high (by omega)]
  split <;> omega

theorem zig_eq {a : Int} (h : -9223372036854775808 ≤ a ∧ a ≤ 9223372036854775807) :
    Go.bits .xor .u64 (IntKind.u64.wrap ((IntKind.u64.wrap (a)) * 2)) (IntKind.u64.wrap (a / 9223372036854775808)) = if 0 ≤ a then 2 * a else -2 * a - 1 := by
  simp only [wu64]
  split
  · have e : a / 9223372036854775808 = 0 := by omega
    rw [e]
    simp only [Int.zero_emod]
    rw [xor_u64_zero (by omega)]
    omega
  · have e : a / 9223372036854775808 = -1 := by omega
    rw [e, show (-1 : Int) % 18446744073709551616 = 18446744073709551615 from rfl, xor_u64_ones (by omega)]
    omega

theorem zag_eq {u : Int} (h : 0 ≤ u ∧ u < 18446744073709551616) :
    Go.bits .xor .i64 (wrap64 (u / 2)) (wrap64 (-(wrap64 (Go.bits .and .u64 u 1)))) = if u % 2 = 0 then u / 2 else -1 - u / 2 := by
  rw [and_u64_one h]
  have e1 : wrap64 (u / 2) = u / 2 := by unfold wrap64; omega
  rw [e1]
  split
  · rename_i c
    rw [c, show wrap64 (-(wrap64 0)) = 0 from by decide +kernel, xor_i64_zero (by omega)]
  · have c : u % 2 = 1 := by omega
    rw [c, show wrap64 (-(wrap64 1)) = -1 from by decide +kernel, xor_i64_ones (by omega)]

theorem unflip_eq {u : Int} (h : 0 ≤ u ∧ u < 18446744073709551616) :
    wrap64 (Go.bits .xor .u64 u 9223372036854775808) = u - 9223372036854775808 := by
  rw [xor_u64_high h]
  unfold wrap64
  split <;> omega


theorem wu32 (n : Int) : IntKind.u32.wrap n = n % 4294967296 := by
  simp [IntKind.wrap, IntKind.bits, IntKind.signed]
theorem wu8 (n : Int) : IntKind.u8.wrap n = n % 256 := by
  simp [IntKind.wrap, IntKind.bits, IntKind.signed]
theorem wr_i64 {n : Int} (h : -9223372036854775808 ≤ n ∧ n ≤ 9223372036854775807) : wr .i64 n = n := by
  unfold wr; rw [wrap_i64]; unfold wrap64; omega
theorem wr_u64 {n : Int} (h : 0 ≤ n ∧ n < 18446744073709551616) : wr .u64 n = n := by
  unfold wr; rw [wu64]; omega
theorem wr_u32 {n : Int} (h : 0 ≤ n ∧ n < 4294967296) : wr .u32 n = n := by
  unfold wr; rw [wu32]; omega
theorem wr_u8 {n : Int} (h : 0 ≤ n ∧ n < 256) : wr .u8 n = n := by
  unfold wr; rw [wu8]; omega
theorem wrm_u64 (n : Int) : wr .u64 n = n % 18446744073709551616 := by unfold wr; rw [wu64]
theorem wrm_u32 (n : Int) : wr .u32 n = n % 4294967296 := by unfold wr; rw [wu32]
theorem wrm_u8 (n : Int) : wr .u8 n = n % 256 := by unfold wr; rw [wu8]
/-- The next place in a list. -/
theorem wr_next {α : Type} {j : Nat} {l : List α} (h : j < l.length) (hl : l.length ≤ 4611686018427387904) : wr .i64 ((j : Int) + 1) = ((j + 1 : Nat) : Int) := by
  rw [wr_i64 (by omega)]; omega
theorem nth_nat {α : Type} (l : List α) (j : Nat) : nth l (j : Int) = l[j]? := by
  unfold nth; rw [if_pos (by omega)]; simp
theorem nth_get {α : Type} {l : List α} {j : Nat} {x : α} (h : l[j]? = some x) : nth l (j : Int) = some x := by rw [nth_nat, h]
theorem lim_ok {α : Type} {n : Nat} {x : Option α} (h : n ≤ 68719476736) : lim n x = x := by unfold lim; exact if_pos h
theorem cut_ok {α : Type} {l : List α} {a b : Nat} (h1 : a ≤ b) (h2 : b ≤ l.length) : cut l (a : Int) (b : Int) = some ((l.take b).drop a) := by
  unfold cut; rw [if_pos (by omega)]; simp
theorem must_true {α : Type} {b : Bool} {x : Option α} (h : b = true) : must b x = x := by subst h; rfl
theorem bif_true {α : Type} {b : Bool} {x y : α} (h : b = true) : (bif b then x else y) = x := by subst h; rfl
theorem bif_false {α : Type} {b : Bool} {x y : α} (h : b = false) : (bif b then x else y) = y := by subst h; rfl
theorem xor32 {a b : Nat} (ha : a < 4294967296) (hb : b < 4294967296) : Go.bits .xor .u32 (a : Int) (b : Int) = ((a ^^^ b : Nat) : Int) := u32_xor_nat a b ha hb
theorem and32 {a b : Nat} (ha : a < 4294967296) (hb : b < 4294967296) : Go.bits .and .u32 (a : Int) (b : Int) = ((a &&& b : Nat) : Int) := u32_and_nat a b ha hb
theorem xor64 {a b : Nat} (ha : a < 18446744073709551616) (hb : b < 18446744073709551616) : Go.bits .xor .u64 (a : Int) (b : Int) = ((a ^^^ b : Nat) : Int) := u64_xor_nat a b ha hb
theorem and64 {a b : Nat} (ha : a < 18446744073709551616) (hb : b < 18446744073709551616) : Go.bits .and .u64 (a : Int) (b : Int) = ((a &&& b : Nat) : Int) := u64_and_nat a b ha hb
theorem xorlt32 {a b : Nat} (ha : a < 4294967296) (hb : b < 4294967296) : a ^^^ b < 4294967296 := Nat.xor_lt_two_pow (n := 32) ha hb

/-- A loop that reads a list in turn. -/
theorem foldLoop {σ ρ α : Type} (l : List α) (L : Nat → σ → Int → Option ρ) (step : σ → α → σ) (fin : σ → Option ρ) (P : σ → Prop) (hP : ∀ s x, P s → x ∈ l → P (step s x))
    (hs : ∀ n s (j : Nat) x, P s → l[j]? = some x → L (n + 1) s (j : Int) = L n (step s x) ((j + 1 : Nat) : Int)) (he : ∀ n s, P s → L (n + 1) s (l.length : Int) = fin s) :
    ∀ n s j, P s → j ≤ l.length → l.length - j < n → L n s (j : Int) = fin ((l.drop j).foldl step s)
  | 0, _, _, _, _, h => absurd h (Nat.not_lt_zero _)
  | n + 1, s, j, hp, hj, hn => by
    by_cases c : j < l.length
    · have hx : l[j]? = some l[j] := List.getElem?_eq_getElem c
      rw [hs n s j l[j] hp hx, foldLoop l L step fin P hP hs he n (step s l[j]) (j + 1) (hP s l[j] hp (List.getElem_mem c)) c (by omega), List.drop_eq_getElem_cons c]
      rfl
    · have : j = l.length := by omega
      subst this
      rw [he n s hp, List.drop_length]
      rfl
/-- A loop that counts. -/
theorem countLoop {σ ρ : Type} (m : Nat) (L : Nat → σ → Int → Option ρ) (step : σ → σ) (fin : σ → Option ρ) (P : σ → Prop) (hP : ∀ s, P s → P (step s))
    (hs : ∀ n s (j : Nat), P s → j < m → L (n + 1) s (j : Int) = L n (step s) ((j + 1 : Nat) : Int)) (he : ∀ n s, P s → L (n + 1) s (m : Int) = fin s) :
    ∀ n s j, P s → j ≤ m → m - j < n → L n s (j : Int) = fin (Nat.repeat step (m - j) s)
  | 0, _, _, _, _, h => absurd h (Nat.not_lt_zero _)
  | n + 1, s, j, hp, hj, hn => by
    by_cases c : j < m
    · rw [hs n s j hp c, countLoop m L step fin P hP hs he n (step s) (j + 1) (hP s hp) c (by omega)]
      congr 1
      have : m - j = (m - (j + 1)) + 1 := by omega
      rw [this]
      exact repeat_comm step _ s
    · have : j = m := by omega
      subst this
      rw [he n s hp, Nat.sub_self]
      rfl
where repeat_comm {σ : Type} (f : σ → σ) : ∀ (n : Nat) (s : σ), Nat.repeat f n (f s) = Nat.repeat f (n + 1) s
  | 0, _ => rfl
  | n + 1, s => congrArg f (repeat_comm f n s)
end Go.Proofs.Ytgmeimbamfggkaa.Den
