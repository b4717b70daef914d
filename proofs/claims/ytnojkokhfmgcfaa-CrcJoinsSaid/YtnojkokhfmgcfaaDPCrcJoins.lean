import Derived.Test.YtnojkokhfmgcfaaDCrcJoins
import Derived.Test.YtnojkokhfmgcfaaDen31
namespace Go.Proofs.Ytnojkokhfmgcfaa.Den
open Go Go.RowKit
set_option linter.unusedVariables false
/-! ### Sums -/
def tnN (x : Nat) : Nat := (x / 2) ^^^ (if x % 2 = 1 then 2197175160 else 0)
theorem tnN_lt {x : Nat} (h : x < 4294967296) : tnN x < 4294967296 := by
  unfold tnN; exact xorlt32 (by omega) (by split <;> omega)
theorem tnN_xor (x y : Nat) : tnN (x ^^^ y) = tnN x ^^^ tnN y := by
  have h1 := Nat.xor_mod_two_pow (a := x) (b := y) (n := 1)
  have h2 := Nat.xor_div_two_pow (a := x) (b := y) (n := 1)
  simp only [Nat.pow_one] at h1 h2
  unfold tnN
  rw [h1, h2]
  have e : (if (x % 2 ^^^ y % 2) = 1 then 2197175160 else 0) = (if x % 2 = 1 then 2197175160 else 0) ^^^ (if y % 2 = 1 then 2197175160 else 0) := by
    rcases Nat.mod_two_eq_zero_or_one x with a | a <;> rcases Nat.mod_two_eq_zero_or_one y with b | b <;> rw [a, b] <;> decide
  rw [e]
  ac_rfl
def tn8 (x : Nat) : Nat := Nat.repeat tnN 8 x
theorem rep_lt {x : Nat} (h : x < 4294967296) : ∀ n, Nat.repeat tnN n x < 4294967296
  | 0 => h
  | n + 1 => tnN_lt (rep_lt h n)
theorem rep_xor (x y : Nat) : ∀ n, Nat.repeat tnN n (x ^^^ y) = Nat.repeat tnN n x ^^^ Nat.repeat tnN n y
  | 0 => rfl
  | n + 1 => by show tnN _ = tnN _ ^^^ tnN _; rw [rep_xor x y n, tnN_xor]
theorem tn8_lt {x : Nat} (h : x < 4294967296) : tn8 x < 4294967296 := rep_lt h 8
theorem tn8_xor (x y : Nat) : tn8 (x ^^^ y) = tn8 x ^^^ tn8 y := rep_xor x y 8
/-- A sum and a byte more. -/
def stp (c : Nat) (x : Int) : Nat := tn8 (c ^^^ x.toNat)
theorem stp_lt {c : Nat} {x : Int} (h : c < 4294967296) (hx : (Lit.int .u8 x).wf = true) : stp c x < 4294967296 := by
  have := wf_u8 hx
  exact tn8_lt (xorlt32 h (by omega))

theorem turn_one {x : Nat} (h : x < 4294967296) : Go.bits .xor .u32 ((x : Int) / 2) (Go.bits .and .u32 2197175160 (wr .u32 (0 - (Go.bits .and .u32 (x : Int) 1)))) = ((tnN x : Nat) : Int) := by
  have e := and32 h (b := 1) (by omega)
  rw [Nat.and_one_is_mod] at e
  have e : Go.bits .and .u32 (x : Int) 1 = ((x % 2 : Nat) : Int) := e
  have e2 : ((x : Int) / 2) = ((x / 2 : Nat) : Int) := by omega
  rw [e, e2]
  unfold tnN
  rcases Nat.mod_two_eq_zero_or_one x with a | a
  · rw [a, show Go.bits .and .u32 2197175160 (wr .u32 (0 - ((0 : Nat) : Int))) = ((0 : Nat) : Int) by decide +kernel, xor32 (by omega) (by omega)]; rfl
  · rw [a, show Go.bits .and .u32 2197175160 (wr .u32 (0 - ((1 : Nat) : Int))) = ((2197175160 : Nat) : Int) by decide +kernel, xor32 (by omega) (by omega)]; rfl

theorem crc_turn_is (k : Nat) {x : Nat} (h : x < 4294967296) : crc_turn (k + 10) (x : Int) = some (((tn8 x : Nat) : Int), ()) := by
  rw [crc_turn_eq]
  have := countLoop 8 (fun n (s : Nat) j => crc_turn_l0 (k + 10) n (s : Int) j) tnN (fun s => some ((s : Int), ())) (fun s => s < 4294967296) (fun s => tnN_lt)
    (fun n s j hs hj => by
      show crc_turn_l0 (k + 10) (n + 1) _ _ = crc_turn_l0 (k + 10) n _ _
      rw [crc_turn_l0_eq, bif_true (by simp; omega), turn_one hs, wr_i64 (by omega)]; rfl)
    (fun n s hs => by
      show crc_turn_l0 (k + 10) (n + 1) _ _ = _
      rw [crc_turn_l0_eq, bif_false (by decide)])
    (k + 10) x 0 h (by omega) (by omega)
  exact this
theorem mix {c : Nat} {x : Int} (h : c < 4294967296) (hx : (Lit.int .u8 x).wf = true) : Go.bits .xor .u32 (c : Int) (wr .u32 x) = ((c ^^^ x.toNat : Nat) : Int) := by
  have := wf_u8 hx
  rw [wr_u32 (by omega)]
  have e : x = ((x.toNat : Nat) : Int) := by omega
  conv => lhs; rw [e]
  exact xor32 h (by omega)
theorem crc_Step_is (k : Nat) {c : Nat} {x : Int} (h : c < 4294967296) (hx : (Lit.int .u8 x).wf = true) : crc_Step (k + 10) (c : Int) x = some (((stp c x : Nat) : Int), ()) := by
  have := wf_u8 hx
  rw [crc_Step_eq, mix h hx, crc_turn_is k (xorlt32 h (by omega))]; rfl
theorem crc_More_is (k : Nat) {c : Nat} {l : List Int} (h : c < 4294967296) (hl : ∀ x ∈ l, (Lit.int .u8 x).wf = true) (hn : l.length < k + 10) (hm : l.length ≤ 4611686018427387904) :
    crc_More (k + 10) (c : Int) l = some (((l.foldl stp c : Nat) : Int), ()) := by
  rw [crc_More_eq]
  have := foldLoop l (fun n (s : Nat) j => crc_More_l0 (k + 10) n (s : Int) l (l.length : Int) j) stp (fun s => some ((s : Int), ())) (fun s => s < 4294967296) (fun s x hs hx => stp_lt hs (hl x hx))
    (fun n s j x hs hx => by
      show crc_More_l0 (k + 10) (n + 1) _ _ _ _ = crc_More_l0 (k + 10) n _ _ _ _
      have hj : j < l.length := (List.getElem?_eq_some_iff.1 hx).1
      rw [crc_More_l0_eq, bif_true (by simp; omega), nth_get hx, Option.bind_some, crc_Step_is k hs (hl x (List.mem_of_getElem? hx)), Option.bind_some, wr_next hj hm])
    (fun n s hs => by
      show crc_More_l0 (k + 10) (n + 1) _ _ _ _ = _
      rw [crc_More_l0_eq, bif_false (by simp)])
    (k + 10) c 0 h (by omega) (by omega)
  rw [List.drop_zero] at this
  exact this
theorem fold_lt {l : List Int} (hl : ∀ x ∈ l, (Lit.int .u8 x).wf = true) {c : Nat} (h : c < 4294967296) : l.foldl stp c < 4294967296 := by
  induction l generalizing c with
  | nil => exact h
  | cons x l ih => exact ih (fun y hy => hl y (List.mem_cons_of_mem _ hy)) (stp_lt h (hl x (List.mem_cons_self)))
theorem ones32 {n : Nat} (h : n < 4294967296) : Go.bits .xor .u32 4294967295 (n : Int) = ((4294967295 ^^^ n : Nat) : Int) := xor32 (a := 4294967295) (by omega) h
theorem crc_Sum_is (k : Nat) {l : List Int} (hl : ∀ x ∈ l, (Lit.int .u8 x).wf = true) (hn : l.length < k + 10) (hm : l.length ≤ 4611686018427387904) :
    crc_Sum (k + 10) l = some (((4294967295 ^^^ l.foldl stp 4294967295 : Nat) : Int), ()) := by
  rw [crc_Sum_eq, show crc_More (k + 10) (4294967295 : Int) l = _ from crc_More_is k (c := 4294967295) (by omega) hl hn hm, Option.bind_some, ones32 (fold_lt hl (by omega))]
theorem awake04_is (k : Nat) : law04_awake (k + 10) = some (true, ()) := by
  rw [law04_awake_eq, crc_Sum_is k (by decide) (by simp) (by simp)]
  decide +kernel
theorem ref01_Step_is (k : Nat) {c : Nat} {x : Int} (h : c < 4294967296) (hx : (Lit.int .u8 x).wf = true) : ref01_Step (k + 10) (c : Int) x = some (((stp c x : Nat) : Int), ()) := by
  have hb := wf_u8 hx
  rw [ref01_Step_eq, mix h hx]
  have := countLoop 8 (fun n (s : Nat) j => ref01_Step_l0 (k + 10) n (s : Int) j) tnN (fun s => some ((s : Int), ())) (fun s => s < 4294967296) (fun s => tnN_lt)
    (fun n s j hs hj => by
      show ref01_Step_l0 (k + 10) (n + 1) _ _ = ref01_Step_l0 (k + 10) n _ _
      rw [ref01_Step_l0_eq, bif_true (by simp; omega), ref01_Step_j0_eq (k + 9), ref01_Step_j0_eq (k + 9), wr_i64 (by omega)]
      have e1 : Int.tdiv (s : Int) 2 = ((s / 2 : Nat) : Int) := rfl
      have e2 : Int.tmod (s : Int) 2 = ((s % 2 : Nat) : Int) := rfl
      rw [e1, e2, wr_u32 (by omega)]
      unfold tnN
      rcases Nat.mod_two_eq_zero_or_one s with a | a
      · rw [a, bif_false (by decide)]
        simp
      · rw [a, bif_true (by decide)]
        have := xor32 (a := s / 2) (b := 2197175160) (by omega) (by omega)
        rw [show Go.bits .xor .u32 ((s / 2 : Nat) : Int) 2197175160 = ((s / 2 ^^^ 2197175160 : Nat) : Int) from this]
        simp)
    (fun n s hs => by
      show ref01_Step_l0 (k + 10) (n + 1) _ _ = _
      rw [ref01_Step_l0_eq, bif_false (by decide)])
    (k + 10) (c ^^^ x.toNat) 0 (xorlt32 h (by omega)) (by omega) (by omega)
  exact this
theorem ones_sub {n : Nat} (h : n < 4294967296) : 4294967295 ^^^ n = 4294967295 - n := by
  have e : n ^^^ 4294967295 = 4294967295 - n := by
    have := congrArg BitVec.toNat (BitVec.xor_allOnes (x := BitVec.ofNat 32 n))
    rw [BitVec.toNat_xor, BitVec.toNat_not, BitVec.toNat_allOnes, BitVec.toNat_ofNat] at this
    have hn : n % 2 ^ 32 = n := Nat.mod_eq_of_lt (by omega)
    rw [hn] at this
    simpa using this
  rw [Nat.xor_comm, e]
theorem ref01_Sum_is (k : Nat) {l : List Int} (hl : ∀ x ∈ l, (Lit.int .u8 x).wf = true) (hn : l.length < k + 10) (hm : l.length ≤ 4611686018427387904) :
    ref01_Sum (k + 10) l = some (((4294967295 ^^^ l.foldl stp 4294967295 : Nat) : Int), ()) := by
  rw [ref01_Sum_eq]
  have := foldLoop l (fun n (s : Nat) j => ref01_Sum_l0 (k + 10) n (s : Int) l (l.length : Int) j) stp (fun s => some ((wr .u32 (4294967295 - (s : Int))), ())) (fun s => s < 4294967296) (fun s x hs hx => stp_lt hs (hl x hx))
    (fun n s j x hs hx => by
      show ref01_Sum_l0 (k + 10) (n + 1) _ _ _ _ = ref01_Sum_l0 (k + 10) n _ _ _ _
      have hj : j < l.length := (List.getElem?_eq_some_iff.1 hx).1
      rw [ref01_Sum_l0_eq, bif_true (by simp; omega), nth_get hx, Option.bind_some, ref01_Step_is k hs (hl x (List.mem_of_getElem? hx)), Option.bind_some, wr_next hj hm])
    (fun n s hs => by
      show ref01_Sum_l0 (k + 10) (n + 1) _ _ _ _ = _
      rw [ref01_Sum_l0_eq, bif_false (by simp)])
    (k + 10) 4294967295 0 (by omega) (by omega) (by omega)
  rw [List.drop_zero] at this
  have hf := fold_lt hl (c := 4294967295) (by omega)
  rw [ones_sub hf]
  refine this.trans ?_
  rw [wr_u32 (by omega)]
  congr 2
  omega
theorem app_lim {l1 l2 : List Int} {α : Type} {x : Option α} (h1 : l1.length ≤ 300) (h2 : l2.length ≤ 300) : lim (0 + l1.length) (lim (([] ++ l1).length + l2.length) x) = x := by
  rw [lim_ok (by omega), lim_ok (by simp; omega)]
theorem crc_Join_is (k : Nat) {a b m : Nat} (ha : a < 4294967296) (hb : b < 4294967296) (hm : m ≤ 300) (hk : 300 < k + 10) :
    crc_Join (k + 10) (a : Int) (b : Int) (m : Int) = some (((Nat.repeat tn8 m a ^^^ b : Nat) : Int), ()) := by
  rw [crc_Join_eq, bif_false (by simp), bif_false (by simp; omega)]
  have := countLoop m (fun n (s : Nat) j => crc_Join_l0 (k + 10) n (s : Int) (b : Int) (m : Int) j) tn8 (fun s => some (((s ^^^ b : Nat) : Int), ())) (fun s => s < 4294967296) (fun s => tn8_lt)
    (fun n s j hs hj => by
      show crc_Join_l0 (k + 10) (n + 1) _ _ _ _ = crc_Join_l0 (k + 10) n _ _ _ _
      rw [crc_Join_l0_eq, bif_true (by simp; omega), crc_turn_is k hs, Option.bind_some, wr_i64 (by omega)]; rfl)
    (fun n s hs => by
      show crc_Join_l0 (k + 10) (n + 1) _ _ _ _ = _
      rw [crc_Join_l0_eq, bif_false (by simp), xor32 hs hb])
    (k + 10) a 0 ha (by omega) (by omega)
  exact this
theorem fold_xor : ∀ (l : List Int) (c d : Nat), l.foldl stp (c ^^^ d) = Nat.repeat tn8 l.length c ^^^ l.foldl stp d
  | [], _, _ => rfl
  | x :: l, c, d => by
    have e : stp (c ^^^ d) x = tn8 c ^^^ stp d x := by
      unfold stp
      rw [Nat.xor_assoc, tn8_xor]
    show l.foldl stp (stp (c ^^^ d) x) = _
    rw [e, fold_xor l (tn8 c) (stp d x), List.length_cons, countLoop.repeat_comm tn8 l.length c]
    rfl
theorem join_is (A B : List Int) : Nat.repeat tn8 B.length (4294967295 ^^^ A.foldl stp 4294967295) ^^^ (4294967295 ^^^ B.foldl stp 4294967295) = 4294967295 ^^^ (A ++ B).foldl stp 4294967295 := by
  have h := fold_xor B (4294967295 ^^^ A.foldl stp 4294967295) 4294967295
  have e : (4294967295 ^^^ A.foldl stp 4294967295) ^^^ 4294967295 = A.foldl stp 4294967295 := by
    rw [Nat.xor_comm, ← Nat.xor_assoc, Nat.xor_self, Nat.zero_xor]
  rw [e] at h
  rw [List.foldl_append, h]
  ac_rfl
theorem tail_is (l1 l2 : List Int) (h1 : ∀ x ∈ l1, (Lit.int .u8 x).wf = true) (h2 : ∀ x ∈ l2, (Lit.int .u8 x).wf = true) (c1 : l1.length ≤ 300) (c2 : l2.length ≤ 300) :
    ((ref01_Sum 1000 l1).bind fun r29 => (ref01_Sum 1000 l2).bind fun r30 => (crc_Join 1000 r29.1 r30.1 (l2.length : Int)).bind fun r31 => lim (0 + l1.length) (lim (([] ++ l1).length + l2.length) ((ref01_Sum 1000 (([] ++ l1) ++ l2)).bind fun r32 => some ((decide (r31.1 = r32.1)), ())))) = some (true, ()) := by
  have f1 := fold_lt h1 (c := 4294967295) (by omega)
  have f2 := fold_lt h2 (c := 4294967295) (by omega)
  have h12 : ∀ x ∈ ([] ++ l1) ++ l2, (Lit.int .u8 x).wf = true := by
    intro x hx
    simp at hx
    rcases hx with hx | hx
    · exact h1 x hx
    · exact h2 x hx
  rw [ref01_Sum_is 990 h1 (by omega) (by omega), Option.bind_some, ref01_Sum_is 990 h2 (by omega) (by omega), Option.bind_some,
    crc_Join_is 990 (xorlt32 (by omega) f1) (xorlt32 (by omega) f2) c2 (by omega), Option.bind_some, app_lim c1 c2, ref01_Sum_is 990 h12 (by simp; omega) (by simp; omega), Option.bind_some, List.nil_append]
  have := join_is l1 l2
  simp only [this, decide_true]
theorem CrcJoins_true (l1 l2 : List Int) (a2 : Int) (h1 : ∀ x ∈ l1, (Lit.int .u8 x).wf = true) (h2 : ∀ x ∈ l2, (Lit.int .u8 x).wf = true) (h3 : (Lit.int .i64 a2).wf = true) : law04_CrcJoins 1000 l1 l2 a2 = some (true, ()) := by
  rw [law04_CrcJoins_eq, awake04_is 990]
  simp only [Option.bind_some, Bool.not_true, cond_false]
  by_cases c : 300 < (l1.length : Int)
  · rw [bif_true (by simpa using c)]
  rw [bif_false (by simpa using c)]
  by_cases c2 : 300 < (l2.length : Int)
  · rw [bif_true (by simpa using c2)]
  rw [bif_false (by simpa using c2)]
  have ht := tail_is l1 l2 h1 h2 (by omega) (by omega)
  by_cases d : a2 < 0
  · rw [bif_true (by simpa using d), crc_Join_eq, bif_true (by simpa using d), Option.bind_some, bif_false (by decide)]
    exact ht
  rw [bif_false (by simpa using d)]
  by_cases d2 : 65536 < a2
  · rw [bif_true (by simpa using d2), crc_Join_eq, bif_false (by simpa using d), bif_true (by simpa using d2), Option.bind_some, bif_false (by decide)]
    exact ht
  rw [bif_false (by simpa using d2)]
  exact ht
end Go.Proofs.Ytnojkokhfmgcfaa.Den
