import Derived.Test.YtnojkokhfmgcfaaDFrameBits
import Derived.Test.YtnojkokhfmgcfaaDen31
namespace Go.Proofs.Ytnojkokhfmgcfaa.Den
open Go Go.RowKit
set_option linter.unusedVariables false
theorem bt {α : Type} {p : Prop} [Decidable p] {x y : α} (h : p) : (bif decide p then x else y) = x := by rw [decide_eq_true h]; rfl
theorem bf {α : Type} {p : Prop} [Decidable p] {x y : α} (h : ¬ p) : (bif decide p then x else y) = y := by rw [decide_eq_false h]; rfl
/-! ### Sums -/
def tnN (x : Nat) : Nat := (x / 2) ^^^ (if x % 2 = 1 then 2197175160 else 0)
theorem tnN_lt {x : Nat} (h : x < 4294967296) : tnN x < 4294967296 := by
  unfold tnN; exact xorlt32 (by omega) (by split <;> omega)
theorem tnN_xor (x y : Nat) : tnN (x ^^^ y) = tnN x ^^^ tnN y := by
  have h1 := Nat.xor_mod_two_pow (a := x) (b := y) (n := 1)
  have h2 := Nat.xor_div_two_pow (a := x) (b := y) (n := 1)
  simp only [Nat.pow_one] at h1 h2
  unfold tnN
  rw [h1, h2]
  have e : (if (x % 2 ^^^ y % 2) = 1 then 2197175160 else 0) = (if x % 2 = 1 then 2197175160 else 0) ^^^ (if y % 2 = 1 then 2197175160 else 0) := by
    rcases Nat.mod_two_eq_zero_or_one x with a | a <;> rcases Nat.mod_two_eq_zero_or_one y with b | b <;> rw [a, b] <;> decide
  rw [e]
  ac_rfl
def tn8 (x : Nat) : Nat := Nat.repeat tnN 8 x
theorem rep_lt {x : Nat} (h : x < 4294967296) : ∀ n, Nat.repeat tnN n x < 4294967296
  | 0 => h
  | n + 1 => tnN_lt (rep_lt h n)
theorem rep_xor (x y : Nat) : ∀ n, Nat.repeat tnN n (x ^^^ y) = Nat.repeat tnN n x ^^^ Nat.repeat tnN n y
  | 0 => rfl
  | n + 1 => by show tnN _ = tnN _ ^^^ tnN _; rw [rep_xor x y n, tnN_xor]
theorem tn8_lt {x : Nat} (h : x < 4294967296) : tn8 x < 4294967296 := rep_lt h 8
theorem tn8_xor (x y : Nat) : tn8 (x ^^^ y) = tn8 x ^^^ tn8 y := rep_xor x y 8
/-- A sum and a byte more. -/
def stp (c : Nat) (x : Int) : Nat := tn8 (c ^^^ x.toNat)
theorem stp_lt {c : Nat} {x : Int} (h : c < 4294967296) (hx : (Lit.int .u8 x).wf = true) : stp c x < 4294967296 := by
  have := wf_u8 hx
  exact tn8_lt (xorlt32 h (by omega))

theorem turn_one {x : Nat} (h : x < 4294967296) : Go.bits .xor .u32 ((x : Int) / 2) (Go.bits .and .u32 2197175160 (wr .u32 (0 - (Go.bits .and .u32 (x : Int) 1)))) = ((tnN x : Nat) : Int) := by
  have e := and32 h (b := 1) (by omega)
  rw [Nat.and_one_is_mod] at e
  have e : Go.bits .and .u32 (x : Int) 1 = ((x % 2 : Nat) : Int) := e
  have e2 : ((x : Int) / 2) = ((x / 2 : Nat) : Int) := by omega
  rw [e, e2]
  unfold tnN
  rcases Nat.mod_two_eq_zero_or_one x with a | a
  · rw [a, show Go.bits .and .u32 2197175160 (wr .u32 (0 - ((0 : Nat) : Int))) = ((0 : Nat) : Int) by decide +kernel, xor32 (by omega) (by omega)]; rfl
  · rw [a, show Go.bits .and .u32 2197175160 (wr .u32 (0 - ((1 : Nat) : Int))) = ((2197175160 : Nat) : Int) by decide +kernel, xor32 (by omega) (by omega)]; rfl

theorem crc_turn_is (k : Nat) {x : Nat} (h : x < 4294967296) : crc_turn (k + 10) (x : Int) = some (((tn8 x : Nat) : Int), ()) := by
  rw [crc_turn_eq]
  have := countLoop 8 (fun n (s : Nat) j => crc_turn_l0 (k + 10) n (s : Int) j) tnN (fun s => some ((s : Int), ())) (fun s => s < 4294967296) (fun s => tnN_lt)
    (fun n s j hs hj => by
      show crc_turn_l0 (k + 10) (n + 1) _ _ = crc_turn_l0 (k + 10) n _ _
      rw [crc_turn_l0_eq, bif_true (by simp; omega), turn_one hs, wr_i64 (by omega)]; rfl)
    (fun n s hs => by
      show crc_turn_l0 (k + 10) (n + 1) _ _ = _
      rw [crc_turn_l0_eq, bif_false (by decide)])
    (k + 10) x 0 h (by omega) (by omega)
  exact this
theorem mix {c : Nat} {x : Int} (h : c < 4294967296) (hx : (Lit.int .u8 x).wf = true) : Go.bits .xor .u32 (c : Int) (wr .u32 x) = ((c ^^^ x.toNat : Nat) : Int) := by
  have := wf_u8 hx
  rw [wr_u32 (by omega)]
  have e : x = ((x.toNat : Nat) : Int) := by omega
  conv => lhs; rw [e]
  exact xor32 h (by omega)
theorem crc_Step_is (k : Nat) {c : Nat} {x : Int} (h : c < 4294967296) (hx : (Lit.int .u8 x).wf = true) : crc_Step (k + 10) (c : Int) x = some (((stp c x : Nat) : Int), ()) := by
  have := wf_u8 hx
  rw [crc_Step_eq, mix h hx, crc_turn_is k (xorlt32 h (by omega))]; rfl
theorem crc_More_is (k : Nat) {c : Nat} {l : List Int} (h : c < 4294967296) (hl : ∀ x ∈ l, (Lit.int .u8 x).wf = true) (hn : l.length < k + 10) (hm : l.length ≤ 4611686018427387904) :
    crc_More (k + 10) (c : Int) l = some (((l.foldl stp c : Nat) : Int), ()) := by
  rw [crc_More_eq]
  have := foldLoop l (fun n (s : Nat) j => crc_More_l0 (k + 10) n (s : Int) l (l.length : Int) j) stp (fun s => some ((s : Int), ())) (fun s => s < 4294967296) (fun s x hs hx => stp_lt hs (hl x hx))
    (fun n s j x hs hx => by
      show crc_More_l0 (k + 10) (n + 1) _ _ _ _ = crc_More_l0 (k + 10) n _ _ _ _
      have hj : j < l.length := (List.getElem?_eq_some_iff.1 hx).1
      rw [crc_More_l0_eq, bif_true (by simp; omega), nth_get hx, Option.bind_some, crc_Step_is k hs (hl x (List.mem_of_getElem? hx)), Option.bind_some, wr_next hj hm])
    (fun n s hs => by
      show crc_More_l0 (k + 10) (n + 1) _ _ _ _ = _
      rw [crc_More_l0_eq, bif_false (by simp)])
    (k + 10) c 0 h (by omega) (by omega)
  rw [List.drop_zero] at this
  exact this
theorem fold_lt {l : List Int} (hl : ∀ x ∈ l, (Lit.int .u8 x).wf = true) {c : Nat} (h : c < 4294967296) : l.foldl stp c < 4294967296 := by
  induction l generalizing c with
  | nil => exact h
  | cons x l ih => exact ih (fun y hy => hl y (List.mem_cons_of_mem _ hy)) (stp_lt h (hl x (List.mem_cons_self)))
theorem ones32 {n : Nat} (h : n < 4294967296) : Go.bits .xor .u32 4294967295 (n : Int) = ((4294967295 ^^^ n : Nat) : Int) := xor32 (a := 4294967295) (by omega) h
/-! ### Bytes of a number -/
def be : Nat → Nat → List Int
  | 0, _ => []
  | n + 1, u => ((u / 256 ^ n % 256 : Nat) : Int) :: be n u
theorem be_length : ∀ n u, (be n u).length = n
  | 0, _ => rfl
  | n + 1, u => congrArg (· + 1) (be_length n u)
theorem be_wf : ∀ n u x, x ∈ be n u → (Lit.int .u8 x).wf = true
  | n + 1, u, x, h => by
    rcases List.mem_cons.1 h with rfl | h
    · have := Nat.mod_lt (u / 256 ^ n) (show 0 < 256 by decide)
      simp [Lit.wf, IntKind.min, IntKind.max, IntKind.signed, IntKind.bits]; omega
    · exact be_wf n u x h
theorem mod_step (u n : Nat) : u % 256 ^ (n + 1) = u % 256 ^ n + 256 ^ n * (u / 256 ^ n % 256) := by
  rw [Nat.pow_succ]; exact Nat.mod_mul
theorem lt_step {p a b r s : Nat} (hr : r < p) (hs : s < p) : (decide (a < b) || (decide (a = b) && decide (r < s))) = decide (r + p * a < s + p * b) := by
  rcases Nat.lt_trichotomy a b with h | h | h
  · have h1 := Nat.mul_le_mul_left p (show a + 1 ≤ b from h)
    rw [Nat.mul_succ] at h1
    rw [decide_eq_true h, decide_eq_true (show r + p * a < s + p * b by omega)]; rfl
  · subst h
    simp
  · have h1 := Nat.mul_le_mul_left p (show b + 1 ≤ a from h)
    rw [Nat.mul_succ] at h1
    rw [decide_eq_false (show ¬ a < b by omega), decide_eq_false (show ¬ a = b by omega), decide_eq_false (show ¬ r + p * a < s + p * b by omega)]; rfl
theorem ltL_be : ∀ n u v, ltL (be n u) (be n v) = decide (u % 256 ^ n < v % 256 ^ n)
  | 0, _, _ => by simp [be, ltL, Nat.mod_one]
  | n + 1, u, v => by
    show (decide (((u / 256 ^ n % 256 : Nat) : Int) < ((v / 256 ^ n % 256 : Nat) : Int)) || (decide (((u / 256 ^ n % 256 : Nat) : Int) = ((v / 256 ^ n % 256 : Nat) : Int)) && ltL (be n u) (be n v))) = _
    rw [ltL_be n u v, mod_step, mod_step]
    have hp : 0 < 256 ^ n := Nat.pow_pos (by decide)
    rw [← lt_step (Nat.mod_lt u hp) (Nat.mod_lt v hp)]
    congr 2
    · simp only [Int.ofNat_lt]
    · simp only [Int.natCast_inj]
theorem be_eq {u v : Nat} : ∀ n, be n u = be n v → u % 256 ^ n = v % 256 ^ n
  | 0, _ => by simp [Nat.mod_one]
  | n + 1, h => by
    have h : ((u / 256 ^ n % 256 : Nat) : Int) :: be n u = ((v / 256 ^ n % 256 : Nat) : Int) :: be n v := h
    injection h with h1 h2
    rw [mod_step, mod_step, be_eq n h2, Int.natCast_inj.1 h1]
theorem beqL_be {u v : Nat} (hu : u < 18446744073709551616) (hv : v < 18446744073709551616) : beqL (be 8 u) (be 8 v) = decide (u = v) := by
  unfold beqL
  by_cases h : u = v
  · subst h; simp
  · have : ¬ be 8 u = be 8 v := fun e => h (by have := be_eq 8 e; omega)
    simp [h, this]
theorem shr_is {u j : Nat} (hj : j < 8) : shrK .u64 (u : Int) (wr .i64 (8 * (j : Int))) = some (((u / 256 ^ j : Nat)) : Int) := by
  rw [wr_i64 (by omega)]
  have hj : j = 0 ∨ j = 1 ∨ j = 2 ∨ j = 3 ∨ j = 4 ∨ j = 5 ∨ j = 6 ∨ j = 7 := by omega
  rcases hj with rfl | rfl | rfl | rfl | rfl | rfl | rfl | rfl <;> rfl
theorem set_last (m : Nat) (l : List Int) (x : Int) : (List.replicate (m + 1) (0 : Int) ++ l).set m x = List.replicate m 0 ++ x :: l := by
  rw [List.replicate_succ', List.append_assoc, List.set_append_right _ _ (by simp)]
  simp
theorem put_loop (k : Nat) {u w : Nat} (hw : w ≤ 8) : ∀ n j, j ≤ w → w - j < n → num_Put_l0 k n (u : Int) (w : Int) (w : Int) (j : Int) (List.replicate (w - j) 0 ++ be j u) = some ((), ((be w u, ()), ()))
  | 0, _, _, h => absurd h (Nat.not_lt_zero _)
  | n + 1, j, hj, hn => by
    rw [num_Put_l0_eq]
    by_cases c : j < w
    · obtain ⟨m, hm⟩ : ∃ m, w - j = m + 1 := ⟨w - j - 1, by omega⟩
      have e1 : wr .i64 (wr .i64 ((w : Int) - 1) - (j : Int)) = (m : Int) := by
        rw [wr_i64 (n := (w : Int) - 1) (by omega), wr_i64 (by omega)]; omega
      have hlen : (List.replicate (w - j) (0 : Int) ++ be j u).length = w := by simp [be_length]; omega
      have e2 : wr .u8 (((u / 256 ^ j : Nat)) : Int) = ((u / 256 ^ j % 256 : Nat) : Int) := by rw [wrm_u8]; rfl
      rw [bif_true (by simp; omega), shr_is (by omega), Option.bind_some, e1, hlen, must_true (by unfold inI; simp; omega), must_true (by simp [Nat.blt]; omega), e2, wr_i64 (by omega), hm, Int.toNat_natCast, set_last]
      have ih := put_loop k (u := u) hw n (j + 1) c (by omega)
      have e3 : w - (j + 1) = m := by omega
      rw [e3] at ih
      exact ih
    · have : j = w := by omega
      subst this
      rw [bif_false (by simp)]
      simp
theorem num_Put_is (k : Nat) {u w : Nat} (hw : w ≤ 8) : num_Put (k + 10) (u : Int) (w : Int) = some ((), ((be w u, ()), ())) := by
  rw [num_Put_eq, bif_false (by simp), bif_false (by simp; omega), must_true (by simp [beqI]), Int.toNat_natCast, lim_ok (by omega)]
  have := put_loop (k + 10) (u := u) hw (k + 10) 0 (by omega) (by omega)
  simpa [be] using this
def ofN (s : Nat) (x : Int) : Nat := (s * 256 + x.toNat) % 18446744073709551616
theorem ofN_lt (s : Nat) (x : Int) : ofN s x < 18446744073709551616 := Nat.mod_lt _ (by decide)
theorem or_add {a x : Nat} (h : x < 256) : (a * 256) ||| x = a * 256 + x := by
  have := Nat.two_pow_add_eq_or_of_lt (i := 8) h a
  rw [Nat.mul_comm a 256]
  exact this.symm
theorem of_step {s : Nat} {x : Int} (hs : s < 18446744073709551616) (hx : (Lit.int .u8 x).wf = true) : Go.bits .or .u64 (wr .u64 ((s : Int) * 256)) (wr .u64 x) = ((ofN s x : Nat) : Int) := by
  have := wf_u8 hx
  obtain ⟨y, rfl⟩ := Int.eq_ofNat_of_zero_le this.1
  have e1 : wr .u64 ((s : Int) * 256) = (((s % 72057594037927936) * 256 : Nat) : Int) := by rw [wrm_u64]; omega
  rw [e1, wr_u64 (n := (y : Int)) (by omega), u64_or_nat _ _ (by omega) (by omega), or_add (by omega)]
  unfold ofN
  rw [Int.toNat_natCast]
  omega
theorem num_Of_is (k : Nat) {l : List Int} (hl : ∀ x ∈ l, (Lit.int .u8 x).wf = true) (hn : l.length < k + 10) (hm : l.length ≤ 4611686018427387904) : num_Of (k + 10) l = some (((l.foldl ofN 0 : Nat) : Int), ()) := by
  rw [num_Of_eq]
  have := foldLoop l (fun n (s : Nat) j => num_Of_l0 (k + 10) n (s : Int) l (l.length : Int) j) ofN (fun s => some ((s : Int), ())) (fun s => s < 18446744073709551616) (fun s x _ _ => ofN_lt s x)
    (fun n s j x hs hx => by
      show num_Of_l0 (k + 10) (n + 1) _ _ _ _ = num_Of_l0 (k + 10) n _ _ _ _
      have hj : j < l.length := (List.getElem?_eq_some_iff.1 hx).1
      rw [num_Of_l0_eq, bif_true (by simp; omega), nth_get hx, Option.bind_some, of_step hs (hl x (List.mem_of_getElem? hx)), wr_next hj hm])
    (fun n s hs => by
      show num_Of_l0 (k + 10) (n + 1) _ _ _ _ = _
      rw [num_Of_l0_eq, bif_false (by simp)])
    (k + 10) 0 0 (by omega) (by omega) (by omega)
  rw [List.drop_zero] at this
  exact this
theorem fold_be (u : Nat) : ∀ (n s : Nat), s < 18446744073709551616 → (be n u).foldl ofN s = (s * 256 ^ n + u % 256 ^ n) % 18446744073709551616
  | 0, s, h => by simp [be, Nat.mod_one]; omega
  | n + 1, s, h => by
    show (be n u).foldl ofN (ofN s ((u / 256 ^ n % 256 : Nat) : Int)) = _
    rw [fold_be u n _ (ofN_lt _ _), mod_step]
    unfold ofN
    rw [Int.toNat_natCast, Nat.add_mod, Nat.mod_mul_mod, ← Nat.add_mod]
    congr 1
    rw [Nat.pow_succ, Nat.add_mul]
    have h1 : s * 256 * 256 ^ n = s * (256 ^ n * 256) := by ac_rfl
    have h2 : u / 256 ^ n % 256 * 256 ^ n = 256 ^ n * (u / 256 ^ n % 256) := Nat.mul_comm _ _
    omega
/-! ### Frames -/
def sumN (h b : List Int) : Nat := 4294967295 ^^^ (h ++ b).foldl stp 4294967295
def Bytes (l : List Int) : Prop := ∀ x ∈ l, (Lit.int .u8 x).wf = true
theorem Bytes.app {a b : List Int} (h : Bytes a) (h2 : Bytes b) : Bytes (a ++ b) := fun x hx => by
  rcases List.mem_append.1 hx with hx | hx
  · exact h x hx
  · exact h2 x hx
theorem Bytes.take {a : List Int} (h : Bytes a) (n : Nat) : Bytes (a.take n) := fun x hx => h x (List.mem_of_mem_take hx)
theorem Bytes.drop {a : List Int} (h : Bytes a) (n : Nat) : Bytes (a.drop n) := fun x hx => h x (List.mem_of_mem_drop hx)
theorem sumN_lt {h b : List Int} (hh : Bytes h) (hb : Bytes b) : sumN h b < 4294967296 := xorlt32 (by omega) (fold_lt (hh.app hb) (by omega))
def frm (b : List Int) : List Int := be 4 b.length ++ be 4 (sumN (be 4 b.length) b) ++ b
theorem frm_length (b : List Int) : (frm b).length = 8 + b.length := by unfold frm; simp [be_length]; omega
theorem frm_bytes {b : List Int} (h : Bytes b) : Bytes (frm b) := Bytes.app (Bytes.app (fun x hx => be_wf _ _ x hx) (fun x hx => be_wf _ _ x hx)) h
theorem frame_sum_is (k : Nat) {h b : List Int} (hh : Bytes h) (hb : Bytes b) (h1 : h.length ≤ 65536) (h2 : b.length ≤ 65536) : frame_sum (k + 70000) h b = some (((sumN h b : Nat) : Int), ()) := by
  have f1 := fold_lt hh (c := 4294967295) (by omega)
  rw [frame_sum_eq, show crc_More (k + 70000) (4294967295 : Int) h = _ from crc_More_is (k + 69990) (c := 4294967295) (by omega) hh (by omega) (by omega), Option.bind_some,
    show crc_More (k + 70000) _ b = _ from crc_More_is (k + 69990) f1 hb (by omega) (by omega), Option.bind_some, ones32 (fold_lt hb f1)]
  unfold sumN
  rw [List.foldl_append]
theorem frame_Size_is (k : Nat) {n : Nat} (h : n ≤ 65536) : frame_Size k (n : Int) = some (((8 + n : Nat) : Int), ()) := by
  rw [frame_Size_eq, bf (by omega), bf (by omega), wr_i64 (by omega)]; congr 2
theorem be4_of {l : List Int} (hl : l.length = 4) (hw : Bytes l) : be 4 (l.foldl ofN 0) = l ∧ l.foldl ofN 0 < 4294967296 := by
  obtain ⟨a, b, c, d, rfl⟩ : ∃ a b c d, l = [a, b, c, d] := by
    match l, hl with
    | [a, b, c, d], _ => exact ⟨a, b, c, d, rfl⟩
  have ha := wf_u8 (hw a (by simp))
  have hb := wf_u8 (hw b (by simp))
  have hc := wf_u8 (hw c (by simp))
  have hd := wf_u8 (hw d (by simp))
  obtain ⟨a, rfl⟩ := Int.eq_ofNat_of_zero_le ha.1
  obtain ⟨b, rfl⟩ := Int.eq_ofNat_of_zero_le hb.1
  obtain ⟨c, rfl⟩ := Int.eq_ofNat_of_zero_le hc.1
  obtain ⟨d, rfl⟩ := Int.eq_ofNat_of_zero_le hd.1
  have e : [(a : Int), b, c, d].foldl ofN 0 = ((a * 256 + b) * 256 + c) * 256 + d := by
    simp only [List.foldl, ofN, Int.toNat_natCast]; omega
  rw [e]
  refine ⟨?_, by omega⟩
  have e1 : (((a * 256 + b) * 256 + c) * 256 + d) / 256 ^ 3 % 256 = a := by rw [show (256 : Nat) ^ 3 = 16777216 by decide]; omega
  have e2 : (((a * 256 + b) * 256 + c) * 256 + d) / 256 ^ 2 % 256 = b := by rw [show (256 : Nat) ^ 2 = 65536 by decide]; omega
  have e3 : (((a * 256 + b) * 256 + c) * 256 + d) / 256 ^ 1 % 256 = c := by rw [show (256 : Nat) ^ 1 = 256 by decide]; omega
  have e4 : (((a * 256 + b) * 256 + c) * 256 + d) / 256 ^ 0 % 256 = d := by rw [show (256 : Nat) ^ 0 = 1 by decide]; omega
  unfold be be be be be
  rw [e1, e2, e3, e4]
theorem of_be4 {u : Nat} (h : u < 4294967296) : (be 4 u).foldl ofN 0 = u := by
  rw [fold_be u 4 0 (by omega), show (256 : Nat) ^ 4 = 4294967296 by decide]; omega
def err50 : List Int × (Int × (Int × Unit)) := ([], ((0 : Int), ((50 : Int), ())))
def ofT (f : List Int) : List Int × (Int × (Int × Unit)) :=
  if f.length < 8 then err50
  else if 65536 < (f.take 4).foldl ofN 0 then err50
  else if f.length - 8 < (f.take 4).foldl ofN 0 then err50
  else if sumN (f.take 4) ((f.take (8 + (f.take 4).foldl ofN 0)).drop 8) = ((f.take 8).drop 4).foldl ofN 0 then ((f.take (8 + (f.take 4).foldl ofN 0)).drop 8, (((8 + (f.take 4).foldl ofN 0 : Nat) : Int), ((0 : Int), ())))
  else err50
theorem cut_lit {l : List Int} (a b : Int) (m n : Nat) (ha : a = m) (hb : b = n) (h1 : m ≤ n) (h2 : n ≤ l.length) : cut l a b = some ((l.take n).drop m) := by
  subst ha hb; exact cut_ok h1 h2
theorem frame_Of_is (k : Nat) {f : List Int} (hf : Bytes f) (hl : f.length ≤ 1099511627776) : frame_Of (k + 70000) f = some (ofT f, ()) := by
  rw [frame_Of_eq]
  unfold ofT
  by_cases c : f.length < 8
  · rw [bt (by omega), if_pos c]; rfl
  rw [bf (by omega), if_neg c]
  have l4 : (f.take 4).length = 4 := by simp; omega
  have l8 : ((f.take 8).drop 4).length = 4 := by simp; omega
  have w4 := hf.take 4
  have w8 := (hf.take 8).drop 4
  obtain ⟨_, n4⟩ := be4_of l4 w4
  obtain ⟨_, n8⟩ := be4_of l8 w8
  rw [must_true (by decide), cut_lit 0 4 0 4 rfl rfl (by omega) (by omega), Option.bind_some, must_true (by decide), cut_lit 4 8 4 8 rfl rfl (by omega) (by omega), Option.bind_some, List.drop_zero,
    show num_Of (k + 70000) _ = _ from num_Of_is (k + 69990) w8 (by omega) (by omega), Option.bind_some, show num_Of (k + 70000) _ = _ from num_Of_is (k + 69990) w4 (by omega) (by omega), Option.bind_some]
  obtain ⟨n, hn⟩ : ∃ n, n = (f.take 4).foldl ofN 0 := ⟨_, rfl⟩
  obtain ⟨s, hs⟩ : ∃ s, s = ((f.take 8).drop 4).foldl ofN 0 := ⟨_, rfl⟩
  rw [← hn] at n4 ⊢
  rw [← hs] at n8 ⊢
  by_cases c2 : 65536 < n
  · rw [bt (by omega), if_pos c2]; rfl
  rw [bf (by omega), if_neg c2, wr_i64 (n := (f.length : Int) - 8) (by omega), wr_u64 (n := (f.length : Int) - 8) (by omega)]
  by_cases c3 : f.length - 8 < n
  · rw [bt (by omega), if_pos c3]; rfl
  rw [bf (by omega), if_neg c3, must_true (by simp [beqI]), wr_i64 (n := (n : Int)) (by omega), wr_i64 (n := 8 + (n : Int)) (by omega), cut_lit 8 (8 + (n : Int)) 8 (8 + n) rfl (by omega) (by omega) (by omega), Option.bind_some]
  have lb : ((f.take (8 + n)).drop 8).length = n := by simp; omega
  have wb := (hf.take (8 + n)).drop 8
  rw [frame_sum_is k w4 wb (by omega) (by omega), Option.bind_some, wr_u32 (n := (s : Int)) (by omega)]
  by_cases c4 : sumN (f.take 4) ((f.take (8 + n)).drop 8) = s
  · rw [c4, if_pos rfl, bif_false (by simp), lim_ok (by omega), List.nil_append]
    congr 4
  · rw [if_neg c4, bif_true (by simp; omega)]; rfl
theorem frame_Put_is (k : Nat) {b : List Int} (hb : Bytes b) (hl : b.length ≤ 65536) : frame_Put (k + 70000) b = some ((), ((frm b, ()), ())) := by
  have wh : Bytes (be 4 b.length) := fun x hx => be_wf _ _ x hx
  have hs := sumN_lt wh hb
  rw [frame_Put_eq, frame_Size_is _ hl, Option.bind_some, bf (by omega), wr_u64 (n := (b.length : Int)) (by omega),
    show num_Put (k + 70000) (b.length : Int) (4 : Int) = _ from num_Put_is (k + 69990) (u := b.length) (w := 4) (by omega)]
  simp only [Option.bind_some]
  rw [frame_sum_is k wh hb (by rw [be_length]; omega) hl, Option.bind_some, wr_u64 (by omega),
    show num_Put (k + 70000) _ (4 : Int) = _ from num_Put_is (k + 69990) (u := sumN (be 4 b.length) b) (w := 4) (by omega)]
  simp only [Option.bind_some]
  rw [lim_ok (by simp [be_length]), lim_ok (by simp [be_length]; omega)]
  rfl
theorem awake05_is (k : Nat) : law05_awake (k + 70000) = some (true, ()) := by
  rw [law05_awake_eq, frame_Put_is k (by unfold Bytes; decide) (by simp), Option.bind_some, show frame_Size (k + 70000) (3 : Int) = _ from frame_Size_is _ (n := 3) (by omega), Option.bind_some]
  decide +kernel
theorem take_split {f : List Int} {n : Nat} (h : 8 + n ≤ f.length) : f.take (8 + n) = f.take 4 ++ (f.take 8).drop 4 ++ (f.take (8 + n)).drop 8 := by
  have h1 : f.take 8 = f.take 4 ++ (f.take 8).drop 4 := by
    have := List.take_append_drop 4 (f.take 8)
    rw [List.take_take] at this
    exact this.symm
  have h2 : f.take (8 + n) = f.take 8 ++ (f.take (8 + n)).drop 8 := by
    have := List.take_append_drop 8 (f.take (8 + n))
    rw [List.take_take, Nat.min_eq_left (by omega)] at this
    exact this.symm
  rw [← h1]; exact h2
theorem ofT_cases {f : List Int} (hf : Bytes f) : ofT f = err50 ∨ ∃ b, Bytes b ∧ b.length ≤ 65536 ∧ 8 + b.length ≤ f.length ∧ f.take (8 + b.length) = frm b ∧ ofT f = (b, (((8 + b.length : Nat) : Int), ((0 : Int), ()))) := by
  unfold ofT
  by_cases c : f.length < 8
  · exact .inl (if_pos c)
  rw [if_neg c]
  have l4 : (f.take 4).length = 4 := by simp; omega
  have l8 : ((f.take 8).drop 4).length = 4 := by simp; omega
  have w4 := hf.take 4
  have w8 := (hf.take 8).drop 4
  obtain ⟨b4, n4⟩ := be4_of l4 w4
  obtain ⟨b8, n8⟩ := be4_of l8 w8
  obtain ⟨n, hn⟩ : ∃ n, n = (f.take 4).foldl ofN 0 := ⟨_, rfl⟩
  obtain ⟨s, hs⟩ : ∃ s, s = ((f.take 8).drop 4).foldl ofN 0 := ⟨_, rfl⟩
  rw [← hn] at n4 b4 ⊢
  rw [← hs] at n8 b8 ⊢
  by_cases c2 : 65536 < n
  · exact .inl (if_pos c2)
  rw [if_neg c2]
  by_cases c3 : f.length - 8 < n
  · exact .inl (if_pos c3)
  rw [if_neg c3]
  have lb : ((f.take (8 + n)).drop 8).length = n := by simp; omega
  have wb := (hf.take (8 + n)).drop 8
  by_cases c4 : sumN (f.take 4) ((f.take (8 + n)).drop 8) = s
  · refine .inr ⟨(f.take (8 + n)).drop 8, wb, by omega, by omega, ?_, ?_⟩
    · rw [lb]
      refine (take_split (by omega)).trans ?_
      unfold frm
      rw [lb, b4, c4, b8]
    · rw [if_pos c4, lb]
  · exact .inl (if_neg c4)
theorem shl_is (n : Nat) : shlK .u8 1 ((n % 8 : Nat) : Int) = some (((2 ^ (n % 8) : Nat)) : Int) := by
  have : n % 8 < 8 := Nat.mod_lt _ (by decide)
  generalize n % 8 = m at *
  have : m = 0 ∨ m = 1 ∨ m = 2 ∨ m = 3 ∨ m = 4 ∨ m = 5 ∨ m = 6 ∨ m = 7 := by omega
  rcases this with rfl | rfl | rfl | rfl | rfl | rfl | rfl | rfl <;> decide +kernel
theorem xor_left_inj {c x y : Nat} (e : c ^^^ x = c ^^^ y) : x = y := by
  have := congrArg (c ^^^ ·) e
  simpa [← Nat.xor_assoc] using this
theorem flip_ne {x : Int} (h : (Lit.int .u8 x).wf = true) (n : Nat) : x ≠ Go.bits .xor .u8 x (((2 ^ (n % 8) : Nat)) : Int) := by
  have b := wf_u8 h
  have hp : 2 ^ (n % 8) < 256 := Nat.pow_lt_pow_right (a := 2) (m := n % 8) (n := 8) (by decide) (Nat.mod_lt _ (by decide))
  have hq : 0 < 2 ^ (n % 8) := Nat.pow_pos (by decide)
  generalize 2 ^ (n % 8) = q at *
  intro e
  obtain ⟨m, rfl⟩ := Int.eq_ofNat_of_zero_le b.1
  rw [show Go.bits .xor .u8 (m : Int) (q : Int) = ((m ^^^ q : Nat) : Int) from u8_xor_nat m q (by omega) (by omega)] at e
  have e : m = m ^^^ q := by omega
  have : m ^^^ 0 = m ^^^ q := by rw [Nat.xor_zero]; exact e
  have := xor_left_inj this
  omega
theorem FrameBits_true (l : List Int) (a1 : Int) (h : ∀ x ∈ l, (Lit.int .u8 x).wf = true) (h1 : (Lit.int .i64 a1).wf = true) : law05_FrameBits 100000 l a1 = some (true, ()) := by
  rw [law05_FrameBits_eq, awake05_is 30000]
  simp only [Option.bind_some, Bool.not_true, cond_false]
  by_cases c : 200 < (l.length : Int)
  · obtain ⟨r, hr⟩ : ∃ r, frame_Put 100000 l = some r := by
      by_cases c2 : l.length ≤ 65536
      · exact ⟨_, frame_Put_is 30000 h c2⟩
      · exact ⟨_, by rw [frame_Put_eq, frame_Size_eq, bf (by omega), bt (by omega), Option.bind_some, bt rfl]⟩
    rw [hr, Option.bind_some, bt c]
  rw [frame_Put_is 30000 h (by omega), Option.bind_some, bf c]
  have hF := frm_bytes h
  have hlen := frm_length l
  have hfr : frm l = frm l := rfl
  by_cases d : a1 < 0
  · rw [bt d]
  show (bif decide (a1 < 0) then some (true, ()) else bif decide ((wr .i64 (8 * ((frm l).length : Int))) ≤ a1) then some (true, ()) else _) = _
  rw [bf d, wr_i64 (n := 8 * ((frm l).length : Int)) (by omega)]
  by_cases d2 : 8 * ((frm l).length : Int) ≤ a1
  · rw [bt d2]
  rw [bf d2]
  obtain ⟨n, rfl⟩ := Int.eq_ofNat_of_zero_le (show 0 ≤ a1 by omega)
  have e1 : wr .i64 (Int.tdiv (n : Int) 8) = ((n / 8 : Nat) : Int) := by
    have : Int.tdiv (n : Int) 8 = ((n / 8 : Nat) : Int) := rfl
    rw [this, wr_i64 (by omega)]
  have e2 : wr .u64 (Int.tmod (n : Int) 8) = ((n % 8 : Nat) : Int) := by
    have : Int.tmod (n : Int) 8 = ((n % 8 : Nat) : Int) := rfl
    rw [this, wr_u64 (by omega)]
  have hi : n / 8 < (frm l).length := by omega
  have hx : (frm l)[n / 8]? = some (frm l)[n / 8] := List.getElem?_eq_getElem hi
  have hin : inI ((n / 8 : Nat) : Int) (frm l).length = true := by unfold inI; simp; omega
  simp only [e1, e2, must_true hin, Int.toNat_natCast, hx, Option.bind_some, shl_is, must_true (show Nat.blt (n / 8) (frm l).length = true by simp [Nat.blt]; omega)]
  have hwx := hF _ (List.getElem_mem hi)
  have hwy : (Lit.int .u8 (Go.bits .xor .u8 (frm l)[n / 8] (((2 ^ (n % 8) : Nat)) : Int))).wf = true := wf_bits _ _ _ _
  have hne := flip_ne hwx n
  generalize Go.bits .xor .u8 (frm l)[n / 8] (((2 ^ (n % 8) : Nat)) : Int) = y at *
  have hset : Bytes ((frm l).set (n / 8) y) := by
    intro x hx
    rcases List.mem_or_eq_of_mem_set hx with hx | rfl
    · exact hF x hx
    · exact hwy
  rw [frame_Of_is 30000 hset (by simp; omega), Option.bind_some]
  rcases ofT_cases hset with e | ⟨b, _, _, k3, k4, e⟩
  · rw [e]; exact bt rfl
  · rw [e]; dsimp only; rw [bf (by decide)]
    have : ¬ b = l := by
      intro hb
      subst hb
      rw [← hlen, show (frm b).length = ((frm b).set (n / 8) y).length by simp, List.take_length] at k4
      have h1 : ((frm b).set (n / 8) y)[n / 8]? = some y := by rw [List.getElem?_set_self hi]
      rw [k4, hx] at h1
      exact hne (Option.some.inj h1)
    simp [beqL, this]
end Go.Proofs.Ytnojkokhfmgcfaa.Den
