import Derived.Test.YtjilcpjapnngfaaDWalAdds
import Derived.Test.YtjilcpjapnngfaaDen34
namespace Go.Proofs.Ytjilcpjapnngfaa.Den
open Go Go.RowKit
set_option linter.unusedVariables false
attribute [local irreducible] crc_More crc_More_l0 crc_Step crc_turn crc_turn_l0 disk_Disk_Append disk_Disk_Append_j0 disk_Disk_Bytes disk_Disk_Cut disk_Disk_Swap disk_Disk_Sync disk_Disk_Synced disk_Disk_ok disk_Disk_room disk_New frame_All frame_All_l0 frame_Of frame_Put frame_Size frame_sum law07_WalAdds law07_awake law07_few law07_few_l0 num_Of num_Of_l0 num_Put num_Put_l0 ref01_Frame ref01_Put ref01_Put_l0 ref01_Step ref01_Step_j0 ref01_Step_l0 ref01_Sum ref01_Sum_l0 ref06_Disk_Add ref06_Disk_Append ref06_Disk_Rewrite ref06_Disk_Swap ref06_Disk_Sync ref06_Frames ref06_Frames_l0 ref06_NewDisk ref06_NewDisk_j0 wal_Frames wal_Frames_l0 wal_Open wal_Records wal_Wal_Add wal_Wal_Add_nil wal_Wal_Rewrite wal_Wal_Rewrite_nil wal_Wal_Size wal_Wal_Size_nil wal_Wal_ok wal_Wal_ok_nil
/-! ### Sums -/
def tnN (x : Nat) : Nat := (x / 2) ^^^ (if x % 2 = 1 then 2197175160 else 0)
theorem tnN_lt {x : Nat} (h : x < 4294967296) : tnN x < 4294967296 := by
  unfold tnN; exact xorlt32 (by omega) (by split <;> omega)
theorem tnN_xor (x y : Nat) : tnN (x ^^^ y) = tnN x ^^^ tnN y := by
  have h1 := Nat.xor_mod_two_pow (a := x) (b := y) (n := 1)
  have h2 := Nat.xor_div_two_pow (a := x) (b := y) (n := 1)
  simp only [Nat.pow_one] at h1 h2
  unfold tnN
  rw [h1, h2]
  have e : (if (x % 2 ^^^ y % 2) = 1 then 2197175160 else 0) = (if x % 2 = 1 then 2197175160 else 0) ^^^ (if y % 2 = 1 then 2197175160 else 0) := by
    rcases Nat.mod_two_eq_zero_or_one x with a | a <;> rcases Nat.mod_two_eq_zero_or_one y with b | b <;> rw [a, b] <;> decide
  rw [e]
  ac_rfl
def tn8 (x : Nat) : Nat := Nat.repeat tnN 8 x
theorem rep_lt {x : Nat} (h : x < 4294967296) : ∀ n, Nat.repeat tnN n x < 4294967296
  | 0 => h
  | n + 1 => tnN_lt (rep_lt h n)
theorem rep_xor (x y : Nat) : ∀ n, Nat.repeat tnN n (x ^^^ y) = Nat.repeat tnN n x ^^^ Nat.repeat tnN n y
  | 0 => rfl
  | n + 1 => by show tnN _ = tnN _ ^^^ tnN _; rw [rep_xor x y n, tnN_xor]
theorem tn8_lt {x : Nat} (h : x < 4294967296) : tn8 x < 4294967296 := rep_lt h 8
theorem tn8_xor (x y : Nat) : tn8 (x ^^^ y) = tn8 x ^^^ tn8 y := rep_xor x y 8
/-- A sum and a byte more. -/
def stp (c : Nat) (x : Int) : Nat := tn8 (c ^^^ x.toNat)
theorem stp_lt {c : Nat} {x : Int} (h : c < 4294967296) (hx : (Lit.int .u8 x).wf = true) : stp c x < 4294967296 := by
  have := wf_u8 hx
  exact tn8_lt (xorlt32 h (by omega))

theorem turn_one {x : Nat} (h : x < 4294967296) : Go.bits .xor .u32 ((x : Int) / 2) (Go.bits .and .u32 2197175160 (wr .u32 (0 - (Go.bits .and .u32 (x : Int) 1)))) = ((tnN x : Nat) : Int) := by
  have e := and32 h (b := 1) (by omega)
  rw [Nat.and_one_is_mod] at e
  have e : Go.bits .and .u32 (x : Int) 1 = ((x % 2 : Nat) : Int) := e
  have e2 : ((x : Int) / 2) = ((x / 2 : Nat) : Int) := by omega
  rw [e, e2]
  unfold tnN
  rcases Nat.mod_two_eq_zero_or_one x with a | a
  · rw [a, show Go.bits .and .u32 2197175160 (wr .u32 (0 - ((0 : Nat) : Int))) = ((0 : Nat) : Int) by decide +kernel, xor32 (by omega) (by omega)]; rfl
  · rw [a, show Go.bits .and .u32 2197175160 (wr .u32 (0 - ((1 : Nat) : Int))) = ((2197175160 : Nat) : Int) by decide +kernel, xor32 (by omega) (by omega)]; rfl

theorem crc_turn_is (k : Nat) {x : Nat} (h : x < 4294967296) : crc_turn (k + 10) (x : Int) = some (((tn8 x : Nat) : Int), ()) := by
  rw [crc_turn_eq]
  have := countLoop 8 (fun n (s : Nat) j => crc_turn_l0 (k + 10) n (s : Int) j) tnN (fun s => some ((s : Int), ())) (fun s => s < 4294967296) (fun s => tnN_lt)
    (fun n s j hs hj => by
      show crc_turn_l0 (k + 10) (n + 1) _ _ = crc_turn_l0 (k + 10) n _ _
      rw [crc_turn_l0_eq, bif_true (by simp; omega), turn_one hs, wr_i64 (by omega)]; rfl)
    (fun n s hs => by
      show crc_turn_l0 (k + 10) (n + 1) _ _ = _
      rw [crc_turn_l0_eq, bif_false (by decide)])
    (k + 10) x 0 h (by omega) (by omega)
  exact this
theorem mix {c : Nat} {x : Int} (h : c < 4294967296) (hx : (Lit.int .u8 x).wf = true) : Go.bits .xor .u32 (c : Int) (wr .u32 x) = ((c ^^^ x.toNat : Nat) : Int) := by
  have := wf_u8 hx
  rw [wr_u32 (by omega)]
  have e : x = ((x.toNat : Nat) : Int) := by omega
  conv => lhs; rw [e]
  exact xor32 h (by omega)
theorem crc_Step_is (k : Nat) {c : Nat} {x : Int} (h : c < 4294967296) (hx : (Lit.int .u8 x).wf = true) : crc_Step (k + 10) (c : Int) x = some (((stp c x : Nat) : Int), ()) := by
  have := wf_u8 hx
  rw [crc_Step_eq, mix h hx, crc_turn_is k (xorlt32 h (by omega))]; rfl
theorem crc_More_is (k : Nat) {c : Nat} {l : List Int} (h : c < 4294967296) (hl : ∀ x ∈ l, (Lit.int .u8 x).wf = true) (hn : l.length < k + 10) (hm : l.length ≤ 4611686018427387904) :
    crc_More (k + 10) (c : Int) l = some (((l.foldl stp c : Nat) : Int), ()) := by
  rw [crc_More_eq]
  have := foldLoop l (fun n (s : Nat) j => crc_More_l0 (k + 10) n (s : Int) l (l.length : Int) j) stp (fun s => some ((s : Int), ())) (fun s => s < 4294967296) (fun s x hs hx => stp_lt hs (hl x hx))
    (fun n s j x hs hx => by
      show crc_More_l0 (k + 10) (n + 1) _ _ _ _ = crc_More_l0 (k + 10) n _ _ _ _
      have hj : j < l.length := (List.getElem?_eq_some_iff.1 hx).1
      rw [crc_More_l0_eq, bif_true (by simp; omega), nth_get hx, Option.bind_some, crc_Step_is k hs (hl x (List.mem_of_getElem? hx)), Option.bind_some, wr_next hj hm])
    (fun n s hs => by
      show crc_More_l0 (k + 10) (n + 1) _ _ _ _ = _
      rw [crc_More_l0_eq, bif_false (by simp)])
    (k + 10) c 0 h (by omega) (by omega)
  rw [List.drop_zero] at this
  exact this
theorem fold_lt {l : List Int} (hl : ∀ x ∈ l, (Lit.int .u8 x).wf = true) {c : Nat} (h : c < 4294967296) : l.foldl stp c < 4294967296 := by
  induction l generalizing c with
  | nil => exact h
  | cons x l ih => exact ih (fun y hy => hl y (List.mem_cons_of_mem _ hy)) (stp_lt h (hl x (List.mem_cons_self)))
theorem ones32 {n : Nat} (h : n < 4294967296) : Go.bits .xor .u32 4294967295 (n : Int) = ((4294967295 ^^^ n : Nat) : Int) := xor32 (a := 4294967295) (by omega) h
theorem ref01_Step_is (k : Nat) {c : Nat} {x : Int} (h : c < 4294967296) (hx : (Lit.int .u8 x).wf = true) : ref01_Step (k + 10) (c : Int) x = some (((stp c x : Nat) : Int), ()) := by
  have hb := wf_u8 hx
  rw [ref01_Step_eq, mix h hx]
  have := countLoop 8 (fun n (s : Nat) j => ref01_Step_l0 (k + 10) n (s : Int) j) tnN (fun s => some ((s : Int), ())) (fun s => s < 4294967296) (fun s => tnN_lt)
    (fun n s j hs hj => by
      show ref01_Step_l0 (k + 10) (n + 1) _ _ = ref01_Step_l0 (k + 10) n _ _
      rw [ref01_Step_l0_eq, bif_true (by simp; omega), ref01_Step_j0_eq (k + 9), ref01_Step_j0_eq (k + 9), wr_i64 (by omega)]
      have e1 : Int.tdiv (s : Int) 2 = ((s / 2 : Nat) : Int) := rfl
      have e2 : Int.tmod (s : Int) 2 = ((s % 2 : Nat) : Int) := rfl
      rw [e1, e2, wr_u32 (by omega)]
      unfold tnN
      rcases Nat.mod_two_eq_zero_or_one s with a | a
      · rw [a, bif_false (by decide)]
        simp
      · rw [a, bif_true (by decide)]
        have := xor32 (a := s / 2) (b := 2197175160) (by omega) (by omega)
        rw [show Go.bits .xor .u32 ((s / 2 : Nat) : Int) 2197175160 = ((s / 2 ^^^ 2197175160 : Nat) : Int) from this]
        simp)
    (fun n s hs => by
      show ref01_Step_l0 (k + 10) (n + 1) _ _ = _
      rw [ref01_Step_l0_eq, bif_false (by decide)])
    (k + 10) (c ^^^ x.toNat) 0 (xorlt32 h (by omega)) (by omega) (by omega)
  exact this
theorem ones_sub {n : Nat} (h : n < 4294967296) : 4294967295 ^^^ n = 4294967295 - n := by
  have e : n ^^^ 4294967295 = 4294967295 - n := by
    have := congrArg BitVec.toNat (BitVec.xor_allOnes (x := BitVec.ofNat 32 n))
    rw [BitVec.toNat_xor, BitVec.toNat_not, BitVec.toNat_allOnes, BitVec.toNat_ofNat] at this
    have hn : n % 2 ^ 32 = n := Nat.mod_eq_of_lt (by omega)
    rw [hn] at this
    simpa using this
  rw [Nat.xor_comm, e]
theorem ref01_Sum_is (k : Nat) {l : List Int} (hl : ∀ x ∈ l, (Lit.int .u8 x).wf = true) (hn : l.length < k + 10) (hm : l.length ≤ 4611686018427387904) :
    ref01_Sum (k + 10) l = some (((4294967295 ^^^ l.foldl stp 4294967295 : Nat) : Int), ()) := by
  rw [ref01_Sum_eq]
  have := foldLoop l (fun n (s : Nat) j => ref01_Sum_l0 (k + 10) n (s : Int) l (l.length : Int) j) stp (fun s => some ((wr .u32 (4294967295 - (s : Int))), ())) (fun s => s < 4294967296) (fun s x hs hx => stp_lt hs (hl x hx))
    (fun n s j x hs hx => by
      show ref01_Sum_l0 (k + 10) (n + 1) _ _ _ _ = ref01_Sum_l0 (k + 10) n _ _ _ _
      have hj : j < l.length := (List.getElem?_eq_some_iff.1 hx).1
      rw [ref01_Sum_l0_eq, bif_true (by simp; omega), nth_get hx, Option.bind_some, ref01_Step_is k hs (hl x (List.mem_of_getElem? hx)), Option.bind_some, wr_next hj hm])
    (fun n s hs => by
      show ref01_Sum_l0 (k + 10) (n + 1) _ _ _ _ = _
      rw [ref01_Sum_l0_eq, bif_false (by simp)])
    (k + 10) 4294967295 0 (by omega) (by omega) (by omega)
  rw [List.drop_zero] at this
  have hf := fold_lt hl (c := 4294967295) (by omega)
  rw [ones_sub hf]
  refine this.trans ?_
  rw [wr_u32 (by omega)]
  congr 2
  omega
/-! ### Bytes of a number -/
def be : Nat → Nat → List Int
  | 0, _ => []
  | n + 1, u => ((u / 256 ^ n % 256 : Nat) : Int) :: be n u
theorem be_length : ∀ n u, (be n u).length = n
  | 0, _ => rfl
  | n + 1, u => congrArg (· + 1) (be_length n u)
theorem be_wf : ∀ n u x, x ∈ be n u → (Lit.int .u8 x).wf = true
  | n + 1, u, x, h => by
    rcases List.mem_cons.1 h with rfl | h
    · have := Nat.mod_lt (u / 256 ^ n) (show 0 < 256 by decide)
      simp [Lit.wf, IntKind.min, IntKind.max, IntKind.signed, IntKind.bits]; omega
    · exact be_wf n u x h
theorem mod_step (u n : Nat) : u % 256 ^ (n + 1) = u % 256 ^ n + 256 ^ n * (u / 256 ^ n % 256) := by
  rw [Nat.pow_succ]; exact Nat.mod_mul
theorem lt_step {p a b r s : Nat} (hr : r < p) (hs : s < p) : (decide (a < b) || (decide (a = b) && decide (r < s))) = decide (r + p * a < s + p * b) := by
  rcases Nat.lt_trichotomy a b with h | h | h
  · have h1 := Nat.mul_le_mul_left p (show a + 1 ≤ b from h)
    rw [Nat.mul_succ] at h1
    rw [decide_eq_true h, decide_eq_true (show r + p * a < s + p * b by omega)]; rfl
  · subst h
    simp
  · have h1 := Nat.mul_le_mul_left p (show b + 1 ≤ a from h)
    rw [Nat.mul_succ] at h1
    rw [decide_eq_false (show ¬ a < b by omega), decide_eq_false (show ¬ a = b by omega), decide_eq_false (show ¬ r + p * a < s + p * b by omega)]; rfl
theorem ltL_be : ∀ n u v, ltL (be n u) (be n v) = decide (u % 256 ^ n < v % 256 ^ n)
  | 0, _, _ => by simp [be, ltL, Nat.mod_one]
  | n + 1, u, v => by
    show (decide (((u / 256 ^ n % 256 : Nat) : Int) < ((v / 256 ^ n % 256 : Nat) : Int)) || (decide (((u / 256 ^ n % 256 : Nat) : Int) = ((v / 256 ^ n % 256 : Nat) : Int)) && ltL (be n u) (be n v))) = _
    rw [ltL_be n u v, mod_step, mod_step]
    have hp : 0 < 256 ^ n := Nat.pow_pos (by decide)
    rw [← lt_step (Nat.mod_lt u hp) (Nat.mod_lt v hp)]
    congr 2
    · simp only [Int.ofNat_lt]
    · simp only [Int.natCast_inj]
theorem be_eq {u v : Nat} : ∀ n, be n u = be n v → u % 256 ^ n = v % 256 ^ n
  | 0, _ => by simp [Nat.mod_one]
  | n + 1, h => by
    have h : ((u / 256 ^ n % 256 : Nat) : Int) :: be n u = ((v / 256 ^ n % 256 : Nat) : Int) :: be n v := h
    injection h with h1 h2
    rw [mod_step, mod_step, be_eq n h2, Int.natCast_inj.1 h1]
theorem beqL_be {u v : Nat} (hu : u < 18446744073709551616) (hv : v < 18446744073709551616) : beqL (be 8 u) (be 8 v) = decide (u = v) := by
  unfold beqL
  by_cases h : u = v
  · subst h; simp
  · have : ¬ be 8 u = be 8 v := fun e => h (by have := be_eq 8 e; omega)
    simp [h, this]
theorem shr_is {u j : Nat} (hj : j < 8) : shrK .u64 (u : Int) (wr .i64 (8 * (j : Int))) = some (((u / 256 ^ j : Nat)) : Int) := by
  rw [wr_i64 (by omega)]
  have hj : j = 0 ∨ j = 1 ∨ j = 2 ∨ j = 3 ∨ j = 4 ∨ j = 5 ∨ j = 6 ∨ j = 7 := by omega
  rcases hj with rfl | rfl | rfl | rfl | rfl | rfl | rfl | rfl <;> rfl
theorem set_last (m : Nat) (l : List Int) (x : Int) : (List.replicate (m + 1) (0 : Int) ++ l).set m x = List.replicate m 0 ++ x :: l := by
  rw [List.replicate_succ', List.append_assoc, List.set_append_right _ _ (by simp)]
  simp
theorem put_loop (k : Nat) {u w : Nat} (hw : w ≤ 8) : ∀ n j, j ≤ w → w - j < n → num_Put_l0 k n (u : Int) (w : Int) (w : Int) (j : Int) (List.replicate (w - j) 0 ++ be j u) = some ((), ((be w u, ()), ()))
  | 0, _, _, h => absurd h (Nat.not_lt_zero _)
  | n + 1, j, hj, hn => by
    rw [num_Put_l0_eq]
    by_cases c : j < w
    · obtain ⟨m, hm⟩ : ∃ m, w - j = m + 1 := ⟨w - j - 1, by omega⟩
      have e1 : wr .i64 (wr .i64 ((w : Int) - 1) - (j : Int)) = (m : Int) := by
        rw [wr_i64 (n := (w : Int) - 1) (by omega), wr_i64 (by omega)]; omega
      have hlen : (List.replicate (w - j) (0 : Int) ++ be j u).length = w := by simp [be_length]; omega
      have e2 : wr .u8 (((u / 256 ^ j : Nat)) : Int) = ((u / 256 ^ j % 256 : Nat) : Int) := by rw [wrm_u8]; rfl
      rw [bif_true (by simp; omega), shr_is (by omega), Option.bind_some, e1, hlen, must_true (by unfold inI; simp; omega), must_true (by simp [Nat.blt]; omega), e2, wr_i64 (by omega), hm, Int.toNat_natCast, set_last]
      have ih := put_loop k (u := u) hw n (j + 1) c (by omega)
      have e3 : w - (j + 1) = m := by omega
      rw [e3] at ih
      exact ih
    · have : j = w := by omega
      subst this
      rw [bif_false (by simp)]
      simp
theorem num_Put_is (k : Nat) {u w : Nat} (hw : w ≤ 8) : num_Put (k + 10) (u : Int) (w : Int) = some ((), ((be w u, ()), ())) := by
  rw [num_Put_eq, bif_false (by simp), bif_false (by simp; omega), must_true (by simp [beqI]), Int.toNat_natCast, lim_ok (by omega)]
  have := put_loop (k + 10) (u := u) hw (k + 10) 0 (by omega) (by omega)
  simpa [be] using this
theorem refput_loop (k : Nat) {u w : Nat} (hu : u < 18446744073709551616) (hw : w ≤ 8) : ∀ n j b, j ≤ w → w - j < n → ref01_Put_l0 k n ((u / 256 ^ j : Nat) : Int) (w : Int) b (be j u) (j : Int) = some (be w u, ())
  | 0, _, _, _, h => absurd h (Nat.not_lt_zero _)
  | n + 1, j, b, hj, hn => by
    rw [ref01_Put_l0_eq]
    by_cases c : j < w
    · have e1 : Int.tmod ((u / 256 ^ j : Nat) : Int) 256 = ((u / 256 ^ j % 256 : Nat) : Int) := rfl
      have e2 : Int.tdiv ((u / 256 ^ j : Nat) : Int) 256 = ((u / 256 ^ j / 256 : Nat) : Int) := rfl
      have hm := Nat.mod_lt (u / 256 ^ j) (show 0 < 256 by decide)
      have hd := Nat.div_le_self u (256 ^ j)
      have hd2 := Nat.div_le_self (u / 256 ^ j) 256
      have e3 : u / 256 ^ j / 256 = u / 256 ^ (j + 1) := by rw [Nat.pow_succ, Nat.div_div_eq_div_mul]
      generalize hq : u / 256 ^ j = q at *
      rw [bif_true (by simp; omega), lim_ok (by rw [be_length]; simp; omega), e1, e2, wr_u8 (by omega), wr_u64 (by omega), wr_i64 (by omega), e3]
      subst hq
      exact refput_loop k hu hw n (j + 1) false c (by omega)
    · have : j = w := by omega
      subst this
      rw [bif_false (by simp)]
theorem ref01_Put_is (k : Nat) {u w : Nat} (hu : u < 18446744073709551616) (hw : w ≤ 8) : ref01_Put (k + 10) (u : Int) (w : Int) = some (be w u, ()) := by
  rw [ref01_Put_eq, bif_false (by simp), bif_false (by simp; omega)]
  have := refput_loop (k + 10) hu hw (k + 10) 0 true (by omega) (by omega)
  rw [Nat.pow_zero, Nat.div_one] at this
  exact this
def ofN (s : Nat) (x : Int) : Nat := (s * 256 + x.toNat) % 18446744073709551616
theorem ofN_lt (s : Nat) (x : Int) : ofN s x < 18446744073709551616 := Nat.mod_lt _ (by decide)
theorem or_add {a x : Nat} (h : x < 256) : (a * 256) ||| x = a * 256 + x := by
  have := Nat.two_pow_add_eq_or_of_lt (i := 8) h a
  rw [Nat.mul_comm a 256]
  exact this.symm
theorem of_step {s : Nat} {x : Int} (hs : s < 18446744073709551616) (hx : (Lit.int .u8 x).wf = true) : Go.bits .or .u64 (wr .u64 ((s : Int) * 256)) (wr .u64 x) = ((ofN s x : Nat) : Int) := by
  have := wf_u8 hx
  obtain ⟨y, rfl⟩ := Int.eq_ofNat_of_zero_le this.1
  have e1 : wr .u64 ((s : Int) * 256) = (((s % 72057594037927936) * 256 : Nat) : Int) := by rw [wrm_u64]; omega
  rw [e1, wr_u64 (n := (y : Int)) (by omega), u64_or_nat _ _ (by omega) (by omega), or_add (by omega)]
  unfold ofN
  rw [Int.toNat_natCast]
  omega
theorem num_Of_is (k : Nat) {l : List Int} (hl : ∀ x ∈ l, (Lit.int .u8 x).wf = true) (hn : l.length < k + 10) (hm : l.length ≤ 4611686018427387904) : num_Of (k + 10) l = some (((l.foldl ofN 0 : Nat) : Int), ()) := by
  rw [num_Of_eq]
  have := foldLoop l (fun n (s : Nat) j => num_Of_l0 (k + 10) n (s : Int) l (l.length : Int) j) ofN (fun s => some ((s : Int), ())) (fun s => s < 18446744073709551616) (fun s x _ _ => ofN_lt s x)
    (fun n s j x hs hx => by
      show num_Of_l0 (k + 10) (n + 1) _ _ _ _ = num_Of_l0 (k + 10) n _ _ _ _
      have hj : j < l.length := (List.getElem?_eq_some_iff.1 hx).1
      rw [num_Of_l0_eq, bif_true (by simp; omega), nth_get hx, Option.bind_some, of_step hs (hl x (List.mem_of_getElem? hx)), wr_next hj hm])
    (fun n s hs => by
      show num_Of_l0 (k + 10) (n + 1) _ _ _ _ = _
      rw [num_Of_l0_eq, bif_false (by simp)])
    (k + 10) 0 0 (by omega) (by omega) (by omega)
  rw [List.drop_zero] at this
  exact this
theorem fold_be (u : Nat) : ∀ (n s : Nat), s < 18446744073709551616 → (be n u).foldl ofN s = (s * 256 ^ n + u % 256 ^ n) % 18446744073709551616
  | 0, s, h => by simp [be, Nat.mod_one]; omega
  | n + 1, s, h => by
    show (be n u).foldl ofN (ofN s ((u / 256 ^ n % 256 : Nat) : Int)) = _
    rw [fold_be u n _ (ofN_lt _ _), mod_step]
    unfold ofN
    rw [Int.toNat_natCast, Nat.add_mod, Nat.mod_mul_mod, ← Nat.add_mod]
    congr 1
    rw [Nat.pow_succ, Nat.add_mul]
    have h1 : s * 256 * 256 ^ n = s * (256 ^ n * 256) := by ac_rfl
    have h2 : u / 256 ^ n % 256 * 256 ^ n = 256 ^ n * (u / 256 ^ n % 256) := Nat.mul_comm _ _
    omega
/-! ### Frames -/
def sumN (h b : List Int) : Nat := 4294967295 ^^^ (h ++ b).foldl stp 4294967295
def Bytes (l : List Int) : Prop := ∀ x ∈ l, (Lit.int .u8 x).wf = true
theorem Bytes.app {a b : List Int} (h : Bytes a) (h2 : Bytes b) : Bytes (a ++ b) := fun x hx => by
  rcases List.mem_append.1 hx with hx | hx
  · exact h x hx
  · exact h2 x hx
theorem Bytes.take {a : List Int} (h : Bytes a) (n : Nat) : Bytes (a.take n) := fun x hx => h x (List.mem_of_mem_take hx)
theorem Bytes.drop {a : List Int} (h : Bytes a) (n : Nat) : Bytes (a.drop n) := fun x hx => h x (List.mem_of_mem_drop hx)
theorem sumN_lt {h b : List Int} (hh : Bytes h) (hb : Bytes b) : sumN h b < 4294967296 := xorlt32 (by omega) (fold_lt (hh.app hb) (by omega))
def frm (b : List Int) : List Int := be 4 b.length ++ be 4 (sumN (be 4 b.length) b) ++ b
theorem frm_length (b : List Int) : (frm b).length = 8 + b.length := by unfold frm; simp [be_length]; omega
theorem frm_bytes {b : List Int} (h : Bytes b) : Bytes (frm b) := Bytes.app (Bytes.app (fun x hx => be_wf _ _ x hx) (fun x hx => be_wf _ _ x hx)) h
theorem frame_sum_is (k : Nat) {h b : List Int} (hh : Bytes h) (hb : Bytes b) (h1 : h.length ≤ 65536) (h2 : b.length ≤ 65536) : frame_sum (k + 70000) h b = some (((sumN h b : Nat) : Int), ()) := by
  have f1 := fold_lt hh (c := 4294967295) (by omega)
  rw [frame_sum_eq, show crc_More (k + 70000) (4294967295 : Int) h = _ from crc_More_is (k + 69990) (c := 4294967295) (by omega) hh (by omega) (by omega), Option.bind_some,
    show crc_More (k + 70000) _ b = _ from crc_More_is (k + 69990) f1 hb (by omega) (by omega), Option.bind_some, ones32 (fold_lt hb f1)]
  unfold sumN
  rw [List.foldl_append]
theorem frame_Size_is (k : Nat) {n : Nat} (h : n ≤ 65536) : frame_Size k (n : Int) = some (((8 + n : Nat) : Int), ()) := by
  rw [frame_Size_eq, bf (by omega), bf (by omega), wr_i64 (by omega)]; congr 2
theorem be4_of {l : List Int} (hl : l.length = 4) (hw : Bytes l) : be 4 (l.foldl ofN 0) = l ∧ l.foldl ofN 0 < 4294967296 := by
  obtain ⟨a, b, c, d, rfl⟩ : ∃ a b c d, l = [a, b, c, d] := by
    match l, hl with
    | [a, b, c, d], _ => exact ⟨a, b, c, d, rfl⟩
  have ha := wf_u8 (hw a (by simp))
  have hb := wf_u8 (hw b (by simp))
  have hc := wf_u8 (hw c (by simp))
  have hd := wf_u8 (hw d (by simp))
  obtain ⟨a, rfl⟩ := Int.eq_ofNat_of_zero_le ha.1
  obtain ⟨b, rfl⟩ := Int.eq_ofNat_of_zero_le hb.1
  obtain ⟨c, rfl⟩ := Int.eq_ofNat_of_zero_le hc.1
  obtain ⟨d, rfl⟩ := Int.eq_ofNat_of_zero_le hd.1
  have e : [(a : Int), b, c, d].foldl ofN 0 = ((a * 256 + b) * 256 + c) * 256 + d := by
    simp only [List.foldl, ofN, Int.toNat_natCast]; omega
  rw [e]
  refine ⟨?_, by omega⟩
  have e1 : (((a * 256 + b) * 256 + c) * 256 + d) / 256 ^ 3 % 256 = a := by rw [show (256 : Nat) ^ 3 = 16777216 by decide]; omega
  have e2 : (((a * 256 + b) * 256 + c) * 256 + d) / 256 ^ 2 % 256 = b := by rw [show (256 : Nat) ^ 2 = 65536 by decide]; omega
  have e3 : (((a * 256 + b) * 256 + c) * 256 + d) / 256 ^ 1 % 256 = c := by rw [show (256 : Nat) ^ 1 = 256 by decide]; omega
  have e4 : (((a * 256 + b) * 256 + c) * 256 + d) / 256 ^ 0 % 256 = d := by rw [show (256 : Nat) ^ 0 = 1 by decide]; omega
  unfold be be be be be
  rw [e1, e2, e3, e4]
theorem of_be4 {u : Nat} (h : u < 4294967296) : (be 4 u).foldl ofN 0 = u := by
  rw [fold_be u 4 0 (by omega), show (256 : Nat) ^ 4 = 4294967296 by decide]; omega
def err50 : List Int × (Int × (Int × Unit)) := ([], ((0 : Int), ((50 : Int), ())))
def ofT (f : List Int) : List Int × (Int × (Int × Unit)) :=
  if f.length < 8 then err50
  else if 65536 < (f.take 4).foldl ofN 0 then err50
  else if f.length - 8 < (f.take 4).foldl ofN 0 then err50
  else if sumN (f.take 4) ((f.take (8 + (f.take 4).foldl ofN 0)).drop 8) = ((f.take 8).drop 4).foldl ofN 0 then ((f.take (8 + (f.take 4).foldl ofN 0)).drop 8, (((8 + (f.take 4).foldl ofN 0 : Nat) : Int), ((0 : Int), ())))
  else err50
theorem cut_lit {l : List Int} (a b : Int) (m n : Nat) (ha : a = m) (hb : b = n) (h1 : m ≤ n) (h2 : n ≤ l.length) : cut l a b = some ((l.take n).drop m) := by
  subst ha hb; exact cut_ok h1 h2
theorem frame_Of_is (k : Nat) {f : List Int} (hf : Bytes f) (hl : f.length ≤ 1099511627776) : frame_Of (k + 70000) f = some (ofT f, ()) := by
  rw [frame_Of_eq]
  unfold ofT
  by_cases c : f.length < 8
  · rw [bt (by omega), if_pos c]; rfl
  rw [bf (by omega), if_neg c]
  have l4 : (f.take 4).length = 4 := by simp; omega
  have l8 : ((f.take 8).drop 4).length = 4 := by simp; omega
  have w4 := hf.take 4
  have w8 := (hf.take 8).drop 4
  obtain ⟨_, n4⟩ := be4_of l4 w4
  obtain ⟨_, n8⟩ := be4_of l8 w8
  rw [must_true (by decide), cut_lit 0 4 0 4 rfl rfl (by omega) (by omega), Option.bind_some, must_true (by decide), cut_lit 4 8 4 8 rfl rfl (by omega) (by omega), Option.bind_some, List.drop_zero,
    show num_Of (k + 70000) _ = _ from num_Of_is (k + 69990) w8 (by omega) (by omega), Option.bind_some, show num_Of (k + 70000) _ = _ from num_Of_is (k + 69990) w4 (by omega) (by omega), Option.bind_some]
  obtain ⟨n, hn⟩ : ∃ n, n = (f.take 4).foldl ofN 0 := ⟨_, rfl⟩
  obtain ⟨s, hs⟩ : ∃ s, s = ((f.take 8).drop 4).foldl ofN 0 := ⟨_, rfl⟩
  rw [← hn] at n4 ⊢
  rw [← hs] at n8 ⊢
  by_cases c2 : 65536 < n
  · rw [bt (by omega), if_pos c2]; rfl
  rw [bf (by omega), if_neg c2, wr_i64 (n := (f.length : Int) - 8) (by omega), wr_u64 (n := (f.length : Int) - 8) (by omega)]
  by_cases c3 : f.length - 8 < n
  · rw [bt (by omega), if_pos c3]; rfl
  rw [bf (by omega), if_neg c3, must_true (by simp [beqI]), wr_i64 (n := (n : Int)) (by omega), wr_i64 (n := 8 + (n : Int)) (by omega), cut_lit 8 (8 + (n : Int)) 8 (8 + n) rfl (by omega) (by omega) (by omega), Option.bind_some]
  have lb : ((f.take (8 + n)).drop 8).length = n := by simp; omega
  have wb := (hf.take (8 + n)).drop 8
  rw [frame_sum_is k w4 wb (by omega) (by omega), Option.bind_some, wr_u32 (n := (s : Int)) (by omega)]
  by_cases c4 : sumN (f.take 4) ((f.take (8 + n)).drop 8) = s
  · rw [c4, if_pos rfl, bif_false (by simp), lim_ok (by omega), List.nil_append]
    congr 4
  · rw [if_neg c4, bif_true (by simp; omega)]; rfl
theorem frame_Put_is (k : Nat) {b : List Int} (hb : Bytes b) (hl : b.length ≤ 65536) : frame_Put (k + 70000) b = some (frm b, ()) := by
  have wh : Bytes (be 4 b.length) := fun x hx => be_wf _ _ x hx
  have hs := sumN_lt wh hb
  rw [frame_Put_eq, frame_Size_is _ hl, Option.bind_some, bf (by omega), wr_u64 (n := (b.length : Int)) (by omega),
    show num_Put (k + 70000) (b.length : Int) (4 : Int) = _ from num_Put_is (k + 69990) (u := b.length) (w := 4) (by omega)]
  simp only [Option.bind_some]
  rw [frame_sum_is k wh hb (by rw [be_length]; omega) hl, Option.bind_some, wr_u64 (by omega),
    show num_Put (k + 70000) _ (4 : Int) = _ from num_Put_is (k + 69990) (u := sumN (be 4 b.length) b) (w := 4) (by omega)]
  simp only [Option.bind_some]
  rw [lim_ok (by simp [be_length]), lim_ok (by simp [be_length]; omega)]
  rfl
theorem ref01_Frame_is (k : Nat) {b : List Int} (hb : Bytes b) (hl : b.length ≤ 65536) : ref01_Frame (k + 70000) b = some (frm b, ()) := by
  have wh : Bytes (be 4 b.length) := fun x hx => be_wf _ _ x hx
  have hs := sumN_lt wh hb
  rw [ref01_Frame_eq, bf (by omega), wr_u64 (n := (b.length : Int)) (by omega), show ref01_Put (k + 70000) (b.length : Int) (4 : Int) = _ from ref01_Put_is (k + 69990) (u := b.length) (w := 4) (by omega) (by omega), Option.bind_some,
    lim_ok (by simp [be_length]), lim_ok (by simp [be_length]; omega), List.nil_append,
    show ref01_Sum (k + 70000) _ = _ from ref01_Sum_is (k + 69990) (wh.app hb) (by simp [be_length]; omega) (by simp [be_length]; omega), Option.bind_some]
  have e : (4294967295 ^^^ (be 4 b.length ++ b).foldl stp 4294967295) = sumN (be 4 b.length) b := rfl
  rw [e, wr_u64 (by omega), show ref01_Put (k + 70000) _ (4 : Int) = _ from ref01_Put_is (k + 69990) (u := sumN (be 4 b.length) b) (w := 4) (by omega) (by omega), Option.bind_some,
    lim_ok (by simp [be_length]), lim_ok (by simp [be_length]; omega)]
  rfl
theorem take_split {f : List Int} {n : Nat} (h : 8 + n ≤ f.length) : f.take (8 + n) = f.take 4 ++ (f.take 8).drop 4 ++ (f.take (8 + n)).drop 8 := by
  have h1 : f.take 8 = f.take 4 ++ (f.take 8).drop 4 := by
    have := List.take_append_drop 4 (f.take 8)
    rw [List.take_take] at this
    exact this.symm
  have h2 : f.take (8 + n) = f.take 8 ++ (f.take (8 + n)).drop 8 := by
    have := List.take_append_drop 8 (f.take (8 + n))
    rw [List.take_take, Nat.min_eq_left (by omega)] at this
    exact this.symm
  rw [← h1]; exact h2
theorem ofT_cases {f : List Int} (hf : Bytes f) : ofT f = err50 ∨ ∃ b, Bytes b ∧ b.length ≤ 65536 ∧ 8 + b.length ≤ f.length ∧ f.take (8 + b.length) = frm b ∧ ofT f = (b, (((8 + b.length : Nat) : Int), ((0 : Int), ()))) := by
  unfold ofT
  by_cases c : f.length < 8
  · exact .inl (if_pos c)
  rw [if_neg c]
  have l4 : (f.take 4).length = 4 := by simp; omega
  have l8 : ((f.take 8).drop 4).length = 4 := by simp; omega
  have w4 := hf.take 4
  have w8 := (hf.take 8).drop 4
  obtain ⟨b4, n4⟩ := be4_of l4 w4
  obtain ⟨b8, n8⟩ := be4_of l8 w8
  obtain ⟨n, hn⟩ : ∃ n, n = (f.take 4).foldl ofN 0 := ⟨_, rfl⟩
  obtain ⟨s, hs⟩ : ∃ s, s = ((f.take 8).drop 4).foldl ofN 0 := ⟨_, rfl⟩
  rw [← hn] at n4 b4 ⊢
  rw [← hs] at n8 b8 ⊢
  by_cases c2 : 65536 < n
  · exact .inl (if_pos c2)
  rw [if_neg c2]
  by_cases c3 : f.length - 8 < n
  · exact .inl (if_pos c3)
  rw [if_neg c3]
  have lb : ((f.take (8 + n)).drop 8).length = n := by simp; omega
  have wb := (hf.take (8 + n)).drop 8
  by_cases c4 : sumN (f.take 4) ((f.take (8 + n)).drop 8) = s
  · refine .inr ⟨(f.take (8 + n)).drop 8, wb, by omega, by omega, ?_, ?_⟩
    · rw [lb]
      refine (take_split (by omega)).trans ?_
      unfold frm
      rw [lb, b4, c4, b8]
    · rw [if_pos c4, lb]
  · exact .inl (if_neg c4)
def allT (f : List Int) : Nat → List (List Int) → Nat → List (List Int) × Nat
  | 0, acc, off => (acc, off)
  | n + 1, acc, off => if (ofT (f.drop off)).2.2.1 = 0 then allT f n (acc ++ [(ofT (f.drop off)).1]) (off + (8 + (ofT (f.drop off)).1.length)) else (acc, off)
theorem allT_stop {f : List Int} {n off : Nat} {acc : List (List Int)} (e : ofT (f.drop off) = err50) : allT f (n + 1) acc off = (acc, off) := by
  have : ¬ (ofT (f.drop off)).2.2.1 = 0 := by rw [e]; decide
  show (if (ofT (f.drop off)).2.2.1 = 0 then _ else _) = _
  rw [if_neg this]
theorem allT_go {f : List Int} {n off : Nat} {acc : List (List Int)} {b : List Int} (e : ofT (f.drop off) = (b, (((8 + b.length : Nat) : Int), ((0 : Int), ())))) : allT f (n + 1) acc off = allT f n (acc ++ [b]) (off + (8 + b.length)) := by
  have : (ofT (f.drop off)).2.2.1 = 0 := by rw [e]
  show (if (ofT (f.drop off)).2.2.1 = 0 then allT f n (acc ++ [(ofT (f.drop off)).1]) (off + (8 + (ofT (f.drop off)).1.length)) else _) = _
  rw [if_pos this, e]
theorem allT_inv {f : List Int} (hf : Bytes f) : ∀ n acc off, off ≤ f.length → acc.length ≤ off → acc.flatMap frm = f.take off → (∀ b ∈ acc, Bytes b ∧ b.length ≤ 65536) →
    (allT f n acc off).2 ≤ f.length ∧ (allT f n acc off).1.length ≤ (allT f n acc off).2 ∧ (allT f n acc off).1.flatMap frm = f.take (allT f n acc off).2 ∧ ∀ b ∈ (allT f n acc off).1, Bytes b ∧ b.length ≤ 65536
  | 0, acc, off, h1, h2, h3, h4 => ⟨h1, h2, h3, h4⟩
  | n + 1, acc, off, h1, h2, h3, h4 => by
    unfold allT
    split
    · rename_i c
      rcases ofT_cases (hf.drop off) with e | ⟨b, k1, k2, k3, k4, e⟩
      · rw [e] at c; exact absurd c (by decide)
      · rw [e]
        have hl : (f.drop off).length = f.length - off := by simp
        refine allT_inv hf n _ _ ?_ ?_ ?_ ?_
        · show off + (8 + b.length) ≤ _; omega
        · show (acc ++ [b]).length ≤ off + (8 + b.length); simp; omega
        · show (acc ++ [b]).flatMap frm = f.take (off + (8 + b.length))
          rw [List.flatMap_append, h3, List.take_add, k4]
          simp
        · intro x hx
          rcases List.mem_append.1 hx with hx | hx
          · exact h4 x hx
          · rw [List.mem_singleton.1 hx]; exact ⟨k1, k2⟩
    · exact ⟨h1, h2, h3, h4⟩
theorem frame_All_loop (k : Nat) {f : List Int} (hf : Bytes f) (hl : f.length ≤ 100000) : ∀ n t acc (off : Nat), off ≤ f.length → acc.length ≤ off → f.length - off < n →
    frame_All_l0 (k + 70000) n f t acc (off : Int) = some (((allT f n acc off).1, (((allT f n acc off).2 : Nat) : Int), ()), ())
  | 0, _, _, _, _, _, h => absurd h (Nat.not_lt_zero _)
  | n + 1, t, acc, off, h1, h2, h3 => by
    have hb := hf.drop off
    have hd : (f.drop off).length = f.length - off := by simp
    rw [frame_All_l0_eq, cut_ok h1 (Nat.le_refl _), Option.bind_some, List.take_length, frame_Of_is k hb (by omega), Option.bind_some]
    rcases ofT_cases hb with e | ⟨b, k1, k2, k3, k4, e⟩
    · rw [allT_stop e, e]; rfl
    · rw [allT_go e, e]
      show (bif !decide ((0 : Int) = 0) then _ else lim (acc.length + [b].length) (frame_All_l0 (k + 70000) n f (t && [b].isEmpty) (acc ++ [b]) (wr .i64 ((off : Int) + ((8 + b.length : Nat) : Int))))) = _
      have := frame_All_loop k hf hl n (t && [b].isEmpty) (acc ++ [b]) (off + (8 + b.length)) (by omega) (by simp; omega) (by omega)
      rw [bif_false (b := !decide ((0 : Int) = 0)) (by decide), lim_ok (by simp; omega), wr_i64 (by omega), show ((off : Int) + ((8 + b.length : Nat) : Int)) = ((off + (8 + b.length) : Nat) : Int) by omega]
      exact this
theorem ofT_frm {b : List Int} (hb : Bytes b) (hl : b.length ≤ 65536) (r : List Int) : ofT (frm b ++ r) = (b, (((8 + b.length : Nat) : Int), ((0 : Int), ()))) := by
  have hlen := frm_length b
  have e4 : (frm b ++ r).take 4 = be 4 b.length := by
    unfold frm; rw [List.append_assoc, List.append_assoc, List.take_append_of_le_length (by rw [be_length]; exact Nat.le_refl _), List.take_of_length_le (by rw [be_length]; exact Nat.le_refl _)]
  have e8 : ((frm b ++ r).take 8).drop 4 = be 4 (sumN (be 4 b.length) b) := by
    unfold frm
    have h8 : (be 4 b.length ++ be 4 (sumN (be 4 b.length) b)).length = 8 := by simp [be_length]
    rw [List.append_assoc (be 4 b.length ++ _), ← h8, List.take_left, List.drop_left' (be_length 4 _)]
  have eb : ((frm b ++ r).take (8 + b.length)).drop 8 = b := by
    rw [← hlen, List.take_left]
    unfold frm
    exact List.drop_left' (by simp [be_length])
  have hs := sumN_lt (h := be 4 b.length) (b := b) (fun x hx => be_wf _ _ x hx) hb
  unfold ofT
  rw [e4, of_be4 (by omega), if_neg (by rw [List.length_append]; omega), if_neg (by omega), if_neg (by rw [List.length_append]; omega), eb, e8, of_be4 hs, if_pos rfl]
theorem ofT_part {b x y : List Int} (hb : Bytes b) (hl : b.length ≤ 65536) (hx : Bytes x) (h : x.length < 8 + b.length) (e : frm b ++ y = x ++ (frm b ++ y).drop x.length) : ofT x = err50 := by
  rcases ofT_cases hx with h1 | ⟨b', k1, k2, k3, k4, k5⟩
  · exact h1
  · exfalso
    have h4 : x.take 4 = be 4 b.length := by
      have := congrArg (List.take 4) e
      rw [List.take_append_of_le_length (l₁ := x) (by omega)] at this
      rw [← this]
      unfold frm; rw [List.append_assoc, List.append_assoc, List.take_append_of_le_length (by rw [be_length]; exact Nat.le_refl _), List.take_of_length_le (by rw [be_length]; exact Nat.le_refl _)]
    have h5 : x.take 4 = be 4 b'.length := by
      have := congrArg (List.take 4) k4
      rw [List.take_take, Nat.min_eq_left (by omega)] at this
      rw [this]
      unfold frm; rw [List.append_assoc, List.take_append_of_le_length (by rw [be_length]; exact Nat.le_refl _), List.take_of_length_le (by rw [be_length]; exact Nat.le_refl _)]
    have := be_eq 4 (h4.symm.trans h5)
    rw [show (256 : Nat) ^ 4 = 4294967296 by decide] at this
    omega
/-- The frames that are whole within so many bytes. -/
def whole : List (List Int) → Nat → Nat
  | [], _ => 0
  | b :: l, c => if 8 + b.length ≤ c then whole l (c - (8 + b.length)) + 1 else 0
theorem whole_cons (b : List Int) (l : List (List Int)) (c : Nat) : whole (b :: l) c = if 8 + b.length ≤ c then whole l (c - (8 + b.length)) + 1 else 0 := rfl
def ends : List (List Int) → Nat → List Int
  | [], _ => []
  | b :: l, s => ((s + (8 + b.length) : Nat) : Int) :: ends l (s + (8 + b.length))
theorem ends_length : ∀ l s, (ends l s).length = l.length
  | [], _ => rfl
  | _ :: l, s => congrArg (· + 1) (ends_length l _)
def tot (l : List (List Int)) : Nat := (l.flatMap frm).length
theorem tot_cons (b : List Int) (l : List (List Int)) : tot (b :: l) = 8 + b.length + tot l := by unfold tot; rw [List.flatMap_cons, List.length_append, frm_length]
theorem whole_le : ∀ l c, whole l c ≤ l.length
  | [], _ => Nat.le_refl _
  | b :: l, c => by rw [whole_cons]; split; have := whole_le l (c - (8 + b.length)); simp; omega; simp
theorem whole_tot : ∀ (l : List (List Int)) (c : Nat), tot (l.take (whole l c)) ≤ c
  | [], c => by simp [whole, tot]
  | b :: l, c => by
    rw [whole_cons]
    split
    · rw [List.take_succ_cons, tot_cons]; have := whole_tot l (c - (8 + b.length)); omega
    · simp [tot]
theorem ends_at : ∀ (l : List (List Int)) s j, j < l.length → (ends l s)[j]? = some ((s + tot (l.take (j + 1)) : Nat) : Int)
  | [], _, _, h => absurd h (Nat.not_lt_zero _)
  | b :: l, s, 0, _ => by simp [ends, tot, frm_length]
  | b :: l, s, j + 1, h => by
    show (ends l (s + (8 + b.length)))[j]? = _
    rw [ends_at l _ j (by simpa using h), List.take_succ_cons (i := j + 1), tot_cons, Nat.add_assoc]
theorem whole_lt : ∀ (l : List (List Int)) c j, j < l.length → (tot (l.take (j + 1)) ≤ c ↔ j < whole l c)
  | [], _, _, h => absurd h (Nat.not_lt_zero _)
  | b :: l, c, 0, _ => by
    rw [whole_cons]
    rw [List.take_succ_cons, tot_cons]
    split <;> simp [tot] <;> omega
  | b :: l, c, j + 1, h => by
    have ih := whole_lt l (c - (8 + b.length)) j (by simpa using h)
    rw [whole_cons]
    rw [List.take_succ_cons, tot_cons]
    split
    · omega
    · constructor <;> intro h <;> omega
theorem allT_cut : ∀ (l : List (List Int)) (pre : List Int) (c n : Nat) (acc : List (List Int)) (f : List Int), (∀ b ∈ l, Bytes b ∧ b.length ≤ 65536) → f = pre ++ (l.flatMap frm).take c → c ≤ tot l → l.length < n →
    allT f n acc pre.length = (acc ++ l.take (whole l c), pre.length + tot (l.take (whole l c)))
  | [], pre, c, n, acc, f, hl, hf, hc, hn => by
    obtain ⟨m, rfl⟩ : ∃ m, n = m + 1 := ⟨n - 1, by simp at hn; omega⟩
    have h0 : c = 0 := by have : tot [] = 0 := rfl; omega
    subst h0
    rw [allT_stop (by rw [hf, List.drop_left]; rfl)]
    simp [whole, tot]
  | b :: l, pre, c, n, acc, f, hl, hf, hc, hn => by
    obtain ⟨m, rfl⟩ : ∃ m, n = m + 1 := ⟨n - 1, by simp at hn; omega⟩
    have hb := hl b List.mem_cons_self
    have hlen := frm_length b
    rw [List.flatMap_cons] at hf
    by_cases h : 8 + b.length ≤ c
    · have e1 : (frm b ++ l.flatMap frm).take c = frm b ++ (l.flatMap frm).take (c - (8 + b.length)) := by
        rw [List.take_append, hlen, List.take_of_length_le (by omega)]
      rw [e1] at hf
      rw [allT_go (b := b) (by rw [hf, List.drop_left]; exact ofT_frm hb.1 hb.2 _)]
      have ih := allT_cut l (pre ++ frm b) (c - (8 + b.length)) m (acc ++ [b]) f (fun x hx => hl x (List.mem_cons_of_mem _ hx)) (by rw [hf]; simp) (by rw [tot_cons] at hc; omega) (by simp at hn; omega)
      rw [List.length_append, hlen] at ih
      rw [ih]
      rw [whole_cons]
      rw [if_pos h, List.take_succ_cons, tot_cons]
      simp [Nat.add_assoc]
    · have hx : f.drop pre.length = (frm b ++ l.flatMap frm).take c := by rw [hf, List.drop_left]
      have hxl : (f.drop pre.length).length = c := by
        rw [hx, List.length_take, List.length_append, hlen]
        rw [tot_cons] at hc; unfold tot at hc; omega
      rw [allT_stop (ofT_part (b := b) (y := l.flatMap frm) hb.1 hb.2 (by
        rw [hx]
        refine Bytes.take ?_ _
        refine Bytes.app (frm_bytes hb.1) ?_
        intro y hy
        obtain ⟨w, hw, hy⟩ := List.mem_flatMap.1 hy
        exact frm_bytes (hl w (List.mem_cons_of_mem _ hw)).1 y hy) (by omega) (by
          rw [hxl, hx, List.take_append_drop]))]
      rw [whole_cons]
      rw [if_neg h]
      simp [tot]
theorem tot_app (l m : List (List Int)) : tot (l ++ m) = tot l + tot m := by unfold tot; rw [List.flatMap_append, List.length_append]
/-! ### The disk -/
abbrev Byt (l : List Int) : Prop := ∀ x ∈ l, (Lit.int .u8 x).wf = true
def Dk (B : List Int) (s : Nat) (n : Nat) (sy : Int) (row : List Int) : Prop := row.take n = B ∧ B.length = n ∧ sy = (s : Int) ∧ s ≤ n
theorem Dk.row {B : List Int} {s n : Nat} {sy : Int} {row : List Int} (h : Dk B s n sy row) : n ≤ row.length := by
  have h1 := congrArg List.length h.1
  rw [h.2.1, List.length_take] at h1
  omega
theorem new_is (k : Nat) (a : Int) : disk_New k a = some ((), ((0, ((0 : Int), ((mxI a 0), (true, ())))), (([], ()), ()))) := disk_New_eq k a
theorem Dk.new : Dk [] 0 0 0 [] := ⟨rfl, rfl, rfl, Nat.le_refl _⟩
theorem bytes_is (k : Nat) {B : List Int} {s n : Nat} {sy sz : Int} {row : List Int} (h : Dk B s n sy row) (hl : B.length ≤ 1000000) : disk_Disk_Bytes k n sy sz true row = some (B, ((n, (sy, (sz, (true, ())))), ((row, ()), ()))) := by
  rw [disk_Disk_Bytes_eq, disk_Disk_ok_eq]
  simp only [Option.bind_some, Bool.not_true, cond_false, h.1]
  rw [lim_ok (by omega)]; rfl
theorem sync_is (k : Nat) (n : Nat) (sy sz : Int) (row : List Int) : disk_Disk_Sync k n sy sz true row = some ((0 : Int), ((n, ((n : Int), (sz, (true, ())))), ((row, ()), ()))) := by
  rw [disk_Disk_Sync_eq, disk_Disk_ok_eq]; rfl
theorem Dk.sync {B : List Int} {s n : Nat} {sy : Int} {row : List Int} (h : Dk B s n sy row) : Dk B B.length n (n : Int) row := ⟨h.1, h.2.1, by rw [h.2.1], by rw [h.2.1]; exact Nat.le_refl _⟩
theorem append_no (k : Nat) {B : List Int} {s n : Nat} {sy sz : Int} {row : List Int} (h : Dk B s n sy row) (hl : B.length ≤ 1000000) (hz : 0 ≤ sz ∧ sz ≤ 1000000) {a : List Int} (c : sz - B.length < a.length) :
    disk_Disk_Append k a n sy sz true row = some ((60 : Int), ((n, (sy, (sz, (true, ())))), ((), ((row, ()), ())))) := by
  rw [disk_Disk_Append_eq, disk_Disk_room_eq, disk_Disk_ok_eq]
  show ((disk_Disk_Bytes k n sy sz true row).bind _) = _
  rw [bytes_is k h hl, Option.bind_some]
  show (bif decide (wr .i64 (sz - (B.length : Int)) < (a.length : Int)) then _ else _) = _
  rw [wr_i64 (by omega), bt c]
theorem append_ok (k : Nat) {B : List Int} {s n : Nat} {sy sz : Int} {row : List Int} (h : Dk B s n sy row) (hl : B.length ≤ 1000000) (hz : 0 ≤ sz ∧ sz ≤ 1000000) {a : List Int} (c : (B.length : Int) + a.length ≤ sz) :
    ∃ (n' : Nat) (row' : List Int), disk_Disk_Append (k + 1) a n sy sz true row = some ((0 : Int), ((n', (sy, (sz, (true, ())))), ((), ((row', ()), ())))) ∧ Dk (B ++ a) s n' sy row' := by
  refine ⟨n + a.length, apc row n a, ?_, ?_⟩
  · rw [disk_Disk_Append_eq, disk_Disk_room_eq, disk_Disk_ok_eq]
    show ((disk_Disk_Bytes (k + 1) n sy sz true row).bind _) = _
    rw [bytes_is (k + 1) h hl, Option.bind_some]
    show (bif decide (wr .i64 (sz - (B.length : Int)) < (a.length : Int)) then _ else (disk_Disk_ok (k + 1) n sy sz true row).bind _) = _
    rw [wr_i64 (by omega), bf (by omega), disk_Disk_ok_eq]
    show lim (n + a.length) (disk_Disk_Append_j0 (k + 1) (n + a.length) sy sz true (apc row n a)) = _
    rw [lim_ok (by have := h.2.1; omega), disk_Disk_Append_j0_eq]
  · have hr := h.row
    refine ⟨?_, by rw [List.length_append, h.2.1], h.2.2.1, by have := h.2.2.2; omega⟩
    unfold apc
    cases a with
    | nil => simp [h.1]
    | cons x t =>
      show (row.take n ++ x :: t).take (n + (x :: t).length) = _
      rw [h.1]
      exact List.take_of_length_le (by rw [List.length_append, h.2.1]; exact Nat.le_refl _)
theorem append_eq (k : Nat) {B : List Int} {s n : Nat} {sy sz : Int} {row : List Int} (h : Dk B s n sy row) (hl : B.length ≤ 1000000) (hz : 0 ≤ sz ∧ sz ≤ 1000000) {a : List Int} (c : (B.length : Int) + a.length ≤ sz) :
    disk_Disk_Append (k + 1) a n sy sz true row = some ((0 : Int), ((n + a.length, (sy, (sz, (true, ())))), ((), ((apc row n a, ()), ())))) := by
  rw [disk_Disk_Append_eq, disk_Disk_room_eq, disk_Disk_ok_eq]
  show ((disk_Disk_Bytes (k + 1) n sy sz true row).bind _) = _
  rw [bytes_is (k + 1) h hl, Option.bind_some]
  show (bif decide (wr .i64 (sz - (B.length : Int)) < (a.length : Int)) then _ else (disk_Disk_ok (k + 1) n sy sz true row).bind _) = _
  rw [wr_i64 (by omega), bf (by omega), disk_Disk_ok_eq]
  show lim (n + a.length) (disk_Disk_Append_j0 (k + 1) (n + a.length) sy sz true (apc row n a)) = _
  rw [lim_ok (by have := h.2.1; omega), disk_Disk_Append_j0_eq]
theorem append_dk {B : List Int} {s n : Nat} {sy : Int} {row : List Int} (h : Dk B s n sy row) {a : List Int} : Dk (B ++ a) s (n + a.length) sy (apc row n a) := by
  have hr := h.row
  refine ⟨?_, by rw [List.length_append, h.2.1], h.2.2.1, by have := h.2.2.2; omega⟩
  unfold apc
  cases a with
  | nil => simp [h.1]
  | cons x t =>
    show (row.take n ++ x :: t).take (n + (x :: t).length) = _
    rw [h.1]
    exact List.take_of_length_le (by rw [List.length_append, h.2.1]; exact Nat.le_refl _)
theorem synced_is (k : Nat) (n : Nat) (sy sz : Int) (row : List Int) : disk_Disk_Synced k n sy sz true row = some (sy, ((n, (sy, (sz, (true, ())))), ((row, ()), ()))) := by
  rw [disk_Disk_Synced_eq, disk_Disk_ok_eq]; rfl
theorem swap_no (k : Nat) (n : Nat) (sy sz : Int) (row : List Int) {a : List Int} (c : sz < a.length) : disk_Disk_Swap k a n sy sz true row = some (Sum.inl ((60 : Int), ((n, (sy, (sz, (true, ())))), ((row, ()), ())))) := by
  rw [disk_Disk_Swap_eq, disk_Disk_ok_eq]
  show (bif decide (sz < (a.length : Int)) then _ else _) = _
  rw [bt c]
theorem swap_ok (k : Nat) (n : Nat) (sy sz : Int) (row : List Int) {a : List Int} (c : (a.length : Int) ≤ sz) (hz : sz ≤ 1000000) : ∃ x, disk_Disk_Swap k a n sy sz true row = some (Sum.inr ((0 : Int), ((a.length, ((a.length : Int), (sz, (true, ())))), (x, ((a, ()), ()))))) := by
  rw [disk_Disk_Swap_eq, disk_Disk_ok_eq]
  refine ⟨(row, ()), ?_⟩
  show (bif decide (sz < (a.length : Int)) then _ else lim a.length ((disk_Disk_Sync k a.length sy sz true a).bind _)) = _
  rw [bf (by omega), lim_ok (by omega), sync_is]; rfl
theorem Dk.swap (a : List Int) : Dk a a.length a.length (a.length : Int) a := ⟨List.take_length, rfl, rfl, Nat.le_refl _⟩
theorem cut_no (k : Nat) {n : Nat} {sy sz : Int} {row : List Int} {m : Int} (c : m < 0 ∨ (n : Int) < m) : disk_Disk_Cut k m n sy sz true row = some ((1 : Int), ((n, (sy, (sz, (true, ())))), ((row, ()), ()))) := by
  rw [disk_Disk_Cut_eq, disk_Disk_ok_eq]
  simp only [Option.bind_some, Bool.not_true, cond_false]
  by_cases c1 : m < 0
  · rw [bt c1]
  · rw [bf c1, bt (by omega)]
theorem cut_okk (k : Nat) {n m : Nat} {sy sz : Int} {row : List Int} (c : m ≤ n) : disk_Disk_Cut k (m : Int) n sy sz true row = some ((0 : Int), ((m, ((m : Int), (sz, (true, ())))), ((row, ()), ()))) := by
  rw [disk_Disk_Cut_eq, disk_Disk_ok_eq]
  simp only [Option.bind_some, Bool.not_true, cond_false]
  rw [bf (by omega), bf (by omega), must_true (inC_t (by omega) (by omega) (by omega)), Int.toNat_natCast, sync_is]; rfl
theorem Dk.cut {B : List Int} {s n m : Nat} {sy : Int} {row : List Int} (h : Dk B s n sy row) (c : m ≤ n) : Dk (B.take m) (B.take m).length m (m : Int) row := by
  obtain ⟨h1, h2, _, _⟩ := h
  have hl : (B.take m).length = m := by rw [List.length_take]; omega
  refine ⟨?_, hl, by rw [hl], by rw [hl]; exact Nat.le_refl _⟩
  rw [← h1, List.take_take]; congr 1; omega
theorem refapp_no (k : Nat) {B a : List Int} {s sz : Int} (hB : B.length ≤ 1000000) (hz : 0 ≤ sz ∧ sz ≤ 1000000) (c : sz - B.length < a.length) : ref06_Disk_Append k a B s sz = some ((60 : Int), ((B, (s, (sz, ()))), ())) := by
  rw [ref06_Disk_Append_eq, wr_i64 (by omega), bt c]
theorem refapp_ok (k : Nat) {B a : List Int} {s sz : Int} (hB : B.length ≤ 1000000) (hz : 0 ≤ sz ∧ sz ≤ 1000000) (c : (B.length : Int) + a.length ≤ sz) : ref06_Disk_Append k a B s sz = some ((0 : Int), ((B ++ a, (s, (sz, ()))), ())) := by
  rw [ref06_Disk_Append_eq, wr_i64 (by omega), bf (by omega), lim_ok (by omega), lim_ok (by simp; omega)]; rfl
theorem refswap_no (k : Nat) {B a : List Int} {s sz : Int} (c : sz < a.length) : ref06_Disk_Swap k a B s sz = some ((60 : Int), ((B, (s, (sz, ()))), ())) := by
  rw [ref06_Disk_Swap_eq, bt c]
theorem refswap_ok (k : Nat) {B a : List Int} {s sz : Int} (hz : sz ≤ 1000000) (c : (a.length : Int) ≤ sz) : ref06_Disk_Swap k a B s sz = some ((0 : Int), ((a, ((a.length : Int), (sz, ()))), ())) := by
  rw [ref06_Disk_Swap_eq, bf (by omega), lim_ok (by omega), ref06_Disk_Sync_eq]; rfl
/-! ### The log on a disk -/
theorem allT_any {f : List Int} : ∀ (n m : Nat) (acc : List (List Int)) (off : Nat), f.length - off < n → f.length - off < m → off ≤ f.length → Bytes f → allT f n acc off = allT f m acc off
  | 0, _, _, _, h, _, _, _ => absurd h (Nat.not_lt_zero _)
  | _ + 1, 0, _, _, _, h, _, _ => absurd h (Nat.not_lt_zero _)
  | n + 1, m + 1, acc, off, h1, h2, h3, hf => by
    rcases ofT_cases (hf.drop off) with e | ⟨b, k1, k2, k3, k4, e⟩
    · rw [allT_stop e, allT_stop e]
    · rw [allT_go e, allT_go e]
      rw [List.length_drop] at k3
      exact allT_any n m _ _ (by omega) (by omega) (by omega) hf
def allF (f : List Int) : List (List Int) × Nat := allT f (f.length + 1) [] 0
theorem all_ev {f : List Int} (hf : Bytes f) (hl : f.length ≤ 100000) : Ev (fun k => frame_All k f) (((allF f).1, (((allF f).2 : Nat) : Int), ()), ()) := by
  refine ⟨170001, fun k hk => ?_⟩
  obtain ⟨j, rfl⟩ : ∃ j, k = j + 70000 := ⟨k - 70000, by omega⟩
  show frame_All (j + 70000) f = _
  rw [frame_All_eq]
  have := frame_All_loop j hf hl (j + 70000) true [] 0 (by omega) (by simp) (by omega)
  refine this.trans ?_
  rw [allT_any (j + 70000) (f.length + 1) [] 0 (by omega) (by omega) (by omega) hf]; rfl
theorem allF_inv {f : List Int} (hf : Bytes f) : (allF f).2 ≤ f.length ∧ (allF f).1.length ≤ (allF f).2 ∧ (allF f).1.flatMap frm = f.take (allF f).2 ∧ ∀ b ∈ (allF f).1, Bytes b ∧ b.length ≤ 65536 :=
  allT_inv hf (f.length + 1) [] 0 (by omega) (by simp) (by simp) (by simp)
theorem records_ev {f : List Int} (hf : Bytes f) (hl : f.length ≤ 100000) : Ev (fun k => wal_Records k f) (((allF f).1, (((allF f).2 : Nat) : Int), ()), ()) := by
  simp only [wal_Records_eq]
  exact .bind (all_ev hf hl) .ret
theorem open_ev {B : List Int} {s n : Nat} {sy sz : Int} {row : List Int} (h : Dk B s n sy row) (hB : Bytes B) (hl : B.length ≤ 100000) :
    Ev (fun k => wal_Open k n sy sz true row) (Sum.inr (((), ((allF B).1, ((0 : Int), ()))), (((allF B).2, ((((allF B).2 : Nat) : Int), (sz, (true, ())))), ((row, ()), (((), ()), ()))))) := by
  simp only [wal_Open_eq]
  refine .bind ⟨0, fun k _ => bytes_is k h (by omega)⟩ (.bind (records_ev hB hl) ?_)
  refine .bind (F := fun k => disk_Disk_Cut k (((allF B).2 : Nat) : Int) n sy sz true row) ⟨0, fun k _ => cut_okk k (by have := (allF_inv hB).1; have := h.2.1; omega)⟩ ?_
  exact ⟨0, fun k _ => rfl⟩
theorem Dk.opened {B : List Int} {s n : Nat} {sy : Int} {row : List Int} (h : Dk B s n sy row) (hB : Bytes B) : Dk (B.take (allF B).2) (allF B).2 (allF B).2 (((allF B).2 : Nat) : Int) row := by
  have h1 := (allF_inv hB).1
  have h2 := h.2.1
  have := h.cut (m := (allF B).2) (by omega)
  rw [List.length_take, Nat.min_eq_left h1] at this
  exact this
theorem frames_l0 (k : Nat) {l : List (List Int)} (hb : ∀ b ∈ l, Bytes b ∧ b.length ≤ 65536) (ht : tot l ≤ 1000000) : ∀ n j t, j ≤ l.length → l.length ≤ 1000000 → l.length - j < n →
    wal_Frames_l0 (k + 70000) n t ((l.take j).flatMap frm) l (l.length : Int) (j : Int) = some ((l.flatMap frm, (true, ())), ())
  | 0, _, _, _, _, h => absurd h (Nat.not_lt_zero _)
  | n + 1, j, t, hj, hl, hn => by
    rw [wal_Frames_l0_eq]
    by_cases c : j < l.length
    · have hbj := hb _ (List.getElem_mem c)
      have e1 : (l.take j).flatMap frm ++ frm l[j] = (l.take (j + 1)).flatMap frm := by
        rw [← List.take_append_getElem c, List.flatMap_append]; congr 1; simp
      have htj : tot (l.take (j + 1)) ≤ 1000000 := by
        have := tot_app (l.take (j + 1)) (l.drop (j + 1)); rw [List.take_append_drop] at this; omega
      unfold tot at htj
      rw [← e1, List.length_append] at htj
      rw [bt (by omega), nth_get (List.getElem?_eq_getElem c), Option.bind_some, frame_Size_is _ hbj.2, Option.bind_some]
      simp only [bf (show ¬ (((8 + l[j].length : Nat) : Int) = 0) by omega)]
      rw [frame_Put_is k hbj.1 hbj.2, Option.bind_some, lim_ok (show ((l.take j).flatMap frm).length + (frm l[j]).length ≤ _ by omega), wr_i64 (by omega), e1]
      exact frames_l0 k hb ht n (j + 1) _ (by omega) hl (by omega)
    · have : j = l.length := by omega
      subst this
      rw [bf (by omega), List.take_length]
theorem tot_ge : ∀ l : List (List Int), 8 * l.length ≤ tot l
  | [] => Nat.le_refl _
  | b :: l => by rw [tot_cons, List.length_cons]; have := tot_ge l; omega
theorem frames_ev {l : List (List Int)} (hb : ∀ b ∈ l, Bytes b ∧ b.length ≤ 65536) (ht : tot l ≤ 1000000) : Ev (fun k => wal_Frames k l) ((l.flatMap frm, (true, ())), ()) := by
  have := tot_ge l
  refine ⟨1070000, fun k hk => ?_⟩
  obtain ⟨j, rfl⟩ : ∃ j, k = j + 70000 := ⟨k - 70000, by omega⟩
  show wal_Frames (j + 70000) l = _
  rw [wal_Frames_eq]
  exact frames_l0 j hb ht (j + 70000) 0 true (by omega) (by omega) (by omega)
theorem add_ok {B : List Int} {s n : Nat} {sy sz : Int} {row : List Int} (h : Dk B s n sy row) {l : List (List Int)} (hb : ∀ b ∈ l, Bytes b ∧ b.length ≤ 65536) (hl : B.length ≤ 1000000) (hz : 0 ≤ sz ∧ sz ≤ 1000000) (ht : tot l ≤ 1000000) (c : (B.length : Int) + tot l ≤ sz) :
    ∃ (n' : Nat) (row' : List Int), Dk (B ++ l.flatMap frm) (B ++ l.flatMap frm).length n' (n' : Int) row' ∧ Ev (fun k => wal_Wal_Add k l n sy sz true row) ((0 : Int), (((), ()), ((n', ((n' : Int), (sz, (true, ())))), ((), ((row', ()), ()))))) := by
  have hex := append_ok 0 h hl hz (a := l.flatMap frm) c
  obtain ⟨n', row', _, d1⟩ := hex
  refine ⟨n + (l.flatMap frm).length, apc row n (l.flatMap frm), ?_, ?_⟩
  · exact (append_dk h).sync
  · simp only [wal_Wal_Add_eq]
    refine .bind (frames_ev hb ht) ?_
    simp only [wal_Wal_ok_eq, Option.bind_some, Bool.not_true, cond_false]
    refine .bind (.from 1 fun k => append_eq k h hl hz c) ?_
    exact ⟨0, fun k _ => by
      simp only [dT, Bool.not_true, cond_false, sync_is, Option.bind_some]⟩
theorem add_no {B : List Int} {s n : Nat} {sy sz : Int} {row : List Int} (h : Dk B s n sy row) {l : List (List Int)} (hb : ∀ b ∈ l, Bytes b ∧ b.length ≤ 65536) (hl : B.length ≤ 1000000) (hz : 0 ≤ sz ∧ sz ≤ 1000000) (ht : tot l ≤ 1000000) (c : ¬ (B.length : Int) + tot l ≤ sz) :
    Ev (fun k => wal_Wal_Add k l n sy sz true row) ((60 : Int), (((), ()), ((n, (sy, (sz, (true, ())))), ((), ((row, ()), ()))))) := by
  simp only [wal_Wal_Add_eq]
  refine .bind (frames_ev hb ht) ?_
  simp only [wal_Wal_ok_eq, Option.bind_some, Bool.not_true, cond_false]
  refine .bind ⟨0, fun k _ => append_no k h hl hz (a := l.flatMap frm) (by unfold tot at c; omega)⟩ ?_
  exact ⟨0, fun k _ => rfl⟩
theorem wsize_ev {B : List Int} {s n : Nat} {sy sz : Int} {row : List Int} (h : Dk B s n sy row) (hl : B.length ≤ 1000000) : Ev (fun k => wal_Wal_Size k n sy sz true row) ((B.length : Int), (((), ()), ((n, (sy, (sz, (true, ())))), ((row, ()), ())))) := by
  simp only [wal_Wal_Size_eq, wal_Wal_ok_eq, Option.bind_some, Bool.not_true, cond_false]
  exact .bind ⟨0, fun k _ => bytes_is k h hl⟩ .ret
theorem Bytes.nil : Bytes [] := fun x hx => by cases hx
theorem awake07_ev : Ev (fun k => law07_awake k) (true, ()) := by
  simp only [law07_awake_eq, new_is, Option.bind_some]
  refine .bind (open_ev (sz := 100) Dk.new Bytes.nil (by simp)) ?_
  have hw : ∀ b ∈ [[(97 : Int)]], Bytes b ∧ b.length ≤ 65536 := by
    intro b hb; simp at hb; subst hb
    exact ⟨fun x hx => by simp at hx; subst hx; decide, by simp⟩
  have ht : tot [[(97 : Int)]] = 9 := by rw [tot_cons]; rfl
  obtain ⟨n', row', d1, e1⟩ := add_ok (sz := 100) (Dk.opened Dk.new Bytes.nil) hw (by simp) (by omega) (by omega) (by rw [ht]; simp)
  have hl : (List.take (allF []).2 ([] : List Int) ++ [[(97 : Int)]].flatMap frm).length = 9 := by
    rw [List.take_nil, List.nil_append]; exact ht
  have e2 := wsize_ev (sz := 100) d1 (by omega)
  rw [hl] at e2
  refine .bind (F := fun k => wal_Wal_Add k [[(97 : Int)]] (allF []).2 (((allF []).2 : Nat) : Int) 100 true []) e1 ?_
  refine .bind (F := fun k => wal_Wal_Size k n' (n' : Int) 100 true row') e2 ?_
  exact ⟨0, fun k _ => rfl⟩
theorem few7 (k : Nat) (l : List (List Int)) (hm : l.length ≤ 9223372036854775807) : ∀ n j, j ≤ l.length → l.length - j < n → law07_few_l0 k n l l (l.length : Int) (j : Int) = some ((l.drop j).all (fun x => decide (x.length ≤ 100)) && decide (l.length ≤ 12), ())
  | 0, _, _, h => absurd h (Nat.not_lt_zero _)
  | n + 1, j, hj, hn => by
    rw [law07_few_l0_eq]
    by_cases c : j < l.length
    · rw [bt (by omega), nth_get (List.getElem?_eq_getElem c), Option.bind_some, List.drop_eq_getElem_cons c, List.all_cons]
      by_cases c1 : 100 < (l[j].length : Int)
      · rw [bt c1, dF (p := l[j].length ≤ 100) (by omega)]; rfl
      rw [bf c1, wr_i64 (by omega), dT (p := l[j].length ≤ 100) (by omega)]
      exact few7 k l hm n (j + 1) c (by omega)
    · have : j = l.length := by omega
      subst this
      rw [bf (by omega), List.drop_length]
      have : decide ((l.length : Int) ≤ 12) = decide (l.length ≤ 12) := by
        by_cases h : l.length ≤ 12
        · rw [dT h, dT (by omega)]
        · rw [dF h, dF (by omega)]
      rw [this]; rfl
def fewT (l : List (List Int)) : Bool := l.all (fun x => decide (x.length ≤ 100)) && decide (l.length ≤ 12)
theorem few7_ev {l : List (List Int)} (h : wfD (.sl (.sl (.int .u8))) l) : Ev (fun k => law07_few k l) (fewT l, ()) := by
  obtain ⟨hl, _⟩ := h
  have hl : l.length ≤ maxLen := hl
  have hmax : maxLen ≤ 9223372036854775807 := by decide
  refine ⟨l.length + 1, fun k hk => ?_⟩
  show law07_few k l = _
  rw [law07_few_eq]
  exact few7 k l (by omega) k 0 (by omega) (by omega)
theorem few7_of {l : List (List Int)} (h : wfD (.sl (.sl (.int .u8))) l) (hb : fewT l = true) : l.length ≤ 12 ∧ (∀ b ∈ l, Bytes b ∧ b.length ≤ 65536) ∧ tot l ≤ 1296 := by
  unfold fewT at hb
  simp only [Bool.and_eq_true, List.all_eq_true, decide_eq_true_eq] at hb
  have htt : ∀ m : List (List Int), (∀ b ∈ m, b.length ≤ 100) → tot m ≤ 108 * m.length := by
    intro m
    induction m with
    | nil => intro _; simp [tot]
    | cons b m ih =>
      intro hm
      have h1 := hm b List.mem_cons_self
      have h2 := ih fun w hw => hm w (List.mem_cons_of_mem _ hw)
      rw [tot_cons, List.length_cons]; omega
  have := htt l hb.1
  exact ⟨hb.2, fun b hb' => ⟨(h.2 b hb').2, by have := hb.1 b hb'; omega⟩, by omega⟩
theorem sm_inr {A B ρ : Type} (y : B) (f : A → ρ) (g : B → ρ) : sm (Sum.inr y) f g = g y := rfl
theorem sm_inl {A B ρ : Type} (x : A) (f : A → ρ) (g : B → ρ) : sm (Sum.inl x) f g = f x := rfl
theorem rframes_l0 (k : Nat) {l : List (List Int)} (hb : ∀ b ∈ l, Bytes b ∧ b.length ≤ 65536) (ht : tot l ≤ 1000000) : ∀ n j t, j ≤ l.length → l.length ≤ 1000000 → l.length - j < n →
    ref06_Frames_l0 (k + 70000) n t ((l.take j).flatMap frm) l (l.length : Int) (j : Int) = some ((l.flatMap frm, (true, ())), ())
  | 0, _, _, _, _, h => absurd h (Nat.not_lt_zero _)
  | n + 1, j, t, hj, hl, hn => by
    rw [ref06_Frames_l0_eq]
    by_cases c : j < l.length
    · have hbj := hb _ (List.getElem_mem c)
      have e1 : (l.take j).flatMap frm ++ frm l[j] = (l.take (j + 1)).flatMap frm := by
        rw [← List.take_append_getElem c, List.flatMap_append]; congr 1; simp
      have htj : tot (l.take (j + 1)) ≤ 1000000 := by
        have := tot_app (l.take (j + 1)) (l.drop (j + 1)); rw [List.take_append_drop] at this; omega
      unfold tot at htj
      rw [← e1, List.length_append] at htj
      rw [bt (by omega), nth_get (List.getElem?_eq_getElem c), Option.bind_some, bf (by omega)]
      rw [ref01_Frame_is k hbj.1 hbj.2, Option.bind_some, lim_ok (show ((l.take j).flatMap frm).length + (frm l[j]).length ≤ _ by omega), wr_i64 (by omega), e1]
      exact rframes_l0 k hb ht n (j + 1) _ (by omega) hl (by omega)
    · have : j = l.length := by omega
      subst this
      rw [bf (by omega), List.take_length]
theorem rframes_ev {l : List (List Int)} (hb : ∀ b ∈ l, Bytes b ∧ b.length ≤ 65536) (ht : tot l ≤ 1000000) : Ev (fun k => ref06_Frames k l) ((l.flatMap frm, (true, ())), ()) := by
  have := tot_ge l
  refine ⟨1070000, fun k hk => ?_⟩
  obtain ⟨j, rfl⟩ : ∃ j, k = j + 70000 := ⟨k - 70000, by omega⟩
  show ref06_Frames (j + 70000) l = _
  rw [ref06_Frames_eq]
  exact rframes_l0 j hb ht (j + 70000) 0 true (by omega) (by omega) (by omega)
theorem refnew_ev (size : Int) : Ev (fun k => ref06_NewDisk k size) ((), (([], ((0 : Int), (mxI size 0, ()))), ())) := .from 1 fun k => by
  rw [ref06_NewDisk_eq]
  by_cases c : size < 0
  · rw [bt c, ref06_NewDisk_j0_eq, show mxI size 0 = 0 from if_pos c]
  · rw [bf c, ref06_NewDisk_j0_eq, show mxI size 0 = size from if_neg c]
theorem radd_ok {B : List Int} {s sz : Int} {l : List (List Int)} (hb : ∀ b ∈ l, Bytes b ∧ b.length ≤ 65536) (hl : B.length ≤ 1000000) (hz : 0 ≤ sz ∧ sz ≤ 1000000) (ht : tot l ≤ 1000000) (c : (B.length : Int) + tot l ≤ sz) :
    Ev (fun k => ref06_Disk_Add k l B s sz) ((0 : Int), ((B ++ l.flatMap frm, (((B ++ l.flatMap frm).length : Int), (sz, ()))), ())) := by
  simp only [ref06_Disk_Add_eq]
  refine .bind (rframes_ev hb ht) ?_
  simp only [Bool.not_true, cond_false]
  refine .bind ⟨0, fun k _ => refapp_ok k hl hz c⟩ ?_
  exact ⟨0, fun k _ => by simp only [dT, Bool.not_true, cond_false, ref06_Disk_Sync_eq, Option.bind_some]⟩
theorem radd_no {B : List Int} {s sz : Int} {l : List (List Int)} (hb : ∀ b ∈ l, Bytes b ∧ b.length ≤ 65536) (hl : B.length ≤ 1000000) (hz : 0 ≤ sz ∧ sz ≤ 1000000) (ht : tot l ≤ 1000000) (c : ¬ (B.length : Int) + tot l ≤ sz) :
    Ev (fun k => ref06_Disk_Add k l B s sz) ((60 : Int), ((B, (s, (sz, ()))), ())) := by
  simp only [ref06_Disk_Add_eq]
  refine .bind (rframes_ev hb ht) ?_
  simp only [Bool.not_true, cond_false]
  refine .bind ⟨0, fun k _ => refapp_no k hl hz (a := l.flatMap frm) (by unfold tot at c; omega)⟩ ?_
  exact ⟨0, fun k _ => rfl⟩
/-- Adding, both ways. -/
theorem add_both {B : List Int} {s n : Nat} {sy sz : Int} {row : List Int} (h : Dk B s n sy row) {l : List (List Int)} (hb : ∀ b ∈ l, Bytes b ∧ b.length ≤ 65536) (hl : B.length ≤ 500000) (hz : 0 ≤ sz ∧ sz ≤ 1000000) (ht : tot l ≤ 2000) :
    ∃ (e : Int) (B' : List Int) (s' n' : Nat) (row' : List Int), Dk B' s' n' (s' : Int) row' ∧ B'.length ≤ B.length + 2000 ∧ Ev (fun k => wal_Wal_Add k l n sy sz true row) (e, (((), ()), ((n', ((s' : Int), (sz, (true, ())))), ((), ((row', ()), ()))))) ∧ Ev (fun k => ref06_Disk_Add k l B (s : Int) sz) (e, ((B', ((s' : Int), (sz, ()))), ())) := by
  by_cases c : (B.length : Int) + tot l ≤ sz
  · obtain ⟨n', row', d1, e1⟩ := add_ok h hb (by omega) hz (by omega) c
    have e2 := radd_ok (s := (s : Int)) hb (by omega) hz (by omega) c
    have hn : (n' : Int) = (((B ++ l.flatMap frm).length : Nat) : Int) := by rw [d1.2.1]
    rw [hn] at d1 e1
    refine ⟨0, _, (B ++ l.flatMap frm).length, n', row', d1, ?_, e1, e2⟩
    rw [List.length_append]; unfold tot at ht; omega
  · have e1 := add_no h hb (by omega) hz (by omega) c
    have e2 := radd_no (s := (s : Int)) hb (by omega) hz (by omega) c
    have h3 := h.2.2.1
    subst h3
    exact ⟨60, B, s, n, row, h, by omega, e1, e2⟩
theorem adds_tail {B : List Int} {s n : Nat} {sz : Int} {row : List Int} (h : Dk B s n (s : Int) row) (hl : B.length ≤ 1000000) : Ev (fun k => (disk_Disk_Bytes k n (s : Int) sz true row).bind fun r226 => (bif (beqL r226.1 B) then (disk_Disk_Synced k r226.2.1.1 r226.2.1.2.1 r226.2.1.2.2.1 r226.2.1.2.2.2.1 r226.2.2.1.1).bind fun r227 => some ((decide (r227.1 = (s : Int))), ()) else some (false, ()))) (true, ()) := by
  refine .bind ⟨0, fun k _ => bytes_is k h hl⟩ ?_
  simp only [show ∀ x, beqL x x = true from fun x => dT rfl, cond_true]
  refine .bind ⟨0, fun k _ => synced_is k n (s : Int) sz row⟩ ?_
  simp only [dT]
  exact .ret
theorem WalAdds_true (size : Int) (l m p : List (List Int)) (_ : (Lit.int .i64 size).wf = true) (h : wfD (.sl (.sl (.int .u8))) l) (h' : wfD (.sl (.sl (.int .u8))) m) (h'' : wfD (.sl (.sl (.int .u8))) p) : ∃ k, law07_WalAdds k size l m p = some (true, ()) := by
  refine Ev.ex (F := fun k => law07_WalAdds k size l m p) ?_
  simp only [law07_WalAdds_eq]
  refine .bind awake07_ev ?_
  simp only [Bool.not_true, cond_false]
  by_cases c1 : 10000 < size
  · simp only [bt c1]; exact .ret
  simp only [bf c1]
  refine .bind (few7_ev h) ?_
  cases hb : fewT l with
  | false => exact .ret
  | true =>
  obtain ⟨l1, l2, l3⟩ := few7_of h hb
  simp only [Bool.not_true, cond_false]
  refine .bind (few7_ev h') ?_
  cases hb' : fewT m with
  | false => exact .ret
  | true =>
  obtain ⟨m1, m2, m3⟩ := few7_of h' hb'
  simp only [Bool.not_true, cond_false]
  refine .bind (few7_ev h'') ?_
  cases hb'' : fewT p with
  | false => exact .ret
  | true =>
  obtain ⟨p1, p2, p3⟩ := few7_of h'' hb''
  simp only [Bool.not_true, cond_false, new_is, Option.bind_some]
  have hz : 0 ≤ mxI size 0 ∧ mxI size 0 ≤ 1000000 := by unfold mxI; split <;> omega
  refine .bind (refnew_ev size) ?_
  generalize mxI size 0 = sz at *
  refine .bind (F := fun k => wal_Open k 0 0 sz true []) (open_ev (sz := sz) Dk.new Bytes.nil (by simp)) ?_
  simp only [sm_inr, dT, Bool.not_true, cond_false]
  have d0 : Dk [] 0 (allF []).2 (((allF []).2 : Nat) : Int) [] := by
    have h0 : (allF []).2 = 0 := by have := (allF_inv Bytes.nil).1; simpa using this
    rw [h0]; exact Dk.new
  obtain ⟨a, B1, s1, n1, r1, d1, b1, e1, f1⟩ := add_both (sz := sz) d0 l2 (by simp) hz (by omega)
  refine .bind e1 (.bind (F := fun k => ref06_Disk_Add k l [] 0 sz) f1 ?_)
  simp only [List.length_nil] at b1
  have g := frames_ev m2 (by omega)
  have rg := rframes_ev m2 (by omega)
  by_cases c : ((m.flatMap frm).length : Int) ≤ sz
  · have hsw : ∃ x, Ev (fun k => wal_Wal_Rewrite k m n1 (s1 : Int) sz true r1) (Sum.inr ((0 : Int), (((), ()), (((m.flatMap frm).length, (((m.flatMap frm).length : Int), (sz, (true, ())))), (x, ((m.flatMap frm, ()), ())))))) := by
      obtain ⟨x, _⟩ := swap_ok 0 n1 (s1 : Int) sz r1 (a := m.flatMap frm) c (by omega)
      refine ⟨(r1, ()), ?_⟩
      simp only [wal_Wal_Rewrite_eq]
      refine .bind g ?_
      simp only [wal_Wal_ok_eq, Option.bind_some, Bool.not_true, cond_false]
      refine .bind (r := Sum.inr ((0 : Int), (((m.flatMap frm).length, (((m.flatMap frm).length : Int), (sz, (true, ())))), ((r1, ()), ((m.flatMap frm, ()), ()))))) ⟨0, fun k _ => ?_⟩ ?_
      · show disk_Disk_Swap k (m.flatMap frm) n1 (s1 : Int) sz true r1 = _
        rw [disk_Disk_Swap_eq, disk_Disk_ok_eq]
        simp only [Option.bind_some, Bool.not_true, cond_false]
        rw [bf (by omega), lim_ok (by omega), sync_is]; rfl
      · exact ⟨0, fun k _ => rfl⟩
    obtain ⟨x, hsw⟩ := hsw
    have hrf : Ev (fun k => ref06_Disk_Rewrite k m B1 (s1 : Int) sz) ((0 : Int), ((m.flatMap frm, (((m.flatMap frm).length : Int), (sz, ()))), ())) := by
      simp only [ref06_Disk_Rewrite_eq]
      refine .bind rg ?_
      simp only [Bool.not_true, cond_false]
      exact .bind ⟨0, fun k _ => refswap_ok k (by omega) c⟩ .ret
    refine .bind hsw ?_
    simp only [sm_inr]
    have hmm : (m.flatMap frm).length = tot m := rfl
    obtain ⟨a3, B3, s3, n3, r3, d3, b3, e3, f3⟩ := add_both (sz := sz) (Dk.swap (m.flatMap frm)) p2 (by omega) hz (by omega)
    refine .bind hrf (.bind e3 (.bind (F := fun k => ref06_Disk_Add k p (m.flatMap frm) (((m.flatMap frm).length : Nat) : Int) sz) f3 ?_))
    simp only [dT, cond_true]
    exact adds_tail d3 (by omega)
  · have hsw : Ev (fun k => wal_Wal_Rewrite k m n1 (s1 : Int) sz true r1) (Sum.inl ((60 : Int), (((), ()), ((n1, ((s1 : Int), (sz, (true, ())))), ((r1, ()), ()))))) := by
      simp only [wal_Wal_Rewrite_eq]
      refine .bind g ?_
      simp only [wal_Wal_ok_eq, Option.bind_some, Bool.not_true, cond_false]
      refine .bind (F := fun k => disk_Disk_Swap k (m.flatMap frm) n1 (s1 : Int) sz true r1) ⟨0, fun k _ => swap_no k n1 (s1 : Int) sz r1 (by omega)⟩ ?_
      exact ⟨0, fun k _ => rfl⟩
    have hrf : Ev (fun k => ref06_Disk_Rewrite k m B1 (s1 : Int) sz) ((60 : Int), ((B1, ((s1 : Int), (sz, ()))), ())) := by
      simp only [ref06_Disk_Rewrite_eq]
      refine .bind rg ?_
      simp only [Bool.not_true, cond_false]
      exact .bind ⟨0, fun k _ => refswap_no k (by omega)⟩ .ret
    refine .bind hsw ?_
    simp only [sm_inl]
    obtain ⟨a3, B3, s3, n3, r3, d3, b3, e3, f3⟩ := add_both (sz := sz) d1 p2 (by omega) hz (by omega)
    refine .bind hrf (.bind e3 (.bind (F := fun k => ref06_Disk_Add k p B1 (s1 : Int) sz) f3 ?_))
    simp only [dT, cond_true]
    exact adds_tail d3 (by omega)
end Go.Proofs.Ytjilcpjapnngfaa.Den
