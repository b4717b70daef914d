import Derived.Test.YtjilcpjapnngfaaDDiskDoes
import Derived.Test.YtjilcpjapnngfaaDen34
namespace Go.Proofs.Ytjilcpjapnngfaa.Den
open Go Go.RowKit
set_option linter.unusedVariables false
attribute [local irreducible] disk_Disk_Append disk_Disk_Append_j0 disk_Disk_Bytes disk_Disk_Crash disk_Disk_Cut disk_Disk_Swap disk_Disk_Sync disk_Disk_Synced disk_Disk_ok disk_Disk_room disk_New law06_DiskDoes law06_DiskDoes_j0 law06_DiskDoes_j1 law06_DiskDoes_j2 law06_DiskDoes_j3 law06_DiskDoes_l0 law06_awake ref06_Disk_Append ref06_Disk_Crash ref06_Disk_Crash_j0 ref06_Disk_Crash_l0 ref06_Disk_Cut ref06_Disk_Swap ref06_Disk_Sync ref06_NewDisk ref06_NewDisk_j0
/-! ### The disk -/
abbrev Byt (l : List Int) : Prop := ∀ x ∈ l, (Lit.int .u8 x).wf = true
def Dk (B : List Int) (s : Nat) (n : Nat) (sy : Int) (row : List Int) : Prop := row.take n = B ∧ B.length = n ∧ sy = (s : Int) ∧ s ≤ n
theorem Dk.row {B : List Int} {s n : Nat} {sy : Int} {row : List Int} (h : Dk B s n sy row) : n ≤ row.length := by
  have h1 := congrArg List.length h.1
  rw [h.2.1, List.length_take] at h1
  omega
theorem new_is (k : Nat) (a : Int) : disk_New k a = some ((), ((0, ((0 : Int), ((mxI a 0), (true, ())))), (([], ()), ()))) := disk_New_eq k a
theorem Dk.new : Dk [] 0 0 0 [] := ⟨rfl, rfl, rfl, Nat.le_refl _⟩
theorem bytes_is (k : Nat) {B : List Int} {s n : Nat} {sy sz : Int} {row : List Int} (h : Dk B s n sy row) (hl : B.length ≤ 1000000) : disk_Disk_Bytes k n sy sz true row = some (B, ((n, (sy, (sz, (true, ())))), ((row, ()), ()))) := by
  rw [disk_Disk_Bytes_eq, disk_Disk_ok_eq]
  simp only [Option.bind_some, Bool.not_true, cond_false, h.1]
  rw [lim_ok (by omega)]; rfl
theorem sync_is (k : Nat) (n : Nat) (sy sz : Int) (row : List Int) : disk_Disk_Sync k n sy sz true row = some ((0 : Int), ((n, ((n : Int), (sz, (true, ())))), ((row, ()), ()))) := by
  rw [disk_Disk_Sync_eq, disk_Disk_ok_eq]; rfl
theorem Dk.sync {B : List Int} {s n : Nat} {sy : Int} {row : List Int} (h : Dk B s n sy row) : Dk B B.length n (n : Int) row := ⟨h.1, h.2.1, by rw [h.2.1], by rw [h.2.1]; exact Nat.le_refl _⟩
theorem append_no (k : Nat) {B : List Int} {s n : Nat} {sy sz : Int} {row : List Int} (h : Dk B s n sy row) (hl : B.length ≤ 1000000) (hz : 0 ≤ sz ∧ sz ≤ 1000000) {a : List Int} (c : sz - B.length < a.length) :
    disk_Disk_Append k a n sy sz true row = some ((60 : Int), ((n, (sy, (sz, (true, ())))), ((), ((row, ()), ())))) := by
  rw [disk_Disk_Append_eq, disk_Disk_room_eq, disk_Disk_ok_eq]
  show ((disk_Disk_Bytes k n sy sz true row).bind _) = _
  rw [bytes_is k h hl, Option.bind_some]
  show (bif decide (wr .i64 (sz - (B.length : Int)) < (a.length : Int)) then _ else _) = _
  rw [wr_i64 (by omega), bt c]
theorem append_ok (k : Nat) {B : List Int} {s n : Nat} {sy sz : Int} {row : List Int} (h : Dk B s n sy row) (hl : B.length ≤ 1000000) (hz : 0 ≤ sz ∧ sz ≤ 1000000) {a : List Int} (c : (B.length : Int) + a.length ≤ sz) :
    ∃ (n' : Nat) (row' : List Int), disk_Disk_Append (k + 1) a n sy sz true row = some ((0 : Int), ((n', (sy, (sz, (true, ())))), ((), ((row', ()), ())))) ∧ Dk (B ++ a) s n' sy row' := by
  refine ⟨n + a.length, apc row n a, ?_, ?_⟩
  · rw [disk_Disk_Append_eq, disk_Disk_room_eq, disk_Disk_ok_eq]
    show ((disk_Disk_Bytes (k + 1) n sy sz true row).bind _) = _
    rw [bytes_is (k + 1) h hl, Option.bind_some]
    show (bif decide (wr .i64 (sz - (B.length : Int)) < (a.length : Int)) then _ else (disk_Disk_ok (k + 1) n sy sz true row).bind _) = _
    rw [wr_i64 (by omega), bf (by omega), disk_Disk_ok_eq]
    show lim (n + a.length) (disk_Disk_Append_j0 (k + 1) (n + a.length) sy sz true (apc row n a)) = _
    rw [lim_ok (by have := h.2.1; omega), disk_Disk_Append_j0_eq]
  · have hr := h.row
    refine ⟨?_, by rw [List.length_append, h.2.1], h.2.2.1, by have := h.2.2.2; omega⟩
    unfold apc
    cases a with
    | nil => simp [h.1]
    | cons x t =>
      show (row.take n ++ x :: t).take (n + (x :: t).length) = _
      rw [h.1]
      exact List.take_of_length_le (by rw [List.length_append, h.2.1]; exact Nat.le_refl _)
/-- What is there behind a crash. -/
def crB (B : List Int) (s : Nat) (keep : Int) (noise : List Int) : List Int := B.take s ++ (B.drop s).take keep.toNat ++ noise.take (B.length - s - keep.toNat)
theorem crB_length {B : List Int} {s : Nat} {keep : Int} {noise : List Int} (hs : s ≤ B.length) : s ≤ (crB B s keep noise).length ∧ (crB B s keep noise).length ≤ B.length := by
  unfold crB
  simp only [List.length_append, List.length_take, List.length_drop]
  omega
theorem take_min {l : List Int} {a b : Nat} (h : min a l.length = min b l.length) : l.take a = l.take b := by
  rcases Nat.le_total l.length a with h1 | h1 <;> rcases Nat.le_total l.length b with h2 | h2
  · rw [List.take_of_length_le h1, List.take_of_length_le h2]
  · have : b = l.length := by omega
    rw [List.take_of_length_le h1, this, List.take_length]
  · have : a = l.length := by omega
    rw [List.take_of_length_le h2, this, List.take_length]
  · have : a = b := by omega
    rw [this]
theorem crash_ok (k : Nat) {B : List Int} {s n : Nat} {sy sz : Int} {row : List Int} (h : Dk B s n sy row) (hl : B.length ≤ 1000000) (keep : Int) (noise : List Int) :
    ∃ (n' : Nat) (row' : List Int), disk_Disk_Crash k keep noise n sy sz true row = some ((), ((n', ((n' : Int), (sz, (true, ())))), ((row', ()), ()))) ∧ Dk (crB B s keep noise) (crB B s keep noise).length n' (n' : Int) row' := by
  have hr := h.row
  obtain ⟨h1, h2, h3, h4⟩ := h
  subst h3
  have hk : mnI (mxI keep 0) (((n - s : Nat)) : Int) = ((min keep.toNat (n - s) : Nat) : Int) := by
    unfold mnI mxI; split <;> split <;> omega
  refine ⟨s + min keep.toNat (n - s) + min noise.length (n - s - min keep.toNat (n - s)), lay row (s + min keep.toNat (n - s)) (noise.take (min noise.length (n - s - min keep.toNat (n - s)))), ?_, ?_⟩
  · rw [disk_Disk_Crash_eq, disk_Disk_ok_eq, Option.bind_some]
    simp only [Bool.not_true, cond_false, Int.toNat_natCast, hk, Nat.zero_add]
    have hm : Nat.min noise.length (n - s - min keep.toNat (n - s)) = min noise.length (n - s - min keep.toNat (n - s)) := rfl
    rw [hm]
    have e1 : wr .i64 (((s : Nat) : Int) + ((min keep.toNat (n - s) : Nat) : Int)) = ((s + min keep.toNat (n - s) : Nat) : Int) := by rw [wr_i64 (by omega)]; omega
    rw [e1]
    have e2 : wr .i64 (((s + min keep.toNat (n - s) : Nat) : Int) + ((min noise.length (n - s - min keep.toNat (n - s)) : Nat) : Int)) = ((s + min keep.toNat (n - s) + min noise.length (n - s - min keep.toNat (n - s)) : Nat) : Int) := by rw [wr_i64 (by omega)]; omega
    rw [e2, must_true (inC_t (by omega) (by omega) (by omega)), must_true (inC_t (by omega) (by omega) (by omega)), must_true (inC_t (by omega) (by omega) (by omega)), Int.toNat_natCast]
  · have e : (lay row (s + min keep.toNat (n - s)) (noise.take (min noise.length (n - s - min keep.toNat (n - s))))).take (s + min keep.toNat (n - s) + min noise.length (n - s - min keep.toNat (n - s))) = crB B s keep noise := by
      unfold lay crB
      have hlen : (row.take (s + min keep.toNat (n - s)) ++ noise.take (min noise.length (n - s - min keep.toNat (n - s)))).length = s + min keep.toNat (n - s) + min noise.length (n - s - min keep.toNat (n - s)) := by
        simp only [List.length_append, List.length_take]; omega
      rw [← hlen, List.take_left]
      have e1 : row.take (s + min keep.toNat (n - s)) = B.take s ++ (B.drop s).take keep.toNat := by
        have : row.take (s + min keep.toNat (n - s)) = B.take (s + min keep.toNat (n - s)) := by rw [← h1, List.take_take]; congr 1; omega
        rw [this, List.take_add]
        congr 1
        exact take_min (by rw [List.length_drop, h2]; omega)
      rw [e1]
      congr 1
      exact take_min (by rw [h2]; omega)
    have hlen := congrArg List.length e
    have hl2 : (lay row (s + min keep.toNat (n - s)) (noise.take (min noise.length (n - s - min keep.toNat (n - s))))).length = row.length := by
      unfold lay; simp only [List.length_append, List.length_take, List.length_drop]; omega
    rw [List.length_take, hl2] at hlen
    exact ⟨e, by omega, by omega, by omega⟩
theorem awake06_ev : Ev (fun k => law06_awake k) (true, ()) := by
  refine .from 1 fun k => ?_
  obtain ⟨n1, r1, e1, d1⟩ := append_ok k (sz := 10) Dk.new (by simp) (by omega) (a := [97, 98]) (by simp)
  obtain ⟨n2, r2, e2, d2⟩ := append_ok k (sz := 10) d1.sync (by simp) (by omega) (a := [99]) (by simp)
  obtain ⟨n3, r3, e3, d3⟩ := crash_ok (k + 1) (sz := 10) d2 (by simp) 0 []
  have e4 := bytes_is (k + 1) (sz := 10) d3 (by have := (crB_length (B := [97, 98] ++ [99]) (s := 2) (keep := 0) (noise := []) (by simp)).2; simp at this ⊢; omega)
  rw [law06_awake_eq, new_is, Option.bind_some]
  show ((disk_Disk_Append (k + 1) [97, 98] 0 0 10 true []).bind _) = _
  rw [e1, Option.bind_some]
  show (bif !decide ((0 : Int) = 0) then _ else (disk_Disk_Sync (k + 1) n1 0 10 true r1).bind _) = _
  rw [bif_false (by decide), sync_is, Option.bind_some]
  show (bif !decide ((0 : Int) = 0) then _ else (disk_Disk_Append (k + 1) [99] n1 (n1 : Int) 10 true r1).bind _) = _
  rw [bif_false (by decide), e2, Option.bind_some]
  show (bif !decide ((0 : Int) = 0) then _ else (disk_Disk_Crash (k + 1) 0 [] n2 (n1 : Int) 10 true r2).bind _) = _
  rw [bif_false (by decide), e3, Option.bind_some]
  show ((disk_Disk_Bytes (k + 1) n3 (n3 : Int) 10 true r3).bind _) = _
  rw [e4]; rfl
theorem synced_is (k : Nat) (n : Nat) (sy sz : Int) (row : List Int) : disk_Disk_Synced k n sy sz true row = some (sy, ((n, (sy, (sz, (true, ())))), ((row, ()), ()))) := by
  rw [disk_Disk_Synced_eq, disk_Disk_ok_eq]; rfl
theorem swap_no (k : Nat) (n : Nat) (sy sz : Int) (row : List Int) {a : List Int} (c : sz < a.length) : disk_Disk_Swap k a n sy sz true row = some (Sum.inl ((60 : Int), ((n, (sy, (sz, (true, ())))), ((row, ()), ())))) := by
  rw [disk_Disk_Swap_eq, disk_Disk_ok_eq]
  show (bif decide (sz < (a.length : Int)) then _ else _) = _
  rw [bt c]
theorem swap_ok (k : Nat) (n : Nat) (sy sz : Int) (row : List Int) {a : List Int} (c : (a.length : Int) ≤ sz) (hz : sz ≤ 1000000) : ∃ x, disk_Disk_Swap k a n sy sz true row = some (Sum.inr ((0 : Int), ((a.length, ((a.length : Int), (sz, (true, ())))), (x, ((a, ()), ()))))) := by
  rw [disk_Disk_Swap_eq, disk_Disk_ok_eq]
  refine ⟨(row, ()), ?_⟩
  show (bif decide (sz < (a.length : Int)) then _ else lim a.length ((disk_Disk_Sync k a.length sy sz true a).bind _)) = _
  rw [bf (by omega), lim_ok (by omega), sync_is]; rfl
theorem Dk.swap (a : List Int) : Dk a a.length a.length (a.length : Int) a := ⟨List.take_length, rfl, rfl, Nat.le_refl _⟩
/-! ### The document's disk -/
theorem drop_nil {α : Type} {l : List α} {n : Nat} (h : l.length ≤ n) : l.drop n = [] := List.drop_eq_nil_of_le h
def crF (B : List Int) (s : Nat) (keep : Int) (noise out : List Int) (i kk : Nat) : List Int := out ++ ((B.drop s).drop i).take (keep.toNat - i) ++ (noise.drop kk).take (B.length - s - max i keep.toNat)
theorem refcrash_l0 (k : Nat) {B noise : List Int} {s : Nat} {sz keep : Int} (hB : B.length ≤ 1000000) (hs : s ≤ B.length) (hnz : noise.length ≤ 1000000) (B0 : List Int) (s0 : Int) : ∀ n i kk b out, i ≤ B.length - s → B.length - s - i < n → kk ≤ noise.length → out.length + (B.length - s - i) ≤ 4000000 →
    ref06_Disk_Crash_l0 (k + 1) n keep noise b out (kk : Int) (B.drop s) (((B.length - s : Nat)) : Int) (i : Int) B0 s0 sz = some ((), ((crF B s keep noise out i kk, (((crF B s keep noise out i kk).length : Int), (sz, ()))), ()))
  | 0, _, _, _, _, _, h, _, _ => absurd h (Nat.not_lt_zero _)
  | n + 1, i, kk, b, out, hi, hn, hkk, ho => by
    rw [ref06_Disk_Crash_l0_eq]
    have hdl : (B.drop s).length = B.length - s := List.length_drop
    by_cases c : i < B.length - s
    · have hc : i < (B.drop s).length := by omega
      have hx := List.getElem?_eq_getElem hc
      have hd := List.drop_eq_getElem_cons hc
      generalize (B.drop s)[i] = x at *
      rw [bt (by omega), nth_get hx, Option.bind_some]
      by_cases ck : (i : Int) < keep
      · rw [bt ck, lim_ok (by simp; omega), wr_i64 (by omega)]
        refine (refcrash_l0 k hB hs hnz B0 s0 n (i + 1) kk (b && [x].isEmpty) (out ++ [x]) (by omega) (by omega) hkk (by simp; omega)).trans ?_
        have e : crF B s keep noise (out ++ [x]) (i + 1) kk = crF B s keep noise out i kk := by
          unfold crF
          rw [hd, show keep.toNat - i = (keep.toNat - (i + 1)) + 1 by omega, List.take_succ_cons, show max (i + 1) keep.toNat = max i keep.toNat by omega]
          simp
        rw [e]
      · rw [bf ck]
        have hk0 : keep.toNat - i = 0 := by omega
        have hk1 : keep.toNat - (i + 1) = 0 := by omega
        by_cases cn : kk < noise.length
        · have hnx := List.getElem?_eq_getElem cn
          have hnd := List.drop_eq_getElem_cons cn
          generalize noise[kk] = y at *
          rw [bt (by omega), nth_get hnx, Option.bind_some, lim_ok (by simp; omega), ref06_Disk_Crash_j0_eq, wr_i64 (n := (kk : Int) + 1) (by omega), wr_i64 (by omega)]
          refine (refcrash_l0 k hB hs hnz B0 s0 n (i + 1) (kk + 1) (b && [y].isEmpty) (out ++ [y]) (by omega) (by omega) cn (by simp; omega)).trans ?_
          have e : crF B s keep noise (out ++ [y]) (i + 1) (kk + 1) = crF B s keep noise out i kk := by
            unfold crF
            rw [hnd, hk0, hk1, show B.length - s - max i keep.toNat = (B.length - s - max (i + 1) keep.toNat) + 1 by omega, List.take_succ_cons]
            simp
          rw [e]
        · rw [bf (by omega), ref06_Disk_Crash_j0_eq, wr_i64 (by omega)]
          refine (refcrash_l0 k hB hs hnz B0 s0 n (i + 1) kk b out (by omega) (by omega) hkk (by omega)).trans ?_
          have e : crF B s keep noise out (i + 1) kk = crF B s keep noise out i kk := by
            unfold crF
            rw [hk0, hk1, drop_nil (l := noise) (by omega)]
            simp
          rw [e]
    · have hii : i = B.length - s := by omega
      rw [bf (by omega), ref06_Disk_Sync_eq]
      have e : crF B s keep noise out i kk = out := by
        unfold crF
        rw [drop_nil (l := B.drop s) (by omega), show B.length - s - max i keep.toNat = 0 by omega]
        simp
      rw [e]; rfl
theorem refcrash_is (k : Nat) {B noise : List Int} {s : Nat} {sz keep : Int} (hB : B.length ≤ 1000000) (hs : s ≤ B.length) (hnz : noise.length ≤ 1000000) (hk : B.length ≤ k) : ref06_Disk_Crash (k + 1) keep noise B (s : Int) sz = some ((), ((crB B s keep noise, (((crB B s keep noise).length : Int), (sz, ()))), ())) := by
  rw [ref06_Disk_Crash_eq, cut_all hs, Option.bind_some, lim_ok (by simp; omega), cut_from hs, Option.bind_some, List.length_drop]
  have := refcrash_l0 k (sz := sz) (keep := keep) hB hs hnz B (s : Int) (k + 1) 0 0 (true && (B.take s).isEmpty) ([] ++ B.take s) (by omega) (by omega) (by omega) (by simp; omega)
  refine this.trans ?_
  have e : crF B s keep noise ([] ++ B.take s) 0 0 = crB B s keep noise := by
    unfold crF crB
    simp
  rw [e]
theorem refapp_no (k : Nat) {B a : List Int} {s sz : Int} (hB : B.length ≤ 1000000) (hz : 0 ≤ sz ∧ sz ≤ 1000000) (c : sz - B.length < a.length) : ref06_Disk_Append k a B s sz = some ((60 : Int), ((B, (s, (sz, ()))), ())) := by
  rw [ref06_Disk_Append_eq, wr_i64 (by omega), bt c]
theorem refapp_ok (k : Nat) {B a : List Int} {s sz : Int} (hB : B.length ≤ 1000000) (hz : 0 ≤ sz ∧ sz ≤ 1000000) (c : (B.length : Int) + a.length ≤ sz) : ref06_Disk_Append k a B s sz = some ((0 : Int), ((B ++ a, (s, (sz, ()))), ())) := by
  rw [ref06_Disk_Append_eq, wr_i64 (by omega), bf (by omega), lim_ok (by omega), lim_ok (by simp; omega)]; rfl
theorem refswap_no (k : Nat) {B a : List Int} {s sz : Int} (c : sz < a.length) : ref06_Disk_Swap k a B s sz = some ((60 : Int), ((B, (s, (sz, ()))), ())) := by
  rw [ref06_Disk_Swap_eq, bt c]
theorem refswap_ok (k : Nat) {B a : List Int} {s sz : Int} (hz : sz ≤ 1000000) (c : (a.length : Int) ≤ sz) : ref06_Disk_Swap k a B s sz = some ((0 : Int), ((a, ((a.length : Int), (sz, ()))), ())) := by
  rw [ref06_Disk_Swap_eq, bf (by omega), lim_ok (by omega), ref06_Disk_Sync_eq]; rfl
theorem refcut_no (k : Nat) {B : List Int} {s sz n : Int} (c : n < 0 ∨ (B.length : Int) < n) : ref06_Disk_Cut k n B s sz = some ((1 : Int), ((B, (s, (sz, ()))), ())) := by
  rw [ref06_Disk_Cut_eq]
  by_cases c1 : n < 0
  · rw [bt c1]
  · rw [bf c1, bt (by omega)]
theorem refcut_ok (k : Nat) {B : List Int} {s sz : Int} {n : Nat} (c : n ≤ B.length) : ref06_Disk_Cut k (n : Int) B s sz = some ((0 : Int), ((B.take n, (((B.take n).length : Int), (sz, ()))), ())) := by
  rw [ref06_Disk_Cut_eq, bf (by omega), bf (by omega), must_true (by simp [beqI]), cut_all c, Option.bind_some, ref06_Disk_Sync_eq]; rfl
theorem cut_no (k : Nat) {n : Nat} {sy sz : Int} {row : List Int} {m : Int} (c : m < 0 ∨ (n : Int) < m) : disk_Disk_Cut k m n sy sz true row = some ((1 : Int), ((n, (sy, (sz, (true, ())))), ((row, ()), ()))) := by
  rw [disk_Disk_Cut_eq, disk_Disk_ok_eq]
  simp only [Option.bind_some, Bool.not_true, cond_false]
  by_cases c1 : m < 0
  · rw [bt c1]
  · rw [bf c1, bt (by omega)]
theorem cut_okk (k : Nat) {n m : Nat} {sy sz : Int} {row : List Int} (c : m ≤ n) : disk_Disk_Cut k (m : Int) n sy sz true row = some ((0 : Int), ((m, ((m : Int), (sz, (true, ())))), ((row, ()), ()))) := by
  rw [disk_Disk_Cut_eq, disk_Disk_ok_eq]
  simp only [Option.bind_some, Bool.not_true, cond_false]
  rw [bf (by omega), bf (by omega), must_true (inC_t (by omega) (by omega) (by omega)), Int.toNat_natCast, sync_is]; rfl
theorem Dk.cut {B : List Int} {s n m : Nat} {sy : Int} {row : List Int} (h : Dk B s n sy row) (c : m ≤ n) : Dk (B.take m) (B.take m).length m (m : Int) row := by
  obtain ⟨h1, h2, _, _⟩ := h
  have hl : (B.take m).length = m := by rw [List.length_take]; omega
  refine ⟨?_, hl, by rw [hl], by rw [hl]; exact Nat.le_refl _⟩
  rw [← h1, List.take_take]; congr 1; omega
abbrev DeedT := Int × ((List Int) × (Int × Unit))
theorem does_l0 (k : Nat) (hk : 20000 ≤ k) {l : List DeedT} (hl : l.length ≤ 40) {sz : Int} (hz : 0 ≤ sz ∧ sz ≤ 10000) : ∀ n j B s m sy row, Dk B s m sy row → (B.length : Int) ≤ sz → j ≤ l.length → l.length - j < n →
    law06_DiskDoes_l0 (k + 1) n l (l.length : Int) (j : Int) m sy sz true B (s : Int) sz row = some (true, ())
  | 0, _, _, _, _, _, _, _, _, _, h => absurd h (Nat.not_lt_zero _)
  | n + 1, j, B, s, m, sy, row, hd, hB, hj, hn => by
    rw [law06_DiskDoes_l0_eq]
    by_cases c : j < l.length
    · rw [bt (by omega), nth_get (List.getElem?_eq_getElem c), Option.bind_some]
      generalize l[j] = x
      by_cases c200 : 200 < (x.2.1.length : Int)
      · rw [bt c200]
      rw [bf c200]
      have next0 : ∀ (e : Int) B' s' m' sy' row', Dk B' s' m' sy' row' → (B'.length : Int) ≤ sz → law06_DiskDoes_j0 (k + 1) n e e l (l.length : Int) (j : Int) m' sy' sz true B' (s' : Int) sz row' = some (true, ()) := by
        intro e B' s' m' sy' row' hd' hB'
        rw [law06_DiskDoes_j0_eq, dT rfl, Bool.not_true, cond_false, bytes_is (k + 1) hd' (by omega), Option.bind_some]
        simp only [show ∀ x, beqL x x = true from fun x => dT rfl, Bool.not_true, cond_false]
        rw [synced_is, Option.bind_some]
        simp only [hd'.2.2.1, dT, Bool.not_true, cond_false]
        rw [wr_i64 (by omega)]
        have := does_l0 k hk hl hz n (j + 1) B' s' m' sy' row' hd' hB' c (by omega)
        rw [hd'.2.2.1] at this
        exact this
      have next1 : ∀ (e : Int) B' s' m' sy' row', Dk B' s' m' sy' row' → (B'.length : Int) ≤ sz → law06_DiskDoes_j1 (k + 1) n e e l (l.length : Int) (j : Int) m' sy' sz true B' (s' : Int) sz row' = some (true, ()) := by
        intro e B' s' m' sy' row' hd' hB'
        rw [law06_DiskDoes_j1_eq]; exact next0 e B' s' m' sy' row' hd' hB'
      have next2 : ∀ (e : Int) B' s' m' sy' row', Dk B' s' m' sy' row' → (B'.length : Int) ≤ sz → law06_DiskDoes_j2 (k + 1) n e e l (l.length : Int) (j : Int) m' sy' sz true B' (s' : Int) sz row' = some (true, ()) := by
        intro e B' s' m' sy' row' hd' hB'
        rw [law06_DiskDoes_j2_eq]; exact next1 e B' s' m' sy' row' hd' hB'
      have next3 : ∀ (e : Int) B' s' m' sy' row', Dk B' s' m' sy' row' → (B'.length : Int) ≤ sz → law06_DiskDoes_j3 (k + 1) n e e l (l.length : Int) (j : Int) m' sy' sz true B' (s' : Int) sz row' = some (true, ()) := by
        intro e B' s' m' sy' row' hd' hB'
        rw [law06_DiskDoes_j3_eq]; exact next2 e B' s' m' sy' row' hd' hB'
      by_cases c0 : x.1 = 0
      · rw [bt c0]
        by_cases cf : sz - B.length < x.2.1.length
        · rw [append_no (k + 1) hd (by omega) (by omega) cf, Option.bind_some, refapp_no (k + 1) (by omega) (by omega) cf, Option.bind_some]
          exact next0 60 B s m sy row hd hB
        · obtain ⟨m', row', e1, d1⟩ := append_ok k (sz := sz) hd (by omega) (by omega) (a := x.2.1) (by omega)
          rw [e1, Option.bind_some, refapp_ok (k + 1) (by omega) (by omega) (by omega), Option.bind_some]
          exact next0 0 _ s m' sy row' d1 (by simp; omega)
      rw [bf c0]
      by_cases c1 : x.1 = 1
      · rw [bt c1, sync_is, Option.bind_some, ref06_Disk_Sync_eq, Option.bind_some]
        exact next1 0 B B.length m _ row hd.sync hB
      rw [bf c1]
      by_cases c2 : x.1 = 2
      · rw [bt c2]
        by_cases cf : sz < x.2.1.length
        · rw [swap_no _ _ _ _ _ cf, Option.bind_some]
          show ((ref06_Disk_Swap (k + 1) x.2.1 B (s : Int) sz).bind _) = _
          rw [refswap_no (k + 1) cf, Option.bind_some]
          exact next2 60 B s m sy row hd hB
        · obtain ⟨y, e1⟩ := swap_ok (k + 1) m sy sz row (a := x.2.1) (by omega) (by omega)
          rw [e1, Option.bind_some]
          show ((ref06_Disk_Swap (k + 1) x.2.1 B (s : Int) sz).bind _) = _
          rw [refswap_ok (k + 1) (by omega) (by omega), Option.bind_some]
          exact next2 0 x.2.1 _ _ _ _ (Dk.swap x.2.1) (by omega)
      rw [bf c2]
      by_cases c3 : x.1 = 3
      · rw [bt c3]
        by_cases cf : x.2.2.1 < 0 ∨ (m : Int) < x.2.2.1
        · rw [cut_no (k + 1) cf, Option.bind_some, refcut_no (k + 1) (by rw [hd.2.1]; exact cf), Option.bind_some]
          exact next3 1 B s m sy row hd hB
        · obtain ⟨u, hu⟩ := Int.eq_ofNat_of_zero_le (show 0 ≤ x.2.2.1 by omega)
          rw [hu, cut_okk (k + 1) (by omega), Option.bind_some, refcut_ok (k + 1) (by have := hd.2.1; omega), Option.bind_some]
          exact next3 0 (B.take u) _ _ _ _ (hd.cut (m := u) (by omega)) (by rw [List.length_take]; omega)
      · rw [bf c3]
        obtain ⟨m', row', e1, d1⟩ := crash_ok (k + 1) (sz := sz) hd (by omega) x.2.2.1 x.2.1
        have hs : s ≤ B.length := by have := hd.2.1; have := hd.2.2.2; omega
        rw [e1, Option.bind_some, refcrash_is k (by omega) hs (by omega) (by omega), Option.bind_some]
        have := (crB_length (keep := x.2.2.1) (noise := x.2.1) hs).2
        exact next3 0 (crB B s x.2.2.1 x.2.1) _ _ _ _ d1 (by omega)
    · rw [bf (by omega)]
theorem DiskDoes_true (size : Int) (l : List DeedT) (hs : (Lit.int .i64 size).wf = true) (_ : wfD (.sl (.st (.pair (.int .i64) (.pair (.sl (.int .u8)) (.pair (.int .i64) .unit))))) l) : ∃ k, law06_DiskDoes k size l = some (true, ()) := by
  refine Ev.ex (F := fun k => law06_DiskDoes k size l) ?_
  simp only [law06_DiskDoes_eq]
  refine .bind awake06_ev ?_
  simp only [Bool.not_true, cond_false]
  by_cases c1 : 10000 < size
  · simp only [bt c1]; exact .ret
  by_cases c2 : 40 < (l.length : Int)
  · simp only [bf c1, bt c2]; exact .ret
  simp only [bf c1, bf c2]
  refine .from 20001 fun k => ?_
  have hnew : ref06_NewDisk (k + 20001) size = some ((), (([], ((0 : Int), (mxI size 0, ()))), ())) := by
    show ref06_NewDisk (k + 20000 + 1) size = _
    rw [ref06_NewDisk_eq]
    by_cases c : size < 0
    · rw [bt c, ref06_NewDisk_j0_eq, show mxI size 0 = 0 from if_pos c]
    · rw [bf c, ref06_NewDisk_j0_eq, show mxI size 0 = size from if_neg c]
  rw [new_is, Option.bind_some, hnew, Option.bind_some]
  exact does_l0 (k + 20000) (by omega) (by omega) (sz := mxI size 0) (by unfold mxI; split <;> omega) (k + 20001) 0 [] 0 0 0 [] Dk.new (by unfold mxI; split <;> simp <;> omega) (by omega) (by omega)
end Go.Proofs.Ytjilcpjapnngfaa.Den
