import Derived.Test.YtjilcpjapnngfaaDDiskSwaps
import Derived.Test.YtjilcpjapnngfaaDen34
namespace Go.Proofs.Ytjilcpjapnngfaa.Den
open Go Go.RowKit
set_option linter.unusedVariables false
attribute [local irreducible] disk_Disk_Append disk_Disk_Append_j0 disk_Disk_Bytes disk_Disk_Crash disk_Disk_Swap disk_Disk_Sync disk_Disk_Synced disk_Disk_ok disk_Disk_room disk_New law06_DiskSwaps law06_awake
/-! ### The disk -/
abbrev Byt (l : List Int) : Prop := ∀ x ∈ l, (Lit.int .u8 x).wf = true
def Dk (B : List Int) (s : Nat) (n : Nat) (sy : Int) (row : List Int) : Prop := row.take n = B ∧ B.length = n ∧ sy = (s : Int) ∧ s ≤ n
theorem Dk.row {B : List Int} {s n : Nat} {sy : Int} {row : List Int} (h : Dk B s n sy row) : n ≤ row.length := by
  have h1 := congrArg List.length h.1
  rw [h.2.1, List.length_take] at h1
  omega
theorem new_is (k : Nat) (a : Int) : disk_New k a = some ((), ((0, ((0 : Int), ((mxI a 0), (true, ())))), (([], ()), ()))) := disk_New_eq k a
theorem Dk.new : Dk [] 0 0 0 [] := ⟨rfl, rfl, rfl, Nat.le_refl _⟩
theorem bytes_is (k : Nat) {B : List Int} {s n : Nat} {sy sz : Int} {row : List Int} (h : Dk B s n sy row) (hl : B.length ≤ 1000000) : disk_Disk_Bytes k n sy sz true row = some (B, ((n, (sy, (sz, (true, ())))), ((row, ()), ()))) := by
  rw [disk_Disk_Bytes_eq, disk_Disk_ok_eq]
  simp only [Option.bind_some, Bool.not_true, cond_false, h.1]
  rw [lim_ok (by omega)]; rfl
theorem sync_is (k : Nat) (n : Nat) (sy sz : Int) (row : List Int) : disk_Disk_Sync k n sy sz true row = some ((0 : Int), ((n, ((n : Int), (sz, (true, ())))), ((row, ()), ()))) := by
  rw [disk_Disk_Sync_eq, disk_Disk_ok_eq]; rfl
theorem Dk.sync {B : List Int} {s n : Nat} {sy : Int} {row : List Int} (h : Dk B s n sy row) : Dk B B.length n (n : Int) row := ⟨h.1, h.2.1, by rw [h.2.1], by rw [h.2.1]; exact Nat.le_refl _⟩
theorem append_no (k : Nat) {B : List Int} {s n : Nat} {sy sz : Int} {row : List Int} (h : Dk B s n sy row) (hl : B.length ≤ 1000000) (hz : 0 ≤ sz ∧ sz ≤ 1000000) {a : List Int} (c : sz - B.length < a.length) :
    disk_Disk_Append k a n sy sz true row = some ((60 : Int), ((n, (sy, (sz, (true, ())))), ((), ((row, ()), ())))) := by
  rw [disk_Disk_Append_eq, disk_Disk_room_eq, disk_Disk_ok_eq]
  show ((disk_Disk_Bytes k n sy sz true row).bind _) = _
  rw [bytes_is k h hl, Option.bind_some]
  show (bif decide (wr .i64 (sz - (B.length : Int)) < (a.length : Int)) then _ else _) = _
  rw [wr_i64 (by omega), bt c]
theorem append_ok (k : Nat) {B : List Int} {s n : Nat} {sy sz : Int} {row : List Int} (h : Dk B s n sy row) (hl : B.length ≤ 1000000) (hz : 0 ≤ sz ∧ sz ≤ 1000000) {a : List Int} (c : (B.length : Int) + a.length ≤ sz) :
    ∃ (n' : Nat) (row' : List Int), disk_Disk_Append (k + 1) a n sy sz true row = some ((0 : Int), ((n', (sy, (sz, (true, ())))), ((), ((row', ()), ())))) ∧ Dk (B ++ a) s n' sy row' := by
  refine ⟨n + a.length, apc row n a, ?_, ?_⟩
  · rw [disk_Disk_Append_eq, disk_Disk_room_eq, disk_Disk_ok_eq]
    show ((disk_Disk_Bytes (k + 1) n sy sz true row).bind _) = _
    rw [bytes_is (k + 1) h hl, Option.bind_some]
    show (bif decide (wr .i64 (sz - (B.length : Int)) < (a.length : Int)) then _ else (disk_Disk_ok (k + 1) n sy sz true row).bind _) = _
    rw [wr_i64 (by omega), bf (by omega), disk_Disk_ok_eq]
    show lim (n + a.length) (disk_Disk_Append_j0 (k + 1) (n + a.length) sy sz true (apc row n a)) = _
    rw [lim_ok (by have := h.2.1; omega), disk_Disk_Append_j0_eq]
  · have hr := h.row
    refine ⟨?_, by rw [List.length_append, h.2.1], h.2.2.1, by have := h.2.2.2; omega⟩
    unfold apc
    cases a with
    | nil => simp [h.1]
    | cons x t =>
      show (row.take n ++ x :: t).take (n + (x :: t).length) = _
      rw [h.1]
      exact List.take_of_length_le (by rw [List.length_append, h.2.1]; exact Nat.le_refl _)
/-- What is there behind a crash. -/
def crB (B : List Int) (s : Nat) (keep : Int) (noise : List Int) : List Int := B.take s ++ (B.drop s).take keep.toNat ++ noise.take (B.length - s - keep.toNat)
theorem crB_length {B : List Int} {s : Nat} {keep : Int} {noise : List Int} (hs : s ≤ B.length) : s ≤ (crB B s keep noise).length ∧ (crB B s keep noise).length ≤ B.length := by
  unfold crB
  simp only [List.length_append, List.length_take, List.length_drop]
  omega
theorem take_min {l : List Int} {a b : Nat} (h : min a l.length = min b l.length) : l.take a = l.take b := by
  rcases Nat.le_total l.length a with h1 | h1 <;> rcases Nat.le_total l.length b with h2 | h2
  · rw [List.take_of_length_le h1, List.take_of_length_le h2]
  · have : b = l.length := by omega
    rw [List.take_of_length_le h1, this, List.take_length]
  · have : a = l.length := by omega
    rw [List.take_of_length_le h2, this, List.take_length]
  · have : a = b := by omega
    rw [this]
theorem crash_ok (k : Nat) {B : List Int} {s n : Nat} {sy sz : Int} {row : List Int} (h : Dk B s n sy row) (hl : B.length ≤ 1000000) (keep : Int) (noise : List Int) :
    ∃ (n' : Nat) (row' : List Int), disk_Disk_Crash k keep noise n sy sz true row = some ((), ((n', ((n' : Int), (sz, (true, ())))), ((row', ()), ()))) ∧ Dk (crB B s keep noise) (crB B s keep noise).length n' (n' : Int) row' := by
  have hr := h.row
  obtain ⟨h1, h2, h3, h4⟩ := h
  subst h3
  have hk : mnI (mxI keep 0) (((n - s : Nat)) : Int) = ((min keep.toNat (n - s) : Nat) : Int) := by
    unfold mnI mxI; split <;> split <;> omega
  refine ⟨s + min keep.toNat (n - s) + min noise.length (n - s - min keep.toNat (n - s)), lay row (s + min keep.toNat (n - s)) (noise.take (min noise.length (n - s - min keep.toNat (n - s)))), ?_, ?_⟩
  · rw [disk_Disk_Crash_eq, disk_Disk_ok_eq, Option.bind_some]
    simp only [Bool.not_true, cond_false, Int.toNat_natCast, hk, Nat.zero_add]
    have hm : Nat.min noise.length (n - s - min keep.toNat (n - s)) = min noise.length (n - s - min keep.toNat (n - s)) := rfl
    rw [hm]
    have e1 : wr .i64 (((s : Nat) : Int) + ((min keep.toNat (n - s) : Nat) : Int)) = ((s + min keep.toNat (n - s) : Nat) : Int) := by rw [wr_i64 (by omega)]; omega
    rw [e1]
    have e2 : wr .i64 (((s + min keep.toNat (n - s) : Nat) : Int) + ((min noise.length (n - s - min keep.toNat (n - s)) : Nat) : Int)) = ((s + min keep.toNat (n - s) + min noise.length (n - s - min keep.toNat (n - s)) : Nat) : Int) := by rw [wr_i64 (by omega)]; omega
    rw [e2, must_true (inC_t (by omega) (by omega) (by omega)), must_true (inC_t (by omega) (by omega) (by omega)), must_true (inC_t (by omega) (by omega) (by omega)), Int.toNat_natCast]
  · have e : (lay row (s + min keep.toNat (n - s)) (noise.take (min noise.length (n - s - min keep.toNat (n - s))))).take (s + min keep.toNat (n - s) + min noise.length (n - s - min keep.toNat (n - s))) = crB B s keep noise := by
      unfold lay crB
      have hlen : (row.take (s + min keep.toNat (n - s)) ++ noise.take (min noise.length (n - s - min keep.toNat (n - s)))).length = s + min keep.toNat (n - s) + min noise.length (n - s - min keep.toNat (n - s)) := by
        simp only [List.length_append, List.length_take]; omega
      rw [← hlen, List.take_left]
      have e1 : row.take (s + min keep.toNat (n - s)) = B.take s ++ (B.drop s).take keep.toNat := by
        have : row.take (s + min keep.toNat (n - s)) = B.take (s + min keep.toNat (n - s)) := by rw [← h1, List.take_take]; congr 1; omega
        rw [this, List.take_add]
        congr 1
        exact take_min (by rw [List.length_drop, h2]; omega)
      rw [e1]
      congr 1
      exact take_min (by rw [h2]; omega)
    have hlen := congrArg List.length e
    have hl2 : (lay row (s + min keep.toNat (n - s)) (noise.take (min noise.length (n - s - min keep.toNat (n - s))))).length = row.length := by
      unfold lay; simp only [List.length_append, List.length_take, List.length_drop]; omega
    rw [List.length_take, hl2] at hlen
    exact ⟨e, by omega, by omega, by omega⟩
theorem awake06_ev : Ev (fun k => law06_awake k) (true, ()) := by
  refine .from 1 fun k => ?_
  obtain ⟨n1, r1, e1, d1⟩ := append_ok k (sz := 10) Dk.new (by simp) (by omega) (a := [97, 98]) (by simp)
  obtain ⟨n2, r2, e2, d2⟩ := append_ok k (sz := 10) d1.sync (by simp) (by omega) (a := [99]) (by simp)
  obtain ⟨n3, r3, e3, d3⟩ := crash_ok (k + 1) (sz := 10) d2 (by simp) 0 []
  have e4 := bytes_is (k + 1) (sz := 10) d3 (by have := (crB_length (B := [97, 98] ++ [99]) (s := 2) (keep := 0) (noise := []) (by simp)).2; simp at this ⊢; omega)
  rw [law06_awake_eq, new_is, Option.bind_some]
  show ((disk_Disk_Append (k + 1) [97, 98] 0 0 10 true []).bind _) = _
  rw [e1, Option.bind_some]
  show (bif !decide ((0 : Int) = 0) then _ else (disk_Disk_Sync (k + 1) n1 0 10 true r1).bind _) = _
  rw [bif_false (by decide), sync_is, Option.bind_some]
  show (bif !decide ((0 : Int) = 0) then _ else (disk_Disk_Append (k + 1) [99] n1 (n1 : Int) 10 true r1).bind _) = _
  rw [bif_false (by decide), e2, Option.bind_some]
  show (bif !decide ((0 : Int) = 0) then _ else (disk_Disk_Crash (k + 1) 0 [] n2 (n1 : Int) 10 true r2).bind _) = _
  rw [bif_false (by decide), e3, Option.bind_some]
  show ((disk_Disk_Bytes (k + 1) n3 (n3 : Int) 10 true r3).bind _) = _
  rw [e4]; rfl
theorem synced_is (k : Nat) (n : Nat) (sy sz : Int) (row : List Int) : disk_Disk_Synced k n sy sz true row = some (sy, ((n, (sy, (sz, (true, ())))), ((row, ()), ()))) := by
  rw [disk_Disk_Synced_eq, disk_Disk_ok_eq]; rfl
theorem swap_no (k : Nat) (n : Nat) (sy sz : Int) (row : List Int) {a : List Int} (c : sz < a.length) : disk_Disk_Swap k a n sy sz true row = some (Sum.inl ((60 : Int), ((n, (sy, (sz, (true, ())))), ((row, ()), ())))) := by
  rw [disk_Disk_Swap_eq, disk_Disk_ok_eq]
  show (bif decide (sz < (a.length : Int)) then _ else _) = _
  rw [bt c]
theorem swap_ok (k : Nat) (n : Nat) (sy sz : Int) (row : List Int) {a : List Int} (c : (a.length : Int) ≤ sz) (hz : sz ≤ 1000000) : ∃ x, disk_Disk_Swap k a n sy sz true row = some (Sum.inr ((0 : Int), ((a.length, ((a.length : Int), (sz, (true, ())))), (x, ((a, ()), ()))))) := by
  rw [disk_Disk_Swap_eq, disk_Disk_ok_eq]
  refine ⟨(row, ()), ?_⟩
  show (bif decide (sz < (a.length : Int)) then _ else lim a.length ((disk_Disk_Sync k a.length sy sz true a).bind _)) = _
  rw [bf (by omega), lim_ok (by omega), sync_is]; rfl
theorem Dk.swap (a : List Int) : Dk a a.length a.length (a.length : Int) a := ⟨List.take_length, rfl, rfl, Nat.le_refl _⟩
theorem crB_all (b : List Int) (keep : Int) (noise : List Int) : crB b b.length keep noise = b := by
  unfold crB
  rw [List.take_length, List.drop_length, List.take_nil, Nat.sub_self, Nat.zero_sub]; simp
theorem DiskSwaps_true (a b : List Int) (keep : Int) (noise : List Int) (_ : Byt a) (_ : Byt b) (hk : (Lit.int .i64 keep).wf = true) (_ : Byt noise) : ∃ k, law06_DiskSwaps k a b keep noise = some (true, ()) := by
  refine Ev.ex (F := fun k => law06_DiskSwaps k a b keep noise) ?_
  simp only [law06_DiskSwaps_eq]
  refine .bind awake06_ev ?_
  simp only [Bool.not_true, cond_false]
  by_cases c1 : 300 < (a.length : Int)
  · simp only [bt c1]; exact .ret
  by_cases c2 : 300 < (b.length : Int)
  · simp only [bf c1, bt c2]; exact .ret
  by_cases c3 : 300 < (noise.length : Int)
  · simp only [bf c1, bf c2, bt c3]; exact .ret
  simp only [bf c1, bf c2, bf c3]
  refine .from 1 fun k => ?_
  obtain ⟨n1, r1, e1, d1⟩ := append_ok k (sz := 1000) Dk.new (by simp) (by omega) (a := a) (by simp; omega)
  obtain ⟨x, e2⟩ := swap_ok (k + 1) n1 0 1000 r1 (a := b) (by omega) (by omega)
  obtain ⟨n3, r3, e3, d3⟩ := crash_ok (k + 1) (sz := 1000) (Dk.swap b) (by omega) keep noise
  rw [crB_all] at d3
  have e4 := bytes_is (k + 1) (sz := 1000) d3 (by omega)
  rw [new_is, Option.bind_some]
  show ((disk_Disk_Append (k + 1) a 0 0 1000 true []).bind _) = _
  rw [e1, Option.bind_some]
  show (bif !decide ((0 : Int) = 0) then some (false, ()) else (disk_Disk_Swap (k + 1) b n1 0 1000 true r1).bind _) = _
  rw [bif_false (by decide), e2, Option.bind_some]
  show (bif !decide ((0 : Int) = 0) then some (false, ()) else (disk_Disk_Crash (k + 1) keep noise b.length (b.length : Int) 1000 true b).bind _) = _
  rw [bif_false (by decide), e3, Option.bind_some]
  show ((disk_Disk_Bytes (k + 1) n3 (n3 : Int) 1000 true r3).bind _) = _
  rw [e4, Option.bind_some]
  show (bif beqL b b then (disk_Disk_Synced (k + 1) n3 (n3 : Int) 1000 true r3).bind (fun r54 => some (decide (r54.1 = (b.length : Int)), ())) else some (false, ())) = _
  rw [show beqL b b = true from dT rfl, cond_true, synced_is, Option.bind_some]
  show some (decide ((n3 : Int) = (b.length : Int)), ()) = _
  rw [dT (by rw [d3.2.1])]
end Go.Proofs.Ytjilcpjapnngfaa.Den
