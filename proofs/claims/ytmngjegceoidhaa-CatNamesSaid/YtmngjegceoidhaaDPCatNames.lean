import Derived.Test.YtmngjegceoidhaaDCatNames
import Derived.Test.YtmngjegceoidhaaDen34
namespace Go.Proofs.Ytmngjegceoidhaa.Den
open Go Go.RowKit
set_option linter.unusedVariables false
attribute [local irreducible] cat_Column cat_Column_j0 cat_Column_l0 cat_Column_l1 cat_Find cat_Find_1 cat_RowKey cat_Scopes cat_Scopes_l0 cat_at cat_whole law21_CatNames law21_CatNames_l0 law21_Small law21_Small_l0 law21_awake law21_few law21_few_l0 num_Flip num_Put num_Put_l0 okey_Put okey_Put_j0 okey_Put_j1 okey_Put_j2 okey_Put_l0 okey_Put_l1 ref21_Column ref21_Column_j0 ref21_Column_l0 ref21_Column_l1 ref21_Find ref21_Find_l0 ref21_Scopes ref21_Scopes_l0 slices_IndexFunc_Table_Table_cat_Find_1 slices_IndexFunc_Table_Table_cat_Find_1_l0
/-! ### Bytes of a number -/
def be : Nat → Nat → List Int
  | 0, _ => []
  | n + 1, u => ((u / 256 ^ n % 256 : Nat) : Int) :: be n u
theorem be_length : ∀ n u, (be n u).length = n
  | 0, _ => rfl
  | n + 1, u => congrArg (· + 1) (be_length n u)
theorem be_wf : ∀ n u x, x ∈ be n u → (Lit.int .u8 x).wf = true
  | n + 1, u, x, h => by
    rcases List.mem_cons.1 h with rfl | h
    · have := Nat.mod_lt (u / 256 ^ n) (show 0 < 256 by decide)
      simp [Lit.wf, IntKind.min, IntKind.max, IntKind.signed, IntKind.bits]; omega
    · exact be_wf n u x h
theorem mod_step (u n : Nat) : u % 256 ^ (n + 1) = u % 256 ^ n + 256 ^ n * (u / 256 ^ n % 256) := by
  rw [Nat.pow_succ]; exact Nat.mod_mul
theorem lt_step {p a b r s : Nat} (hr : r < p) (hs : s < p) : (decide (a < b) || (decide (a = b) && decide (r < s))) = decide (r + p * a < s + p * b) := by
  rcases Nat.lt_trichotomy a b with h | h | h
  · have h1 := Nat.mul_le_mul_left p (show a + 1 ≤ b from h)
    rw [Nat.mul_succ] at h1
    rw [decide_eq_true h, decide_eq_true (show r + p * a < s + p * b by omega)]; rfl
  · subst h
    simp
  · have h1 := Nat.mul_le_mul_left p (show b + 1 ≤ a from h)
    rw [Nat.mul_succ] at h1
    rw [decide_eq_false (show ¬ a < b by omega), decide_eq_false (show ¬ a = b by omega), decide_eq_false (show ¬ r + p * a < s + p * b by omega)]; rfl
theorem ltL_be : ∀ n u v, ltL (be n u) (be n v) = decide (u % 256 ^ n < v % 256 ^ n)
  | 0, _, _ => by simp [be, ltL, Nat.mod_one]
  | n + 1, u, v => by
    show (decide (((u / 256 ^ n % 256 : Nat) : Int) < ((v / 256 ^ n % 256 : Nat) : Int)) || (decide (((u / 256 ^ n % 256 : Nat) : Int) = ((v / 256 ^ n % 256 : Nat) : Int)) && ltL (be n u) (be n v))) = _
    rw [ltL_be n u v, mod_step, mod_step]
    have hp : 0 < 256 ^ n := Nat.pow_pos (by decide)
    rw [← lt_step (Nat.mod_lt u hp) (Nat.mod_lt v hp)]
    congr 2
    · simp only [Int.ofNat_lt]
    · simp only [Int.natCast_inj]
theorem be_eq {u v : Nat} : ∀ n, be n u = be n v → u % 256 ^ n = v % 256 ^ n
  | 0, _ => by simp [Nat.mod_one]
  | n + 1, h => by
    have h : ((u / 256 ^ n % 256 : Nat) : Int) :: be n u = ((v / 256 ^ n % 256 : Nat) : Int) :: be n v := h
    injection h with h1 h2
    rw [mod_step, mod_step, be_eq n h2, Int.natCast_inj.1 h1]
theorem beqL_be {u v : Nat} (hu : u < 18446744073709551616) (hv : v < 18446744073709551616) : beqL (be 8 u) (be 8 v) = decide (u = v) := by
  unfold beqL
  by_cases h : u = v
  · subst h; simp
  · have : ¬ be 8 u = be 8 v := fun e => h (by have := be_eq 8 e; omega)
    simp [h, this]
theorem shr_is {u j : Nat} (hj : j < 8) : shrK .u64 (u : Int) (wr .i64 (8 * (j : Int))) = some (((u / 256 ^ j : Nat)) : Int) := by
  rw [wr_i64 (by omega)]
  have hj : j = 0 ∨ j = 1 ∨ j = 2 ∨ j = 3 ∨ j = 4 ∨ j = 5 ∨ j = 6 ∨ j = 7 := by omega
  rcases hj with rfl | rfl | rfl | rfl | rfl | rfl | rfl | rfl <;> rfl
theorem set_last (m : Nat) (l : List Int) (x : Int) : (List.replicate (m + 1) (0 : Int) ++ l).set m x = List.replicate m 0 ++ x :: l := by
  rw [List.replicate_succ', List.append_assoc, List.set_append_right _ _ (by simp)]
  simp
theorem put_loop (k : Nat) {u w : Nat} (hw : w ≤ 8) : ∀ n j, j ≤ w → w - j < n → num_Put_l0 k n (u : Int) (w : Int) (w : Int) (j : Int) (List.replicate (w - j) 0 ++ be j u) = some (be w u, ())
  | 0, _, _, h => absurd h (Nat.not_lt_zero _)
  | n + 1, j, hj, hn => by
    rw [num_Put_l0_eq]
    by_cases c : j < w
    · obtain ⟨m, hm⟩ : ∃ m, w - j = m + 1 := ⟨w - j - 1, by omega⟩
      have e1 : wr .i64 (wr .i64 ((w : Int) - 1) - (j : Int)) = (m : Int) := by
        rw [wr_i64 (n := (w : Int) - 1) (by omega), wr_i64 (by omega)]; omega
      have hlen : (List.replicate (w - j) (0 : Int) ++ be j u).length = w := by simp [be_length]; omega
      have e2 : wr .u8 (((u / 256 ^ j : Nat)) : Int) = ((u / 256 ^ j % 256 : Nat) : Int) := by rw [wrm_u8]; rfl
      rw [bif_true (by simp; omega), shr_is (by omega), Option.bind_some, e1, hlen, must_true (by unfold inI; simp; omega), must_true (by simp [Nat.blt]; omega), e2, wr_i64 (by omega), hm, Int.toNat_natCast, set_last]
      have ih := put_loop k (u := u) hw n (j + 1) c (by omega)
      have e3 : w - (j + 1) = m := by omega
      rw [e3] at ih
      exact ih
    · have : j = w := by omega
      subst this
      rw [bif_false (by simp)]
      simp
theorem num_Put_is (k : Nat) {u w : Nat} (hw : w ≤ 8) : num_Put (k + 10) (u : Int) (w : Int) = some (be w u, ()) := by
  rw [num_Put_eq, bif_false (by simp), bif_false (by simp; omega), must_true (by simp [beqI]), Int.toNat_natCast, lim_ok (by omega)]
  have := put_loop (k + 10) (u := u) hw (k + 10) 0 (by omega) (by omega)
  simpa [be] using this
/-! ### Keys -/
abbrev ValT := Int × (Int × ((List Int) × Unit))
def esc (s : List Int) : List Int := s.flatMap fun x => if x = 0 then [x, 255] else [x]
def encV (v : ValT) : List Int := if v.1 = 1 then 2 :: be 8 (v.2.1 + 9223372036854775808).toNat else if v.1 = 2 then 3 :: (esc v.2.2.1 ++ [0, 1]) else [1]
theorem esc_cons (x : Int) (s : List Int) : esc (x :: s) = (if x = 0 then [x, 255] else [x]) ++ esc s := rfl
theorem esc_length : ∀ s : List Int, (esc s).length ≤ 2 * s.length
  | [] => by simp [esc]
  | x :: s => by
    have := esc_length s
    rw [esc_cons]
    split <;> simp <;> omega
def valOk (v : ValT) : Prop := (-9223372036854775808 ≤ v.2.1 ∧ v.2.1 ≤ 9223372036854775807) ∧ v.2.2.1.length ≤ 400
theorem encV_length {v : ValT} (h : valOk v) : (encV v).length ≤ 1000 := by
  have := esc_length v.2.2.1
  have := h.2
  unfold encV
  split
  · simp [be_length]
  · split <;> simp <;> omega
theorem oFlip_is (k : Nat) {a : Int} (h : -9223372036854775808 ≤ a ∧ a ≤ 9223372036854775807) : num_Flip k a = some (a + 9223372036854775808, ()) := by
  rw [num_Flip_eq]
  unfold wr
  rw [flip_eq h]
theorem oPut_l1 (k n : Nat) (l : List ValT) (len j : Int) (c : Bool) {s : List Int} (hs : s.length ≤ 400) : ∀ n1 i b out, i ≤ s.length → s.length - i < n1 → List.length out + 2 * (s.length - i) ≤ 60000000 →
    ∃ b', okey_Put_l1 (k + 1) n n1 b out l len j c s (s.length : Int) (i : Int) = okey_Put_j2 (k + 1) n b' (out ++ (esc (s.drop i) ++ [0, 1])) l len j
  | 0, _, _, _, _, h, _ => absurd h (Nat.not_lt_zero _)
  | n1 + 1, i, b, out, hi, hn, ho => by
    rw [okey_Put_l1_eq]
    by_cases d : i < s.length
    · have hx := List.getElem?_eq_getElem d
      have hd : s.drop i = s[i] :: s.drop (i + 1) := List.drop_eq_getElem_cons d
      rw [bt (by omega), nth_get hx, Option.bind_some, lim_ok (by simp; omega), hd, esc_cons]
      by_cases e : s[i] = 0
      · rw [bt e, if_pos e, lim_ok (by simp; omega), okey_Put_j1_eq, wr_next d (by omega)]
        obtain ⟨b', h⟩ := oPut_l1 k n l len j c hs n1 (i + 1) ((b && [s[i]].isEmpty) && [(255 : Int)].isEmpty) ((out ++ [s[i]]) ++ [(255 : Int)]) d (by omega) (by simp; omega)
        refine ⟨b', h.trans ?_⟩
        simp
      · rw [bf e, if_neg e, okey_Put_j1_eq, wr_next d (by omega)]
        obtain ⟨b', h⟩ := oPut_l1 k n l len j c hs n1 (i + 1) (b && [s[i]].isEmpty) (out ++ [s[i]]) d (by omega) (by simp; omega)
        refine ⟨b', h.trans ?_⟩
        simp
    · have : i = s.length := by omega
      subst this
      rw [bf (by omega), lim_ok (by simp; omega), List.drop_length]
      exact ⟨_, rfl⟩
theorem oPut_loop (k : Nat) {l : List ValT} (hl : ∀ v ∈ l, valOk v) (hlen : l.length ≤ 400) : ∀ n j b out, j ≤ l.length → l.length - j < n → List.length out + 1000 * (l.length - j) ≤ 50000000 →
    okey_Put_l0 (k + 500) n b out l (l.length : Int) (j : Int) = some (out ++ (l.drop j).flatMap encV, ())
  | 0, _, _, _, _, h, _ => absurd h (Nat.not_lt_zero _)
  | n + 1, j, b, out, hj, hn, ho => by
    rw [okey_Put_l0_eq]
    by_cases d : j < l.length
    · have hx := List.getElem?_eq_getElem d
      have hd : l.drop j = l[j] :: l.drop (j + 1) := List.drop_eq_getElem_cons d
      have hv := hl _ (List.getElem_mem d)
      have hle := encV_length hv
      rw [bt (by omega), nth_get hx, Option.bind_some, hd, List.flatMap_cons]
      generalize l[j] = v at *
      have next : ∀ b', okey_Put_j0 (k + 500) n b' (out ++ encV v) l (l.length : Int) (j : Int) = some (out ++ (encV v ++ (l.drop (j + 1)).flatMap encV), ()) := by
        intro b'
        show okey_Put_j0 (k + 499 + 1) n _ _ _ _ _ = _
        rw [okey_Put_j0_eq, wr_next d (by omega)]
        have := oPut_loop k hl hlen n (j + 1) b' (out ++ encV v) d (by omega) (by simp; omega)
        rw [List.append_assoc] at this
        exact this
      have next2 : ∀ b', okey_Put_j2 (k + 500) n b' (out ++ encV v) l (l.length : Int) (j : Int) = some (out ++ (encV v ++ (l.drop (j + 1)).flatMap encV), ()) := by
        intro b'
        show okey_Put_j2 (k + 499 + 1) n _ _ _ _ _ = _
        rw [okey_Put_j2_eq]
        exact next b'
      by_cases c1 : v.1 = 1
      · have he : encV v = 2 :: be 8 (v.2.1 + 9223372036854775808).toNat := if_pos c1
        obtain ⟨u, hu⟩ := Int.eq_ofNat_of_zero_le (show 0 ≤ v.2.1 + 9223372036854775808 by have := hv.1; omega)
        rw [bt c1, lim_ok (by simp; omega), oFlip_is _ hv.1, Option.bind_some, hu, show num_Put (k + 500) (u : Int) (8 : Int) = _ from num_Put_is (k + 490) (u := u) (w := 8) (by omega), Option.bind_some, lim_ok (by simp [be_length]; omega)]
        have e2 : (out ++ [(2 : Int)]) ++ be 8 u = out ++ encV v := by rw [he, hu]; simp
        rw [e2]
        exact next _
      rw [bf c1]
      by_cases c2 : v.1 = 2
      · have he : encV v = 3 :: (esc v.2.2.1 ++ [0, 1]) := by unfold encV; rw [if_neg c1, if_pos c2]
        have hs := hv.2
        obtain ⟨b', h⟩ := oPut_l1 (k + 499) n l (l.length : Int) (j : Int) false hs (k + 500) 0 (b && [(3 : Int)].isEmpty) (out ++ [(3 : Int)]) (by omega) (by omega) (by simp; omega)
        rw [bt c2, lim_ok (by simp; omega)]
        refine h.trans ?_
        have e2 : (out ++ [(3 : Int)]) ++ (esc (v.2.2.1.drop 0) ++ [0, 1]) = out ++ encV v := by rw [he]; simp
        rw [e2]
        exact next2 _
      · have he : encV v = [1] := by unfold encV; rw [if_neg c1, if_neg c2]
        rw [bf c2, lim_ok (by simp; omega), ← he]
        exact next2 _
    · have : j = l.length := by omega
      subst this
      rw [bf (by omega), List.drop_length]
      simp
theorem okey_Put_is (k : Nat) {l : List ValT} (hl : ∀ v ∈ l, valOk v) (hlen : l.length ≤ 400) : okey_Put (k + 500) l = some (l.flatMap encV, ()) := by
  rw [okey_Put_eq]
  have := oPut_loop k hl hlen (k + 500) 0 true [] (by omega) (by omega) (by simp; omega)
  simpa using this
theorem put_ev {l : List ValT} (hl : ∀ v ∈ l, valOk v) (hlen : l.length ≤ 400) : Ev (fun k => okey_Put k l) (l.flatMap encV, ()) := .from 500 fun k => okey_Put_is k hl hlen
/-! ### Keys of tables -/
abbrev TabT := Int × ((List Int) × ((List ((List Int) × (Int × (Bool × Unit)))) × (Int × ((List Int) × Unit))))
def wv (n : Int) : ValT := (1, (n, ([], ())))
def zv : ValT := (0, (0, ([], ())))
def I64 (n : Int) : Prop := -9223372036854775808 ≤ n ∧ n ≤ 9223372036854775807
theorem wv_ok {n : Int} (h : I64 n) : valOk (wv n) := ⟨h, by show ([] : List Int).length ≤ 400; simp⟩
theorem zv_ok : valOk zv := ⟨by constructor <;> decide, by show ([] : List Int).length ≤ 400; simp⟩
def atV (r : List ValT) (i : Int) : ValT := if i < 0 then zv else (r[i.toNat]?).getD zv
theorem at_is (k : Nat) (r : List ValT) (i : Int) : cat_at k r i = some (atV r i, (atV r i, ())) := by
  rw [cat_at_eq]
  unfold atV
  by_cases c : i < 0
  · rw [bt c, if_pos c]; rfl
  · rw [bf c, if_neg c]
    obtain ⟨j, rfl⟩ := Int.eq_ofNat_of_zero_le (show 0 ≤ i by omega)
    rw [Int.toNat_natCast]
    by_cases d : j < r.length
    · rw [bf (by omega), nth_get (List.getElem?_eq_getElem d), Option.bind_some, List.getElem?_eq_getElem d]; rfl
    · rw [bt (by omega), List.getElem?_eq_none (by omega)]; rfl
theorem atV_ok {r : List ValT} (h : ∀ v ∈ r, valOk v) (i : Int) : valOk (atV r i) := by
  unfold atV
  split
  · exact zv_ok
  · cases e : r[i.toNat]? with
    | none => exact zv_ok
    | some v => exact h v (List.mem_of_getElem? e)
theorem atV_get {r : List ValT} {j : Nat} (h : j < r.length) : atV r (j : Int) = r[j] := by
  unfold atV
  rw [if_neg (by omega), Int.toNat_natCast, List.getElem?_eq_getElem h]; rfl
def trowK (t : TabT) (r : List ValT) : List Int := [wv t.1, wv 0, atV r t.2.2.2.1].flatMap encV
theorem rowkey_ev {t : TabT} (ht : I64 t.1) {r : List ValT} (hr : ∀ v ∈ r, valOk v) : Ev (fun k => cat_RowKey k t r) (trowK t r, ()) := by
  simp only [cat_RowKey_eq, cat_whole_eq, at_is, Option.bind_some]
  refine .bind (F := fun k => okey_Put k [wv t.1, wv 0, atV r t.2.2.2.1]) (put_ev (by
    intro v hv
    simp only [List.mem_cons, List.not_mem_nil, or_false] at hv
    rcases hv with rfl | rfl | rfl
    · exact wv_ok ht
    · exact wv_ok (by constructor <;> decide)
    · exact atV_ok hr _) (by simp)) .ret
def smallB (t : TabT) (r : List ((List Int) × (Int × (Bool × Unit)))) : Bool := r.all (fun c => decide (c.1.length ≤ 100)) && (decide (t.2.2.1.length ≤ 14) && (decide (t.2.2.2.2.1.length ≤ 6) && decide (t.2.1.length ≤ 100)))
theorem small_l0 (k : Nat) {t : TabT} (hm : t.2.2.1.length ≤ 9223372036854775807) : ∀ n j, j ≤ t.2.2.1.length → t.2.2.1.length - j < n → law21_Small_l0 k n t.2.2.1 (t.2.2.1.length : Int) (j : Int) t.1 t.2.1 t.2.2.1 t.2.2.2.1 t.2.2.2.2.1 = some (smallB t (t.2.2.1.drop j), ())
  | 0, _, _, h => absurd h (Nat.not_lt_zero _)
  | n + 1, j, hj, hn => by
    rw [law21_Small_l0_eq]
    by_cases c : j < t.2.2.1.length
    · have hx := List.getElem?_eq_getElem c
      rw [bt (by omega), nth_get hx, Option.bind_some, List.drop_eq_getElem_cons c]
      by_cases c1 : 100 < (t.2.2.1[j].1.length : Int)
      · rw [bt c1, show smallB t (t.2.2.1[j] :: t.2.2.1.drop (j + 1)) = false from by unfold smallB; rw [List.all_cons, dF (by omega)]; rfl]
      rw [bf c1, wr_i64 (by omega)]
      refine (small_l0 k hm n (j + 1) c (by omega)).trans ?_
      rw [show smallB t (t.2.2.1[j] :: t.2.2.1.drop (j + 1)) = smallB t (t.2.2.1.drop (j + 1)) from by unfold smallB; rw [List.all_cons, dT (p := t.2.2.1[j].1.length ≤ 100) (by omega)]; rfl]
    · have : j = t.2.2.1.length := by omega
      subst this
      rw [bf (by omega), List.drop_length]
      unfold smallB
      by_cases h1 : t.2.2.1.length ≤ 14
      · rw [bt (by omega), dT h1]
        by_cases h2 : t.2.2.2.2.1.length ≤ 6
        · rw [bt (by omega), dT h2]
          by_cases h3 : t.2.1.length ≤ 100
          · rw [dT (p := ((t.2.1.length : Int) ≤ 100)) (by omega), dT h3]; rfl
          · rw [dF (p := ((t.2.1.length : Int) ≤ 100)) (by omega), dF h3]; rfl
        · rw [bf (by omega), dF h2]; rfl
      · rw [bf (by omega), dF h1]; rfl
theorem small_ev {t : TabT} (hm : t.2.2.1.length ≤ 9223372036854775807) : Ev (fun k => law21_Small k t) (smallB t t.2.2.1, ()) := by
  refine ⟨t.2.2.1.length + 1, fun k hk => ?_⟩
  show law21_Small k t = _
  rw [law21_Small_eq]
  exact small_l0 k hm k 0 (by omega) (by omega)
theorem small_of {t : TabT} (h : smallB t t.2.2.1 = true) : t.2.2.1.length ≤ 14 ∧ t.2.2.2.2.1.length ≤ 6 ∧ t.2.1.length ≤ 100 ∧ ∀ c ∈ t.2.2.1, c.1.length ≤ 100 := by
  unfold smallB at h
  simp only [Bool.and_eq_true, List.all_eq_true, decide_eq_true_eq] at h
  exact ⟨h.2.1, h.2.2.1, h.2.2.2, h.1⟩
theorem awake21_ev : Ev (fun k => law21_awake k) (true, ()) := by
  simp only [law21_awake_eq]
  refine .bind (F := fun k => cat_RowKey k ((1 : Int), ([], ([], ((0 : Int), ([], ()))))) [((1 : Int), ((5 : Int), ([], ())))]) (rowkey_ev (t := ((1 : Int), ([], ([], ((0 : Int), ([], ())))))) (by constructor <;> decide) (by
    intro v hv
    simp only [List.mem_cons, List.not_mem_nil, or_false] at hv
    subst hv
    exact ⟨by constructor <;> decide, by simp⟩)) ?_
  exact ⟨0, fun k _ => by simp only []; decide +kernel⟩
abbrev ScT := (List Int) × (TabT × (Int × Unit))
def zt : TabT := ((0 : Int), ([], ([], ((0 : Int), ([], ())))))
def findR (name : List Int) : List TabT → TabT × Bool
  | [] => (zt, false)
  | t :: r => if t.2.1 = name then (t, true) else findR name r
theorem index_l0 (k : Nat) {l : List TabT} (name : List Int) (hl : l.length ≤ 1000) : ∀ n j, j ≤ l.length → l.length - j < n →
    (slices_IndexFunc_Table_Table_cat_Find_1_l0 k n l (l.length : Int) (j : Int) name = some ((-1 : Int), ((name, ()), ())) ∧ findR name (l.drop j) = (zt, false)) ∨
    ∃ m : Nat, ∃ h : m < l.length, slices_IndexFunc_Table_Table_cat_Find_1_l0 k n l (l.length : Int) (j : Int) name = some ((m : Int), ((name, ()), ())) ∧ findR name (l.drop j) = (l[m], true)
  | 0, _, _, h => absurd h (Nat.not_lt_zero _)
  | n + 1, j, hj, hn => by
    rw [slices_IndexFunc_Table_Table_cat_Find_1_l0_eq]
    by_cases c : j < l.length
    · have e : findR name (l.drop j) = if l[j].2.1 = name then (l[j], true) else findR name (l.drop (j + 1)) := by rw [List.drop_eq_getElem_cons c]; rfl
      rw [bt (by omega), nth_get (List.getElem?_eq_getElem c), Option.bind_some, cat_Find_1_eq, Option.bind_some, e]
      by_cases h : l[j].2.1 = name
      · refine .inr ⟨j, c, ?_, if_pos h⟩
        rw [show beqL l[j].2.1 name = true from dT h]; rfl
      · rw [show beqL l[j].2.1 name = false from dF h, if_neg h, cond_false, wr_i64 (by omega)]
        exact index_l0 k name hl n (j + 1) (by omega) (by omega)
    · have : j = l.length := by omega
      subst this
      rw [bf (by omega), List.drop_length]
      exact .inl ⟨rfl, rfl⟩
theorem find_is (k : Nat) {l : List TabT} (name : List Int) (hl : l.length ≤ 1000) (hk : l.length < k) : cat_Find k l name = some (((findR name l).1, ((findR name l).2, ())), ((findR name l).1, ())) := by
  rw [cat_Find_eq, slices_IndexFunc_Table_Table_cat_Find_1_eq]
  rcases index_l0 k name hl k 0 (by omega) (by omega) with ⟨h1, h2⟩ | ⟨m, h, h1, h2⟩
  · rw [List.drop_zero] at h2
    rw [show slices_IndexFunc_Table_Table_cat_Find_1_l0 k k l (l.length : Int) (0 : Int) name = _ from h1, h2]; rfl
  · rw [List.drop_zero] at h2
    rw [show slices_IndexFunc_Table_Table_cat_Find_1_l0 k k l (l.length : Int) (0 : Int) name = _ from h1, h2, Option.bind_some]
    simp only [bf (show ¬ (m : Int) < 0 by omega), nth_get (List.getElem?_eq_getElem h), Option.bind_some]
theorem rfind_l0 (k : Nat) {l : List TabT} (name : List Int) (hl : l.length ≤ 1000) (a : Int) (b : List Int) (c : List ((List Int) × (Int × (Bool × Unit)))) (d : Int) (e : List Int) : ∀ n j, j ≤ l.length → l.length - j < n →
    ref21_Find_l0 k n name l (l.length : Int) (j : Int) a b c d e = some (((findR name (l.drop j)).1, ((findR name (l.drop j)).2, ())), ((findR name (l.drop j)).1, ()))
  | 0, _, _, h => absurd h (Nat.not_lt_zero _)
  | n + 1, j, hj, hn => by
    rw [ref21_Find_l0_eq]
    by_cases cc : j < l.length
    · have e' : findR name (l.drop j) = if l[j].2.1 = name then (l[j], true) else findR name (l.drop (j + 1)) := by rw [List.drop_eq_getElem_cons cc]; rfl
      rw [bt (by omega), nth_get (List.getElem?_eq_getElem cc), Option.bind_some, e']
      by_cases h : l[j].2.1 = name
      · rw [show beqL l[j].2.1 name = true from dT h, if_pos h]; rfl
      · rw [show beqL l[j].2.1 name = false from dF h, if_neg h, cond_false, wr_i64 (by omega)]
        exact rfind_l0 k name hl a b c d e n (j + 1) (by omega) (by omega)
    · have : j = l.length := by omega
      subst this
      rw [bf (by omega), List.drop_length]; rfl
def scM : Nat → List TabT → List ScT
  | _, [] => []
  | fr, t :: r => (t.2.1, (t, ((fr : Int), ()))) :: scM (fr + t.2.2.1.length) r
theorem scM_len : ∀ fr l, (scM fr l).length = l.length
  | _, [] => rfl
  | _, _ :: r => congrArg (· + 1) (scM_len _ r)
theorem scopes_l0 (k : Nat) {l : List TabT} (hl : l.length ≤ 6) (hc : ∀ t ∈ l, t.2.2.1.length ≤ 14) : ∀ n j b acc fr, j ≤ l.length → l.length - j < n → List.length acc ≤ j → fr ≤ 14 * j →
    cat_Scopes_l0 k n b acc (fr : Int) l (l.length : Int) (j : Int) = some (acc ++ scM fr (l.drop j), ())
  | 0, _, _, _, _, _, h, _, _ => absurd h (Nat.not_lt_zero _)
  | n + 1, j, b, acc, fr, hj, hn, ha, hf => by
    rw [cat_Scopes_l0_eq]
    by_cases c : j < l.length
    · have h1 := hc _ (List.getElem_mem c)
      rw [bt (by omega), nth_get (List.getElem?_eq_getElem c), Option.bind_some, lim_ok (by simp; omega), List.drop_eq_getElem_cons c, wr_i64 (n := (j : Int) + 1) (by omega), wr_i64 (by omega)]
      refine (scopes_l0 k hl hc n (j + 1) _ (acc ++ [(l[j].2.1, (l[j], ((fr : Int), ())))]) (fr + l[j].2.2.1.length) (by omega) (by omega) (by simp; omega) (by omega)).trans ?_
      rw [List.append_assoc]; rfl
    · have : j = l.length := by omega
      subst this
      rw [bf (by omega), List.drop_length]
      show _ = some (acc ++ [], ())
      rw [List.append_nil]
theorem rscopes_l0 (k : Nat) {l : List TabT} (hl : l.length ≤ 6) (hc : ∀ t ∈ l, t.2.2.1.length ≤ 14) : ∀ n j b acc fr, j ≤ l.length → l.length - j < n → List.length acc ≤ j → fr ≤ 14 * j →
    ref21_Scopes_l0 k n b acc (fr : Int) l (l.length : Int) (j : Int) = some (acc ++ scM fr (l.drop j), ())
  | 0, _, _, _, _, _, h, _, _ => absurd h (Nat.not_lt_zero _)
  | n + 1, j, b, acc, fr, hj, hn, ha, hf => by
    rw [ref21_Scopes_l0_eq]
    by_cases c : j < l.length
    · have h1 := hc _ (List.getElem_mem c)
      rw [bt (by omega), nth_get (List.getElem?_eq_getElem c), Option.bind_some, lim_ok (by simp; omega), List.drop_eq_getElem_cons c, wr_i64 (n := (j : Int) + 1) (by omega), wr_i64 (by omega)]
      refine (rscopes_l0 k hl hc n (j + 1) _ (acc ++ [(l[j].2.1, (l[j], ((fr : Int), ())))]) (fr + l[j].2.2.1.length) (by omega) (by omega) (by simp; omega) (by omega)).trans ?_
      rw [List.append_assoc]; rfl
    · have : j = l.length := by omega
      subst this
      rw [bf (by omega), List.drop_length]
      show _ = some (acc ++ [], ())
      rw [List.append_nil]
/-- Places of a name. -/
def colI (name : List Int) (fr : Int) : Nat → List ((List Int) × (Int × (Bool × Unit))) → List Int
  | _, [] => []
  | i, c :: r => if c.1 = name then (fr + i) :: colI name fr (i + 1) r else colI name fr (i + 1) r
def colP (table name : List Int) (s : ScT) : List Int := if table = [] ∨ s.1 = table then colI name s.2.2.1 0 s.2.1.2.2.1 else []
theorem colI_len (name : List Int) (fr : Int) : ∀ i cs, (colI name fr i cs).length ≤ cs.length
  | _, [] => Nat.le_refl _
  | i, c :: r => by
    have := colI_len name fr (i + 1) r
    unfold colI; split <;> simp <;> omega
theorem colP_len (table name : List Int) (s : ScT) : (colP table name s).length ≤ s.2.1.2.2.1.length := by
  unfold colP; split
  · exact colI_len _ _ _ _
  · simp
def scOk (s : ScT) : Prop := s.2.1.2.2.1.length ≤ 14 ∧ 0 ≤ s.2.2.1 ∧ s.2.2.1 ≤ 1000
def lastD (a : Int) (Q : List Int) : Int := Q.foldl (fun _ x => x) a
def colRes (a n : Int) : (Int × (Int × Unit)) × Unit := if n = 1 then ((a, ((0 : Int), ())), ()) else (((0 : Int), ((221 : Int), ())), ())
theorem col_l1 (k n : Nat) (table name : List Int) {S : List ScT} (len sj : Int) {cs : List ((List Int) × (Int × (Bool × Unit)))} (hcs : cs.length ≤ 14) {fr : Int} (hfr : 0 ≤ fr ∧ fr ≤ 1000) (x1 : List Int) (x2 : Int) (x3 : List Int) (x4 : List ((List Int) × (Int × (Bool × Unit)))) (x5 : Int) (x6 : List Int) : ∀ n1 i a (m : Nat), i ≤ cs.length → cs.length - i < n1 → m + (cs.length - i) ≤ 1000 →
    cat_Column_l1 (k + 1) n n1 table name a (m : Int) S len sj cs (cs.length : Int) (i : Int) x1 x2 x3 x4 x5 x6 fr = cat_Column_l0 (k + 1) n table name (lastD a (colI name fr i (cs.drop i))) ((m + (colI name fr i (cs.drop i)).length : Nat) : Int) S len (wr .i64 (sj + 1))
  | 0, _, _, _, _, h, _ => absurd h (Nat.not_lt_zero _)
  | n1 + 1, i, a, m, hi, hn, hm => by
    rw [cat_Column_l1_eq]
    by_cases c : i < cs.length
    · rw [bt (by omega), nth_get (List.getElem?_eq_getElem c), Option.bind_some, List.drop_eq_getElem_cons c]
      have hc1 : colI name fr i (cs[i] :: cs.drop (i + 1)) = if cs[i].1 = name then (fr + i) :: colI name fr (i + 1) (cs.drop (i + 1)) else colI name fr (i + 1) (cs.drop (i + 1)) := rfl
      rw [hc1]
      by_cases h : cs[i].1 = name
      · rw [show beqL cs[i].1 name = true from dT h, if_pos h, cond_true, cat_Column_j0_eq, wr_i64 (n := (i : Int) + 1) (by omega), wr_i64 (n := fr + (i : Int)) (by omega), wr_i64 (n := (m : Int) + 1) (by omega)]
        refine (col_l1 k n table name len sj hcs hfr x1 x2 x3 x4 x5 x6 n1 (i + 1) (fr + i) (m + 1) (by omega) (by omega) (by omega)).trans ?_
        rw [List.length_cons, show m + 1 + (colI name fr (i + 1) (cs.drop (i + 1))).length = m + ((colI name fr (i + 1) (cs.drop (i + 1))).length + 1) by omega]; rfl
      · rw [show beqL cs[i].1 name = false from dF h, if_neg h, cond_false, cat_Column_j0_eq, wr_i64 (by omega)]
        exact col_l1 k n table name len sj hcs hfr x1 x2 x3 x4 x5 x6 n1 (i + 1) a m (by omega) (by omega) (by omega)
    · have : i = cs.length := by omega
      subst this
      rw [bf (by omega), List.drop_length]; rfl
theorem lastD_app (a : Int) (P Q : List Int) : lastD a (P ++ Q) = lastD (lastD a P) Q := List.foldl_append ..
theorem col_l0 (k : Nat) (hk : 100 ≤ k) (table name : List Int) {S : List ScT} (hS : ∀ s ∈ S, scOk s) (hl : S.length ≤ 6) : ∀ n j a (m : Nat), j ≤ S.length → S.length - j < n → m ≤ 14 * j →
    cat_Column_l0 (k + 1) n table name a (m : Int) S (S.length : Int) (j : Int) = some (colRes (lastD a ((S.drop j).flatMap (colP table name))) ((m + ((S.drop j).flatMap (colP table name)).length : Nat) : Int))
  | 0, _, _, _, _, h, _ => absurd h (Nat.not_lt_zero _)
  | n + 1, j, a, m, hj, hn, hm => by
    rw [cat_Column_l0_eq]
    by_cases c : j < S.length
    · obtain ⟨s1, s2, s3⟩ := hS _ (List.getElem_mem c)
      rw [bt (by omega), nth_get (List.getElem?_eq_getElem c), Option.bind_some, List.drop_eq_getElem_cons c, List.flatMap_cons]
      have hlen := colP_len table name S[j]
      generalize S[j] = s at *
      have go : table = [] ∨ s.1 = table → cat_Column_l1 (k + 1) n (k + 1) table name a (m : Int) S (S.length : Int) (j : Int) s.2.1.2.2.1 (s.2.1.2.2.1.length : Int) (0 : Int) s.1 s.2.1.1 s.2.1.2.1 s.2.1.2.2.1 s.2.1.2.2.2.1 s.2.1.2.2.2.2.1 s.2.2.1 = some (colRes (lastD a (colP table name s ++ (S.drop (j + 1)).flatMap (colP table name))) ((m + (colP table name s ++ (S.drop (j + 1)).flatMap (colP table name)).length : Nat) : Int)) := by
        intro ht
        have hp : colP table name s = colI name s.2.2.1 0 s.2.1.2.2.1 := if_pos ht
        have h1 := col_l1 k n table name (S := S) (S.length : Int) (j : Int) s1 ⟨s2, s3⟩ s.1 s.2.1.1 s.2.1.2.1 s.2.1.2.2.1 s.2.1.2.2.2.1 s.2.1.2.2.2.2.1 (k + 1) 0 a m (by omega) (by omega) (by omega)
        refine h1.trans ?_
        rw [List.drop_zero, ← hp, wr_i64 (by omega), List.length_append, ← Nat.add_assoc, lastD_app]
        exact col_l0 k hk table name hS hl n (j + 1) _ _ (by omega) (by omega) (by omega)
      by_cases ht : table = []
      · rw [show beqL table [] = true from dT ht, Bool.not_true, cond_false]
        exact go (.inl ht)
      · rw [show beqL table [] = false from dF ht, Bool.not_false, cond_true]
        by_cases hs : s.1 = table
        · rw [show beqL s.1 table = true from dT hs, Bool.not_true, cond_false]
          exact go (.inr hs)
        · have hp : colP table name s = [] := if_neg (by simp [ht, hs])
          rw [show beqL s.1 table = false from dF hs, Bool.not_false, cond_true, hp, List.nil_append, wr_i64 (by omega)]
          exact col_l0 k hk table name hS hl n (j + 1) a m (by omega) (by omega) (by omega)
    · have : j = S.length := by omega
      subst this
      rw [bf (by omega), List.drop_length]
      show (bif !decide ((m : Int) = 1) then _ else _) = some (colRes a ((m + 0 : Nat) : Int))
      unfold colRes
      by_cases h : (m : Int) = 1
      · rw [dT h, if_pos (by omega)]; rfl
      · rw [dF h, if_neg (by omega)]; rfl
theorem rcol_l1 (k n : Nat) (table name : List Int) {S : List ScT} (len sj : Int) {cs : List ((List Int) × (Int × (Bool × Unit)))} (hcs : cs.length ≤ 14) {fr : Int} (hfr : 0 ≤ fr ∧ fr ≤ 1000) (x1 : List Int) (x2 : Int) (x3 : List Int) (x4 : List ((List Int) × (Int × (Bool × Unit)))) (x5 : Int) (x6 : List Int) : ∀ n1 i b (P : List Int), i ≤ cs.length → cs.length - i < n1 → P.length + (cs.length - i) ≤ 1000 →
    ∃ b', ref21_Column_l1 (k + 1) n n1 table name b P S len sj cs (cs.length : Int) (i : Int) x1 x2 x3 x4 x5 x6 fr = ref21_Column_l0 (k + 1) n table name b' (P ++ if table = [] ∨ table = x1 then colI name fr i (cs.drop i) else []) S len (wr .i64 (sj + 1))
  | 0, _, _, _, _, h, _ => absurd h (Nat.not_lt_zero _)
  | n1 + 1, i, b, P, hi, hn, hm => by
    rw [ref21_Column_l1_eq]
    by_cases c : i < cs.length
    · rw [bt (by omega), nth_get (List.getElem?_eq_getElem c), Option.bind_some, List.drop_eq_getElem_cons c]
      have hc1 : colI name fr i (cs[i] :: cs.drop (i + 1)) = if cs[i].1 = name then (fr + i) :: colI name fr (i + 1) (cs.drop (i + 1)) else colI name fr (i + 1) (cs.drop (i + 1)) := rfl
      rw [hc1]
      have rec0 : ∀ b P, P.length + (cs.length - (i + 1)) ≤ 1000 → ∃ b', ref21_Column_j0 (k + 1) n n1 table name b P S len sj cs (cs.length : Int) (i : Int) x1 x2 x3 x4 x5 x6 fr = ref21_Column_l0 (k + 1) n table name b' (P ++ if table = [] ∨ table = x1 then colI name fr (i + 1) (cs.drop (i + 1)) else []) S len (wr .i64 (sj + 1)) := by
        intro b P hP
        rw [ref21_Column_j0_eq, wr_i64 (by omega)]
        exact rcol_l1 k n table name len sj hcs hfr x1 x2 x3 x4 x5 x6 n1 (i + 1) b P (by omega) (by omega) hP
      by_cases h : cs[i].1 = name
      · rw [show beqL cs[i].1 name = true from dT h, if_pos h, cond_true, wr_i64 (n := fr + (i : Int)) (by omega)]
        have push : (table = [] ∨ table = x1) → ∃ b', lim (P.length + [fr + (i : Int)].length) (ref21_Column_j0 (k + 1) n n1 table name (b && [fr + (i : Int)].isEmpty) (P ++ [fr + (i : Int)]) S len sj cs (cs.length : Int) (i : Int) x1 x2 x3 x4 x5 x6 fr) = ref21_Column_l0 (k + 1) n table name b' (P ++ if table = [] ∨ table = x1 then (fr + i) :: colI name fr (i + 1) (cs.drop (i + 1)) else []) S len (wr .i64 (sj + 1)) := by
          intro ht
          rw [lim_ok (by simp; omega)]
          obtain ⟨b', e⟩ := rec0 (b && [fr + (i : Int)].isEmpty) (P ++ [fr + (i : Int)]) (by simp; omega)
          refine ⟨b', e.trans ?_⟩
          rw [if_pos ht, if_pos ht, List.append_assoc]; rfl
        by_cases ht : table = []
        · rw [show beqL table [] = true from dT ht, cond_true]; exact push (.inl ht)
        · rw [show beqL table [] = false from dF ht, cond_false]
          by_cases hs : table = x1
          · rw [show beqL table x1 = true from dT hs, cond_true]; exact push (.inr hs)
          · rw [show beqL table x1 = false from dF hs, cond_false]
            obtain ⟨b', e⟩ := rec0 b P (by omega)
            have hno : ¬ (table = [] ∨ table = x1) := by simp [ht, hs]
            rw [if_neg hno] at e ⊢
            exact ⟨b', e⟩
      · rw [show beqL cs[i].1 name = false from dF h, if_neg h, cond_false]
        exact rec0 b P (by omega)
    · have : i = cs.length := by omega
      subst this
      rw [bf (by omega), List.drop_length]
      refine ⟨b, ?_⟩
      have : (if table = [] ∨ table = x1 then colI name fr cs.length [] else []) = ([] : List Int) := by split <;> rfl
      rw [this, List.append_nil]
theorem rcol_l0 (k : Nat) (hk : 100 ≤ k) (table name : List Int) {S : List ScT} (hS : ∀ s ∈ S, scOk s) (hl : S.length ≤ 6) : ∀ n j b P, j ≤ S.length → S.length - j < n → List.length P ≤ 14 * j →
    ref21_Column_l0 (k + 1) n table name b P S (S.length : Int) (j : Int) = some (match P ++ (S.drop j).flatMap (colP table name) with
      | [p] => ((p, ((0 : Int), ())), ())
      | _ => (((0 : Int), ((221 : Int), ())), ()))
  | 0, _, _, _, _, h, _ => absurd h (Nat.not_lt_zero _)
  | n + 1, j, b, P, hj, hn, hm => by
    rw [ref21_Column_l0_eq]
    by_cases c : j < S.length
    · obtain ⟨s1, s2, s3⟩ := hS _ (List.getElem_mem c)
      rw [bt (by omega), nth_get (List.getElem?_eq_getElem c), Option.bind_some, List.drop_eq_getElem_cons c, List.flatMap_cons]
      have hlen := colP_len table name S[j]
      generalize S[j] = s at *
      obtain ⟨b', e⟩ := rcol_l1 k n table name (S := S) (S.length : Int) (j : Int) s1 ⟨s2, s3⟩ s.1 s.2.1.1 s.2.1.2.1 s.2.1.2.2.1 s.2.1.2.2.2.1 s.2.1.2.2.2.2.1 (k + 1) 0 b P (by omega) (by omega) (by omega)
      refine e.trans ?_
      have hp : (if table = [] ∨ table = s.1 then colI name s.2.2.1 0 (s.2.1.2.2.1.drop 0) else []) = colP table name s := by
        unfold colP
        rw [List.drop_zero]
        by_cases ht : table = [] ∨ s.1 = table
        · rw [if_pos ht, if_pos (by rcases ht with h | h; exact .inl h; exact .inr h.symm)]
        · rw [if_neg ht, if_neg (by intro h; rcases h with h | h; exact ht (.inl h); exact ht (.inr h.symm))]
      rw [hp, wr_i64 (by omega), ← List.append_assoc]
      exact rcol_l0 k hk table name hS hl n (j + 1) b' _ (by omega) (by omega) (by rw [List.length_append]; omega)
    · have : j = S.length := by omega
      subst this
      rw [bf (by omega), List.drop_length]
      show (bif !decide ((P.length : Int) = 1) then _ else _) = some (match P ++ [] with | [p] => _ | _ => _)
      rw [List.append_nil]
      match P with
      | [] => rfl
      | [p] => rfl
      | p :: q :: r => rw [dF (by simp only [List.length_cons]; omega)]; rfl
theorem scM_ok : ∀ (l : List TabT) fr, (∀ t ∈ l, t.2.2.1.length ≤ 14) → fr + 14 * l.length ≤ 1000 → ∀ s ∈ scM fr l, scOk s
  | [], _, _, _, s, h => by cases h
  | t :: r, fr, hl, hf, s, h => by
    have ht := hl t List.mem_cons_self
    rw [List.length_cons] at hf
    rcases List.mem_cons.1 h with rfl | h
    · exact ⟨ht, by show (0 : Int) ≤ (fr : Int); omega, by show (fr : Int) ≤ 1000; omega⟩
    · exact scM_ok r _ (fun x hx => hl x (List.mem_cons_of_mem _ hx)) (by omega) s h
theorem col_both (P : List Int) : colRes (lastD 0 P) (P.length : Int) = (match P with | [p] => ((p, ((0 : Int), ())), ()) | _ => (((0 : Int), ((221 : Int), ())), ())) := by
  match P with
  | [] => rfl
  | [p] => rfl
  | p :: q :: r => unfold colRes; rw [if_neg (by simp only [List.length_cons]; omega)]
theorem names_l0 (k : Nat) (hk : 200 ≤ k) (table name : List Int) {S : List ScT} (hS : ∀ s ∈ S, scOk s) (hl : S.length ≤ 6) : ∀ n j, j ≤ S.length → S.length - j < n → law21_CatNames_l0 (k + 1) n table name S S (S.length : Int) (j : Int) = some (true, ())
  | 0, _, _, h => absurd h (Nat.not_lt_zero _)
  | n + 1, j, hj, hn => by
    rw [law21_CatNames_l0_eq]
    by_cases c : j < S.length
    · rw [bt (by omega)]
      simp only [nth_get (List.getElem?_eq_getElem c), Option.bind_some, show ∀ x, beqL x x = true from fun x => dT rfl, dT, Bool.not_true, cond_false]
      rw [wr_i64 (by omega)]
      exact names_l0 k hk table name hS hl n (j + 1) (by omega) (by omega)
    · rw [bf (by omega), cat_Column_eq, ref21_Column_eq]
      have e1 := col_l0 k (by omega) table name hS hl (k + 1) 0 0 0 (by omega) (by omega) (by omega)
      have e2 := rcol_l0 k (by omega) table name hS hl (k + 1) 0 true [] (by omega) (by omega) (by simp)
      rw [List.drop_zero, Nat.zero_add, col_both] at e1
      rw [List.drop_zero, List.nil_append] at e2
      rw [show cat_Column_l0 (k + 1) (k + 1) table name 0 0 S (S.length : Int) 0 = _ from e1, Option.bind_some, show ref21_Column_l0 (k + 1) (k + 1) table name true [] S (S.length : Int) 0 = _ from e2, Option.bind_some]
      simp only [dT, cond_true]
theorem few21 (h0 : ∀ t : TabT, t.2.2.1.length ≤ 9223372036854775807 → Ev (fun k => law21_Small k t) (smallB t t.2.2.1, ())) {l : List TabT} (hm : l.length ≤ 9223372036854775807) (hl : ∀ t ∈ l, t.2.2.1.length ≤ 9223372036854775807) : ∀ d j, l.length - j ≤ d → j ≤ l.length → Ev2 (fun k n => law21_few_l0 k n l l (l.length : Int) (j : Int)) ((l.drop j).all (fun t => smallB t t.2.2.1) && decide (l.length ≤ 6), ()) := by
  have fin : Ev2 (fun (_ _ : Nat) => some ((decide ((l.length : Int) ≤ 6)), ())) (decide (l.length ≤ 6), ()) := by
    have : decide ((l.length : Int) ≤ 6) = decide (l.length ≤ 6) := by
      by_cases h : l.length ≤ 6
      · rw [dT h, dT (by omega)]
      · rw [dF h, dF (by omega)]
    rw [this]; exact .ret
  intro d
  induction d with
  | zero =>
    intro j hd hj
    have : j = l.length := by omega
    subst this
    refine .up ?_
    simp only [law21_few_l0_eq, bf (show ¬ ((l.length : Int) < (l.length : Int)) by omega), List.drop_length, List.all_nil, Bool.true_and]
    exact fin
  | succ d ih =>
    intro j hd hj
    by_cases c : j < l.length
    · refine .up ?_
      have hx := List.getElem?_eq_getElem c
      have hs := h0 l[j] (hl _ (List.getElem_mem c))
      simp only [law21_few_l0_eq, bt (show ((j : Int) < (l.length : Int)) by omega), nth_get hx, Option.bind_some]
      rw [List.drop_eq_getElem_cons c, List.all_cons]
      generalize l[j] = t at *
      refine .bind (F := fun k _ => law21_Small k t) hs.e2 ?_
      cases smallB t t.2.2.1 with
      | false => exact .ret
      | true =>
        simp only [Bool.not_true, cond_false, Bool.true_and]
        rw [wr_i64 (by omega)]
        exact ih (j + 1) (by omega) (by omega)
    · have : j = l.length := by omega
      subst this
      exact ih l.length (by omega) (by omega)
theorem CatNames_true (l : List TabT) (table name : List Int) (h : wfD (.sl (.st (.pair (.int .i64) (.pair .str (.pair (.sl (.st (.pair .str (.pair (.int .i64) (.pair .bool .unit))))) (.pair (.int .i64) (.pair (.sl (.int .i64)) .unit))))))) l) : ∃ k, law21_CatNames k l table name = some (true, ()) := by
  refine Ev.ex (F := fun k => law21_CatNames k l table name) ?_
  have hmax : maxLen ≤ 9223372036854775807 := by decide
  have hm : l.length ≤ 9223372036854775807 := Nat.le_trans h.1 hmax
  have hc : ∀ t ∈ l, t.2.2.1.length ≤ 9223372036854775807 := fun t ht => by
    obtain ⟨_, _, t3, _⟩ := h.2 t ht
    exact Nat.le_trans t3.1 hmax
  simp only [law21_CatNames_eq]
  refine .bind awake21_ev ?_
  simp only [Bool.not_true, cond_false]
  have hf : Ev (fun k => law21_few k l) (((l.drop 0).all (fun t => smallB t t.2.2.1) && decide (l.length ≤ 6)), ()) := by
    simp only [law21_few_eq]
    exact (few21 (fun t ht => small_ev ht) hm hc l.length 0 (by omega) (by omega)).dg
  refine .bind hf ?_
  cases hb : ((l.drop 0).all (fun t => smallB t t.2.2.1) && decide (l.length ≤ 6)) with
  | false => exact .ret
  | true =>
  simp only [Bool.and_eq_true, List.all_eq_true, decide_eq_true_eq, List.drop_zero] at hb
  simp only [Bool.not_true, cond_false]
  by_cases cc : 200 < wr .i64 ((table.length : Int) + (name.length : Int))
  · simp only [bt cc]; exact .ret
  simp only [bf cc]
  have hl6 := hb.2
  have h14 : ∀ t ∈ l, t.2.2.1.length ≤ 14 := fun t ht => (small_of (hb.1 t ht)).1
  refine .from 500 fun k => ?_
  have s1 : cat_Scopes (k + 500) l = some (scM 0 l, ()) := by
    rw [cat_Scopes_eq]
    exact scopes_l0 (k + 500) hl6 h14 (k + 500) 0 true [] 0 (by omega) (by omega) (by simp) (by omega)
  have s2 : ref21_Scopes (k + 500) l = some (scM 0 l, ()) := by
    rw [ref21_Scopes_eq]
    exact rscopes_l0 (k + 500) hl6 h14 (k + 500) 0 true [] 0 (by omega) (by omega) (by simp) (by omega)
  have f2 : ref21_Find (k + 500) l table = some (((findR table l).1, ((findR table l).2, ())), ((findR table l).1, ())) := by
    rw [ref21_Find_eq]
    exact rfind_l0 (k + 500) table (by omega) 0 [] [] 0 [] (k + 500) 0 (by omega) (by omega)
  rw [find_is (k + 500) table (by omega) (by omega), Option.bind_some, f2, Option.bind_some, s1, Option.bind_some, s2, Option.bind_some]
  simp only [show ∀ x, beqL x x = true from fun x => dT rfl, show ∀ x : Bool, beqB x x = true from fun x => dT rfl, dT, Bool.not_true, cond_false]
  exact names_l0 (k + 499) (by omega) table name (scM_ok l 0 h14 (by omega)) (by rw [scM_len]; exact hl6) (k + 500) 0 (by omega) (by rw [scM_len]; omega)
end Go.Proofs.Ytmngjegceoidhaa.Den
