import Derived.Test.YtnojkokhfmgcfaaDen30
import Derived.Test.YtnojkokhfmgcfaaProg
import Derived.KernelRfl
namespace Go.Proofs.Ytnojkokhfmgcfaa.Den
open Go
set_option maxRecDepth 100000
noncomputable def G : Env := tabEnv [(2, (.int .i64)), (4, .bool), (23, (.int .u64)), (34, (.int .u64))] [] [] []
theorem G_ok : EnvOk Try.prog G := env_ok (by kernel_rfl)
noncomputable def num_same_E (k : Nat) : Table := []
theorem num_same_EOK (k : Nat) : TabOk Try.prog (num_same_E k) := .nil
/-- plenum/num.same -/
noncomputable def num_same_c : Code := bodyOf Try.f63
noncomputable def num_same_wr : Norm := { keep := [(4, .asis)], objs := [], c := 0 }
noncomputable def num_same (k : Nat) (a0 : Int) (a1 : Int) : Option (Bool × Unit) := fnK G (num_same_E k) k .z num_same_c 10 [.tmp 4] 0 num_same_wr [] [.int .i64 a0, .int .i64 a1] [] (rd Pt.bool Os.nil)
theorem num_same_eq (k : Nat) (a0 : Int) (a1 : Int) : num_same k a0 a1 = some ((decide (((Go.bits .xor .i64 a0 a1) / 9223372036854775808) = 0)), ()) := by kernel_rfl
noncomputable def num_same_sp (k : Nat) : Spec := mkSp (Ps.cons (Pt.int .i64) (Ps.cons (Pt.int .i64) Ps.nil)) Os.nil Pt.bool Os.nil (fun p o => num_same k p.1 p.2.1) [.asis, .asis] [] 0 (fun _ => true)
theorem num_same_ok (k : Nat) : SpecOk Try.prog 63 (num_same_sp k) := mk_ok (k := k) (h := .z) (W := num_same_wr) G_ok (num_same_EOK k) Try.func63 (c := num_same_c) (by kernel_rfl) (by kernel_rfl) (by kernel_rfl) (by kernel_rfl) (by kernel_rfl) fun _ _ => rfl

noncomputable def num_kept_E (k : Nat) : Table := []
theorem num_kept_EOK (k : Nat) : TabOk Try.prog (num_kept_E k) := .nil
/-- plenum/num.kept -/
noncomputable def num_kept_c : Code := bodyOf Try.f62
noncomputable def num_kept_wr : Norm := { keep := [(4, .asis), (5, .asis)], objs := [], c := 0 }
noncomputable def num_kept (k : Nat) (a0 : Int) (a1 : Bool) : Option ((Int × (Bool × Unit)) × Unit) := fnK G (num_kept_E k) k .z num_kept_c 9 [.tmp 4, .tmp 5] 0 num_kept_wr [] [.int .i64 a0, .bool a1] [] (rd (Pt.tup (Ps.cons (Pt.int .i64) (Ps.cons Pt.bool Ps.nil))) Os.nil)
theorem num_kept_eq (k : Nat) (a0 : Int) (a1 : Bool) : num_kept k a0 a1 = (bif (!a1) then some (((0 : Int), (false, ())), ()) else some ((a0, (true, ())), ())) := by kernel_rfl
noncomputable def num_kept_sp (k : Nat) : Spec := mkSp (Ps.cons (Pt.int .i64) (Ps.cons Pt.bool Ps.nil)) Os.nil (Pt.tup (Ps.cons (Pt.int .i64) (Ps.cons Pt.bool Ps.nil))) Os.nil (fun p o => num_kept k p.1 p.2.1) [.asis, .asis] [] 0 (fun _ => true)
theorem num_kept_ok (k : Nat) : SpecOk Try.prog 62 (num_kept_sp k) := mk_ok (k := k) (h := .z) (W := num_kept_wr) G_ok (num_kept_EOK k) Try.func62 (c := num_kept_c) (by kernel_rfl) (by kernel_rfl) (by kernel_rfl) (by kernel_rfl) (by kernel_rfl) fun _ _ => rfl

noncomputable def num_Add_E (k : Nat) : Table := [(62, num_kept_sp k), (63, num_same_sp k)]
theorem num_Add_EOK (k : Nat) : TabOk Try.prog (num_Add_E k) := .cons (num_kept_ok k) <| .cons (num_same_ok k) <| .nil
/-- plenum/num.Add -/
noncomputable def num_Add_c : Code := bodyOf Try.f32
noncomputable def num_Add_wr : Norm := { keep := [(4, .asis), (5, .asis)], objs := [], c := 0 }
noncomputable def num_Add (k : Nat) (a0 : Int) (a1 : Int) : Option ((Int × (Bool × Unit)) × Unit) := fnK G (num_Add_E k) k .z num_Add_c 23 [.tmp 4, .tmp 5] 0 num_Add_wr [] [.int .i64 a0, .int .i64 a1] [] (rd (Pt.tup (Ps.cons (Pt.int .i64) (Ps.cons Pt.bool Ps.nil))) Os.nil)
theorem num_Add_eq (k : Nat) (a0 : Int) (a1 : Int) : num_Add k a0 a1 = (num_same k a0 a1).bind fun r1 => (bif (!r1.1) then (num_kept k (wr .i64 (a0 + a1)) true).bind fun r2 => some ((r2.1.1, (r2.1.2.1, ())), ()) else (num_same k a0 (wr .i64 (a0 + a1))).bind fun r3 => (num_kept k (wr .i64 (a0 + a1)) r3.1).bind fun r4 => some ((r4.1.1, (r4.1.2.1, ())), ())) := by kernel_rfl
noncomputable def num_Add_sp (k : Nat) : Spec := mkSp (Ps.cons (Pt.int .i64) (Ps.cons (Pt.int .i64) Ps.nil)) Os.nil (Pt.tup (Ps.cons (Pt.int .i64) (Ps.cons Pt.bool Ps.nil))) Os.nil (fun p o => num_Add k p.1 p.2.1) [.asis, .asis] [] 0 (fun _ => true)
theorem num_Add_ok (k : Nat) : SpecOk Try.prog 32 (num_Add_sp k) := mk_ok (k := k) (h := .z) (W := num_Add_wr) G_ok (num_Add_EOK k) Try.func32 (c := num_Add_c) (by kernel_rfl) (by kernel_rfl) (by kernel_rfl) (by kernel_rfl) (by kernel_rfl) fun _ _ => rfl

noncomputable def num_Zig_E (k : Nat) : Table := []
theorem num_Zig_EOK (k : Nat) : TabOk Try.prog (num_Zig_E k) := .nil
/-- plenum/num.Zig -/
noncomputable def num_Zig_c : Code := bodyOf Try.f20
noncomputable def num_Zig_wr : Norm := { keep := [(2, .asis)], objs := [], c := 0 }
noncomputable def num_Zig (k : Nat) (a0 : Int) : Option (Int × Unit) := fnK G (num_Zig_E k) k .z num_Zig_c 10 [.tmp 2] 0 num_Zig_wr [] [.int .i64 a0] [] (rd (Pt.int .u64) Os.nil)
theorem num_Zig_eq (k : Nat) (a0 : Int) : num_Zig k a0 = some ((Go.bits .xor .u64 (wr .u64 ((wr .u64 a0) * 2)) (wr .u64 (a0 / 9223372036854775808))), ()) := by kernel_rfl
noncomputable def num_Zig_sp (k : Nat) : Spec := mkSp (Ps.cons (Pt.int .i64) Ps.nil) Os.nil (Pt.int .u64) Os.nil (fun p o => num_Zig k p.1) [.asis] [] 0 (fun _ => true)
theorem num_Zig_ok (k : Nat) : SpecOk Try.prog 20 (num_Zig_sp k) := mk_ok (k := k) (h := .z) (W := num_Zig_wr) G_ok (num_Zig_EOK k) Try.func20 (c := num_Zig_c) (by kernel_rfl) (by kernel_rfl) (by kernel_rfl) (by kernel_rfl) (by kernel_rfl) fun _ _ => rfl

noncomputable def num_Flip_E (k : Nat) : Table := []
theorem num_Flip_EOK (k : Nat) : TabOk Try.prog (num_Flip_E k) := .nil
/-- plenum/num.Flip -/
noncomputable def num_Flip_c : Code := bodyOf Try.f23
noncomputable def num_Flip_wr : Norm := { keep := [(2, .asis)], objs := [], c := 0 }
noncomputable def num_Flip (k : Nat) (a0 : Int) : Option (Int × Unit) := fnK G (num_Flip_E k) k .z num_Flip_c 6 [.tmp 2] 0 num_Flip_wr [] [.int .i64 a0] [] (rd (Pt.int .u64) Os.nil)
theorem num_Flip_eq (k : Nat) (a0 : Int) : num_Flip k a0 = some ((Go.bits .xor .u64 (wr .u64 a0) 9223372036854775808), ()) := by kernel_rfl
noncomputable def num_Flip_sp (k : Nat) : Spec := mkSp (Ps.cons (Pt.int .i64) Ps.nil) Os.nil (Pt.int .u64) Os.nil (fun p o => num_Flip k p.1) [.asis] [] 0 (fun _ => true)
theorem num_Flip_ok (k : Nat) : SpecOk Try.prog 23 (num_Flip_sp k) := mk_ok (k := k) (h := .z) (W := num_Flip_wr) G_ok (num_Flip_EOK k) Try.func23 (c := num_Flip_c) (by kernel_rfl) (by kernel_rfl) (by kernel_rfl) (by kernel_rfl) (by kernel_rfl) fun _ _ => rfl

noncomputable def law01_awake_E (k : Nat) : Table := [(32, num_Add_sp k), (23, num_Flip_sp k), (20, num_Zig_sp k)]
theorem law01_awake_EOK (k : Nat) : TabOk Try.prog (law01_awake_E k) := .cons (num_Add_ok k) <| .cons (num_Flip_ok k) <| .cons (num_Zig_ok k) <| .nil
/-- plenum/plenumlaw01.awake -/
noncomputable def law01_awake_c : Code := bodyOf Try.f19
noncomputable def law01_awake_wr : Norm := { keep := [(0, .asis)], objs := [], c := 0 }
noncomputable def law01_awake (k : Nat)  : Option (Bool × Unit) := fnK G (law01_awake_E k) k .z law01_awake_c 17 [.tmp 0] 0 law01_awake_wr [] [] [] (rd Pt.bool Os.nil)
theorem law01_awake_eq (k : Nat)  : law01_awake k  = (num_Add k (9223372036854775807 : Int) (1 : Int)).bind fun r5 => (bif (!r5.1.2.1) then (num_Zig k ((-3) : Int)).bind fun r6 => (bif (decide (r6.1 = 5)) then (num_Flip k (0 : Int)).bind fun r7 => some ((decide (r7.1 = 9223372036854775808)), ()) else some (false, ())) else some (false, ())) := by kernel_rfl
noncomputable def law01_awake_sp (k : Nat) : Spec := mkSp Ps.nil Os.nil Pt.bool Os.nil (fun p o => law01_awake k ) [] [] 0 (fun _ => true)
theorem law01_awake_ok (k : Nat) : SpecOk Try.prog 19 (law01_awake_sp k) := mk_ok (k := k) (h := .z) (W := law01_awake_wr) G_ok (law01_awake_EOK k) Try.func19 (c := law01_awake_c) (by kernel_rfl) (by kernel_rfl) (by kernel_rfl) (by kernel_rfl) (by kernel_rfl) fun _ _ => rfl

noncomputable def num_least_E (k : Nat) : Table := []
theorem num_least_EOK (k : Nat) : TabOk Try.prog (num_least_E k) := .nil
/-- plenum/num.least -/
noncomputable def num_least_c : Code := bodyOf Try.f65
noncomputable def num_least_wr : Norm := { keep := [(2, .asis)], objs := [], c := 0 }
noncomputable def num_least (k : Nat) (a0 : Int) : Option (Bool × Unit) := fnK G (num_least_E k) k .z num_least_c 6 [.tmp 2] 0 num_least_wr [] [.int .i64 a0] [] (rd Pt.bool Os.nil)
theorem num_least_eq (k : Nat) (a0 : Int) : num_least k a0 = some ((decide ((wr .u64 a0) = 9223372036854775808)), ()) := by kernel_rfl
noncomputable def num_least_sp (k : Nat) : Spec := mkSp (Ps.cons (Pt.int .i64) Ps.nil) Os.nil Pt.bool Os.nil (fun p o => num_least k p.1) [.asis] [] 0 (fun _ => true)
theorem num_least_ok (k : Nat) : SpecOk Try.prog 65 (num_least_sp k) := mk_ok (k := k) (h := .z) (W := num_least_wr) G_ok (num_least_EOK k) Try.func65 (c := num_least_c) (by kernel_rfl) (by kernel_rfl) (by kernel_rfl) (by kernel_rfl) (by kernel_rfl) fun _ _ => rfl

noncomputable def num_Neg_E (k : Nat) : Table := [(62, num_kept_sp k), (65, num_least_sp k)]
theorem num_Neg_EOK (k : Nat) : TabOk Try.prog (num_Neg_E k) := .cons (num_kept_ok k) <| .cons (num_least_ok k) <| .nil
/-- plenum/num.Neg -/
noncomputable def num_Neg_c : Code := bodyOf Try.f44
noncomputable def num_Neg_wr : Norm := { keep := [(2, .asis), (3, .asis)], objs := [], c := 0 }
noncomputable def num_Neg (k : Nat) (a0 : Int) : Option ((Int × (Bool × Unit)) × Unit) := fnK G (num_Neg_E k) k .z num_Neg_c 12 [.tmp 2, .tmp 3] 0 num_Neg_wr [] [.int .i64 a0] [] (rd (Pt.tup (Ps.cons (Pt.int .i64) (Ps.cons Pt.bool Ps.nil))) Os.nil)
theorem num_Neg_eq (k : Nat) (a0 : Int) : num_Neg k a0 = (num_least k a0).bind fun r9 => (num_kept k (wr .i64 (0 - a0)) (!r9.1)).bind fun r10 => some ((r10.1.1, (r10.1.2.1, ())), ()) := by kernel_rfl
noncomputable def num_Neg_sp (k : Nat) : Spec := mkSp (Ps.cons (Pt.int .i64) Ps.nil) Os.nil (Pt.tup (Ps.cons (Pt.int .i64) (Ps.cons Pt.bool Ps.nil))) Os.nil (fun p o => num_Neg k p.1) [.asis] [] 0 (fun _ => true)
theorem num_Neg_ok (k : Nat) : SpecOk Try.prog 44 (num_Neg_sp k) := mk_ok (k := k) (h := .z) (W := num_Neg_wr) G_ok (num_Neg_EOK k) Try.func44 (c := num_Neg_c) (by kernel_rfl) (by kernel_rfl) (by kernel_rfl) (by kernel_rfl) (by kernel_rfl) fun _ _ => rfl

noncomputable def num_Mul_E (k : Nat) : Table := [(44, num_Neg_sp k), (62, num_kept_sp k)]
theorem num_Mul_EOK (k : Nat) : TabOk Try.prog (num_Mul_E k) := .cons (num_Neg_ok k) <| .cons (num_kept_ok k) <| .nil
/-- plenum/num.Mul -/
noncomputable def num_Mul_c : Code := bodyOf Try.f38
noncomputable def num_Mul_wr : Norm := { keep := [(4, .asis), (5, .asis)], objs := [], c := 0 }
noncomputable def num_Mul (k : Nat) (a0 : Int) (a1 : Int) : Option ((Int × (Bool × Unit)) × Unit) := fnK G (num_Mul_E k) k .z num_Mul_c 37 [.tmp 4, .tmp 5] 0 num_Mul_wr [] [.int .i64 a0, .int .i64 a1] [] (rd (Pt.tup (Ps.cons (Pt.int .i64) (Ps.cons Pt.bool Ps.nil))) Os.nil)
theorem num_Mul_eq (k : Nat) (a0 : Int) (a1 : Int) : num_Mul k a0 a1 = (bif (decide (a0 = 0)) then some (((0 : Int), (true, ())), ()) else (bif (decide (a1 = 0)) then some (((0 : Int), (true, ())), ()) else (bif (decide (a0 = (-1))) then (num_Neg k a1).bind fun r11 => some ((r11.1.1, (r11.1.2.1, ())), ()) else (bif (decide (a1 = (-1))) then (num_Neg k a0).bind fun r12 => some ((r12.1.1, (r12.1.2.1, ())), ()) else (quoK .i64 (wr .i64 (a0 * a1)) a1).bind fun x13 => (num_kept k (wr .i64 (a0 * a1)) (decide (x13 = a0))).bind fun r14 => some ((r14.1.1, (r14.1.2.1, ())), ()))))) := by kernel_rfl
noncomputable def num_Mul_sp (k : Nat) : Spec := mkSp (Ps.cons (Pt.int .i64) (Ps.cons (Pt.int .i64) Ps.nil)) Os.nil (Pt.tup (Ps.cons (Pt.int .i64) (Ps.cons Pt.bool Ps.nil))) Os.nil (fun p o => num_Mul k p.1 p.2.1) [.asis, .asis] [] 0 (fun _ => true)
theorem num_Mul_ok (k : Nat) : SpecOk Try.prog 38 (num_Mul_sp k) := mk_ok (k := k) (h := .z) (W := num_Mul_wr) G_ok (num_Mul_EOK k) Try.func38 (c := num_Mul_c) (by kernel_rfl) (by kernel_rfl) (by kernel_rfl) (by kernel_rfl) (by kernel_rfl) fun _ _ => rfl

noncomputable def ref01_size_E (k : Nat) : Table := []
theorem ref01_size_EOK (k : Nat) : TabOk Try.prog (ref01_size_E k) := .nil
/-- plenum/plenumref01.size -/
noncomputable def ref01_size_c : Code := bodyOf Try.f64
noncomputable def ref01_size_wr : Norm := { keep := [(2, .asis)], objs := [], c := 0 }
noncomputable def ref01_size (k : Nat) (a0 : Int) : Option (Int × Unit) := fnK G (ref01_size_E k) k .z ref01_size_c 12 [.tmp 2] 0 ref01_size_wr [] [.int .i64 a0] [] (rd (Pt.int .u64) Os.nil)
theorem ref01_size_eq (k : Nat) (a0 : Int) : ref01_size k a0 = (bif (decide (0 ≤ a0)) then some ((wr .u64 a0), ()) else some ((wr .u64 ((wr .u64 (wr .i64 (0 - (wr .i64 (a0 + 1))))) + 1)), ())) := by kernel_rfl
noncomputable def ref01_size_sp (k : Nat) : Spec := mkSp (Ps.cons (Pt.int .i64) Ps.nil) Os.nil (Pt.int .u64) Os.nil (fun p o => ref01_size k p.1) [.asis] [] 0 (fun _ => true)
theorem ref01_size_ok (k : Nat) : SpecOk Try.prog 64 (ref01_size_sp k) := mk_ok (k := k) (h := .z) (W := ref01_size_wr) G_ok (ref01_size_EOK k) Try.func64 (c := ref01_size_c) (by kernel_rfl) (by kernel_rfl) (by kernel_rfl) (by kernel_rfl) (by kernel_rfl) fun _ _ => rfl

noncomputable def ref01_Mul_E (k : Nat) : Table := [(64, ref01_size_sp k)]
theorem ref01_Mul_EOK (k : Nat) : TabOk Try.prog (ref01_Mul_E k) := .cons (ref01_size_ok k) <| .nil
/-- plenum/plenumref01.Mul -/
noncomputable def ref01_Mul_c : Code := bodyOf Try.f39
noncomputable def ref01_Mul_wr : Norm := { keep := [(4, .asis), (5, .asis)], objs := [], c := 0 }
noncomputable def ref01_Mul (k : Nat) (a0 : Int) (a1 : Int) : Option ((Int × (Bool × Unit)) × Unit) := fnK G (ref01_Mul_E k) k .z ref01_Mul_c 40 [.tmp 4, .tmp 5] 0 ref01_Mul_wr [] [.int .i64 a0, .int .i64 a1] [] (rd (Pt.tup (Ps.cons (Pt.int .i64) (Ps.cons Pt.bool Ps.nil))) Os.nil)
theorem ref01_Mul_eq (k : Nat) (a0 : Int) (a1 : Int) : ref01_Mul k a0 a1 = (ref01_size k a0).bind fun r16 => (ref01_size k a1).bind fun r17 => (bif (!decide (r16.1 = 0)) then (quoK .u64 18446744073709551615 r16.1).bind fun x18 => (bif (decide (x18 < r17.1)) then some (((0 : Int), (false, ())), ()) else (bif (beqB (decide (a0 < 0)) (decide (a1 < 0))) then (bif (decide (9223372036854775807 < (wr .u64 (r16.1 * r17.1)))) then some (((0 : Int), (false, ())), ()) else some (((wr .i64 (wr .u64 (r16.1 * r17.1))), (true, ())), ())) else (bif (decide (9223372036854775808 < (wr .u64 (r16.1 * r17.1)))) then some (((0 : Int), (false, ())), ()) else (bif (decide ((wr .u64 (r16.1 * r17.1)) = 9223372036854775808)) then some ((((-9223372036854775808) : Int), (true, ())), ()) else some (((wr .i64 (0 - (wr .i64 (wr .u64 (r16.1 * r17.1))))), (true, ())), ()))))) else (bif (beqB (decide (a0 < 0)) (decide (a1 < 0))) then (bif (decide (9223372036854775807 < (wr .u64 (r16.1 * r17.1)))) then some (((0 : Int), (false, ())), ()) else some (((wr .i64 (wr .u64 (r16.1 * r17.1))), (true, ())), ())) else (bif (decide (9223372036854775808 < (wr .u64 (r16.1 * r17.1)))) then some (((0 : Int), (false, ())), ()) else (bif (decide ((wr .u64 (r16.1 * r17.1)) = 9223372036854775808)) then some ((((-9223372036854775808) : Int), (true, ())), ()) else some (((wr .i64 (0 - (wr .i64 (wr .u64 (r16.1 * r17.1))))), (true, ())), ()))))) := by kernel_rfl
noncomputable def ref01_Mul_sp (k : Nat) : Spec := mkSp (Ps.cons (Pt.int .i64) (Ps.cons (Pt.int .i64) Ps.nil)) Os.nil (Pt.tup (Ps.cons (Pt.int .i64) (Ps.cons Pt.bool Ps.nil))) Os.nil (fun p o => ref01_Mul k p.1 p.2.1) [.asis, .asis] [] 0 (fun _ => true)
theorem ref01_Mul_ok (k : Nat) : SpecOk Try.prog 39 (ref01_Mul_sp k) := mk_ok (k := k) (h := .z) (W := ref01_Mul_wr) G_ok (ref01_Mul_EOK k) Try.func39 (c := ref01_Mul_c) (by kernel_rfl) (by kernel_rfl) (by kernel_rfl) (by kernel_rfl) (by kernel_rfl) fun _ _ => rfl

noncomputable def law01_NumMuls_E (k : Nat) : Table := [(19, law01_awake_sp k), (38, num_Mul_sp k), (39, ref01_Mul_sp k)]
theorem law01_NumMuls_EOK (k : Nat) : TabOk Try.prog (law01_NumMuls_E k) := .cons (law01_awake_ok k) <| .cons (num_Mul_ok k) <| .cons (ref01_Mul_ok k) <| .nil
/-- plenum/plenumlaw01.NumMuls -/
noncomputable def law01_NumMuls_c : Code := bodyOf Try.f10
noncomputable def law01_NumMuls_wr : Norm := { keep := [(4, .asis)], objs := [], c := 0 }
noncomputable def law01_NumMuls (k : Nat) (a0 : Int) (a1 : Int) : Option (Bool × Unit) := fnK G (law01_NumMuls_E k) k .z law01_NumMuls_c 49 [.tmp 4] 0 law01_NumMuls_wr [] [.int .i64 a0, .int .i64 a1] [] (rd Pt.bool Os.nil)
theorem law01_NumMuls_eq (k : Nat) (a0 : Int) (a1 : Int) : law01_NumMuls k a0 a1 = (law01_awake k).bind fun r8 => (bif (!r8.1) then some (false, ()) else (num_Mul k a0 a1).bind fun r15 => (ref01_Mul k a0 a1).bind fun r19 => (num_Mul k a1 a0).bind fun r20 => (bif (decide (r15.1.1 = r19.1.1)) then (bif (beqB r15.1.2.1 r19.1.2.1) then (bif (decide (r20.1.1 = r15.1.1)) then some ((beqB r20.1.2.1 r15.1.2.1), ()) else some (false, ())) else some (false, ())) else some (false, ()))) := by kernel_rfl
noncomputable def law01_NumMuls_sp (k : Nat) : Spec := mkSp (Ps.cons (Pt.int .i64) (Ps.cons (Pt.int .i64) Ps.nil)) Os.nil Pt.bool Os.nil (fun p o => law01_NumMuls k p.1 p.2.1) [.asis, .asis] [] 0 (fun _ => true)
theorem law01_NumMuls_ok (k : Nat) : SpecOk Try.prog 10 (law01_NumMuls_sp k) := mk_ok (k := k) (h := .z) (W := law01_NumMuls_wr) G_ok (law01_NumMuls_EOK k) Try.func10 (c := law01_NumMuls_c) (by kernel_rfl) (by kernel_rfl) (by kernel_rfl) (by kernel_rfl) (by kernel_rfl) fun _ _ => rfl

end Go.Proofs.Ytnojkokhfmgcfaa.Den
