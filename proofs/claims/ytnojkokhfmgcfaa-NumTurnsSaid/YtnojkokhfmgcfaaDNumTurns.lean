import Derived.Test.YtnojkokhfmgcfaaDen30
import Derived.Test.YtnojkokhfmgcfaaProg
import Derived.KernelRfl
namespace Go.Proofs.Ytnojkokhfmgcfaa.Den
open Go
set_option maxRecDepth 100000
noncomputable def G : Env := tabEnv [(2, (.int .i64)), (4, .bool), (23, (.int .u64)), (34, (.int .u64))] [] [] []
theorem G_ok : EnvOk Try.prog G := env_ok (by kernel_rfl)
noncomputable def E63 (k : Nat) : Table := []
theorem EOK63 (k : Nat) : TabOk Try.prog (E63 k) := .nil
/-- plenum/num.same -/
noncomputable def f63 (k : Nat) (a0 : Int) (a1 : Int) : Option (Bool × Unit) := fnK G (E63 k) k .z (bodyOf Try.f63) 10 [.tmp 4] 0 [] [.int .i64 a0, .int .i64 a1] [] (rd Pt.bool Os.nil)
theorem f63_eq (k : Nat) (a0 : Int) (a1 : Int) : f63 k a0 a1 = some ((decide (((Go.bits .xor .i64 a0 a1) / 9223372036854775808) = 0)), ()) := by kernel_rfl
noncomputable def s63 (k : Nat) : Spec := mkSp (Ps.cons (Pt.int .i64) (Ps.cons (Pt.int .i64) Ps.nil)) Os.nil Pt.bool Os.nil (fun p _ => f63 k p.1 p.2.1) [.asis, .asis] [] 0
theorem ok63 (k : Nat) : SpecOk Try.prog 63 (s63 k) := mk_ok (k := k) (h := .z) G_ok (EOK63 k) Try.func63 (by kernel_rfl) (by kernel_rfl) (by kernel_rfl) (by kernel_rfl) rfl fun _ _ => rfl

noncomputable def E62 (k : Nat) : Table := []
theorem EOK62 (k : Nat) : TabOk Try.prog (E62 k) := .nil
/-- plenum/num.kept -/
noncomputable def f62 (k : Nat) (a0 : Int) (a1 : Bool) : Option ((Int × (Bool × Unit)) × Unit) := fnK G (E62 k) k .z (bodyOf Try.f62) 9 [.tmp 4, .tmp 5] 0 [] [.int .i64 a0, .bool a1] [] (rd (Pt.tup (Ps.cons (Pt.int .i64) (Ps.cons Pt.bool Ps.nil))) Os.nil)
theorem f62_eq (k : Nat) (a0 : Int) (a1 : Bool) : f62 k a0 a1 = (bif (!a1) then some (((0 : Int), (false, ())), ()) else some ((a0, (true, ())), ())) := by kernel_rfl
noncomputable def s62 (k : Nat) : Spec := mkSp (Ps.cons (Pt.int .i64) (Ps.cons Pt.bool Ps.nil)) Os.nil (Pt.tup (Ps.cons (Pt.int .i64) (Ps.cons Pt.bool Ps.nil))) Os.nil (fun p _ => f62 k p.1 p.2.1) [.asis, .asis] [] 0
theorem ok62 (k : Nat) : SpecOk Try.prog 62 (s62 k) := mk_ok (k := k) (h := .z) G_ok (EOK62 k) Try.func62 (by kernel_rfl) (by kernel_rfl) (by kernel_rfl) (by kernel_rfl) rfl fun _ _ => rfl

noncomputable def E32 (k : Nat) : Table := [(62, s62 k), (63, s63 k)]
theorem EOK32 (k : Nat) : TabOk Try.prog (E32 k) := .cons (ok62 k) <| .cons (ok63 k) <| .nil
/-- plenum/num.Add -/
noncomputable def f32 (k : Nat) (a0 : Int) (a1 : Int) : Option ((Int × (Bool × Unit)) × Unit) := fnK G (E32 k) k .z (bodyOf Try.f32) 23 [.tmp 4, .tmp 5] 0 [] [.int .i64 a0, .int .i64 a1] [] (rd (Pt.tup (Ps.cons (Pt.int .i64) (Ps.cons Pt.bool Ps.nil))) Os.nil)
theorem f32_eq (k : Nat) (a0 : Int) (a1 : Int) : f32 k a0 a1 = (f63 k a0 a1).bind fun r1 => (bif (!r1.1) then (f62 k (wr .i64 (a0 + a1)) true).bind fun r2 => some ((r2.1.1, (r2.1.2.1, ())), ()) else (f63 k a0 (wr .i64 (a0 + a1))).bind fun r3 => (f62 k (wr .i64 (a0 + a1)) r3.1).bind fun r4 => some ((r4.1.1, (r4.1.2.1, ())), ())) := by kernel_rfl
noncomputable def s32 (k : Nat) : Spec := mkSp (Ps.cons (Pt.int .i64) (Ps.cons (Pt.int .i64) Ps.nil)) Os.nil (Pt.tup (Ps.cons (Pt.int .i64) (Ps.cons Pt.bool Ps.nil))) Os.nil (fun p _ => f32 k p.1 p.2.1) [.asis, .asis] [] 0
theorem ok32 (k : Nat) : SpecOk Try.prog 32 (s32 k) := mk_ok (k := k) (h := .z) G_ok (EOK32 k) Try.func32 (by kernel_rfl) (by kernel_rfl) (by kernel_rfl) (by kernel_rfl) rfl fun _ _ => rfl

noncomputable def E20 (k : Nat) : Table := []
theorem EOK20 (k : Nat) : TabOk Try.prog (E20 k) := .nil
/-- plenum/num.Zig -/
noncomputable def f20 (k : Nat) (a0 : Int) : Option (Int × Unit) := fnK G (E20 k) k .z (bodyOf Try.f20) 10 [.tmp 2] 0 [] [.int .i64 a0] [] (rd (Pt.int .u64) Os.nil)
theorem f20_eq (k : Nat) (a0 : Int) : f20 k a0 = some ((Go.bits .xor .u64 (wr .u64 ((wr .u64 a0) * 2)) (wr .u64 (a0 / 9223372036854775808))), ()) := by kernel_rfl
noncomputable def s20 (k : Nat) : Spec := mkSp (Ps.cons (Pt.int .i64) Ps.nil) Os.nil (Pt.int .u64) Os.nil (fun p _ => f20 k p.1) [.asis] [] 0
theorem ok20 (k : Nat) : SpecOk Try.prog 20 (s20 k) := mk_ok (k := k) (h := .z) G_ok (EOK20 k) Try.func20 (by kernel_rfl) (by kernel_rfl) (by kernel_rfl) (by kernel_rfl) rfl fun _ _ => rfl

noncomputable def E23 (k : Nat) : Table := []
theorem EOK23 (k : Nat) : TabOk Try.prog (E23 k) := .nil
/-- plenum/num.Flip -/
noncomputable def f23 (k : Nat) (a0 : Int) : Option (Int × Unit) := fnK G (E23 k) k .z (bodyOf Try.f23) 6 [.tmp 2] 0 [] [.int .i64 a0] [] (rd (Pt.int .u64) Os.nil)
theorem f23_eq (k : Nat) (a0 : Int) : f23 k a0 = some ((Go.bits .xor .u64 (wr .u64 a0) 9223372036854775808), ()) := by kernel_rfl
noncomputable def s23 (k : Nat) : Spec := mkSp (Ps.cons (Pt.int .i64) Ps.nil) Os.nil (Pt.int .u64) Os.nil (fun p _ => f23 k p.1) [.asis] [] 0
theorem ok23 (k : Nat) : SpecOk Try.prog 23 (s23 k) := mk_ok (k := k) (h := .z) G_ok (EOK23 k) Try.func23 (by kernel_rfl) (by kernel_rfl) (by kernel_rfl) (by kernel_rfl) rfl fun _ _ => rfl

noncomputable def E19 (k : Nat) : Table := [(20, s20 k), (23, s23 k), (32, s32 k)]
theorem EOK19 (k : Nat) : TabOk Try.prog (E19 k) := .cons (ok20 k) <| .cons (ok23 k) <| .cons (ok32 k) <| .nil
/-- plenum/plenumlaw01.awake -/
noncomputable def f19 (k : Nat)  : Option (Bool × Unit) := fnK G (E19 k) k .z (bodyOf Try.f19) 17 [.tmp 0] 0 [] [] [] (rd Pt.bool Os.nil)
theorem f19_eq (k : Nat)  : f19 k  = (f32 k (9223372036854775807 : Int) (1 : Int)).bind fun r5 => (bif (!r5.1.2.1) then (f20 k ((-3) : Int)).bind fun r6 => (bif (decide (r6.1 = 5)) then (f23 k (0 : Int)).bind fun r7 => some ((decide (r7.1 = 9223372036854775808)), ()) else some (false, ())) else some (false, ())) := by kernel_rfl
noncomputable def s19 (k : Nat) : Spec := mkSp Ps.nil Os.nil Pt.bool Os.nil (fun p _ => f19 k ) [] [] 0
theorem ok19 (k : Nat) : SpecOk Try.prog 19 (s19 k) := mk_ok (k := k) (h := .z) G_ok (EOK19 k) Try.func19 (by kernel_rfl) (by kernel_rfl) (by kernel_rfl) (by kernel_rfl) rfl fun _ _ => rfl

noncomputable def E21 (k : Nat) : Table := []
theorem EOK21 (k : Nat) : TabOk Try.prog (E21 k) := .nil
/-- plenum/plenumref01.Zig -/
noncomputable def f21 (k : Nat) (a0 : Int) : Option (Int × Unit) := fnK G (E21 k) k .z (bodyOf Try.f21) 14 [.tmp 2] 0 [] [.int .i64 a0] [] (rd (Pt.int .u64) Os.nil)
theorem f21_eq (k : Nat) (a0 : Int) : f21 k a0 = (bif (decide (0 ≤ a0)) then some ((wr .u64 (2 * (wr .u64 a0))), ()) else some ((wr .u64 ((wr .u64 (2 * (wr .u64 (wr .i64 (0 - (wr .i64 (a0 + 1))))))) + 1)), ())) := by kernel_rfl
noncomputable def s21 (k : Nat) : Spec := mkSp (Ps.cons (Pt.int .i64) Ps.nil) Os.nil (Pt.int .u64) Os.nil (fun p _ => f21 k p.1) [.asis] [] 0
theorem ok21 (k : Nat) : SpecOk Try.prog 21 (s21 k) := mk_ok (k := k) (h := .z) G_ok (EOK21 k) Try.func21 (by kernel_rfl) (by kernel_rfl) (by kernel_rfl) (by kernel_rfl) rfl fun _ _ => rfl

noncomputable def E22 (k : Nat) : Table := []
theorem EOK22 (k : Nat) : TabOk Try.prog (E22 k) := .nil
/-- plenum/num.Zag -/
noncomputable def f22 (k : Nat) (a0 : Int) : Option (Int × Unit) := fnK G (E22 k) k .z (bodyOf Try.f22) 11 [.tmp 2] 0 [] [.int .u64 a0] [] (rd (Pt.int .i64) Os.nil)
theorem f22_eq (k : Nat) (a0 : Int) : f22 k a0 = some ((Go.bits .xor .i64 (wr .i64 (a0 / 2)) (wr .i64 (0 - (wr .i64 (Go.bits .and .u64 a0 1))))), ()) := by kernel_rfl
noncomputable def s22 (k : Nat) : Spec := mkSp (Ps.cons (Pt.int .u64) Ps.nil) Os.nil (Pt.int .i64) Os.nil (fun p _ => f22 k p.1) [.asis] [] 0
theorem ok22 (k : Nat) : SpecOk Try.prog 22 (s22 k) := mk_ok (k := k) (h := .z) G_ok (EOK22 k) Try.func22 (by kernel_rfl) (by kernel_rfl) (by kernel_rfl) (by kernel_rfl) rfl fun _ _ => rfl

noncomputable def E24 (k : Nat) : Table := []
theorem EOK24 (k : Nat) : TabOk Try.prog (E24 k) := .nil
/-- plenum/plenumref01.Flip -/
noncomputable def f24 (k : Nat) (a0 : Int) : Option (Int × Unit) := fnK G (E24 k) k .z (bodyOf Try.f24) 11 [.tmp 2] 0 [] [.int .i64 a0] [] (rd (Pt.int .u64) Os.nil)
theorem f24_eq (k : Nat) (a0 : Int) : f24 k a0 = (bif (decide (0 ≤ a0)) then some ((wr .u64 ((wr .u64 a0) + 9223372036854775808)), ()) else some ((wr .u64 (wr .i64 (a0 - (-9223372036854775808)))), ())) := by kernel_rfl
noncomputable def s24 (k : Nat) : Spec := mkSp (Ps.cons (Pt.int .i64) Ps.nil) Os.nil (Pt.int .u64) Os.nil (fun p _ => f24 k p.1) [.asis] [] 0
theorem ok24 (k : Nat) : SpecOk Try.prog 24 (s24 k) := mk_ok (k := k) (h := .z) G_ok (EOK24 k) Try.func24 (by kernel_rfl) (by kernel_rfl) (by kernel_rfl) (by kernel_rfl) rfl fun _ _ => rfl

noncomputable def E25 (k : Nat) : Table := []
theorem EOK25 (k : Nat) : TabOk Try.prog (E25 k) := .nil
/-- plenum/num.Unflip -/
noncomputable def f25 (k : Nat) (a0 : Int) : Option (Int × Unit) := fnK G (E25 k) k .z (bodyOf Try.f25) 6 [.tmp 2] 0 [] [.int .u64 a0] [] (rd (Pt.int .i64) Os.nil)
theorem f25_eq (k : Nat) (a0 : Int) : f25 k a0 = some ((wr .i64 (Go.bits .xor .u64 a0 9223372036854775808)), ()) := by kernel_rfl
noncomputable def s25 (k : Nat) : Spec := mkSp (Ps.cons (Pt.int .u64) Ps.nil) Os.nil (Pt.int .i64) Os.nil (fun p _ => f25 k p.1) [.asis] [] 0
theorem ok25 (k : Nat) : SpecOk Try.prog 25 (s25 k) := mk_ok (k := k) (h := .z) G_ok (EOK25 k) Try.func25 (by kernel_rfl) (by kernel_rfl) (by kernel_rfl) (by kernel_rfl) rfl fun _ _ => rfl

noncomputable def E3 (k : Nat) : Table := [(19, s19 k), (20, s20 k), (21, s21 k), (22, s22 k), (23, s23 k), (24, s24 k), (25, s25 k)]
theorem EOK3 (k : Nat) : TabOk Try.prog (E3 k) := .cons (ok19 k) <| .cons (ok20 k) <| .cons (ok21 k) <| .cons (ok22 k) <| .cons (ok23 k) <| .cons (ok24 k) <| .cons (ok25 k) <| .nil
/-- plenum/plenumlaw01.NumTurns -/
noncomputable def f3 (k : Nat) (a0 : Int) (a1 : Int) : Option (Bool × Unit) := fnK G (E3 k) k .z (bodyOf Try.f3) 44 [.tmp 4] 0 [] [.int .i64 a0, .int .i64 a1] [] (rd Pt.bool Os.nil)
theorem f3_eq (k : Nat) (a0 : Int) (a1 : Int) : f3 k a0 a1 = (f19 k ).bind fun r8 => (bif (!r8.1) then some (false, ()) else (f20 k a0).bind fun r9 => (f21 k a0).bind fun r10 => (bif (decide (r9.1 = r10.1)) then (f20 k a0).bind fun r11 => (f22 k r11.1).bind fun r12 => (bif (decide (r12.1 = a0)) then (f23 k a0).bind fun r13 => (f24 k a0).bind fun r14 => (bif (decide (r13.1 = r14.1)) then (f23 k a0).bind fun r15 => (f25 k r15.1).bind fun r16 => (bif (decide (r16.1 = a0)) then (f23 k a0).bind fun r17 => (f23 k a1).bind fun r18 => some ((beqB (decide (r17.1 < r18.1)) (decide (a0 < a1))), ()) else some (false, ())) else some (false, ())) else some (false, ())) else some (false, ()))) := by kernel_rfl
noncomputable def s3 (k : Nat) : Spec := mkSp (Ps.cons (Pt.int .i64) (Ps.cons (Pt.int .i64) Ps.nil)) Os.nil Pt.bool Os.nil (fun p _ => f3 k p.1 p.2.1) [.asis, .asis] [] 0
theorem ok3 (k : Nat) : SpecOk Try.prog 3 (s3 k) := mk_ok (k := k) (h := .z) G_ok (EOK3 k) Try.func3 (by kernel_rfl) (by kernel_rfl) (by kernel_rfl) (by kernel_rfl) rfl fun _ _ => rfl

end Go.Proofs.Ytnojkokhfmgcfaa.Den
