import Derived.Test.YtnojkokhfmgcfaaDen30
import Derived.Test.YtnojkokhfmgcfaaProg
import Derived.KernelRfl
namespace Go.Proofs.Ytnojkokhfmgcfaa.Den
open Go
set_option maxRecDepth 100000
noncomputable def G : Env := tabEnv [(2, (.int .i64)), (3, (.int .i64)), (4, .bool), (5, (.int .u8)), (9, .str), (23, (.int .u64)), (28, (.sl (.int .u8))), (34, (.int .u64))] [] [] []
theorem G_ok : EnvOk Try.prog G := env_ok (by kernel_rfl)
noncomputable def num_same_E (k : Nat) : Table := []
theorem num_same_EOK (k : Nat) : TabOk Try.prog (num_same_E k) := .nil
/-- plenum/num.same -/
noncomputable def num_same_c : Code := bodyOf Try.f63
noncomputable def num_same_wr : Norm := { keep := [(4, .asis)], objs := [], c := 0 }
noncomputable def num_same (k : Nat) (a0 : Int) (a1 : Int) : Option (Bool × Unit) := fnK G (num_same_E k) k .z num_same_c 10 [.tmp 4] 0 num_same_wr [] [.int .i64 a0, .int .i64 a1] [] (rd Pt.bool Os.nil)
theorem num_same_eq (k : Nat) (a0 : Int) (a1 : Int) : num_same k a0 a1 = some ((decide (((Go.bits .xor .i64 a0 a1) / 9223372036854775808) = 0)), ()) := by kernel_rfl
noncomputable def num_same_sp (k : Nat) : Spec := mkSp (Ps.cons (Pt.int .i64) (Ps.cons (Pt.int .i64) Ps.nil)) Os.nil Pt.bool Os.nil (fun p o => num_same k p.1 p.2.1) [.asis, .asis] [] 0 (fun _ => true)
theorem num_same_ok (k : Nat) : SpecOk Try.prog 63 (num_same_sp k) := mk_ok (k := k) (h := .z) (W := num_same_wr) G_ok (num_same_EOK k) Try.func63 (c := num_same_c) (by kernel_rfl) (by kernel_rfl) (by kernel_rfl) (by kernel_rfl) (by kernel_rfl) fun _ _ => rfl

noncomputable def num_kept_E (k : Nat) : Table := []
theorem num_kept_EOK (k : Nat) : TabOk Try.prog (num_kept_E k) := .nil
/-- plenum/num.kept -/
noncomputable def num_kept_c : Code := bodyOf Try.f62
noncomputable def num_kept_wr : Norm := { keep := [(4, .asis), (5, .asis)], objs := [], c := 0 }
noncomputable def num_kept (k : Nat) (a0 : Int) (a1 : Bool) : Option ((Int × (Bool × Unit)) × Unit) := fnK G (num_kept_E k) k .z num_kept_c 9 [.tmp 4, .tmp 5] 0 num_kept_wr [] [.int .i64 a0, .bool a1] [] (rd (Pt.tup (Ps.cons (Pt.int .i64) (Ps.cons Pt.bool Ps.nil))) Os.nil)
theorem num_kept_eq (k : Nat) (a0 : Int) (a1 : Bool) : num_kept k a0 a1 = (bif (!a1) then some (((0 : Int), (false, ())), ()) else some ((a0, (true, ())), ())) := by kernel_rfl
noncomputable def num_kept_sp (k : Nat) : Spec := mkSp (Ps.cons (Pt.int .i64) (Ps.cons Pt.bool Ps.nil)) Os.nil (Pt.tup (Ps.cons (Pt.int .i64) (Ps.cons Pt.bool Ps.nil))) Os.nil (fun p o => num_kept k p.1 p.2.1) [.asis, .asis] [] 0 (fun _ => true)
theorem num_kept_ok (k : Nat) : SpecOk Try.prog 62 (num_kept_sp k) := mk_ok (k := k) (h := .z) (W := num_kept_wr) G_ok (num_kept_EOK k) Try.func62 (c := num_kept_c) (by kernel_rfl) (by kernel_rfl) (by kernel_rfl) (by kernel_rfl) (by kernel_rfl) fun _ _ => rfl

noncomputable def num_Add_E (k : Nat) : Table := [(62, num_kept_sp k), (63, num_same_sp k)]
theorem num_Add_EOK (k : Nat) : TabOk Try.prog (num_Add_E k) := .cons (num_kept_ok k) <| .cons (num_same_ok k) <| .nil
/-- plenum/num.Add -/
noncomputable def num_Add_c : Code := bodyOf Try.f32
noncomputable def num_Add_wr : Norm := { keep := [(4, .asis), (5, .asis)], objs := [], c := 0 }
noncomputable def num_Add (k : Nat) (a0 : Int) (a1 : Int) : Option ((Int × (Bool × Unit)) × Unit) := fnK G (num_Add_E k) k .z num_Add_c 23 [.tmp 4, .tmp 5] 0 num_Add_wr [] [.int .i64 a0, .int .i64 a1] [] (rd (Pt.tup (Ps.cons (Pt.int .i64) (Ps.cons Pt.bool Ps.nil))) Os.nil)
theorem num_Add_eq (k : Nat) (a0 : Int) (a1 : Int) : num_Add k a0 a1 = (num_same k a0 a1).bind fun r1 => (bif (!r1.1) then (num_kept k (wr .i64 (a0 + a1)) true).bind fun r2 => some ((r2.1.1, (r2.1.2.1, ())), ()) else (num_same k a0 (wr .i64 (a0 + a1))).bind fun r3 => (num_kept k (wr .i64 (a0 + a1)) r3.1).bind fun r4 => some ((r4.1.1, (r4.1.2.1, ())), ())) := by kernel_rfl
noncomputable def num_Add_sp (k : Nat) : Spec := mkSp (Ps.cons (Pt.int .i64) (Ps.cons (Pt.int .i64) Ps.nil)) Os.nil (Pt.tup (Ps.cons (Pt.int .i64) (Ps.cons Pt.bool Ps.nil))) Os.nil (fun p o => num_Add k p.1 p.2.1) [.asis, .asis] [] 0 (fun _ => true)
theorem num_Add_ok (k : Nat) : SpecOk Try.prog 32 (num_Add_sp k) := mk_ok (k := k) (h := .z) (W := num_Add_wr) G_ok (num_Add_EOK k) Try.func32 (c := num_Add_c) (by kernel_rfl) (by kernel_rfl) (by kernel_rfl) (by kernel_rfl) (by kernel_rfl) fun _ _ => rfl

noncomputable def num_Zig_E (k : Nat) : Table := []
theorem num_Zig_EOK (k : Nat) : TabOk Try.prog (num_Zig_E k) := .nil
/-- plenum/num.Zig -/
noncomputable def num_Zig_c : Code := bodyOf Try.f20
noncomputable def num_Zig_wr : Norm := { keep := [(2, .asis)], objs := [], c := 0 }
noncomputable def num_Zig (k : Nat) (a0 : Int) : Option (Int × Unit) := fnK G (num_Zig_E k) k .z num_Zig_c 10 [.tmp 2] 0 num_Zig_wr [] [.int .i64 a0] [] (rd (Pt.int .u64) Os.nil)
theorem num_Zig_eq (k : Nat) (a0 : Int) : num_Zig k a0 = some ((Go.bits .xor .u64 (wr .u64 ((wr .u64 a0) * 2)) (wr .u64 (a0 / 9223372036854775808))), ()) := by kernel_rfl
noncomputable def num_Zig_sp (k : Nat) : Spec := mkSp (Ps.cons (Pt.int .i64) Ps.nil) Os.nil (Pt.int .u64) Os.nil (fun p o => num_Zig k p.1) [.asis] [] 0 (fun _ => true)
theorem num_Zig_ok (k : Nat) : SpecOk Try.prog 20 (num_Zig_sp k) := mk_ok (k := k) (h := .z) (W := num_Zig_wr) G_ok (num_Zig_EOK k) Try.func20 (c := num_Zig_c) (by kernel_rfl) (by kernel_rfl) (by kernel_rfl) (by kernel_rfl) (by kernel_rfl) fun _ _ => rfl

noncomputable def num_Flip_E (k : Nat) : Table := []
theorem num_Flip_EOK (k : Nat) : TabOk Try.prog (num_Flip_E k) := .nil
/-- plenum/num.Flip -/
noncomputable def num_Flip_c : Code := bodyOf Try.f23
noncomputable def num_Flip_wr : Norm := { keep := [(2, .asis)], objs := [], c := 0 }
noncomputable def num_Flip (k : Nat) (a0 : Int) : Option (Int × Unit) := fnK G (num_Flip_E k) k .z num_Flip_c 6 [.tmp 2] 0 num_Flip_wr [] [.int .i64 a0] [] (rd (Pt.int .u64) Os.nil)
theorem num_Flip_eq (k : Nat) (a0 : Int) : num_Flip k a0 = some ((Go.bits .xor .u64 (wr .u64 a0) 9223372036854775808), ()) := by kernel_rfl
noncomputable def num_Flip_sp (k : Nat) : Spec := mkSp (Ps.cons (Pt.int .i64) Ps.nil) Os.nil (Pt.int .u64) Os.nil (fun p o => num_Flip k p.1) [.asis] [] 0 (fun _ => true)
theorem num_Flip_ok (k : Nat) : SpecOk Try.prog 23 (num_Flip_sp k) := mk_ok (k := k) (h := .z) (W := num_Flip_wr) G_ok (num_Flip_EOK k) Try.func23 (c := num_Flip_c) (by kernel_rfl) (by kernel_rfl) (by kernel_rfl) (by kernel_rfl) (by kernel_rfl) fun _ _ => rfl

noncomputable def law01_awake_E (k : Nat) : Table := [(32, num_Add_sp k), (23, num_Flip_sp k), (20, num_Zig_sp k)]
theorem law01_awake_EOK (k : Nat) : TabOk Try.prog (law01_awake_E k) := .cons (num_Add_ok k) <| .cons (num_Flip_ok k) <| .cons (num_Zig_ok k) <| .nil
/-- plenum/plenumlaw01.awake -/
noncomputable def law01_awake_c : Code := bodyOf Try.f19
noncomputable def law01_awake_wr : Norm := { keep := [(0, .asis)], objs := [], c := 0 }
noncomputable def law01_awake (k : Nat)  : Option (Bool × Unit) := fnK G (law01_awake_E k) k .z law01_awake_c 17 [.tmp 0] 0 law01_awake_wr [] [] [] (rd Pt.bool Os.nil)
theorem law01_awake_eq (k : Nat)  : law01_awake k  = (num_Add k (9223372036854775807 : Int) (1 : Int)).bind fun r5 => (bif (!r5.1.2.1) then (num_Zig k ((-3) : Int)).bind fun r6 => (bif (decide (r6.1 = 5)) then (num_Flip k (0 : Int)).bind fun r7 => some ((decide (r7.1 = 9223372036854775808)), ()) else some (false, ())) else some (false, ())) := by kernel_rfl
noncomputable def law01_awake_sp (k : Nat) : Spec := mkSp Ps.nil Os.nil Pt.bool Os.nil (fun p o => law01_awake k ) [] [] 0 (fun _ => true)
theorem law01_awake_ok (k : Nat) : SpecOk Try.prog 19 (law01_awake_sp k) := mk_ok (k := k) (h := .z) (W := law01_awake_wr) G_ok (law01_awake_EOK k) Try.func19 (c := law01_awake_c) (by kernel_rfl) (by kernel_rfl) (by kernel_rfl) (by kernel_rfl) (by kernel_rfl) fun _ _ => rfl

noncomputable def num_Put_E (k : Nat) : Table := []
theorem num_Put_EOK (k : Nat) : TabOk Try.prog (num_Put_E k) := .nil
/-- plenum/num.Put -/
noncomputable def num_Put_c : Code := bodyOf Try.f36
noncomputable def num_Put_wrrrlrl : Norm := { keep := [(0, .asis), (1, .asis), (5, .asis), (15, .asis), (16, .asis)], objs := [[.asis]], c := 0 }
noncomputable def num_Put_wr : Norm := { keep := [(4, .sh)], objs := [], c := 0 }
noncomputable def num_Put (k : Nat) (a0 : Int) (a1 : Int) : Option ((List Int) × Unit) := fnK G (num_Put_E k) k (.two .z (.two .z (.two .z (.two (.two .z (.lp num_Put_wrrrlrl .z)) .z)))) num_Put_c 32 [.tmp 4] 0 num_Put_wr [] [.int .u64 a0, .int .i64 a1] [] (rd (Pt.sl (.int .u8)) Os.nil)
noncomputable def num_Put_l0 (k n : Nat) (v16 : Int) (v17 : Int) (v18 : Int) (v19 : Int) (v20 : (List Int)) : Option ((List Int) × Unit) := iter (exec G (num_Put_E k) k .z (lft (lft (rgt (lft (rgt (rgt (rgt num_Put_c)))))))) num_Put_wrrrlrl (blkK 0 (seqK (exec G (num_Put_E k) k .z (rgt (rgt (rgt (rgt num_Put_c))))) (retK G [.tmp 4] 0 num_Put_wr (rd (Pt.sl (.int .u8)) Os.nil)))) n (mkS 32 0 [(0, (.int .u64 v16)), (1, (.int .i64 v17)), (5, (.ref (.asl (.int .u8)) 0)), (15, (.int .i64 v18)), (16, (.int .i64 v19))] 0 [] [[.blk (.row (.int .u8) v20)]])
theorem num_Put_l0_zero (k : Nat) (v16 : Int) (v17 : Int) (v18 : Int) (v19 : Int) (v20 : (List Int)) : num_Put_l0 k 0 v16 v17 v18 v19 v20 = none := rfl
theorem num_Put_l0_eq (k n : Nat) (v16 : Int) (v17 : Int) (v18 : Int) (v19 : Int) (v20 : (List Int)) : num_Put_l0 k (n + 1) v16 v17 v18 v19 v20 = (bif (decide (v19 < v18)) then (shrK .u64 v16 (wr .i64 (8 * v19))).bind fun x21 => must (inI (wr .i64 ((wr .i64 (v17 - 1)) - v19)) v20.length) (must (Nat.blt (wr .i64 ((wr .i64 (v17 - 1)) - v19)).toNat v20.length) (num_Put_l0 k n v16 v17 v18 (wr .i64 (v19 + 1)) (v20.set (wr .i64 ((wr .i64 (v17 - 1)) - v19)).toNat (wr .u8 x21)))) else some (v20, ())) := by kernel_rfl
theorem num_Put_eq (k : Nat) (a0 : Int) (a1 : Int) : num_Put k a0 a1 = (bif (decide (a1 < 0)) then some ([], ()) else (bif (decide (8 < a1)) then some ([], ()) else must (decide (0 ≤ a1) && beqI a1 a1) (lim a1.toNat (num_Put_l0 k k a0 a1 a1 (0 : Int) (List.replicate a1.toNat (0 : Int)))))) := by kernel_rfl
noncomputable def num_Put_sp (k : Nat) : Spec := mkSp (Ps.cons (Pt.int .u64) (Ps.cons (Pt.int .i64) Ps.nil)) Os.nil (Pt.sl (.int .u8)) Os.nil (fun p o => num_Put k p.1 p.2.1) [.asis, .asis] [] 0 (fun _ => true)
theorem num_Put_ok (k : Nat) : SpecOk Try.prog 36 (num_Put_sp k) := mk_ok (k := k) (h := (.two .z (.two .z (.two .z (.two (.two .z (.lp num_Put_wrrrlrl .z)) .z))))) (W := num_Put_wr) G_ok (num_Put_EOK k) Try.func36 (c := num_Put_c) (by kernel_rfl) (by kernel_rfl) (by kernel_rfl) (by kernel_rfl) (by kernel_rfl) fun _ _ => rfl

noncomputable def law01_NumKeys_E (k : Nat) : Table := [(19, law01_awake_sp k), (23, num_Flip_sp k), (36, num_Put_sp k)]
theorem law01_NumKeys_EOK (k : Nat) : TabOk Try.prog (law01_NumKeys_E k) := .cons (law01_awake_ok k) <| .cons (num_Flip_ok k) <| .cons (num_Put_ok k) <| .nil
/-- plenum/plenumlaw01.NumKeys -/
noncomputable def law01_NumKeys_c : Code := bodyOf Try.f8
noncomputable def law01_NumKeys_wr : Norm := { keep := [(4, .asis)], objs := [], c := 0 }
noncomputable def law01_NumKeys (k : Nat) (a0 : Int) (a1 : Int) : Option (Bool × Unit) := fnK G (law01_NumKeys_E k) k .z law01_NumKeys_c 38 [.tmp 4] 0 law01_NumKeys_wr [] [.int .i64 a0, .int .i64 a1] [] (rd Pt.bool Os.nil)
theorem law01_NumKeys_eq (k : Nat) (a0 : Int) (a1 : Int) : law01_NumKeys k a0 a1 = (law01_awake k).bind fun r8 => (bif (!r8.1) then some (false, ()) else (num_Flip k a0).bind fun r9 => (num_Put k r9.1 (8 : Int)).bind fun r22 => (num_Flip k a1).bind fun r23 => (num_Put k r23.1 (8 : Int)).bind fun r24 => (bif (decide ((r22.1.length : Int) = 8)) then (bif (beqB (ltL r22.1 r24.1) (decide (a0 < a1))) then some ((beqB (beqL r22.1 r24.1) (decide (a0 = a1))), ()) else some (false, ())) else some (false, ()))) := by kernel_rfl
noncomputable def law01_NumKeys_sp (k : Nat) : Spec := mkSp (Ps.cons (Pt.int .i64) (Ps.cons (Pt.int .i64) Ps.nil)) Os.nil Pt.bool Os.nil (fun p o => law01_NumKeys k p.1 p.2.1) [.asis, .asis] [] 0 (fun _ => true)
theorem law01_NumKeys_ok (k : Nat) : SpecOk Try.prog 8 (law01_NumKeys_sp k) := mk_ok (k := k) (h := .z) (W := law01_NumKeys_wr) G_ok (law01_NumKeys_EOK k) Try.func8 (c := law01_NumKeys_c) (by kernel_rfl) (by kernel_rfl) (by kernel_rfl) (by kernel_rfl) (by kernel_rfl) fun _ _ => rfl

end Go.Proofs.Ytnojkokhfmgcfaa.Den
