import Derived.Test.YtnojkokhfmgcfaaDen30
import Derived.Test.YtnojkokhfmgcfaaProg
import Derived.KernelRfl
namespace Go.Proofs.Ytnojkokhfmgcfaa.Den
open Go
set_option maxRecDepth 100000
noncomputable def G : Env := tabEnv [(2, (.int .i64)), (3, (.int .i64)), (4, .bool), (5, (.int .u8)), (9, .str), (23, (.int .u64)), (28, (.sl (.int .u8))), (34, (.int .u64))] [] [] []
theorem G_ok : EnvOk Try.prog G := env_ok (by kernel_rfl)
noncomputable def num_same_E (k : Nat) : Table := []
theorem num_same_EOK (k : Nat) : TabOk Try.prog (num_same_E k) := .nil
/-- plenum/num.same -/
noncomputable def num_same_c : Code := bodyOf Try.f63
noncomputable def num_same_wr : Norm := { keep := [(4, .asis)], objs := [], c := 0 }
noncomputable def num_same (k : Nat) (a0 : Int) (a1 : Int) : Option (Bool × Unit) := fnK G (num_same_E k) k .z num_same_c 10 [.tmp 4] 0 num_same_wr [] [.int .i64 a0, .int .i64 a1] [] (rd Pt.bool Os.nil)
theorem num_same_eq (k : Nat) (a0 : Int) (a1 : Int) : num_same k a0 a1 = some ((decide (((Go.bits .xor .i64 a0 a1) / 9223372036854775808) = 0)), ()) := by kernel_rfl
noncomputable def num_same_sp (k : Nat) : Spec := mkSp (Ps.cons (Pt.int .i64) (Ps.cons (Pt.int .i64) Ps.nil)) Os.nil Pt.bool Os.nil (fun p o => num_same k p.1 p.2.1) [.asis, .asis] [] 0 (fun _ => true)
theorem num_same_ok (k : Nat) : SpecOk Try.prog 63 (num_same_sp k) := mk_ok (k := k) (h := .z) (W := num_same_wr) G_ok (num_same_EOK k) Try.func63 (c := num_same_c) (by kernel_rfl) (by kernel_rfl) (by kernel_rfl) (by kernel_rfl) (by kernel_rfl) fun _ _ => rfl

noncomputable def num_kept_E (k : Nat) : Table := []
theorem num_kept_EOK (k : Nat) : TabOk Try.prog (num_kept_E k) := .nil
/-- plenum/num.kept -/
noncomputable def num_kept_c : Code := bodyOf Try.f62
noncomputable def num_kept_wr : Norm := { keep := [(4, .asis), (5, .asis)], objs := [], c := 0 }
noncomputable def num_kept (k : Nat) (a0 : Int) (a1 : Bool) : Option ((Int × (Bool × Unit)) × Unit) := fnK G (num_kept_E k) k .z num_kept_c 9 [.tmp 4, .tmp 5] 0 num_kept_wr [] [.int .i64 a0, .bool a1] [] (rd (Pt.tup (Ps.cons (Pt.int .i64) (Ps.cons Pt.bool Ps.nil))) Os.nil)
theorem num_kept_eq (k : Nat) (a0 : Int) (a1 : Bool) : num_kept k a0 a1 = (bif (!a1) then some (((0 : Int), (false, ())), ()) else some ((a0, (true, ())), ())) := by kernel_rfl
noncomputable def num_kept_sp (k : Nat) : Spec := mkSp (Ps.cons (Pt.int .i64) (Ps.cons Pt.bool Ps.nil)) Os.nil (Pt.tup (Ps.cons (Pt.int .i64) (Ps.cons Pt.bool Ps.nil))) Os.nil (fun p o => num_kept k p.1 p.2.1) [.asis, .asis] [] 0 (fun _ => true)
theorem num_kept_ok (k : Nat) : SpecOk Try.prog 62 (num_kept_sp k) := mk_ok (k := k) (h := .z) (W := num_kept_wr) G_ok (num_kept_EOK k) Try.func62 (c := num_kept_c) (by kernel_rfl) (by kernel_rfl) (by kernel_rfl) (by kernel_rfl) (by kernel_rfl) fun _ _ => rfl

noncomputable def num_Add_E (k : Nat) : Table := [(62, num_kept_sp k), (63, num_same_sp k)]
theorem num_Add_EOK (k : Nat) : TabOk Try.prog (num_Add_E k) := .cons (num_kept_ok k) <| .cons (num_same_ok k) <| .nil
/-- plenum/num.Add -/
noncomputable def num_Add_c : Code := bodyOf Try.f32
noncomputable def num_Add_wr : Norm := { keep := [(4, .asis), (5, .asis)], objs := [], c := 0 }
noncomputable def num_Add (k : Nat) (a0 : Int) (a1 : Int) : Option ((Int × (Bool × Unit)) × Unit) := fnK G (num_Add_E k) k .z num_Add_c 23 [.tmp 4, .tmp 5] 0 num_Add_wr [] [.int .i64 a0, .int .i64 a1] [] (rd (Pt.tup (Ps.cons (Pt.int .i64) (Ps.cons Pt.bool Ps.nil))) Os.nil)
theorem num_Add_eq (k : Nat) (a0 : Int) (a1 : Int) : num_Add k a0 a1 = (num_same k a0 a1).bind fun r1 => (bif (!r1.1) then (num_kept k (wr .i64 (a0 + a1)) true).bind fun r2 => some ((r2.1.1, (r2.1.2.1, ())), ()) else (num_same k a0 (wr .i64 (a0 + a1))).bind fun r3 => (num_kept k (wr .i64 (a0 + a1)) r3.1).bind fun r4 => some ((r4.1.1, (r4.1.2.1, ())), ())) := by kernel_rfl
noncomputable def num_Add_sp (k : Nat) : Spec := mkSp (Ps.cons (Pt.int .i64) (Ps.cons (Pt.int .i64) Ps.nil)) Os.nil (Pt.tup (Ps.cons (Pt.int .i64) (Ps.cons Pt.bool Ps.nil))) Os.nil (fun p o => num_Add k p.1 p.2.1) [.asis, .asis] [] 0 (fun _ => true)
theorem num_Add_ok (k : Nat) : SpecOk Try.prog 32 (num_Add_sp k) := mk_ok (k := k) (h := .z) (W := num_Add_wr) G_ok (num_Add_EOK k) Try.func32 (c := num_Add_c) (by kernel_rfl) (by kernel_rfl) (by kernel_rfl) (by kernel_rfl) (by kernel_rfl) fun _ _ => rfl

noncomputable def num_Zig_E (k : Nat) : Table := []
theorem num_Zig_EOK (k : Nat) : TabOk Try.prog (num_Zig_E k) := .nil
/-- plenum/num.Zig -/
noncomputable def num_Zig_c : Code := bodyOf Try.f20
noncomputable def num_Zig_wr : Norm := { keep := [(2, .asis)], objs := [], c := 0 }
noncomputable def num_Zig (k : Nat) (a0 : Int) : Option (Int × Unit) := fnK G (num_Zig_E k) k .z num_Zig_c 10 [.tmp 2] 0 num_Zig_wr [] [.int .i64 a0] [] (rd (Pt.int .u64) Os.nil)
theorem num_Zig_eq (k : Nat) (a0 : Int) : num_Zig k a0 = some ((Go.bits .xor .u64 (wr .u64 ((wr .u64 a0) * 2)) (wr .u64 (a0 / 9223372036854775808))), ()) := by kernel_rfl
noncomputable def num_Zig_sp (k : Nat) : Spec := mkSp (Ps.cons (Pt.int .i64) Ps.nil) Os.nil (Pt.int .u64) Os.nil (fun p o => num_Zig k p.1) [.asis] [] 0 (fun _ => true)
theorem num_Zig_ok (k : Nat) : SpecOk Try.prog 20 (num_Zig_sp k) := mk_ok (k := k) (h := .z) (W := num_Zig_wr) G_ok (num_Zig_EOK k) Try.func20 (c := num_Zig_c) (by kernel_rfl) (by kernel_rfl) (by kernel_rfl) (by kernel_rfl) (by kernel_rfl) fun _ _ => rfl

noncomputable def num_Flip_E (k : Nat) : Table := []
theorem num_Flip_EOK (k : Nat) : TabOk Try.prog (num_Flip_E k) := .nil
/-- plenum/num.Flip -/
noncomputable def num_Flip_c : Code := bodyOf Try.f23
noncomputable def num_Flip_wr : Norm := { keep := [(2, .asis)], objs := [], c := 0 }
noncomputable def num_Flip (k : Nat) (a0 : Int) : Option (Int × Unit) := fnK G (num_Flip_E k) k .z num_Flip_c 6 [.tmp 2] 0 num_Flip_wr [] [.int .i64 a0] [] (rd (Pt.int .u64) Os.nil)
theorem num_Flip_eq (k : Nat) (a0 : Int) : num_Flip k a0 = some ((Go.bits .xor .u64 (wr .u64 a0) 9223372036854775808), ()) := by kernel_rfl
noncomputable def num_Flip_sp (k : Nat) : Spec := mkSp (Ps.cons (Pt.int .i64) Ps.nil) Os.nil (Pt.int .u64) Os.nil (fun p o => num_Flip k p.1) [.asis] [] 0 (fun _ => true)
theorem num_Flip_ok (k : Nat) : SpecOk Try.prog 23 (num_Flip_sp k) := mk_ok (k := k) (h := .z) (W := num_Flip_wr) G_ok (num_Flip_EOK k) Try.func23 (c := num_Flip_c) (by kernel_rfl) (by kernel_rfl) (by kernel_rfl) (by kernel_rfl) (by kernel_rfl) fun _ _ => rfl

noncomputable def law01_awake_E (k : Nat) : Table := [(32, num_Add_sp k), (23, num_Flip_sp k), (20, num_Zig_sp k)]
theorem law01_awake_EOK (k : Nat) : TabOk Try.prog (law01_awake_E k) := .cons (num_Add_ok k) <| .cons (num_Flip_ok k) <| .cons (num_Zig_ok k) <| .nil
/-- plenum/plenumlaw01.awake -/
noncomputable def law01_awake_c : Code := bodyOf Try.f19
noncomputable def law01_awake_wr : Norm := { keep := [(0, .asis)], objs := [], c := 0 }
noncomputable def law01_awake (k : Nat)  : Option (Bool × Unit) := fnK G (law01_awake_E k) k .z law01_awake_c 17 [.tmp 0] 0 law01_awake_wr [] [] [] (rd Pt.bool Os.nil)
theorem law01_awake_eq (k : Nat)  : law01_awake k  = (num_Add k (9223372036854775807 : Int) (1 : Int)).bind fun r5 => (bif (!r5.1.2.1) then (num_Zig k ((-3) : Int)).bind fun r6 => (bif (decide (r6.1 = 5)) then (num_Flip k (0 : Int)).bind fun r7 => some ((decide (r7.1 = 9223372036854775808)), ()) else some (false, ())) else some (false, ())) := by kernel_rfl
noncomputable def law01_awake_sp (k : Nat) : Spec := mkSp Ps.nil Os.nil Pt.bool Os.nil (fun p o => law01_awake k ) [] [] 0 (fun _ => true)
theorem law01_awake_ok (k : Nat) : SpecOk Try.prog 19 (law01_awake_sp k) := mk_ok (k := k) (h := .z) (W := law01_awake_wr) G_ok (law01_awake_EOK k) Try.func19 (c := law01_awake_c) (by kernel_rfl) (by kernel_rfl) (by kernel_rfl) (by kernel_rfl) (by kernel_rfl) fun _ _ => rfl

noncomputable def num_Put_E (k : Nat) : Table := []
theorem num_Put_EOK (k : Nat) : TabOk Try.prog (num_Put_E k) := .nil
/-- plenum/num.Put -/
noncomputable def num_Put_c : Code := bodyOf Try.f36
noncomputable def num_Put_wrrrlrl : Norm := { keep := [(0, .asis), (1, .asis), (5, .asis), (15, .asis), (16, .asis)], objs := [[.asis]], c := 0 }
noncomputable def num_Put_wr : Norm := { keep := [(4, .sh)], objs := [], c := 0 }
noncomputable def num_Put (k : Nat) (a0 : Int) (a1 : Int) : Option ((List Int) × Unit) := fnK G (num_Put_E k) k (.two .z (.two .z (.two .z (.two (.two .z (.lp num_Put_wrrrlrl .z)) .z)))) num_Put_c 32 [.tmp 4] 0 num_Put_wr [] [.int .u64 a0, .int .i64 a1] [] (rd (Pt.sl (.int .u8)) Os.nil)
noncomputable def num_Put_l0 (k n : Nat) (v15 : Int) (v16 : Int) (v17 : Int) (v18 : Int) (v19 : (List Int)) : Option ((List Int) × Unit) := iter (exec G (num_Put_E k) k .z (lft (lft (rgt (lft (rgt (rgt (rgt num_Put_c)))))))) num_Put_wrrrlrl (blkK 0 (seqK (exec G (num_Put_E k) k .z (rgt (rgt (rgt (rgt num_Put_c))))) (retK G [.tmp 4] 0 num_Put_wr (rd (Pt.sl (.int .u8)) Os.nil)))) n (mkS 32 0 [(0, (.int .u64 v15)), (1, (.int .i64 v16)), (5, (.ref (.asl (.int .u8)) 0)), (15, (.int .i64 v17)), (16, (.int .i64 v18))] 0 [] [[.blk (.row (.int .u8) v19)]])
theorem num_Put_l0_zero (k : Nat) (v15 : Int) (v16 : Int) (v17 : Int) (v18 : Int) (v19 : (List Int)) : num_Put_l0 k 0 v15 v16 v17 v18 v19 = none := rfl
theorem num_Put_l0_eq (k n : Nat) (v15 : Int) (v16 : Int) (v17 : Int) (v18 : Int) (v19 : (List Int)) : num_Put_l0 k (n + 1) v15 v16 v17 v18 v19 = (bif (decide (v18 < v17)) then (shrK .u64 v15 (wr .i64 (8 * v18))).bind fun x20 => must (inI (wr .i64 ((wr .i64 (v16 - 1)) - v18)) v19.length) (must (Nat.blt (wr .i64 ((wr .i64 (v16 - 1)) - v18)).toNat v19.length) (num_Put_l0 k n v15 v16 v17 (wr .i64 (v18 + 1)) (v19.set (wr .i64 ((wr .i64 (v16 - 1)) - v18)).toNat (wr .u8 x20)))) else some (v19, ())) := by kernel_rfl
theorem num_Put_eq (k : Nat) (a0 : Int) (a1 : Int) : num_Put k a0 a1 = (bif (decide (a1 < 0)) then some ([], ()) else (bif (decide (8 < a1)) then some ([], ()) else must (decide (0 ≤ a1) && beqI a1 a1) (lim a1.toNat (num_Put_l0 k k a0 a1 a1 (0 : Int) (List.replicate a1.toNat (0 : Int)))))) := by kernel_rfl
noncomputable def num_Put_sp (k : Nat) : Spec := mkSp (Ps.cons (Pt.int .u64) (Ps.cons (Pt.int .i64) Ps.nil)) Os.nil (Pt.sl (.int .u8)) Os.nil (fun p o => num_Put k p.1 p.2.1) [.asis, .asis] [] 0 (fun _ => true)
theorem num_Put_ok (k : Nat) : SpecOk Try.prog 36 (num_Put_sp k) := mk_ok (k := k) (h := (.two .z (.two .z (.two .z (.two (.two .z (.lp num_Put_wrrrlrl .z)) .z))))) (W := num_Put_wr) G_ok (num_Put_EOK k) Try.func36 (c := num_Put_c) (by kernel_rfl) (by kernel_rfl) (by kernel_rfl) (by kernel_rfl) (by kernel_rfl) fun _ _ => rfl

noncomputable def ref01_Put_E (k : Nat) : Table := []
theorem ref01_Put_EOK (k : Nat) : TabOk Try.prog (ref01_Put_E k) := .nil
/-- plenum/plenumref01.Put -/
noncomputable def ref01_Put_c : Code := bodyOf Try.f46
noncomputable def ref01_Put_wrrrlrl : Norm := { keep := [(0, .asis), (1, .asis), (5, .ownN 0), (6, .asis)], objs := [], c := 1 }
noncomputable def ref01_Put_wr : Norm := { keep := [(4, .own 0)], objs := [], c := 1 }
noncomputable def ref01_Put (k : Nat) (a0 : Int) (a1 : Int) : Option ((List Int) × Unit) := fnK G (ref01_Put_E k) k (.two .z (.two .z (.two .z (.two (.two .z (.lp ref01_Put_wrrrlrl .z)) .z)))) ref01_Put_c 27 [.tmp 4] 1 ref01_Put_wr [] [.int .u64 a0, .int .i64 a1] [] (rd (Pt.own 0 (.int .u8)) Os.nil)
noncomputable def ref01_Put_l0 (k n : Nat) (v22 : Int) (v23 : Int) (v24 : Bool) (v25 : (List Int)) (v26 : Int) : Option ((List Int) × Unit) := iter (exec G (ref01_Put_E k) k .z (lft (lft (rgt (lft (rgt (rgt (rgt ref01_Put_c)))))))) ref01_Put_wrrrlrl (blkK 0 (seqK (exec G (ref01_Put_E k) k .z (rgt (rgt (rgt (rgt ref01_Put_c))))) (retK G [.tmp 4] 1 ref01_Put_wr (rd (Pt.own 0 (.int .u8)) Os.nil)))) n (mkS 27 0 [(0, (.int .u64 v22)), (1, (.int .i64 v23)), (5, (.sl (.int .u8) (.own 0) (some v24) v25)), (6, (.int .i64 v26))] 1 [0] [])
theorem ref01_Put_l0_zero (k : Nat) (v22 : Int) (v23 : Int) (v24 : Bool) (v25 : (List Int)) (v26 : Int) : ref01_Put_l0 k 0 v22 v23 v24 v25 v26 = none := rfl
theorem ref01_Put_l0_eq (k n : Nat) (v22 : Int) (v23 : Int) (v24 : Bool) (v25 : (List Int)) (v26 : Int) : ref01_Put_l0 k (n + 1) v22 v23 v24 v25 v26 = (bif (decide (v26 < v23)) then lim ([(wr .u8 (Int.tmod v22 256))].length + v25.length) (ref01_Put_l0 k n (wr .u64 (Int.tdiv v22 256)) v23 false ([(wr .u8 (Int.tmod v22 256))] ++ v25) (wr .i64 (v26 + 1))) else some (v25, ())) := by kernel_rfl
theorem ref01_Put_eq (k : Nat) (a0 : Int) (a1 : Int) : ref01_Put k a0 a1 = (bif (decide (a1 < 0)) then some ([], ()) else (bif (decide (8 < a1)) then some ([], ()) else ref01_Put_l0 k k a0 a1 true [] (0 : Int))) := by kernel_rfl
noncomputable def ref01_Put_sp (k : Nat) : Spec := mkSp (Ps.cons (Pt.int .u64) (Ps.cons (Pt.int .i64) Ps.nil)) Os.nil (Pt.own 0 (.int .u8)) Os.nil (fun p o => ref01_Put k p.1 p.2.1) [.asis, .asis] [] 1 (fun _ => true)
theorem ref01_Put_ok (k : Nat) : SpecOk Try.prog 46 (ref01_Put_sp k) := mk_ok (k := k) (h := (.two .z (.two .z (.two .z (.two (.two .z (.lp ref01_Put_wrrrlrl .z)) .z))))) (W := ref01_Put_wr) G_ok (ref01_Put_EOK k) Try.func46 (c := ref01_Put_c) (by kernel_rfl) (by kernel_rfl) (by kernel_rfl) (by kernel_rfl) (by kernel_rfl) fun _ _ => rfl

noncomputable def num_Of_E (k : Nat) : Table := []
theorem num_Of_EOK (k : Nat) : TabOk Try.prog (num_Of_E k) := .nil
/-- plenum/num.Of -/
noncomputable def num_Of_c : Code := bodyOf Try.f47
noncomputable def num_Of_wrrlrl : Norm := { keep := [(3, .asis), (6, .sh), (7, .asis), (8, .asis)], objs := [], c := 0 }
noncomputable def num_Of_wr : Norm := { keep := [(2, .asis)], objs := [], c := 0 }
noncomputable def num_Of (k : Nat) (a0 : (List Int)) : Option (Int × Unit) := fnK G (num_Of_E k) k (.two .z (.two .z (.two (.two .z (.lp num_Of_wrrlrl .z)) .z))) num_Of_c 19 [.tmp 2] 0 num_Of_wr [] [.sl (.int .u8) .sh none a0] [] (rd (Pt.int .u64) Os.nil)
noncomputable def num_Of_l0 (k n : Nat) (v28 : Int) (v29 : (List Int)) (v30 : Int) (v31 : Int) : Option (Int × Unit) := iter (exec G (num_Of_E k) k .z (lft (lft (rgt (lft (rgt (rgt num_Of_c))))))) num_Of_wrrlrl (blkK 0 (seqK (exec G (num_Of_E k) k .z (rgt (rgt (rgt num_Of_c)))) (retK G [.tmp 2] 0 num_Of_wr (rd (Pt.int .u64) Os.nil)))) n (mkS 19 0 [(3, (.int .u64 v28)), (6, (.sl (.int .u8) .sh none v29)), (7, (.int .i64 v30)), (8, (.int .i64 v31))] 0 [] [])
theorem num_Of_l0_zero (k : Nat) (v28 : Int) (v29 : (List Int)) (v30 : Int) (v31 : Int) : num_Of_l0 k 0 v28 v29 v30 v31 = none := rfl
theorem num_Of_l0_eq (k n : Nat) (v28 : Int) (v29 : (List Int)) (v30 : Int) (v31 : Int) : num_Of_l0 k (n + 1) v28 v29 v30 v31 = (bif (decide (v31 < v30)) then (nth v29 v31).bind fun x32 => num_Of_l0 k n (Go.bits .or .u64 (wr .u64 (v28 * 256)) (wr .u64 x32)) v29 v30 (wr .i64 (v31 + 1)) else some (v28, ())) := by kernel_rfl
theorem num_Of_eq (k : Nat) (a0 : (List Int)) : num_Of k a0 = num_Of_l0 k k (0 : Int) a0 (a0.length : Int) (0 : Int) := by kernel_rfl
noncomputable def num_Of_sp (k : Nat) : Spec := mkSp (Ps.cons (Pt.sl (.int .u8)) Ps.nil) Os.nil (Pt.int .u64) Os.nil (fun p o => num_Of k p.1) [.sh] [] 0 (fun _ => true)
theorem num_Of_ok (k : Nat) : SpecOk Try.prog 47 (num_Of_sp k) := mk_ok (k := k) (h := (.two .z (.two .z (.two (.two .z (.lp num_Of_wrrlrl .z)) .z)))) (W := num_Of_wr) G_ok (num_Of_EOK k) Try.func47 (c := num_Of_c) (by kernel_rfl) (by kernel_rfl) (by kernel_rfl) (by kernel_rfl) (by kernel_rfl) fun _ _ => rfl

noncomputable def ref01_Of_E (k : Nat) : Table := []
theorem ref01_Of_EOK (k : Nat) : TabOk Try.prog (ref01_Of_E k) := .nil
/-- plenum/plenumref01.Of -/
noncomputable def ref01_Of_c : Code := bodyOf Try.f48
noncomputable def ref01_Of_wrrlrl : Norm := { keep := [(3, .asis), (6, .sh), (7, .asis), (8, .asis)], objs := [], c := 0 }
noncomputable def ref01_Of_wr : Norm := { keep := [(2, .asis)], objs := [], c := 0 }
noncomputable def ref01_Of (k : Nat) (a0 : (List Int)) : Option (Int × Unit) := fnK G (ref01_Of_E k) k (.two .z (.two .z (.two (.two .z (.lp ref01_Of_wrrlrl .z)) .z))) ref01_Of_c 19 [.tmp 2] 0 ref01_Of_wr [] [.sl (.int .u8) .sh none a0] [] (rd (Pt.int .u64) Os.nil)
noncomputable def ref01_Of_l0 (k n : Nat) (v34 : Int) (v35 : (List Int)) (v36 : Int) (v37 : Int) : Option (Int × Unit) := iter (exec G (ref01_Of_E k) k .z (lft (lft (rgt (lft (rgt (rgt ref01_Of_c))))))) ref01_Of_wrrlrl (blkK 0 (seqK (exec G (ref01_Of_E k) k .z (rgt (rgt (rgt ref01_Of_c)))) (retK G [.tmp 2] 0 ref01_Of_wr (rd (Pt.int .u64) Os.nil)))) n (mkS 19 0 [(3, (.int .u64 v34)), (6, (.sl (.int .u8) .sh none v35)), (7, (.int .i64 v36)), (8, (.int .i64 v37))] 0 [] [])
theorem ref01_Of_l0_zero (k : Nat) (v34 : Int) (v35 : (List Int)) (v36 : Int) (v37 : Int) : ref01_Of_l0 k 0 v34 v35 v36 v37 = none := rfl
theorem ref01_Of_l0_eq (k n : Nat) (v34 : Int) (v35 : (List Int)) (v36 : Int) (v37 : Int) : ref01_Of_l0 k (n + 1) v34 v35 v36 v37 = (bif (decide (v37 < v36)) then (nth v35 v37).bind fun x38 => ref01_Of_l0 k n (wr .u64 ((wr .u64 (v34 * 256)) + (wr .u64 x38))) v35 v36 (wr .i64 (v37 + 1)) else some (v34, ())) := by kernel_rfl
theorem ref01_Of_eq (k : Nat) (a0 : (List Int)) : ref01_Of k a0 = ref01_Of_l0 k k (0 : Int) a0 (a0.length : Int) (0 : Int) := by kernel_rfl
noncomputable def ref01_Of_sp (k : Nat) : Spec := mkSp (Ps.cons (Pt.sl (.int .u8)) Ps.nil) Os.nil (Pt.int .u64) Os.nil (fun p o => ref01_Of k p.1) [.sh] [] 0 (fun _ => true)
theorem ref01_Of_ok (k : Nat) : SpecOk Try.prog 48 (ref01_Of_sp k) := mk_ok (k := k) (h := (.two .z (.two .z (.two (.two .z (.lp ref01_Of_wrrlrl .z)) .z)))) (W := ref01_Of_wr) G_ok (ref01_Of_EOK k) Try.func48 (c := ref01_Of_c) (by kernel_rfl) (by kernel_rfl) (by kernel_rfl) (by kernel_rfl) (by kernel_rfl) fun _ _ => rfl

noncomputable def num_Fits_E (k : Nat) : Table := []
theorem num_Fits_EOK (k : Nat) : TabOk Try.prog (num_Fits_E k) := .nil
/-- plenum/num.Fits -/
noncomputable def num_Fits_c : Code := bodyOf Try.f49
noncomputable def num_Fits_wr : Norm := { keep := [(4, .asis)], objs := [], c := 0 }
noncomputable def num_Fits (k : Nat) (a0 : Int) (a1 : Int) : Option (Bool × Unit) := fnK G (num_Fits_E k) k .z num_Fits_c 22 [.tmp 4] 0 num_Fits_wr [] [.int .i64 a0, .int .i64 a1] [] (rd Pt.bool Os.nil)
theorem num_Fits_eq (k : Nat) (a0 : Int) (a1 : Int) : num_Fits k a0 a1 = (bif (decide (a1 < 1)) then some (false, ()) else (bif (decide (64 < a1)) then some (false, ()) else (shrK .i64 a0 (wr .i64 (a1 - 1))).bind fun x42 => (bif (decide (x42 = 0)) then some (true, ()) else some ((decide (x42 = (-1))), ())))) := by kernel_rfl
noncomputable def num_Fits_sp (k : Nat) : Spec := mkSp (Ps.cons (Pt.int .i64) (Ps.cons (Pt.int .i64) Ps.nil)) Os.nil Pt.bool Os.nil (fun p o => num_Fits k p.1 p.2.1) [.asis, .asis] [] 0 (fun _ => true)
theorem num_Fits_ok (k : Nat) : SpecOk Try.prog 49 (num_Fits_sp k) := mk_ok (k := k) (h := .z) (W := num_Fits_wr) G_ok (num_Fits_EOK k) Try.func49 (c := num_Fits_c) (by kernel_rfl) (by kernel_rfl) (by kernel_rfl) (by kernel_rfl) (by kernel_rfl) fun _ _ => rfl

noncomputable def ref01_Fits_E (k : Nat) : Table := []
theorem ref01_Fits_EOK (k : Nat) : TabOk Try.prog (ref01_Fits_E k) := .nil
/-- plenum/plenumref01.Fits -/
noncomputable def ref01_Fits_c : Code := bodyOf Try.f50
noncomputable def ref01_Fits_wr : Norm := { keep := [(4, .asis)], objs := [], c := 0 }
noncomputable def ref01_Fits (k : Nat) (a0 : Int) (a1 : Int) : Option (Bool × Unit) := fnK G (ref01_Fits_E k) k .z ref01_Fits_c 28 [.tmp 4] 0 ref01_Fits_wr [] [.int .i64 a0, .int .i64 a1] [] (rd Pt.bool Os.nil)
theorem ref01_Fits_eq (k : Nat) (a0 : Int) (a1 : Int) : ref01_Fits k a0 a1 = (bif (decide (a1 < 1)) then some (false, ()) else (bif (decide (64 < a1)) then some (false, ()) else (bif (decide (a1 = 64)) then some (true, ()) else (shlK .i64 1 (wr .u64 (wr .i64 (a1 - 1)))).bind fun x44 => (bif (decide ((wr .i64 (0 - x44)) ≤ a0)) then some ((decide (a0 ≤ (wr .i64 (x44 - 1)))), ()) else some (false, ()))))) := by kernel_rfl
noncomputable def ref01_Fits_sp (k : Nat) : Spec := mkSp (Ps.cons (Pt.int .i64) (Ps.cons (Pt.int .i64) Ps.nil)) Os.nil Pt.bool Os.nil (fun p o => ref01_Fits k p.1 p.2.1) [.asis, .asis] [] 0 (fun _ => true)
theorem ref01_Fits_ok (k : Nat) : SpecOk Try.prog 50 (ref01_Fits_sp k) := mk_ok (k := k) (h := .z) (W := ref01_Fits_wr) G_ok (ref01_Fits_EOK k) Try.func50 (c := ref01_Fits_c) (by kernel_rfl) (by kernel_rfl) (by kernel_rfl) (by kernel_rfl) (by kernel_rfl) fun _ _ => rfl

noncomputable def law01_NumBytes_E (k : Nat) : Table := [(19, law01_awake_sp k), (49, num_Fits_sp k), (47, num_Of_sp k), (36, num_Put_sp k), (50, ref01_Fits_sp k), (48, ref01_Of_sp k), (46, ref01_Put_sp k)]
theorem law01_NumBytes_EOK (k : Nat) : TabOk Try.prog (law01_NumBytes_E k) := .cons (law01_awake_ok k) <| .cons (num_Fits_ok k) <| .cons (num_Of_ok k) <| .cons (num_Put_ok k) <| .cons (ref01_Fits_ok k) <| .cons (ref01_Of_ok k) <| .cons (ref01_Put_ok k) <| .nil
/-- plenum/plenumlaw01.NumBytes -/
noncomputable def law01_NumBytes_c : Code := bodyOf Try.f12
noncomputable def law01_NumBytes_wr : Norm := { keep := [(10, .asis)], objs := [], c := 0 }
noncomputable def law01_NumBytes (k : Nat) (a0 : Int) (a1 : Int) (a2 : (List Int)) (a3 : Int) (a4 : Int) : Option (Bool × Unit) := fnK G (law01_NumBytes_E k) k .z law01_NumBytes_c 48 [.tmp 10] 0 law01_NumBytes_wr [] [.int .u64 a0, .int .i64 a1, .sl (.int .u8) .sh none a2, .int .i64 a3, .int .i64 a4] [] (rd Pt.bool Os.nil)
theorem law01_NumBytes_eq (k : Nat) (a0 : Int) (a1 : Int) (a2 : (List Int)) (a3 : Int) (a4 : Int) : law01_NumBytes k a0 a1 a2 a3 a4 = (law01_awake k).bind fun r8 => (bif (!r8.1) then some (false, ()) else (bif (decide (100 < (a2.length : Int))) then some (true, ()) else (num_Put k a0 a1).bind fun r21 => (ref01_Put k a0 a1).bind fun r27 => (bif (beqL r21.1 r27.1) then (num_Of k a2).bind fun r33 => (ref01_Of k a2).bind fun r39 => (bif (decide (r33.1 = r39.1)) then (num_Put k a0 (8 : Int)).bind fun r40 => (num_Of k r40.1).bind fun r41 => (bif (decide (r41.1 = a0)) then (num_Fits k a3 a4).bind fun r43 => (ref01_Fits k a3 a4).bind fun r45 => some ((beqB r43.1 r45.1), ()) else some (false, ())) else some (false, ())) else some (false, ())))) := by kernel_rfl
noncomputable def law01_NumBytes_sp (k : Nat) : Spec := mkSp (Ps.cons (Pt.int .u64) (Ps.cons (Pt.int .i64) (Ps.cons (Pt.sl (.int .u8)) (Ps.cons (Pt.int .i64) (Ps.cons (Pt.int .i64) Ps.nil))))) Os.nil Pt.bool Os.nil (fun p o => law01_NumBytes k p.1 p.2.1 p.2.2.1 p.2.2.2.1 p.2.2.2.2.1) [.asis, .asis, .sh, .asis, .asis] [] 0 (fun _ => true)
theorem law01_NumBytes_ok (k : Nat) : SpecOk Try.prog 12 (law01_NumBytes_sp k) := mk_ok (k := k) (h := .z) (W := law01_NumBytes_wr) G_ok (law01_NumBytes_EOK k) Try.func12 (c := law01_NumBytes_c) (by kernel_rfl) (by kernel_rfl) (by kernel_rfl) (by kernel_rfl) (by kernel_rfl) fun _ _ => rfl

end Go.Proofs.Ytnojkokhfmgcfaa.Den
