import Derived.Test.YtjongebmeoimoaaDen30
import Derived.Test.YtjongebmeoimoaaProg
import Derived.KernelRfl
namespace Go.Proofs.Ytjongebmeoimoaa.Den
open Go
set_option maxRecDepth 100000
noncomputable def G : Env := tabEnv [(2, (.int .i64)), (3, (.int .i64)), (4, .bool), (5, (.int .u8)), (9, .str), (22, (.sl (.int .u8))), (39, (.int .u64)), (41, (.st (.pair (.int .i64) (.pair (.int .i64) (.pair .str .unit))))), (49, (.int .i64)), (69, (.st (.pair (.sl (.int .u8)) (.pair .bool .unit)))), (80, (.st (.pair (.sl (.int .u8)) .unit))), (92, (.sl (.int .u64))), (93, (.int .u64))] [2, 3, 4, 9, 22] [34, 63] [(41, 0, 0), (41, 1, 1), (41, 2, 2), (69, 0, 0), (69, 1, 1), (80, 0, 0)]
theorem G_ok : EnvOk Try.prog G := env_ok (by kernel_rfl)
noncomputable def row_Writer_N_E (k : Nat) : Table := []
theorem row_Writer_N_EOK (k : Nat) : TabOk Try.prog (row_Writer_N_E k) := .nil
/-- (*plenum/row.Writer).N -/
noncomputable def row_Writer_N_c : Code := bodyOf Try.f47
noncomputable def row_Writer_N_wrrl : Norm := { keep := [(0, .asis), (9, .sh), (10, .asis), (11, .asis)], objs := [[.own 0]], c := 1 }
noncomputable def row_Writer_N_wrrllrrllrrll : Norm := { keep := [(0, .asis), (5, .asis), (6, .asis), (9, .sh), (10, .asis), (11, .asis)], objs := [[.own 0]], c := 1 }
noncomputable def row_Writer_N_wrrllrrllrrrll : Norm := { keep := [(0, .asis), (5, .asis), (6, .asis), (9, .sh), (10, .asis), (11, .asis)], objs := [[.own 0]], c := 1 }
noncomputable def row_Writer_N_wr : Norm := { keep := [], objs := [[.own 0]], c := 1 }
noncomputable def row_Writer_N (k : Nat) (a0 : (List Int)) (a1 : (List Int)) : Option (Unit × (((List Int) × Unit) × Unit)) := fnK G (row_Writer_N_E k) k (.two .z (.two .z (.lp row_Writer_N_wrrl (.two .z (.two .z (.two (.two .z (.two .z (.two (.lp row_Writer_N_wrrllrrllrrll .z) (.two (.lp row_Writer_N_wrrllrrllrrrll .z) .z)))) .z)))))) row_Writer_N_c 52 [] 1 row_Writer_N_wr [0] [.ptr 0 0, .sl (.int .u64) .sh none a0] [[.sl (.int .u8) (.own 0) none a1]] (rd (Pt.tup Ps.nil) (Os.cons (Ps.cons (Pt.own 0 (.int .u8)) Ps.nil) Os.nil))
noncomputable def row_Writer_N_l0 (k n : Nat) (v1 : (List Int)) (v2 : Int) (v3 : Int) (v4 : (List Int)) : Option (Unit × (((List Int) × Unit) × Unit)) := iter (exec G (row_Writer_N_E k) k (.two .z (.two .z (.two (.two .z (.two .z (.two (.lp row_Writer_N_wrrllrrllrrll .z) (.two (.lp row_Writer_N_wrrllrrllrrrll .z) .z)))) .z))) (lft (lft (rgt (rgt row_Writer_N_c))))) row_Writer_N_wrrl (blkK 0 (retK G [] 1 row_Writer_N_wr (rd (Pt.tup Ps.nil) (Os.cons (Ps.cons (Pt.own 0 (.int .u8)) Ps.nil) Os.nil)))) n (mkS 52 1 [(0, (.ptr 0 0)), (9, (.sl (.int .u64) .sh none v1)), (10, (.int .i64 v2)), (11, (.int .i64 v3))] 1 [0] [[(.sl (.int .u8) (.own 0) none v4)]])
noncomputable def row_Writer_N_l1 (k n n1 : Nat) (v6 : Int) (v7 : Int) (v8 : (List Int)) (v9 : Int) (v10 : Int) (v11 : (List Int)) : Option (Unit × (((List Int) × Unit) × Unit)) := iter (exec G (row_Writer_N_E k) k .z (lft (lft (lft (rgt (rgt (lft (lft (rgt (rgt (lft (lft (rgt (rgt row_Writer_N_c)))))))))))))) row_Writer_N_wrrllrrllrrll (blkK 2 (seqK (exec G (row_Writer_N_E k) k (.two (.lp row_Writer_N_wrrllrrllrrrll .z) .z) (rgt (rgt (rgt (lft (lft (rgt (rgt (lft (lft (rgt (rgt row_Writer_N_c)))))))))))) (blkK 1 (seqK (exec G (row_Writer_N_E k) k .z (rgt (rgt (rgt (lft (lft (rgt (rgt row_Writer_N_c)))))))) (backK (iter (exec G (row_Writer_N_E k) k (.two .z (.two .z (.two (.two .z (.two .z (.two (.lp row_Writer_N_wrrllrrllrrll .z) (.two (.lp row_Writer_N_wrrllrrllrrrll .z) .z)))) .z))) (lft (lft (rgt (rgt row_Writer_N_c))))) row_Writer_N_wrrl (blkK 0 (retK G [] 1 row_Writer_N_wr (rd (Pt.tup Ps.nil) (Os.cons (Ps.cons (Pt.own 0 (.int .u8)) Ps.nil) Os.nil)))) n) row_Writer_N_wrrl (blkK 0 (retK G [] 1 row_Writer_N_wr (rd (Pt.tup Ps.nil) (Os.cons (Ps.cons (Pt.own 0 (.int .u8)) Ps.nil) Os.nil))))))))) n1 (mkS 52 1 [(0, (.ptr 0 0)), (5, (.int .u64 v6)), (6, (.int .i64 v7)), (9, (.sl (.int .u64) .sh none v8)), (10, (.int .i64 v9)), (11, (.int .i64 v10))] 1 [0] [[(.sl (.int .u8) (.own 0) none v11)]])
noncomputable def row_Writer_N_l2 (k n n1 : Nat) (v13 : Int) (v14 : Int) (v15 : (List Int)) (v16 : Int) (v17 : Int) (v18 : (List Int)) : Option (Unit × (((List Int) × Unit) × Unit)) := iter (exec G (row_Writer_N_E k) k .z (lft (lft (lft (rgt (rgt (rgt (lft (lft (rgt (rgt (lft (lft (rgt (rgt row_Writer_N_c))))))))))))))) row_Writer_N_wrrllrrllrrrll (blkK 4 (seqK (exec G (row_Writer_N_E k) k .z (rgt (rgt (rgt (rgt (lft (lft (rgt (rgt (lft (lft (rgt (rgt row_Writer_N_c))))))))))))) (blkK 1 (seqK (exec G (row_Writer_N_E k) k .z (rgt (rgt (rgt (lft (lft (rgt (rgt row_Writer_N_c)))))))) (backK (iter (exec G (row_Writer_N_E k) k (.two .z (.two .z (.two (.two .z (.two .z (.two (.lp row_Writer_N_wrrllrrllrrll .z) (.two (.lp row_Writer_N_wrrllrrllrrrll .z) .z)))) .z))) (lft (lft (rgt (rgt row_Writer_N_c))))) row_Writer_N_wrrl (blkK 0 (retK G [] 1 row_Writer_N_wr (rd (Pt.tup Ps.nil) (Os.cons (Ps.cons (Pt.own 0 (.int .u8)) Ps.nil) Os.nil)))) n) row_Writer_N_wrrl (blkK 0 (retK G [] 1 row_Writer_N_wr (rd (Pt.tup Ps.nil) (Os.cons (Ps.cons (Pt.own 0 (.int .u8)) Ps.nil) Os.nil))))))))) n1 (mkS 52 1 [(0, (.ptr 0 0)), (5, (.int .u64 v13)), (6, (.int .i64 v14)), (9, (.sl (.int .u64) .sh none v15)), (10, (.int .i64 v16)), (11, (.int .i64 v17))] 1 [0] [[(.sl (.int .u8) (.own 0) none v18)]])
theorem row_Writer_N_l0_zero (k : Nat) (v1 : (List Int)) (v2 : Int) (v3 : Int) (v4 : (List Int)) : row_Writer_N_l0 k 0 v1 v2 v3 v4 = none := rfl
theorem row_Writer_N_l0_eq (k n : Nat) (v1 : (List Int)) (v2 : Int) (v3 : Int) (v4 : (List Int)) : row_Writer_N_l0 k (n + 1) v1 v2 v3 v4 = (bif (decide (v3 < v2)) then (nth v1 v3).bind fun x5 => row_Writer_N_l1 k n k x5 (0 : Int) v1 v2 v3 v4 else some ((), ((v4, ()), ()))) := by kernel_rfl
theorem row_Writer_N_l1_zero (k n : Nat) (v6 : Int) (v7 : Int) (v8 : (List Int)) (v9 : Int) (v10 : Int) (v11 : (List Int)) : row_Writer_N_l1 k n 0 v6 v7 v8 v9 v10 v11 = none := rfl
theorem row_Writer_N_l1_eq (k n n1 : Nat) (v6 : Int) (v7 : Int) (v8 : (List Int)) (v9 : Int) (v10 : Int) (v11 : (List Int)) : row_Writer_N_l1 k n (n1 + 1) v6 v7 v8 v9 v10 v11 = (shrK .u64 v6 v7).bind fun x12 => (bif (decide (128 ≤ x12)) then row_Writer_N_l1 k n n1 v6 (wr .i64 (v7 + 7)) v8 v9 v10 v11 else row_Writer_N_l2 k n k v6 v7 v8 v9 v10 v11) := by kernel_rfl
theorem row_Writer_N_l2_zero (k n : Nat) (v13 : Int) (v14 : Int) (v15 : (List Int)) (v16 : Int) (v17 : Int) (v18 : (List Int)) : row_Writer_N_l2 k n 0 v13 v14 v15 v16 v17 v18 = none := rfl
theorem row_Writer_N_l2_eq (k n n1 : Nat) (v13 : Int) (v14 : Int) (v15 : (List Int)) (v16 : Int) (v17 : Int) (v18 : (List Int)) : row_Writer_N_l2 k n (n1 + 1) v13 v14 v15 v16 v17 v18 = (bif (decide (0 < v14)) then (shrK .u64 v13 v14).bind fun x19 => lim (v18.length + [(Go.bits .or .u8 (wr .u8 x19) 128)].length) (row_Writer_N_l2 k n n1 v13 (wr .i64 (v14 - 7)) v15 v16 v17 (v18 ++ [(Go.bits .or .u8 (wr .u8 x19) 128)])) else lim (v18.length + [(Go.bits .andNot .u8 (wr .u8 v13) 128)].length) (row_Writer_N_l0 k n v15 v16 (wr .i64 (v17 + 1)) (v18 ++ [(Go.bits .andNot .u8 (wr .u8 v13) 128)]))) := by kernel_rfl
theorem row_Writer_N_eq (k : Nat) (a0 : (List Int)) (a1 : (List Int)) : row_Writer_N k a0 a1 = row_Writer_N_l0 k k a0 (a0.length : Int) (0 : Int) a1 := by kernel_rfl
noncomputable def row_Writer_N_sp (k : Nat) : Spec := mkSp (Ps.cons (Pt.ptr 0 0) (Ps.cons (Pt.sl (.int .u64)) Ps.nil)) (Os.cons (Ps.cons (Pt.own 0 (.int .u8)) Ps.nil) Os.nil) (Pt.tup Ps.nil) (Os.cons (Ps.cons (Pt.own 0 (.int .u8)) Ps.nil) Os.nil) (fun p o => row_Writer_N k p.2.1 o.1.1) [.asis, .sh] [[.own 0]] 1 (fun xs => !isNilA 0 xs)
theorem row_Writer_N_ok (k : Nat) : SpecOk Try.prog 47 (row_Writer_N_sp k) := mk_ok (k := k) (h := (.two .z (.two .z (.lp row_Writer_N_wrrl (.two .z (.two .z (.two (.two .z (.two .z (.two (.lp row_Writer_N_wrrllrrllrrll .z) (.two (.lp row_Writer_N_wrrllrrllrrrll .z) .z)))) .z))))))) (W := row_Writer_N_wr) G_ok (row_Writer_N_EOK k) Try.func47 (c := row_Writer_N_c) (by kernel_rfl) (by kernel_rfl) (by kernel_rfl) (by kernel_rfl) (by kernel_rfl) fun _ _ => rfl

noncomputable def row_Writer_Bytes_E (k : Nat) : Table := []
theorem row_Writer_Bytes_EOK (k : Nat) : TabOk Try.prog (row_Writer_Bytes_E k) := .nil
/-- (*plenum/row.Writer).Bytes -/
noncomputable def row_Writer_Bytes_c : Code := bodyOf Try.f51
noncomputable def row_Writer_Bytes_wr : Norm := { keep := [(2, .own 0)], objs := [[.own 1]], c := 2 }
noncomputable def row_Writer_Bytes (k : Nat) (a0 : (List Int)) : Option ((List Int) × (((List Int) × Unit) × Unit)) := fnK G (row_Writer_Bytes_E k) k .z row_Writer_Bytes_c 10 [.tmp 2] 2 row_Writer_Bytes_wr [0] [.ptr 0 0] [[.sl (.int .u8) (.own 0) none a0]] (rd (Pt.own 0 (.int .u8)) (Os.cons (Ps.cons (Pt.own 1 (.int .u8)) Ps.nil) Os.nil))
theorem row_Writer_Bytes_eq (k : Nat) (a0 : (List Int)) : row_Writer_Bytes k a0 = lim (0 + a0.length) (some (([] ++ a0), ((a0, ()), ()))) := by kernel_rfl
noncomputable def row_Writer_Bytes_sp (k : Nat) : Spec := mkSp (Ps.cons (Pt.ptr 0 0) Ps.nil) (Os.cons (Ps.cons (Pt.own 0 (.int .u8)) Ps.nil) Os.nil) (Pt.own 0 (.int .u8)) (Os.cons (Ps.cons (Pt.own 1 (.int .u8)) Ps.nil) Os.nil) (fun p o => row_Writer_Bytes k o.1.1) [.asis] [[.own 0]] 2 (fun xs => !isNilA 0 xs)
theorem row_Writer_Bytes_ok (k : Nat) : SpecOk Try.prog 51 (row_Writer_Bytes_sp k) := mk_ok (k := k) (h := .z) (W := row_Writer_Bytes_wr) G_ok (row_Writer_Bytes_EOK k) Try.func51 (c := row_Writer_Bytes_c) (by kernel_rfl) (by kernel_rfl) (by kernel_rfl) (by kernel_rfl) (by kernel_rfl) fun _ _ => rfl

noncomputable def row_Read_E (k : Nat) : Table := []
theorem row_Read_EOK (k : Nat) : TabOk Try.prog (row_Read_E k) := .nil
noncomputable def row_Read_G : Env := rowEnv G [(5, 3)]
/-- plenum/row.Read -/
noncomputable def row_Read_c : Code := bodyOf Try.f25
noncomputable def row_Read_wr : Norm := { keep := [(2, .asis)], objs := [[.sh, .asis]], c := 0 }
noncomputable def row_Read (k : Nat) (a0 : (List Int)) : Option (Unit × (((List Int) × (Bool × Unit)) × Unit)) := fnK row_Read_G (row_Read_E k) k .z row_Read_c 7 [.tmp 2] 0 row_Read_wr [] [.sl (.int .u8) .sh none a0] [] (rd (Pt.ptr 0 0) (Os.cons (Ps.cons (Pt.sl (.int .u8)) (Ps.cons Pt.bool Ps.nil)) Os.nil))
theorem row_Read_eq (k : Nat) (a0 : (List Int)) : row_Read k a0 = lim (0 + a0.length) (some ((), ((([] ++ a0), (true, ())), ()))) := by kernel_rfl
noncomputable def row_Read_sp (k : Nat) : Spec := mkSp (Ps.cons (Pt.sl (.int .u8)) Ps.nil) Os.nil (Pt.ptr 0 0) (Os.cons (Ps.cons (Pt.sl (.int .u8)) (Ps.cons Pt.bool Ps.nil)) Os.nil) (fun p o => row_Read k p.1) [.sh] [] 0 (fun _ => true)
theorem row_Read_ok (k : Nat) : SpecOk Try.prog 25 (row_Read_sp k) := mk_ok (k := k) (h := .z) (W := row_Read_wr) (G_ok.rows _) (row_Read_EOK k) Try.func25 (c := row_Read_c) (by kernel_rfl) (by kernel_rfl) (by kernel_rfl) (by kernel_rfl) (by kernel_rfl) fun _ _ => rfl

noncomputable def row_Reader_ok_E (k : Nat) : Table := []
theorem row_Reader_ok_EOK (k : Nat) : TabOk Try.prog (row_Reader_ok_E k) := .nil
/-- (*plenum/row.Reader).ok -/
noncomputable def row_Reader_ok_c : Code := bodyOf Try.f64
noncomputable def row_Reader_ok_wr : Norm := { keep := [(2, .asis)], objs := [[.sh, .asis]], c := 0 }
noncomputable def row_Reader_ok (k : Nat) (a0 : (List Int)) (a1 : Bool) : Option (Bool × (((List Int) × (Bool × Unit)) × Unit)) := fnK G (row_Reader_ok_E k) k .z row_Reader_ok_c 11 [.tmp 2] 0 row_Reader_ok_wr [] [.ptr 0 0] [[.sl (.int .u8) .sh none a0, .bool a1]] (rd Pt.bool (Os.cons (Ps.cons (Pt.sl (.int .u8)) (Ps.cons Pt.bool Ps.nil)) Os.nil))
theorem row_Reader_ok_eq (k : Nat) (a0 : (List Int)) (a1 : Bool) : row_Reader_ok k a0 a1 = some (a1, ((a0, (a1, ())), ())) := by kernel_rfl
noncomputable def row_Reader_ok_sp (k : Nat) : Spec := mkSp (Ps.cons (Pt.ptr 0 0) Ps.nil) (Os.cons (Ps.cons (Pt.sl (.int .u8)) (Ps.cons Pt.bool Ps.nil)) Os.nil) Pt.bool (Os.cons (Ps.cons (Pt.sl (.int .u8)) (Ps.cons Pt.bool Ps.nil)) Os.nil) (fun p o => row_Reader_ok k o.1.1 o.1.2.1) [.asis] [[.sh, .asis]] 0 (fun xs => !isNilA 0 xs)
theorem row_Reader_ok_ok (k : Nat) : SpecOk Try.prog 64 (row_Reader_ok_sp k) := mk_ok (k := k) (h := .z) (W := row_Reader_ok_wr) G_ok (row_Reader_ok_EOK k) Try.func64 (c := row_Reader_ok_c) (by kernel_rfl) (by kernel_rfl) (by kernel_rfl) (by kernel_rfl) (by kernel_rfl) fun _ _ => rfl

noncomputable def row_number_E (k : Nat) : Table := []
theorem row_number_EOK (k : Nat) : TabOk Try.prog (row_number_E k) := .nil
/-- plenum/row.number -/
noncomputable def row_number_c : Code := bodyOf Try.f65
noncomputable def row_number_wrlrrlrl : Norm := { keep := [(4, .asis), (7, .sh), (8, .asis), (9, .asis)], objs := [], c := 0 }
noncomputable def row_number_wr : Norm := { keep := [(2, .asis), (3, .asis)], objs := [], c := 0 }
noncomputable def row_number (k : Nat) (a0 : (List Int)) : Option ((Int × (Int × Unit)) × Unit) := fnK G (row_number_E k) k (.two .z (.two .z (.two .z (.two (.two .z (.lp row_number_wrlrrlrl .z)) .z)))) row_number_c 41 [.tmp 2, .tmp 3] 0 row_number_wr [] [.sl (.int .u8) .sh none a0] [] (rd (Pt.tup (Ps.cons (Pt.int .u64) (Ps.cons (Pt.int .i64) Ps.nil))) Os.nil)
noncomputable def row_number_l0 (k n : Nat) (v26 : Int) (v27 : (List Int)) (v28 : Int) (v29 : Int) : Option ((Int × (Int × Unit)) × Unit) := iter (exec G (row_number_E k) k .z (lft (lft (rgt (lft (rgt (rgt (lft (rgt row_number_c))))))))) row_number_wrlrrlrl (blkK 0 (seqK (exec G (row_number_E k) k .z (rgt (rgt (rgt (lft (rgt row_number_c)))))) (scopeK (retK G [.tmp 2, .tmp 3] 0 row_number_wr (rd (Pt.tup (Ps.cons (Pt.int .u64) (Ps.cons (Pt.int .i64) Ps.nil))) Os.nil))))) n (mkS 41 0 [(4, (.int .u64 v26)), (7, (.sl (.int .u8) .sh none v27)), (8, (.int .i64 v28)), (9, (.int .i64 v29))] 0 [] [])
theorem row_number_l0_zero (k : Nat) (v26 : Int) (v27 : (List Int)) (v28 : Int) (v29 : Int) : row_number_l0 k 0 v26 v27 v28 v29 = none := rfl
theorem row_number_l0_eq (k n : Nat) (v26 : Int) (v27 : (List Int)) (v28 : Int) (v29 : Int) : row_number_l0 k (n + 1) v26 v27 v28 v29 = (bif (decide (v29 < v28)) then (nth v27 v29).bind fun x30 => (bif (decide (v29 = 10)) then some (((0 : Int), ((0 : Int), ())), ()) else (bif (decide (v29 = 0)) then (bif (decide (x30 = 128)) then some (((0 : Int), ((0 : Int), ())), ()) else (bif (!decide ((v26 / 144115188075855872) = 0)) then some (((0 : Int), ((0 : Int), ())), ()) else (bif (decide (x30 < 128)) then some (((Go.bits .or .u64 (wr .u64 (v26 * 128)) (wr .u64 (Go.bits .andNot .u8 x30 128))), ((wr .i64 (v29 + 1)), ())), ()) else row_number_l0 k n (Go.bits .or .u64 (wr .u64 (v26 * 128)) (wr .u64 (Go.bits .andNot .u8 x30 128))) v27 v28 (wr .i64 (v29 + 1))))) else (bif (!decide ((v26 / 144115188075855872) = 0)) then some (((0 : Int), ((0 : Int), ())), ()) else (bif (decide (x30 < 128)) then some (((Go.bits .or .u64 (wr .u64 (v26 * 128)) (wr .u64 (Go.bits .andNot .u8 x30 128))), ((wr .i64 (v29 + 1)), ())), ()) else row_number_l0 k n (Go.bits .or .u64 (wr .u64 (v26 * 128)) (wr .u64 (Go.bits .andNot .u8 x30 128))) v27 v28 (wr .i64 (v29 + 1)))))) else some (((0 : Int), ((0 : Int), ())), ())) := by kernel_rfl
theorem row_number_eq (k : Nat) (a0 : (List Int)) : row_number k a0 = row_number_l0 k k (0 : Int) a0 (a0.length : Int) (0 : Int) := by kernel_rfl
noncomputable def row_number_sp (k : Nat) : Spec := mkSp (Ps.cons (Pt.sl (.int .u8)) Ps.nil) Os.nil (Pt.tup (Ps.cons (Pt.int .u64) (Ps.cons (Pt.int .i64) Ps.nil))) Os.nil (fun p o => row_number k p.1) [.sh] [] 0 (fun _ => true)
theorem row_number_ok (k : Nat) : SpecOk Try.prog 65 (row_number_sp k) := mk_ok (k := k) (h := (.two .z (.two .z (.two .z (.two (.two .z (.lp row_number_wrlrrlrl .z)) .z))))) (W := row_number_wr) G_ok (row_number_EOK k) Try.func65 (c := row_number_c) (by kernel_rfl) (by kernel_rfl) (by kernel_rfl) (by kernel_rfl) (by kernel_rfl) fun _ _ => rfl

noncomputable def row_Reader_fail_E (k : Nat) : Table := []
theorem row_Reader_fail_EOK (k : Nat) : TabOk Try.prog (row_Reader_fail_E k) := .nil
/-- (*plenum/row.Reader).fail -/
noncomputable def row_Reader_fail_c : Code := bodyOf Try.f66
noncomputable def row_Reader_fail_wr : Norm := { keep := [], objs := [[.sh, .asis]], c := 0 }
noncomputable def row_Reader_fail (k : Nat) (a0 : (List Int)) (a1 : Bool) : Option (Unit × (((List Int) × (Bool × Unit)) × Unit)) := fnK G (row_Reader_fail_E k) k .z row_Reader_fail_c 10 [] 0 row_Reader_fail_wr [] [.ptr 0 0] [[.sl (.int .u8) .sh none a0, .bool a1]] (rd (Pt.tup Ps.nil) (Os.cons (Ps.cons (Pt.sl (.int .u8)) (Ps.cons Pt.bool Ps.nil)) Os.nil))
theorem row_Reader_fail_eq (k : Nat) (a0 : (List Int)) (a1 : Bool) : row_Reader_fail k a0 a1 = some ((), (([], (false, ())), ())) := by kernel_rfl
noncomputable def row_Reader_fail_sp (k : Nat) : Spec := mkSp (Ps.cons (Pt.ptr 0 0) Ps.nil) (Os.cons (Ps.cons (Pt.sl (.int .u8)) (Ps.cons Pt.bool Ps.nil)) Os.nil) (Pt.tup Ps.nil) (Os.cons (Ps.cons (Pt.sl (.int .u8)) (Ps.cons Pt.bool Ps.nil)) Os.nil) (fun p o => row_Reader_fail k o.1.1 o.1.2.1) [.asis] [[.sh, .asis]] 0 (fun xs => !isNilA 0 xs)
theorem row_Reader_fail_ok (k : Nat) : SpecOk Try.prog 66 (row_Reader_fail_sp k) := mk_ok (k := k) (h := .z) (W := row_Reader_fail_wr) G_ok (row_Reader_fail_EOK k) Try.func66 (c := row_Reader_fail_c) (by kernel_rfl) (by kernel_rfl) (by kernel_rfl) (by kernel_rfl) (by kernel_rfl) fun _ _ => rfl

noncomputable def row_Reader_N_E (k : Nat) : Table := [(66, row_Reader_fail_sp k), (64, row_Reader_ok_sp k), (65, row_number_sp k)]
theorem row_Reader_N_EOK (k : Nat) : TabOk Try.prog (row_Reader_N_E k) := .cons (row_Reader_fail_ok k) <| .cons (row_Reader_ok_ok k) <| .cons (row_number_ok k) <| .nil
/-- (*plenum/row.Reader).N -/
noncomputable def row_Reader_N_c : Code := bodyOf Try.f26
noncomputable def row_Reader_N_wr : Norm := { keep := [(4, .asis)], objs := [[.sh, .asis]], c := 0 }
noncomputable def row_Reader_N (k : Nat) (a0 : Int) (a1 : (List Int)) (a2 : Bool) : Option (Int × (((List Int) × (Bool × Unit)) × Unit)) := fnK G (row_Reader_N_E k) k .z row_Reader_N_c 37 [.tmp 4] 0 row_Reader_N_wr [] [.ptr 0 0, .int .u64 a0] [[.sl (.int .u8) .sh none a1, .bool a2]] (rd (Pt.int .u64) (Os.cons (Ps.cons (Pt.sl (.int .u8)) (Ps.cons Pt.bool Ps.nil)) Os.nil))
theorem row_Reader_N_eq (k : Nat) (a0 : Int) (a1 : (List Int)) (a2 : Bool) : row_Reader_N k a0 a1 a2 = (row_Reader_ok k a1 a2).bind fun r25 => (bif (!r25.1) then some ((0 : Int), ((r25.2.1.1, (r25.2.1.2.1, ())), ())) else (row_number k r25.2.1.1).bind fun r31 => (bif (decide (r31.1.2.1 = 0)) then (row_Reader_fail k r25.2.1.1 r25.2.1.2.1).bind fun r32 => some ((0 : Int), ((r32.2.1.1, (r32.2.1.2.1, ())), ())) else (bif (decide (a0 < r31.1.1)) then (row_Reader_fail k r25.2.1.1 r25.2.1.2.1).bind fun r33 => some ((0 : Int), ((r33.2.1.1, (r33.2.1.2.1, ())), ())) else (cut r25.2.1.1 r31.1.2.1 r25.2.1.1.length).bind fun x34 => some (r31.1.1, ((x34, (r25.2.1.2.1, ())), ()))))) := by kernel_rfl
noncomputable def row_Reader_N_sp (k : Nat) : Spec := mkSp (Ps.cons (Pt.ptr 0 0) (Ps.cons (Pt.int .u64) Ps.nil)) (Os.cons (Ps.cons (Pt.sl (.int .u8)) (Ps.cons Pt.bool Ps.nil)) Os.nil) (Pt.int .u64) (Os.cons (Ps.cons (Pt.sl (.int .u8)) (Ps.cons Pt.bool Ps.nil)) Os.nil) (fun p o => row_Reader_N k p.2.1 o.1.1 o.1.2.1) [.asis, .asis] [[.sh, .asis]] 0 (fun xs => !isNilA 0 xs)
theorem row_Reader_N_ok (k : Nat) : SpecOk Try.prog 26 (row_Reader_N_sp k) := mk_ok (k := k) (h := .z) (W := row_Reader_N_wr) G_ok (row_Reader_N_EOK k) Try.func26 (c := row_Reader_N_c) (by kernel_rfl) (by kernel_rfl) (by kernel_rfl) (by kernel_rfl) (by kernel_rfl) fun _ _ => rfl

noncomputable def row_Reader_End_E (k : Nat) : Table := [(64, row_Reader_ok_sp k)]
theorem row_Reader_End_EOK (k : Nat) : TabOk Try.prog (row_Reader_End_E k) := .cons (row_Reader_ok_ok k) <| .nil
/-- (*plenum/row.Reader).End -/
noncomputable def row_Reader_End_c : Code := bodyOf Try.f35
noncomputable def row_Reader_End_wr : Norm := { keep := [(2, .asis)], objs := [[.sh, .asis]], c := 0 }
noncomputable def row_Reader_End (k : Nat) (a0 : (List Int)) (a1 : Bool) : Option (Int × (((List Int) × (Bool × Unit)) × Unit)) := fnK G (row_Reader_End_E k) k .z row_Reader_End_c 14 [.tmp 2] 0 row_Reader_End_wr [] [.ptr 0 0] [[.sl (.int .u8) .sh none a0, .bool a1]] (rd (Pt.int .i64) (Os.cons (Ps.cons (Pt.sl (.int .u8)) (Ps.cons Pt.bool Ps.nil)) Os.nil))
theorem row_Reader_End_eq (k : Nat) (a0 : (List Int)) (a1 : Bool) : row_Reader_End k a0 a1 = (row_Reader_ok k a0 a1).bind fun r36 => (bif (!r36.1) then some ((30 : Int), ((r36.2.1.1, (r36.2.1.2.1, ())), ())) else (bif (decide (0 < (r36.2.1.1.length : Int))) then some ((30 : Int), ((r36.2.1.1, (r36.2.1.2.1, ())), ())) else some ((0 : Int), ((r36.2.1.1, (r36.2.1.2.1, ())), ())))) := by kernel_rfl
noncomputable def row_Reader_End_sp (k : Nat) : Spec := mkSp (Ps.cons (Pt.ptr 0 0) Ps.nil) (Os.cons (Ps.cons (Pt.sl (.int .u8)) (Ps.cons Pt.bool Ps.nil)) Os.nil) (Pt.int .i64) (Os.cons (Ps.cons (Pt.sl (.int .u8)) (Ps.cons Pt.bool Ps.nil)) Os.nil) (fun p o => row_Reader_End k o.1.1 o.1.2.1) [.asis] [[.sh, .asis]] 0 (fun xs => !isNilA 0 xs)
theorem row_Reader_End_ok (k : Nat) : SpecOk Try.prog 35 (row_Reader_End_sp k) := mk_ok (k := k) (h := .z) (W := row_Reader_End_wr) G_ok (row_Reader_End_EOK k) Try.func35 (c := row_Reader_End_c) (by kernel_rfl) (by kernel_rfl) (by kernel_rfl) (by kernel_rfl) (by kernel_rfl) fun _ _ => rfl

noncomputable def law03_awake_E (k : Nat) : Table := [(25, row_Read_sp k), (35, row_Reader_End_sp k), (26, row_Reader_N_sp k), (51, row_Writer_Bytes_sp k), (47, row_Writer_N_sp k)]
theorem law03_awake_EOK (k : Nat) : TabOk Try.prog (law03_awake_E k) := .cons (row_Read_ok k) <| .cons (row_Reader_End_ok k) <| .cons (row_Reader_N_ok k) <| .cons (row_Writer_Bytes_ok k) <| .cons (row_Writer_N_ok k) <| .nil
noncomputable def law03_awake_G : Env := rowEnv G [(4, 3)]
/-- plenum/plenumlaw03.awake -/
noncomputable def law03_awake_c : Code := bodyOf Try.f22
noncomputable def law03_awake_wr : Norm := { keep := [(0, .asis)], objs := [], c := 0 }
noncomputable def law03_awake (k : Nat)  : Option (Bool × Unit) := fnK law03_awake_G (law03_awake_E k) k .z law03_awake_c 38 [.tmp 0] 0 law03_awake_wr [] [] [] (rd Pt.bool Os.nil)
theorem law03_awake_eq (k : Nat)  : law03_awake k  = (row_Writer_N k [(300 : Int)] []).bind fun r20 => (row_Writer_Bytes k r20.2.1.1).bind fun r21 => (row_Read k [(128 : Int), (5 : Int)]).bind fun r22 => (bif (decide ((r21.1.length : Int) = 2)) then (nth r21.1 0).bind fun x23 => (bif (decide (x23 = 130)) then (nth r21.1 1).bind fun x24 => (bif (decide (x24 = 44)) then (row_Reader_N k (500 : Int) r22.2.1.1 r22.2.1.2.1).bind fun r35 => (bif (decide (r35.1 = 0)) then (row_Reader_End k r35.2.1.1 r35.2.1.2.1).bind fun r37 => some ((decide (r37.1 = 30)), ()) else some (false, ())) else some (false, ())) else some (false, ())) else some (false, ())) := by kernel_rfl
noncomputable def law03_awake_sp (k : Nat) : Spec := mkSp Ps.nil Os.nil Pt.bool Os.nil (fun p o => law03_awake k ) [] [] 0 (fun _ => true)
theorem law03_awake_ok (k : Nat) : SpecOk Try.prog 22 (law03_awake_sp k) := mk_ok (k := k) (h := .z) (W := law03_awake_wr) (G_ok.rows _) (law03_awake_EOK k) Try.func22 (c := law03_awake_c) (by kernel_rfl) (by kernel_rfl) (by kernel_rfl) (by kernel_rfl) (by kernel_rfl) fun _ _ => rfl

noncomputable def row_Writer_N_nil_E (k : Nat) : Table := []
theorem row_Writer_N_nil_EOK (k : Nat) : TabOk Try.prog (row_Writer_N_nil_E k) := .nil
/-- (*plenum/row.Writer).N -/
noncomputable def row_Writer_N_nil_c : Code := bodyOf Try.f47
noncomputable def row_Writer_N_nil_wr : Norm := { keep := [], objs := [], c := 0 }
noncomputable def row_Writer_N_nil (k : Nat) (a0 : (List Int)) : Option (Unit × Unit) := fnK G (row_Writer_N_nil_E k) k .z row_Writer_N_nil_c 52 [] 0 row_Writer_N_nil_wr [] [.nilp, .sl (.int .u64) .sh none a0] [] (rd (Pt.tup Ps.nil) Os.nil)
theorem row_Writer_N_nil_eq (k : Nat) (a0 : (List Int)) : row_Writer_N_nil k a0 = some ((), ()) := by kernel_rfl
noncomputable def row_Writer_N_nil_sp (k : Nat) : Spec := mkSp (Ps.cons Pt.nilp (Ps.cons (Pt.sl (.int .u64)) Ps.nil)) Os.nil (Pt.tup Ps.nil) Os.nil (fun p o => row_Writer_N_nil k p.2.1) [.asis, .sh] [] 0 (fun xs => isNilA 0 xs)
theorem row_Writer_N_nil_ok (k : Nat) : SpecOk Try.prog 47 (row_Writer_N_nil_sp k) := mk_ok (k := k) (h := .z) (W := row_Writer_N_nil_wr) G_ok (row_Writer_N_nil_EOK k) Try.func47 (c := row_Writer_N_nil_c) (by kernel_rfl) (by kernel_rfl) (by kernel_rfl) (by kernel_rfl) (by kernel_rfl) fun _ _ => rfl

noncomputable def num_Zig_E (k : Nat) : Table := []
theorem num_Zig_EOK (k : Nat) : TabOk Try.prog (num_Zig_E k) := .nil
/-- plenum/num.Zig -/
noncomputable def num_Zig_c : Code := bodyOf Try.f75
noncomputable def num_Zig_wr : Norm := { keep := [(2, .asis)], objs := [], c := 0 }
noncomputable def num_Zig (k : Nat) (a0 : Int) : Option (Int × Unit) := fnK G (num_Zig_E k) k .z num_Zig_c 10 [.tmp 2] 0 num_Zig_wr [] [.int .i64 a0] [] (rd (Pt.int .u64) Os.nil)
theorem num_Zig_eq (k : Nat) (a0 : Int) : num_Zig k a0 = some ((Go.bits .xor .u64 (wr .u64 ((wr .u64 a0) * 2)) (wr .u64 (a0 / 9223372036854775808))), ()) := by kernel_rfl
noncomputable def num_Zig_sp (k : Nat) : Spec := mkSp (Ps.cons (Pt.int .i64) Ps.nil) Os.nil (Pt.int .u64) Os.nil (fun p o => num_Zig k p.1) [.asis] [] 0 (fun _ => true)
theorem num_Zig_ok (k : Nat) : SpecOk Try.prog 75 (num_Zig_sp k) := mk_ok (k := k) (h := .z) (W := num_Zig_wr) G_ok (num_Zig_EOK k) Try.func75 (c := num_Zig_c) (by kernel_rfl) (by kernel_rfl) (by kernel_rfl) (by kernel_rfl) (by kernel_rfl) fun _ _ => rfl

noncomputable def row_Writer_I_nil_E (k : Nat) : Table := [(75, num_Zig_sp k), (47, row_Writer_N_nil_sp k)]
theorem row_Writer_I_nil_EOK (k : Nat) : TabOk Try.prog (row_Writer_I_nil_E k) := .cons (num_Zig_ok k) <| .cons (row_Writer_N_nil_ok k) <| .nil
/-- (*plenum/row.Writer).I -/
noncomputable def row_Writer_I_nil_c : Code := bodyOf Try.f48
noncomputable def row_Writer_I_nil_wr : Norm := { keep := [], objs := [], c := 0 }
noncomputable def row_Writer_I_nil (k : Nat) (a0 : Int) : Option (Unit × Unit) := fnK G (row_Writer_I_nil_E k) k .z row_Writer_I_nil_c 9 [] 0 row_Writer_I_nil_wr [] [.nilp, .int .i64 a0] [] (rd (Pt.tup Ps.nil) Os.nil)
theorem row_Writer_I_nil_eq (k : Nat) (a0 : Int) : row_Writer_I_nil k a0 = (num_Zig k a0).bind fun r40 => (row_Writer_N_nil k [r40.1]).bind fun r41 => some ((), ()) := by kernel_rfl
noncomputable def row_Writer_I_nil_sp (k : Nat) : Spec := mkSp (Ps.cons Pt.nilp (Ps.cons (Pt.int .i64) Ps.nil)) Os.nil (Pt.tup Ps.nil) Os.nil (fun p o => row_Writer_I_nil k p.2.1) [.asis, .asis] [] 0 (fun xs => isNilA 0 xs)
theorem row_Writer_I_nil_ok (k : Nat) : SpecOk Try.prog 48 (row_Writer_I_nil_sp k) := mk_ok (k := k) (h := .z) (W := row_Writer_I_nil_wr) G_ok (row_Writer_I_nil_EOK k) Try.func48 (c := row_Writer_I_nil_c) (by kernel_rfl) (by kernel_rfl) (by kernel_rfl) (by kernel_rfl) (by kernel_rfl) fun _ _ => rfl

noncomputable def row_Writer_Text_nil_E (k : Nat) : Table := []
theorem row_Writer_Text_nil_EOK (k : Nat) : TabOk Try.prog (row_Writer_Text_nil_E k) := .nil
/-- (*plenum/row.Writer).Text -/
noncomputable def row_Writer_Text_nil_c : Code := bodyOf Try.f49
noncomputable def row_Writer_Text_nil_wr : Norm := { keep := [], objs := [], c := 0 }
noncomputable def row_Writer_Text_nil (k : Nat) (a0 : (List Int)) : Option (Unit × Unit) := fnK G (row_Writer_Text_nil_E k) k .z row_Writer_Text_nil_c 21 [] 0 row_Writer_Text_nil_wr [] [.nilp, .sl (.int .u8) .sh none a0] [] (rd (Pt.tup Ps.nil) Os.nil)
theorem row_Writer_Text_nil_eq (k : Nat) (a0 : (List Int)) : row_Writer_Text_nil k a0 = some ((), ()) := by kernel_rfl
noncomputable def row_Writer_Text_nil_sp (k : Nat) : Spec := mkSp (Ps.cons Pt.nilp (Ps.cons (Pt.sl (.int .u8)) Ps.nil)) Os.nil (Pt.tup Ps.nil) Os.nil (fun p o => row_Writer_Text_nil k p.2.1) [.asis, .sh] [] 0 (fun xs => isNilA 0 xs)
theorem row_Writer_Text_nil_ok (k : Nat) : SpecOk Try.prog 49 (row_Writer_Text_nil_sp k) := mk_ok (k := k) (h := .z) (W := row_Writer_Text_nil_wr) G_ok (row_Writer_Text_nil_EOK k) Try.func49 (c := row_Writer_Text_nil_c) (by kernel_rfl) (by kernel_rfl) (by kernel_rfl) (by kernel_rfl) (by kernel_rfl) fun _ _ => rfl

noncomputable def row_Writer_Value_nil_E (k : Nat) : Table := [(48, row_Writer_I_nil_sp k), (47, row_Writer_N_nil_sp k), (49, row_Writer_Text_nil_sp k)]
theorem row_Writer_Value_nil_EOK (k : Nat) : TabOk Try.prog (row_Writer_Value_nil_E k) := .cons (row_Writer_I_nil_ok k) <| .cons (row_Writer_N_nil_ok k) <| .cons (row_Writer_Text_nil_ok k) <| .nil
/-- (*plenum/row.Writer).Value -/
noncomputable def row_Writer_Value_nil_c : Code := bodyOf Try.f50
noncomputable def row_Writer_Value_nil_wrrlr : Norm := { keep := [], objs := [], c := 0 }
noncomputable def row_Writer_Value_nil_wrrlrrr : Norm := { keep := [], objs := [], c := 0 }
noncomputable def row_Writer_Value_nil_wr : Norm := { keep := [], objs := [], c := 0 }
noncomputable def row_Writer_Value_nil (k : Nat) (a0 : (Int × (Int × ((List Int) × Unit)))) : Option (Unit × Unit) := fnK G (row_Writer_Value_nil_E k) k (.two .z (.two .z (.two .z (.cd row_Writer_Value_nil_wrrlr .z (.two .z (.cd row_Writer_Value_nil_wrrlrrr .z .z)))))) row_Writer_Value_nil_c 28 [] 0 row_Writer_Value_nil_wr [] [.nilp, .st (.st (.pair (.int .i64) (.pair (.int .i64) (.pair .str .unit)))) a0] [] (rd (Pt.tup Ps.nil) Os.nil)
noncomputable def row_Writer_Value_nil_j0 (k : Nat)  : Option (Unit × Unit) := jmp k ((blkK 0 (retK G [] 0 row_Writer_Value_nil_wr (rd (Pt.tup Ps.nil) Os.nil))) .normal (mkS 28 0 [] 0 [] []))
noncomputable def row_Writer_Value_nil_j1 (k : Nat)  : Option (Unit × Unit) := jmp k ((nrmK row_Writer_Value_nil_wrrlr (jmpK k (blkK 0 (retK G [] 0 row_Writer_Value_nil_wr (rd (Pt.tup Ps.nil) Os.nil))))) .normal (mkS 28 0 [] 0 [] []))
theorem row_Writer_Value_nil_j0_eq (k : Nat)  : row_Writer_Value_nil_j0 (k + 1)  = some ((), ()) := by kernel_rfl
theorem row_Writer_Value_nil_j1_eq (k : Nat)  : row_Writer_Value_nil_j1 (k + 1)  = row_Writer_Value_nil_j0 (k + 1)  := by kernel_rfl
theorem row_Writer_Value_nil_eq (k : Nat) (a0 : (Int × (Int × ((List Int) × Unit)))) : row_Writer_Value_nil k a0 = (bif (decide (a0.1 = 1)) then (row_Writer_N_nil k [(1 : Int)]).bind fun r44 => (row_Writer_I_nil k a0.2.1).bind fun r45 => row_Writer_Value_nil_j0 k  else (bif (decide (a0.1 = 2)) then (row_Writer_N_nil k [(2 : Int)]).bind fun r46 => (row_Writer_Text_nil k a0.2.2.1).bind fun r47 => row_Writer_Value_nil_j1 k  else (row_Writer_N_nil k [(0 : Int)]).bind fun r48 => row_Writer_Value_nil_j1 k )) := by kernel_rfl
noncomputable def row_Writer_Value_nil_sp (k : Nat) : Spec := mkSp (Ps.cons Pt.nilp (Ps.cons (Pt.st (.st (.pair (.int .i64) (.pair (.int .i64) (.pair .str .unit))))) Ps.nil)) Os.nil (Pt.tup Ps.nil) Os.nil (fun p o => row_Writer_Value_nil k p.2.1) [.asis, .asis] [] 0 (fun xs => isNilA 0 xs)
theorem row_Writer_Value_nil_ok (k : Nat) : SpecOk Try.prog 50 (row_Writer_Value_nil_sp k) := mk_ok (k := k) (h := (.two .z (.two .z (.two .z (.cd row_Writer_Value_nil_wrrlr .z (.two .z (.cd row_Writer_Value_nil_wrrlrrr .z .z))))))) (W := row_Writer_Value_nil_wr) G_ok (row_Writer_Value_nil_EOK k) Try.func50 (c := row_Writer_Value_nil_c) (by kernel_rfl) (by kernel_rfl) (by kernel_rfl) (by kernel_rfl) (by kernel_rfl) fun _ _ => rfl

noncomputable def row_Writer_Bytes_nil_E (k : Nat) : Table := []
theorem row_Writer_Bytes_nil_EOK (k : Nat) : TabOk Try.prog (row_Writer_Bytes_nil_E k) := .nil
/-- (*plenum/row.Writer).Bytes -/
noncomputable def row_Writer_Bytes_nil_c : Code := bodyOf Try.f51
noncomputable def row_Writer_Bytes_nil_wr : Norm := { keep := [(2, .own 0)], objs := [], c := 1 }
noncomputable def row_Writer_Bytes_nil (k : Nat)  : Option ((List Int) × Unit) := fnK G (row_Writer_Bytes_nil_E k) k .z row_Writer_Bytes_nil_c 10 [.tmp 2] 1 row_Writer_Bytes_nil_wr [] [.nilp] [] (rd (Pt.own 0 (.int .u8)) Os.nil)
theorem row_Writer_Bytes_nil_eq (k : Nat)  : row_Writer_Bytes_nil k  = some ([], ()) := by kernel_rfl
noncomputable def row_Writer_Bytes_nil_sp (k : Nat) : Spec := mkSp (Ps.cons Pt.nilp Ps.nil) Os.nil (Pt.own 0 (.int .u8)) Os.nil (fun p o => row_Writer_Bytes_nil k ) [.asis] [] 1 (fun xs => isNilA 0 xs)
theorem row_Writer_Bytes_nil_ok (k : Nat) : SpecOk Try.prog 51 (row_Writer_Bytes_nil_sp k) := mk_ok (k := k) (h := .z) (W := row_Writer_Bytes_nil_wr) G_ok (row_Writer_Bytes_nil_EOK k) Try.func51 (c := row_Writer_Bytes_nil_c) (by kernel_rfl) (by kernel_rfl) (by kernel_rfl) (by kernel_rfl) (by kernel_rfl) fun _ _ => rfl

noncomputable def row_Reader_ok_nil_E (k : Nat) : Table := []
theorem row_Reader_ok_nil_EOK (k : Nat) : TabOk Try.prog (row_Reader_ok_nil_E k) := .nil
/-- (*plenum/row.Reader).ok -/
noncomputable def row_Reader_ok_nil_c : Code := bodyOf Try.f64
noncomputable def row_Reader_ok_nil_wr : Norm := { keep := [(2, .asis)], objs := [], c := 0 }
noncomputable def row_Reader_ok_nil (k : Nat)  : Option (Bool × Unit) := fnK G (row_Reader_ok_nil_E k) k .z row_Reader_ok_nil_c 11 [.tmp 2] 0 row_Reader_ok_nil_wr [] [.nilp] [] (rd Pt.bool Os.nil)
theorem row_Reader_ok_nil_eq (k : Nat)  : row_Reader_ok_nil k  = some (false, ()) := by kernel_rfl
noncomputable def row_Reader_ok_nil_sp (k : Nat) : Spec := mkSp (Ps.cons Pt.nilp Ps.nil) Os.nil Pt.bool Os.nil (fun p o => row_Reader_ok_nil k ) [.asis] [] 0 (fun xs => isNilA 0 xs)
theorem row_Reader_ok_nil_ok (k : Nat) : SpecOk Try.prog 64 (row_Reader_ok_nil_sp k) := mk_ok (k := k) (h := .z) (W := row_Reader_ok_nil_wr) G_ok (row_Reader_ok_nil_EOK k) Try.func64 (c := row_Reader_ok_nil_c) (by kernel_rfl) (by kernel_rfl) (by kernel_rfl) (by kernel_rfl) (by kernel_rfl) fun _ _ => rfl

noncomputable def row_Reader_N_nil_E (k : Nat) : Table := [(64, row_Reader_ok_nil_sp k)]
theorem row_Reader_N_nil_EOK (k : Nat) : TabOk Try.prog (row_Reader_N_nil_E k) := .cons (row_Reader_ok_nil_ok k) <| .nil
/-- (*plenum/row.Reader).N -/
noncomputable def row_Reader_N_nil_c : Code := bodyOf Try.f26
noncomputable def row_Reader_N_nil_wr : Norm := { keep := [(4, .asis)], objs := [], c := 0 }
noncomputable def row_Reader_N_nil (k : Nat) (a0 : Int) : Option (Int × Unit) := fnK G (row_Reader_N_nil_E k) k .z row_Reader_N_nil_c 37 [.tmp 4] 0 row_Reader_N_nil_wr [] [.nilp, .int .u64 a0] [] (rd (Pt.int .u64) Os.nil)
theorem row_Reader_N_nil_eq (k : Nat) (a0 : Int) : row_Reader_N_nil k a0 = (row_Reader_ok_nil k).bind fun r51 => (bif (!r51.1) then some ((0 : Int), ()) else none) := by kernel_rfl
noncomputable def row_Reader_N_nil_sp (k : Nat) : Spec := mkSp (Ps.cons Pt.nilp (Ps.cons (Pt.int .u64) Ps.nil)) Os.nil (Pt.int .u64) Os.nil (fun p o => row_Reader_N_nil k p.2.1) [.asis, .asis] [] 0 (fun xs => isNilA 0 xs)
theorem row_Reader_N_nil_ok (k : Nat) : SpecOk Try.prog 26 (row_Reader_N_nil_sp k) := mk_ok (k := k) (h := .z) (W := row_Reader_N_nil_wr) G_ok (row_Reader_N_nil_EOK k) Try.func26 (c := row_Reader_N_nil_c) (by kernel_rfl) (by kernel_rfl) (by kernel_rfl) (by kernel_rfl) (by kernel_rfl) fun _ _ => rfl

noncomputable def num_Zag_E (k : Nat) : Table := []
theorem num_Zag_EOK (k : Nat) : TabOk Try.prog (num_Zag_E k) := .nil
/-- plenum/num.Zag -/
noncomputable def num_Zag_c : Code := bodyOf Try.f68
noncomputable def num_Zag_wr : Norm := { keep := [(2, .asis)], objs := [], c := 0 }
noncomputable def num_Zag (k : Nat) (a0 : Int) : Option (Int × Unit) := fnK G (num_Zag_E k) k .z num_Zag_c 11 [.tmp 2] 0 num_Zag_wr [] [.int .u64 a0] [] (rd (Pt.int .i64) Os.nil)
theorem num_Zag_eq (k : Nat) (a0 : Int) : num_Zag k a0 = some ((Go.bits .xor .i64 (wr .i64 (a0 / 2)) (wr .i64 (0 - (wr .i64 (Go.bits .and .u64 a0 1))))), ()) := by kernel_rfl
noncomputable def num_Zag_sp (k : Nat) : Spec := mkSp (Ps.cons (Pt.int .u64) Ps.nil) Os.nil (Pt.int .i64) Os.nil (fun p o => num_Zag k p.1) [.asis] [] 0 (fun _ => true)
theorem num_Zag_ok (k : Nat) : SpecOk Try.prog 68 (num_Zag_sp k) := mk_ok (k := k) (h := .z) (W := num_Zag_wr) G_ok (num_Zag_EOK k) Try.func68 (c := num_Zag_c) (by kernel_rfl) (by kernel_rfl) (by kernel_rfl) (by kernel_rfl) (by kernel_rfl) fun _ _ => rfl

noncomputable def row_Reader_I_nil_E (k : Nat) : Table := [(68, num_Zag_sp k), (26, row_Reader_N_nil_sp k)]
theorem row_Reader_I_nil_EOK (k : Nat) : TabOk Try.prog (row_Reader_I_nil_E k) := .cons (num_Zag_ok k) <| .cons (row_Reader_N_nil_ok k) <| .nil
/-- (*plenum/row.Reader).I -/
noncomputable def row_Reader_I_nil_c : Code := bodyOf Try.f28
noncomputable def row_Reader_I_nil_wr : Norm := { keep := [(2, .asis)], objs := [], c := 0 }
noncomputable def row_Reader_I_nil (k : Nat)  : Option (Int × Unit) := fnK G (row_Reader_I_nil_E k) k .z row_Reader_I_nil_c 6 [.tmp 2] 0 row_Reader_I_nil_wr [] [.nilp] [] (rd (Pt.int .i64) Os.nil)
theorem row_Reader_I_nil_eq (k : Nat)  : row_Reader_I_nil k  = (row_Reader_N_nil k (18446744073709551615 : Int)).bind fun r53 => (num_Zag k r53.1).bind fun r54 => some (r54.1, ()) := by kernel_rfl
noncomputable def row_Reader_I_nil_sp (k : Nat) : Spec := mkSp (Ps.cons Pt.nilp Ps.nil) Os.nil (Pt.int .i64) Os.nil (fun p o => row_Reader_I_nil k ) [.asis] [] 0 (fun xs => isNilA 0 xs)
theorem row_Reader_I_nil_ok (k : Nat) : SpecOk Try.prog 28 (row_Reader_I_nil_sp k) := mk_ok (k := k) (h := .z) (W := row_Reader_I_nil_wr) G_ok (row_Reader_I_nil_EOK k) Try.func28 (c := row_Reader_I_nil_c) (by kernel_rfl) (by kernel_rfl) (by kernel_rfl) (by kernel_rfl) (by kernel_rfl) fun _ _ => rfl

noncomputable def row_Reader_fail_nil_E (k : Nat) : Table := []
theorem row_Reader_fail_nil_EOK (k : Nat) : TabOk Try.prog (row_Reader_fail_nil_E k) := .nil
/-- (*plenum/row.Reader).fail -/
noncomputable def row_Reader_fail_nil_c : Code := bodyOf Try.f66
noncomputable def row_Reader_fail_nil_wr : Norm := { keep := [], objs := [], c := 0 }
noncomputable def row_Reader_fail_nil (k : Nat)  : Option (Unit × Unit) := fnK G (row_Reader_fail_nil_E k) k .z row_Reader_fail_nil_c 10 [] 0 row_Reader_fail_nil_wr [] [.nilp] [] (rd (Pt.tup Ps.nil) Os.nil)
theorem row_Reader_fail_nil_eq (k : Nat)  : row_Reader_fail_nil k  = some ((), ()) := by kernel_rfl
noncomputable def row_Reader_fail_nil_sp (k : Nat) : Spec := mkSp (Ps.cons Pt.nilp Ps.nil) Os.nil (Pt.tup Ps.nil) Os.nil (fun p o => row_Reader_fail_nil k ) [.asis] [] 0 (fun xs => isNilA 0 xs)
theorem row_Reader_fail_nil_ok (k : Nat) : SpecOk Try.prog 66 (row_Reader_fail_nil_sp k) := mk_ok (k := k) (h := .z) (W := row_Reader_fail_nil_wr) G_ok (row_Reader_fail_nil_EOK k) Try.func66 (c := row_Reader_fail_nil_c) (by kernel_rfl) (by kernel_rfl) (by kernel_rfl) (by kernel_rfl) (by kernel_rfl) fun _ _ => rfl

noncomputable def row_Reader_Text_nil_E (k : Nat) : Table := [(26, row_Reader_N_nil_sp k), (66, row_Reader_fail_nil_sp k), (64, row_Reader_ok_nil_sp k)]
theorem row_Reader_Text_nil_EOK (k : Nat) : TabOk Try.prog (row_Reader_Text_nil_E k) := .cons (row_Reader_N_nil_ok k) <| .cons (row_Reader_fail_nil_ok k) <| .cons (row_Reader_ok_nil_ok k) <| .nil
/-- (*plenum/row.Reader).Text -/
noncomputable def row_Reader_Text_nil_c : Code := bodyOf Try.f30
noncomputable def row_Reader_Text_nil_wr : Norm := { keep := [(4, .own 0)], objs := [], c := 1 }
noncomputable def row_Reader_Text_nil (k : Nat) (a0 : Int) : Option ((List Int) × Unit) := fnK G (row_Reader_Text_nil_E k) k .z row_Reader_Text_nil_c 47 [.tmp 4] 1 row_Reader_Text_nil_wr [] [.nilp, .int .i64 a0] [] (rd (Pt.own 0 (.int .u8)) Os.nil)
theorem row_Reader_Text_nil_eq (k : Nat) (a0 : Int) : row_Reader_Text_nil k a0 = (bif (decide (a0 < 0)) then (row_Reader_fail_nil k).bind fun r56 => some ([], ()) else (row_Reader_N_nil k (wr .u64 a0)).bind fun r57 => (row_Reader_ok_nil k).bind fun r58 => (bif (!r58.1) then (row_Reader_fail_nil k).bind fun r59 => some ([], ()) else none)) := by kernel_rfl
noncomputable def row_Reader_Text_nil_sp (k : Nat) : Spec := mkSp (Ps.cons Pt.nilp (Ps.cons (Pt.int .i64) Ps.nil)) Os.nil (Pt.own 0 (.int .u8)) Os.nil (fun p o => row_Reader_Text_nil k p.2.1) [.asis, .asis] [] 1 (fun xs => isNilA 0 xs)
theorem row_Reader_Text_nil_ok (k : Nat) : SpecOk Try.prog 30 (row_Reader_Text_nil_sp k) := mk_ok (k := k) (h := .z) (W := row_Reader_Text_nil_wr) G_ok (row_Reader_Text_nil_EOK k) Try.func30 (c := row_Reader_Text_nil_c) (by kernel_rfl) (by kernel_rfl) (by kernel_rfl) (by kernel_rfl) (by kernel_rfl) fun _ _ => rfl

noncomputable def row_Reader_Value_nil_E (k : Nat) : Table := [(28, row_Reader_I_nil_sp k), (26, row_Reader_N_nil_sp k), (30, row_Reader_Text_nil_sp k), (64, row_Reader_ok_nil_sp k)]
theorem row_Reader_Value_nil_EOK (k : Nat) : TabOk Try.prog (row_Reader_Value_nil_E k) := .cons (row_Reader_I_nil_ok k) <| .cons (row_Reader_N_nil_ok k) <| .cons (row_Reader_Text_nil_ok k) <| .cons (row_Reader_ok_nil_ok k) <| .nil
/-- (*plenum/row.Reader).Value -/
noncomputable def row_Reader_Value_nil_c : Code := bodyOf Try.f32
noncomputable def row_Reader_Value_nil_wrrlrlr : Norm := { keep := [(0, .asis), (2, .asis), (3, .asis)], objs := [[.asis, .asis, .asis], [.asis, .asis, .asis]], c := 0 }
noncomputable def row_Reader_Value_nil_wrrlrlrrr : Norm := { keep := [(0, .asis), (2, .asis), (3, .asis)], objs := [[.asis, .asis, .asis], [.asis, .asis, .asis]], c := 0 }
noncomputable def row_Reader_Value_nil_wr : Norm := { keep := [(2, .asis)], objs := [[.asis, .asis, .asis]], c := 0 }
noncomputable def row_Reader_Value_nil (k : Nat)  : Option ((Int × (Int × ((List Int) × Unit))) × ((Int × (Int × ((List Int) × Unit))) × Unit)) := fnK G (row_Reader_Value_nil_E k) k (.two .z (.two .z (.two (.two .z (.two .z (.cd row_Reader_Value_nil_wrrlrlr .z (.two .z (.cd row_Reader_Value_nil_wrrlrlrrr .z .z))))) .z))) row_Reader_Value_nil_c 26 [.cell 2 41] 0 row_Reader_Value_nil_wr [] [.nilp] [] (rd (Pt.st (.st (.pair (.int .i64) (.pair (.int .i64) (.pair .str .unit))))) (Os.cons (Ps.cons (Pt.int .i64) (Ps.cons (Pt.int .i64) (Ps.cons Pt.str Ps.nil))) Os.nil))
noncomputable def row_Reader_Value_nil_j0 (k : Nat) (v63 : Int) (v64 : Int) (v65 : (List Int)) (v66 : Int) (v67 : Int) (v68 : (List Int)) : Option ((Int × (Int × ((List Int) × Unit))) × ((Int × (Int × ((List Int) × Unit))) × Unit)) := jmp k ((blkK 0 (seqK (exec G (row_Reader_Value_nil_E k) k .z (rgt (rgt (rgt row_Reader_Value_nil_c)))) (retK G [.cell 2 41] 0 row_Reader_Value_nil_wr (rd (Pt.st (.st (.pair (.int .i64) (.pair (.int .i64) (.pair .str .unit))))) (Os.cons (Ps.cons (Pt.int .i64) (Ps.cons (Pt.int .i64) (Ps.cons Pt.str Ps.nil))) Os.nil))))) .normal (mkS 26 0 [(0, .nilp), (2, (.ptr 0 0)), (3, (.ptr 1 0))] 0 [] [[(.int .i64 v63), (.int .i64 v64), (.str v65)], [(.int .i64 v66), (.int .i64 v67), (.str v68)]]))
noncomputable def row_Reader_Value_nil_j1 (k : Nat) (v71 : Int) (v72 : Int) (v73 : (List Int)) (v74 : Int) (v75 : Int) (v76 : (List Int)) : Option ((Int × (Int × ((List Int) × Unit))) × ((Int × (Int × ((List Int) × Unit))) × Unit)) := jmp k ((nrmK row_Reader_Value_nil_wrrlrlr (jmpK k (blkK 0 (seqK (exec G (row_Reader_Value_nil_E k) k .z (rgt (rgt (rgt row_Reader_Value_nil_c)))) (retK G [.cell 2 41] 0 row_Reader_Value_nil_wr (rd (Pt.st (.st (.pair (.int .i64) (.pair (.int .i64) (.pair .str .unit))))) (Os.cons (Ps.cons (Pt.int .i64) (Ps.cons (Pt.int .i64) (Ps.cons Pt.str Ps.nil))) Os.nil))))))) .normal (mkS 26 0 [(0, .nilp), (2, (.ptr 0 0)), (3, (.ptr 1 0))] 0 [] [[(.int .i64 v71), (.int .i64 v72), (.str v73)], [(.int .i64 v74), (.int .i64 v75), (.str v76)]]))
theorem row_Reader_Value_nil_j0_eq (k : Nat) (v63 : Int) (v64 : Int) (v65 : (List Int)) (v66 : Int) (v67 : Int) (v68 : (List Int)) : row_Reader_Value_nil_j0 (k + 1) v63 v64 v65 v66 v67 v68 = (row_Reader_ok_nil (k + 1)).bind fun r69 => (bif (!r69.1) then some (((0 : Int), ((0 : Int), ([], ()))), (((0 : Int), ((0 : Int), ([], ()))), ())) else some ((v66, (v67, (v68, ()))), ((v66, (v67, (v68, ()))), ()))) := by kernel_rfl
theorem row_Reader_Value_nil_j1_eq (k : Nat) (v71 : Int) (v72 : Int) (v73 : (List Int)) (v74 : Int) (v75 : Int) (v76 : (List Int)) : row_Reader_Value_nil_j1 (k + 1) v71 v72 v73 v74 v75 v76 = row_Reader_Value_nil_j0 (k + 1) v71 v72 v73 v74 v75 v76 := by kernel_rfl
theorem row_Reader_Value_nil_eq (k : Nat)  : row_Reader_Value_nil k  = (row_Reader_N_nil k (2 : Int)).bind fun r61 => (bif (decide ((wr .i64 r61.1) = 1)) then (row_Reader_I_nil k).bind fun r62 => row_Reader_Value_nil_j0 k (0 : Int) (0 : Int) [] (wr .i64 r61.1) r62.1 [] else (bif (decide ((wr .i64 r61.1) = 2)) then (row_Reader_Text_nil k (1000 : Int)).bind fun r70 => row_Reader_Value_nil_j1 k (0 : Int) (0 : Int) [] (wr .i64 r61.1) (0 : Int) r70.1 else row_Reader_Value_nil_j1 k (0 : Int) (0 : Int) [] (wr .i64 r61.1) (0 : Int) [])) := by kernel_rfl
noncomputable def row_Reader_Value_nil_sp (k : Nat) : Spec := mkSp (Ps.cons Pt.nilp Ps.nil) Os.nil (Pt.st (.st (.pair (.int .i64) (.pair (.int .i64) (.pair .str .unit))))) (Os.cons (Ps.cons (Pt.int .i64) (Ps.cons (Pt.int .i64) (Ps.cons Pt.str Ps.nil))) Os.nil) (fun p o => row_Reader_Value_nil k ) [.asis] [] 0 (fun xs => isNilA 0 xs)
theorem row_Reader_Value_nil_ok (k : Nat) : SpecOk Try.prog 32 (row_Reader_Value_nil_sp k) := mk_ok (k := k) (h := (.two .z (.two .z (.two (.two .z (.two .z (.cd row_Reader_Value_nil_wrrlrlr .z (.two .z (.cd row_Reader_Value_nil_wrrlrlrrr .z .z))))) .z)))) (W := row_Reader_Value_nil_wr) G_ok (row_Reader_Value_nil_EOK k) Try.func32 (c := row_Reader_Value_nil_c) (by kernel_rfl) (by kernel_rfl) (by kernel_rfl) (by kernel_rfl) (by kernel_rfl) fun _ _ => rfl

noncomputable def row_Reader_Left_nil_E (k : Nat) : Table := [(64, row_Reader_ok_nil_sp k)]
theorem row_Reader_Left_nil_EOK (k : Nat) : TabOk Try.prog (row_Reader_Left_nil_E k) := .cons (row_Reader_ok_nil_ok k) <| .nil
/-- (*plenum/row.Reader).Left -/
noncomputable def row_Reader_Left_nil_c : Code := bodyOf Try.f34
noncomputable def row_Reader_Left_nil_wr : Norm := { keep := [(2, .asis)], objs := [], c := 0 }
noncomputable def row_Reader_Left_nil (k : Nat)  : Option (Int × Unit) := fnK G (row_Reader_Left_nil_E k) k .z row_Reader_Left_nil_c 11 [.tmp 2] 0 row_Reader_Left_nil_wr [] [.nilp] [] (rd (Pt.int .i64) Os.nil)
theorem row_Reader_Left_nil_eq (k : Nat)  : row_Reader_Left_nil k  = (row_Reader_ok_nil k).bind fun r78 => (bif (!r78.1) then some ((0 : Int), ()) else none) := by kernel_rfl
noncomputable def row_Reader_Left_nil_sp (k : Nat) : Spec := mkSp (Ps.cons Pt.nilp Ps.nil) Os.nil (Pt.int .i64) Os.nil (fun p o => row_Reader_Left_nil k ) [.asis] [] 0 (fun xs => isNilA 0 xs)
theorem row_Reader_Left_nil_ok (k : Nat) : SpecOk Try.prog 34 (row_Reader_Left_nil_sp k) := mk_ok (k := k) (h := .z) (W := row_Reader_Left_nil_wr) G_ok (row_Reader_Left_nil_EOK k) Try.func34 (c := row_Reader_Left_nil_c) (by kernel_rfl) (by kernel_rfl) (by kernel_rfl) (by kernel_rfl) (by kernel_rfl) fun _ _ => rfl

noncomputable def row_Reader_End_nil_E (k : Nat) : Table := [(64, row_Reader_ok_nil_sp k)]
theorem row_Reader_End_nil_EOK (k : Nat) : TabOk Try.prog (row_Reader_End_nil_E k) := .cons (row_Reader_ok_nil_ok k) <| .nil
/-- (*plenum/row.Reader).End -/
noncomputable def row_Reader_End_nil_c : Code := bodyOf Try.f35
noncomputable def row_Reader_End_nil_wr : Norm := { keep := [(2, .asis)], objs := [], c := 0 }
noncomputable def row_Reader_End_nil (k : Nat)  : Option (Int × Unit) := fnK G (row_Reader_End_nil_E k) k .z row_Reader_End_nil_c 14 [.tmp 2] 0 row_Reader_End_nil_wr [] [.nilp] [] (rd (Pt.int .i64) Os.nil)
theorem row_Reader_End_nil_eq (k : Nat)  : row_Reader_End_nil k  = (row_Reader_ok_nil k).bind fun r80 => (bif (!r80.1) then some ((30 : Int), ()) else none) := by kernel_rfl
noncomputable def row_Reader_End_nil_sp (k : Nat) : Spec := mkSp (Ps.cons Pt.nilp Ps.nil) Os.nil (Pt.int .i64) Os.nil (fun p o => row_Reader_End_nil k ) [.asis] [] 0 (fun xs => isNilA 0 xs)
theorem row_Reader_End_nil_ok (k : Nat) : SpecOk Try.prog 35 (row_Reader_End_nil_sp k) := mk_ok (k := k) (h := .z) (W := row_Reader_End_nil_wr) G_ok (row_Reader_End_nil_EOK k) Try.func35 (c := row_Reader_End_nil_c) (by kernel_rfl) (by kernel_rfl) (by kernel_rfl) (by kernel_rfl) (by kernel_rfl) fun _ _ => rfl

noncomputable def law03_RowNone_E (k : Nat) : Table := [(22, law03_awake_sp k), (35, row_Reader_End_sp k), (35, row_Reader_End_nil_sp k), (28, row_Reader_I_nil_sp k), (34, row_Reader_Left_nil_sp k), (26, row_Reader_N_sp k), (26, row_Reader_N_nil_sp k), (30, row_Reader_Text_nil_sp k), (32, row_Reader_Value_nil_sp k), (51, row_Writer_Bytes_nil_sp k), (48, row_Writer_I_nil_sp k), (47, row_Writer_N_nil_sp k), (49, row_Writer_Text_nil_sp k), (50, row_Writer_Value_nil_sp k)]
theorem law03_RowNone_EOK (k : Nat) : TabOk Try.prog (law03_RowNone_E k) := .cons (law03_awake_ok k) <| .cons (row_Reader_End_ok k) <| .cons (row_Reader_End_nil_ok k) <| .cons (row_Reader_I_nil_ok k) <| .cons (row_Reader_Left_nil_ok k) <| .cons (row_Reader_N_ok k) <| .cons (row_Reader_N_nil_ok k) <| .cons (row_Reader_Text_nil_ok k) <| .cons (row_Reader_Value_nil_ok k) <| .cons (row_Writer_Bytes_nil_ok k) <| .cons (row_Writer_I_nil_ok k) <| .cons (row_Writer_N_nil_ok k) <| .cons (row_Writer_Text_nil_ok k) <| .cons (row_Writer_Value_nil_ok k) <| .nil
noncomputable def law03_RowNone_G : Env := rowEnv G [(31, 3)]
/-- plenum/plenumlaw03.RowNone -/
noncomputable def law03_RowNone_c : Code := bodyOf Try.f12
noncomputable def law03_RowNone_wr : Norm := { keep := [(6, .asis)], objs := [], c := 0 }
noncomputable def law03_RowNone (k : Nat) (a0 : Int) (a1 : (List Int)) (a2 : Int) : Option (Bool × Unit) := fnK law03_RowNone_G (law03_RowNone_E k) k .z law03_RowNone_c 82 [.tmp 6] 0 law03_RowNone_wr [] [.int .u64 a0, .sl (.int .u8) .sh none a1, .int .i64 a2] [] (rd Pt.bool Os.nil)
theorem law03_RowNone_eq (k : Nat) (a0 : Int) (a1 : (List Int)) (a2 : Int) : law03_RowNone k a0 a1 a2 = (law03_awake k).bind fun r38 => (bif (!r38.1) then some (false, ()) else (bif (decide (300 < (a1.length : Int))) then some (true, ()) else (row_Writer_N_nil k [a0]).bind fun r39 => (row_Writer_I_nil k (wr .i64 a0)).bind fun r42 => (row_Writer_Text_nil k a1).bind fun r43 => (row_Writer_Value_nil k ((2 : Int), ((0 : Int), (a1, ())))).bind fun r49 => (row_Writer_Bytes_nil k).bind fun r50 => (bif (decide ((r50.1.length : Int) = 0)) then (row_Reader_N_nil k a0).bind fun r52 => (bif (decide (r52.1 = 0)) then (row_Reader_I_nil k).bind fun r55 => (bif (decide (r55.1 = 0)) then (row_Reader_Text_nil k a2).bind fun r60 => (bif (decide ((r60.1.length : Int) = 0)) then (row_Reader_Value_nil k).bind fun r77 => (bif (Ty.decEq (.st (.pair (.int .i64) (.pair (.int .i64) (.pair .str .unit)))) r77.1 ((0 : Int), ((0 : Int), ([], ())))) then (row_Reader_Left_nil k).bind fun r79 => (bif (decide (r79.1 = 0)) then (row_Reader_End_nil k).bind fun r81 => (bif (decide (r81.1 = 30)) then (row_Reader_N k a0 [] false).bind fun r82 => (bif (decide (r82.1 = 0)) then (row_Reader_End k r82.2.1.1 r82.2.1.2.1).bind fun r83 => some ((decide (r83.1 = 30)), ()) else some (false, ())) else some (false, ())) else some (false, ())) else some (false, ())) else some (false, ())) else some (false, ())) else some (false, ())) else some (false, ())))) := by kernel_rfl
noncomputable def law03_RowNone_sp (k : Nat) : Spec := mkSp (Ps.cons (Pt.int .u64) (Ps.cons (Pt.sl (.int .u8)) (Ps.cons (Pt.int .i64) Ps.nil))) Os.nil Pt.bool Os.nil (fun p o => law03_RowNone k p.1 p.2.1 p.2.2.1) [.asis, .sh, .asis] [] 0 (fun _ => true)
theorem law03_RowNone_ok (k : Nat) : SpecOk Try.prog 12 (law03_RowNone_sp k) := mk_ok (k := k) (h := .z) (W := law03_RowNone_wr) (G_ok.rows _) (law03_RowNone_EOK k) Try.func12 (c := law03_RowNone_c) (by kernel_rfl) (by kernel_rfl) (by kernel_rfl) (by kernel_rfl) (by kernel_rfl) fun _ _ => rfl

end Go.Proofs.Ytjongebmeoimoaa.Den
