import Derived.Test.YtjilcpjapnngfaaDen33
import Derived.Test.YtjilcpjapnngfaaProg
import Derived.KernelRfl
namespace Go.Proofs.Ytjilcpjapnngfaa.Den
open Go
set_option maxRecDepth 100000
noncomputable def G : Env := tabEnv [(3, (.int .i64)), (4, .bool), (5, (.int .u8)), (22, (.sl (.int .u8))), (26, (.int .i64)), (46, (.sl (.sl (.int .u8)))), (61, (.st (.pair (.op true) .unit))), (65, (.st (.pair (.sl (.int .u8)) (.pair (.int .i64) (.pair (.int .i64) (.pair .bool .unit)))))), (72, (.int .u64)), (75, (.int .u32)), (79, (.int .u64))] [3, 4, 22, 24] [24, 45] [(61, 0, 0), (65, 0, 0), (65, 1, 1), (65, 2, 2), (65, 3, 3)]
theorem G_ok : EnvOk Try.prog G := env_ok (by kernel_rfl)
noncomputable def disk_New_E (k : Nat) : Table := []
theorem disk_New_EOK (k : Nat) : TabOk Try.prog (disk_New_E k) := .nil
noncomputable def disk_New_G : Env := rowEnv G [(5, 3), (6, 17)]
/-- plenum/disk.New -/
noncomputable def disk_New_c : Code := bodyOf Try.f13
noncomputable def disk_New_wr0 : Norm := { keep := [(2, .asis)], objs := [[.asis, .asis, .asis, .asis], [.asis]], c := 0 }
noncomputable def disk_New (k : Nat) (a0 : Int) : Option (Unit × ((Nat × (Int × (Int × (Bool × Unit)))) × (((List Int) × Unit) × Unit))) := fnK disk_New_G (disk_New_E k) k .z disk_New_c 7 [.tmp 2] 0 [disk_New_wr0] [] [.int .i64 a0] [] (rd (Pt.ptr 0 0) (Os.cons (Ps.cons (Pt.asv0 (.int .u8) 1) (Ps.cons (Pt.int .i64) (Ps.cons (Pt.int .i64) (Ps.cons Pt.bool Ps.nil)))) (Os.cons (Ps.cons (Pt.row (.int .u8)) Ps.nil) Os.nil)))
theorem disk_New_eq (k : Nat) (a0 : Int) : disk_New k a0 = some ((), ((0, ((0 : Int), ((mxI a0 0), (true, ())))), (([], ()), ()))) := by kernel_rfl
noncomputable def disk_New_sp (k : Nat) : Spec := mkSp (Ps.cons (Pt.int .i64) Ps.nil) Os.nil (Pt.ptr 0 0) (Os.cons (Ps.cons (Pt.asv0 (.int .u8) 1) (Ps.cons (Pt.int .i64) (Ps.cons (Pt.int .i64) (Ps.cons Pt.bool Ps.nil)))) (Os.cons (Ps.cons (Pt.row (.int .u8)) Ps.nil) Os.nil)) (fun p o => disk_New k p.1) [.asis] [] 0 (fun _ => true)
theorem disk_New_ok (k : Nat) : SpecOk Try.prog 13 (disk_New_sp k) := mk_ok (k := k) (h := .z) (W := [disk_New_wr0]) (G_ok.rows _) (disk_New_EOK k) Try.func13 (c := disk_New_c) (by kernel_rfl) (by kernel_rfl) (by kernel_rfl) (by kernel_rfl) (by kernel_rfl) fun _ _ => rfl

noncomputable def disk_Disk_ok_E (k : Nat) : Table := []
theorem disk_Disk_ok_EOK (k : Nat) : TabOk Try.prog (disk_Disk_ok_E k) := .nil
/-- (*plenum/disk.Disk).ok -/
noncomputable def disk_Disk_ok_c : Code := bodyOf Try.f41
noncomputable def disk_Disk_ok_wr0 : Norm := { keep := [(2, .asis)], objs := [[.asis, .asis, .asis, .asis], [.asis]], c := 0 }
noncomputable def disk_Disk_ok (k : Nat) (a0 : Nat) (a1 : Int) (a2 : Int) (a3 : Bool) (a4 : (List Int)) : Option (Bool × ((Nat × (Int × (Int × (Bool × Unit)))) × (((List Int) × Unit) × Unit))) := fnK G (disk_Disk_ok_E k) k .z disk_Disk_ok_c 11 [.tmp 2] 0 [disk_Disk_ok_wr0] [] [.ptr 0 0] [[.ref (.asv (.int .u8) 0 a0) 1, .int .i64 a1, .int .i64 a2, .bool a3], [.blk (.row (.int .u8) a4)]] (rd Pt.bool (Os.cons (Ps.cons (Pt.asv0 (.int .u8) 1) (Ps.cons (Pt.int .i64) (Ps.cons (Pt.int .i64) (Ps.cons Pt.bool Ps.nil)))) (Os.cons (Ps.cons (Pt.row (.int .u8)) Ps.nil) Os.nil)))
theorem disk_Disk_ok_eq (k : Nat) (a0 : Nat) (a1 : Int) (a2 : Int) (a3 : Bool) (a4 : (List Int)) : disk_Disk_ok k a0 a1 a2 a3 a4 = some (a3, ((a0, (a1, (a2, (a3, ())))), ((a4, ()), ()))) := by kernel_rfl
noncomputable def disk_Disk_ok_sp (k : Nat) : Spec := mkSp (Ps.cons (Pt.ptr 0 0) Ps.nil) (Os.cons (Ps.cons (Pt.asv0 (.int .u8) 1) (Ps.cons (Pt.int .i64) (Ps.cons (Pt.int .i64) (Ps.cons Pt.bool Ps.nil)))) (Os.cons (Ps.cons (Pt.row (.int .u8)) Ps.nil) Os.nil)) Pt.bool (Os.cons (Ps.cons (Pt.asv0 (.int .u8) 1) (Ps.cons (Pt.int .i64) (Ps.cons (Pt.int .i64) (Ps.cons Pt.bool Ps.nil)))) (Os.cons (Ps.cons (Pt.row (.int .u8)) Ps.nil) Os.nil)) (fun p o => disk_Disk_ok k o.1.1 o.1.2.1 o.1.2.2.1 o.1.2.2.2.1 o.2.1.1) [.asis] [[.asis, .asis, .asis, .asis], [.asis]] 0 (fun xs => !isNilA 0 xs)
theorem disk_Disk_ok_ok (k : Nat) : SpecOk Try.prog 41 (disk_Disk_ok_sp k) := mk_ok (k := k) (h := .z) (W := [disk_Disk_ok_wr0]) G_ok (disk_Disk_ok_EOK k) Try.func41 (c := disk_Disk_ok_c) (by kernel_rfl) (by kernel_rfl) (by kernel_rfl) (by kernel_rfl) (by kernel_rfl) fun _ _ => rfl

noncomputable def disk_Disk_Bytes_E (k : Nat) : Table := [(41, disk_Disk_ok_sp k)]
theorem disk_Disk_Bytes_EOK (k : Nat) : TabOk Try.prog (disk_Disk_Bytes_E k) := .cons (disk_Disk_ok_ok k) <| .nil
/-- (*plenum/disk.Disk).Bytes -/
noncomputable def disk_Disk_Bytes_c : Code := bodyOf Try.f17
noncomputable def disk_Disk_Bytes_wr0 : Norm := { keep := [(2, .own 0)], objs := [[.asis, .asis, .asis, .asis], [.asis]], c := 1 }
noncomputable def disk_Disk_Bytes (k : Nat) (a0 : Nat) (a1 : Int) (a2 : Int) (a3 : Bool) (a4 : (List Int)) : Option ((List Int) × ((Nat × (Int × (Int × (Bool × Unit)))) × (((List Int) × Unit) × Unit))) := fnK G (disk_Disk_Bytes_E k) k .z disk_Disk_Bytes_c 11 [.tmp 2] 1 [disk_Disk_Bytes_wr0] [] [.ptr 0 0] [[.ref (.asv (.int .u8) 0 a0) 1, .int .i64 a1, .int .i64 a2, .bool a3], [.blk (.row (.int .u8) a4)]] (rd (Pt.own 0 (.int .u8)) (Os.cons (Ps.cons (Pt.asv0 (.int .u8) 1) (Ps.cons (Pt.int .i64) (Ps.cons (Pt.int .i64) (Ps.cons Pt.bool Ps.nil)))) (Os.cons (Ps.cons (Pt.row (.int .u8)) Ps.nil) Os.nil)))
theorem disk_Disk_Bytes_eq (k : Nat) (a0 : Nat) (a1 : Int) (a2 : Int) (a3 : Bool) (a4 : (List Int)) : disk_Disk_Bytes k a0 a1 a2 a3 a4 = (disk_Disk_ok k a0 a1 a2 a3 a4).bind fun r2 => (bif (!r2.1) then some ([], ((r2.2.1.1, (r2.2.1.2.1, (r2.2.1.2.2.1, (r2.2.1.2.2.2.1, ())))), ((r2.2.2.1.1, ()), ()))) else lim (0 + (r2.2.2.1.1.take r2.2.1.1).length) (some (([] ++ (r2.2.2.1.1.take r2.2.1.1)), ((r2.2.1.1, (r2.2.1.2.1, (r2.2.1.2.2.1, (r2.2.1.2.2.2.1, ())))), ((r2.2.2.1.1, ()), ()))))) := by kernel_rfl
noncomputable def disk_Disk_Bytes_sp (k : Nat) : Spec := mkSp (Ps.cons (Pt.ptr 0 0) Ps.nil) (Os.cons (Ps.cons (Pt.asv0 (.int .u8) 1) (Ps.cons (Pt.int .i64) (Ps.cons (Pt.int .i64) (Ps.cons Pt.bool Ps.nil)))) (Os.cons (Ps.cons (Pt.row (.int .u8)) Ps.nil) Os.nil)) (Pt.own 0 (.int .u8)) (Os.cons (Ps.cons (Pt.asv0 (.int .u8) 1) (Ps.cons (Pt.int .i64) (Ps.cons (Pt.int .i64) (Ps.cons Pt.bool Ps.nil)))) (Os.cons (Ps.cons (Pt.row (.int .u8)) Ps.nil) Os.nil)) (fun p o => disk_Disk_Bytes k o.1.1 o.1.2.1 o.1.2.2.1 o.1.2.2.2.1 o.2.1.1) [.asis] [[.asis, .asis, .asis, .asis], [.asis]] 1 (fun xs => !isNilA 0 xs)
theorem disk_Disk_Bytes_ok (k : Nat) : SpecOk Try.prog 17 (disk_Disk_Bytes_sp k) := mk_ok (k := k) (h := .z) (W := [disk_Disk_Bytes_wr0]) G_ok (disk_Disk_Bytes_EOK k) Try.func17 (c := disk_Disk_Bytes_c) (by kernel_rfl) (by kernel_rfl) (by kernel_rfl) (by kernel_rfl) (by kernel_rfl) fun _ _ => rfl

noncomputable def num_Of_E (k : Nat) : Table := []
theorem num_Of_EOK (k : Nat) : TabOk Try.prog (num_Of_E k) := .nil
/-- plenum/num.Of -/
noncomputable def num_Of_c : Code := bodyOf Try.f53
noncomputable def num_Of_wrrlrl : Norm := { keep := [(3, .asis), (6, .sh), (7, .asis), (8, .asis)], objs := [], c := 0 }
noncomputable def num_Of_wr0 : Norm := { keep := [(2, .asis)], objs := [], c := 0 }
noncomputable def num_Of (k : Nat) (a0 : (List Int)) : Option (Int × Unit) := fnK G (num_Of_E k) k (.two .z (.two .z (.two (.two .z (.lp num_Of_wrrlrl .z)) .z))) num_Of_c 19 [.tmp 2] 0 [num_Of_wr0] [] [.sl (.int .u8) .sh none a0] [] (rd (Pt.int .u64) Os.nil)
noncomputable def num_Of_l0 (k n : Nat) (v11 : Int) (v12 : (List Int)) (v13 : Int) (v14 : Int) : Option (Int × Unit) := iter (exec G (num_Of_E k) k .z (lft (lft (rgt (lft (rgt (rgt num_Of_c))))))) num_Of_wrrlrl (blkK 0 (seqK (exec G (num_Of_E k) k .z (rgt (rgt (rgt num_Of_c)))) (retK G [.tmp 2] 0 [num_Of_wr0] (rd (Pt.int .u64) Os.nil)))) n (mkS 19 0 [(3, (.int .u64 v11)), (6, (.sl (.int .u8) .sh none v12)), (7, (.int .i64 v13)), (8, (.int .i64 v14))] 0 [] [])
theorem num_Of_l0_zero (k : Nat) (v11 : Int) (v12 : (List Int)) (v13 : Int) (v14 : Int) : num_Of_l0 k 0 v11 v12 v13 v14 = none := rfl
theorem num_Of_l0_eq (k n : Nat) (v11 : Int) (v12 : (List Int)) (v13 : Int) (v14 : Int) : num_Of_l0 k (n + 1) v11 v12 v13 v14 = (bif (decide (v14 < v13)) then (nth v12 v14).bind fun x15 => num_Of_l0 k n (Go.bits .or .u64 (wr .u64 (v11 * 256)) (wr .u64 x15)) v12 v13 (wr .i64 (v14 + 1)) else some (v11, ())) := by kernel_rfl
theorem num_Of_eq (k : Nat) (a0 : (List Int)) : num_Of k a0 = num_Of_l0 k k (0 : Int) a0 (a0.length : Int) (0 : Int) := by kernel_rfl
noncomputable def num_Of_sp (k : Nat) : Spec := mkSp (Ps.cons (Pt.sl (.int .u8)) Ps.nil) Os.nil (Pt.int .u64) Os.nil (fun p o => num_Of k p.1) [.sh] [] 0 (fun _ => true)
theorem num_Of_ok (k : Nat) : SpecOk Try.prog 53 (num_Of_sp k) := mk_ok (k := k) (h := (.two .z (.two .z (.two (.two .z (.lp num_Of_wrrlrl .z)) .z)))) (W := [num_Of_wr0]) G_ok (num_Of_EOK k) Try.func53 (c := num_Of_c) (by kernel_rfl) (by kernel_rfl) (by kernel_rfl) (by kernel_rfl) (by kernel_rfl) fun _ _ => rfl

noncomputable def crc_turn_E (k : Nat) : Table := []
theorem crc_turn_EOK (k : Nat) : TabOk Try.prog (crc_turn_E k) := .nil
/-- plenum/crc.turn -/
noncomputable def crc_turn_c : Code := bodyOf Try.f59
noncomputable def crc_turn_wrlrl : Norm := { keep := [(0, .asis), (4, .asis)], objs := [], c := 0 }
noncomputable def crc_turn_wr0 : Norm := { keep := [(2, .asis)], objs := [], c := 0 }
noncomputable def crc_turn (k : Nat) (a0 : Int) : Option (Int × Unit) := fnK G (crc_turn_E k) k (.two .z (.two (.two .z (.lp crc_turn_wrlrl .z)) .z)) crc_turn_c 17 [.tmp 2] 0 [crc_turn_wr0] [] [.int .u32 a0] [] (rd (Pt.int .u32) Os.nil)
noncomputable def crc_turn_l0 (k n : Nat) (v24 : Int) (v25 : Int) : Option (Int × Unit) := iter (exec G (crc_turn_E k) k .z (lft (lft (rgt (lft (rgt crc_turn_c)))))) crc_turn_wrlrl (blkK 0 (seqK (exec G (crc_turn_E k) k .z (rgt (rgt crc_turn_c))) (retK G [.tmp 2] 0 [crc_turn_wr0] (rd (Pt.int .u32) Os.nil)))) n (mkS 17 0 [(0, (.int .u32 v24)), (4, (.int .i64 v25))] 0 [] [])
theorem crc_turn_l0_zero (k : Nat) (v24 : Int) (v25 : Int) : crc_turn_l0 k 0 v24 v25 = none := rfl
theorem crc_turn_l0_eq (k n : Nat) (v24 : Int) (v25 : Int) : crc_turn_l0 k (n + 1) v24 v25 = (bif (decide (v25 < 8)) then crc_turn_l0 k n (Go.bits .xor .u32 (v24 / 2) (Go.bits .and .u32 2197175160 (wr .u32 (0 - (Go.bits .and .u32 v24 1))))) (wr .i64 (v25 + 1)) else some (v24, ())) := by kernel_rfl
theorem crc_turn_eq (k : Nat) (a0 : Int) : crc_turn k a0 = crc_turn_l0 k k a0 (0 : Int) := by kernel_rfl
noncomputable def crc_turn_sp (k : Nat) : Spec := mkSp (Ps.cons (Pt.int .u32) Ps.nil) Os.nil (Pt.int .u32) Os.nil (fun p o => crc_turn k p.1) [.asis] [] 0 (fun _ => true)
theorem crc_turn_ok (k : Nat) : SpecOk Try.prog 59 (crc_turn_sp k) := mk_ok (k := k) (h := (.two .z (.two (.two .z (.lp crc_turn_wrlrl .z)) .z))) (W := [crc_turn_wr0]) G_ok (crc_turn_EOK k) Try.func59 (c := crc_turn_c) (by kernel_rfl) (by kernel_rfl) (by kernel_rfl) (by kernel_rfl) (by kernel_rfl) fun _ _ => rfl

noncomputable def crc_Step_E (k : Nat) : Table := [(59, crc_turn_sp k)]
theorem crc_Step_EOK (k : Nat) : TabOk Try.prog (crc_Step_E k) := .cons (crc_turn_ok k) <| .nil
/-- plenum/crc.Step -/
noncomputable def crc_Step_c : Code := bodyOf Try.f58
noncomputable def crc_Step_wr0 : Norm := { keep := [(4, .asis)], objs := [], c := 0 }
noncomputable def crc_Step (k : Nat) (a0 : Int) (a1 : Int) : Option (Int × Unit) := fnK G (crc_Step_E k) k .z crc_Step_c 10 [.tmp 4] 0 [crc_Step_wr0] [] [.int .u32 a0, .int .u8 a1] [] (rd (Pt.int .u32) Os.nil)
theorem crc_Step_eq (k : Nat) (a0 : Int) (a1 : Int) : crc_Step k a0 a1 = (crc_turn k (Go.bits .xor .u32 a0 (wr .u32 a1))).bind fun r26 => some (r26.1, ()) := by kernel_rfl
noncomputable def crc_Step_sp (k : Nat) : Spec := mkSp (Ps.cons (Pt.int .u32) (Ps.cons (Pt.int .u8) Ps.nil)) Os.nil (Pt.int .u32) Os.nil (fun p o => crc_Step k p.1 p.2.1) [.asis, .asis] [] 0 (fun _ => true)
theorem crc_Step_ok (k : Nat) : SpecOk Try.prog 58 (crc_Step_sp k) := mk_ok (k := k) (h := .z) (W := [crc_Step_wr0]) G_ok (crc_Step_EOK k) Try.func58 (c := crc_Step_c) (by kernel_rfl) (by kernel_rfl) (by kernel_rfl) (by kernel_rfl) (by kernel_rfl) fun _ _ => rfl

noncomputable def crc_More_E (k : Nat) : Table := [(58, crc_Step_sp k)]
theorem crc_More_EOK (k : Nat) : TabOk Try.prog (crc_More_E k) := .cons (crc_Step_ok k) <| .nil
/-- plenum/crc.More -/
noncomputable def crc_More_c : Code := bodyOf Try.f57
noncomputable def crc_More_wrlrl : Norm := { keep := [(0, .asis), (7, .sh), (8, .asis), (9, .asis)], objs := [], c := 0 }
noncomputable def crc_More_wr0 : Norm := { keep := [(4, .asis)], objs := [], c := 0 }
noncomputable def crc_More (k : Nat) (a0 : Int) (a1 : (List Int)) : Option (Int × Unit) := fnK G (crc_More_E k) k (.two .z (.two (.two .z (.lp crc_More_wrlrl .z)) .z)) crc_More_c 18 [.tmp 4] 0 [crc_More_wr0] [] [.int .u32 a0, .sl (.int .u8) .sh none a1] [] (rd (Pt.int .u32) Os.nil)
noncomputable def crc_More_l0 (k n : Nat) (v19 : Int) (v20 : (List Int)) (v21 : Int) (v22 : Int) : Option (Int × Unit) := iter (exec G (crc_More_E k) k .z (lft (lft (rgt (lft (rgt crc_More_c)))))) crc_More_wrlrl (blkK 0 (seqK (exec G (crc_More_E k) k .z (rgt (rgt crc_More_c))) (retK G [.tmp 4] 0 [crc_More_wr0] (rd (Pt.int .u32) Os.nil)))) n (mkS 18 0 [(0, (.int .u32 v19)), (7, (.sl (.int .u8) .sh none v20)), (8, (.int .i64 v21)), (9, (.int .i64 v22))] 0 [] [])
theorem crc_More_l0_zero (k : Nat) (v19 : Int) (v20 : (List Int)) (v21 : Int) (v22 : Int) : crc_More_l0 k 0 v19 v20 v21 v22 = none := rfl
theorem crc_More_l0_eq (k n : Nat) (v19 : Int) (v20 : (List Int)) (v21 : Int) (v22 : Int) : crc_More_l0 k (n + 1) v19 v20 v21 v22 = (bif (decide (v22 < v21)) then (nth v20 v22).bind fun x23 => (crc_Step k v19 x23).bind fun r27 => crc_More_l0 k n r27.1 v20 v21 (wr .i64 (v22 + 1)) else some (v19, ())) := by kernel_rfl
theorem crc_More_eq (k : Nat) (a0 : Int) (a1 : (List Int)) : crc_More k a0 a1 = crc_More_l0 k k a0 a1 (a1.length : Int) (0 : Int) := by kernel_rfl
noncomputable def crc_More_sp (k : Nat) : Spec := mkSp (Ps.cons (Pt.int .u32) (Ps.cons (Pt.sl (.int .u8)) Ps.nil)) Os.nil (Pt.int .u32) Os.nil (fun p o => crc_More k p.1 p.2.1) [.asis, .sh] [] 0 (fun _ => true)
theorem crc_More_ok (k : Nat) : SpecOk Try.prog 57 (crc_More_sp k) := mk_ok (k := k) (h := (.two .z (.two (.two .z (.lp crc_More_wrlrl .z)) .z))) (W := [crc_More_wr0]) G_ok (crc_More_EOK k) Try.func57 (c := crc_More_c) (by kernel_rfl) (by kernel_rfl) (by kernel_rfl) (by kernel_rfl) (by kernel_rfl) fun _ _ => rfl

noncomputable def frame_sum_E (k : Nat) : Table := [(57, crc_More_sp k)]
theorem frame_sum_EOK (k : Nat) : TabOk Try.prog (frame_sum_E k) := .cons (crc_More_ok k) <| .nil
/-- plenum/frame.sum -/
noncomputable def frame_sum_c : Code := bodyOf Try.f54
noncomputable def frame_sum_wr0 : Norm := { keep := [(4, .asis)], objs := [], c := 0 }
noncomputable def frame_sum (k : Nat) (a0 : (List Int)) (a1 : (List Int)) : Option (Int × Unit) := fnK G (frame_sum_E k) k .z frame_sum_c 10 [.tmp 4] 0 [frame_sum_wr0] [] [.sl (.int .u8) .sh none a0, .sl (.int .u8) .sh none a1] [] (rd (Pt.int .u32) Os.nil)
theorem frame_sum_eq (k : Nat) (a0 : (List Int)) (a1 : (List Int)) : frame_sum k a0 a1 = (crc_More k (4294967295 : Int) a0).bind fun r28 => (crc_More k r28.1 a1).bind fun r29 => some ((Go.bits .xor .u32 4294967295 r29.1), ()) := by kernel_rfl
noncomputable def frame_sum_sp (k : Nat) : Spec := mkSp (Ps.cons (Pt.sl (.int .u8)) (Ps.cons (Pt.sl (.int .u8)) Ps.nil)) Os.nil (Pt.int .u32) Os.nil (fun p o => frame_sum k p.1 p.2.1) [.sh, .sh] [] 0 (fun _ => true)
theorem frame_sum_ok (k : Nat) : SpecOk Try.prog 54 (frame_sum_sp k) := mk_ok (k := k) (h := .z) (W := [frame_sum_wr0]) G_ok (frame_sum_EOK k) Try.func54 (c := frame_sum_c) (by kernel_rfl) (by kernel_rfl) (by kernel_rfl) (by kernel_rfl) (by kernel_rfl) fun _ _ => rfl

noncomputable def frame_Of_E (k : Nat) : Table := [(54, frame_sum_sp k), (53, num_Of_sp k)]
theorem frame_Of_EOK (k : Nat) : TabOk Try.prog (frame_Of_E k) := .cons (frame_sum_ok k) <| .cons (num_Of_ok k) <| .nil
/-- plenum/frame.Of -/
noncomputable def frame_Of_c : Code := bodyOf Try.f47
noncomputable def frame_Of_wr0 : Norm := { keep := [(2, .own 0), (3, .asis), (4, .asis)], objs := [], c := 1 }
noncomputable def frame_Of (k : Nat) (a0 : (List Int)) : Option (((List Int) × (Int × (Int × Unit))) × Unit) := fnK G (frame_Of_E k) k .z frame_Of_c 45 [.tmp 2, .tmp 3, .tmp 4] 1 [frame_Of_wr0] [] [.sl (.int .u8) .sh none a0] [] (rd (Pt.tup (Ps.cons (Pt.own 0 (.int .u8)) (Ps.cons (Pt.int .i64) (Ps.cons (Pt.int .i64) Ps.nil)))) Os.nil)
theorem frame_Of_eq (k : Nat) (a0 : (List Int)) : frame_Of k a0 = (bif (decide ((a0.length : Int) < 8)) then some (([], ((0 : Int), ((50 : Int), ()))), ()) else must (beqI 4 4) ((cut a0 0 4).bind fun x9 => must (beqI 8 8) ((cut a0 4 8).bind fun x10 => (num_Of k x10).bind fun r16 => (num_Of k x9).bind fun r17 => (bif (decide (65536 < r17.1)) then some (([], ((0 : Int), ((50 : Int), ()))), ()) else (bif (decide ((wr .u64 (wr .i64 ((a0.length : Int) - 8))) < r17.1)) then some (([], ((0 : Int), ((50 : Int), ()))), ()) else must (beqI (wr .i64 (8 + (wr .i64 r17.1))) (wr .i64 (8 + (wr .i64 r17.1)))) ((cut a0 8 (wr .i64 (8 + (wr .i64 r17.1)))).bind fun x18 => (frame_sum k x9 x18).bind fun r30 => (bif (!decide (r30.1 = (wr .u32 r16.1))) then some (([], ((0 : Int), ((50 : Int), ()))), ()) else lim (0 + x18.length) (some ((([] ++ x18), ((wr .i64 (8 + (wr .i64 r17.1))), ((0 : Int), ()))), ()))))))))) := by kernel_rfl
noncomputable def frame_Of_sp (k : Nat) : Spec := mkSp (Ps.cons (Pt.sl (.int .u8)) Ps.nil) Os.nil (Pt.tup (Ps.cons (Pt.own 0 (.int .u8)) (Ps.cons (Pt.int .i64) (Ps.cons (Pt.int .i64) Ps.nil)))) Os.nil (fun p o => frame_Of k p.1) [.sh] [] 1 (fun _ => true)
theorem frame_Of_ok (k : Nat) : SpecOk Try.prog 47 (frame_Of_sp k) := mk_ok (k := k) (h := .z) (W := [frame_Of_wr0]) G_ok (frame_Of_EOK k) Try.func47 (c := frame_Of_c) (by kernel_rfl) (by kernel_rfl) (by kernel_rfl) (by kernel_rfl) (by kernel_rfl) fun _ _ => rfl

noncomputable def frame_All_E (k : Nat) : Table := [(47, frame_Of_sp k)]
theorem frame_All_EOK (k : Nat) : TabOk Try.prog (frame_All_E k) := .cons (frame_Of_ok k) <| .nil
/-- plenum/frame.All -/
noncomputable def frame_All_c : Code := bodyOf Try.f42
noncomputable def frame_All_wrl : Norm := { keep := [(0, .sh), (2, .ownN 0), (3, .asis)], objs := [], c := 1 }
noncomputable def frame_All_wr0 : Norm := { keep := [(2, .own 0), (3, .asis)], objs := [], c := 1 }
noncomputable def frame_All (k : Nat) (a0 : (List Int)) : Option (((List (List Int)) × (Int × Unit)) × Unit) := fnK G (frame_All_E k) k (.two .z (.lp frame_All_wrl .z)) frame_All_c 26 [.tmp 2, .tmp 3] 1 [frame_All_wr0] [] [.sl (.int .u8) .sh none a0] [] (rd (Pt.tup (Ps.cons (Pt.own 0 (.sl (.int .u8))) (Ps.cons (Pt.int .i64) Ps.nil))) Os.nil)
noncomputable def frame_All_l0 (k n : Nat) (v4 : (List Int)) (v5 : Bool) (v6 : (List (List Int))) (v7 : Int) : Option (((List (List Int)) × (Int × Unit)) × Unit) := iter (exec G (frame_All_E k) k .z (lft (lft (rgt frame_All_c)))) frame_All_wrl (blkK 0 (retK G [.tmp 2, .tmp 3] 1 [frame_All_wr0] (rd (Pt.tup (Ps.cons (Pt.own 0 (.sl (.int .u8))) (Ps.cons (Pt.int .i64) Ps.nil))) Os.nil))) n (mkS 26 0 [(0, (.sl (.int .u8) .sh none v4)), (2, (.sl (.sl (.int .u8)) (.own 0) (some v5) v6)), (3, (.int .i64 v7))] 1 [0] [])
theorem frame_All_l0_zero (k : Nat) (v4 : (List Int)) (v5 : Bool) (v6 : (List (List Int))) (v7 : Int) : frame_All_l0 k 0 v4 v5 v6 v7 = none := rfl
theorem frame_All_l0_eq (k n : Nat) (v4 : (List Int)) (v5 : Bool) (v6 : (List (List Int))) (v7 : Int) : frame_All_l0 k (n + 1) v4 v5 v6 v7 = (cut v4 v7 v4.length).bind fun x8 => (frame_Of k x8).bind fun r31 => (bif (!decide (r31.1.2.2.1 = 0)) then some ((v6, (v7, ())), ()) else lim (v6.length + [r31.1.1].length) (frame_All_l0 k n v4 (v5 && [r31.1.1].isEmpty) (v6 ++ [r31.1.1]) (wr .i64 (v7 + r31.1.2.1)))) := by kernel_rfl
theorem frame_All_eq (k : Nat) (a0 : (List Int)) : frame_All k a0 = frame_All_l0 k k a0 true [] (0 : Int) := by kernel_rfl
noncomputable def frame_All_sp (k : Nat) : Spec := mkSp (Ps.cons (Pt.sl (.int .u8)) Ps.nil) Os.nil (Pt.tup (Ps.cons (Pt.own 0 (.sl (.int .u8))) (Ps.cons (Pt.int .i64) Ps.nil))) Os.nil (fun p o => frame_All k p.1) [.sh] [] 1 (fun _ => true)
theorem frame_All_ok (k : Nat) : SpecOk Try.prog 42 (frame_All_sp k) := mk_ok (k := k) (h := (.two .z (.lp frame_All_wrl .z))) (W := [frame_All_wr0]) G_ok (frame_All_EOK k) Try.func42 (c := frame_All_c) (by kernel_rfl) (by kernel_rfl) (by kernel_rfl) (by kernel_rfl) (by kernel_rfl) fun _ _ => rfl

noncomputable def wal_Records_E (k : Nat) : Table := [(42, frame_All_sp k)]
theorem wal_Records_EOK (k : Nat) : TabOk Try.prog (wal_Records_E k) := .cons (frame_All_ok k) <| .nil
/-- plenum/wal.Records -/
noncomputable def wal_Records_c : Code := bodyOf Try.f30
noncomputable def wal_Records_wr0 : Norm := { keep := [(2, .own 0), (3, .asis)], objs := [], c := 1 }
noncomputable def wal_Records (k : Nat) (a0 : (List Int)) : Option (((List (List Int)) × (Int × Unit)) × Unit) := fnK G (wal_Records_E k) k .z wal_Records_c 8 [.tmp 2, .tmp 3] 1 [wal_Records_wr0] [] [.sl (.int .u8) .sh none a0] [] (rd (Pt.tup (Ps.cons (Pt.own 0 (.sl (.int .u8))) (Ps.cons (Pt.int .i64) Ps.nil))) Os.nil)
theorem wal_Records_eq (k : Nat) (a0 : (List Int)) : wal_Records k a0 = (frame_All k a0).bind fun r32 => some ((r32.1.1, (r32.1.2.1, ())), ()) := by kernel_rfl
noncomputable def wal_Records_sp (k : Nat) : Spec := mkSp (Ps.cons (Pt.sl (.int .u8)) Ps.nil) Os.nil (Pt.tup (Ps.cons (Pt.own 0 (.sl (.int .u8))) (Ps.cons (Pt.int .i64) Ps.nil))) Os.nil (fun p o => wal_Records k p.1) [.sh] [] 1 (fun _ => true)
theorem wal_Records_ok (k : Nat) : SpecOk Try.prog 30 (wal_Records_sp k) := mk_ok (k := k) (h := .z) (W := [wal_Records_wr0]) G_ok (wal_Records_EOK k) Try.func30 (c := wal_Records_c) (by kernel_rfl) (by kernel_rfl) (by kernel_rfl) (by kernel_rfl) (by kernel_rfl) fun _ _ => rfl

noncomputable def disk_Disk_Sync_E (k : Nat) : Table := [(41, disk_Disk_ok_sp k)]
theorem disk_Disk_Sync_EOK (k : Nat) : TabOk Try.prog (disk_Disk_Sync_E k) := .cons (disk_Disk_ok_ok k) <| .nil
/-- (*plenum/disk.Disk).Sync -/
noncomputable def disk_Disk_Sync_c : Code := bodyOf Try.f15
noncomputable def disk_Disk_Sync_wr0 : Norm := { keep := [(2, .asis)], objs := [[.asis, .asis, .asis, .asis], [.asis]], c := 0 }
noncomputable def disk_Disk_Sync (k : Nat) (a0 : Nat) (a1 : Int) (a2 : Int) (a3 : Bool) (a4 : (List Int)) : Option (Int × ((Nat × (Int × (Int × (Bool × Unit)))) × (((List Int) × Unit) × Unit))) := fnK G (disk_Disk_Sync_E k) k .z disk_Disk_Sync_c 14 [.tmp 2] 0 [disk_Disk_Sync_wr0] [] [.ptr 0 0] [[.ref (.asv (.int .u8) 0 a0) 1, .int .i64 a1, .int .i64 a2, .bool a3], [.blk (.row (.int .u8) a4)]] (rd (Pt.int .i64) (Os.cons (Ps.cons (Pt.asv0 (.int .u8) 1) (Ps.cons (Pt.int .i64) (Ps.cons (Pt.int .i64) (Ps.cons Pt.bool Ps.nil)))) (Os.cons (Ps.cons (Pt.row (.int .u8)) Ps.nil) Os.nil)))
theorem disk_Disk_Sync_eq (k : Nat) (a0 : Nat) (a1 : Int) (a2 : Int) (a3 : Bool) (a4 : (List Int)) : disk_Disk_Sync k a0 a1 a2 a3 a4 = (disk_Disk_ok k a0 a1 a2 a3 a4).bind fun r35 => (bif (!r35.1) then some ((60 : Int), ((r35.2.1.1, (r35.2.1.2.1, (r35.2.1.2.2.1, (r35.2.1.2.2.2.1, ())))), ((r35.2.2.1.1, ()), ()))) else some ((0 : Int), ((r35.2.1.1, (((r35.2.1.1 : Nat) : Int), (r35.2.1.2.2.1, (r35.2.1.2.2.2.1, ())))), ((r35.2.2.1.1, ()), ())))) := by kernel_rfl
noncomputable def disk_Disk_Sync_sp (k : Nat) : Spec := mkSp (Ps.cons (Pt.ptr 0 0) Ps.nil) (Os.cons (Ps.cons (Pt.asv0 (.int .u8) 1) (Ps.cons (Pt.int .i64) (Ps.cons (Pt.int .i64) (Ps.cons Pt.bool Ps.nil)))) (Os.cons (Ps.cons (Pt.row (.int .u8)) Ps.nil) Os.nil)) (Pt.int .i64) (Os.cons (Ps.cons (Pt.asv0 (.int .u8) 1) (Ps.cons (Pt.int .i64) (Ps.cons (Pt.int .i64) (Ps.cons Pt.bool Ps.nil)))) (Os.cons (Ps.cons (Pt.row (.int .u8)) Ps.nil) Os.nil)) (fun p o => disk_Disk_Sync k o.1.1 o.1.2.1 o.1.2.2.1 o.1.2.2.2.1 o.2.1.1) [.asis] [[.asis, .asis, .asis, .asis], [.asis]] 0 (fun xs => !isNilA 0 xs)
theorem disk_Disk_Sync_ok (k : Nat) : SpecOk Try.prog 15 (disk_Disk_Sync_sp k) := mk_ok (k := k) (h := .z) (W := [disk_Disk_Sync_wr0]) G_ok (disk_Disk_Sync_EOK k) Try.func15 (c := disk_Disk_Sync_c) (by kernel_rfl) (by kernel_rfl) (by kernel_rfl) (by kernel_rfl) (by kernel_rfl) fun _ _ => rfl

noncomputable def disk_Disk_Cut_E (k : Nat) : Table := [(15, disk_Disk_Sync_sp k), (41, disk_Disk_ok_sp k)]
theorem disk_Disk_Cut_EOK (k : Nat) : TabOk Try.prog (disk_Disk_Cut_E k) := .cons (disk_Disk_Sync_ok k) <| .cons (disk_Disk_ok_ok k) <| .nil
/-- (*plenum/disk.Disk).Cut -/
noncomputable def disk_Disk_Cut_c : Code := bodyOf Try.f24
noncomputable def disk_Disk_Cut_wr0 : Norm := { keep := [(4, .asis)], objs := [[.asis, .asis, .asis, .asis], [.asis]], c := 0 }
noncomputable def disk_Disk_Cut (k : Nat) (a0 : Int) (a1 : Nat) (a2 : Int) (a3 : Int) (a4 : Bool) (a5 : (List Int)) : Option (Int × ((Nat × (Int × (Int × (Bool × Unit)))) × (((List Int) × Unit) × Unit))) := fnK G (disk_Disk_Cut_E k) k .z disk_Disk_Cut_c 32 [.tmp 4] 0 [disk_Disk_Cut_wr0] [] [.ptr 0 0, .int .i64 a0] [[.ref (.asv (.int .u8) 0 a1) 1, .int .i64 a2, .int .i64 a3, .bool a4], [.blk (.row (.int .u8) a5)]] (rd (Pt.int .i64) (Os.cons (Ps.cons (Pt.asv0 (.int .u8) 1) (Ps.cons (Pt.int .i64) (Ps.cons (Pt.int .i64) (Ps.cons Pt.bool Ps.nil)))) (Os.cons (Ps.cons (Pt.row (.int .u8)) Ps.nil) Os.nil)))
theorem disk_Disk_Cut_eq (k : Nat) (a0 : Int) (a1 : Nat) (a2 : Int) (a3 : Int) (a4 : Bool) (a5 : (List Int)) : disk_Disk_Cut k a0 a1 a2 a3 a4 a5 = (disk_Disk_ok k a1 a2 a3 a4 a5).bind fun r34 => (bif (!r34.1) then some ((60 : Int), ((r34.2.1.1, (r34.2.1.2.1, (r34.2.1.2.2.1, (r34.2.1.2.2.2.1, ())))), ((r34.2.2.1.1, ()), ()))) else (bif (decide (a0 < 0)) then some ((1 : Int), ((r34.2.1.1, (r34.2.1.2.1, (r34.2.1.2.2.1, (r34.2.1.2.2.2.1, ())))), ((r34.2.2.1.1, ()), ()))) else (bif (decide (((r34.2.1.1 : Nat) : Int) < a0)) then some ((1 : Int), ((r34.2.1.1, (r34.2.1.2.1, (r34.2.1.2.2.1, (r34.2.1.2.2.2.1, ())))), ((r34.2.2.1.1, ()), ()))) else must (inC (0 : Int) a0 r34.2.1.1) ((disk_Disk_Sync k a0.toNat r34.2.1.2.1 r34.2.1.2.2.1 r34.2.1.2.2.2.1 r34.2.2.1.1).bind fun r36 => some (r36.1, ((r36.2.1.1, (r36.2.1.2.1, (r36.2.1.2.2.1, (r36.2.1.2.2.2.1, ())))), ((r36.2.2.1.1, ()), ()))))))) := by kernel_rfl
noncomputable def disk_Disk_Cut_sp (k : Nat) : Spec := mkSp (Ps.cons (Pt.ptr 0 0) (Ps.cons (Pt.int .i64) Ps.nil)) (Os.cons (Ps.cons (Pt.asv0 (.int .u8) 1) (Ps.cons (Pt.int .i64) (Ps.cons (Pt.int .i64) (Ps.cons Pt.bool Ps.nil)))) (Os.cons (Ps.cons (Pt.row (.int .u8)) Ps.nil) Os.nil)) (Pt.int .i64) (Os.cons (Ps.cons (Pt.asv0 (.int .u8) 1) (Ps.cons (Pt.int .i64) (Ps.cons (Pt.int .i64) (Ps.cons Pt.bool Ps.nil)))) (Os.cons (Ps.cons (Pt.row (.int .u8)) Ps.nil) Os.nil)) (fun p o => disk_Disk_Cut k p.2.1 o.1.1 o.1.2.1 o.1.2.2.1 o.1.2.2.2.1 o.2.1.1) [.asis, .asis] [[.asis, .asis, .asis, .asis], [.asis]] 0 (fun xs => !isNilA 0 xs)
theorem disk_Disk_Cut_ok (k : Nat) : SpecOk Try.prog 24 (disk_Disk_Cut_sp k) := mk_ok (k := k) (h := .z) (W := [disk_Disk_Cut_wr0]) G_ok (disk_Disk_Cut_EOK k) Try.func24 (c := disk_Disk_Cut_c) (by kernel_rfl) (by kernel_rfl) (by kernel_rfl) (by kernel_rfl) (by kernel_rfl) fun _ _ => rfl

noncomputable def wal_Open_ou : Ou (((Unit × ((List (List Int)) × (Int × Unit))) × ((Nat × (Int × (Int × (Bool × Unit)))) × (((List Int) × Unit) × Unit))) ⊕ ((Unit × ((List (List Int)) × (Int × Unit))) × ((Nat × (Int × (Int × (Bool × Unit)))) × (((List Int) × Unit) × ((Unit × Unit) × Unit))))) := Ou.or (Ou.one (Pt.tup (Ps.cons Pt.nilp (Ps.cons (Pt.own 0 (.sl (.int .u8))) (Ps.cons (Pt.int .i64) Ps.nil)))) (Os.cons (Ps.cons (Pt.asv0 (.int .u8) 1) (Ps.cons (Pt.int .i64) (Ps.cons (Pt.int .i64) (Ps.cons Pt.bool Ps.nil)))) (Os.cons (Ps.cons (Pt.row (.int .u8)) Ps.nil) Os.nil))) (Ou.one (Pt.tup (Ps.cons (Pt.ptr 2 0) (Ps.cons (Pt.own 0 (.sl (.int .u8))) (Ps.cons (Pt.int .i64) Ps.nil)))) (Os.cons (Ps.cons (Pt.asv0 (.int .u8) 1) (Ps.cons (Pt.int .i64) (Ps.cons (Pt.int .i64) (Ps.cons Pt.bool Ps.nil)))) (Os.cons (Ps.cons (Pt.row (.int .u8)) Ps.nil) (Os.cons (Ps.cons (Pt.ptr 0 0) Ps.nil) Os.nil))))
noncomputable def wal_Open_E (k : Nat) : Table := [(17, disk_Disk_Bytes_sp k), (24, disk_Disk_Cut_sp k), (30, wal_Records_sp k)]
theorem wal_Open_EOK (k : Nat) : TabOk Try.prog (wal_Open_E k) := .cons (disk_Disk_Bytes_ok k) <| .cons (disk_Disk_Cut_ok k) <| .cons (wal_Records_ok k) <| .nil
noncomputable def wal_Open_G : Env := rowEnv G [(21, 3)]
/-- plenum/wal.Open -/
noncomputable def wal_Open_c : Code := bodyOf Try.f28
noncomputable def wal_Open_wr0 : Norm := { keep := [(2, .asis), (3, .own 0), (4, .asis)], objs := [[.asis, .asis, .asis, .asis], [.asis]], c := 1 }
noncomputable def wal_Open_wr1 : Norm := { keep := [(2, .asis), (3, .own 0), (4, .asis)], objs := [[.asis, .asis, .asis, .asis], [.asis], [.asis]], c := 1 }
noncomputable def wal_Open (k : Nat) (a0 : Nat) (a1 : Int) (a2 : Int) (a3 : Bool) (a4 : (List Int)) : Option (((Unit × ((List (List Int)) × (Int × Unit))) × ((Nat × (Int × (Int × (Bool × Unit)))) × (((List Int) × Unit) × Unit))) ⊕ ((Unit × ((List (List Int)) × (Int × Unit))) × ((Nat × (Int × (Int × (Bool × Unit)))) × (((List Int) × Unit) × ((Unit × Unit) × Unit))))) := fnK wal_Open_G (wal_Open_E k) k .z wal_Open_c 24 [.tmp 2, .tmp 3, .tmp 4] 1 [wal_Open_wr0, wal_Open_wr1] [] [.ptr 0 0] [[.ref (.asv (.int .u8) 0 a0) 1, .int .i64 a1, .int .i64 a2, .bool a3], [.blk (.row (.int .u8) a4)]] wal_Open_ou.dec
theorem wal_Open_eq (k : Nat) (a0 : Nat) (a1 : Int) (a2 : Int) (a3 : Bool) (a4 : (List Int)) : wal_Open k a0 a1 a2 a3 a4 = (disk_Disk_Bytes k a0 a1 a2 a3 a4).bind fun r3 => (wal_Records k r3.1).bind fun r33 => (disk_Disk_Cut k r33.1.2.1 r3.2.1.1 r3.2.1.2.1 r3.2.1.2.2.1 r3.2.1.2.2.2.1 r3.2.2.1.1).bind fun r37 => (bif (!decide (r37.1 = 0)) then some (Sum.inl (((), ([], (r37.1, ()))), ((r37.2.1.1, (r37.2.1.2.1, (r37.2.1.2.2.1, (r37.2.1.2.2.2.1, ())))), ((r37.2.2.1.1, ()), ())))) else some (Sum.inr (((), (r33.1.1, ((0 : Int), ()))), ((r37.2.1.1, (r37.2.1.2.1, (r37.2.1.2.2.1, (r37.2.1.2.2.2.1, ())))), ((r37.2.2.1.1, ()), (((), ()), ())))))) := by kernel_rfl
noncomputable def wal_Open_sp (k : Nat) : Spec := mkSpO (Ps.cons (Pt.ptr 0 0) Ps.nil) (Os.cons (Ps.cons (Pt.asv0 (.int .u8) 1) (Ps.cons (Pt.int .i64) (Ps.cons (Pt.int .i64) (Ps.cons Pt.bool Ps.nil)))) (Os.cons (Ps.cons (Pt.row (.int .u8)) Ps.nil) Os.nil)) wal_Open_ou (fun p o => wal_Open k o.1.1 o.1.2.1 o.1.2.2.1 o.1.2.2.2.1 o.2.1.1) [.asis] [[.asis, .asis, .asis, .asis], [.asis]] 1 (fun xs => !isNilA 0 xs)
theorem wal_Open_ok (k : Nat) : SpecOk Try.prog 28 (wal_Open_sp k) := mk_okO (k := k) (h := .z) (W := [wal_Open_wr0, wal_Open_wr1]) (G_ok.rows _) (wal_Open_EOK k) Try.func28 (c := wal_Open_c) (by kernel_rfl) (by kernel_rfl) (by kernel_rfl) (by kernel_rfl) (by kernel_rfl) fun _ _ => rfl

noncomputable def frame_Size_E (k : Nat) : Table := []
theorem frame_Size_EOK (k : Nat) : TabOk Try.prog (frame_Size_E k) := .nil
/-- plenum/frame.Size -/
noncomputable def frame_Size_c : Code := bodyOf Try.f49
noncomputable def frame_Size_wr0 : Norm := { keep := [(2, .asis)], objs := [], c := 0 }
noncomputable def frame_Size (k : Nat) (a0 : Int) : Option (Int × Unit) := fnK G (frame_Size_E k) k .z frame_Size_c 11 [.tmp 2] 0 [frame_Size_wr0] [] [.int .i64 a0] [] (rd (Pt.int .i64) Os.nil)
theorem frame_Size_eq (k : Nat) (a0 : Int) : frame_Size k a0 = (bif (decide (a0 < 0)) then some ((0 : Int), ()) else (bif (decide (65536 < a0)) then some ((0 : Int), ()) else some ((wr .i64 (8 + a0)), ()))) := by kernel_rfl
noncomputable def frame_Size_sp (k : Nat) : Spec := mkSp (Ps.cons (Pt.int .i64) Ps.nil) Os.nil (Pt.int .i64) Os.nil (fun p o => frame_Size k p.1) [.asis] [] 0 (fun _ => true)
theorem frame_Size_ok (k : Nat) : SpecOk Try.prog 49 (frame_Size_sp k) := mk_ok (k := k) (h := .z) (W := [frame_Size_wr0]) G_ok (frame_Size_EOK k) Try.func49 (c := frame_Size_c) (by kernel_rfl) (by kernel_rfl) (by kernel_rfl) (by kernel_rfl) (by kernel_rfl) fun _ _ => rfl

noncomputable def num_Put_E (k : Nat) : Table := []
theorem num_Put_EOK (k : Nat) : TabOk Try.prog (num_Put_E k) := .nil
noncomputable def num_Put_G : Env := rowEnv G [(4, 1)]
/-- plenum/num.Put -/
noncomputable def num_Put_c : Code := bodyOf Try.f55
noncomputable def num_Put_wrrrlrl : Norm := { keep := [(0, .asis), (1, .asis), (5, .asis), (15, .asis), (16, .asis)], objs := [[.asis]], c := 0 }
noncomputable def num_Put_wr0 : Norm := { keep := [(4, .asis)], objs := [[.asis]], c := 0 }
noncomputable def num_Put (k : Nat) (a0 : Int) (a1 : Int) : Option (Unit × (((List Int) × Unit) × Unit)) := fnK num_Put_G (num_Put_E k) k (.two .z (.two .z (.two .z (.two (.two .z (.lp num_Put_wrrrlrl .z)) .z)))) num_Put_c 32 [.tmp 4] 0 [num_Put_wr0] [] [.int .u64 a0, .int .i64 a1] [] (rd (Pt.asl (.int .u8) 0) (Os.cons (Ps.cons (Pt.row (.int .u8)) Ps.nil) Os.nil))
noncomputable def num_Put_l0 (k n : Nat) (v49 : Int) (v50 : Int) (v51 : Int) (v52 : Int) (v53 : (List Int)) : Option (Unit × (((List Int) × Unit) × Unit)) := iter (exec num_Put_G (num_Put_E k) k .z (lft (lft (rgt (lft (rgt (rgt (rgt num_Put_c)))))))) num_Put_wrrrlrl (blkK 0 (seqK (exec num_Put_G (num_Put_E k) k .z (rgt (rgt (rgt (rgt num_Put_c))))) (retK num_Put_G [.tmp 4] 0 [num_Put_wr0] (rd (Pt.asl (.int .u8) 0) (Os.cons (Ps.cons (Pt.row (.int .u8)) Ps.nil) Os.nil))))) n (mkS 32 0 [(0, (.int .u64 v49)), (1, (.int .i64 v50)), (5, (.ref (.asl (.int .u8)) 0)), (15, (.int .i64 v51)), (16, (.int .i64 v52))] 0 [] [[.blk (.row (.int .u8) v53)]])
theorem num_Put_l0_zero (k : Nat) (v49 : Int) (v50 : Int) (v51 : Int) (v52 : Int) (v53 : (List Int)) : num_Put_l0 k 0 v49 v50 v51 v52 v53 = none := rfl
theorem num_Put_l0_eq (k n : Nat) (v49 : Int) (v50 : Int) (v51 : Int) (v52 : Int) (v53 : (List Int)) : num_Put_l0 k (n + 1) v49 v50 v51 v52 v53 = (bif (decide (v52 < v51)) then (shrK .u64 v49 (wr .i64 (8 * v52))).bind fun x54 => must (inI (wr .i64 ((wr .i64 (v50 - 1)) - v52)) v53.length) (must (Nat.blt (wr .i64 ((wr .i64 (v50 - 1)) - v52)).toNat v53.length) (num_Put_l0 k n v49 v50 v51 (wr .i64 (v52 + 1)) (v53.set (wr .i64 ((wr .i64 (v50 - 1)) - v52)).toNat (wr .u8 x54)))) else some ((), ((v53, ()), ()))) := by kernel_rfl
theorem num_Put_eq (k : Nat) (a0 : Int) (a1 : Int) : num_Put k a0 a1 = (bif (decide (a1 < 0)) then some ((), (([], ()), ())) else (bif (decide (8 < a1)) then some ((), (([], ()), ())) else must (decide (0 ≤ a1) && beqI a1 a1) (lim a1.toNat (num_Put_l0 k k a0 a1 a1 (0 : Int) (List.replicate a1.toNat (0 : Int)))))) := by kernel_rfl
noncomputable def num_Put_sp (k : Nat) : Spec := mkSp (Ps.cons (Pt.int .u64) (Ps.cons (Pt.int .i64) Ps.nil)) Os.nil (Pt.asl (.int .u8) 0) (Os.cons (Ps.cons (Pt.row (.int .u8)) Ps.nil) Os.nil) (fun p o => num_Put k p.1 p.2.1) [.asis, .asis] [] 0 (fun _ => true)
theorem num_Put_ok (k : Nat) : SpecOk Try.prog 55 (num_Put_sp k) := mk_ok (k := k) (h := (.two .z (.two .z (.two .z (.two (.two .z (.lp num_Put_wrrrlrl .z)) .z))))) (W := [num_Put_wr0]) (G_ok.rows _) (num_Put_EOK k) Try.func55 (c := num_Put_c) (by kernel_rfl) (by kernel_rfl) (by kernel_rfl) (by kernel_rfl) (by kernel_rfl) fun _ _ => rfl

noncomputable def frame_Put_E (k : Nat) : Table := [(49, frame_Size_sp k), (54, frame_sum_sp k), (55, num_Put_sp k)]
theorem frame_Put_EOK (k : Nat) : TabOk Try.prog (frame_Put_E k) := .cons (frame_Size_ok k) <| .cons (frame_sum_ok k) <| .cons (num_Put_ok k) <| .nil
/-- plenum/frame.Put -/
noncomputable def frame_Put_c : Code := bodyOf Try.f50
noncomputable def frame_Put_wr0 : Norm := { keep := [(2, .sh)], objs := [], c := 0 }
noncomputable def frame_Put (k : Nat) (a0 : (List Int)) : Option ((List Int) × Unit) := fnK G (frame_Put_E k) k .z frame_Put_c 22 [.tmp 2] 0 [frame_Put_wr0] [] [.sl (.int .u8) .sh none a0] [] (rd (Pt.sl (.int .u8)) Os.nil)
theorem frame_Put_eq (k : Nat) (a0 : (List Int)) : frame_Put k a0 = (frame_Size k (a0.length : Int)).bind fun r58 => (bif (decide (r58.1 = 0)) then some ([], ()) else (num_Put k (wr .u64 (a0.length : Int)) (4 : Int)).bind fun r59 => (frame_sum k r59.2.1.1 a0).bind fun r60 => (num_Put k (wr .u64 r60.1) (4 : Int)).bind fun r61 => lim (r59.2.1.1.length + r61.2.1.1.length) (lim ((r59.2.1.1 ++ r61.2.1.1).length + a0.length) (some (((r59.2.1.1 ++ r61.2.1.1) ++ a0), ())))) := by kernel_rfl
noncomputable def frame_Put_sp (k : Nat) : Spec := mkSp (Ps.cons (Pt.sl (.int .u8)) Ps.nil) Os.nil (Pt.sl (.int .u8)) Os.nil (fun p o => frame_Put k p.1) [.sh] [] 0 (fun _ => true)
theorem frame_Put_ok (k : Nat) : SpecOk Try.prog 50 (frame_Put_sp k) := mk_ok (k := k) (h := .z) (W := [frame_Put_wr0]) G_ok (frame_Put_EOK k) Try.func50 (c := frame_Put_c) (by kernel_rfl) (by kernel_rfl) (by kernel_rfl) (by kernel_rfl) (by kernel_rfl) fun _ _ => rfl

noncomputable def wal_Frames_E (k : Nat) : Table := [(50, frame_Put_sp k), (49, frame_Size_sp k)]
theorem wal_Frames_EOK (k : Nat) : TabOk Try.prog (wal_Frames_E k) := .cons (frame_Put_ok k) <| .cons (frame_Size_ok k) <| .nil
/-- plenum/wal.Frames -/
noncomputable def wal_Frames_c : Code := bodyOf Try.f45
noncomputable def wal_Frames_wrrlrl : Norm := { keep := [(4, .ownN 0), (7, .sh), (8, .asis), (9, .asis)], objs := [], c := 1 }
noncomputable def wal_Frames_wr0 : Norm := { keep := [(2, .own 0), (3, .asis)], objs := [], c := 1 }
noncomputable def wal_Frames (k : Nat) (a0 : (List (List Int))) : Option (((List Int) × (Bool × Unit)) × Unit) := fnK G (wal_Frames_E k) k (.two .z (.two .z (.two (.two .z (.lp wal_Frames_wrrlrl .z)) .z))) wal_Frames_c 23 [.tmp 2, .tmp 3] 1 [wal_Frames_wr0] [] [.sl (.sl (.int .u8)) .sh none a0] [] (rd (Pt.tup (Ps.cons (Pt.own 0 (.int .u8)) (Ps.cons Pt.bool Ps.nil))) Os.nil)
noncomputable def wal_Frames_l0 (k n : Nat) (v41 : Bool) (v42 : (List Int)) (v43 : (List (List Int))) (v44 : Int) (v45 : Int) : Option (((List Int) × (Bool × Unit)) × Unit) := iter (exec G (wal_Frames_E k) k .z (lft (lft (rgt (lft (rgt (rgt wal_Frames_c))))))) wal_Frames_wrrlrl (blkK 0 (seqK (exec G (wal_Frames_E k) k .z (rgt (rgt (rgt wal_Frames_c)))) (retK G [.tmp 2, .tmp 3] 1 [wal_Frames_wr0] (rd (Pt.tup (Ps.cons (Pt.own 0 (.int .u8)) (Ps.cons Pt.bool Ps.nil))) Os.nil)))) n (mkS 23 0 [(4, (.sl (.int .u8) (.own 0) (some v41) v42)), (7, (.sl (.sl (.int .u8)) .sh none v43)), (8, (.int .i64 v44)), (9, (.int .i64 v45))] 1 [0] [])
theorem wal_Frames_l0_zero (k : Nat) (v41 : Bool) (v42 : (List Int)) (v43 : (List (List Int))) (v44 : Int) (v45 : Int) : wal_Frames_l0 k 0 v41 v42 v43 v44 v45 = none := rfl
theorem wal_Frames_l0_eq (k n : Nat) (v41 : Bool) (v42 : (List Int)) (v43 : (List (List Int))) (v44 : Int) (v45 : Int) : wal_Frames_l0 k (n + 1) v41 v42 v43 v44 v45 = (bif (decide (v45 < v44)) then (nth v43 v45).bind fun x46 => (frame_Size k (x46.length : Int)).bind fun r47 => (bif (decide (r47.1 = 0)) then some (([], (false, ())), ()) else (frame_Put k x46).bind fun r62 => lim (v42.length + r62.1.length) (wal_Frames_l0 k n (v41 && r62.1.isEmpty) (v42 ++ r62.1) v43 v44 (wr .i64 (v45 + 1)))) else some ((v42, (true, ())), ())) := by kernel_rfl
theorem wal_Frames_eq (k : Nat) (a0 : (List (List Int))) : wal_Frames k a0 = wal_Frames_l0 k k true [] a0 (a0.length : Int) (0 : Int) := by kernel_rfl
noncomputable def wal_Frames_sp (k : Nat) : Spec := mkSp (Ps.cons (Pt.sl (.sl (.int .u8))) Ps.nil) Os.nil (Pt.tup (Ps.cons (Pt.own 0 (.int .u8)) (Ps.cons Pt.bool Ps.nil))) Os.nil (fun p o => wal_Frames k p.1) [.sh] [] 1 (fun _ => true)
theorem wal_Frames_ok (k : Nat) : SpecOk Try.prog 45 (wal_Frames_sp k) := mk_ok (k := k) (h := (.two .z (.two .z (.two (.two .z (.lp wal_Frames_wrrlrl .z)) .z)))) (W := [wal_Frames_wr0]) G_ok (wal_Frames_EOK k) Try.func45 (c := wal_Frames_c) (by kernel_rfl) (by kernel_rfl) (by kernel_rfl) (by kernel_rfl) (by kernel_rfl) fun _ _ => rfl

noncomputable def wal_Wal_ok_nil_E (k : Nat) : Table := []
theorem wal_Wal_ok_nil_EOK (k : Nat) : TabOk Try.prog (wal_Wal_ok_nil_E k) := .nil
/-- (*plenum/wal.Wal).ok -/
noncomputable def wal_Wal_ok_nil_c : Code := bodyOf Try.f44
noncomputable def wal_Wal_ok_nil_wr0 : Norm := { keep := [(2, .asis)], objs := [], c := 0 }
noncomputable def wal_Wal_ok_nil (k : Nat)  : Option (Bool × Unit) := fnK G (wal_Wal_ok_nil_E k) k .z wal_Wal_ok_nil_c 12 [.tmp 2] 0 [wal_Wal_ok_nil_wr0] [] [.nilp] [] (rd Pt.bool Os.nil)
theorem wal_Wal_ok_nil_eq (k : Nat)  : wal_Wal_ok_nil k  = some (false, ()) := by kernel_rfl
noncomputable def wal_Wal_ok_nil_sp (k : Nat) : Spec := mkSp (Ps.cons Pt.nilp Ps.nil) Os.nil Pt.bool Os.nil (fun _ _ => wal_Wal_ok_nil k) [.asis] [] 0 (fun xs => isNilA 0 xs)
theorem wal_Wal_ok_nil_ok (k : Nat) : SpecOk Try.prog 44 (wal_Wal_ok_nil_sp k) := mk_ok (k := k) (h := .z) (W := [wal_Wal_ok_nil_wr0]) G_ok (wal_Wal_ok_nil_EOK k) Try.func44 (c := wal_Wal_ok_nil_c) (by kernel_rfl) (by kernel_rfl) (by kernel_rfl) (by kernel_rfl) (by kernel_rfl) fun _ _ => rfl

noncomputable def wal_Wal_Add_nil_E (k : Nat) : Table := [(45, wal_Frames_sp k), (44, wal_Wal_ok_nil_sp k)]
theorem wal_Wal_Add_nil_EOK (k : Nat) : TabOk Try.prog (wal_Wal_Add_nil_E k) := .cons (wal_Frames_ok k) <| .cons (wal_Wal_ok_nil_ok k) <| .nil
/-- (*plenum/wal.Wal).Add -/
noncomputable def wal_Wal_Add_nil_c : Code := bodyOf Try.f35
noncomputable def wal_Wal_Add_nil_wr0 : Norm := { keep := [(4, .asis)], objs := [], c := 0 }
noncomputable def wal_Wal_Add_nil (k : Nat) (a0 : (List (List Int))) : Option (Int × Unit) := fnK G (wal_Wal_Add_nil_E k) k .z wal_Wal_Add_nil_c 34 [.tmp 4] 0 [wal_Wal_Add_nil_wr0] [] [.nilp, .sl (.sl (.int .u8)) .sh none a0] [] (rd (Pt.int .i64) Os.nil)
theorem wal_Wal_Add_nil_eq (k : Nat) (a0 : (List (List Int))) : wal_Wal_Add_nil k a0 = (wal_Frames k a0).bind fun r63 => (wal_Wal_ok_nil k).bind fun r64 => (bif (!r64.1) then some ((70 : Int), ()) else (bif (!r63.1.2.1) then some ((70 : Int), ()) else none)) := by kernel_rfl
noncomputable def wal_Wal_Add_nil_sp (k : Nat) : Spec := mkSp (Ps.cons Pt.nilp (Ps.cons (Pt.sl (.sl (.int .u8))) Ps.nil)) Os.nil (Pt.int .i64) Os.nil (fun p o => wal_Wal_Add_nil k p.2.1) [.asis, .sh] [] 0 (fun xs => isNilA 0 xs)
theorem wal_Wal_Add_nil_ok (k : Nat) : SpecOk Try.prog 35 (wal_Wal_Add_nil_sp k) := mk_ok (k := k) (h := .z) (W := [wal_Wal_Add_nil_wr0]) G_ok (wal_Wal_Add_nil_EOK k) Try.func35 (c := wal_Wal_Add_nil_c) (by kernel_rfl) (by kernel_rfl) (by kernel_rfl) (by kernel_rfl) (by kernel_rfl) fun _ _ => rfl

noncomputable def wal_Wal_Size_nil_E (k : Nat) : Table := [(44, wal_Wal_ok_nil_sp k)]
theorem wal_Wal_Size_nil_EOK (k : Nat) : TabOk Try.prog (wal_Wal_Size_nil_E k) := .cons (wal_Wal_ok_nil_ok k) <| .nil
/-- (*plenum/wal.Wal).Size -/
noncomputable def wal_Wal_Size_nil_c : Code := bodyOf Try.f32
noncomputable def wal_Wal_Size_nil_wr0 : Norm := { keep := [(2, .asis)], objs := [], c := 0 }
noncomputable def wal_Wal_Size_nil (k : Nat)  : Option (Int × Unit) := fnK G (wal_Wal_Size_nil_E k) k .z wal_Wal_Size_nil_c 12 [.tmp 2] 0 [wal_Wal_Size_nil_wr0] [] [.nilp] [] (rd (Pt.int .i64) Os.nil)
theorem wal_Wal_Size_nil_eq (k : Nat)  : wal_Wal_Size_nil k  = (wal_Wal_ok_nil k).bind fun r66 => (bif (!r66.1) then some ((0 : Int), ()) else none) := by kernel_rfl
noncomputable def wal_Wal_Size_nil_sp (k : Nat) : Spec := mkSp (Ps.cons Pt.nilp Ps.nil) Os.nil (Pt.int .i64) Os.nil (fun _ _ => wal_Wal_Size_nil k) [.asis] [] 0 (fun xs => isNilA 0 xs)
theorem wal_Wal_Size_nil_ok (k : Nat) : SpecOk Try.prog 32 (wal_Wal_Size_nil_sp k) := mk_ok (k := k) (h := .z) (W := [wal_Wal_Size_nil_wr0]) G_ok (wal_Wal_Size_nil_EOK k) Try.func32 (c := wal_Wal_Size_nil_c) (by kernel_rfl) (by kernel_rfl) (by kernel_rfl) (by kernel_rfl) (by kernel_rfl) fun _ _ => rfl

noncomputable def wal_Wal_ok_E (k : Nat) : Table := []
theorem wal_Wal_ok_EOK (k : Nat) : TabOk Try.prog (wal_Wal_ok_E k) := .nil
/-- (*plenum/wal.Wal).ok -/
noncomputable def wal_Wal_ok_c : Code := bodyOf Try.f44
noncomputable def wal_Wal_ok_wr0 : Norm := { keep := [(2, .asis)], objs := [[.asis], [.asis, .asis, .asis, .asis], [.asis]], c := 0 }
noncomputable def wal_Wal_ok (k : Nat) (a0 : Nat) (a1 : Int) (a2 : Int) (a3 : Bool) (a4 : (List Int)) : Option (Bool × ((Unit × Unit) × ((Nat × (Int × (Int × (Bool × Unit)))) × (((List Int) × Unit) × Unit)))) := fnK G (wal_Wal_ok_E k) k .z wal_Wal_ok_c 12 [.tmp 2] 0 [wal_Wal_ok_wr0] [] [.ptr 0 0] [[.ptr 1 0], [.ref (.asv (.int .u8) 0 a0) 2, .int .i64 a1, .int .i64 a2, .bool a3], [.blk (.row (.int .u8) a4)]] (rd Pt.bool (Os.cons (Ps.cons (Pt.ptr 1 0) Ps.nil) (Os.cons (Ps.cons (Pt.asv0 (.int .u8) 2) (Ps.cons (Pt.int .i64) (Ps.cons (Pt.int .i64) (Ps.cons Pt.bool Ps.nil)))) (Os.cons (Ps.cons (Pt.row (.int .u8)) Ps.nil) Os.nil))))
theorem wal_Wal_ok_eq (k : Nat) (a0 : Nat) (a1 : Int) (a2 : Int) (a3 : Bool) (a4 : (List Int)) : wal_Wal_ok k a0 a1 a2 a3 a4 = some (true, (((), ()), ((a0, (a1, (a2, (a3, ())))), ((a4, ()), ())))) := by kernel_rfl
noncomputable def wal_Wal_ok_sp (k : Nat) : Spec := mkSp (Ps.cons (Pt.ptr 0 0) Ps.nil) (Os.cons (Ps.cons (Pt.ptr 1 0) Ps.nil) (Os.cons (Ps.cons (Pt.asv0 (.int .u8) 2) (Ps.cons (Pt.int .i64) (Ps.cons (Pt.int .i64) (Ps.cons Pt.bool Ps.nil)))) (Os.cons (Ps.cons (Pt.row (.int .u8)) Ps.nil) Os.nil))) Pt.bool (Os.cons (Ps.cons (Pt.ptr 1 0) Ps.nil) (Os.cons (Ps.cons (Pt.asv0 (.int .u8) 2) (Ps.cons (Pt.int .i64) (Ps.cons (Pt.int .i64) (Ps.cons Pt.bool Ps.nil)))) (Os.cons (Ps.cons (Pt.row (.int .u8)) Ps.nil) Os.nil))) (fun p o => wal_Wal_ok k o.2.1.1 o.2.1.2.1 o.2.1.2.2.1 o.2.1.2.2.2.1 o.2.2.1.1) [.asis] [[.asis], [.asis, .asis, .asis, .asis], [.asis]] 0 (fun xs => !isNilA 0 xs)
theorem wal_Wal_ok_ok (k : Nat) : SpecOk Try.prog 44 (wal_Wal_ok_sp k) := mk_ok (k := k) (h := .z) (W := [wal_Wal_ok_wr0]) G_ok (wal_Wal_ok_EOK k) Try.func44 (c := wal_Wal_ok_c) (by kernel_rfl) (by kernel_rfl) (by kernel_rfl) (by kernel_rfl) (by kernel_rfl) fun _ _ => rfl

noncomputable def disk_Disk_room_E (k : Nat) : Table := [(41, disk_Disk_ok_sp k)]
theorem disk_Disk_room_EOK (k : Nat) : TabOk Try.prog (disk_Disk_room_E k) := .cons (disk_Disk_ok_ok k) <| .nil
/-- (*plenum/disk.Disk).room -/
noncomputable def disk_Disk_room_c : Code := bodyOf Try.f40
noncomputable def disk_Disk_room_wr0 : Norm := { keep := [(2, .asis)], objs := [[.asis, .asis, .asis, .asis], [.asis]], c := 0 }
noncomputable def disk_Disk_room (k : Nat) (a0 : Nat) (a1 : Int) (a2 : Int) (a3 : Bool) (a4 : (List Int)) : Option (Int × ((Nat × (Int × (Int × (Bool × Unit)))) × (((List Int) × Unit) × Unit))) := fnK G (disk_Disk_room_E k) k .z disk_Disk_room_c 10 [.tmp 2] 0 [disk_Disk_room_wr0] [] [.ptr 0 0] [[.ref (.asv (.int .u8) 0 a0) 1, .int .i64 a1, .int .i64 a2, .bool a3], [.blk (.row (.int .u8) a4)]] (rd (Pt.int .i64) (Os.cons (Ps.cons (Pt.asv0 (.int .u8) 1) (Ps.cons (Pt.int .i64) (Ps.cons (Pt.int .i64) (Ps.cons Pt.bool Ps.nil)))) (Os.cons (Ps.cons (Pt.row (.int .u8)) Ps.nil) Os.nil)))
theorem disk_Disk_room_eq (k : Nat) (a0 : Nat) (a1 : Int) (a2 : Int) (a3 : Bool) (a4 : (List Int)) : disk_Disk_room k a0 a1 a2 a3 a4 = (disk_Disk_ok k a0 a1 a2 a3 a4).bind fun r70 => (bif (!r70.1) then some ((0 : Int), ((r70.2.1.1, (r70.2.1.2.1, (r70.2.1.2.2.1, (r70.2.1.2.2.2.1, ())))), ((r70.2.2.1.1, ()), ()))) else some (r70.2.1.2.2.1, ((r70.2.1.1, (r70.2.1.2.1, (r70.2.1.2.2.1, (r70.2.1.2.2.2.1, ())))), ((r70.2.2.1.1, ()), ())))) := by kernel_rfl
noncomputable def disk_Disk_room_sp (k : Nat) : Spec := mkSp (Ps.cons (Pt.ptr 0 0) Ps.nil) (Os.cons (Ps.cons (Pt.asv0 (.int .u8) 1) (Ps.cons (Pt.int .i64) (Ps.cons (Pt.int .i64) (Ps.cons Pt.bool Ps.nil)))) (Os.cons (Ps.cons (Pt.row (.int .u8)) Ps.nil) Os.nil)) (Pt.int .i64) (Os.cons (Ps.cons (Pt.asv0 (.int .u8) 1) (Ps.cons (Pt.int .i64) (Ps.cons (Pt.int .i64) (Ps.cons Pt.bool Ps.nil)))) (Os.cons (Ps.cons (Pt.row (.int .u8)) Ps.nil) Os.nil)) (fun p o => disk_Disk_room k o.1.1 o.1.2.1 o.1.2.2.1 o.1.2.2.2.1 o.2.1.1) [.asis] [[.asis, .asis, .asis, .asis], [.asis]] 0 (fun xs => !isNilA 0 xs)
theorem disk_Disk_room_ok (k : Nat) : SpecOk Try.prog 40 (disk_Disk_room_sp k) := mk_ok (k := k) (h := .z) (W := [disk_Disk_room_wr0]) G_ok (disk_Disk_room_EOK k) Try.func40 (c := disk_Disk_room_c) (by kernel_rfl) (by kernel_rfl) (by kernel_rfl) (by kernel_rfl) (by kernel_rfl) fun _ _ => rfl

noncomputable def disk_Disk_Append_E (k : Nat) : Table := [(17, disk_Disk_Bytes_sp k), (41, disk_Disk_ok_sp k), (40, disk_Disk_room_sp k)]
theorem disk_Disk_Append_EOK (k : Nat) : TabOk Try.prog (disk_Disk_Append_E k) := .cons (disk_Disk_Bytes_ok k) <| .cons (disk_Disk_ok_ok k) <| .cons (disk_Disk_room_ok k) <| .nil
/-- (*plenum/disk.Disk).Append -/
noncomputable def disk_Disk_Append_c : Code := bodyOf Try.f14
noncomputable def disk_Disk_Append_wrrlr : Norm := { keep := [], objs := [[.asis, .asis, .asis, .asis], [], [.asis]], c := 0, mv := [1] }
noncomputable def disk_Disk_Append_wr0 : Norm := { keep := [(4, .asis)], objs := [[.asis, .asis, .asis, .asis], [], [.asis]], c := 0, mv := [1] }
noncomputable def disk_Disk_Append (k : Nat) (a0 : (List Int)) (a1 : Nat) (a2 : Int) (a3 : Int) (a4 : Bool) (a5 : (List Int)) : Option (Int × ((Nat × (Int × (Int × (Bool × Unit)))) × (Unit × (((List Int) × Unit) × Unit)))) := fnK G (disk_Disk_Append_E k) k (.two .z (.two .z (.two (.two .z (.cd disk_Disk_Append_wrrlr .z .z)) .z))) disk_Disk_Append_c 25 [.tmp 4] 0 [disk_Disk_Append_wr0] [] [.ptr 0 0, .sl (.int .u8) .sh none a0] [[.ref (.asv (.int .u8) 0 a1) 1, .int .i64 a2, .int .i64 a3, .bool a4], [.blk (.row (.int .u8) a5)]] (rd (Pt.int .i64) (Os.cons (Ps.cons (Pt.asv0 (.int .u8) 2) (Ps.cons (Pt.int .i64) (Ps.cons (Pt.int .i64) (Ps.cons Pt.bool Ps.nil)))) (Os.cons Ps.nil (Os.cons (Ps.cons (Pt.row (.int .u8)) Ps.nil) Os.nil))))
noncomputable def disk_Disk_Append_j0_c (k : Nat) (v90 : Nat) (v91 : Int) (v92 : Int) (v93 : Bool) (v94 : (List Int)) : Option (Int × ((Nat × (Int × (Int × (Bool × Unit)))) × (Unit × (((List Int) × Unit) × Unit)))) := (seqK (exec G (disk_Disk_Append_E k) k .z (rgt (rgt (rgt disk_Disk_Append_c)))) (retK G [.tmp 4] 0 [disk_Disk_Append_wr0] (rd (Pt.int .i64) (Os.cons (Ps.cons (Pt.asv0 (.int .u8) 2) (Ps.cons (Pt.int .i64) (Ps.cons (Pt.int .i64) (Ps.cons Pt.bool Ps.nil)))) (Os.cons Ps.nil (Os.cons (Ps.cons (Pt.row (.int .u8)) Ps.nil) Os.nil)))))) .normal (mkS 25 2 [] 0 [] [[(.ref (.asv (.int .u8) 0 v90) 2), (.int .i64 v91), (.int .i64 v92), (.bool v93)], [], [.blk (.row (.int .u8) v94)]])
noncomputable def disk_Disk_Append_j0 (k : Nat) (v90 : Nat) (v91 : Int) (v92 : Int) (v93 : Bool) (v94 : (List Int)) : Option (Int × ((Nat × (Int × (Int × (Bool × Unit)))) × (Unit × (((List Int) × Unit) × Unit)))) := jmp k (disk_Disk_Append_j0_c k v90 v91 v92 v93 v94)
theorem disk_Disk_Append_j0_b (k : Nat) (v90 : Nat) (v91 : Int) (v92 : Int) (v93 : Bool) (v94 : (List Int)) : disk_Disk_Append_j0_c k v90 v91 v92 v93 v94 = some ((0 : Int), ((v90, (v91, (v92, (v93, ())))), ((), ((v94, ()), ())))) := by kernel_rfl
theorem disk_Disk_Append_j0_eq (k : Nat) (v90 : Nat) (v91 : Int) (v92 : Int) (v93 : Bool) (v94 : (List Int)) : disk_Disk_Append_j0 (k + 1) v90 v91 v92 v93 v94 = some ((0 : Int), ((v90, (v91, (v92, (v93, ())))), ((), ((v94, ()), ())))) := by unfold disk_Disk_Append_j0; exact (jmp_succ _ _).trans (disk_Disk_Append_j0_b (k + 1) v90 v91 v92 v93 v94)
theorem disk_Disk_Append_eq (k : Nat) (a0 : (List Int)) (a1 : Nat) (a2 : Int) (a3 : Int) (a4 : Bool) (a5 : (List Int)) : disk_Disk_Append k a0 a1 a2 a3 a4 a5 = (disk_Disk_room k a1 a2 a3 a4 a5).bind fun r87 => (disk_Disk_Bytes k r87.2.1.1 r87.2.1.2.1 r87.2.1.2.2.1 r87.2.1.2.2.2.1 r87.2.2.1.1).bind fun r88 => (bif (decide ((wr .i64 (r87.1 - (r88.1.length : Int))) < (a0.length : Int))) then some ((60 : Int), ((r88.2.1.1, (r88.2.1.2.1, (r88.2.1.2.2.1, (r88.2.1.2.2.2.1, ())))), ((), ((r88.2.2.1.1, ()), ())))) else (disk_Disk_ok k r88.2.1.1 r88.2.1.2.1 r88.2.1.2.2.1 r88.2.1.2.2.2.1 r88.2.2.1.1).bind fun r89 => (bif r89.1 then lim (r89.2.1.1 + a0.length) (disk_Disk_Append_j0 k (r89.2.1.1 + a0.length) r89.2.1.2.1 r89.2.1.2.2.1 r89.2.1.2.2.2.1 (apc r89.2.2.1.1 r89.2.1.1 a0)) else disk_Disk_Append_j0 k r89.2.1.1 r89.2.1.2.1 r89.2.1.2.2.1 r89.2.1.2.2.2.1 r89.2.2.1.1)) := by kernel_rfl
noncomputable def disk_Disk_Append_sp (k : Nat) : Spec := mkSp (Ps.cons (Pt.ptr 0 0) (Ps.cons (Pt.sl (.int .u8)) Ps.nil)) (Os.cons (Ps.cons (Pt.asv0 (.int .u8) 1) (Ps.cons (Pt.int .i64) (Ps.cons (Pt.int .i64) (Ps.cons Pt.bool Ps.nil)))) (Os.cons (Ps.cons (Pt.row (.int .u8)) Ps.nil) Os.nil)) (Pt.int .i64) (Os.cons (Ps.cons (Pt.asv0 (.int .u8) 2) (Ps.cons (Pt.int .i64) (Ps.cons (Pt.int .i64) (Ps.cons Pt.bool Ps.nil)))) (Os.cons Ps.nil (Os.cons (Ps.cons (Pt.row (.int .u8)) Ps.nil) Os.nil))) (fun p o => disk_Disk_Append k p.2.1 o.1.1 o.1.2.1 o.1.2.2.1 o.1.2.2.2.1 o.2.1.1) [.asis, .sh] [[.asis, .asis, .asis, .asis], [.asis]] 0 (fun xs => !isNilA 0 xs)
theorem disk_Disk_Append_ok (k : Nat) : SpecOk Try.prog 14 (disk_Disk_Append_sp k) := mk_ok (k := k) (h := (.two .z (.two .z (.two (.two .z (.cd disk_Disk_Append_wrrlr .z .z)) .z)))) (W := [disk_Disk_Append_wr0]) G_ok (disk_Disk_Append_EOK k) Try.func14 (c := disk_Disk_Append_c) (by kernel_rfl) (by kernel_rfl) (by kernel_rfl) (by kernel_rfl) (by kernel_rfl) fun _ _ => rfl

noncomputable def wal_Wal_Add_E (k : Nat) : Table := [(14, disk_Disk_Append_sp k), (15, disk_Disk_Sync_sp k), (45, wal_Frames_sp k), (44, wal_Wal_ok_sp k)]
theorem wal_Wal_Add_EOK (k : Nat) : TabOk Try.prog (wal_Wal_Add_E k) := .cons (disk_Disk_Append_ok k) <| .cons (disk_Disk_Sync_ok k) <| .cons (wal_Frames_ok k) <| .cons (wal_Wal_ok_ok k) <| .nil
/-- (*plenum/wal.Wal).Add -/
noncomputable def wal_Wal_Add_c : Code := bodyOf Try.f35
noncomputable def wal_Wal_Add_wr0 : Norm := { keep := [(4, .asis)], objs := [[.asis], [.asis, .asis, .asis, .asis], [], [.asis]], c := 0, mv := [2] }
noncomputable def wal_Wal_Add (k : Nat) (a0 : (List (List Int))) (a1 : Nat) (a2 : Int) (a3 : Int) (a4 : Bool) (a5 : (List Int)) : Option (Int × ((Unit × Unit) × ((Nat × (Int × (Int × (Bool × Unit)))) × (Unit × (((List Int) × Unit) × Unit))))) := fnK G (wal_Wal_Add_E k) k .z wal_Wal_Add_c 34 [.tmp 4] 0 [wal_Wal_Add_wr0] [] [.ptr 0 0, .sl (.sl (.int .u8)) .sh none a0] [[.ptr 1 0], [.ref (.asv (.int .u8) 0 a1) 2, .int .i64 a2, .int .i64 a3, .bool a4], [.blk (.row (.int .u8) a5)]] (rd (Pt.int .i64) (Os.cons (Ps.cons (Pt.ptr 1 0) Ps.nil) (Os.cons (Ps.cons (Pt.asv0 (.int .u8) 3) (Ps.cons (Pt.int .i64) (Ps.cons (Pt.int .i64) (Ps.cons Pt.bool Ps.nil)))) (Os.cons Ps.nil (Os.cons (Ps.cons (Pt.row (.int .u8)) Ps.nil) Os.nil)))))
theorem wal_Wal_Add_eq (k : Nat) (a0 : (List (List Int))) (a1 : Nat) (a2 : Int) (a3 : Int) (a4 : Bool) (a5 : (List Int)) : wal_Wal_Add k a0 a1 a2 a3 a4 a5 = (wal_Frames k a0).bind fun r96 => (wal_Wal_ok k a1 a2 a3 a4 a5).bind fun r97 => (bif (!r97.1) then some ((70 : Int), (((), ()), ((r97.2.2.1.1, (r97.2.2.1.2.1, (r97.2.2.1.2.2.1, (r97.2.2.1.2.2.2.1, ())))), ((), ((r97.2.2.2.1.1, ()), ()))))) else (bif (!r96.1.2.1) then some ((70 : Int), (((), ()), ((r97.2.2.1.1, (r97.2.2.1.2.1, (r97.2.2.1.2.2.1, (r97.2.2.1.2.2.2.1, ())))), ((), ((r97.2.2.2.1.1, ()), ()))))) else (disk_Disk_Append k r96.1.1 r97.2.2.1.1 r97.2.2.1.2.1 r97.2.2.1.2.2.1 r97.2.2.1.2.2.2.1 r97.2.2.2.1.1).bind fun r98 => (bif (!decide (r98.1 = 0)) then some (r98.1, (((), ()), ((r98.2.1.1, (r98.2.1.2.1, (r98.2.1.2.2.1, (r98.2.1.2.2.2.1, ())))), ((), ((r98.2.2.2.1.1, ()), ()))))) else (disk_Disk_Sync k r98.2.1.1 r98.2.1.2.1 r98.2.1.2.2.1 r98.2.1.2.2.2.1 r98.2.2.2.1.1).bind fun r99 => some (r99.1, (((), ()), ((r99.2.1.1, (r99.2.1.2.1, (r99.2.1.2.2.1, (r99.2.1.2.2.2.1, ())))), ((), ((r99.2.2.1.1, ()), ())))))))) := by kernel_rfl
noncomputable def wal_Wal_Add_sp (k : Nat) : Spec := mkSp (Ps.cons (Pt.ptr 0 0) (Ps.cons (Pt.sl (.sl (.int .u8))) Ps.nil)) (Os.cons (Ps.cons (Pt.ptr 1 0) Ps.nil) (Os.cons (Ps.cons (Pt.asv0 (.int .u8) 2) (Ps.cons (Pt.int .i64) (Ps.cons (Pt.int .i64) (Ps.cons Pt.bool Ps.nil)))) (Os.cons (Ps.cons (Pt.row (.int .u8)) Ps.nil) Os.nil))) (Pt.int .i64) (Os.cons (Ps.cons (Pt.ptr 1 0) Ps.nil) (Os.cons (Ps.cons (Pt.asv0 (.int .u8) 3) (Ps.cons (Pt.int .i64) (Ps.cons (Pt.int .i64) (Ps.cons Pt.bool Ps.nil)))) (Os.cons Ps.nil (Os.cons (Ps.cons (Pt.row (.int .u8)) Ps.nil) Os.nil)))) (fun p o => wal_Wal_Add k p.2.1 o.2.1.1 o.2.1.2.1 o.2.1.2.2.1 o.2.1.2.2.2.1 o.2.2.1.1) [.asis, .sh] [[.asis], [.asis, .asis, .asis, .asis], [.asis]] 0 (fun xs => !isNilA 0 xs)
theorem wal_Wal_Add_ok (k : Nat) : SpecOk Try.prog 35 (wal_Wal_Add_sp k) := mk_ok (k := k) (h := .z) (W := [wal_Wal_Add_wr0]) G_ok (wal_Wal_Add_EOK k) Try.func35 (c := wal_Wal_Add_c) (by kernel_rfl) (by kernel_rfl) (by kernel_rfl) (by kernel_rfl) (by kernel_rfl) fun _ _ => rfl

noncomputable def wal_Wal_Size_E (k : Nat) : Table := [(17, disk_Disk_Bytes_sp k), (44, wal_Wal_ok_sp k)]
theorem wal_Wal_Size_EOK (k : Nat) : TabOk Try.prog (wal_Wal_Size_E k) := .cons (disk_Disk_Bytes_ok k) <| .cons (wal_Wal_ok_ok k) <| .nil
/-- (*plenum/wal.Wal).Size -/
noncomputable def wal_Wal_Size_c : Code := bodyOf Try.f32
noncomputable def wal_Wal_Size_wr0 : Norm := { keep := [(2, .asis)], objs := [[.asis], [.asis, .asis, .asis, .asis], [.asis]], c := 0 }
noncomputable def wal_Wal_Size (k : Nat) (a0 : Nat) (a1 : Int) (a2 : Int) (a3 : Bool) (a4 : (List Int)) : Option (Int × ((Unit × Unit) × ((Nat × (Int × (Int × (Bool × Unit)))) × (((List Int) × Unit) × Unit)))) := fnK G (wal_Wal_Size_E k) k .z wal_Wal_Size_c 12 [.tmp 2] 0 [wal_Wal_Size_wr0] [] [.ptr 0 0] [[.ptr 1 0], [.ref (.asv (.int .u8) 0 a0) 2, .int .i64 a1, .int .i64 a2, .bool a3], [.blk (.row (.int .u8) a4)]] (rd (Pt.int .i64) (Os.cons (Ps.cons (Pt.ptr 1 0) Ps.nil) (Os.cons (Ps.cons (Pt.asv0 (.int .u8) 2) (Ps.cons (Pt.int .i64) (Ps.cons (Pt.int .i64) (Ps.cons Pt.bool Ps.nil)))) (Os.cons (Ps.cons (Pt.row (.int .u8)) Ps.nil) Os.nil))))
theorem wal_Wal_Size_eq (k : Nat) (a0 : Nat) (a1 : Int) (a2 : Int) (a3 : Bool) (a4 : (List Int)) : wal_Wal_Size k a0 a1 a2 a3 a4 = (wal_Wal_ok k a0 a1 a2 a3 a4).bind fun r101 => (bif (!r101.1) then some ((0 : Int), (((), ()), ((r101.2.2.1.1, (r101.2.2.1.2.1, (r101.2.2.1.2.2.1, (r101.2.2.1.2.2.2.1, ())))), ((r101.2.2.2.1.1, ()), ())))) else (disk_Disk_Bytes k r101.2.2.1.1 r101.2.2.1.2.1 r101.2.2.1.2.2.1 r101.2.2.1.2.2.2.1 r101.2.2.2.1.1).bind fun r102 => some ((r102.1.length : Int), (((), ()), ((r102.2.1.1, (r102.2.1.2.1, (r102.2.1.2.2.1, (r102.2.1.2.2.2.1, ())))), ((r102.2.2.1.1, ()), ()))))) := by kernel_rfl
noncomputable def wal_Wal_Size_sp (k : Nat) : Spec := mkSp (Ps.cons (Pt.ptr 0 0) Ps.nil) (Os.cons (Ps.cons (Pt.ptr 1 0) Ps.nil) (Os.cons (Ps.cons (Pt.asv0 (.int .u8) 2) (Ps.cons (Pt.int .i64) (Ps.cons (Pt.int .i64) (Ps.cons Pt.bool Ps.nil)))) (Os.cons (Ps.cons (Pt.row (.int .u8)) Ps.nil) Os.nil))) (Pt.int .i64) (Os.cons (Ps.cons (Pt.ptr 1 0) Ps.nil) (Os.cons (Ps.cons (Pt.asv0 (.int .u8) 2) (Ps.cons (Pt.int .i64) (Ps.cons (Pt.int .i64) (Ps.cons Pt.bool Ps.nil)))) (Os.cons (Ps.cons (Pt.row (.int .u8)) Ps.nil) Os.nil))) (fun p o => wal_Wal_Size k o.2.1.1 o.2.1.2.1 o.2.1.2.2.1 o.2.1.2.2.2.1 o.2.2.1.1) [.asis] [[.asis], [.asis, .asis, .asis, .asis], [.asis]] 0 (fun xs => !isNilA 0 xs)
theorem wal_Wal_Size_ok (k : Nat) : SpecOk Try.prog 32 (wal_Wal_Size_sp k) := mk_ok (k := k) (h := .z) (W := [wal_Wal_Size_wr0]) G_ok (wal_Wal_Size_EOK k) Try.func32 (c := wal_Wal_Size_c) (by kernel_rfl) (by kernel_rfl) (by kernel_rfl) (by kernel_rfl) (by kernel_rfl) fun _ _ => rfl

noncomputable def law07_awake_E (k : Nat) : Table := [(13, disk_New_sp k), (28, wal_Open_sp k), (35, wal_Wal_Add_sp k), (35, wal_Wal_Add_nil_sp k), (32, wal_Wal_Size_sp k), (32, wal_Wal_Size_nil_sp k)]
theorem law07_awake_EOK (k : Nat) : TabOk Try.prog (law07_awake_E k) := .cons (disk_New_ok k) <| .cons (wal_Open_ok k) <| .cons (wal_Wal_Add_ok k) <| .cons (wal_Wal_Add_nil_ok k) <| .cons (wal_Wal_Size_ok k) <| .cons (wal_Wal_Size_nil_ok k) <| .nil
noncomputable def law07_awake_G : Env := rowEnv G [(19, 1)]
/-- plenum/plenumlaw07.awake -/
noncomputable def law07_awake_c : Code := bodyOf Try.f27
noncomputable def law07_awake_wr0 : Norm := { keep := [(0, .asis)], objs := [], c := 0 }
noncomputable def law07_awake (k : Nat)  : Option (Bool × Unit) := fnK law07_awake_G (law07_awake_E k) k .z law07_awake_c 30 [.tmp 0] 0 [law07_awake_wr0] [] [] [] (rd Pt.bool Os.nil)
theorem law07_awake_eq (k : Nat)  : law07_awake k  = (disk_New k (100 : Int)).bind fun r1 => (wal_Open k r1.2.1.1 r1.2.1.2.1 r1.2.1.2.2.1 r1.2.1.2.2.2.1 r1.2.2.1.1).bind fun r38 => sm r38 (fun r39 => (bif (decide (r39.1.2.2.1 = 0)) then (bif (decide ((r39.1.2.1.length : Int) = 0)) then (wal_Wal_Add_nil k [[(97 : Int)]]).bind fun r65 => (bif (decide (r65.1 = 0)) then (wal_Wal_Size_nil k).bind fun r67 => some ((decide (r67.1 = 9)), ()) else some (false, ())) else some (false, ())) else some (false, ()))) (fun r40 => (bif (decide (r40.1.2.2.1 = 0)) then (bif (decide ((r40.1.2.1.length : Int) = 0)) then (wal_Wal_Add k [[(97 : Int)]] r40.2.1.1 r40.2.1.2.1 r40.2.1.2.2.1 r40.2.1.2.2.2.1 r40.2.2.1.1).bind fun r100 => (bif (decide (r100.1 = 0)) then (wal_Wal_Size k r100.2.2.1.1 r100.2.2.1.2.1 r100.2.2.1.2.2.1 r100.2.2.1.2.2.2.1 r100.2.2.2.2.1.1).bind fun r103 => some ((decide (r103.1 = 9)), ()) else some (false, ())) else some (false, ())) else some (false, ()))) := by kernel_rfl
noncomputable def law07_awake_sp (k : Nat) : Spec := mkSp Ps.nil Os.nil Pt.bool Os.nil (fun _ _ => law07_awake k) [] [] 0 (fun _ => true)
theorem law07_awake_ok (k : Nat) : SpecOk Try.prog 27 (law07_awake_sp k) := mk_ok (k := k) (h := .z) (W := [law07_awake_wr0]) (G_ok.rows _) (law07_awake_EOK k) Try.func27 (c := law07_awake_c) (by kernel_rfl) (by kernel_rfl) (by kernel_rfl) (by kernel_rfl) (by kernel_rfl) fun _ _ => rfl

noncomputable def law07_few_E (k : Nat) : Table := []
theorem law07_few_EOK (k : Nat) : TabOk Try.prog (law07_few_E k) := .nil
/-- plenum/plenumlaw07.few -/
noncomputable def law07_few_c : Code := bodyOf Try.f34
noncomputable def law07_few_wrlrl : Norm := { keep := [(0, .sh), (5, .sh), (6, .asis), (7, .asis)], objs := [], c := 0 }
noncomputable def law07_few_wr0 : Norm := { keep := [(2, .asis)], objs := [], c := 0 }
noncomputable def law07_few (k : Nat) (a0 : (List (List Int))) : Option (Bool × Unit) := fnK G (law07_few_E k) k (.two .z (.two (.two .z (.lp law07_few_wrlrl .z)) .z)) law07_few_c 18 [.tmp 2] 0 [law07_few_wr0] [] [.sl (.sl (.int .u8)) .sh none a0] [] (rd Pt.bool Os.nil)
noncomputable def law07_few_l0 (k n : Nat) (v105 : (List (List Int))) (v106 : (List (List Int))) (v107 : Int) (v108 : Int) : Option (Bool × Unit) := iter (exec G (law07_few_E k) k .z (lft (lft (rgt (lft (rgt law07_few_c)))))) law07_few_wrlrl (blkK 0 (seqK (exec G (law07_few_E k) k .z (rgt (rgt law07_few_c))) (retK G [.tmp 2] 0 [law07_few_wr0] (rd Pt.bool Os.nil)))) n (mkS 18 0 [(0, (.sl (.sl (.int .u8)) .sh none v105)), (5, (.sl (.sl (.int .u8)) .sh none v106)), (6, (.int .i64 v107)), (7, (.int .i64 v108))] 0 [] [])
theorem law07_few_l0_zero (k : Nat) (v105 : (List (List Int))) (v106 : (List (List Int))) (v107 : Int) (v108 : Int) : law07_few_l0 k 0 v105 v106 v107 v108 = none := rfl
theorem law07_few_l0_eq (k n : Nat) (v105 : (List (List Int))) (v106 : (List (List Int))) (v107 : Int) (v108 : Int) : law07_few_l0 k (n + 1) v105 v106 v107 v108 = (bif (decide (v108 < v107)) then (nth v106 v108).bind fun x109 => (bif (decide (100 < (x109.length : Int))) then some (false, ()) else law07_few_l0 k n v105 v106 v107 (wr .i64 (v108 + 1))) else some ((decide ((v105.length : Int) ≤ 12)), ())) := by kernel_rfl
theorem law07_few_eq (k : Nat) (a0 : (List (List Int))) : law07_few k a0 = law07_few_l0 k k a0 a0 (a0.length : Int) (0 : Int) := by kernel_rfl
noncomputable def law07_few_sp (k : Nat) : Spec := mkSp (Ps.cons (Pt.sl (.sl (.int .u8))) Ps.nil) Os.nil Pt.bool Os.nil (fun p o => law07_few k p.1) [.sh] [] 0 (fun _ => true)
theorem law07_few_ok (k : Nat) : SpecOk Try.prog 34 (law07_few_sp k) := mk_ok (k := k) (h := (.two .z (.two (.two .z (.lp law07_few_wrlrl .z)) .z))) (W := [law07_few_wr0]) G_ok (law07_few_EOK k) Try.func34 (c := law07_few_c) (by kernel_rfl) (by kernel_rfl) (by kernel_rfl) (by kernel_rfl) (by kernel_rfl) fun _ _ => rfl

noncomputable def disk_Disk_ok_nil_E (k : Nat) : Table := []
theorem disk_Disk_ok_nil_EOK (k : Nat) : TabOk Try.prog (disk_Disk_ok_nil_E k) := .nil
/-- (*plenum/disk.Disk).ok -/
noncomputable def disk_Disk_ok_nil_c : Code := bodyOf Try.f41
noncomputable def disk_Disk_ok_nil_wr0 : Norm := { keep := [(2, .asis)], objs := [], c := 0 }
noncomputable def disk_Disk_ok_nil (k : Nat)  : Option (Bool × Unit) := fnK G (disk_Disk_ok_nil_E k) k .z disk_Disk_ok_nil_c 11 [.tmp 2] 0 [disk_Disk_ok_nil_wr0] [] [.nilp] [] (rd Pt.bool Os.nil)
theorem disk_Disk_ok_nil_eq (k : Nat)  : disk_Disk_ok_nil k  = some (false, ()) := by kernel_rfl
noncomputable def disk_Disk_ok_nil_sp (k : Nat) : Spec := mkSp (Ps.cons Pt.nilp Ps.nil) Os.nil Pt.bool Os.nil (fun _ _ => disk_Disk_ok_nil k) [.asis] [] 0 (fun xs => isNilA 0 xs)
theorem disk_Disk_ok_nil_ok (k : Nat) : SpecOk Try.prog 41 (disk_Disk_ok_nil_sp k) := mk_ok (k := k) (h := .z) (W := [disk_Disk_ok_nil_wr0]) G_ok (disk_Disk_ok_nil_EOK k) Try.func41 (c := disk_Disk_ok_nil_c) (by kernel_rfl) (by kernel_rfl) (by kernel_rfl) (by kernel_rfl) (by kernel_rfl) fun _ _ => rfl

noncomputable def disk_Disk_Bytes_nil_E (k : Nat) : Table := [(41, disk_Disk_ok_nil_sp k)]
theorem disk_Disk_Bytes_nil_EOK (k : Nat) : TabOk Try.prog (disk_Disk_Bytes_nil_E k) := .cons (disk_Disk_ok_nil_ok k) <| .nil
/-- (*plenum/disk.Disk).Bytes -/
noncomputable def disk_Disk_Bytes_nil_c : Code := bodyOf Try.f17
noncomputable def disk_Disk_Bytes_nil_wr0 : Norm := { keep := [(2, .own 0)], objs := [], c := 1 }
noncomputable def disk_Disk_Bytes_nil (k : Nat)  : Option ((List Int) × Unit) := fnK G (disk_Disk_Bytes_nil_E k) k .z disk_Disk_Bytes_nil_c 11 [.tmp 2] 1 [disk_Disk_Bytes_nil_wr0] [] [.nilp] [] (rd (Pt.own 0 (.int .u8)) Os.nil)
theorem disk_Disk_Bytes_nil_eq (k : Nat)  : disk_Disk_Bytes_nil k  = (disk_Disk_ok_nil k).bind fun r111 => (bif (!r111.1) then some ([], ()) else none) := by kernel_rfl
noncomputable def disk_Disk_Bytes_nil_sp (k : Nat) : Spec := mkSp (Ps.cons Pt.nilp Ps.nil) Os.nil (Pt.own 0 (.int .u8)) Os.nil (fun _ _ => disk_Disk_Bytes_nil k) [.asis] [] 1 (fun xs => isNilA 0 xs)
theorem disk_Disk_Bytes_nil_ok (k : Nat) : SpecOk Try.prog 17 (disk_Disk_Bytes_nil_sp k) := mk_ok (k := k) (h := .z) (W := [disk_Disk_Bytes_nil_wr0]) G_ok (disk_Disk_Bytes_nil_EOK k) Try.func17 (c := disk_Disk_Bytes_nil_c) (by kernel_rfl) (by kernel_rfl) (by kernel_rfl) (by kernel_rfl) (by kernel_rfl) fun _ _ => rfl

noncomputable def disk_Disk_Cut_nil_E (k : Nat) : Table := [(41, disk_Disk_ok_nil_sp k)]
theorem disk_Disk_Cut_nil_EOK (k : Nat) : TabOk Try.prog (disk_Disk_Cut_nil_E k) := .cons (disk_Disk_ok_nil_ok k) <| .nil
/-- (*plenum/disk.Disk).Cut -/
noncomputable def disk_Disk_Cut_nil_c : Code := bodyOf Try.f24
noncomputable def disk_Disk_Cut_nil_wr0 : Norm := { keep := [(4, .asis)], objs := [], c := 0 }
noncomputable def disk_Disk_Cut_nil (k : Nat) (a0 : Int) : Option (Int × Unit) := fnK G (disk_Disk_Cut_nil_E k) k .z disk_Disk_Cut_nil_c 32 [.tmp 4] 0 [disk_Disk_Cut_nil_wr0] [] [.nilp, .int .i64 a0] [] (rd (Pt.int .i64) Os.nil)
theorem disk_Disk_Cut_nil_eq (k : Nat) (a0 : Int) : disk_Disk_Cut_nil k a0 = (disk_Disk_ok_nil k).bind fun r114 => (bif (!r114.1) then some ((60 : Int), ()) else (bif (decide (a0 < 0)) then some ((1 : Int), ()) else none)) := by kernel_rfl
noncomputable def disk_Disk_Cut_nil_sp (k : Nat) : Spec := mkSp (Ps.cons Pt.nilp (Ps.cons (Pt.int .i64) Ps.nil)) Os.nil (Pt.int .i64) Os.nil (fun p o => disk_Disk_Cut_nil k p.2.1) [.asis, .asis] [] 0 (fun xs => isNilA 0 xs)
theorem disk_Disk_Cut_nil_ok (k : Nat) : SpecOk Try.prog 24 (disk_Disk_Cut_nil_sp k) := mk_ok (k := k) (h := .z) (W := [disk_Disk_Cut_nil_wr0]) G_ok (disk_Disk_Cut_nil_EOK k) Try.func24 (c := disk_Disk_Cut_nil_c) (by kernel_rfl) (by kernel_rfl) (by kernel_rfl) (by kernel_rfl) (by kernel_rfl) fun _ _ => rfl

noncomputable def wal_Open_nil_ou : Ou (((Unit × ((List (List Int)) × (Int × Unit))) × Unit) ⊕ ((Unit × ((List (List Int)) × (Int × Unit))) × ((Unit × Unit) × Unit))) := Ou.or (Ou.one (Pt.tup (Ps.cons Pt.nilp (Ps.cons (Pt.own 0 (.sl (.int .u8))) (Ps.cons (Pt.int .i64) Ps.nil)))) Os.nil) (Ou.one (Pt.tup (Ps.cons (Pt.ptr 0 0) (Ps.cons (Pt.own 0 (.sl (.int .u8))) (Ps.cons (Pt.int .i64) Ps.nil)))) (Os.cons (Ps.cons Pt.nilp Ps.nil) Os.nil))
noncomputable def wal_Open_nil_E (k : Nat) : Table := [(17, disk_Disk_Bytes_nil_sp k), (24, disk_Disk_Cut_nil_sp k), (30, wal_Records_sp k)]
theorem wal_Open_nil_EOK (k : Nat) : TabOk Try.prog (wal_Open_nil_E k) := .cons (disk_Disk_Bytes_nil_ok k) <| .cons (disk_Disk_Cut_nil_ok k) <| .cons (wal_Records_ok k) <| .nil
noncomputable def wal_Open_nil_G : Env := rowEnv G [(21, 3)]
/-- plenum/wal.Open -/
noncomputable def wal_Open_nil_c : Code := bodyOf Try.f28
noncomputable def wal_Open_nil_wr0 : Norm := { keep := [(2, .asis), (3, .own 0), (4, .asis)], objs := [], c := 1 }
noncomputable def wal_Open_nil_wr1 : Norm := { keep := [(2, .asis), (3, .own 0), (4, .asis)], objs := [[.asis]], c := 1 }
noncomputable def wal_Open_nil (k : Nat)  : Option (((Unit × ((List (List Int)) × (Int × Unit))) × Unit) ⊕ ((Unit × ((List (List Int)) × (Int × Unit))) × ((Unit × Unit) × Unit))) := fnK wal_Open_nil_G (wal_Open_nil_E k) k .z wal_Open_nil_c 24 [.tmp 2, .tmp 3, .tmp 4] 1 [wal_Open_nil_wr0, wal_Open_nil_wr1] [] [.nilp] [] wal_Open_nil_ou.dec
theorem wal_Open_nil_eq (k : Nat)  : wal_Open_nil k  = (disk_Disk_Bytes_nil k).bind fun r112 => (wal_Records k r112.1).bind fun r113 => (disk_Disk_Cut_nil k r113.1.2.1).bind fun r115 => (bif (!decide (r115.1 = 0)) then some (Sum.inl (((), ([], (r115.1, ()))), ())) else some (Sum.inr (((), (r113.1.1, ((0 : Int), ()))), (((), ()), ())))) := by kernel_rfl
noncomputable def wal_Open_nil_sp (k : Nat) : Spec := mkSpO (Ps.cons Pt.nilp Ps.nil) Os.nil wal_Open_nil_ou (fun _ _ => wal_Open_nil k) [.asis] [] 1 (fun xs => isNilA 0 xs)
theorem wal_Open_nil_ok (k : Nat) : SpecOk Try.prog 28 (wal_Open_nil_sp k) := mk_okO (k := k) (h := .z) (W := [wal_Open_nil_wr0, wal_Open_nil_wr1]) (G_ok.rows _) (wal_Open_nil_EOK k) Try.func28 (c := wal_Open_nil_c) (by kernel_rfl) (by kernel_rfl) (by kernel_rfl) (by kernel_rfl) (by kernel_rfl) fun _ _ => rfl

noncomputable def wal_Wal_ok_v2_E (k : Nat) : Table := []
theorem wal_Wal_ok_v2_EOK (k : Nat) : TabOk Try.prog (wal_Wal_ok_v2_E k) := .nil
/-- (*plenum/wal.Wal).ok -/
noncomputable def wal_Wal_ok_v2_c : Code := bodyOf Try.f44
noncomputable def wal_Wal_ok_v2_wr0 : Norm := { keep := [(2, .asis)], objs := [[.asis]], c := 0 }
noncomputable def wal_Wal_ok_v2 (k : Nat)  : Option (Bool × ((Unit × Unit) × Unit)) := fnK G (wal_Wal_ok_v2_E k) k .z wal_Wal_ok_v2_c 12 [.tmp 2] 0 [wal_Wal_ok_v2_wr0] [] [.ptr 0 0] [[.nilp]] (rd Pt.bool (Os.cons (Ps.cons Pt.nilp Ps.nil) Os.nil))
theorem wal_Wal_ok_v2_eq (k : Nat)  : wal_Wal_ok_v2 k  = some (false, (((), ()), ())) := by kernel_rfl
noncomputable def wal_Wal_ok_v2_sp (k : Nat) : Spec := mkSp (Ps.cons (Pt.ptr 0 0) Ps.nil) (Os.cons (Ps.cons Pt.nilp Ps.nil) Os.nil) Pt.bool (Os.cons (Ps.cons Pt.nilp Ps.nil) Os.nil) (fun _ _ => wal_Wal_ok_v2 k) [.asis] [[.asis]] 0 (fun xs => !isNilA 0 xs)
theorem wal_Wal_ok_v2_ok (k : Nat) : SpecOk Try.prog 44 (wal_Wal_ok_v2_sp k) := mk_ok (k := k) (h := .z) (W := [wal_Wal_ok_v2_wr0]) G_ok (wal_Wal_ok_v2_EOK k) Try.func44 (c := wal_Wal_ok_v2_c) (by kernel_rfl) (by kernel_rfl) (by kernel_rfl) (by kernel_rfl) (by kernel_rfl) fun _ _ => rfl

noncomputable def disk_Disk_Swap_nil_E (k : Nat) : Table := [(41, disk_Disk_ok_nil_sp k)]
theorem disk_Disk_Swap_nil_EOK (k : Nat) : TabOk Try.prog (disk_Disk_Swap_nil_E k) := .cons (disk_Disk_ok_nil_ok k) <| .nil
/-- (*plenum/disk.Disk).Swap -/
noncomputable def disk_Disk_Swap_nil_c : Code := bodyOf Try.f19
noncomputable def disk_Disk_Swap_nil_wr0 : Norm := { keep := [(4, .asis)], objs := [], c := 0 }
noncomputable def disk_Disk_Swap_nil (k : Nat) (a0 : (List Int)) : Option (Int × Unit) := fnK G (disk_Disk_Swap_nil_E k) k .z disk_Disk_Swap_nil_c 24 [.tmp 4] 0 [disk_Disk_Swap_nil_wr0] [] [.nilp, .sl (.int .u8) .sh none a0] [] (rd (Pt.int .i64) Os.nil)
theorem disk_Disk_Swap_nil_eq (k : Nat) (a0 : (List Int)) : disk_Disk_Swap_nil k a0 = (disk_Disk_ok_nil k).bind fun r122 => (bif (!r122.1) then some ((60 : Int), ()) else none) := by kernel_rfl
noncomputable def disk_Disk_Swap_nil_sp (k : Nat) : Spec := mkSp (Ps.cons Pt.nilp (Ps.cons (Pt.sl (.int .u8)) Ps.nil)) Os.nil (Pt.int .i64) Os.nil (fun p o => disk_Disk_Swap_nil k p.2.1) [.asis, .sh] [] 0 (fun xs => isNilA 0 xs)
theorem disk_Disk_Swap_nil_ok (k : Nat) : SpecOk Try.prog 19 (disk_Disk_Swap_nil_sp k) := mk_ok (k := k) (h := .z) (W := [disk_Disk_Swap_nil_wr0]) G_ok (disk_Disk_Swap_nil_EOK k) Try.func19 (c := disk_Disk_Swap_nil_c) (by kernel_rfl) (by kernel_rfl) (by kernel_rfl) (by kernel_rfl) (by kernel_rfl) fun _ _ => rfl

noncomputable def wal_Wal_Rewrite_E (k : Nat) : Table := [(19, disk_Disk_Swap_nil_sp k), (45, wal_Frames_sp k), (44, wal_Wal_ok_v2_sp k)]
theorem wal_Wal_Rewrite_EOK (k : Nat) : TabOk Try.prog (wal_Wal_Rewrite_E k) := .cons (disk_Disk_Swap_nil_ok k) <| .cons (wal_Frames_ok k) <| .cons (wal_Wal_ok_v2_ok k) <| .nil
/-- (*plenum/wal.Wal).Rewrite -/
noncomputable def wal_Wal_Rewrite_c : Code := bodyOf Try.f37
noncomputable def wal_Wal_Rewrite_wr0 : Norm := { keep := [(4, .asis)], objs := [[.asis]], c := 0 }
noncomputable def wal_Wal_Rewrite (k : Nat) (a0 : (List (List Int))) : Option (Int × ((Unit × Unit) × Unit)) := fnK G (wal_Wal_Rewrite_E k) k .z wal_Wal_Rewrite_c 25 [.tmp 4] 0 [wal_Wal_Rewrite_wr0] [] [.ptr 0 0, .sl (.sl (.int .u8)) .sh none a0] [[.nilp]] (rd (Pt.int .i64) (Os.cons (Ps.cons Pt.nilp Ps.nil) Os.nil))
theorem wal_Wal_Rewrite_eq (k : Nat) (a0 : (List (List Int))) : wal_Wal_Rewrite k a0 = (wal_Frames k a0).bind fun r120 => (wal_Wal_ok_v2 k).bind fun r121 => (bif (!r121.1) then some ((70 : Int), (((), ()), ())) else (bif (!r120.1.2.1) then some ((70 : Int), (((), ()), ())) else (disk_Disk_Swap_nil k r120.1.1).bind fun r123 => some (r123.1, (((), ()), ())))) := by kernel_rfl
noncomputable def wal_Wal_Rewrite_sp (k : Nat) : Spec := mkSp (Ps.cons (Pt.ptr 0 0) (Ps.cons (Pt.sl (.sl (.int .u8))) Ps.nil)) (Os.cons (Ps.cons Pt.nilp Ps.nil) Os.nil) (Pt.int .i64) (Os.cons (Ps.cons Pt.nilp Ps.nil) Os.nil) (fun p o => wal_Wal_Rewrite k p.2.1) [.asis, .sh] [[.asis]] 0 (fun xs => !isNilA 0 xs)
theorem wal_Wal_Rewrite_ok (k : Nat) : SpecOk Try.prog 37 (wal_Wal_Rewrite_sp k) := mk_ok (k := k) (h := .z) (W := [wal_Wal_Rewrite_wr0]) G_ok (wal_Wal_Rewrite_EOK k) Try.func37 (c := wal_Wal_Rewrite_c) (by kernel_rfl) (by kernel_rfl) (by kernel_rfl) (by kernel_rfl) (by kernel_rfl) fun _ _ => rfl

noncomputable def law07_WalNone_E (k : Nat) : Table := [(27, law07_awake_sp k), (34, law07_few_sp k), (28, wal_Open_nil_sp k), (35, wal_Wal_Add_nil_sp k), (37, wal_Wal_Rewrite_sp k), (32, wal_Wal_Size_nil_sp k)]
theorem law07_WalNone_EOK (k : Nat) : TabOk Try.prog (law07_WalNone_E k) := .cons (law07_awake_ok k) <| .cons (law07_few_ok k) <| .cons (wal_Open_nil_ok k) <| .cons (wal_Wal_Add_nil_ok k) <| .cons (wal_Wal_Rewrite_ok k) <| .cons (wal_Wal_Size_nil_ok k) <| .nil
noncomputable def law07_WalNone_G : Env := rowEnv G [(13, 3)]
/-- plenum/plenumlaw07.WalNone -/
noncomputable def law07_WalNone_c : Code := bodyOf Try.f10
noncomputable def law07_WalNone_wr0 : Norm := { keep := [(2, .asis)], objs := [], c := 0 }
noncomputable def law07_WalNone (k : Nat) (a0 : (List (List Int))) : Option (Bool × Unit) := fnK law07_WalNone_G (law07_WalNone_E k) k .z law07_WalNone_c 39 [.tmp 2] 0 [law07_WalNone_wr0] [] [.sl (.sl (.int .u8)) .sh none a0] [] (rd Pt.bool Os.nil)
theorem law07_WalNone_eq (k : Nat) (a0 : (List (List Int))) : law07_WalNone k a0 = (law07_awake k).bind fun r104 => (bif (!r104.1) then some (false, ()) else (law07_few k a0).bind fun r110 => (bif (!r110.1) then some (true, ()) else (wal_Open_nil k).bind fun r116 => sm r116 (fun r117 => (wal_Wal_Add_nil k a0).bind fun r119 => (bif (decide (r119.1 = 70)) then (wal_Wal_Rewrite k a0).bind fun r124 => (bif (decide (r124.1 = 70)) then (wal_Wal_Size_nil k).bind fun r125 => (bif (decide (r125.1 = 0)) then some ((decide (r117.1.2.2.1 = 60)), ()) else some (false, ())) else some (false, ())) else some (false, ()))) (fun r118 => (wal_Wal_Add_nil k a0).bind fun r126 => (bif (decide (r126.1 = 70)) then (wal_Wal_Rewrite k a0).bind fun r127 => (bif (decide (r127.1 = 70)) then (wal_Wal_Size_nil k).bind fun r128 => (bif (decide (r128.1 = 0)) then some ((decide (r118.1.2.2.1 = 60)), ()) else some (false, ())) else some (false, ())) else some (false, ()))))) := by kernel_rfl
noncomputable def law07_WalNone_sp (k : Nat) : Spec := mkSp (Ps.cons (Pt.sl (.sl (.int .u8))) Ps.nil) Os.nil Pt.bool Os.nil (fun p o => law07_WalNone k p.1) [.sh] [] 0 (fun _ => true)
theorem law07_WalNone_ok (k : Nat) : SpecOk Try.prog 10 (law07_WalNone_sp k) := mk_ok (k := k) (h := .z) (W := [law07_WalNone_wr0]) (G_ok.rows _) (law07_WalNone_EOK k) Try.func10 (c := law07_WalNone_c) (by kernel_rfl) (by kernel_rfl) (by kernel_rfl) (by kernel_rfl) (by kernel_rfl) fun _ _ => rfl

end Go.Proofs.Ytjilcpjapnngfaa.Den
