import Derived.Test.YtjilcpjapnngfaaDen33
import Derived.Test.YtjilcpjapnngfaaProg
import Derived.KernelRfl
namespace Go.Proofs.Ytjilcpjapnngfaa.Den
open Go
set_option maxRecDepth 100000
noncomputable def G : Env := tabEnv [(3, (.int .i64)), (4, .bool), (9, .str), (22, (.sl (.int .u8))), (26, (.int .i64)), (65, (.st (.pair (.sl (.int .u8)) (.pair (.int .i64) (.pair (.int .i64) (.pair .bool .unit))))))] [3, 4, 22] [24] [(65, 0, 0), (65, 1, 1), (65, 2, 2), (65, 3, 3)]
theorem G_ok : EnvOk Try.prog G := env_ok (by kernel_rfl)
noncomputable def disk_New_E (k : Nat) : Table := []
theorem disk_New_EOK (k : Nat) : TabOk Try.prog (disk_New_E k) := .nil
noncomputable def disk_New_G : Env := rowEnv G [(5, 3), (6, 17)]
/-- plenum/disk.New -/
noncomputable def disk_New_c : Code := bodyOf Try.f13
noncomputable def disk_New_wr0 : Norm := { keep := [(2, .asis)], objs := [[.asis, .asis, .asis, .asis], [.asis]], c := 0 }
noncomputable def disk_New (k : Nat) (a0 : Int) : Option (Unit × ((Nat × (Int × (Int × (Bool × Unit)))) × (((List Int) × Unit) × Unit))) := fnK disk_New_G (disk_New_E k) k .z disk_New_c 7 [.tmp 2] 0 [disk_New_wr0] [] [.int .i64 a0] [] (rd (Pt.ptr 0 0) (Os.cons (Ps.cons (Pt.asv0 (.int .u8) 1) (Ps.cons (Pt.int .i64) (Ps.cons (Pt.int .i64) (Ps.cons Pt.bool Ps.nil)))) (Os.cons (Ps.cons (Pt.row (.int .u8)) Ps.nil) Os.nil)))
theorem disk_New_eq (k : Nat) (a0 : Int) : disk_New k a0 = some ((), ((0, ((0 : Int), ((mxI a0 0), (true, ())))), (([], ()), ()))) := by kernel_rfl
noncomputable def disk_New_sp (k : Nat) : Spec := mkSp (Ps.cons (Pt.int .i64) Ps.nil) Os.nil (Pt.ptr 0 0) (Os.cons (Ps.cons (Pt.asv0 (.int .u8) 1) (Ps.cons (Pt.int .i64) (Ps.cons (Pt.int .i64) (Ps.cons Pt.bool Ps.nil)))) (Os.cons (Ps.cons (Pt.row (.int .u8)) Ps.nil) Os.nil)) (fun p o => disk_New k p.1) [.asis] [] 0 (fun _ => true)
theorem disk_New_ok (k : Nat) : SpecOk Try.prog 13 (disk_New_sp k) := mk_ok (k := k) (h := .z) (W := [disk_New_wr0]) (G_ok.rows _) (disk_New_EOK k) Try.func13 (c := disk_New_c) (by kernel_rfl) (by kernel_rfl) (by kernel_rfl) (by kernel_rfl) (by kernel_rfl) fun _ _ => rfl

noncomputable def disk_Disk_ok_E (k : Nat) : Table := []
theorem disk_Disk_ok_EOK (k : Nat) : TabOk Try.prog (disk_Disk_ok_E k) := .nil
/-- (*plenum/disk.Disk).ok -/
noncomputable def disk_Disk_ok_c : Code := bodyOf Try.f41
noncomputable def disk_Disk_ok_wr0 : Norm := { keep := [(2, .asis)], objs := [[.asis, .asis, .asis, .asis], [.asis]], c := 0 }
noncomputable def disk_Disk_ok (k : Nat) (a0 : Nat) (a1 : Int) (a2 : Int) (a3 : Bool) (a4 : (List Int)) : Option (Bool × ((Nat × (Int × (Int × (Bool × Unit)))) × (((List Int) × Unit) × Unit))) := fnK G (disk_Disk_ok_E k) k .z disk_Disk_ok_c 11 [.tmp 2] 0 [disk_Disk_ok_wr0] [] [.ptr 0 0] [[.ref (.asv (.int .u8) 0 a0) 1, .int .i64 a1, .int .i64 a2, .bool a3], [.blk (.row (.int .u8) a4)]] (rd Pt.bool (Os.cons (Ps.cons (Pt.asv0 (.int .u8) 1) (Ps.cons (Pt.int .i64) (Ps.cons (Pt.int .i64) (Ps.cons Pt.bool Ps.nil)))) (Os.cons (Ps.cons (Pt.row (.int .u8)) Ps.nil) Os.nil)))
theorem disk_Disk_ok_eq (k : Nat) (a0 : Nat) (a1 : Int) (a2 : Int) (a3 : Bool) (a4 : (List Int)) : disk_Disk_ok k a0 a1 a2 a3 a4 = some (a3, ((a0, (a1, (a2, (a3, ())))), ((a4, ()), ()))) := by kernel_rfl
noncomputable def disk_Disk_ok_sp (k : Nat) : Spec := mkSp (Ps.cons (Pt.ptr 0 0) Ps.nil) (Os.cons (Ps.cons (Pt.asv0 (.int .u8) 1) (Ps.cons (Pt.int .i64) (Ps.cons (Pt.int .i64) (Ps.cons Pt.bool Ps.nil)))) (Os.cons (Ps.cons (Pt.row (.int .u8)) Ps.nil) Os.nil)) Pt.bool (Os.cons (Ps.cons (Pt.asv0 (.int .u8) 1) (Ps.cons (Pt.int .i64) (Ps.cons (Pt.int .i64) (Ps.cons Pt.bool Ps.nil)))) (Os.cons (Ps.cons (Pt.row (.int .u8)) Ps.nil) Os.nil)) (fun p o => disk_Disk_ok k o.1.1 o.1.2.1 o.1.2.2.1 o.1.2.2.2.1 o.2.1.1) [.asis] [[.asis, .asis, .asis, .asis], [.asis]] 0 (fun xs => !isNilA 0 xs)
theorem disk_Disk_ok_ok (k : Nat) : SpecOk Try.prog 41 (disk_Disk_ok_sp k) := mk_ok (k := k) (h := .z) (W := [disk_Disk_ok_wr0]) G_ok (disk_Disk_ok_EOK k) Try.func41 (c := disk_Disk_ok_c) (by kernel_rfl) (by kernel_rfl) (by kernel_rfl) (by kernel_rfl) (by kernel_rfl) fun _ _ => rfl

noncomputable def disk_Disk_room_E (k : Nat) : Table := [(41, disk_Disk_ok_sp k)]
theorem disk_Disk_room_EOK (k : Nat) : TabOk Try.prog (disk_Disk_room_E k) := .cons (disk_Disk_ok_ok k) <| .nil
/-- (*plenum/disk.Disk).room -/
noncomputable def disk_Disk_room_c : Code := bodyOf Try.f40
noncomputable def disk_Disk_room_wr0 : Norm := { keep := [(2, .asis)], objs := [[.asis, .asis, .asis, .asis], [.asis]], c := 0 }
noncomputable def disk_Disk_room (k : Nat) (a0 : Nat) (a1 : Int) (a2 : Int) (a3 : Bool) (a4 : (List Int)) : Option (Int × ((Nat × (Int × (Int × (Bool × Unit)))) × (((List Int) × Unit) × Unit))) := fnK G (disk_Disk_room_E k) k .z disk_Disk_room_c 10 [.tmp 2] 0 [disk_Disk_room_wr0] [] [.ptr 0 0] [[.ref (.asv (.int .u8) 0 a0) 1, .int .i64 a1, .int .i64 a2, .bool a3], [.blk (.row (.int .u8) a4)]] (rd (Pt.int .i64) (Os.cons (Ps.cons (Pt.asv0 (.int .u8) 1) (Ps.cons (Pt.int .i64) (Ps.cons (Pt.int .i64) (Ps.cons Pt.bool Ps.nil)))) (Os.cons (Ps.cons (Pt.row (.int .u8)) Ps.nil) Os.nil)))
theorem disk_Disk_room_eq (k : Nat) (a0 : Nat) (a1 : Int) (a2 : Int) (a3 : Bool) (a4 : (List Int)) : disk_Disk_room k a0 a1 a2 a3 a4 = (disk_Disk_ok k a0 a1 a2 a3 a4).bind fun r2 => (bif (!r2.1) then some ((0 : Int), ((r2.2.1.1, (r2.2.1.2.1, (r2.2.1.2.2.1, (r2.2.1.2.2.2.1, ())))), ((r2.2.2.1.1, ()), ()))) else some (r2.2.1.2.2.1, ((r2.2.1.1, (r2.2.1.2.1, (r2.2.1.2.2.1, (r2.2.1.2.2.2.1, ())))), ((r2.2.2.1.1, ()), ())))) := by kernel_rfl
noncomputable def disk_Disk_room_sp (k : Nat) : Spec := mkSp (Ps.cons (Pt.ptr 0 0) Ps.nil) (Os.cons (Ps.cons (Pt.asv0 (.int .u8) 1) (Ps.cons (Pt.int .i64) (Ps.cons (Pt.int .i64) (Ps.cons Pt.bool Ps.nil)))) (Os.cons (Ps.cons (Pt.row (.int .u8)) Ps.nil) Os.nil)) (Pt.int .i64) (Os.cons (Ps.cons (Pt.asv0 (.int .u8) 1) (Ps.cons (Pt.int .i64) (Ps.cons (Pt.int .i64) (Ps.cons Pt.bool Ps.nil)))) (Os.cons (Ps.cons (Pt.row (.int .u8)) Ps.nil) Os.nil)) (fun p o => disk_Disk_room k o.1.1 o.1.2.1 o.1.2.2.1 o.1.2.2.2.1 o.2.1.1) [.asis] [[.asis, .asis, .asis, .asis], [.asis]] 0 (fun xs => !isNilA 0 xs)
theorem disk_Disk_room_ok (k : Nat) : SpecOk Try.prog 40 (disk_Disk_room_sp k) := mk_ok (k := k) (h := .z) (W := [disk_Disk_room_wr0]) G_ok (disk_Disk_room_EOK k) Try.func40 (c := disk_Disk_room_c) (by kernel_rfl) (by kernel_rfl) (by kernel_rfl) (by kernel_rfl) (by kernel_rfl) fun _ _ => rfl

noncomputable def disk_Disk_Bytes_E (k : Nat) : Table := [(41, disk_Disk_ok_sp k)]
theorem disk_Disk_Bytes_EOK (k : Nat) : TabOk Try.prog (disk_Disk_Bytes_E k) := .cons (disk_Disk_ok_ok k) <| .nil
/-- (*plenum/disk.Disk).Bytes -/
noncomputable def disk_Disk_Bytes_c : Code := bodyOf Try.f17
noncomputable def disk_Disk_Bytes_wr0 : Norm := { keep := [(2, .own 0)], objs := [[.asis, .asis, .asis, .asis], [.asis]], c := 1 }
noncomputable def disk_Disk_Bytes (k : Nat) (a0 : Nat) (a1 : Int) (a2 : Int) (a3 : Bool) (a4 : (List Int)) : Option ((List Int) × ((Nat × (Int × (Int × (Bool × Unit)))) × (((List Int) × Unit) × Unit))) := fnK G (disk_Disk_Bytes_E k) k .z disk_Disk_Bytes_c 11 [.tmp 2] 1 [disk_Disk_Bytes_wr0] [] [.ptr 0 0] [[.ref (.asv (.int .u8) 0 a0) 1, .int .i64 a1, .int .i64 a2, .bool a3], [.blk (.row (.int .u8) a4)]] (rd (Pt.own 0 (.int .u8)) (Os.cons (Ps.cons (Pt.asv0 (.int .u8) 1) (Ps.cons (Pt.int .i64) (Ps.cons (Pt.int .i64) (Ps.cons Pt.bool Ps.nil)))) (Os.cons (Ps.cons (Pt.row (.int .u8)) Ps.nil) Os.nil)))
theorem disk_Disk_Bytes_eq (k : Nat) (a0 : Nat) (a1 : Int) (a2 : Int) (a3 : Bool) (a4 : (List Int)) : disk_Disk_Bytes k a0 a1 a2 a3 a4 = (disk_Disk_ok k a0 a1 a2 a3 a4).bind fun r4 => (bif (!r4.1) then some ([], ((r4.2.1.1, (r4.2.1.2.1, (r4.2.1.2.2.1, (r4.2.1.2.2.2.1, ())))), ((r4.2.2.1.1, ()), ()))) else lim (0 + (r4.2.2.1.1.take r4.2.1.1).length) (some (([] ++ (r4.2.2.1.1.take r4.2.1.1)), ((r4.2.1.1, (r4.2.1.2.1, (r4.2.1.2.2.1, (r4.2.1.2.2.2.1, ())))), ((r4.2.2.1.1, ()), ()))))) := by kernel_rfl
noncomputable def disk_Disk_Bytes_sp (k : Nat) : Spec := mkSp (Ps.cons (Pt.ptr 0 0) Ps.nil) (Os.cons (Ps.cons (Pt.asv0 (.int .u8) 1) (Ps.cons (Pt.int .i64) (Ps.cons (Pt.int .i64) (Ps.cons Pt.bool Ps.nil)))) (Os.cons (Ps.cons (Pt.row (.int .u8)) Ps.nil) Os.nil)) (Pt.own 0 (.int .u8)) (Os.cons (Ps.cons (Pt.asv0 (.int .u8) 1) (Ps.cons (Pt.int .i64) (Ps.cons (Pt.int .i64) (Ps.cons Pt.bool Ps.nil)))) (Os.cons (Ps.cons (Pt.row (.int .u8)) Ps.nil) Os.nil)) (fun p o => disk_Disk_Bytes k o.1.1 o.1.2.1 o.1.2.2.1 o.1.2.2.2.1 o.2.1.1) [.asis] [[.asis, .asis, .asis, .asis], [.asis]] 1 (fun xs => !isNilA 0 xs)
theorem disk_Disk_Bytes_ok (k : Nat) : SpecOk Try.prog 17 (disk_Disk_Bytes_sp k) := mk_ok (k := k) (h := .z) (W := [disk_Disk_Bytes_wr0]) G_ok (disk_Disk_Bytes_EOK k) Try.func17 (c := disk_Disk_Bytes_c) (by kernel_rfl) (by kernel_rfl) (by kernel_rfl) (by kernel_rfl) (by kernel_rfl) fun _ _ => rfl

noncomputable def disk_Disk_Append_E (k : Nat) : Table := [(17, disk_Disk_Bytes_sp k), (41, disk_Disk_ok_sp k), (40, disk_Disk_room_sp k)]
theorem disk_Disk_Append_EOK (k : Nat) : TabOk Try.prog (disk_Disk_Append_E k) := .cons (disk_Disk_Bytes_ok k) <| .cons (disk_Disk_ok_ok k) <| .cons (disk_Disk_room_ok k) <| .nil
/-- (*plenum/disk.Disk).Append -/
noncomputable def disk_Disk_Append_c : Code := bodyOf Try.f14
noncomputable def disk_Disk_Append_wrrlr : Norm := { keep := [], objs := [[.asis, .asis, .asis, .asis], [], [.asis]], c := 0, mv := [1] }
noncomputable def disk_Disk_Append_wr0 : Norm := { keep := [(4, .asis)], objs := [[.asis, .asis, .asis, .asis], [], [.asis]], c := 0, mv := [1] }
noncomputable def disk_Disk_Append (k : Nat) (a0 : (List Int)) (a1 : Nat) (a2 : Int) (a3 : Int) (a4 : Bool) (a5 : (List Int)) : Option (Int × ((Nat × (Int × (Int × (Bool × Unit)))) × (Unit × (((List Int) × Unit) × Unit)))) := fnK G (disk_Disk_Append_E k) k (.two .z (.two .z (.two (.two .z (.cd disk_Disk_Append_wrrlr .z .z)) .z))) disk_Disk_Append_c 25 [.tmp 4] 0 [disk_Disk_Append_wr0] [] [.ptr 0 0, .sl (.int .u8) .sh none a0] [[.ref (.asv (.int .u8) 0 a1) 1, .int .i64 a2, .int .i64 a3, .bool a4], [.blk (.row (.int .u8) a5)]] (rd (Pt.int .i64) (Os.cons (Ps.cons (Pt.asv0 (.int .u8) 2) (Ps.cons (Pt.int .i64) (Ps.cons (Pt.int .i64) (Ps.cons Pt.bool Ps.nil)))) (Os.cons Ps.nil (Os.cons (Ps.cons (Pt.row (.int .u8)) Ps.nil) Os.nil))))
noncomputable def disk_Disk_Append_j0_c (k : Nat) (v23 : Nat) (v24 : Int) (v25 : Int) (v26 : Bool) (v27 : (List Int)) : Option (Int × ((Nat × (Int × (Int × (Bool × Unit)))) × (Unit × (((List Int) × Unit) × Unit)))) := (seqK (exec G (disk_Disk_Append_E k) k .z (rgt (rgt (rgt disk_Disk_Append_c)))) (retK G [.tmp 4] 0 [disk_Disk_Append_wr0] (rd (Pt.int .i64) (Os.cons (Ps.cons (Pt.asv0 (.int .u8) 2) (Ps.cons (Pt.int .i64) (Ps.cons (Pt.int .i64) (Ps.cons Pt.bool Ps.nil)))) (Os.cons Ps.nil (Os.cons (Ps.cons (Pt.row (.int .u8)) Ps.nil) Os.nil)))))) .normal (mkS 25 2 [] 0 [] [[(.ref (.asv (.int .u8) 0 v23) 2), (.int .i64 v24), (.int .i64 v25), (.bool v26)], [], [.blk (.row (.int .u8) v27)]])
noncomputable def disk_Disk_Append_j0 (k : Nat) (v23 : Nat) (v24 : Int) (v25 : Int) (v26 : Bool) (v27 : (List Int)) : Option (Int × ((Nat × (Int × (Int × (Bool × Unit)))) × (Unit × (((List Int) × Unit) × Unit)))) := jmp k (disk_Disk_Append_j0_c k v23 v24 v25 v26 v27)
theorem disk_Disk_Append_j0_b (k : Nat) (v23 : Nat) (v24 : Int) (v25 : Int) (v26 : Bool) (v27 : (List Int)) : disk_Disk_Append_j0_c k v23 v24 v25 v26 v27 = some ((0 : Int), ((v23, (v24, (v25, (v26, ())))), ((), ((v27, ()), ())))) := by kernel_rfl
theorem disk_Disk_Append_j0_eq (k : Nat) (v23 : Nat) (v24 : Int) (v25 : Int) (v26 : Bool) (v27 : (List Int)) : disk_Disk_Append_j0 (k + 1) v23 v24 v25 v26 v27 = some ((0 : Int), ((v23, (v24, (v25, (v26, ())))), ((), ((v27, ()), ())))) := by unfold disk_Disk_Append_j0; exact (jmp_succ _ _).trans (disk_Disk_Append_j0_b (k + 1) v23 v24 v25 v26 v27)
theorem disk_Disk_Append_eq (k : Nat) (a0 : (List Int)) (a1 : Nat) (a2 : Int) (a3 : Int) (a4 : Bool) (a5 : (List Int)) : disk_Disk_Append k a0 a1 a2 a3 a4 a5 = (disk_Disk_room k a1 a2 a3 a4 a5).bind fun r20 => (disk_Disk_Bytes k r20.2.1.1 r20.2.1.2.1 r20.2.1.2.2.1 r20.2.1.2.2.2.1 r20.2.2.1.1).bind fun r21 => (bif (decide ((wr .i64 (r20.1 - (r21.1.length : Int))) < (a0.length : Int))) then some ((60 : Int), ((r21.2.1.1, (r21.2.1.2.1, (r21.2.1.2.2.1, (r21.2.1.2.2.2.1, ())))), ((), ((r21.2.2.1.1, ()), ())))) else (disk_Disk_ok k r21.2.1.1 r21.2.1.2.1 r21.2.1.2.2.1 r21.2.1.2.2.2.1 r21.2.2.1.1).bind fun r22 => (bif r22.1 then lim (r22.2.1.1 + a0.length) (disk_Disk_Append_j0 k (r22.2.1.1 + a0.length) r22.2.1.2.1 r22.2.1.2.2.1 r22.2.1.2.2.2.1 (apc r22.2.2.1.1 r22.2.1.1 a0)) else disk_Disk_Append_j0 k r22.2.1.1 r22.2.1.2.1 r22.2.1.2.2.1 r22.2.1.2.2.2.1 r22.2.2.1.1)) := by kernel_rfl
noncomputable def disk_Disk_Append_sp (k : Nat) : Spec := mkSp (Ps.cons (Pt.ptr 0 0) (Ps.cons (Pt.sl (.int .u8)) Ps.nil)) (Os.cons (Ps.cons (Pt.asv0 (.int .u8) 1) (Ps.cons (Pt.int .i64) (Ps.cons (Pt.int .i64) (Ps.cons Pt.bool Ps.nil)))) (Os.cons (Ps.cons (Pt.row (.int .u8)) Ps.nil) Os.nil)) (Pt.int .i64) (Os.cons (Ps.cons (Pt.asv0 (.int .u8) 2) (Ps.cons (Pt.int .i64) (Ps.cons (Pt.int .i64) (Ps.cons Pt.bool Ps.nil)))) (Os.cons Ps.nil (Os.cons (Ps.cons (Pt.row (.int .u8)) Ps.nil) Os.nil))) (fun p o => disk_Disk_Append k p.2.1 o.1.1 o.1.2.1 o.1.2.2.1 o.1.2.2.2.1 o.2.1.1) [.asis, .sh] [[.asis, .asis, .asis, .asis], [.asis]] 0 (fun xs => !isNilA 0 xs)
theorem disk_Disk_Append_ok (k : Nat) : SpecOk Try.prog 14 (disk_Disk_Append_sp k) := mk_ok (k := k) (h := (.two .z (.two .z (.two (.two .z (.cd disk_Disk_Append_wrrlr .z .z)) .z)))) (W := [disk_Disk_Append_wr0]) G_ok (disk_Disk_Append_EOK k) Try.func14 (c := disk_Disk_Append_c) (by kernel_rfl) (by kernel_rfl) (by kernel_rfl) (by kernel_rfl) (by kernel_rfl) fun _ _ => rfl

noncomputable def disk_Disk_Sync_E (k : Nat) : Table := [(41, disk_Disk_ok_sp k)]
theorem disk_Disk_Sync_EOK (k : Nat) : TabOk Try.prog (disk_Disk_Sync_E k) := .cons (disk_Disk_ok_ok k) <| .nil
/-- (*plenum/disk.Disk).Sync -/
noncomputable def disk_Disk_Sync_c : Code := bodyOf Try.f15
noncomputable def disk_Disk_Sync_wr0 : Norm := { keep := [(2, .asis)], objs := [[.asis, .asis, .asis, .asis], [.asis]], c := 0 }
noncomputable def disk_Disk_Sync (k : Nat) (a0 : Nat) (a1 : Int) (a2 : Int) (a3 : Bool) (a4 : (List Int)) : Option (Int × ((Nat × (Int × (Int × (Bool × Unit)))) × (((List Int) × Unit) × Unit))) := fnK G (disk_Disk_Sync_E k) k .z disk_Disk_Sync_c 14 [.tmp 2] 0 [disk_Disk_Sync_wr0] [] [.ptr 0 0] [[.ref (.asv (.int .u8) 0 a0) 1, .int .i64 a1, .int .i64 a2, .bool a3], [.blk (.row (.int .u8) a4)]] (rd (Pt.int .i64) (Os.cons (Ps.cons (Pt.asv0 (.int .u8) 1) (Ps.cons (Pt.int .i64) (Ps.cons (Pt.int .i64) (Ps.cons Pt.bool Ps.nil)))) (Os.cons (Ps.cons (Pt.row (.int .u8)) Ps.nil) Os.nil)))
theorem disk_Disk_Sync_eq (k : Nat) (a0 : Nat) (a1 : Int) (a2 : Int) (a3 : Bool) (a4 : (List Int)) : disk_Disk_Sync k a0 a1 a2 a3 a4 = (disk_Disk_ok k a0 a1 a2 a3 a4).bind fun r29 => (bif (!r29.1) then some ((60 : Int), ((r29.2.1.1, (r29.2.1.2.1, (r29.2.1.2.2.1, (r29.2.1.2.2.2.1, ())))), ((r29.2.2.1.1, ()), ()))) else some ((0 : Int), ((r29.2.1.1, (((r29.2.1.1 : Nat) : Int), (r29.2.1.2.2.1, (r29.2.1.2.2.2.1, ())))), ((r29.2.2.1.1, ()), ())))) := by kernel_rfl
noncomputable def disk_Disk_Sync_sp (k : Nat) : Spec := mkSp (Ps.cons (Pt.ptr 0 0) Ps.nil) (Os.cons (Ps.cons (Pt.asv0 (.int .u8) 1) (Ps.cons (Pt.int .i64) (Ps.cons (Pt.int .i64) (Ps.cons Pt.bool Ps.nil)))) (Os.cons (Ps.cons (Pt.row (.int .u8)) Ps.nil) Os.nil)) (Pt.int .i64) (Os.cons (Ps.cons (Pt.asv0 (.int .u8) 1) (Ps.cons (Pt.int .i64) (Ps.cons (Pt.int .i64) (Ps.cons Pt.bool Ps.nil)))) (Os.cons (Ps.cons (Pt.row (.int .u8)) Ps.nil) Os.nil)) (fun p o => disk_Disk_Sync k o.1.1 o.1.2.1 o.1.2.2.1 o.1.2.2.2.1 o.2.1.1) [.asis] [[.asis, .asis, .asis, .asis], [.asis]] 0 (fun xs => !isNilA 0 xs)
theorem disk_Disk_Sync_ok (k : Nat) : SpecOk Try.prog 15 (disk_Disk_Sync_sp k) := mk_ok (k := k) (h := .z) (W := [disk_Disk_Sync_wr0]) G_ok (disk_Disk_Sync_EOK k) Try.func15 (c := disk_Disk_Sync_c) (by kernel_rfl) (by kernel_rfl) (by kernel_rfl) (by kernel_rfl) (by kernel_rfl) fun _ _ => rfl

noncomputable def disk_Disk_Crash_E (k : Nat) : Table := [(41, disk_Disk_ok_sp k)]
theorem disk_Disk_Crash_EOK (k : Nat) : TabOk Try.prog (disk_Disk_Crash_E k) := .cons (disk_Disk_ok_ok k) <| .nil
/-- (*plenum/disk.Disk).Crash -/
noncomputable def disk_Disk_Crash_c : Code := bodyOf Try.f16
noncomputable def disk_Disk_Crash_wr0 : Norm := { keep := [], objs := [[.asis, .asis, .asis, .asis], [.asis]], c := 0 }
noncomputable def disk_Disk_Crash (k : Nat) (a0 : Int) (a1 : (List Int)) (a2 : Nat) (a3 : Int) (a4 : Int) (a5 : Bool) (a6 : (List Int)) : Option (Unit × ((Nat × (Int × (Int × (Bool × Unit)))) × (((List Int) × Unit) × Unit))) := fnK G (disk_Disk_Crash_E k) k (.two .z (.two (.dw [] [] true false) (.two .z (.two .z (.two (.dw [] [] true false) .z))))) disk_Disk_Crash_c 54 [] 0 [disk_Disk_Crash_wr0] [] [.ptr 0 0, .int .i64 a0, .sl (.int .u8) .sh none a1] [[.ref (.asv (.int .u8) 0 a2) 1, .int .i64 a3, .int .i64 a4, .bool a5], [.blk (.row (.int .u8) a6)]] (rd (Pt.tup Ps.nil) (Os.cons (Ps.cons (Pt.asv0 (.int .u8) 1) (Ps.cons (Pt.int .i64) (Ps.cons (Pt.int .i64) (Ps.cons Pt.bool Ps.nil)))) (Os.cons (Ps.cons (Pt.row (.int .u8)) Ps.nil) Os.nil)))
theorem disk_Disk_Crash_eq (k : Nat) (a0 : Int) (a1 : (List Int)) (a2 : Nat) (a3 : Int) (a4 : Int) (a5 : Bool) (a6 : (List Int)) : disk_Disk_Crash k a0 a1 a2 a3 a4 a5 a6 = (disk_Disk_ok k a2 a3 a4 a5 a6).bind fun r40 => (bif (!r40.1) then some ((), ((r40.2.1.1, (r40.2.1.2.1, (r40.2.1.2.2.1, (r40.2.1.2.2.2.1, ())))), ((r40.2.2.1.1, ()), ()))) else must (inC r40.2.1.2.1 ((r40.2.1.1 : Nat) : Int) r40.2.1.1) (must (inC (mnI (mxI a0 0) (((r40.2.1.1 - r40.2.1.2.1.toNat) : Nat) : Int)) (((r40.2.1.1 - r40.2.1.2.1.toNat) : Nat) : Int) (r40.2.1.1 - r40.2.1.2.1.toNat)) (must (inC (0 : Int) (wr .i64 ((wr .i64 (r40.2.1.2.1 + (mnI (mxI a0 0) (((r40.2.1.1 - r40.2.1.2.1.toNat) : Nat) : Int)))) + (((Nat.min a1.length ((r40.2.1.1 - r40.2.1.2.1.toNat) - (mnI (mxI a0 0) (((r40.2.1.1 - r40.2.1.2.1.toNat) : Nat) : Int)).toNat)) : Nat) : Int))) r40.2.1.1) (some ((), (((wr .i64 ((wr .i64 (r40.2.1.2.1 + (mnI (mxI a0 0) (((r40.2.1.1 - r40.2.1.2.1.toNat) : Nat) : Int)))) + (((Nat.min a1.length ((r40.2.1.1 - r40.2.1.2.1.toNat) - (mnI (mxI a0 0) (((r40.2.1.1 - r40.2.1.2.1.toNat) : Nat) : Int)).toNat)) : Nat) : Int))).toNat, ((((wr .i64 ((wr .i64 (r40.2.1.2.1 + (mnI (mxI a0 0) (((r40.2.1.1 - r40.2.1.2.1.toNat) : Nat) : Int)))) + (((Nat.min a1.length ((r40.2.1.1 - r40.2.1.2.1.toNat) - (mnI (mxI a0 0) (((r40.2.1.1 - r40.2.1.2.1.toNat) : Nat) : Int)).toNat)) : Nat) : Int))).toNat : Nat) : Int), (r40.2.1.2.2.1, (r40.2.1.2.2.2.1, ())))), (((lay r40.2.2.1.1 ((0 + r40.2.1.2.1.toNat) + (mnI (mxI a0 0) (((r40.2.1.1 - r40.2.1.2.1.toNat) : Nat) : Int)).toNat) (a1.take (Nat.min a1.length ((r40.2.1.1 - r40.2.1.2.1.toNat) - (mnI (mxI a0 0) (((r40.2.1.1 - r40.2.1.2.1.toNat) : Nat) : Int)).toNat)))), ()), ()))))))) := by kernel_rfl
noncomputable def disk_Disk_Crash_sp (k : Nat) : Spec := mkSp (Ps.cons (Pt.ptr 0 0) (Ps.cons (Pt.int .i64) (Ps.cons (Pt.sl (.int .u8)) Ps.nil))) (Os.cons (Ps.cons (Pt.asv0 (.int .u8) 1) (Ps.cons (Pt.int .i64) (Ps.cons (Pt.int .i64) (Ps.cons Pt.bool Ps.nil)))) (Os.cons (Ps.cons (Pt.row (.int .u8)) Ps.nil) Os.nil)) (Pt.tup Ps.nil) (Os.cons (Ps.cons (Pt.asv0 (.int .u8) 1) (Ps.cons (Pt.int .i64) (Ps.cons (Pt.int .i64) (Ps.cons Pt.bool Ps.nil)))) (Os.cons (Ps.cons (Pt.row (.int .u8)) Ps.nil) Os.nil)) (fun p o => disk_Disk_Crash k p.2.1 p.2.2.1 o.1.1 o.1.2.1 o.1.2.2.1 o.1.2.2.2.1 o.2.1.1) [.asis, .asis, .sh] [[.asis, .asis, .asis, .asis], [.asis]] 0 (fun xs => !isNilA 0 xs)
theorem disk_Disk_Crash_ok (k : Nat) : SpecOk Try.prog 16 (disk_Disk_Crash_sp k) := mk_ok (k := k) (h := (.two .z (.two (.dw [] [] true false) (.two .z (.two .z (.two (.dw [] [] true false) .z)))))) (W := [disk_Disk_Crash_wr0]) G_ok (disk_Disk_Crash_EOK k) Try.func16 (c := disk_Disk_Crash_c) (by kernel_rfl) (by kernel_rfl) (by kernel_rfl) (by kernel_rfl) (by kernel_rfl) fun _ _ => rfl

noncomputable def law06_awake_E (k : Nat) : Table := [(14, disk_Disk_Append_sp k), (17, disk_Disk_Bytes_sp k), (16, disk_Disk_Crash_sp k), (15, disk_Disk_Sync_sp k), (13, disk_New_sp k)]
theorem law06_awake_EOK (k : Nat) : TabOk Try.prog (law06_awake_E k) := .cons (disk_Disk_Append_ok k) <| .cons (disk_Disk_Bytes_ok k) <| .cons (disk_Disk_Crash_ok k) <| .cons (disk_Disk_Sync_ok k) <| .cons (disk_New_ok k) <| .nil
noncomputable def law06_awake_G : Env := rowEnv G [(4, 1), (15, 1)]
/-- plenum/plenumlaw06.awake -/
noncomputable def law06_awake_c : Code := bodyOf Try.f12
noncomputable def law06_awake_wr0 : Norm := { keep := [(0, .asis)], objs := [], c := 0 }
noncomputable def law06_awake (k : Nat)  : Option (Bool × Unit) := fnK law06_awake_G (law06_awake_E k) k .z law06_awake_c 26 [.tmp 0] 0 [law06_awake_wr0] [] [] [] (rd Pt.bool Os.nil)
theorem law06_awake_eq (k : Nat)  : law06_awake k  = (disk_New k (10 : Int)).bind fun r1 => (disk_Disk_Append k [(97 : Int), (98 : Int)] r1.2.1.1 r1.2.1.2.1 r1.2.1.2.2.1 r1.2.1.2.2.2.1 r1.2.2.1.1).bind fun r28 => (bif (!decide (r28.1 = 0)) then some (false, ()) else (disk_Disk_Sync k r28.2.1.1 r28.2.1.2.1 r28.2.1.2.2.1 r28.2.1.2.2.2.1 r28.2.2.2.1.1).bind fun r30 => (bif (!decide (r30.1 = 0)) then some (false, ()) else (disk_Disk_Append k [(99 : Int)] r30.2.1.1 r30.2.1.2.1 r30.2.1.2.2.1 r30.2.1.2.2.2.1 r30.2.2.1.1).bind fun r31 => (bif (!decide (r31.1 = 0)) then some (false, ()) else (disk_Disk_Crash k (0 : Int) [] r31.2.1.1 r31.2.1.2.1 r31.2.1.2.2.1 r31.2.1.2.2.2.1 r31.2.2.2.1.1).bind fun r41 => (disk_Disk_Bytes k r41.2.1.1 r41.2.1.2.1 r41.2.1.2.2.1 r41.2.1.2.2.2.1 r41.2.2.1.1).bind fun r42 => some ((beqL r42.1 [97, 98]), ())))) := by kernel_rfl
noncomputable def law06_awake_sp (k : Nat) : Spec := mkSp Ps.nil Os.nil Pt.bool Os.nil (fun _ _ => law06_awake k) [] [] 0 (fun _ => true)
theorem law06_awake_ok (k : Nat) : SpecOk Try.prog 12 (law06_awake_sp k) := mk_ok (k := k) (h := .z) (W := [law06_awake_wr0]) (G_ok.rows _) (law06_awake_EOK k) Try.func12 (c := law06_awake_c) (by kernel_rfl) (by kernel_rfl) (by kernel_rfl) (by kernel_rfl) (by kernel_rfl) fun _ _ => rfl

noncomputable def disk_Disk_ok_nil_E (k : Nat) : Table := []
theorem disk_Disk_ok_nil_EOK (k : Nat) : TabOk Try.prog (disk_Disk_ok_nil_E k) := .nil
/-- (*plenum/disk.Disk).ok -/
noncomputable def disk_Disk_ok_nil_c : Code := bodyOf Try.f41
noncomputable def disk_Disk_ok_nil_wr0 : Norm := { keep := [(2, .asis)], objs := [], c := 0 }
noncomputable def disk_Disk_ok_nil (k : Nat)  : Option (Bool × Unit) := fnK G (disk_Disk_ok_nil_E k) k .z disk_Disk_ok_nil_c 11 [.tmp 2] 0 [disk_Disk_ok_nil_wr0] [] [.nilp] [] (rd Pt.bool Os.nil)
theorem disk_Disk_ok_nil_eq (k : Nat)  : disk_Disk_ok_nil k  = some (false, ()) := by kernel_rfl
noncomputable def disk_Disk_ok_nil_sp (k : Nat) : Spec := mkSp (Ps.cons Pt.nilp Ps.nil) Os.nil Pt.bool Os.nil (fun _ _ => disk_Disk_ok_nil k) [.asis] [] 0 (fun xs => isNilA 0 xs)
theorem disk_Disk_ok_nil_ok (k : Nat) : SpecOk Try.prog 41 (disk_Disk_ok_nil_sp k) := mk_ok (k := k) (h := .z) (W := [disk_Disk_ok_nil_wr0]) G_ok (disk_Disk_ok_nil_EOK k) Try.func41 (c := disk_Disk_ok_nil_c) (by kernel_rfl) (by kernel_rfl) (by kernel_rfl) (by kernel_rfl) (by kernel_rfl) fun _ _ => rfl

noncomputable def disk_Disk_Crash_nil_E (k : Nat) : Table := [(41, disk_Disk_ok_nil_sp k)]
theorem disk_Disk_Crash_nil_EOK (k : Nat) : TabOk Try.prog (disk_Disk_Crash_nil_E k) := .cons (disk_Disk_ok_nil_ok k) <| .nil
/-- (*plenum/disk.Disk).Crash -/
noncomputable def disk_Disk_Crash_nil_c : Code := bodyOf Try.f16
noncomputable def disk_Disk_Crash_nil_wr0 : Norm := { keep := [], objs := [], c := 0 }
noncomputable def disk_Disk_Crash_nil (k : Nat) (a0 : Int) (a1 : (List Int)) : Option (Unit × Unit) := fnK G (disk_Disk_Crash_nil_E k) k .z disk_Disk_Crash_nil_c 54 [] 0 [disk_Disk_Crash_nil_wr0] [] [.nilp, .int .i64 a0, .sl (.int .u8) .sh none a1] [] (rd (Pt.tup Ps.nil) Os.nil)
theorem disk_Disk_Crash_nil_eq (k : Nat) (a0 : Int) (a1 : (List Int)) : disk_Disk_Crash_nil k a0 a1 = (disk_Disk_ok_nil k).bind fun r44 => (bif (!r44.1) then some ((), ()) else none) := by kernel_rfl
noncomputable def disk_Disk_Crash_nil_sp (k : Nat) : Spec := mkSp (Ps.cons Pt.nilp (Ps.cons (Pt.int .i64) (Ps.cons (Pt.sl (.int .u8)) Ps.nil))) Os.nil (Pt.tup Ps.nil) Os.nil (fun p o => disk_Disk_Crash_nil k p.2.1 p.2.2.1) [.asis, .asis, .sh] [] 0 (fun xs => isNilA 0 xs)
theorem disk_Disk_Crash_nil_ok (k : Nat) : SpecOk Try.prog 16 (disk_Disk_Crash_nil_sp k) := mk_ok (k := k) (h := .z) (W := [disk_Disk_Crash_nil_wr0]) G_ok (disk_Disk_Crash_nil_EOK k) Try.func16 (c := disk_Disk_Crash_nil_c) (by kernel_rfl) (by kernel_rfl) (by kernel_rfl) (by kernel_rfl) (by kernel_rfl) fun _ _ => rfl

noncomputable def disk_Disk_room_nil_E (k : Nat) : Table := [(41, disk_Disk_ok_nil_sp k)]
theorem disk_Disk_room_nil_EOK (k : Nat) : TabOk Try.prog (disk_Disk_room_nil_E k) := .cons (disk_Disk_ok_nil_ok k) <| .nil
/-- (*plenum/disk.Disk).room -/
noncomputable def disk_Disk_room_nil_c : Code := bodyOf Try.f40
noncomputable def disk_Disk_room_nil_wr0 : Norm := { keep := [(2, .asis)], objs := [], c := 0 }
noncomputable def disk_Disk_room_nil (k : Nat)  : Option (Int × Unit) := fnK G (disk_Disk_room_nil_E k) k .z disk_Disk_room_nil_c 10 [.tmp 2] 0 [disk_Disk_room_nil_wr0] [] [.nilp] [] (rd (Pt.int .i64) Os.nil)
theorem disk_Disk_room_nil_eq (k : Nat)  : disk_Disk_room_nil k  = (disk_Disk_ok_nil k).bind fun r46 => (bif (!r46.1) then some ((0 : Int), ()) else none) := by kernel_rfl
noncomputable def disk_Disk_room_nil_sp (k : Nat) : Spec := mkSp (Ps.cons Pt.nilp Ps.nil) Os.nil (Pt.int .i64) Os.nil (fun _ _ => disk_Disk_room_nil k) [.asis] [] 0 (fun xs => isNilA 0 xs)
theorem disk_Disk_room_nil_ok (k : Nat) : SpecOk Try.prog 40 (disk_Disk_room_nil_sp k) := mk_ok (k := k) (h := .z) (W := [disk_Disk_room_nil_wr0]) G_ok (disk_Disk_room_nil_EOK k) Try.func40 (c := disk_Disk_room_nil_c) (by kernel_rfl) (by kernel_rfl) (by kernel_rfl) (by kernel_rfl) (by kernel_rfl) fun _ _ => rfl

noncomputable def disk_Disk_Bytes_nil_E (k : Nat) : Table := [(41, disk_Disk_ok_nil_sp k)]
theorem disk_Disk_Bytes_nil_EOK (k : Nat) : TabOk Try.prog (disk_Disk_Bytes_nil_E k) := .cons (disk_Disk_ok_nil_ok k) <| .nil
/-- (*plenum/disk.Disk).Bytes -/
noncomputable def disk_Disk_Bytes_nil_c : Code := bodyOf Try.f17
noncomputable def disk_Disk_Bytes_nil_wr0 : Norm := { keep := [(2, .own 0)], objs := [], c := 1 }
noncomputable def disk_Disk_Bytes_nil (k : Nat)  : Option ((List Int) × Unit) := fnK G (disk_Disk_Bytes_nil_E k) k .z disk_Disk_Bytes_nil_c 11 [.tmp 2] 1 [disk_Disk_Bytes_nil_wr0] [] [.nilp] [] (rd (Pt.own 0 (.int .u8)) Os.nil)
theorem disk_Disk_Bytes_nil_eq (k : Nat)  : disk_Disk_Bytes_nil k  = (disk_Disk_ok_nil k).bind fun r48 => (bif (!r48.1) then some ([], ()) else none) := by kernel_rfl
noncomputable def disk_Disk_Bytes_nil_sp (k : Nat) : Spec := mkSp (Ps.cons Pt.nilp Ps.nil) Os.nil (Pt.own 0 (.int .u8)) Os.nil (fun _ _ => disk_Disk_Bytes_nil k) [.asis] [] 1 (fun xs => isNilA 0 xs)
theorem disk_Disk_Bytes_nil_ok (k : Nat) : SpecOk Try.prog 17 (disk_Disk_Bytes_nil_sp k) := mk_ok (k := k) (h := .z) (W := [disk_Disk_Bytes_nil_wr0]) G_ok (disk_Disk_Bytes_nil_EOK k) Try.func17 (c := disk_Disk_Bytes_nil_c) (by kernel_rfl) (by kernel_rfl) (by kernel_rfl) (by kernel_rfl) (by kernel_rfl) fun _ _ => rfl

noncomputable def disk_Disk_Append_nil_E (k : Nat) : Table := [(17, disk_Disk_Bytes_nil_sp k), (41, disk_Disk_ok_nil_sp k), (40, disk_Disk_room_nil_sp k)]
theorem disk_Disk_Append_nil_EOK (k : Nat) : TabOk Try.prog (disk_Disk_Append_nil_E k) := .cons (disk_Disk_Bytes_nil_ok k) <| .cons (disk_Disk_ok_nil_ok k) <| .cons (disk_Disk_room_nil_ok k) <| .nil
/-- (*plenum/disk.Disk).Append -/
noncomputable def disk_Disk_Append_nil_c : Code := bodyOf Try.f14
noncomputable def disk_Disk_Append_nil_wrrlr : Norm := { keep := [], objs := [], c := 0 }
noncomputable def disk_Disk_Append_nil_wr0 : Norm := { keep := [(4, .asis)], objs := [], c := 0 }
noncomputable def disk_Disk_Append_nil (k : Nat) (a0 : (List Int)) : Option (Int × Unit) := fnK G (disk_Disk_Append_nil_E k) k (.two .z (.two .z (.two (.two .z (.cd disk_Disk_Append_nil_wrrlr .z .z)) .z))) disk_Disk_Append_nil_c 25 [.tmp 4] 0 [disk_Disk_Append_nil_wr0] [] [.nilp, .sl (.int .u8) .sh none a0] [] (rd (Pt.int .i64) Os.nil)
noncomputable def disk_Disk_Append_nil_j0_c (k : Nat)  : Option (Int × Unit) := (seqK (exec G (disk_Disk_Append_nil_E k) k .z (rgt (rgt (rgt disk_Disk_Append_nil_c)))) (retK G [.tmp 4] 0 [disk_Disk_Append_nil_wr0] (rd (Pt.int .i64) Os.nil))) .normal (mkS 25 0 [] 0 [] [])
noncomputable def disk_Disk_Append_nil_j0 (k : Nat)  : Option (Int × Unit) := jmp k (disk_Disk_Append_nil_j0_c k )
theorem disk_Disk_Append_nil_j0_b (k : Nat)  : disk_Disk_Append_nil_j0_c k  = some ((0 : Int), ()) := by kernel_rfl
theorem disk_Disk_Append_nil_j0_eq (k : Nat)  : disk_Disk_Append_nil_j0 (k + 1)  = some ((0 : Int), ()) := by unfold disk_Disk_Append_nil_j0; exact (jmp_succ _ _).trans (disk_Disk_Append_nil_j0_b (k + 1) )
theorem disk_Disk_Append_nil_eq (k : Nat) (a0 : (List Int)) : disk_Disk_Append_nil k a0 = (disk_Disk_room_nil k).bind fun r47 => (disk_Disk_Bytes_nil k).bind fun r49 => (bif (decide ((wr .i64 (r47.1 - (r49.1.length : Int))) < (a0.length : Int))) then some ((60 : Int), ()) else (disk_Disk_ok_nil k).bind fun r50 => (bif r50.1 then none else disk_Disk_Append_nil_j0 k )) := by kernel_rfl
noncomputable def disk_Disk_Append_nil_sp (k : Nat) : Spec := mkSp (Ps.cons Pt.nilp (Ps.cons (Pt.sl (.int .u8)) Ps.nil)) Os.nil (Pt.int .i64) Os.nil (fun p o => disk_Disk_Append_nil k p.2.1) [.asis, .sh] [] 0 (fun xs => isNilA 0 xs)
theorem disk_Disk_Append_nil_ok (k : Nat) : SpecOk Try.prog 14 (disk_Disk_Append_nil_sp k) := mk_ok (k := k) (h := (.two .z (.two .z (.two (.two .z (.cd disk_Disk_Append_nil_wrrlr .z .z)) .z)))) (W := [disk_Disk_Append_nil_wr0]) G_ok (disk_Disk_Append_nil_EOK k) Try.func14 (c := disk_Disk_Append_nil_c) (by kernel_rfl) (by kernel_rfl) (by kernel_rfl) (by kernel_rfl) (by kernel_rfl) fun _ _ => rfl

noncomputable def disk_Disk_Sync_nil_E (k : Nat) : Table := [(41, disk_Disk_ok_nil_sp k)]
theorem disk_Disk_Sync_nil_EOK (k : Nat) : TabOk Try.prog (disk_Disk_Sync_nil_E k) := .cons (disk_Disk_ok_nil_ok k) <| .nil
/-- (*plenum/disk.Disk).Sync -/
noncomputable def disk_Disk_Sync_nil_c : Code := bodyOf Try.f15
noncomputable def disk_Disk_Sync_nil_wr0 : Norm := { keep := [(2, .asis)], objs := [], c := 0 }
noncomputable def disk_Disk_Sync_nil (k : Nat)  : Option (Int × Unit) := fnK G (disk_Disk_Sync_nil_E k) k .z disk_Disk_Sync_nil_c 14 [.tmp 2] 0 [disk_Disk_Sync_nil_wr0] [] [.nilp] [] (rd (Pt.int .i64) Os.nil)
theorem disk_Disk_Sync_nil_eq (k : Nat)  : disk_Disk_Sync_nil k  = (disk_Disk_ok_nil k).bind fun r52 => (bif (!r52.1) then some ((60 : Int), ()) else none) := by kernel_rfl
noncomputable def disk_Disk_Sync_nil_sp (k : Nat) : Spec := mkSp (Ps.cons Pt.nilp Ps.nil) Os.nil (Pt.int .i64) Os.nil (fun _ _ => disk_Disk_Sync_nil k) [.asis] [] 0 (fun xs => isNilA 0 xs)
theorem disk_Disk_Sync_nil_ok (k : Nat) : SpecOk Try.prog 15 (disk_Disk_Sync_nil_sp k) := mk_ok (k := k) (h := .z) (W := [disk_Disk_Sync_nil_wr0]) G_ok (disk_Disk_Sync_nil_EOK k) Try.func15 (c := disk_Disk_Sync_nil_c) (by kernel_rfl) (by kernel_rfl) (by kernel_rfl) (by kernel_rfl) (by kernel_rfl) fun _ _ => rfl

noncomputable def disk_Disk_Swap_nil_E (k : Nat) : Table := [(41, disk_Disk_ok_nil_sp k)]
theorem disk_Disk_Swap_nil_EOK (k : Nat) : TabOk Try.prog (disk_Disk_Swap_nil_E k) := .cons (disk_Disk_ok_nil_ok k) <| .nil
/-- (*plenum/disk.Disk).Swap -/
noncomputable def disk_Disk_Swap_nil_c : Code := bodyOf Try.f19
noncomputable def disk_Disk_Swap_nil_wr0 : Norm := { keep := [(4, .asis)], objs := [], c := 0 }
noncomputable def disk_Disk_Swap_nil (k : Nat) (a0 : (List Int)) : Option (Int × Unit) := fnK G (disk_Disk_Swap_nil_E k) k .z disk_Disk_Swap_nil_c 24 [.tmp 4] 0 [disk_Disk_Swap_nil_wr0] [] [.nilp, .sl (.int .u8) .sh none a0] [] (rd (Pt.int .i64) Os.nil)
theorem disk_Disk_Swap_nil_eq (k : Nat) (a0 : (List Int)) : disk_Disk_Swap_nil k a0 = (disk_Disk_ok_nil k).bind fun r54 => (bif (!r54.1) then some ((60 : Int), ()) else none) := by kernel_rfl
noncomputable def disk_Disk_Swap_nil_sp (k : Nat) : Spec := mkSp (Ps.cons Pt.nilp (Ps.cons (Pt.sl (.int .u8)) Ps.nil)) Os.nil (Pt.int .i64) Os.nil (fun p o => disk_Disk_Swap_nil k p.2.1) [.asis, .sh] [] 0 (fun xs => isNilA 0 xs)
theorem disk_Disk_Swap_nil_ok (k : Nat) : SpecOk Try.prog 19 (disk_Disk_Swap_nil_sp k) := mk_ok (k := k) (h := .z) (W := [disk_Disk_Swap_nil_wr0]) G_ok (disk_Disk_Swap_nil_EOK k) Try.func19 (c := disk_Disk_Swap_nil_c) (by kernel_rfl) (by kernel_rfl) (by kernel_rfl) (by kernel_rfl) (by kernel_rfl) fun _ _ => rfl

noncomputable def disk_Disk_Cut_nil_E (k : Nat) : Table := [(41, disk_Disk_ok_nil_sp k)]
theorem disk_Disk_Cut_nil_EOK (k : Nat) : TabOk Try.prog (disk_Disk_Cut_nil_E k) := .cons (disk_Disk_ok_nil_ok k) <| .nil
/-- (*plenum/disk.Disk).Cut -/
noncomputable def disk_Disk_Cut_nil_c : Code := bodyOf Try.f24
noncomputable def disk_Disk_Cut_nil_wr0 : Norm := { keep := [(4, .asis)], objs := [], c := 0 }
noncomputable def disk_Disk_Cut_nil (k : Nat) (a0 : Int) : Option (Int × Unit) := fnK G (disk_Disk_Cut_nil_E k) k .z disk_Disk_Cut_nil_c 32 [.tmp 4] 0 [disk_Disk_Cut_nil_wr0] [] [.nilp, .int .i64 a0] [] (rd (Pt.int .i64) Os.nil)
theorem disk_Disk_Cut_nil_eq (k : Nat) (a0 : Int) : disk_Disk_Cut_nil k a0 = (disk_Disk_ok_nil k).bind fun r56 => (bif (!r56.1) then some ((60 : Int), ()) else (bif (decide (a0 < 0)) then some ((1 : Int), ()) else none)) := by kernel_rfl
noncomputable def disk_Disk_Cut_nil_sp (k : Nat) : Spec := mkSp (Ps.cons Pt.nilp (Ps.cons (Pt.int .i64) Ps.nil)) Os.nil (Pt.int .i64) Os.nil (fun p o => disk_Disk_Cut_nil k p.2.1) [.asis, .asis] [] 0 (fun xs => isNilA 0 xs)
theorem disk_Disk_Cut_nil_ok (k : Nat) : SpecOk Try.prog 24 (disk_Disk_Cut_nil_sp k) := mk_ok (k := k) (h := .z) (W := [disk_Disk_Cut_nil_wr0]) G_ok (disk_Disk_Cut_nil_EOK k) Try.func24 (c := disk_Disk_Cut_nil_c) (by kernel_rfl) (by kernel_rfl) (by kernel_rfl) (by kernel_rfl) (by kernel_rfl) fun _ _ => rfl

noncomputable def disk_Disk_Synced_nil_E (k : Nat) : Table := [(41, disk_Disk_ok_nil_sp k)]
theorem disk_Disk_Synced_nil_EOK (k : Nat) : TabOk Try.prog (disk_Disk_Synced_nil_E k) := .cons (disk_Disk_ok_nil_ok k) <| .nil
/-- (*plenum/disk.Disk).Synced -/
noncomputable def disk_Disk_Synced_nil_c : Code := bodyOf Try.f18
noncomputable def disk_Disk_Synced_nil_wr0 : Norm := { keep := [(2, .asis)], objs := [], c := 0 }
noncomputable def disk_Disk_Synced_nil (k : Nat)  : Option (Int × Unit) := fnK G (disk_Disk_Synced_nil_E k) k .z disk_Disk_Synced_nil_c 10 [.tmp 2] 0 [disk_Disk_Synced_nil_wr0] [] [.nilp] [] (rd (Pt.int .i64) Os.nil)
theorem disk_Disk_Synced_nil_eq (k : Nat)  : disk_Disk_Synced_nil k  = (disk_Disk_ok_nil k).bind fun r59 => (bif (!r59.1) then some ((0 : Int), ()) else none) := by kernel_rfl
noncomputable def disk_Disk_Synced_nil_sp (k : Nat) : Spec := mkSp (Ps.cons Pt.nilp Ps.nil) Os.nil (Pt.int .i64) Os.nil (fun _ _ => disk_Disk_Synced_nil k) [.asis] [] 0 (fun xs => isNilA 0 xs)
theorem disk_Disk_Synced_nil_ok (k : Nat) : SpecOk Try.prog 18 (disk_Disk_Synced_nil_sp k) := mk_ok (k := k) (h := .z) (W := [disk_Disk_Synced_nil_wr0]) G_ok (disk_Disk_Synced_nil_EOK k) Try.func18 (c := disk_Disk_Synced_nil_c) (by kernel_rfl) (by kernel_rfl) (by kernel_rfl) (by kernel_rfl) (by kernel_rfl) fun _ _ => rfl

noncomputable def law06_DiskNone_E (k : Nat) : Table := [(14, disk_Disk_Append_nil_sp k), (17, disk_Disk_Bytes_nil_sp k), (16, disk_Disk_Crash_nil_sp k), (24, disk_Disk_Cut_nil_sp k), (19, disk_Disk_Swap_nil_sp k), (15, disk_Disk_Sync_nil_sp k), (18, disk_Disk_Synced_nil_sp k), (12, law06_awake_sp k)]
theorem law06_DiskNone_EOK (k : Nat) : TabOk Try.prog (law06_DiskNone_E k) := .cons (disk_Disk_Append_nil_ok k) <| .cons (disk_Disk_Bytes_nil_ok k) <| .cons (disk_Disk_Crash_nil_ok k) <| .cons (disk_Disk_Cut_nil_ok k) <| .cons (disk_Disk_Swap_nil_ok k) <| .cons (disk_Disk_Sync_nil_ok k) <| .cons (disk_Disk_Synced_nil_ok k) <| .cons (law06_awake_ok k) <| .nil
/-- plenum/plenumlaw06.DiskNone -/
noncomputable def law06_DiskNone_c : Code := bodyOf Try.f6
noncomputable def law06_DiskNone_wr0 : Norm := { keep := [(4, .asis)], objs := [], c := 0 }
noncomputable def law06_DiskNone (k : Nat) (a0 : (List Int)) (a1 : Int) : Option (Bool × Unit) := fnK G (law06_DiskNone_E k) k .z law06_DiskNone_c 51 [.tmp 4] 0 [law06_DiskNone_wr0] [] [.sl (.int .u8) .sh none a0, .int .i64 a1] [] (rd Pt.bool Os.nil)
theorem law06_DiskNone_eq (k : Nat) (a0 : (List Int)) (a1 : Int) : law06_DiskNone k a0 a1 = (law06_awake k).bind fun r43 => (bif (!r43.1) then some (false, ()) else (bif (decide (300 < (a0.length : Int))) then some (true, ()) else (disk_Disk_Crash_nil k a1 a0).bind fun r45 => (disk_Disk_Append_nil k a0).bind fun r51 => (bif (beqB (decide (r51.1 = 60)) (decide (0 < (a0.length : Int)))) then (disk_Disk_Sync_nil k).bind fun r53 => (bif (decide (r53.1 = 60)) then (disk_Disk_Swap_nil k []).bind fun r55 => (bif (decide (r55.1 = 60)) then (disk_Disk_Cut_nil k (0 : Int)).bind fun r57 => (bif (decide (r57.1 = 60)) then (disk_Disk_Bytes_nil k).bind fun r58 => (bif (decide ((r58.1.length : Int) = 0)) then (disk_Disk_Synced_nil k).bind fun r60 => some ((decide (r60.1 = 0)), ()) else some (false, ())) else some (false, ())) else some (false, ())) else some (false, ())) else some (false, ())))) := by kernel_rfl
noncomputable def law06_DiskNone_sp (k : Nat) : Spec := mkSp (Ps.cons (Pt.sl (.int .u8)) (Ps.cons (Pt.int .i64) Ps.nil)) Os.nil Pt.bool Os.nil (fun p o => law06_DiskNone k p.1 p.2.1) [.sh, .asis] [] 0 (fun _ => true)
theorem law06_DiskNone_ok (k : Nat) : SpecOk Try.prog 6 (law06_DiskNone_sp k) := mk_ok (k := k) (h := .z) (W := [law06_DiskNone_wr0]) G_ok (law06_DiskNone_EOK k) Try.func6 (c := law06_DiskNone_c) (by kernel_rfl) (by kernel_rfl) (by kernel_rfl) (by kernel_rfl) (by kernel_rfl) fun _ _ => rfl

end Go.Proofs.Ytjilcpjapnngfaa.Den
