import Derived.Test.YtnojkokhfmgcfaaDen33
import Derived.Test.YtnojkokhfmgcfaaProg
import Derived.KernelRfl
namespace Go.Proofs.Ytnojkokhfmgcfaa.Den
open Go
set_option maxRecDepth 100000
noncomputable def G : Env := tabEnv [(3, (.int .i64)), (4, .bool), (5, (.int .u8)), (9, .str), (23, (.int .u64)), (27, (.int .u32)), (28, (.sl (.int .u8))), (34, (.int .u64)), (45, (.int .i64)), (52, (.sl (.sl (.int .u8)))), (58, (.sl (.int .i64)))] [] [] []
theorem G_ok : EnvOk Try.prog G := env_ok (by kernel_rfl)
noncomputable def frame_Size_E (k : Nat) : Table := []
theorem frame_Size_EOK (k : Nat) : TabOk Try.prog (frame_Size_E k) := .nil
/-- plenum/frame.Size -/
noncomputable def frame_Size_c : Code := bodyOf Try.f56
noncomputable def frame_Size_wr0 : Norm := { keep := [(2, .asis)], objs := [], c := 0 }
noncomputable def frame_Size (k : Nat) (a0 : Int) : Option (Int × Unit) := fnK G (frame_Size_E k) k .z frame_Size_c 11 [.tmp 2] 0 [frame_Size_wr0] [] [.int .i64 a0] [] (rd (Pt.int .i64) Os.nil)
theorem frame_Size_eq (k : Nat) (a0 : Int) : frame_Size k a0 = (bif (decide (a0 < 0)) then some ((0 : Int), ()) else (bif (decide (65536 < a0)) then some ((0 : Int), ()) else some ((wr .i64 (8 + a0)), ()))) := by kernel_rfl
noncomputable def frame_Size_sp (k : Nat) : Spec := mkSp (Ps.cons (Pt.int .i64) Ps.nil) Os.nil (Pt.int .i64) Os.nil (fun p o => frame_Size k p.1) [.asis] [] 0 (fun _ => true)
theorem frame_Size_ok (k : Nat) : SpecOk Try.prog 56 (frame_Size_sp k) := mk_ok (k := k) (h := .z) (W := [frame_Size_wr0]) G_ok (frame_Size_EOK k) Try.func56 (c := frame_Size_c) (by kernel_rfl) (by kernel_rfl) (by kernel_rfl) (by kernel_rfl) (by kernel_rfl) fun _ _ => rfl

noncomputable def num_Put_E (k : Nat) : Table := []
theorem num_Put_EOK (k : Nat) : TabOk Try.prog (num_Put_E k) := .nil
noncomputable def num_Put_G : Env := rowEnv G [(4, 1)]
/-- plenum/num.Put -/
noncomputable def num_Put_c : Code := bodyOf Try.f36
noncomputable def num_Put_wrrrlrl : Norm := { keep := [(0, .asis), (1, .asis), (5, .asis), (15, .asis), (16, .asis)], objs := [[.asis]], c := 0 }
noncomputable def num_Put_wr0 : Norm := { keep := [(4, .asis)], objs := [[.asis]], c := 0 }
noncomputable def num_Put (k : Nat) (a0 : Int) (a1 : Int) : Option (Unit × (((List Int) × Unit) × Unit)) := fnK num_Put_G (num_Put_E k) k (.two .z (.two .z (.two .z (.two (.two .z (.lp num_Put_wrrrlrl .z)) .z)))) num_Put_c 32 [.tmp 4] 0 [num_Put_wr0] [] [.int .u64 a0, .int .i64 a1] [] (rd (Pt.asl (.int .u8) 0) (Os.cons (Ps.cons (Pt.row (.int .u8)) Ps.nil) Os.nil))
noncomputable def num_Put_l0 (k n : Nat) (v2 : Int) (v3 : Int) (v4 : Int) (v5 : Int) (v6 : (List Int)) : Option (Unit × (((List Int) × Unit) × Unit)) := iter (exec num_Put_G (num_Put_E k) k .z (lft (lft (rgt (lft (rgt (rgt (rgt num_Put_c)))))))) num_Put_wrrrlrl (blkK 0 (seqK (exec num_Put_G (num_Put_E k) k .z (rgt (rgt (rgt (rgt num_Put_c))))) (retK num_Put_G [.tmp 4] 0 [num_Put_wr0] (rd (Pt.asl (.int .u8) 0) (Os.cons (Ps.cons (Pt.row (.int .u8)) Ps.nil) Os.nil))))) n (mkS 32 0 [(0, (.int .u64 v2)), (1, (.int .i64 v3)), (5, (.ref (.asl (.int .u8)) 0)), (15, (.int .i64 v4)), (16, (.int .i64 v5))] 0 [] [[.blk (.row (.int .u8) v6)]])
theorem num_Put_l0_zero (k : Nat) (v2 : Int) (v3 : Int) (v4 : Int) (v5 : Int) (v6 : (List Int)) : num_Put_l0 k 0 v2 v3 v4 v5 v6 = none := rfl
theorem num_Put_l0_eq (k n : Nat) (v2 : Int) (v3 : Int) (v4 : Int) (v5 : Int) (v6 : (List Int)) : num_Put_l0 k (n + 1) v2 v3 v4 v5 v6 = (bif (decide (v5 < v4)) then (shrK .u64 v2 (wr .i64 (8 * v5))).bind fun x7 => must (inI (wr .i64 ((wr .i64 (v3 - 1)) - v5)) v6.length) (must (Nat.blt (wr .i64 ((wr .i64 (v3 - 1)) - v5)).toNat v6.length) (num_Put_l0 k n v2 v3 v4 (wr .i64 (v5 + 1)) (v6.set (wr .i64 ((wr .i64 (v3 - 1)) - v5)).toNat (wr .u8 x7)))) else some ((), ((v6, ()), ()))) := by kernel_rfl
theorem num_Put_eq (k : Nat) (a0 : Int) (a1 : Int) : num_Put k a0 a1 = (bif (decide (a1 < 0)) then some ((), (([], ()), ())) else (bif (decide (8 < a1)) then some ((), (([], ()), ())) else must (decide (0 ≤ a1) && beqI a1 a1) (lim a1.toNat (num_Put_l0 k k a0 a1 a1 (0 : Int) (List.replicate a1.toNat (0 : Int)))))) := by kernel_rfl
noncomputable def num_Put_sp (k : Nat) : Spec := mkSp (Ps.cons (Pt.int .u64) (Ps.cons (Pt.int .i64) Ps.nil)) Os.nil (Pt.asl (.int .u8) 0) (Os.cons (Ps.cons (Pt.row (.int .u8)) Ps.nil) Os.nil) (fun p o => num_Put k p.1 p.2.1) [.asis, .asis] [] 0 (fun _ => true)
theorem num_Put_ok (k : Nat) : SpecOk Try.prog 36 (num_Put_sp k) := mk_ok (k := k) (h := (.two .z (.two .z (.two .z (.two (.two .z (.lp num_Put_wrrrlrl .z)) .z))))) (W := [num_Put_wr0]) (G_ok.rows _) (num_Put_EOK k) Try.func36 (c := num_Put_c) (by kernel_rfl) (by kernel_rfl) (by kernel_rfl) (by kernel_rfl) (by kernel_rfl) fun _ _ => rfl

noncomputable def crc_turn_E (k : Nat) : Table := []
theorem crc_turn_EOK (k : Nat) : TabOk Try.prog (crc_turn_E k) := .nil
/-- plenum/crc.turn -/
noncomputable def crc_turn_c : Code := bodyOf Try.f61
noncomputable def crc_turn_wrlrl : Norm := { keep := [(0, .asis), (4, .asis)], objs := [], c := 0 }
noncomputable def crc_turn_wr0 : Norm := { keep := [(2, .asis)], objs := [], c := 0 }
noncomputable def crc_turn (k : Nat) (a0 : Int) : Option (Int × Unit) := fnK G (crc_turn_E k) k (.two .z (.two (.two .z (.lp crc_turn_wrlrl .z)) .z)) crc_turn_c 17 [.tmp 2] 0 [crc_turn_wr0] [] [.int .u32 a0] [] (rd (Pt.int .u32) Os.nil)
noncomputable def crc_turn_l0 (k n : Nat) (v14 : Int) (v15 : Int) : Option (Int × Unit) := iter (exec G (crc_turn_E k) k .z (lft (lft (rgt (lft (rgt crc_turn_c)))))) crc_turn_wrlrl (blkK 0 (seqK (exec G (crc_turn_E k) k .z (rgt (rgt crc_turn_c))) (retK G [.tmp 2] 0 [crc_turn_wr0] (rd (Pt.int .u32) Os.nil)))) n (mkS 17 0 [(0, (.int .u32 v14)), (4, (.int .i64 v15))] 0 [] [])
theorem crc_turn_l0_zero (k : Nat) (v14 : Int) (v15 : Int) : crc_turn_l0 k 0 v14 v15 = none := rfl
theorem crc_turn_l0_eq (k n : Nat) (v14 : Int) (v15 : Int) : crc_turn_l0 k (n + 1) v14 v15 = (bif (decide (v15 < 8)) then crc_turn_l0 k n (Go.bits .xor .u32 (v14 / 2) (Go.bits .and .u32 2197175160 (wr .u32 (0 - (Go.bits .and .u32 v14 1))))) (wr .i64 (v15 + 1)) else some (v14, ())) := by kernel_rfl
theorem crc_turn_eq (k : Nat) (a0 : Int) : crc_turn k a0 = crc_turn_l0 k k a0 (0 : Int) := by kernel_rfl
noncomputable def crc_turn_sp (k : Nat) : Spec := mkSp (Ps.cons (Pt.int .u32) Ps.nil) Os.nil (Pt.int .u32) Os.nil (fun p o => crc_turn k p.1) [.asis] [] 0 (fun _ => true)
theorem crc_turn_ok (k : Nat) : SpecOk Try.prog 61 (crc_turn_sp k) := mk_ok (k := k) (h := (.two .z (.two (.two .z (.lp crc_turn_wrlrl .z)) .z))) (W := [crc_turn_wr0]) G_ok (crc_turn_EOK k) Try.func61 (c := crc_turn_c) (by kernel_rfl) (by kernel_rfl) (by kernel_rfl) (by kernel_rfl) (by kernel_rfl) fun _ _ => rfl

noncomputable def crc_Step_E (k : Nat) : Table := [(61, crc_turn_sp k)]
theorem crc_Step_EOK (k : Nat) : TabOk Try.prog (crc_Step_E k) := .cons (crc_turn_ok k) <| .nil
/-- plenum/crc.Step -/
noncomputable def crc_Step_c : Code := bodyOf Try.f27
noncomputable def crc_Step_wr0 : Norm := { keep := [(4, .asis)], objs := [], c := 0 }
noncomputable def crc_Step (k : Nat) (a0 : Int) (a1 : Int) : Option (Int × Unit) := fnK G (crc_Step_E k) k .z crc_Step_c 10 [.tmp 4] 0 [crc_Step_wr0] [] [.int .u32 a0, .int .u8 a1] [] (rd (Pt.int .u32) Os.nil)
theorem crc_Step_eq (k : Nat) (a0 : Int) (a1 : Int) : crc_Step k a0 a1 = (crc_turn k (Go.bits .xor .u32 a0 (wr .u32 a1))).bind fun r16 => some (r16.1, ()) := by kernel_rfl
noncomputable def crc_Step_sp (k : Nat) : Spec := mkSp (Ps.cons (Pt.int .u32) (Ps.cons (Pt.int .u8) Ps.nil)) Os.nil (Pt.int .u32) Os.nil (fun p o => crc_Step k p.1 p.2.1) [.asis, .asis] [] 0 (fun _ => true)
theorem crc_Step_ok (k : Nat) : SpecOk Try.prog 27 (crc_Step_sp k) := mk_ok (k := k) (h := .z) (W := [crc_Step_wr0]) G_ok (crc_Step_EOK k) Try.func27 (c := crc_Step_c) (by kernel_rfl) (by kernel_rfl) (by kernel_rfl) (by kernel_rfl) (by kernel_rfl) fun _ _ => rfl

noncomputable def crc_More_E (k : Nat) : Table := [(27, crc_Step_sp k)]
theorem crc_More_EOK (k : Nat) : TabOk Try.prog (crc_More_E k) := .cons (crc_Step_ok k) <| .nil
/-- plenum/crc.More -/
noncomputable def crc_More_c : Code := bodyOf Try.f31
noncomputable def crc_More_wrlrl : Norm := { keep := [(0, .asis), (7, .sh), (8, .asis), (9, .asis)], objs := [], c := 0 }
noncomputable def crc_More_wr0 : Norm := { keep := [(4, .asis)], objs := [], c := 0 }
noncomputable def crc_More (k : Nat) (a0 : Int) (a1 : (List Int)) : Option (Int × Unit) := fnK G (crc_More_E k) k (.two .z (.two (.two .z (.lp crc_More_wrlrl .z)) .z)) crc_More_c 18 [.tmp 4] 0 [crc_More_wr0] [] [.int .u32 a0, .sl (.int .u8) .sh none a1] [] (rd (Pt.int .u32) Os.nil)
noncomputable def crc_More_l0 (k n : Nat) (v9 : Int) (v10 : (List Int)) (v11 : Int) (v12 : Int) : Option (Int × Unit) := iter (exec G (crc_More_E k) k .z (lft (lft (rgt (lft (rgt crc_More_c)))))) crc_More_wrlrl (blkK 0 (seqK (exec G (crc_More_E k) k .z (rgt (rgt crc_More_c))) (retK G [.tmp 4] 0 [crc_More_wr0] (rd (Pt.int .u32) Os.nil)))) n (mkS 18 0 [(0, (.int .u32 v9)), (7, (.sl (.int .u8) .sh none v10)), (8, (.int .i64 v11)), (9, (.int .i64 v12))] 0 [] [])
theorem crc_More_l0_zero (k : Nat) (v9 : Int) (v10 : (List Int)) (v11 : Int) (v12 : Int) : crc_More_l0 k 0 v9 v10 v11 v12 = none := rfl
theorem crc_More_l0_eq (k n : Nat) (v9 : Int) (v10 : (List Int)) (v11 : Int) (v12 : Int) : crc_More_l0 k (n + 1) v9 v10 v11 v12 = (bif (decide (v12 < v11)) then (nth v10 v12).bind fun x13 => (crc_Step k v9 x13).bind fun r17 => crc_More_l0 k n r17.1 v10 v11 (wr .i64 (v12 + 1)) else some (v9, ())) := by kernel_rfl
theorem crc_More_eq (k : Nat) (a0 : Int) (a1 : (List Int)) : crc_More k a0 a1 = crc_More_l0 k k a0 a1 (a1.length : Int) (0 : Int) := by kernel_rfl
noncomputable def crc_More_sp (k : Nat) : Spec := mkSp (Ps.cons (Pt.int .u32) (Ps.cons (Pt.sl (.int .u8)) Ps.nil)) Os.nil (Pt.int .u32) Os.nil (fun p o => crc_More k p.1 p.2.1) [.asis, .sh] [] 0 (fun _ => true)
theorem crc_More_ok (k : Nat) : SpecOk Try.prog 31 (crc_More_sp k) := mk_ok (k := k) (h := (.two .z (.two (.two .z (.lp crc_More_wrlrl .z)) .z))) (W := [crc_More_wr0]) G_ok (crc_More_EOK k) Try.func31 (c := crc_More_c) (by kernel_rfl) (by kernel_rfl) (by kernel_rfl) (by kernel_rfl) (by kernel_rfl) fun _ _ => rfl

noncomputable def frame_sum_E (k : Nat) : Table := [(31, crc_More_sp k)]
theorem frame_sum_EOK (k : Nat) : TabOk Try.prog (frame_sum_E k) := .cons (crc_More_ok k) <| .nil
/-- plenum/frame.sum -/
noncomputable def frame_sum_c : Code := bodyOf Try.f66
noncomputable def frame_sum_wr0 : Norm := { keep := [(4, .asis)], objs := [], c := 0 }
noncomputable def frame_sum (k : Nat) (a0 : (List Int)) (a1 : (List Int)) : Option (Int × Unit) := fnK G (frame_sum_E k) k .z frame_sum_c 10 [.tmp 4] 0 [frame_sum_wr0] [] [.sl (.int .u8) .sh none a0, .sl (.int .u8) .sh none a1] [] (rd (Pt.int .u32) Os.nil)
theorem frame_sum_eq (k : Nat) (a0 : (List Int)) (a1 : (List Int)) : frame_sum k a0 a1 = (crc_More k (4294967295 : Int) a0).bind fun r18 => (crc_More k r18.1 a1).bind fun r19 => some ((Go.bits .xor .u32 4294967295 r19.1), ()) := by kernel_rfl
noncomputable def frame_sum_sp (k : Nat) : Spec := mkSp (Ps.cons (Pt.sl (.int .u8)) (Ps.cons (Pt.sl (.int .u8)) Ps.nil)) Os.nil (Pt.int .u32) Os.nil (fun p o => frame_sum k p.1 p.2.1) [.sh, .sh] [] 0 (fun _ => true)
theorem frame_sum_ok (k : Nat) : SpecOk Try.prog 66 (frame_sum_sp k) := mk_ok (k := k) (h := .z) (W := [frame_sum_wr0]) G_ok (frame_sum_EOK k) Try.func66 (c := frame_sum_c) (by kernel_rfl) (by kernel_rfl) (by kernel_rfl) (by kernel_rfl) (by kernel_rfl) fun _ _ => rfl

noncomputable def frame_Put_E (k : Nat) : Table := [(56, frame_Size_sp k), (66, frame_sum_sp k), (36, num_Put_sp k)]
theorem frame_Put_EOK (k : Nat) : TabOk Try.prog (frame_Put_E k) := .cons (frame_Size_ok k) <| .cons (frame_sum_ok k) <| .cons (num_Put_ok k) <| .nil
/-- plenum/frame.Put -/
noncomputable def frame_Put_c : Code := bodyOf Try.f54
noncomputable def frame_Put_wr0 : Norm := { keep := [(2, .sh)], objs := [], c := 0 }
noncomputable def frame_Put (k : Nat) (a0 : (List Int)) : Option ((List Int) × Unit) := fnK G (frame_Put_E k) k .z frame_Put_c 22 [.tmp 2] 0 [frame_Put_wr0] [] [.sl (.int .u8) .sh none a0] [] (rd (Pt.sl (.int .u8)) Os.nil)
theorem frame_Put_eq (k : Nat) (a0 : (List Int)) : frame_Put k a0 = (frame_Size k (a0.length : Int)).bind fun r22 => (bif (decide (r22.1 = 0)) then some ([], ()) else (num_Put k (wr .u64 (a0.length : Int)) (4 : Int)).bind fun r23 => (frame_sum k r23.2.1.1 a0).bind fun r24 => (num_Put k (wr .u64 r24.1) (4 : Int)).bind fun r25 => lim (r23.2.1.1.length + r25.2.1.1.length) (lim ((r23.2.1.1 ++ r25.2.1.1).length + a0.length) (some (((r23.2.1.1 ++ r25.2.1.1) ++ a0), ())))) := by kernel_rfl
noncomputable def frame_Put_sp (k : Nat) : Spec := mkSp (Ps.cons (Pt.sl (.int .u8)) Ps.nil) Os.nil (Pt.sl (.int .u8)) Os.nil (fun p o => frame_Put k p.1) [.sh] [] 0 (fun _ => true)
theorem frame_Put_ok (k : Nat) : SpecOk Try.prog 54 (frame_Put_sp k) := mk_ok (k := k) (h := .z) (W := [frame_Put_wr0]) G_ok (frame_Put_EOK k) Try.func54 (c := frame_Put_c) (by kernel_rfl) (by kernel_rfl) (by kernel_rfl) (by kernel_rfl) (by kernel_rfl) fun _ _ => rfl

noncomputable def law05_awake_E (k : Nat) : Table := [(54, frame_Put_sp k), (56, frame_Size_sp k)]
theorem law05_awake_EOK (k : Nat) : TabOk Try.prog (law05_awake_E k) := .cons (frame_Put_ok k) <| .cons (frame_Size_ok k) <| .nil
noncomputable def law05_awake_G : Env := rowEnv G [(2, 1)]
/-- plenum/plenumlaw05.awake -/
noncomputable def law05_awake_c : Code := bodyOf Try.f51
noncomputable def law05_awake_wr0 : Norm := { keep := [(0, .asis)], objs := [], c := 0 }
noncomputable def law05_awake (k : Nat)  : Option (Bool × Unit) := fnK law05_awake_G (law05_awake_E k) k .z law05_awake_c 18 [.tmp 0] 0 [law05_awake_wr0] [] [] [] (rd Pt.bool Os.nil)
theorem law05_awake_eq (k : Nat)  : law05_awake k  = (frame_Put k [(97 : Int), (98 : Int), (99 : Int)]).bind fun r26 => (frame_Size k (3 : Int)).bind fun r27 => (bif (decide (r27.1 = 11)) then (bif (decide ((r26.1.length : Int) = 11)) then (nth r26.1 3).bind fun x28 => some ((decide (x28 = 3)), ()) else some (false, ())) else some (false, ())) := by kernel_rfl
noncomputable def law05_awake_sp (k : Nat) : Spec := mkSp Ps.nil Os.nil Pt.bool Os.nil (fun _ _ => law05_awake k) [] [] 0 (fun _ => true)
theorem law05_awake_ok (k : Nat) : SpecOk Try.prog 51 (law05_awake_sp k) := mk_ok (k := k) (h := .z) (W := [law05_awake_wr0]) (G_ok.rows _) (law05_awake_EOK k) Try.func51 (c := law05_awake_c) (by kernel_rfl) (by kernel_rfl) (by kernel_rfl) (by kernel_rfl) (by kernel_rfl) fun _ _ => rfl

noncomputable def law05_few_E (k : Nat) : Table := []
theorem law05_few_EOK (k : Nat) : TabOk Try.prog (law05_few_E k) := .nil
/-- plenum/plenumlaw05.few -/
noncomputable def law05_few_c : Code := bodyOf Try.f60
noncomputable def law05_few_wrlrl : Norm := { keep := [(0, .sh), (5, .sh), (6, .asis), (7, .asis)], objs := [], c := 0 }
noncomputable def law05_few_wr0 : Norm := { keep := [(2, .asis)], objs := [], c := 0 }
noncomputable def law05_few (k : Nat) (a0 : (List (List Int))) : Option (Bool × Unit) := fnK G (law05_few_E k) k (.two .z (.two (.two .z (.lp law05_few_wrlrl .z)) .z)) law05_few_c 18 [.tmp 2] 0 [law05_few_wr0] [] [.sl (.sl (.int .u8)) .sh none a0] [] (rd Pt.bool Os.nil)
noncomputable def law05_few_l0 (k n : Nat) (v30 : (List (List Int))) (v31 : (List (List Int))) (v32 : Int) (v33 : Int) : Option (Bool × Unit) := iter (exec G (law05_few_E k) k .z (lft (lft (rgt (lft (rgt law05_few_c)))))) law05_few_wrlrl (blkK 0 (seqK (exec G (law05_few_E k) k .z (rgt (rgt law05_few_c))) (retK G [.tmp 2] 0 [law05_few_wr0] (rd Pt.bool Os.nil)))) n (mkS 18 0 [(0, (.sl (.sl (.int .u8)) .sh none v30)), (5, (.sl (.sl (.int .u8)) .sh none v31)), (6, (.int .i64 v32)), (7, (.int .i64 v33))] 0 [] [])
theorem law05_few_l0_zero (k : Nat) (v30 : (List (List Int))) (v31 : (List (List Int))) (v32 : Int) (v33 : Int) : law05_few_l0 k 0 v30 v31 v32 v33 = none := rfl
theorem law05_few_l0_eq (k n : Nat) (v30 : (List (List Int))) (v31 : (List (List Int))) (v32 : Int) (v33 : Int) : law05_few_l0 k (n + 1) v30 v31 v32 v33 = (bif (decide (v33 < v32)) then (nth v31 v33).bind fun x34 => (bif (decide (100 < (x34.length : Int))) then some (false, ()) else law05_few_l0 k n v30 v31 v32 (wr .i64 (v33 + 1))) else some ((decide ((v30.length : Int) ≤ 12)), ())) := by kernel_rfl
theorem law05_few_eq (k : Nat) (a0 : (List (List Int))) : law05_few k a0 = law05_few_l0 k k a0 a0 (a0.length : Int) (0 : Int) := by kernel_rfl
noncomputable def law05_few_sp (k : Nat) : Spec := mkSp (Ps.cons (Pt.sl (.sl (.int .u8))) Ps.nil) Os.nil Pt.bool Os.nil (fun p o => law05_few k p.1) [.sh] [] 0 (fun _ => true)
theorem law05_few_ok (k : Nat) : SpecOk Try.prog 60 (law05_few_sp k) := mk_ok (k := k) (h := (.two .z (.two (.two .z (.lp law05_few_wrlrl .z)) .z))) (W := [law05_few_wr0]) G_ok (law05_few_EOK k) Try.func60 (c := law05_few_c) (by kernel_rfl) (by kernel_rfl) (by kernel_rfl) (by kernel_rfl) (by kernel_rfl) fun _ _ => rfl

noncomputable def num_Of_E (k : Nat) : Table := []
theorem num_Of_EOK (k : Nat) : TabOk Try.prog (num_Of_E k) := .nil
/-- plenum/num.Of -/
noncomputable def num_Of_c : Code := bodyOf Try.f47
noncomputable def num_Of_wrrlrl : Norm := { keep := [(3, .asis), (6, .sh), (7, .asis), (8, .asis)], objs := [], c := 0 }
noncomputable def num_Of_wr0 : Norm := { keep := [(2, .asis)], objs := [], c := 0 }
noncomputable def num_Of (k : Nat) (a0 : (List Int)) : Option (Int × Unit) := fnK G (num_Of_E k) k (.two .z (.two .z (.two (.two .z (.lp num_Of_wrrlrl .z)) .z))) num_Of_c 19 [.tmp 2] 0 [num_Of_wr0] [] [.sl (.int .u8) .sh none a0] [] (rd (Pt.int .u64) Os.nil)
noncomputable def num_Of_l0 (k n : Nat) (v55 : Int) (v56 : (List Int)) (v57 : Int) (v58 : Int) : Option (Int × Unit) := iter (exec G (num_Of_E k) k .z (lft (lft (rgt (lft (rgt (rgt num_Of_c))))))) num_Of_wrrlrl (blkK 0 (seqK (exec G (num_Of_E k) k .z (rgt (rgt (rgt num_Of_c)))) (retK G [.tmp 2] 0 [num_Of_wr0] (rd (Pt.int .u64) Os.nil)))) n (mkS 19 0 [(3, (.int .u64 v55)), (6, (.sl (.int .u8) .sh none v56)), (7, (.int .i64 v57)), (8, (.int .i64 v58))] 0 [] [])
theorem num_Of_l0_zero (k : Nat) (v55 : Int) (v56 : (List Int)) (v57 : Int) (v58 : Int) : num_Of_l0 k 0 v55 v56 v57 v58 = none := rfl
theorem num_Of_l0_eq (k n : Nat) (v55 : Int) (v56 : (List Int)) (v57 : Int) (v58 : Int) : num_Of_l0 k (n + 1) v55 v56 v57 v58 = (bif (decide (v58 < v57)) then (nth v56 v58).bind fun x59 => num_Of_l0 k n (Go.bits .or .u64 (wr .u64 (v55 * 256)) (wr .u64 x59)) v56 v57 (wr .i64 (v58 + 1)) else some (v55, ())) := by kernel_rfl
theorem num_Of_eq (k : Nat) (a0 : (List Int)) : num_Of k a0 = num_Of_l0 k k (0 : Int) a0 (a0.length : Int) (0 : Int) := by kernel_rfl
noncomputable def num_Of_sp (k : Nat) : Spec := mkSp (Ps.cons (Pt.sl (.int .u8)) Ps.nil) Os.nil (Pt.int .u64) Os.nil (fun p o => num_Of k p.1) [.sh] [] 0 (fun _ => true)
theorem num_Of_ok (k : Nat) : SpecOk Try.prog 47 (num_Of_sp k) := mk_ok (k := k) (h := (.two .z (.two .z (.two (.two .z (.lp num_Of_wrrlrl .z)) .z)))) (W := [num_Of_wr0]) G_ok (num_Of_EOK k) Try.func47 (c := num_Of_c) (by kernel_rfl) (by kernel_rfl) (by kernel_rfl) (by kernel_rfl) (by kernel_rfl) fun _ _ => rfl

noncomputable def frame_Of_E (k : Nat) : Table := [(66, frame_sum_sp k), (47, num_Of_sp k)]
theorem frame_Of_EOK (k : Nat) : TabOk Try.prog (frame_Of_E k) := .cons (frame_sum_ok k) <| .cons (num_Of_ok k) <| .nil
/-- plenum/frame.Of -/
noncomputable def frame_Of_c : Code := bodyOf Try.f52
noncomputable def frame_Of_wr0 : Norm := { keep := [(2, .own 0), (3, .asis), (4, .asis)], objs := [], c := 1 }
noncomputable def frame_Of (k : Nat) (a0 : (List Int)) : Option (((List Int) × (Int × (Int × Unit))) × Unit) := fnK G (frame_Of_E k) k .z frame_Of_c 45 [.tmp 2, .tmp 3, .tmp 4] 1 [frame_Of_wr0] [] [.sl (.int .u8) .sh none a0] [] (rd (Pt.tup (Ps.cons (Pt.own 0 (.int .u8)) (Ps.cons (Pt.int .i64) (Ps.cons (Pt.int .i64) Ps.nil)))) Os.nil)
theorem frame_Of_eq (k : Nat) (a0 : (List Int)) : frame_Of k a0 = (bif (decide ((a0.length : Int) < 8)) then some (([], ((0 : Int), ((50 : Int), ()))), ()) else must (beqI 4 4) ((cut a0 0 4).bind fun x53 => must (beqI 8 8) ((cut a0 4 8).bind fun x54 => (num_Of k x54).bind fun r60 => (num_Of k x53).bind fun r61 => (bif (decide (65536 < r61.1)) then some (([], ((0 : Int), ((50 : Int), ()))), ()) else (bif (decide ((wr .u64 (wr .i64 ((a0.length : Int) - 8))) < r61.1)) then some (([], ((0 : Int), ((50 : Int), ()))), ()) else must (beqI (wr .i64 (8 + (wr .i64 r61.1))) (wr .i64 (8 + (wr .i64 r61.1)))) ((cut a0 8 (wr .i64 (8 + (wr .i64 r61.1)))).bind fun x62 => (frame_sum k x53 x62).bind fun r63 => (bif (!decide (r63.1 = (wr .u32 r60.1))) then some (([], ((0 : Int), ((50 : Int), ()))), ()) else lim (0 + x62.length) (some ((([] ++ x62), ((wr .i64 (8 + (wr .i64 r61.1))), ((0 : Int), ()))), ()))))))))) := by kernel_rfl
noncomputable def frame_Of_sp (k : Nat) : Spec := mkSp (Ps.cons (Pt.sl (.int .u8)) Ps.nil) Os.nil (Pt.tup (Ps.cons (Pt.own 0 (.int .u8)) (Ps.cons (Pt.int .i64) (Ps.cons (Pt.int .i64) Ps.nil)))) Os.nil (fun p o => frame_Of k p.1) [.sh] [] 1 (fun _ => true)
theorem frame_Of_ok (k : Nat) : SpecOk Try.prog 52 (frame_Of_sp k) := mk_ok (k := k) (h := .z) (W := [frame_Of_wr0]) G_ok (frame_Of_EOK k) Try.func52 (c := frame_Of_c) (by kernel_rfl) (by kernel_rfl) (by kernel_rfl) (by kernel_rfl) (by kernel_rfl) fun _ _ => rfl

noncomputable def frame_All_E (k : Nat) : Table := [(52, frame_Of_sp k)]
theorem frame_All_EOK (k : Nat) : TabOk Try.prog (frame_All_E k) := .cons (frame_Of_ok k) <| .nil
/-- plenum/frame.All -/
noncomputable def frame_All_c : Code := bodyOf Try.f57
noncomputable def frame_All_wrl : Norm := { keep := [(0, .sh), (2, .ownN 0), (3, .asis)], objs := [], c := 1 }
noncomputable def frame_All_wr0 : Norm := { keep := [(2, .own 0), (3, .asis)], objs := [], c := 1 }
noncomputable def frame_All (k : Nat) (a0 : (List Int)) : Option (((List (List Int)) × (Int × Unit)) × Unit) := fnK G (frame_All_E k) k (.two .z (.lp frame_All_wrl .z)) frame_All_c 26 [.tmp 2, .tmp 3] 1 [frame_All_wr0] [] [.sl (.int .u8) .sh none a0] [] (rd (Pt.tup (Ps.cons (Pt.own 0 (.sl (.int .u8))) (Ps.cons (Pt.int .i64) Ps.nil))) Os.nil)
noncomputable def frame_All_l0 (k n : Nat) (v48 : (List Int)) (v49 : Bool) (v50 : (List (List Int))) (v51 : Int) : Option (((List (List Int)) × (Int × Unit)) × Unit) := iter (exec G (frame_All_E k) k .z (lft (lft (rgt frame_All_c)))) frame_All_wrl (blkK 0 (retK G [.tmp 2, .tmp 3] 1 [frame_All_wr0] (rd (Pt.tup (Ps.cons (Pt.own 0 (.sl (.int .u8))) (Ps.cons (Pt.int .i64) Ps.nil))) Os.nil))) n (mkS 26 0 [(0, (.sl (.int .u8) .sh none v48)), (2, (.sl (.sl (.int .u8)) (.own 0) (some v49) v50)), (3, (.int .i64 v51))] 1 [0] [])
theorem frame_All_l0_zero (k : Nat) (v48 : (List Int)) (v49 : Bool) (v50 : (List (List Int))) (v51 : Int) : frame_All_l0 k 0 v48 v49 v50 v51 = none := rfl
theorem frame_All_l0_eq (k n : Nat) (v48 : (List Int)) (v49 : Bool) (v50 : (List (List Int))) (v51 : Int) : frame_All_l0 k (n + 1) v48 v49 v50 v51 = (cut v48 v51 v48.length).bind fun x52 => (frame_Of k x52).bind fun r64 => (bif (!decide (r64.1.2.2.1 = 0)) then some ((v50, (v51, ())), ()) else lim (v50.length + [r64.1.1].length) (frame_All_l0 k n v48 (v49 && [r64.1.1].isEmpty) (v50 ++ [r64.1.1]) (wr .i64 (v51 + r64.1.2.1)))) := by kernel_rfl
theorem frame_All_eq (k : Nat) (a0 : (List Int)) : frame_All k a0 = frame_All_l0 k k a0 true [] (0 : Int) := by kernel_rfl
noncomputable def frame_All_sp (k : Nat) : Spec := mkSp (Ps.cons (Pt.sl (.int .u8)) Ps.nil) Os.nil (Pt.tup (Ps.cons (Pt.own 0 (.sl (.int .u8))) (Ps.cons (Pt.int .i64) Ps.nil))) Os.nil (fun p o => frame_All k p.1) [.sh] [] 1 (fun _ => true)
theorem frame_All_ok (k : Nat) : SpecOk Try.prog 57 (frame_All_sp k) := mk_ok (k := k) (h := (.two .z (.lp frame_All_wrl .z))) (W := [frame_All_wr0]) G_ok (frame_All_EOK k) Try.func57 (c := frame_All_c) (by kernel_rfl) (by kernel_rfl) (by kernel_rfl) (by kernel_rfl) (by kernel_rfl) fun _ _ => rfl

noncomputable def ref01_SameTexts_E (k : Nat) : Table := []
theorem ref01_SameTexts_EOK (k : Nat) : TabOk Try.prog (ref01_SameTexts_E k) := .nil
/-- plenum/plenumref01.SameTexts -/
noncomputable def ref01_SameTexts_c : Code := bodyOf Try.f59
noncomputable def ref01_SameTexts_wrrlrl : Norm := { keep := [(0, .sh), (1, .sh), (12, .asis), (13, .asis)], objs := [], c := 0 }
noncomputable def ref01_SameTexts_wr0 : Norm := { keep := [(4, .asis)], objs := [], c := 0 }
noncomputable def ref01_SameTexts (k : Nat) (a0 : (List (List Int))) (a1 : (List (List Int))) : Option (Bool × Unit) := fnK G (ref01_SameTexts_E k) k (.two .z (.two .z (.two (.two .z (.lp ref01_SameTexts_wrrlrl .z)) .z))) ref01_SameTexts_c 28 [.tmp 4] 0 [ref01_SameTexts_wr0] [] [.sl (.sl (.int .u8)) .sh none a0, .sl (.sl (.int .u8)) .sh none a1] [] (rd Pt.bool Os.nil)
noncomputable def ref01_SameTexts_l0 (k n : Nat) (v76 : (List (List Int))) (v77 : (List (List Int))) (v78 : Int) (v79 : Int) : Option (Bool × Unit) := iter (exec G (ref01_SameTexts_E k) k .z (lft (lft (rgt (lft (rgt (rgt ref01_SameTexts_c))))))) ref01_SameTexts_wrrlrl (blkK 0 (seqK (exec G (ref01_SameTexts_E k) k .z (rgt (rgt (rgt ref01_SameTexts_c)))) (retK G [.tmp 4] 0 [ref01_SameTexts_wr0] (rd Pt.bool Os.nil)))) n (mkS 28 0 [(0, (.sl (.sl (.int .u8)) .sh none v76)), (1, (.sl (.sl (.int .u8)) .sh none v77)), (12, (.int .i64 v78)), (13, (.int .i64 v79))] 0 [] [])
theorem ref01_SameTexts_l0_zero (k : Nat) (v76 : (List (List Int))) (v77 : (List (List Int))) (v78 : Int) (v79 : Int) : ref01_SameTexts_l0 k 0 v76 v77 v78 v79 = none := rfl
theorem ref01_SameTexts_l0_eq (k n : Nat) (v76 : (List (List Int))) (v77 : (List (List Int))) (v78 : Int) (v79 : Int) : ref01_SameTexts_l0 k (n + 1) v76 v77 v78 v79 = (bif (decide (v79 < v78)) then (nth v76 v79).bind fun x80 => (nth v77 v79).bind fun x81 => (bif (!beqL x80 x81) then some (false, ()) else ref01_SameTexts_l0 k n v76 v77 v78 (wr .i64 (v79 + 1))) else some (true, ())) := by kernel_rfl
theorem ref01_SameTexts_eq (k : Nat) (a0 : (List (List Int))) (a1 : (List (List Int))) : ref01_SameTexts k a0 a1 = (bif (!decide ((a0.length : Int) = (a1.length : Int))) then some (false, ()) else ref01_SameTexts_l0 k k a0 a1 (a0.length : Int) (0 : Int)) := by kernel_rfl
noncomputable def ref01_SameTexts_sp (k : Nat) : Spec := mkSp (Ps.cons (Pt.sl (.sl (.int .u8))) (Ps.cons (Pt.sl (.sl (.int .u8))) Ps.nil)) Os.nil Pt.bool Os.nil (fun p o => ref01_SameTexts k p.1 p.2.1) [.sh, .sh] [] 0 (fun _ => true)
theorem ref01_SameTexts_ok (k : Nat) : SpecOk Try.prog 59 (ref01_SameTexts_sp k) := mk_ok (k := k) (h := (.two .z (.two .z (.two (.two .z (.lp ref01_SameTexts_wrrlrl .z)) .z)))) (W := [ref01_SameTexts_wr0]) G_ok (ref01_SameTexts_EOK k) Try.func59 (c := ref01_SameTexts_c) (by kernel_rfl) (by kernel_rfl) (by kernel_rfl) (by kernel_rfl) (by kernel_rfl) fun _ _ => rfl

noncomputable def law05_FrameBack_E (k : Nat) : Table := [(57, frame_All_sp k), (54, frame_Put_sp k), (51, law05_awake_sp k), (60, law05_few_sp k), (59, ref01_SameTexts_sp k)]
theorem law05_FrameBack_EOK (k : Nat) : TabOk Try.prog (law05_FrameBack_E k) := .cons (frame_All_ok k) <| .cons (frame_Put_ok k) <| .cons (law05_awake_ok k) <| .cons (law05_few_ok k) <| .cons (ref01_SameTexts_ok k) <| .nil
/-- plenum/plenumlaw05.FrameBack -/
noncomputable def law05_FrameBack_c : Code := bodyOf Try.f17
noncomputable def law05_FrameBack_wrrrrrlrl : Norm := { keep := [(0, .sh), (1, .asis), (5, .ownN 0), (6, .ownN 1), (17, .sh), (18, .asis), (19, .asis)], objs := [], c := 2 }
noncomputable def law05_FrameBack_wrrrrrrrrrll : Norm := { keep := [(0, .sh), (1, .asis), (6, .shN), (9, .sh), (10, .asis), (11, .asis)], objs := [], c := 0 }
noncomputable def law05_FrameBack_wrrrrrrlr : Norm := { keep := [(0, .sh), (1, .asis), (5, .ownN 0), (6, .ownN 1)], objs := [], c := 2 }
noncomputable def law05_FrameBack_wr0 : Norm := { keep := [(4, .asis)], objs := [], c := 0 }
noncomputable def law05_FrameBack (k : Nat) (a0 : (List (List Int))) (a1 : Int) : Option (Bool × Unit) := fnK G (law05_FrameBack_E k) k (.two .z (.two .z (.two .z (.two .z (.two .z (.two (.two .z (.lp law05_FrameBack_wrrrrrlrl .z)) (.two (.two .z (.cd law05_FrameBack_wrrrrrrlr .z .z)) (.two .z (.two .z (.two (.lp law05_FrameBack_wrrrrrrrrrll .z) .z)))))))))) law05_FrameBack_c 88 [.tmp 4] 0 [law05_FrameBack_wr0] [] [.sl (.sl (.int .u8)) .sh none a0, .int .i64 a1] [] (rd Pt.bool Os.nil)
noncomputable def law05_FrameBack_l0 (k n : Nat) (v100 : (List (List Int))) (v101 : Int) (v102 : Bool) (v103 : (List Int)) (v104 : Bool) (v105 : (List Int)) (v106 : (List (List Int))) (v107 : Int) (v108 : Int) : Option (Bool × Unit) := iter (exec G (law05_FrameBack_E k) k .z (lft (lft (rgt (lft (rgt (rgt (rgt (rgt (rgt law05_FrameBack_c)))))))))) law05_FrameBack_wrrrrrlrl (blkK 0 (seqK (exec G (law05_FrameBack_E k) k (.two (.two .z (.cd law05_FrameBack_wrrrrrrlr .z .z)) (.two .z (.two .z (.two (.lp law05_FrameBack_wrrrrrrrrrll .z) .z)))) (rgt (rgt (rgt (rgt (rgt (rgt law05_FrameBack_c))))))) (retK G [.tmp 4] 0 [law05_FrameBack_wr0] (rd Pt.bool Os.nil)))) n (mkS 88 0 [(0, (.sl (.sl (.int .u8)) .sh none v100)), (1, (.int .i64 v101)), (5, (.sl (.int .u8) (.own 0) (some v102) v103)), (6, (.sl (.int .i64) (.own 1) (some v104) v105)), (17, (.sl (.sl (.int .u8)) .sh none v106)), (18, (.int .i64 v107)), (19, (.int .i64 v108))] 2 [0, 1] [])
noncomputable def law05_FrameBack_j0_c (k : Nat) (v111 : (List (List Int))) (v112 : Int) (v113 : Bool) (v114 : (List Int)) (v115 : Bool) (v116 : (List Int)) : Option (Bool × Unit) := (seqK (exec G (law05_FrameBack_E k) k (.two .z (.two .z (.two (.lp law05_FrameBack_wrrrrrrrrrll .z) .z))) (rgt (rgt (rgt (rgt (rgt (rgt (rgt law05_FrameBack_c)))))))) (retK G [.tmp 4] 0 [law05_FrameBack_wr0] (rd Pt.bool Os.nil))) .normal (mkS 88 0 [(0, (.sl (.sl (.int .u8)) .sh none v111)), (1, (.int .i64 v112)), (5, (.sl (.int .u8) (.own 0) (some v113) v114)), (6, (.sl (.int .i64) (.own 1) (some v115) v116))] 2 [0, 1] [])
noncomputable def law05_FrameBack_j0 (k : Nat) (v111 : (List (List Int))) (v112 : Int) (v113 : Bool) (v114 : (List Int)) (v115 : Bool) (v116 : (List Int)) : Option (Bool × Unit) := jmp k (law05_FrameBack_j0_c k v111 v112 v113 v114 v115 v116)
noncomputable def law05_FrameBack_l1 (k n : Nat) (v119 : (List (List Int))) (v120 : Int) (v121 : Bool) (v122 : (List Int)) (v123 : (List (List Int))) (v124 : Int) (v125 : Int) : Option (Bool × Unit) := iter (exec G (law05_FrameBack_E k) k .z (lft (lft (lft (rgt (rgt (rgt (rgt (rgt (rgt (rgt (rgt (rgt law05_FrameBack_c))))))))))))) law05_FrameBack_wrrrrrrrrrll (blkK 2 (seqK (exec G (law05_FrameBack_E k) k .z (rgt (rgt (rgt (rgt (rgt (rgt (rgt (rgt (rgt (rgt law05_FrameBack_c))))))))))) (retK G [.tmp 4] 0 [law05_FrameBack_wr0] (rd Pt.bool Os.nil)))) n (mkS 88 0 [(0, (.sl (.sl (.int .u8)) .sh none v119)), (1, (.int .i64 v120)), (6, (.sl (.int .i64) .sh (some v121) v122)), (9, (.sl (.sl (.int .u8)) .sh none v123)), (10, (.int .i64 v124)), (11, (.int .i64 v125))] 0 [] [])
theorem law05_FrameBack_l0_zero (k : Nat) (v100 : (List (List Int))) (v101 : Int) (v102 : Bool) (v103 : (List Int)) (v104 : Bool) (v105 : (List Int)) (v106 : (List (List Int))) (v107 : Int) (v108 : Int) : law05_FrameBack_l0 k 0 v100 v101 v102 v103 v104 v105 v106 v107 v108 = none := rfl
theorem law05_FrameBack_l0_eq (k n : Nat) (v100 : (List (List Int))) (v101 : Int) (v102 : Bool) (v103 : (List Int)) (v104 : Bool) (v105 : (List Int)) (v106 : (List (List Int))) (v107 : Int) (v108 : Int) : law05_FrameBack_l0 k (n + 1) v100 v101 v102 v103 v104 v105 v106 v107 v108 = (bif (decide (v108 < v107)) then (nth v106 v108).bind fun x109 => (frame_Put k x109).bind fun r110 => lim (v103.length + r110.1.length) (lim (v105.length + [((v103 ++ r110.1).length : Int)].length) (law05_FrameBack_l0 k n v100 v101 (v102 && r110.1.isEmpty) (v103 ++ r110.1) (v104 && [((v103 ++ r110.1).length : Int)].isEmpty) (v105 ++ [((v103 ++ r110.1).length : Int)]) v106 v107 (wr .i64 (v108 + 1)))) else (bif (decide (v101 < 0)) then law05_FrameBack_j0 k v100 (v103.length : Int) v102 v103 v104 v105 else (bif (decide ((v103.length : Int) < v101)) then law05_FrameBack_j0 k v100 (v103.length : Int) v102 v103 v104 v105 else law05_FrameBack_j0 k v100 v101 v102 v103 v104 v105))) := by kernel_rfl
theorem law05_FrameBack_j0_b (k : Nat) (v111 : (List (List Int))) (v112 : Int) (v113 : Bool) (v114 : (List Int)) (v115 : Bool) (v116 : (List Int)) : law05_FrameBack_j0_c k v111 v112 v113 v114 v115 v116 = (cut v114 0 v112).bind fun x117 => (frame_All k x117).bind fun r118 => law05_FrameBack_l1 k k v111 v112 v115 v116 r118.1.1 r118.1.2.1 (0 : Int) := by kernel_rfl
theorem law05_FrameBack_j0_eq (k : Nat) (v111 : (List (List Int))) (v112 : Int) (v113 : Bool) (v114 : (List Int)) (v115 : Bool) (v116 : (List Int)) : law05_FrameBack_j0 (k + 1) v111 v112 v113 v114 v115 v116 = (cut v114 0 v112).bind fun x117 => (frame_All (k + 1) x117).bind fun r118 => law05_FrameBack_l1 (k + 1) (k + 1) v111 v112 v115 v116 r118.1.1 r118.1.2.1 (0 : Int) := by unfold law05_FrameBack_j0; exact (jmp_succ _ _).trans (law05_FrameBack_j0_b (k + 1) v111 v112 v113 v114 v115 v116)
theorem law05_FrameBack_l1_zero (k : Nat) (v119 : (List (List Int))) (v120 : Int) (v121 : Bool) (v122 : (List Int)) (v123 : (List (List Int))) (v124 : Int) (v125 : Int) : law05_FrameBack_l1 k 0 v119 v120 v121 v122 v123 v124 v125 = none := rfl
theorem law05_FrameBack_l1_eq (k n : Nat) (v119 : (List (List Int))) (v120 : Int) (v121 : Bool) (v122 : (List Int)) (v123 : (List (List Int))) (v124 : Int) (v125 : Int) : law05_FrameBack_l1 k (n + 1) v119 v120 v121 v122 v123 v124 v125 = (bif (decide (v125 < (v122.length : Int))) then (nth v122 v125).bind fun x126 => (bif (decide (x126 ≤ v120)) then law05_FrameBack_l1 k n v119 v120 v121 v122 v123 v124 (wr .i64 (v125 + 1)) else (bif (decide (0 < v125)) then (nth v122 (wr .i64 (v125 - 1))).bind fun x127 => (bif (!decide (v124 = x127)) then some (false, ()) else (bif (decide (v125 = 0)) then (bif (!decide (v124 = 0)) then some (false, ()) else (cut v119 0 v125).bind fun x128 => (ref01_SameTexts k v123 x128).bind fun r129 => some (r129.1, ())) else (cut v119 0 v125).bind fun x130 => (ref01_SameTexts k v123 x130).bind fun r131 => some (r131.1, ()))) else (bif (decide (v125 = 0)) then (bif (!decide (v124 = 0)) then some (false, ()) else (cut v119 0 v125).bind fun x132 => (ref01_SameTexts k v123 x132).bind fun r133 => some (r133.1, ())) else (cut v119 0 v125).bind fun x134 => (ref01_SameTexts k v123 x134).bind fun r135 => some (r135.1, ())))) else (bif (decide (0 < v125)) then (nth v122 (wr .i64 (v125 - 1))).bind fun x136 => (bif (!decide (v124 = x136)) then some (false, ()) else (bif (decide (v125 = 0)) then (bif (!decide (v124 = 0)) then some (false, ()) else (cut v119 0 v125).bind fun x137 => (ref01_SameTexts k v123 x137).bind fun r138 => some (r138.1, ())) else (cut v119 0 v125).bind fun x139 => (ref01_SameTexts k v123 x139).bind fun r140 => some (r140.1, ()))) else (bif (decide (v125 = 0)) then (bif (!decide (v124 = 0)) then some (false, ()) else (cut v119 0 v125).bind fun x141 => (ref01_SameTexts k v123 x141).bind fun r142 => some (r142.1, ())) else (cut v119 0 v125).bind fun x143 => (ref01_SameTexts k v123 x143).bind fun r144 => some (r144.1, ())))) := by kernel_rfl
theorem law05_FrameBack_eq (k : Nat) (a0 : (List (List Int))) (a1 : Int) : law05_FrameBack k a0 a1 = (law05_awake k).bind fun r98 => (bif (!r98.1) then some (false, ()) else (law05_few k a0).bind fun r99 => (bif (!r99.1) then some (true, ()) else law05_FrameBack_l0 k k a0 a1 true [] true [] a0 (a0.length : Int) (0 : Int))) := by kernel_rfl
noncomputable def law05_FrameBack_sp (k : Nat) : Spec := mkSp (Ps.cons (Pt.sl (.sl (.int .u8))) (Ps.cons (Pt.int .i64) Ps.nil)) Os.nil Pt.bool Os.nil (fun p o => law05_FrameBack k p.1 p.2.1) [.sh, .asis] [] 0 (fun _ => true)
theorem law05_FrameBack_ok (k : Nat) : SpecOk Try.prog 17 (law05_FrameBack_sp k) := mk_ok (k := k) (h := (.two .z (.two .z (.two .z (.two .z (.two .z (.two (.two .z (.lp law05_FrameBack_wrrrrrlrl .z)) (.two (.two .z (.cd law05_FrameBack_wrrrrrrlr .z .z)) (.two .z (.two .z (.two (.lp law05_FrameBack_wrrrrrrrrrll .z) .z))))))))))) (W := [law05_FrameBack_wr0]) G_ok (law05_FrameBack_EOK k) Try.func17 (c := law05_FrameBack_c) (by kernel_rfl) (by kernel_rfl) (by kernel_rfl) (by kernel_rfl) (by kernel_rfl) fun _ _ => rfl

end Go.Proofs.Ytnojkokhfmgcfaa.Den
