import Derived.Test.YtnojkokhfmgcfaaDen30
import Derived.Test.YtnojkokhfmgcfaaProg
import Derived.KernelRfl
namespace Go.Proofs.Ytnojkokhfmgcfaa.Den
open Go
set_option maxRecDepth 100000
noncomputable def G : Env := tabEnv [(3, (.int .i64)), (4, .bool), (5, (.int .u8)), (9, .str), (23, (.int .u64)), (27, (.int .u32)), (28, (.sl (.int .u8))), (34, (.int .u64)), (45, (.int .i64)), (52, (.sl (.sl (.int .u8))))] [] [] []
theorem G_ok : EnvOk Try.prog G := env_ok (by kernel_rfl)
noncomputable def frame_Size_E (k : Nat) : Table := []
theorem frame_Size_EOK (k : Nat) : TabOk Try.prog (frame_Size_E k) := .nil
/-- plenum/frame.Size -/
noncomputable def frame_Size_c : Code := bodyOf Try.f56
noncomputable def frame_Size_wr : Norm := { keep := [(2, .asis)], objs := [], c := 0 }
noncomputable def frame_Size (k : Nat) (a0 : Int) : Option (Int × Unit) := fnK G (frame_Size_E k) k .z frame_Size_c 11 [.tmp 2] 0 frame_Size_wr [] [.int .i64 a0] [] (rd (Pt.int .i64) Os.nil)
theorem frame_Size_eq (k : Nat) (a0 : Int) : frame_Size k a0 = (bif (decide (a0 < 0)) then some ((0 : Int), ()) else (bif (decide (65536 < a0)) then some ((0 : Int), ()) else some ((wr .i64 (8 + a0)), ()))) := by kernel_rfl
noncomputable def frame_Size_sp (k : Nat) : Spec := mkSp (Ps.cons (Pt.int .i64) Ps.nil) Os.nil (Pt.int .i64) Os.nil (fun p o => frame_Size k p.1) [.asis] [] 0 (fun _ => true)
theorem frame_Size_ok (k : Nat) : SpecOk Try.prog 56 (frame_Size_sp k) := mk_ok (k := k) (h := .z) (W := frame_Size_wr) G_ok (frame_Size_EOK k) Try.func56 (c := frame_Size_c) (by kernel_rfl) (by kernel_rfl) (by kernel_rfl) (by kernel_rfl) (by kernel_rfl) fun _ _ => rfl

noncomputable def num_Put_E (k : Nat) : Table := []
theorem num_Put_EOK (k : Nat) : TabOk Try.prog (num_Put_E k) := .nil
noncomputable def num_Put_G : Env := rowEnv G [(4, 1)]
/-- plenum/num.Put -/
noncomputable def num_Put_c : Code := bodyOf Try.f36
noncomputable def num_Put_wrrrlrl : Norm := { keep := [(0, .asis), (1, .asis), (5, .asis), (15, .asis), (16, .asis)], objs := [[.asis]], c := 0 }
noncomputable def num_Put_wr : Norm := { keep := [(4, .asis)], objs := [[.asis]], c := 0 }
noncomputable def num_Put (k : Nat) (a0 : Int) (a1 : Int) : Option (Unit × (((List Int) × Unit) × Unit)) := fnK num_Put_G (num_Put_E k) k (.two .z (.two .z (.two .z (.two (.two .z (.lp num_Put_wrrrlrl .z)) .z)))) num_Put_c 32 [.tmp 4] 0 num_Put_wr [] [.int .u64 a0, .int .i64 a1] [] (rd (Pt.asl (.int .u8) 0) (Os.cons (Ps.cons (Pt.row (.int .u8)) Ps.nil) Os.nil))
noncomputable def num_Put_l0 (k n : Nat) (v2 : Int) (v3 : Int) (v4 : Int) (v5 : Int) (v6 : (List Int)) : Option (Unit × (((List Int) × Unit) × Unit)) := iter (exec num_Put_G (num_Put_E k) k .z (lft (lft (rgt (lft (rgt (rgt (rgt num_Put_c)))))))) num_Put_wrrrlrl (blkK 0 (seqK (exec num_Put_G (num_Put_E k) k .z (rgt (rgt (rgt (rgt num_Put_c))))) (retK num_Put_G [.tmp 4] 0 num_Put_wr (rd (Pt.asl (.int .u8) 0) (Os.cons (Ps.cons (Pt.row (.int .u8)) Ps.nil) Os.nil))))) n (mkS 32 0 [(0, (.int .u64 v2)), (1, (.int .i64 v3)), (5, (.ref (.asl (.int .u8)) 0)), (15, (.int .i64 v4)), (16, (.int .i64 v5))] 0 [] [[.blk (.row (.int .u8) v6)]])
theorem num_Put_l0_zero (k : Nat) (v2 : Int) (v3 : Int) (v4 : Int) (v5 : Int) (v6 : (List Int)) : num_Put_l0 k 0 v2 v3 v4 v5 v6 = none := rfl
theorem num_Put_l0_eq (k n : Nat) (v2 : Int) (v3 : Int) (v4 : Int) (v5 : Int) (v6 : (List Int)) : num_Put_l0 k (n + 1) v2 v3 v4 v5 v6 = (bif (decide (v5 < v4)) then (shrK .u64 v2 (wr .i64 (8 * v5))).bind fun x7 => must (inI (wr .i64 ((wr .i64 (v3 - 1)) - v5)) v6.length) (must (Nat.blt (wr .i64 ((wr .i64 (v3 - 1)) - v5)).toNat v6.length) (num_Put_l0 k n v2 v3 v4 (wr .i64 (v5 + 1)) (v6.set (wr .i64 ((wr .i64 (v3 - 1)) - v5)).toNat (wr .u8 x7)))) else some ((), ((v6, ()), ()))) := by kernel_rfl
theorem num_Put_eq (k : Nat) (a0 : Int) (a1 : Int) : num_Put k a0 a1 = (bif (decide (a1 < 0)) then some ((), (([], ()), ())) else (bif (decide (8 < a1)) then some ((), (([], ()), ())) else must (decide (0 ≤ a1) && beqI a1 a1) (lim a1.toNat (num_Put_l0 k k a0 a1 a1 (0 : Int) (List.replicate a1.toNat (0 : Int)))))) := by kernel_rfl
noncomputable def num_Put_sp (k : Nat) : Spec := mkSp (Ps.cons (Pt.int .u64) (Ps.cons (Pt.int .i64) Ps.nil)) Os.nil (Pt.asl (.int .u8) 0) (Os.cons (Ps.cons (Pt.row (.int .u8)) Ps.nil) Os.nil) (fun p o => num_Put k p.1 p.2.1) [.asis, .asis] [] 0 (fun _ => true)
theorem num_Put_ok (k : Nat) : SpecOk Try.prog 36 (num_Put_sp k) := mk_ok (k := k) (h := (.two .z (.two .z (.two .z (.two (.two .z (.lp num_Put_wrrrlrl .z)) .z))))) (W := num_Put_wr) (G_ok.rows _) (num_Put_EOK k) Try.func36 (c := num_Put_c) (by kernel_rfl) (by kernel_rfl) (by kernel_rfl) (by kernel_rfl) (by kernel_rfl) fun _ _ => rfl

noncomputable def crc_turn_E (k : Nat) : Table := []
theorem crc_turn_EOK (k : Nat) : TabOk Try.prog (crc_turn_E k) := .nil
/-- plenum/crc.turn -/
noncomputable def crc_turn_c : Code := bodyOf Try.f61
noncomputable def crc_turn_wrlrl : Norm := { keep := [(0, .asis), (4, .asis)], objs := [], c := 0 }
noncomputable def crc_turn_wr : Norm := { keep := [(2, .asis)], objs := [], c := 0 }
noncomputable def crc_turn (k : Nat) (a0 : Int) : Option (Int × Unit) := fnK G (crc_turn_E k) k (.two .z (.two (.two .z (.lp crc_turn_wrlrl .z)) .z)) crc_turn_c 17 [.tmp 2] 0 crc_turn_wr [] [.int .u32 a0] [] (rd (Pt.int .u32) Os.nil)
noncomputable def crc_turn_l0 (k n : Nat) (v14 : Int) (v15 : Int) : Option (Int × Unit) := iter (exec G (crc_turn_E k) k .z (lft (lft (rgt (lft (rgt crc_turn_c)))))) crc_turn_wrlrl (blkK 0 (seqK (exec G (crc_turn_E k) k .z (rgt (rgt crc_turn_c))) (retK G [.tmp 2] 0 crc_turn_wr (rd (Pt.int .u32) Os.nil)))) n (mkS 17 0 [(0, (.int .u32 v14)), (4, (.int .i64 v15))] 0 [] [])
theorem crc_turn_l0_zero (k : Nat) (v14 : Int) (v15 : Int) : crc_turn_l0 k 0 v14 v15 = none := rfl
theorem crc_turn_l0_eq (k n : Nat) (v14 : Int) (v15 : Int) : crc_turn_l0 k (n + 1) v14 v15 = (bif (decide (v15 < 8)) then crc_turn_l0 k n (Go.bits .xor .u32 (v14 / 2) (Go.bits .and .u32 2197175160 (wr .u32 (0 - (Go.bits .and .u32 v14 1))))) (wr .i64 (v15 + 1)) else some (v14, ())) := by kernel_rfl
theorem crc_turn_eq (k : Nat) (a0 : Int) : crc_turn k a0 = crc_turn_l0 k k a0 (0 : Int) := by kernel_rfl
noncomputable def crc_turn_sp (k : Nat) : Spec := mkSp (Ps.cons (Pt.int .u32) Ps.nil) Os.nil (Pt.int .u32) Os.nil (fun p o => crc_turn k p.1) [.asis] [] 0 (fun _ => true)
theorem crc_turn_ok (k : Nat) : SpecOk Try.prog 61 (crc_turn_sp k) := mk_ok (k := k) (h := (.two .z (.two (.two .z (.lp crc_turn_wrlrl .z)) .z))) (W := crc_turn_wr) G_ok (crc_turn_EOK k) Try.func61 (c := crc_turn_c) (by kernel_rfl) (by kernel_rfl) (by kernel_rfl) (by kernel_rfl) (by kernel_rfl) fun _ _ => rfl

noncomputable def crc_Step_E (k : Nat) : Table := [(61, crc_turn_sp k)]
theorem crc_Step_EOK (k : Nat) : TabOk Try.prog (crc_Step_E k) := .cons (crc_turn_ok k) <| .nil
/-- plenum/crc.Step -/
noncomputable def crc_Step_c : Code := bodyOf Try.f27
noncomputable def crc_Step_wr : Norm := { keep := [(4, .asis)], objs := [], c := 0 }
noncomputable def crc_Step (k : Nat) (a0 : Int) (a1 : Int) : Option (Int × Unit) := fnK G (crc_Step_E k) k .z crc_Step_c 10 [.tmp 4] 0 crc_Step_wr [] [.int .u32 a0, .int .u8 a1] [] (rd (Pt.int .u32) Os.nil)
theorem crc_Step_eq (k : Nat) (a0 : Int) (a1 : Int) : crc_Step k a0 a1 = (crc_turn k (Go.bits .xor .u32 a0 (wr .u32 a1))).bind fun r16 => some (r16.1, ()) := by kernel_rfl
noncomputable def crc_Step_sp (k : Nat) : Spec := mkSp (Ps.cons (Pt.int .u32) (Ps.cons (Pt.int .u8) Ps.nil)) Os.nil (Pt.int .u32) Os.nil (fun p o => crc_Step k p.1 p.2.1) [.asis, .asis] [] 0 (fun _ => true)
theorem crc_Step_ok (k : Nat) : SpecOk Try.prog 27 (crc_Step_sp k) := mk_ok (k := k) (h := .z) (W := crc_Step_wr) G_ok (crc_Step_EOK k) Try.func27 (c := crc_Step_c) (by kernel_rfl) (by kernel_rfl) (by kernel_rfl) (by kernel_rfl) (by kernel_rfl) fun _ _ => rfl

noncomputable def crc_More_E (k : Nat) : Table := [(27, crc_Step_sp k)]
theorem crc_More_EOK (k : Nat) : TabOk Try.prog (crc_More_E k) := .cons (crc_Step_ok k) <| .nil
/-- plenum/crc.More -/
noncomputable def crc_More_c : Code := bodyOf Try.f31
noncomputable def crc_More_wrlrl : Norm := { keep := [(0, .asis), (7, .sh), (8, .asis), (9, .asis)], objs := [], c := 0 }
noncomputable def crc_More_wr : Norm := { keep := [(4, .asis)], objs := [], c := 0 }
noncomputable def crc_More (k : Nat) (a0 : Int) (a1 : (List Int)) : Option (Int × Unit) := fnK G (crc_More_E k) k (.two .z (.two (.two .z (.lp crc_More_wrlrl .z)) .z)) crc_More_c 18 [.tmp 4] 0 crc_More_wr [] [.int .u32 a0, .sl (.int .u8) .sh none a1] [] (rd (Pt.int .u32) Os.nil)
noncomputable def crc_More_l0 (k n : Nat) (v9 : Int) (v10 : (List Int)) (v11 : Int) (v12 : Int) : Option (Int × Unit) := iter (exec G (crc_More_E k) k .z (lft (lft (rgt (lft (rgt crc_More_c)))))) crc_More_wrlrl (blkK 0 (seqK (exec G (crc_More_E k) k .z (rgt (rgt crc_More_c))) (retK G [.tmp 4] 0 crc_More_wr (rd (Pt.int .u32) Os.nil)))) n (mkS 18 0 [(0, (.int .u32 v9)), (7, (.sl (.int .u8) .sh none v10)), (8, (.int .i64 v11)), (9, (.int .i64 v12))] 0 [] [])
theorem crc_More_l0_zero (k : Nat) (v9 : Int) (v10 : (List Int)) (v11 : Int) (v12 : Int) : crc_More_l0 k 0 v9 v10 v11 v12 = none := rfl
theorem crc_More_l0_eq (k n : Nat) (v9 : Int) (v10 : (List Int)) (v11 : Int) (v12 : Int) : crc_More_l0 k (n + 1) v9 v10 v11 v12 = (bif (decide (v12 < v11)) then (nth v10 v12).bind fun x13 => (crc_Step k v9 x13).bind fun r17 => crc_More_l0 k n r17.1 v10 v11 (wr .i64 (v12 + 1)) else some (v9, ())) := by kernel_rfl
theorem crc_More_eq (k : Nat) (a0 : Int) (a1 : (List Int)) : crc_More k a0 a1 = crc_More_l0 k k a0 a1 (a1.length : Int) (0 : Int) := by kernel_rfl
noncomputable def crc_More_sp (k : Nat) : Spec := mkSp (Ps.cons (Pt.int .u32) (Ps.cons (Pt.sl (.int .u8)) Ps.nil)) Os.nil (Pt.int .u32) Os.nil (fun p o => crc_More k p.1 p.2.1) [.asis, .sh] [] 0 (fun _ => true)
theorem crc_More_ok (k : Nat) : SpecOk Try.prog 31 (crc_More_sp k) := mk_ok (k := k) (h := (.two .z (.two (.two .z (.lp crc_More_wrlrl .z)) .z))) (W := crc_More_wr) G_ok (crc_More_EOK k) Try.func31 (c := crc_More_c) (by kernel_rfl) (by kernel_rfl) (by kernel_rfl) (by kernel_rfl) (by kernel_rfl) fun _ _ => rfl

noncomputable def frame_sum_E (k : Nat) : Table := [(31, crc_More_sp k)]
theorem frame_sum_EOK (k : Nat) : TabOk Try.prog (frame_sum_E k) := .cons (crc_More_ok k) <| .nil
/-- plenum/frame.sum -/
noncomputable def frame_sum_c : Code := bodyOf Try.f66
noncomputable def frame_sum_wr : Norm := { keep := [(4, .asis)], objs := [], c := 0 }
noncomputable def frame_sum (k : Nat) (a0 : (List Int)) (a1 : (List Int)) : Option (Int × Unit) := fnK G (frame_sum_E k) k .z frame_sum_c 10 [.tmp 4] 0 frame_sum_wr [] [.sl (.int .u8) .sh none a0, .sl (.int .u8) .sh none a1] [] (rd (Pt.int .u32) Os.nil)
theorem frame_sum_eq (k : Nat) (a0 : (List Int)) (a1 : (List Int)) : frame_sum k a0 a1 = (crc_More k (4294967295 : Int) a0).bind fun r18 => (crc_More k r18.1 a1).bind fun r19 => some ((Go.bits .xor .u32 4294967295 r19.1), ()) := by kernel_rfl
noncomputable def frame_sum_sp (k : Nat) : Spec := mkSp (Ps.cons (Pt.sl (.int .u8)) (Ps.cons (Pt.sl (.int .u8)) Ps.nil)) Os.nil (Pt.int .u32) Os.nil (fun p o => frame_sum k p.1 p.2.1) [.sh, .sh] [] 0 (fun _ => true)
theorem frame_sum_ok (k : Nat) : SpecOk Try.prog 66 (frame_sum_sp k) := mk_ok (k := k) (h := .z) (W := frame_sum_wr) G_ok (frame_sum_EOK k) Try.func66 (c := frame_sum_c) (by kernel_rfl) (by kernel_rfl) (by kernel_rfl) (by kernel_rfl) (by kernel_rfl) fun _ _ => rfl

noncomputable def frame_Put_E (k : Nat) : Table := [(56, frame_Size_sp k), (66, frame_sum_sp k), (36, num_Put_sp k)]
theorem frame_Put_EOK (k : Nat) : TabOk Try.prog (frame_Put_E k) := .cons (frame_Size_ok k) <| .cons (frame_sum_ok k) <| .cons (num_Put_ok k) <| .nil
/-- plenum/frame.Put -/
noncomputable def frame_Put_c : Code := bodyOf Try.f54
noncomputable def frame_Put_wr : Norm := { keep := [(2, .sh)], objs := [], c := 0 }
noncomputable def frame_Put (k : Nat) (a0 : (List Int)) : Option ((List Int) × Unit) := fnK G (frame_Put_E k) k .z frame_Put_c 22 [.tmp 2] 0 frame_Put_wr [] [.sl (.int .u8) .sh none a0] [] (rd (Pt.sl (.int .u8)) Os.nil)
theorem frame_Put_eq (k : Nat) (a0 : (List Int)) : frame_Put k a0 = (frame_Size k (a0.length : Int)).bind fun r22 => (bif (decide (r22.1 = 0)) then some ([], ()) else (num_Put k (wr .u64 (a0.length : Int)) (4 : Int)).bind fun r23 => (frame_sum k r23.2.1.1 a0).bind fun r24 => (num_Put k (wr .u64 r24.1) (4 : Int)).bind fun r25 => lim (r23.2.1.1.length + r25.2.1.1.length) (lim ((r23.2.1.1 ++ r25.2.1.1).length + a0.length) (some (((r23.2.1.1 ++ r25.2.1.1) ++ a0), ())))) := by kernel_rfl
noncomputable def frame_Put_sp (k : Nat) : Spec := mkSp (Ps.cons (Pt.sl (.int .u8)) Ps.nil) Os.nil (Pt.sl (.int .u8)) Os.nil (fun p o => frame_Put k p.1) [.sh] [] 0 (fun _ => true)
theorem frame_Put_ok (k : Nat) : SpecOk Try.prog 54 (frame_Put_sp k) := mk_ok (k := k) (h := .z) (W := frame_Put_wr) G_ok (frame_Put_EOK k) Try.func54 (c := frame_Put_c) (by kernel_rfl) (by kernel_rfl) (by kernel_rfl) (by kernel_rfl) (by kernel_rfl) fun _ _ => rfl

noncomputable def law05_awake_E (k : Nat) : Table := [(54, frame_Put_sp k), (56, frame_Size_sp k)]
theorem law05_awake_EOK (k : Nat) : TabOk Try.prog (law05_awake_E k) := .cons (frame_Put_ok k) <| .cons (frame_Size_ok k) <| .nil
noncomputable def law05_awake_G : Env := rowEnv G [(2, 1)]
/-- plenum/plenumlaw05.awake -/
noncomputable def law05_awake_c : Code := bodyOf Try.f51
noncomputable def law05_awake_wr : Norm := { keep := [(0, .asis)], objs := [], c := 0 }
noncomputable def law05_awake (k : Nat)  : Option (Bool × Unit) := fnK law05_awake_G (law05_awake_E k) k .z law05_awake_c 18 [.tmp 0] 0 law05_awake_wr [] [] [] (rd Pt.bool Os.nil)
theorem law05_awake_eq (k : Nat)  : law05_awake k  = (frame_Put k [(97 : Int), (98 : Int), (99 : Int)]).bind fun r26 => (frame_Size k (3 : Int)).bind fun r27 => (bif (decide (r27.1 = 11)) then (bif (decide ((r26.1.length : Int) = 11)) then (nth r26.1 3).bind fun x28 => some ((decide (x28 = 3)), ()) else some (false, ())) else some (false, ())) := by kernel_rfl
noncomputable def law05_awake_sp (k : Nat) : Spec := mkSp Ps.nil Os.nil Pt.bool Os.nil (fun p o => law05_awake k ) [] [] 0 (fun _ => true)
theorem law05_awake_ok (k : Nat) : SpecOk Try.prog 51 (law05_awake_sp k) := mk_ok (k := k) (h := .z) (W := law05_awake_wr) (G_ok.rows _) (law05_awake_EOK k) Try.func51 (c := law05_awake_c) (by kernel_rfl) (by kernel_rfl) (by kernel_rfl) (by kernel_rfl) (by kernel_rfl) fun _ _ => rfl

noncomputable def num_Of_E (k : Nat) : Table := []
theorem num_Of_EOK (k : Nat) : TabOk Try.prog (num_Of_E k) := .nil
/-- plenum/num.Of -/
noncomputable def num_Of_c : Code := bodyOf Try.f47
noncomputable def num_Of_wrrlrl : Norm := { keep := [(3, .asis), (6, .sh), (7, .asis), (8, .asis)], objs := [], c := 0 }
noncomputable def num_Of_wr : Norm := { keep := [(2, .asis)], objs := [], c := 0 }
noncomputable def num_Of (k : Nat) (a0 : (List Int)) : Option (Int × Unit) := fnK G (num_Of_E k) k (.two .z (.two .z (.two (.two .z (.lp num_Of_wrrlrl .z)) .z))) num_Of_c 19 [.tmp 2] 0 num_Of_wr [] [.sl (.int .u8) .sh none a0] [] (rd (Pt.int .u64) Os.nil)
noncomputable def num_Of_l0 (k n : Nat) (v37 : Int) (v38 : (List Int)) (v39 : Int) (v40 : Int) : Option (Int × Unit) := iter (exec G (num_Of_E k) k .z (lft (lft (rgt (lft (rgt (rgt num_Of_c))))))) num_Of_wrrlrl (blkK 0 (seqK (exec G (num_Of_E k) k .z (rgt (rgt (rgt num_Of_c)))) (retK G [.tmp 2] 0 num_Of_wr (rd (Pt.int .u64) Os.nil)))) n (mkS 19 0 [(3, (.int .u64 v37)), (6, (.sl (.int .u8) .sh none v38)), (7, (.int .i64 v39)), (8, (.int .i64 v40))] 0 [] [])
theorem num_Of_l0_zero (k : Nat) (v37 : Int) (v38 : (List Int)) (v39 : Int) (v40 : Int) : num_Of_l0 k 0 v37 v38 v39 v40 = none := rfl
theorem num_Of_l0_eq (k n : Nat) (v37 : Int) (v38 : (List Int)) (v39 : Int) (v40 : Int) : num_Of_l0 k (n + 1) v37 v38 v39 v40 = (bif (decide (v40 < v39)) then (nth v38 v40).bind fun x41 => num_Of_l0 k n (Go.bits .or .u64 (wr .u64 (v37 * 256)) (wr .u64 x41)) v38 v39 (wr .i64 (v40 + 1)) else some (v37, ())) := by kernel_rfl
theorem num_Of_eq (k : Nat) (a0 : (List Int)) : num_Of k a0 = num_Of_l0 k k (0 : Int) a0 (a0.length : Int) (0 : Int) := by kernel_rfl
noncomputable def num_Of_sp (k : Nat) : Spec := mkSp (Ps.cons (Pt.sl (.int .u8)) Ps.nil) Os.nil (Pt.int .u64) Os.nil (fun p o => num_Of k p.1) [.sh] [] 0 (fun _ => true)
theorem num_Of_ok (k : Nat) : SpecOk Try.prog 47 (num_Of_sp k) := mk_ok (k := k) (h := (.two .z (.two .z (.two (.two .z (.lp num_Of_wrrlrl .z)) .z)))) (W := num_Of_wr) G_ok (num_Of_EOK k) Try.func47 (c := num_Of_c) (by kernel_rfl) (by kernel_rfl) (by kernel_rfl) (by kernel_rfl) (by kernel_rfl) fun _ _ => rfl

noncomputable def frame_Of_E (k : Nat) : Table := [(66, frame_sum_sp k), (47, num_Of_sp k)]
theorem frame_Of_EOK (k : Nat) : TabOk Try.prog (frame_Of_E k) := .cons (frame_sum_ok k) <| .cons (num_Of_ok k) <| .nil
/-- plenum/frame.Of -/
noncomputable def frame_Of_c : Code := bodyOf Try.f52
noncomputable def frame_Of_wr : Norm := { keep := [(2, .own 0), (3, .asis), (4, .asis)], objs := [], c := 1 }
noncomputable def frame_Of (k : Nat) (a0 : (List Int)) : Option (((List Int) × (Int × (Int × Unit))) × Unit) := fnK G (frame_Of_E k) k .z frame_Of_c 45 [.tmp 2, .tmp 3, .tmp 4] 1 frame_Of_wr [] [.sl (.int .u8) .sh none a0] [] (rd (Pt.tup (Ps.cons (Pt.own 0 (.int .u8)) (Ps.cons (Pt.int .i64) (Ps.cons (Pt.int .i64) Ps.nil)))) Os.nil)
theorem frame_Of_eq (k : Nat) (a0 : (List Int)) : frame_Of k a0 = (bif (decide ((a0.length : Int) < 8)) then some (([], ((0 : Int), ((50 : Int), ()))), ()) else must (beqI 4 4) ((cut a0 0 4).bind fun x35 => must (beqI 8 8) ((cut a0 4 8).bind fun x36 => (num_Of k x36).bind fun r42 => (num_Of k x35).bind fun r43 => (bif (decide (65536 < r43.1)) then some (([], ((0 : Int), ((50 : Int), ()))), ()) else (bif (decide ((wr .u64 (wr .i64 ((a0.length : Int) - 8))) < r43.1)) then some (([], ((0 : Int), ((50 : Int), ()))), ()) else must (beqI (wr .i64 (8 + (wr .i64 r43.1))) (wr .i64 (8 + (wr .i64 r43.1)))) ((cut a0 8 (wr .i64 (8 + (wr .i64 r43.1)))).bind fun x44 => (frame_sum k x35 x44).bind fun r45 => (bif (!decide (r45.1 = (wr .u32 r42.1))) then some (([], ((0 : Int), ((50 : Int), ()))), ()) else lim (0 + x44.length) (some ((([] ++ x44), ((wr .i64 (8 + (wr .i64 r43.1))), ((0 : Int), ()))), ()))))))))) := by kernel_rfl
noncomputable def frame_Of_sp (k : Nat) : Spec := mkSp (Ps.cons (Pt.sl (.int .u8)) Ps.nil) Os.nil (Pt.tup (Ps.cons (Pt.own 0 (.int .u8)) (Ps.cons (Pt.int .i64) (Ps.cons (Pt.int .i64) Ps.nil)))) Os.nil (fun p o => frame_Of k p.1) [.sh] [] 1 (fun _ => true)
theorem frame_Of_ok (k : Nat) : SpecOk Try.prog 52 (frame_Of_sp k) := mk_ok (k := k) (h := .z) (W := frame_Of_wr) G_ok (frame_Of_EOK k) Try.func52 (c := frame_Of_c) (by kernel_rfl) (by kernel_rfl) (by kernel_rfl) (by kernel_rfl) (by kernel_rfl) fun _ _ => rfl

noncomputable def frame_All_E (k : Nat) : Table := [(52, frame_Of_sp k)]
theorem frame_All_EOK (k : Nat) : TabOk Try.prog (frame_All_E k) := .cons (frame_Of_ok k) <| .nil
/-- plenum/frame.All -/
noncomputable def frame_All_c : Code := bodyOf Try.f57
noncomputable def frame_All_wrl : Norm := { keep := [(0, .sh), (2, .ownN 0), (3, .asis)], objs := [], c := 1 }
noncomputable def frame_All_wr : Norm := { keep := [(2, .own 0), (3, .asis)], objs := [], c := 1 }
noncomputable def frame_All (k : Nat) (a0 : (List Int)) : Option (((List (List Int)) × (Int × Unit)) × Unit) := fnK G (frame_All_E k) k (.two .z (.lp frame_All_wrl .z)) frame_All_c 26 [.tmp 2, .tmp 3] 1 frame_All_wr [] [.sl (.int .u8) .sh none a0] [] (rd (Pt.tup (Ps.cons (Pt.own 0 (.sl (.int .u8))) (Ps.cons (Pt.int .i64) Ps.nil))) Os.nil)
noncomputable def frame_All_l0 (k n : Nat) (v30 : (List Int)) (v31 : Bool) (v32 : (List (List Int))) (v33 : Int) : Option (((List (List Int)) × (Int × Unit)) × Unit) := iter (exec G (frame_All_E k) k .z (lft (lft (rgt frame_All_c)))) frame_All_wrl (blkK 0 (retK G [.tmp 2, .tmp 3] 1 frame_All_wr (rd (Pt.tup (Ps.cons (Pt.own 0 (.sl (.int .u8))) (Ps.cons (Pt.int .i64) Ps.nil))) Os.nil))) n (mkS 26 0 [(0, (.sl (.int .u8) .sh none v30)), (2, (.sl (.sl (.int .u8)) (.own 0) (some v31) v32)), (3, (.int .i64 v33))] 1 [0] [])
theorem frame_All_l0_zero (k : Nat) (v30 : (List Int)) (v31 : Bool) (v32 : (List (List Int))) (v33 : Int) : frame_All_l0 k 0 v30 v31 v32 v33 = none := rfl
theorem frame_All_l0_eq (k n : Nat) (v30 : (List Int)) (v31 : Bool) (v32 : (List (List Int))) (v33 : Int) : frame_All_l0 k (n + 1) v30 v31 v32 v33 = (cut v30 v33 v30.length).bind fun x34 => (frame_Of k x34).bind fun r46 => (bif (!decide (r46.1.2.2.1 = 0)) then some ((v32, (v33, ())), ()) else lim (v32.length + [r46.1.1].length) (frame_All_l0 k n v30 (v31 && [r46.1.1].isEmpty) (v32 ++ [r46.1.1]) (wr .i64 (v33 + r46.1.2.1)))) := by kernel_rfl
theorem frame_All_eq (k : Nat) (a0 : (List Int)) : frame_All k a0 = frame_All_l0 k k a0 true [] (0 : Int) := by kernel_rfl
noncomputable def frame_All_sp (k : Nat) : Spec := mkSp (Ps.cons (Pt.sl (.int .u8)) Ps.nil) Os.nil (Pt.tup (Ps.cons (Pt.own 0 (.sl (.int .u8))) (Ps.cons (Pt.int .i64) Ps.nil))) Os.nil (fun p o => frame_All k p.1) [.sh] [] 1 (fun _ => true)
theorem frame_All_ok (k : Nat) : SpecOk Try.prog 57 (frame_All_sp k) := mk_ok (k := k) (h := (.two .z (.lp frame_All_wrl .z))) (W := frame_All_wr) G_ok (frame_All_EOK k) Try.func57 (c := frame_All_c) (by kernel_rfl) (by kernel_rfl) (by kernel_rfl) (by kernel_rfl) (by kernel_rfl) fun _ _ => rfl

noncomputable def ref01_Of_E (k : Nat) : Table := []
theorem ref01_Of_EOK (k : Nat) : TabOk Try.prog (ref01_Of_E k) := .nil
/-- plenum/plenumref01.Of -/
noncomputable def ref01_Of_c : Code := bodyOf Try.f48
noncomputable def ref01_Of_wrrlrl : Norm := { keep := [(3, .asis), (6, .sh), (7, .asis), (8, .asis)], objs := [], c := 0 }
noncomputable def ref01_Of_wr : Norm := { keep := [(2, .asis)], objs := [], c := 0 }
noncomputable def ref01_Of (k : Nat) (a0 : (List Int)) : Option (Int × Unit) := fnK G (ref01_Of_E k) k (.two .z (.two .z (.two (.two .z (.lp ref01_Of_wrrlrl .z)) .z))) ref01_Of_c 19 [.tmp 2] 0 ref01_Of_wr [] [.sl (.int .u8) .sh none a0] [] (rd (Pt.int .u64) Os.nil)
noncomputable def ref01_Of_l0 (k n : Nat) (v54 : Int) (v55 : (List Int)) (v56 : Int) (v57 : Int) : Option (Int × Unit) := iter (exec G (ref01_Of_E k) k .z (lft (lft (rgt (lft (rgt (rgt ref01_Of_c))))))) ref01_Of_wrrlrl (blkK 0 (seqK (exec G (ref01_Of_E k) k .z (rgt (rgt (rgt ref01_Of_c)))) (retK G [.tmp 2] 0 ref01_Of_wr (rd (Pt.int .u64) Os.nil)))) n (mkS 19 0 [(3, (.int .u64 v54)), (6, (.sl (.int .u8) .sh none v55)), (7, (.int .i64 v56)), (8, (.int .i64 v57))] 0 [] [])
theorem ref01_Of_l0_zero (k : Nat) (v54 : Int) (v55 : (List Int)) (v56 : Int) (v57 : Int) : ref01_Of_l0 k 0 v54 v55 v56 v57 = none := rfl
theorem ref01_Of_l0_eq (k n : Nat) (v54 : Int) (v55 : (List Int)) (v56 : Int) (v57 : Int) : ref01_Of_l0 k (n + 1) v54 v55 v56 v57 = (bif (decide (v57 < v56)) then (nth v55 v57).bind fun x58 => ref01_Of_l0 k n (wr .u64 ((wr .u64 (v54 * 256)) + (wr .u64 x58))) v55 v56 (wr .i64 (v57 + 1)) else some (v54, ())) := by kernel_rfl
theorem ref01_Of_eq (k : Nat) (a0 : (List Int)) : ref01_Of k a0 = ref01_Of_l0 k k (0 : Int) a0 (a0.length : Int) (0 : Int) := by kernel_rfl
noncomputable def ref01_Of_sp (k : Nat) : Spec := mkSp (Ps.cons (Pt.sl (.int .u8)) Ps.nil) Os.nil (Pt.int .u64) Os.nil (fun p o => ref01_Of k p.1) [.sh] [] 0 (fun _ => true)
theorem ref01_Of_ok (k : Nat) : SpecOk Try.prog 48 (ref01_Of_sp k) := mk_ok (k := k) (h := (.two .z (.two .z (.two (.two .z (.lp ref01_Of_wrrlrl .z)) .z)))) (W := ref01_Of_wr) G_ok (ref01_Of_EOK k) Try.func48 (c := ref01_Of_c) (by kernel_rfl) (by kernel_rfl) (by kernel_rfl) (by kernel_rfl) (by kernel_rfl) fun _ _ => rfl

noncomputable def ref01_Put_E (k : Nat) : Table := []
theorem ref01_Put_EOK (k : Nat) : TabOk Try.prog (ref01_Put_E k) := .nil
/-- plenum/plenumref01.Put -/
noncomputable def ref01_Put_c : Code := bodyOf Try.f46
noncomputable def ref01_Put_wrrrlrl : Norm := { keep := [(0, .asis), (1, .asis), (5, .ownN 0), (6, .asis)], objs := [], c := 1 }
noncomputable def ref01_Put_wr : Norm := { keep := [(4, .own 0)], objs := [], c := 1 }
noncomputable def ref01_Put (k : Nat) (a0 : Int) (a1 : Int) : Option ((List Int) × Unit) := fnK G (ref01_Put_E k) k (.two .z (.two .z (.two .z (.two (.two .z (.lp ref01_Put_wrrrlrl .z)) .z)))) ref01_Put_c 27 [.tmp 4] 1 ref01_Put_wr [] [.int .u64 a0, .int .i64 a1] [] (rd (Pt.own 0 (.int .u8)) Os.nil)
noncomputable def ref01_Put_l0 (k n : Nat) (v61 : Int) (v62 : Int) (v63 : Bool) (v64 : (List Int)) (v65 : Int) : Option ((List Int) × Unit) := iter (exec G (ref01_Put_E k) k .z (lft (lft (rgt (lft (rgt (rgt (rgt ref01_Put_c)))))))) ref01_Put_wrrrlrl (blkK 0 (seqK (exec G (ref01_Put_E k) k .z (rgt (rgt (rgt (rgt ref01_Put_c))))) (retK G [.tmp 4] 1 ref01_Put_wr (rd (Pt.own 0 (.int .u8)) Os.nil)))) n (mkS 27 0 [(0, (.int .u64 v61)), (1, (.int .i64 v62)), (5, (.sl (.int .u8) (.own 0) (some v63) v64)), (6, (.int .i64 v65))] 1 [0] [])
theorem ref01_Put_l0_zero (k : Nat) (v61 : Int) (v62 : Int) (v63 : Bool) (v64 : (List Int)) (v65 : Int) : ref01_Put_l0 k 0 v61 v62 v63 v64 v65 = none := rfl
theorem ref01_Put_l0_eq (k n : Nat) (v61 : Int) (v62 : Int) (v63 : Bool) (v64 : (List Int)) (v65 : Int) : ref01_Put_l0 k (n + 1) v61 v62 v63 v64 v65 = (bif (decide (v65 < v62)) then lim ([(wr .u8 (Int.tmod v61 256))].length + v64.length) (ref01_Put_l0 k n (wr .u64 (Int.tdiv v61 256)) v62 false ([(wr .u8 (Int.tmod v61 256))] ++ v64) (wr .i64 (v65 + 1))) else some (v64, ())) := by kernel_rfl
theorem ref01_Put_eq (k : Nat) (a0 : Int) (a1 : Int) : ref01_Put k a0 a1 = (bif (decide (a1 < 0)) then some ([], ()) else (bif (decide (8 < a1)) then some ([], ()) else ref01_Put_l0 k k a0 a1 true [] (0 : Int))) := by kernel_rfl
noncomputable def ref01_Put_sp (k : Nat) : Spec := mkSp (Ps.cons (Pt.int .u64) (Ps.cons (Pt.int .i64) Ps.nil)) Os.nil (Pt.own 0 (.int .u8)) Os.nil (fun p o => ref01_Put k p.1 p.2.1) [.asis, .asis] [] 1 (fun _ => true)
theorem ref01_Put_ok (k : Nat) : SpecOk Try.prog 46 (ref01_Put_sp k) := mk_ok (k := k) (h := (.two .z (.two .z (.two .z (.two (.two .z (.lp ref01_Put_wrrrlrl .z)) .z))))) (W := ref01_Put_wr) G_ok (ref01_Put_EOK k) Try.func46 (c := ref01_Put_c) (by kernel_rfl) (by kernel_rfl) (by kernel_rfl) (by kernel_rfl) (by kernel_rfl) fun _ _ => rfl

noncomputable def ref01_Step_E (k : Nat) : Table := []
theorem ref01_Step_EOK (k : Nat) : TabOk Try.prog (ref01_Step_E k) := .nil
/-- plenum/plenumref01.Step -/
noncomputable def ref01_Step_c : Code := bodyOf Try.f28
noncomputable def ref01_Step_wrrlrl : Norm := { keep := [(0, .asis), (5, .asis)], objs := [], c := 0 }
noncomputable def ref01_Step_wrrlrllrllr : Norm := { keep := [(0, .asis), (5, .asis)], objs := [], c := 0 }
noncomputable def ref01_Step_wr : Norm := { keep := [(4, .asis)], objs := [], c := 0 }
noncomputable def ref01_Step (k : Nat) (a0 : Int) (a1 : Int) : Option (Int × Unit) := fnK G (ref01_Step_E k) k (.two .z (.two .z (.two (.two .z (.lp ref01_Step_wrrlrl (.two .z (.two (.two .z (.cd ref01_Step_wrrlrllrllr .z .z)) .z)))) .z))) ref01_Step_c 23 [.tmp 4] 0 ref01_Step_wr [] [.int .u32 a0, .int .u8 a1] [] (rd (Pt.int .u32) Os.nil)
noncomputable def ref01_Step_l0 (k n : Nat) (v72 : Int) (v73 : Int) : Option (Int × Unit) := iter (exec G (ref01_Step_E k) k (.two .z (.two (.two .z (.cd ref01_Step_wrrlrllrllr .z .z)) .z)) (lft (lft (rgt (lft (rgt (rgt ref01_Step_c))))))) ref01_Step_wrrlrl (blkK 0 (seqK (exec G (ref01_Step_E k) k .z (rgt (rgt (rgt ref01_Step_c)))) (retK G [.tmp 4] 0 ref01_Step_wr (rd (Pt.int .u32) Os.nil)))) n (mkS 23 0 [(0, (.int .u32 v72)), (5, (.int .i64 v73))] 0 [] [])
noncomputable def ref01_Step_j0 (k n : Nat) (v74 : Int) (v75 : Int) : Option (Int × Unit) := jmp k ((blkK 1 (seqK (exec G (ref01_Step_E k) k .z (rgt (rgt (lft (lft (rgt (lft (rgt (rgt ref01_Step_c))))))))) (backK (iter (exec G (ref01_Step_E k) k (.two .z (.two (.two .z (.cd ref01_Step_wrrlrllrllr .z .z)) .z)) (lft (lft (rgt (lft (rgt (rgt ref01_Step_c))))))) ref01_Step_wrrlrl (blkK 0 (seqK (exec G (ref01_Step_E k) k .z (rgt (rgt (rgt ref01_Step_c)))) (retK G [.tmp 4] 0 ref01_Step_wr (rd (Pt.int .u32) Os.nil)))) n) ref01_Step_wrrlrl (blkK 0 (seqK (exec G (ref01_Step_E k) k .z (rgt (rgt (rgt ref01_Step_c)))) (retK G [.tmp 4] 0 ref01_Step_wr (rd (Pt.int .u32) Os.nil))))))) .normal (mkS 23 0 [(0, (.int .u32 v74)), (5, (.int .i64 v75))] 0 [] []))
theorem ref01_Step_l0_zero (k : Nat) (v72 : Int) (v73 : Int) : ref01_Step_l0 k 0 v72 v73 = none := rfl
theorem ref01_Step_l0_eq (k n : Nat) (v72 : Int) (v73 : Int) : ref01_Step_l0 k (n + 1) v72 v73 = (bif (decide (v73 < 8)) then (bif (decide ((Int.tmod v72 2) = 1)) then ref01_Step_j0 k n (Go.bits .xor .u32 (wr .u32 (Int.tdiv v72 2)) 2197175160) v73 else ref01_Step_j0 k n (wr .u32 (Int.tdiv v72 2)) v73) else some (v72, ())) := by kernel_rfl
theorem ref01_Step_j0_eq (k n : Nat) (v74 : Int) (v75 : Int) : ref01_Step_j0 (k + 1) n v74 v75 = ref01_Step_l0 (k + 1) n v74 (wr .i64 (v75 + 1)) := by kernel_rfl
theorem ref01_Step_eq (k : Nat) (a0 : Int) (a1 : Int) : ref01_Step k a0 a1 = ref01_Step_l0 k k (Go.bits .xor .u32 a0 (wr .u32 a1)) (0 : Int) := by kernel_rfl
noncomputable def ref01_Step_sp (k : Nat) : Spec := mkSp (Ps.cons (Pt.int .u32) (Ps.cons (Pt.int .u8) Ps.nil)) Os.nil (Pt.int .u32) Os.nil (fun p o => ref01_Step k p.1 p.2.1) [.asis, .asis] [] 0 (fun _ => true)
theorem ref01_Step_ok (k : Nat) : SpecOk Try.prog 28 (ref01_Step_sp k) := mk_ok (k := k) (h := (.two .z (.two .z (.two (.two .z (.lp ref01_Step_wrrlrl (.two .z (.two (.two .z (.cd ref01_Step_wrrlrllrllr .z .z)) .z)))) .z)))) (W := ref01_Step_wr) G_ok (ref01_Step_EOK k) Try.func28 (c := ref01_Step_c) (by kernel_rfl) (by kernel_rfl) (by kernel_rfl) (by kernel_rfl) (by kernel_rfl) fun _ _ => rfl

noncomputable def ref01_Sum_E (k : Nat) : Table := [(28, ref01_Step_sp k)]
theorem ref01_Sum_EOK (k : Nat) : TabOk Try.prog (ref01_Sum_E k) := .cons (ref01_Step_ok k) <| .nil
/-- plenum/plenumref01.Sum -/
noncomputable def ref01_Sum_c : Code := bodyOf Try.f30
noncomputable def ref01_Sum_wrrlrl : Norm := { keep := [(3, .asis), (6, .sh), (7, .asis), (8, .asis)], objs := [], c := 0 }
noncomputable def ref01_Sum_wr : Norm := { keep := [(2, .asis)], objs := [], c := 0 }
noncomputable def ref01_Sum (k : Nat) (a0 : (List Int)) : Option (Int × Unit) := fnK G (ref01_Sum_E k) k (.two .z (.two .z (.two (.two .z (.lp ref01_Sum_wrrlrl .z)) .z))) ref01_Sum_c 18 [.tmp 2] 0 ref01_Sum_wr [] [.sl (.int .u8) .sh none a0] [] (rd (Pt.int .u32) Os.nil)
noncomputable def ref01_Sum_l0 (k n : Nat) (v67 : Int) (v68 : (List Int)) (v69 : Int) (v70 : Int) : Option (Int × Unit) := iter (exec G (ref01_Sum_E k) k .z (lft (lft (rgt (lft (rgt (rgt ref01_Sum_c))))))) ref01_Sum_wrrlrl (blkK 0 (seqK (exec G (ref01_Sum_E k) k .z (rgt (rgt (rgt ref01_Sum_c)))) (retK G [.tmp 2] 0 ref01_Sum_wr (rd (Pt.int .u32) Os.nil)))) n (mkS 18 0 [(3, (.int .u32 v67)), (6, (.sl (.int .u8) .sh none v68)), (7, (.int .i64 v69)), (8, (.int .i64 v70))] 0 [] [])
theorem ref01_Sum_l0_zero (k : Nat) (v67 : Int) (v68 : (List Int)) (v69 : Int) (v70 : Int) : ref01_Sum_l0 k 0 v67 v68 v69 v70 = none := rfl
theorem ref01_Sum_l0_eq (k n : Nat) (v67 : Int) (v68 : (List Int)) (v69 : Int) (v70 : Int) : ref01_Sum_l0 k (n + 1) v67 v68 v69 v70 = (bif (decide (v70 < v69)) then (nth v68 v70).bind fun x71 => (ref01_Step k v67 x71).bind fun r76 => ref01_Sum_l0 k n r76.1 v68 v69 (wr .i64 (v70 + 1)) else some ((wr .u32 (4294967295 - v67)), ())) := by kernel_rfl
theorem ref01_Sum_eq (k : Nat) (a0 : (List Int)) : ref01_Sum k a0 = ref01_Sum_l0 k k (4294967295 : Int) a0 (a0.length : Int) (0 : Int) := by kernel_rfl
noncomputable def ref01_Sum_sp (k : Nat) : Spec := mkSp (Ps.cons (Pt.sl (.int .u8)) Ps.nil) Os.nil (Pt.int .u32) Os.nil (fun p o => ref01_Sum k p.1) [.sh] [] 0 (fun _ => true)
theorem ref01_Sum_ok (k : Nat) : SpecOk Try.prog 30 (ref01_Sum_sp k) := mk_ok (k := k) (h := (.two .z (.two .z (.two (.two .z (.lp ref01_Sum_wrrlrl .z)) .z)))) (W := ref01_Sum_wr) G_ok (ref01_Sum_EOK k) Try.func30 (c := ref01_Sum_c) (by kernel_rfl) (by kernel_rfl) (by kernel_rfl) (by kernel_rfl) (by kernel_rfl) fun _ _ => rfl

noncomputable def ref01_Frame_E (k : Nat) : Table := [(46, ref01_Put_sp k), (30, ref01_Sum_sp k)]
theorem ref01_Frame_EOK (k : Nat) : TabOk Try.prog (ref01_Frame_E k) := .cons (ref01_Put_ok k) <| .cons (ref01_Sum_ok k) <| .nil
/-- plenum/plenumref01.Frame -/
noncomputable def ref01_Frame_c : Code := bodyOf Try.f55
noncomputable def ref01_Frame_wr : Norm := { keep := [(2, .own 0)], objs := [], c := 1 }
noncomputable def ref01_Frame (k : Nat) (a0 : (List Int)) : Option ((List Int) × Unit) := fnK G (ref01_Frame_E k) k .z ref01_Frame_c 24 [.tmp 2] 1 ref01_Frame_wr [] [.sl (.int .u8) .sh none a0] [] (rd (Pt.own 0 (.int .u8)) Os.nil)
theorem ref01_Frame_eq (k : Nat) (a0 : (List Int)) : ref01_Frame k a0 = (bif (decide (65536 < (a0.length : Int))) then some ([], ()) else (ref01_Put k (wr .u64 (a0.length : Int)) (4 : Int)).bind fun r66 => lim (0 + r66.1.length) (lim (([] ++ r66.1).length + a0.length) ((ref01_Sum k (([] ++ r66.1) ++ a0)).bind fun r77 => (ref01_Put k (wr .u64 r77.1) (4 : Int)).bind fun r78 => lim (r66.1.length + r78.1.length) (lim ((r66.1 ++ r78.1).length + a0.length) (some (((r66.1 ++ r78.1) ++ a0), ())))))) := by kernel_rfl
noncomputable def ref01_Frame_sp (k : Nat) : Spec := mkSp (Ps.cons (Pt.sl (.int .u8)) Ps.nil) Os.nil (Pt.own 0 (.int .u8)) Os.nil (fun p o => ref01_Frame k p.1) [.sh] [] 1 (fun _ => true)
theorem ref01_Frame_ok (k : Nat) : SpecOk Try.prog 55 (ref01_Frame_sp k) := mk_ok (k := k) (h := .z) (W := ref01_Frame_wr) G_ok (ref01_Frame_EOK k) Try.func55 (c := ref01_Frame_c) (by kernel_rfl) (by kernel_rfl) (by kernel_rfl) (by kernel_rfl) (by kernel_rfl) fun _ _ => rfl

noncomputable def ref01_Unframe_E (k : Nat) : Table := [(55, ref01_Frame_sp k), (48, ref01_Of_sp k)]
theorem ref01_Unframe_EOK (k : Nat) : TabOk Try.prog (ref01_Unframe_E k) := .cons (ref01_Frame_ok k) <| .cons (ref01_Of_ok k) <| .nil
/-- plenum/plenumref01.Unframe -/
noncomputable def ref01_Unframe_c : Code := bodyOf Try.f53
noncomputable def ref01_Unframe_wr : Norm := { keep := [(2, .sh), (3, .asis), (4, .asis)], objs := [], c := 0 }
noncomputable def ref01_Unframe (k : Nat) (a0 : (List Int)) : Option (((List Int) × (Int × (Int × Unit))) × Unit) := fnK G (ref01_Unframe_E k) k .z ref01_Unframe_c 40 [.tmp 2, .tmp 3, .tmp 4] 0 ref01_Unframe_wr [] [.sl (.int .u8) .sh none a0] [] (rd (Pt.tup (Ps.cons (Pt.sl (.int .u8)) (Ps.cons (Pt.int .i64) (Ps.cons (Pt.int .i64) Ps.nil)))) Os.nil)
theorem ref01_Unframe_eq (k : Nat) (a0 : (List Int)) : ref01_Unframe k a0 = (bif (decide ((a0.length : Int) < 8)) then some (([], ((0 : Int), ((50 : Int), ()))), ()) else (cut a0 0 4).bind fun x81 => (ref01_Of k x81).bind fun r82 => (bif (decide (65536 < r82.1)) then some (([], ((0 : Int), ((50 : Int), ()))), ()) else (bif (decide ((wr .u64 (wr .i64 ((a0.length : Int) - 8))) < r82.1)) then some (([], ((0 : Int), ((50 : Int), ()))), ()) else (cut a0 8 (wr .u64 (8 + r82.1))).bind fun x83 => (ref01_Frame k x83).bind fun r84 => (cut a0 0 (wr .u64 (8 + r82.1))).bind fun x85 => (bif (!beqL r84.1 x85) then some (([], ((0 : Int), ((50 : Int), ()))), ()) else some ((x83, ((wr .i64 (8 + (wr .i64 r82.1))), ((0 : Int), ()))), ()))))) := by kernel_rfl
noncomputable def ref01_Unframe_sp (k : Nat) : Spec := mkSp (Ps.cons (Pt.sl (.int .u8)) Ps.nil) Os.nil (Pt.tup (Ps.cons (Pt.sl (.int .u8)) (Ps.cons (Pt.int .i64) (Ps.cons (Pt.int .i64) Ps.nil)))) Os.nil (fun p o => ref01_Unframe k p.1) [.sh] [] 0 (fun _ => true)
theorem ref01_Unframe_ok (k : Nat) : SpecOk Try.prog 53 (ref01_Unframe_sp k) := mk_ok (k := k) (h := .z) (W := ref01_Unframe_wr) G_ok (ref01_Unframe_EOK k) Try.func53 (c := ref01_Unframe_c) (by kernel_rfl) (by kernel_rfl) (by kernel_rfl) (by kernel_rfl) (by kernel_rfl) fun _ _ => rfl

noncomputable def ref01_Frames_E (k : Nat) : Table := [(53, ref01_Unframe_sp k)]
theorem ref01_Frames_EOK (k : Nat) : TabOk Try.prog (ref01_Frames_E k) := .cons (ref01_Unframe_ok k) <| .nil
/-- plenum/plenumref01.Frames -/
noncomputable def ref01_Frames_c : Code := bodyOf Try.f58
noncomputable def ref01_Frames_wrrrl : Norm := { keep := [(0, .sh), (4, .ownN 0), (5, .asis)], objs := [], c := 1 }
noncomputable def ref01_Frames_wr : Norm := { keep := [(2, .own 0), (3, .asis)], objs := [], c := 1 }
noncomputable def ref01_Frames (k : Nat) (a0 : (List Int)) : Option (((List (List Int)) × (Int × Unit)) × Unit) := fnK G (ref01_Frames_E k) k (.two .z (.two .z (.two .z (.lp ref01_Frames_wrrrl .z)))) ref01_Frames_c 28 [.tmp 2, .tmp 3] 1 ref01_Frames_wr [] [.sl (.int .u8) .sh none a0] [] (rd (Pt.tup (Ps.cons (Pt.own 0 (.sl (.int .u8))) (Ps.cons (Pt.int .i64) Ps.nil))) Os.nil)
noncomputable def ref01_Frames_l0 (k n : Nat) (v48 : (List Int)) (v49 : Bool) (v50 : (List (List Int))) (v51 : Int) : Option (((List (List Int)) × (Int × Unit)) × Unit) := iter (exec G (ref01_Frames_E k) k .z (lft (lft (rgt (rgt (rgt ref01_Frames_c)))))) ref01_Frames_wrrrl (blkK 0 (retK G [.tmp 2, .tmp 3] 1 ref01_Frames_wr (rd (Pt.tup (Ps.cons (Pt.own 0 (.sl (.int .u8))) (Ps.cons (Pt.int .i64) Ps.nil))) Os.nil))) n (mkS 28 0 [(0, (.sl (.int .u8) .sh none v48)), (4, (.sl (.sl (.int .u8)) (.own 0) (some v49) v50)), (5, (.int .i64 v51))] 1 [0] [])
theorem ref01_Frames_l0_zero (k : Nat) (v48 : (List Int)) (v49 : Bool) (v50 : (List (List Int))) (v51 : Int) : ref01_Frames_l0 k 0 v48 v49 v50 v51 = none := rfl
theorem ref01_Frames_l0_eq (k n : Nat) (v48 : (List Int)) (v49 : Bool) (v50 : (List (List Int))) (v51 : Int) : ref01_Frames_l0 k (n + 1) v48 v49 v50 v51 = (cut v48 v51 v48.length).bind fun x52 => (ref01_Unframe k x52).bind fun r86 => (bif (!decide (r86.1.2.2.1 = 0)) then some ((v50, (v51, ())), ()) else lim (v50.length + [r86.1.1].length) (ref01_Frames_l0 k n v48 (v49 && [r86.1.1].isEmpty) (v50 ++ [r86.1.1]) (wr .i64 (v51 + r86.1.2.1)))) := by kernel_rfl
theorem ref01_Frames_eq (k : Nat) (a0 : (List Int)) : ref01_Frames k a0 = ref01_Frames_l0 k k a0 true [] (0 : Int) := by kernel_rfl
noncomputable def ref01_Frames_sp (k : Nat) : Spec := mkSp (Ps.cons (Pt.sl (.int .u8)) Ps.nil) Os.nil (Pt.tup (Ps.cons (Pt.own 0 (.sl (.int .u8))) (Ps.cons (Pt.int .i64) Ps.nil))) Os.nil (fun p o => ref01_Frames k p.1) [.sh] [] 1 (fun _ => true)
theorem ref01_Frames_ok (k : Nat) : SpecOk Try.prog 58 (ref01_Frames_sp k) := mk_ok (k := k) (h := (.two .z (.two .z (.two .z (.lp ref01_Frames_wrrrl .z))))) (W := ref01_Frames_wr) G_ok (ref01_Frames_EOK k) Try.func58 (c := ref01_Frames_c) (by kernel_rfl) (by kernel_rfl) (by kernel_rfl) (by kernel_rfl) (by kernel_rfl) fun _ _ => rfl

noncomputable def ref01_SameTexts_E (k : Nat) : Table := []
theorem ref01_SameTexts_EOK (k : Nat) : TabOk Try.prog (ref01_SameTexts_E k) := .nil
/-- plenum/plenumref01.SameTexts -/
noncomputable def ref01_SameTexts_c : Code := bodyOf Try.f59
noncomputable def ref01_SameTexts_wrrlrl : Norm := { keep := [(0, .sh), (1, .sh), (12, .asis), (13, .asis)], objs := [], c := 0 }
noncomputable def ref01_SameTexts_wr : Norm := { keep := [(4, .asis)], objs := [], c := 0 }
noncomputable def ref01_SameTexts (k : Nat) (a0 : (List (List Int))) (a1 : (List (List Int))) : Option (Bool × Unit) := fnK G (ref01_SameTexts_E k) k (.two .z (.two .z (.two (.two .z (.lp ref01_SameTexts_wrrlrl .z)) .z))) ref01_SameTexts_c 28 [.tmp 4] 0 ref01_SameTexts_wr [] [.sl (.sl (.int .u8)) .sh none a0, .sl (.sl (.int .u8)) .sh none a1] [] (rd Pt.bool Os.nil)
noncomputable def ref01_SameTexts_l0 (k n : Nat) (v88 : (List (List Int))) (v89 : (List (List Int))) (v90 : Int) (v91 : Int) : Option (Bool × Unit) := iter (exec G (ref01_SameTexts_E k) k .z (lft (lft (rgt (lft (rgt (rgt ref01_SameTexts_c))))))) ref01_SameTexts_wrrlrl (blkK 0 (seqK (exec G (ref01_SameTexts_E k) k .z (rgt (rgt (rgt ref01_SameTexts_c)))) (retK G [.tmp 4] 0 ref01_SameTexts_wr (rd Pt.bool Os.nil)))) n (mkS 28 0 [(0, (.sl (.sl (.int .u8)) .sh none v88)), (1, (.sl (.sl (.int .u8)) .sh none v89)), (12, (.int .i64 v90)), (13, (.int .i64 v91))] 0 [] [])
theorem ref01_SameTexts_l0_zero (k : Nat) (v88 : (List (List Int))) (v89 : (List (List Int))) (v90 : Int) (v91 : Int) : ref01_SameTexts_l0 k 0 v88 v89 v90 v91 = none := rfl
theorem ref01_SameTexts_l0_eq (k n : Nat) (v88 : (List (List Int))) (v89 : (List (List Int))) (v90 : Int) (v91 : Int) : ref01_SameTexts_l0 k (n + 1) v88 v89 v90 v91 = (bif (decide (v91 < v90)) then (nth v88 v91).bind fun x92 => (nth v89 v91).bind fun x93 => (bif (!beqL x92 x93) then some (false, ()) else ref01_SameTexts_l0 k n v88 v89 v90 (wr .i64 (v91 + 1))) else some (true, ())) := by kernel_rfl
theorem ref01_SameTexts_eq (k : Nat) (a0 : (List (List Int))) (a1 : (List (List Int))) : ref01_SameTexts k a0 a1 = (bif (!decide ((a0.length : Int) = (a1.length : Int))) then some (false, ()) else ref01_SameTexts_l0 k k a0 a1 (a0.length : Int) (0 : Int)) := by kernel_rfl
noncomputable def ref01_SameTexts_sp (k : Nat) : Spec := mkSp (Ps.cons (Pt.sl (.sl (.int .u8))) (Ps.cons (Pt.sl (.sl (.int .u8))) Ps.nil)) Os.nil Pt.bool Os.nil (fun p o => ref01_SameTexts k p.1 p.2.1) [.sh, .sh] [] 0 (fun _ => true)
theorem ref01_SameTexts_ok (k : Nat) : SpecOk Try.prog 59 (ref01_SameTexts_sp k) := mk_ok (k := k) (h := (.two .z (.two .z (.two (.two .z (.lp ref01_SameTexts_wrrlrl .z)) .z)))) (W := ref01_SameTexts_wr) G_ok (ref01_SameTexts_EOK k) Try.func59 (c := ref01_SameTexts_c) (by kernel_rfl) (by kernel_rfl) (by kernel_rfl) (by kernel_rfl) (by kernel_rfl) fun _ _ => rfl

noncomputable def law05_FrameAll_E (k : Nat) : Table := [(57, frame_All_sp k), (51, law05_awake_sp k), (58, ref01_Frames_sp k), (59, ref01_SameTexts_sp k)]
theorem law05_FrameAll_EOK (k : Nat) : TabOk Try.prog (law05_FrameAll_E k) := .cons (frame_All_ok k) <| .cons (law05_awake_ok k) <| .cons (ref01_Frames_ok k) <| .cons (ref01_SameTexts_ok k) <| .nil
/-- plenum/plenumlaw05.FrameAll -/
noncomputable def law05_FrameAll_c : Code := bodyOf Try.f16
noncomputable def law05_FrameAll_wr : Norm := { keep := [(2, .asis)], objs := [], c := 0 }
noncomputable def law05_FrameAll (k : Nat) (a0 : (List Int)) : Option (Bool × Unit) := fnK G (law05_FrameAll_E k) k .z law05_FrameAll_c 30 [.tmp 2] 0 law05_FrameAll_wr [] [.sl (.int .u8) .sh none a0] [] (rd Pt.bool Os.nil)
theorem law05_FrameAll_eq (k : Nat) (a0 : (List Int)) : law05_FrameAll k a0 = (law05_awake k).bind fun r29 => (bif (!r29.1) then some (false, ()) else (bif (decide (1000 < (a0.length : Int))) then some (true, ()) else (frame_All k a0).bind fun r47 => (ref01_Frames k a0).bind fun r87 => (ref01_SameTexts k r47.1.1 r87.1.1).bind fun r94 => (bif r94.1 then some ((decide (r47.1.2.1 = r87.1.2.1)), ()) else some (false, ())))) := by kernel_rfl
noncomputable def law05_FrameAll_sp (k : Nat) : Spec := mkSp (Ps.cons (Pt.sl (.int .u8)) Ps.nil) Os.nil Pt.bool Os.nil (fun p o => law05_FrameAll k p.1) [.sh] [] 0 (fun _ => true)
theorem law05_FrameAll_ok (k : Nat) : SpecOk Try.prog 16 (law05_FrameAll_sp k) := mk_ok (k := k) (h := .z) (W := law05_FrameAll_wr) G_ok (law05_FrameAll_EOK k) Try.func16 (c := law05_FrameAll_c) (by kernel_rfl) (by kernel_rfl) (by kernel_rfl) (by kernel_rfl) (by kernel_rfl) fun _ _ => rfl

end Go.Proofs.Ytnojkokhfmgcfaa.Den
