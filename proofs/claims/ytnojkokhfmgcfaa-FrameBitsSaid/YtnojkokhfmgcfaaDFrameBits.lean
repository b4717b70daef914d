import Derived.Test.YtnojkokhfmgcfaaDen30
import Derived.Test.YtnojkokhfmgcfaaProg
import Derived.KernelRfl
namespace Go.Proofs.Ytnojkokhfmgcfaa.Den
open Go
set_option maxRecDepth 100000
noncomputable def G : Env := tabEnv [(3, (.int .i64)), (4, .bool), (5, (.int .u8)), (9, .str), (23, (.int .u64)), (27, (.int .u32)), (28, (.sl (.int .u8))), (34, (.int .u64)), (45, (.int .i64))] [] [] []
theorem G_ok : EnvOk Try.prog G := env_ok (by kernel_rfl)
noncomputable def frame_Size_E (k : Nat) : Table := []
theorem frame_Size_EOK (k : Nat) : TabOk Try.prog (frame_Size_E k) := .nil
/-- plenum/frame.Size -/
noncomputable def frame_Size_c : Code := bodyOf Try.f56
noncomputable def frame_Size_wr : Norm := { keep := [(2, .asis)], objs := [], c := 0 }
noncomputable def frame_Size (k : Nat) (a0 : Int) : Option (Int × Unit) := fnK G (frame_Size_E k) k .z frame_Size_c 11 [.tmp 2] 0 frame_Size_wr [] [.int .i64 a0] [] (rd (Pt.int .i64) Os.nil)
theorem frame_Size_eq (k : Nat) (a0 : Int) : frame_Size k a0 = (bif (decide (a0 < 0)) then some ((0 : Int), ()) else (bif (decide (65536 < a0)) then some ((0 : Int), ()) else some ((wr .i64 (8 + a0)), ()))) := by kernel_rfl
noncomputable def frame_Size_sp (k : Nat) : Spec := mkSp (Ps.cons (Pt.int .i64) Ps.nil) Os.nil (Pt.int .i64) Os.nil (fun p o => frame_Size k p.1) [.asis] [] 0 (fun _ => true)
theorem frame_Size_ok (k : Nat) : SpecOk Try.prog 56 (frame_Size_sp k) := mk_ok (k := k) (h := .z) (W := frame_Size_wr) G_ok (frame_Size_EOK k) Try.func56 (c := frame_Size_c) (by kernel_rfl) (by kernel_rfl) (by kernel_rfl) (by kernel_rfl) (by kernel_rfl) fun _ _ => rfl

noncomputable def num_Put_E (k : Nat) : Table := []
theorem num_Put_EOK (k : Nat) : TabOk Try.prog (num_Put_E k) := .nil
noncomputable def num_Put_G : Env := rowEnv G [(4, 1)]
/-- plenum/num.Put -/
noncomputable def num_Put_c : Code := bodyOf Try.f36
noncomputable def num_Put_wrrrlrl : Norm := { keep := [(0, .asis), (1, .asis), (5, .asis), (15, .asis), (16, .asis)], objs := [[.asis]], c := 0 }
noncomputable def num_Put_wr : Norm := { keep := [(4, .asis)], objs := [[.asis]], c := 0 }
noncomputable def num_Put (k : Nat) (a0 : Int) (a1 : Int) : Option (Unit × (((List Int) × Unit) × Unit)) := fnK num_Put_G (num_Put_E k) k (.two .z (.two .z (.two .z (.two (.two .z (.lp num_Put_wrrrlrl .z)) .z)))) num_Put_c 32 [.tmp 4] 0 num_Put_wr [] [.int .u64 a0, .int .i64 a1] [] (rd (Pt.asl (.int .u8) 0) (Os.cons (Ps.cons (Pt.row (.int .u8)) Ps.nil) Os.nil))
noncomputable def num_Put_l0 (k n : Nat) (v2 : Int) (v3 : Int) (v4 : Int) (v5 : Int) (v6 : (List Int)) : Option (Unit × (((List Int) × Unit) × Unit)) := iter (exec num_Put_G (num_Put_E k) k .z (lft (lft (rgt (lft (rgt (rgt (rgt num_Put_c)))))))) num_Put_wrrrlrl (blkK 0 (seqK (exec num_Put_G (num_Put_E k) k .z (rgt (rgt (rgt (rgt num_Put_c))))) (retK num_Put_G [.tmp 4] 0 num_Put_wr (rd (Pt.asl (.int .u8) 0) (Os.cons (Ps.cons (Pt.row (.int .u8)) Ps.nil) Os.nil))))) n (mkS 32 0 [(0, (.int .u64 v2)), (1, (.int .i64 v3)), (5, (.ref (.asl (.int .u8)) 0)), (15, (.int .i64 v4)), (16, (.int .i64 v5))] 0 [] [[.blk (.row (.int .u8) v6)]])
theorem num_Put_l0_zero (k : Nat) (v2 : Int) (v3 : Int) (v4 : Int) (v5 : Int) (v6 : (List Int)) : num_Put_l0 k 0 v2 v3 v4 v5 v6 = none := rfl
theorem num_Put_l0_eq (k n : Nat) (v2 : Int) (v3 : Int) (v4 : Int) (v5 : Int) (v6 : (List Int)) : num_Put_l0 k (n + 1) v2 v3 v4 v5 v6 = (bif (decide (v5 < v4)) then (shrK .u64 v2 (wr .i64 (8 * v5))).bind fun x7 => must (inI (wr .i64 ((wr .i64 (v3 - 1)) - v5)) v6.length) (must (Nat.blt (wr .i64 ((wr .i64 (v3 - 1)) - v5)).toNat v6.length) (num_Put_l0 k n v2 v3 v4 (wr .i64 (v5 + 1)) (v6.set (wr .i64 ((wr .i64 (v3 - 1)) - v5)).toNat (wr .u8 x7)))) else some ((), ((v6, ()), ()))) := by kernel_rfl
theorem num_Put_eq (k : Nat) (a0 : Int) (a1 : Int) : num_Put k a0 a1 = (bif (decide (a1 < 0)) then some ((), (([], ()), ())) else (bif (decide (8 < a1)) then some ((), (([], ()), ())) else must (decide (0 ≤ a1) && beqI a1 a1) (lim a1.toNat (num_Put_l0 k k a0 a1 a1 (0 : Int) (List.replicate a1.toNat (0 : Int)))))) := by kernel_rfl
noncomputable def num_Put_sp (k : Nat) : Spec := mkSp (Ps.cons (Pt.int .u64) (Ps.cons (Pt.int .i64) Ps.nil)) Os.nil (Pt.asl (.int .u8) 0) (Os.cons (Ps.cons (Pt.row (.int .u8)) Ps.nil) Os.nil) (fun p o => num_Put k p.1 p.2.1) [.asis, .asis] [] 0 (fun _ => true)
theorem num_Put_ok (k : Nat) : SpecOk Try.prog 36 (num_Put_sp k) := mk_ok (k := k) (h := (.two .z (.two .z (.two .z (.two (.two .z (.lp num_Put_wrrrlrl .z)) .z))))) (W := num_Put_wr) (G_ok.rows _) (num_Put_EOK k) Try.func36 (c := num_Put_c) (by kernel_rfl) (by kernel_rfl) (by kernel_rfl) (by kernel_rfl) (by kernel_rfl) fun _ _ => rfl

noncomputable def crc_turn_E (k : Nat) : Table := []
theorem crc_turn_EOK (k : Nat) : TabOk Try.prog (crc_turn_E k) := .nil
/-- plenum/crc.turn -/
noncomputable def crc_turn_c : Code := bodyOf Try.f61
noncomputable def crc_turn_wrlrl : Norm := { keep := [(0, .asis), (4, .asis)], objs := [], c := 0 }
noncomputable def crc_turn_wr : Norm := { keep := [(2, .asis)], objs := [], c := 0 }
noncomputable def crc_turn (k : Nat) (a0 : Int) : Option (Int × Unit) := fnK G (crc_turn_E k) k (.two .z (.two (.two .z (.lp crc_turn_wrlrl .z)) .z)) crc_turn_c 17 [.tmp 2] 0 crc_turn_wr [] [.int .u32 a0] [] (rd (Pt.int .u32) Os.nil)
noncomputable def crc_turn_l0 (k n : Nat) (v14 : Int) (v15 : Int) : Option (Int × Unit) := iter (exec G (crc_turn_E k) k .z (lft (lft (rgt (lft (rgt crc_turn_c)))))) crc_turn_wrlrl (blkK 0 (seqK (exec G (crc_turn_E k) k .z (rgt (rgt crc_turn_c))) (retK G [.tmp 2] 0 crc_turn_wr (rd (Pt.int .u32) Os.nil)))) n (mkS 17 0 [(0, (.int .u32 v14)), (4, (.int .i64 v15))] 0 [] [])
theorem crc_turn_l0_zero (k : Nat) (v14 : Int) (v15 : Int) : crc_turn_l0 k 0 v14 v15 = none := rfl
theorem crc_turn_l0_eq (k n : Nat) (v14 : Int) (v15 : Int) : crc_turn_l0 k (n + 1) v14 v15 = (bif (decide (v15 < 8)) then crc_turn_l0 k n (Go.bits .xor .u32 (v14 / 2) (Go.bits .and .u32 2197175160 (wr .u32 (0 - (Go.bits .and .u32 v14 1))))) (wr .i64 (v15 + 1)) else some (v14, ())) := by kernel_rfl
theorem crc_turn_eq (k : Nat) (a0 : Int) : crc_turn k a0 = crc_turn_l0 k k a0 (0 : Int) := by kernel_rfl
noncomputable def crc_turn_sp (k : Nat) : Spec := mkSp (Ps.cons (Pt.int .u32) Ps.nil) Os.nil (Pt.int .u32) Os.nil (fun p o => crc_turn k p.1) [.asis] [] 0 (fun _ => true)
theorem crc_turn_ok (k : Nat) : SpecOk Try.prog 61 (crc_turn_sp k) := mk_ok (k := k) (h := (.two .z (.two (.two .z (.lp crc_turn_wrlrl .z)) .z))) (W := crc_turn_wr) G_ok (crc_turn_EOK k) Try.func61 (c := crc_turn_c) (by kernel_rfl) (by kernel_rfl) (by kernel_rfl) (by kernel_rfl) (by kernel_rfl) fun _ _ => rfl

noncomputable def crc_Step_E (k : Nat) : Table := [(61, crc_turn_sp k)]
theorem crc_Step_EOK (k : Nat) : TabOk Try.prog (crc_Step_E k) := .cons (crc_turn_ok k) <| .nil
/-- plenum/crc.Step -/
noncomputable def crc_Step_c : Code := bodyOf Try.f27
noncomputable def crc_Step_wr : Norm := { keep := [(4, .asis)], objs := [], c := 0 }
noncomputable def crc_Step (k : Nat) (a0 : Int) (a1 : Int) : Option (Int × Unit) := fnK G (crc_Step_E k) k .z crc_Step_c 10 [.tmp 4] 0 crc_Step_wr [] [.int .u32 a0, .int .u8 a1] [] (rd (Pt.int .u32) Os.nil)
theorem crc_Step_eq (k : Nat) (a0 : Int) (a1 : Int) : crc_Step k a0 a1 = (crc_turn k (Go.bits .xor .u32 a0 (wr .u32 a1))).bind fun r16 => some (r16.1, ()) := by kernel_rfl
noncomputable def crc_Step_sp (k : Nat) : Spec := mkSp (Ps.cons (Pt.int .u32) (Ps.cons (Pt.int .u8) Ps.nil)) Os.nil (Pt.int .u32) Os.nil (fun p o => crc_Step k p.1 p.2.1) [.asis, .asis] [] 0 (fun _ => true)
theorem crc_Step_ok (k : Nat) : SpecOk Try.prog 27 (crc_Step_sp k) := mk_ok (k := k) (h := .z) (W := crc_Step_wr) G_ok (crc_Step_EOK k) Try.func27 (c := crc_Step_c) (by kernel_rfl) (by kernel_rfl) (by kernel_rfl) (by kernel_rfl) (by kernel_rfl) fun _ _ => rfl

noncomputable def crc_More_E (k : Nat) : Table := [(27, crc_Step_sp k)]
theorem crc_More_EOK (k : Nat) : TabOk Try.prog (crc_More_E k) := .cons (crc_Step_ok k) <| .nil
/-- plenum/crc.More -/
noncomputable def crc_More_c : Code := bodyOf Try.f31
noncomputable def crc_More_wrlrl : Norm := { keep := [(0, .asis), (7, .sh), (8, .asis), (9, .asis)], objs := [], c := 0 }
noncomputable def crc_More_wr : Norm := { keep := [(4, .asis)], objs := [], c := 0 }
noncomputable def crc_More (k : Nat) (a0 : Int) (a1 : (List Int)) : Option (Int × Unit) := fnK G (crc_More_E k) k (.two .z (.two (.two .z (.lp crc_More_wrlrl .z)) .z)) crc_More_c 18 [.tmp 4] 0 crc_More_wr [] [.int .u32 a0, .sl (.int .u8) .sh none a1] [] (rd (Pt.int .u32) Os.nil)
noncomputable def crc_More_l0 (k n : Nat) (v9 : Int) (v10 : (List Int)) (v11 : Int) (v12 : Int) : Option (Int × Unit) := iter (exec G (crc_More_E k) k .z (lft (lft (rgt (lft (rgt crc_More_c)))))) crc_More_wrlrl (blkK 0 (seqK (exec G (crc_More_E k) k .z (rgt (rgt crc_More_c))) (retK G [.tmp 4] 0 crc_More_wr (rd (Pt.int .u32) Os.nil)))) n (mkS 18 0 [(0, (.int .u32 v9)), (7, (.sl (.int .u8) .sh none v10)), (8, (.int .i64 v11)), (9, (.int .i64 v12))] 0 [] [])
theorem crc_More_l0_zero (k : Nat) (v9 : Int) (v10 : (List Int)) (v11 : Int) (v12 : Int) : crc_More_l0 k 0 v9 v10 v11 v12 = none := rfl
theorem crc_More_l0_eq (k n : Nat) (v9 : Int) (v10 : (List Int)) (v11 : Int) (v12 : Int) : crc_More_l0 k (n + 1) v9 v10 v11 v12 = (bif (decide (v12 < v11)) then (nth v10 v12).bind fun x13 => (crc_Step k v9 x13).bind fun r17 => crc_More_l0 k n r17.1 v10 v11 (wr .i64 (v12 + 1)) else some (v9, ())) := by kernel_rfl
theorem crc_More_eq (k : Nat) (a0 : Int) (a1 : (List Int)) : crc_More k a0 a1 = crc_More_l0 k k a0 a1 (a1.length : Int) (0 : Int) := by kernel_rfl
noncomputable def crc_More_sp (k : Nat) : Spec := mkSp (Ps.cons (Pt.int .u32) (Ps.cons (Pt.sl (.int .u8)) Ps.nil)) Os.nil (Pt.int .u32) Os.nil (fun p o => crc_More k p.1 p.2.1) [.asis, .sh] [] 0 (fun _ => true)
theorem crc_More_ok (k : Nat) : SpecOk Try.prog 31 (crc_More_sp k) := mk_ok (k := k) (h := (.two .z (.two (.two .z (.lp crc_More_wrlrl .z)) .z))) (W := crc_More_wr) G_ok (crc_More_EOK k) Try.func31 (c := crc_More_c) (by kernel_rfl) (by kernel_rfl) (by kernel_rfl) (by kernel_rfl) (by kernel_rfl) fun _ _ => rfl

noncomputable def frame_sum_E (k : Nat) : Table := [(31, crc_More_sp k)]
theorem frame_sum_EOK (k : Nat) : TabOk Try.prog (frame_sum_E k) := .cons (crc_More_ok k) <| .nil
/-- plenum/frame.sum -/
noncomputable def frame_sum_c : Code := bodyOf Try.f66
noncomputable def frame_sum_wr : Norm := { keep := [(4, .asis)], objs := [], c := 0 }
noncomputable def frame_sum (k : Nat) (a0 : (List Int)) (a1 : (List Int)) : Option (Int × Unit) := fnK G (frame_sum_E k) k .z frame_sum_c 10 [.tmp 4] 0 frame_sum_wr [] [.sl (.int .u8) .sh none a0, .sl (.int .u8) .sh none a1] [] (rd (Pt.int .u32) Os.nil)
theorem frame_sum_eq (k : Nat) (a0 : (List Int)) (a1 : (List Int)) : frame_sum k a0 a1 = (crc_More k (4294967295 : Int) a0).bind fun r18 => (crc_More k r18.1 a1).bind fun r19 => some ((Go.bits .xor .u32 4294967295 r19.1), ()) := by kernel_rfl
noncomputable def frame_sum_sp (k : Nat) : Spec := mkSp (Ps.cons (Pt.sl (.int .u8)) (Ps.cons (Pt.sl (.int .u8)) Ps.nil)) Os.nil (Pt.int .u32) Os.nil (fun p o => frame_sum k p.1 p.2.1) [.sh, .sh] [] 0 (fun _ => true)
theorem frame_sum_ok (k : Nat) : SpecOk Try.prog 66 (frame_sum_sp k) := mk_ok (k := k) (h := .z) (W := frame_sum_wr) G_ok (frame_sum_EOK k) Try.func66 (c := frame_sum_c) (by kernel_rfl) (by kernel_rfl) (by kernel_rfl) (by kernel_rfl) (by kernel_rfl) fun _ _ => rfl

noncomputable def frame_Put_E (k : Nat) : Table := [(56, frame_Size_sp k), (66, frame_sum_sp k), (36, num_Put_sp k)]
theorem frame_Put_EOK (k : Nat) : TabOk Try.prog (frame_Put_E k) := .cons (frame_Size_ok k) <| .cons (frame_sum_ok k) <| .cons (num_Put_ok k) <| .nil
noncomputable def frame_Put_G : Env := rowEnv G [(2, 1)]
/-- plenum/frame.Put -/
noncomputable def frame_Put_c : Code := bodyOf Try.f54
noncomputable def frame_Put_wr : Norm := { keep := [(2, .asis)], objs := [[.asis]], c := 0 }
noncomputable def frame_Put (k : Nat) (a0 : (List Int)) : Option (Unit × (((List Int) × Unit) × Unit)) := fnK frame_Put_G (frame_Put_E k) k .z frame_Put_c 22 [.tmp 2] 0 frame_Put_wr [] [.sl (.int .u8) .sh none a0] [] (rd (Pt.asl (.int .u8) 0) (Os.cons (Ps.cons (Pt.row (.int .u8)) Ps.nil) Os.nil))
theorem frame_Put_eq (k : Nat) (a0 : (List Int)) : frame_Put k a0 = (frame_Size k (a0.length : Int)).bind fun r1 => (bif (decide (r1.1 = 0)) then some ((), (([], ()), ())) else (num_Put k (wr .u64 (a0.length : Int)) (4 : Int)).bind fun r8 => (frame_sum k r8.2.1.1 a0).bind fun r20 => (num_Put k (wr .u64 r20.1) (4 : Int)).bind fun r21 => lim (r8.2.1.1.length + r21.2.1.1.length) (lim ((r8.2.1.1 ++ r21.2.1.1).length + a0.length) (some ((), ((((r8.2.1.1 ++ r21.2.1.1) ++ a0), ()), ()))))) := by kernel_rfl
noncomputable def frame_Put_sp (k : Nat) : Spec := mkSp (Ps.cons (Pt.sl (.int .u8)) Ps.nil) Os.nil (Pt.asl (.int .u8) 0) (Os.cons (Ps.cons (Pt.row (.int .u8)) Ps.nil) Os.nil) (fun p o => frame_Put k p.1) [.sh] [] 0 (fun _ => true)
theorem frame_Put_ok (k : Nat) : SpecOk Try.prog 54 (frame_Put_sp k) := mk_ok (k := k) (h := .z) (W := frame_Put_wr) (G_ok.rows _) (frame_Put_EOK k) Try.func54 (c := frame_Put_c) (by kernel_rfl) (by kernel_rfl) (by kernel_rfl) (by kernel_rfl) (by kernel_rfl) fun _ _ => rfl

noncomputable def law05_awake_E (k : Nat) : Table := [(54, frame_Put_sp k), (56, frame_Size_sp k)]
theorem law05_awake_EOK (k : Nat) : TabOk Try.prog (law05_awake_E k) := .cons (frame_Put_ok k) <| .cons (frame_Size_ok k) <| .nil
noncomputable def law05_awake_G : Env := rowEnv G [(2, 1)]
/-- plenum/plenumlaw05.awake -/
noncomputable def law05_awake_c : Code := bodyOf Try.f51
noncomputable def law05_awake_wr : Norm := { keep := [(0, .asis)], objs := [], c := 0 }
noncomputable def law05_awake (k : Nat)  : Option (Bool × Unit) := fnK law05_awake_G (law05_awake_E k) k .z law05_awake_c 18 [.tmp 0] 0 law05_awake_wr [] [] [] (rd Pt.bool Os.nil)
theorem law05_awake_eq (k : Nat)  : law05_awake k  = (frame_Put k [(97 : Int), (98 : Int), (99 : Int)]).bind fun r22 => (frame_Size k (3 : Int)).bind fun r23 => (bif (decide (r23.1 = 11)) then (bif (decide ((r22.2.1.1.length : Int) = 11)) then must (inI (3 : Int) r22.2.1.1.length) ((r22.2.1.1[(3 : Int).toNat]?).bind fun x24 => some ((decide (x24 = 3)), ())) else some (false, ())) else some (false, ())) := by kernel_rfl
noncomputable def law05_awake_sp (k : Nat) : Spec := mkSp Ps.nil Os.nil Pt.bool Os.nil (fun p o => law05_awake k ) [] [] 0 (fun _ => true)
theorem law05_awake_ok (k : Nat) : SpecOk Try.prog 51 (law05_awake_sp k) := mk_ok (k := k) (h := .z) (W := law05_awake_wr) (G_ok.rows _) (law05_awake_EOK k) Try.func51 (c := law05_awake_c) (by kernel_rfl) (by kernel_rfl) (by kernel_rfl) (by kernel_rfl) (by kernel_rfl) fun _ _ => rfl

noncomputable def num_Of_E (k : Nat) : Table := []
theorem num_Of_EOK (k : Nat) : TabOk Try.prog (num_Of_E k) := .nil
/-- plenum/num.Of -/
noncomputable def num_Of_c : Code := bodyOf Try.f47
noncomputable def num_Of_wrrlrl : Norm := { keep := [(3, .asis), (6, .sh), (7, .asis), (8, .asis)], objs := [], c := 0 }
noncomputable def num_Of_wr : Norm := { keep := [(2, .asis)], objs := [], c := 0 }
noncomputable def num_Of (k : Nat) (a0 : (List Int)) : Option (Int × Unit) := fnK G (num_Of_E k) k (.two .z (.two .z (.two (.two .z (.lp num_Of_wrrlrl .z)) .z))) num_Of_c 19 [.tmp 2] 0 num_Of_wr [] [.sl (.int .u8) .sh none a0] [] (rd (Pt.int .u64) Os.nil)
noncomputable def num_Of_l0 (k n : Nat) (v31 : Int) (v32 : (List Int)) (v33 : Int) (v34 : Int) : Option (Int × Unit) := iter (exec G (num_Of_E k) k .z (lft (lft (rgt (lft (rgt (rgt num_Of_c))))))) num_Of_wrrlrl (blkK 0 (seqK (exec G (num_Of_E k) k .z (rgt (rgt (rgt num_Of_c)))) (retK G [.tmp 2] 0 num_Of_wr (rd (Pt.int .u64) Os.nil)))) n (mkS 19 0 [(3, (.int .u64 v31)), (6, (.sl (.int .u8) .sh none v32)), (7, (.int .i64 v33)), (8, (.int .i64 v34))] 0 [] [])
theorem num_Of_l0_zero (k : Nat) (v31 : Int) (v32 : (List Int)) (v33 : Int) (v34 : Int) : num_Of_l0 k 0 v31 v32 v33 v34 = none := rfl
theorem num_Of_l0_eq (k n : Nat) (v31 : Int) (v32 : (List Int)) (v33 : Int) (v34 : Int) : num_Of_l0 k (n + 1) v31 v32 v33 v34 = (bif (decide (v34 < v33)) then (nth v32 v34).bind fun x35 => num_Of_l0 k n (Go.bits .or .u64 (wr .u64 (v31 * 256)) (wr .u64 x35)) v32 v33 (wr .i64 (v34 + 1)) else some (v31, ())) := by kernel_rfl
theorem num_Of_eq (k : Nat) (a0 : (List Int)) : num_Of k a0 = num_Of_l0 k k (0 : Int) a0 (a0.length : Int) (0 : Int) := by kernel_rfl
noncomputable def num_Of_sp (k : Nat) : Spec := mkSp (Ps.cons (Pt.sl (.int .u8)) Ps.nil) Os.nil (Pt.int .u64) Os.nil (fun p o => num_Of k p.1) [.sh] [] 0 (fun _ => true)
theorem num_Of_ok (k : Nat) : SpecOk Try.prog 47 (num_Of_sp k) := mk_ok (k := k) (h := (.two .z (.two .z (.two (.two .z (.lp num_Of_wrrlrl .z)) .z)))) (W := num_Of_wr) G_ok (num_Of_EOK k) Try.func47 (c := num_Of_c) (by kernel_rfl) (by kernel_rfl) (by kernel_rfl) (by kernel_rfl) (by kernel_rfl) fun _ _ => rfl

noncomputable def frame_Of_E (k : Nat) : Table := [(66, frame_sum_sp k), (47, num_Of_sp k)]
theorem frame_Of_EOK (k : Nat) : TabOk Try.prog (frame_Of_E k) := .cons (frame_sum_ok k) <| .cons (num_Of_ok k) <| .nil
/-- plenum/frame.Of -/
noncomputable def frame_Of_c : Code := bodyOf Try.f52
noncomputable def frame_Of_wr : Norm := { keep := [(2, .own 0), (3, .asis), (4, .asis)], objs := [], c := 1 }
noncomputable def frame_Of (k : Nat) (a0 : (List Int)) : Option (((List Int) × (Int × (Int × Unit))) × Unit) := fnK G (frame_Of_E k) k .z frame_Of_c 45 [.tmp 2, .tmp 3, .tmp 4] 1 frame_Of_wr [] [.sl (.int .u8) .sh none a0] [] (rd (Pt.tup (Ps.cons (Pt.own 0 (.int .u8)) (Ps.cons (Pt.int .i64) (Ps.cons (Pt.int .i64) Ps.nil)))) Os.nil)
theorem frame_Of_eq (k : Nat) (a0 : (List Int)) : frame_Of k a0 = (bif (decide ((a0.length : Int) < 8)) then some (([], ((0 : Int), ((50 : Int), ()))), ()) else must (beqI 4 4) ((cut a0 0 4).bind fun x29 => must (beqI 8 8) ((cut a0 4 8).bind fun x30 => (num_Of k x30).bind fun r36 => (num_Of k x29).bind fun r37 => (bif (decide (65536 < r37.1)) then some (([], ((0 : Int), ((50 : Int), ()))), ()) else (bif (decide ((wr .u64 (wr .i64 ((a0.length : Int) - 8))) < r37.1)) then some (([], ((0 : Int), ((50 : Int), ()))), ()) else must (beqI (wr .i64 (8 + (wr .i64 r37.1))) (wr .i64 (8 + (wr .i64 r37.1)))) ((cut a0 8 (wr .i64 (8 + (wr .i64 r37.1)))).bind fun x38 => (frame_sum k x29 x38).bind fun r39 => (bif (!decide (r39.1 = (wr .u32 r36.1))) then some (([], ((0 : Int), ((50 : Int), ()))), ()) else lim (0 + x38.length) (some ((([] ++ x38), ((wr .i64 (8 + (wr .i64 r37.1))), ((0 : Int), ()))), ()))))))))) := by kernel_rfl
noncomputable def frame_Of_sp (k : Nat) : Spec := mkSp (Ps.cons (Pt.sl (.int .u8)) Ps.nil) Os.nil (Pt.tup (Ps.cons (Pt.own 0 (.int .u8)) (Ps.cons (Pt.int .i64) (Ps.cons (Pt.int .i64) Ps.nil)))) Os.nil (fun p o => frame_Of k p.1) [.sh] [] 1 (fun _ => true)
theorem frame_Of_ok (k : Nat) : SpecOk Try.prog 52 (frame_Of_sp k) := mk_ok (k := k) (h := .z) (W := frame_Of_wr) G_ok (frame_Of_EOK k) Try.func52 (c := frame_Of_c) (by kernel_rfl) (by kernel_rfl) (by kernel_rfl) (by kernel_rfl) (by kernel_rfl) fun _ _ => rfl

noncomputable def law05_FrameBits_E (k : Nat) : Table := [(52, frame_Of_sp k), (54, frame_Put_sp k), (51, law05_awake_sp k)]
theorem law05_FrameBits_EOK (k : Nat) : TabOk Try.prog (law05_FrameBits_E k) := .cons (frame_Of_ok k) <| .cons (frame_Put_ok k) <| .cons (law05_awake_ok k) <| .nil
/-- plenum/plenumlaw05.FrameBits -/
noncomputable def law05_FrameBits_c : Code := bodyOf Try.f15
noncomputable def law05_FrameBits_wrrrrrl : Norm := { keep := [(0, .sh), (5, .sh)], objs := [], c := 0 }
noncomputable def law05_FrameBits_wr : Norm := { keep := [(4, .asis)], objs := [], c := 0 }
noncomputable def law05_FrameBits (k : Nat) (a0 : (List Int)) (a1 : Int) : Option (Bool × Unit) := fnK G (law05_FrameBits_E k) k (.two .z (.two .z (.two .z (.two .z (.two .z (.two (.nm law05_FrameBits_wrrrrrl) .z)))))) law05_FrameBits_c 53 [.tmp 4] 0 law05_FrameBits_wr [] [.sl (.int .u8) .sh none a0, .int .i64 a1] [] (rd Pt.bool Os.nil)
theorem law05_FrameBits_eq (k : Nat) (a0 : (List Int)) (a1 : Int) : law05_FrameBits k a0 a1 = (law05_awake k).bind fun r40 => (bif (!r40.1) then some (false, ()) else (frame_Put k a0).bind fun r41 => (bif (decide (200 < (a0.length : Int))) then some (true, ()) else (bif (decide (a1 < 0)) then some (true, ()) else (bif (decide ((wr .i64 (8 * (r41.2.1.1.length : Int))) ≤ a1)) then some (true, ()) else must (inI (wr .i64 (Int.tdiv a1 8)) r41.2.1.1.length) ((r41.2.1.1[(wr .i64 (Int.tdiv a1 8)).toNat]?).bind fun x42 => (shlK .u8 1 (wr .u64 (Int.tmod a1 8))).bind fun x43 => must (inI (wr .i64 (Int.tdiv a1 8)) r41.2.1.1.length) (must (Nat.blt (wr .i64 (Int.tdiv a1 8)).toNat r41.2.1.1.length) ((frame_Of k (r41.2.1.1.set (wr .i64 (Int.tdiv a1 8)).toNat (Go.bits .xor .u8 x42 x43))).bind fun r44 => (bif (decide (r44.1.2.2.1 = 50)) then some (true, ()) else some ((!beqL r44.1.1 a0), ()))))))))) := by kernel_rfl
noncomputable def law05_FrameBits_sp (k : Nat) : Spec := mkSp (Ps.cons (Pt.sl (.int .u8)) (Ps.cons (Pt.int .i64) Ps.nil)) Os.nil Pt.bool Os.nil (fun p o => law05_FrameBits k p.1 p.2.1) [.sh, .asis] [] 0 (fun _ => true)
theorem law05_FrameBits_ok (k : Nat) : SpecOk Try.prog 15 (law05_FrameBits_sp k) := mk_ok (k := k) (h := (.two .z (.two .z (.two .z (.two .z (.two .z (.two (.nm law05_FrameBits_wrrrrrl) .z))))))) (W := law05_FrameBits_wr) G_ok (law05_FrameBits_EOK k) Try.func15 (c := law05_FrameBits_c) (by kernel_rfl) (by kernel_rfl) (by kernel_rfl) (by kernel_rfl) (by kernel_rfl) fun _ _ => rfl

end Go.Proofs.Ytnojkokhfmgcfaa.Den
