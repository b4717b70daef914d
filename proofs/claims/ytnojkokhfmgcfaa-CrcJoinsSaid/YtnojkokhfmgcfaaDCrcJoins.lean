import Derived.Test.YtnojkokhfmgcfaaDen30
import Derived.Test.YtnojkokhfmgcfaaProg
import Derived.KernelRfl
namespace Go.Proofs.Ytnojkokhfmgcfaa.Den
open Go
set_option maxRecDepth 100000
noncomputable def G : Env := tabEnv [(3, (.int .i64)), (4, .bool), (5, (.int .u8)), (27, (.int .u32)), (28, (.sl (.int .u8))), (34, (.int .u64))] [] [] []
theorem G_ok : EnvOk Try.prog G := env_ok (by kernel_rfl)
noncomputable def crc_turn_E (k : Nat) : Table := []
theorem crc_turn_EOK (k : Nat) : TabOk Try.prog (crc_turn_E k) := .nil
/-- plenum/crc.turn -/
noncomputable def crc_turn_c : Code := bodyOf Try.f61
noncomputable def crc_turn_wrlrl : Norm := { keep := [(0, .asis), (4, .asis)], objs := [], c := 0 }
noncomputable def crc_turn_wr : Norm := { keep := [(2, .asis)], objs := [], c := 0 }
noncomputable def crc_turn (k : Nat) (a0 : Int) : Option (Int × Unit) := fnK G (crc_turn_E k) k (.two .z (.two (.two .z (.lp crc_turn_wrlrl .z)) .z)) crc_turn_c 17 [.tmp 2] 0 crc_turn_wr [] [.int .u32 a0] [] (rd (Pt.int .u32) Os.nil)
noncomputable def crc_turn_l0 (k n : Nat) (v6 : Int) (v7 : Int) : Option (Int × Unit) := iter (exec G (crc_turn_E k) k .z (lft (lft (rgt (lft (rgt crc_turn_c)))))) crc_turn_wrlrl (blkK 0 (seqK (exec G (crc_turn_E k) k .z (rgt (rgt crc_turn_c))) (retK G [.tmp 2] 0 crc_turn_wr (rd (Pt.int .u32) Os.nil)))) n (mkS 17 0 [(0, (.int .u32 v6)), (4, (.int .i64 v7))] 0 [] [])
theorem crc_turn_l0_zero (k : Nat) (v6 : Int) (v7 : Int) : crc_turn_l0 k 0 v6 v7 = none := rfl
theorem crc_turn_l0_eq (k n : Nat) (v6 : Int) (v7 : Int) : crc_turn_l0 k (n + 1) v6 v7 = (bif (decide (v7 < 8)) then crc_turn_l0 k n (Go.bits .xor .u32 (v6 / 2) (Go.bits .and .u32 2197175160 (wr .u32 (0 - (Go.bits .and .u32 v6 1))))) (wr .i64 (v7 + 1)) else some (v6, ())) := by kernel_rfl
theorem crc_turn_eq (k : Nat) (a0 : Int) : crc_turn k a0 = crc_turn_l0 k k a0 (0 : Int) := by kernel_rfl
noncomputable def crc_turn_sp (k : Nat) : Spec := mkSp (Ps.cons (Pt.int .u32) Ps.nil) Os.nil (Pt.int .u32) Os.nil (fun p o => crc_turn k p.1) [.asis] [] 0 (fun _ => true)
theorem crc_turn_ok (k : Nat) : SpecOk Try.prog 61 (crc_turn_sp k) := mk_ok (k := k) (h := (.two .z (.two (.two .z (.lp crc_turn_wrlrl .z)) .z))) (W := crc_turn_wr) G_ok (crc_turn_EOK k) Try.func61 (c := crc_turn_c) (by kernel_rfl) (by kernel_rfl) (by kernel_rfl) (by kernel_rfl) (by kernel_rfl) fun _ _ => rfl

noncomputable def crc_Step_E (k : Nat) : Table := [(61, crc_turn_sp k)]
theorem crc_Step_EOK (k : Nat) : TabOk Try.prog (crc_Step_E k) := .cons (crc_turn_ok k) <| .nil
/-- plenum/crc.Step -/
noncomputable def crc_Step_c : Code := bodyOf Try.f27
noncomputable def crc_Step_wr : Norm := { keep := [(4, .asis)], objs := [], c := 0 }
noncomputable def crc_Step (k : Nat) (a0 : Int) (a1 : Int) : Option (Int × Unit) := fnK G (crc_Step_E k) k .z crc_Step_c 10 [.tmp 4] 0 crc_Step_wr [] [.int .u32 a0, .int .u8 a1] [] (rd (Pt.int .u32) Os.nil)
theorem crc_Step_eq (k : Nat) (a0 : Int) (a1 : Int) : crc_Step k a0 a1 = (crc_turn k (Go.bits .xor .u32 a0 (wr .u32 a1))).bind fun r8 => some (r8.1, ()) := by kernel_rfl
noncomputable def crc_Step_sp (k : Nat) : Spec := mkSp (Ps.cons (Pt.int .u32) (Ps.cons (Pt.int .u8) Ps.nil)) Os.nil (Pt.int .u32) Os.nil (fun p o => crc_Step k p.1 p.2.1) [.asis, .asis] [] 0 (fun _ => true)
theorem crc_Step_ok (k : Nat) : SpecOk Try.prog 27 (crc_Step_sp k) := mk_ok (k := k) (h := .z) (W := crc_Step_wr) G_ok (crc_Step_EOK k) Try.func27 (c := crc_Step_c) (by kernel_rfl) (by kernel_rfl) (by kernel_rfl) (by kernel_rfl) (by kernel_rfl) fun _ _ => rfl

noncomputable def crc_More_E (k : Nat) : Table := [(27, crc_Step_sp k)]
theorem crc_More_EOK (k : Nat) : TabOk Try.prog (crc_More_E k) := .cons (crc_Step_ok k) <| .nil
/-- plenum/crc.More -/
noncomputable def crc_More_c : Code := bodyOf Try.f31
noncomputable def crc_More_wrlrl : Norm := { keep := [(0, .asis), (7, .sh), (8, .asis), (9, .asis)], objs := [], c := 0 }
noncomputable def crc_More_wr : Norm := { keep := [(4, .asis)], objs := [], c := 0 }
noncomputable def crc_More (k : Nat) (a0 : Int) (a1 : (List Int)) : Option (Int × Unit) := fnK G (crc_More_E k) k (.two .z (.two (.two .z (.lp crc_More_wrlrl .z)) .z)) crc_More_c 18 [.tmp 4] 0 crc_More_wr [] [.int .u32 a0, .sl (.int .u8) .sh none a1] [] (rd (Pt.int .u32) Os.nil)
noncomputable def crc_More_l0 (k n : Nat) (v1 : Int) (v2 : (List Int)) (v3 : Int) (v4 : Int) : Option (Int × Unit) := iter (exec G (crc_More_E k) k .z (lft (lft (rgt (lft (rgt crc_More_c)))))) crc_More_wrlrl (blkK 0 (seqK (exec G (crc_More_E k) k .z (rgt (rgt crc_More_c))) (retK G [.tmp 4] 0 crc_More_wr (rd (Pt.int .u32) Os.nil)))) n (mkS 18 0 [(0, (.int .u32 v1)), (7, (.sl (.int .u8) .sh none v2)), (8, (.int .i64 v3)), (9, (.int .i64 v4))] 0 [] [])
theorem crc_More_l0_zero (k : Nat) (v1 : Int) (v2 : (List Int)) (v3 : Int) (v4 : Int) : crc_More_l0 k 0 v1 v2 v3 v4 = none := rfl
theorem crc_More_l0_eq (k n : Nat) (v1 : Int) (v2 : (List Int)) (v3 : Int) (v4 : Int) : crc_More_l0 k (n + 1) v1 v2 v3 v4 = (bif (decide (v4 < v3)) then (nth v2 v4).bind fun x5 => (crc_Step k v1 x5).bind fun r9 => crc_More_l0 k n r9.1 v2 v3 (wr .i64 (v4 + 1)) else some (v1, ())) := by kernel_rfl
theorem crc_More_eq (k : Nat) (a0 : Int) (a1 : (List Int)) : crc_More k a0 a1 = crc_More_l0 k k a0 a1 (a1.length : Int) (0 : Int) := by kernel_rfl
noncomputable def crc_More_sp (k : Nat) : Spec := mkSp (Ps.cons (Pt.int .u32) (Ps.cons (Pt.sl (.int .u8)) Ps.nil)) Os.nil (Pt.int .u32) Os.nil (fun p o => crc_More k p.1 p.2.1) [.asis, .sh] [] 0 (fun _ => true)
theorem crc_More_ok (k : Nat) : SpecOk Try.prog 31 (crc_More_sp k) := mk_ok (k := k) (h := (.two .z (.two (.two .z (.lp crc_More_wrlrl .z)) .z))) (W := crc_More_wr) G_ok (crc_More_EOK k) Try.func31 (c := crc_More_c) (by kernel_rfl) (by kernel_rfl) (by kernel_rfl) (by kernel_rfl) (by kernel_rfl) fun _ _ => rfl

noncomputable def crc_Sum_E (k : Nat) : Table := [(31, crc_More_sp k)]
theorem crc_Sum_EOK (k : Nat) : TabOk Try.prog (crc_Sum_E k) := .cons (crc_More_ok k) <| .nil
/-- plenum/crc.Sum -/
noncomputable def crc_Sum_c : Code := bodyOf Try.f29
noncomputable def crc_Sum_wr : Norm := { keep := [(2, .asis)], objs := [], c := 0 }
noncomputable def crc_Sum (k : Nat) (a0 : (List Int)) : Option (Int × Unit) := fnK G (crc_Sum_E k) k .z crc_Sum_c 6 [.tmp 2] 0 crc_Sum_wr [] [.sl (.int .u8) .sh none a0] [] (rd (Pt.int .u32) Os.nil)
theorem crc_Sum_eq (k : Nat) (a0 : (List Int)) : crc_Sum k a0 = (crc_More k (4294967295 : Int) a0).bind fun r10 => some ((Go.bits .xor .u32 4294967295 r10.1), ()) := by kernel_rfl
noncomputable def crc_Sum_sp (k : Nat) : Spec := mkSp (Ps.cons (Pt.sl (.int .u8)) Ps.nil) Os.nil (Pt.int .u32) Os.nil (fun p o => crc_Sum k p.1) [.sh] [] 0 (fun _ => true)
theorem crc_Sum_ok (k : Nat) : SpecOk Try.prog 29 (crc_Sum_sp k) := mk_ok (k := k) (h := .z) (W := crc_Sum_wr) G_ok (crc_Sum_EOK k) Try.func29 (c := crc_Sum_c) (by kernel_rfl) (by kernel_rfl) (by kernel_rfl) (by kernel_rfl) (by kernel_rfl) fun _ _ => rfl

noncomputable def law04_awake_E (k : Nat) : Table := [(29, crc_Sum_sp k)]
theorem law04_awake_EOK (k : Nat) : TabOk Try.prog (law04_awake_E k) := .cons (crc_Sum_ok k) <| .nil
noncomputable def law04_awake_G : Env := rowEnv G [(1, 1)]
/-- plenum/plenumlaw04.awake -/
noncomputable def law04_awake_c : Code := bodyOf Try.f26
noncomputable def law04_awake_wr : Norm := { keep := [(0, .asis)], objs := [], c := 0 }
noncomputable def law04_awake (k : Nat)  : Option (Bool × Unit) := fnK law04_awake_G (law04_awake_E k) k .z law04_awake_c 5 [.tmp 0] 0 law04_awake_wr [] [] [] (rd Pt.bool Os.nil)
theorem law04_awake_eq (k : Nat)  : law04_awake k  = (crc_Sum k [(49 : Int), (50 : Int), (51 : Int), (52 : Int), (53 : Int), (54 : Int), (55 : Int), (56 : Int), (57 : Int)]).bind fun r11 => some ((decide (r11.1 = 3808858755)), ()) := by kernel_rfl
noncomputable def law04_awake_sp (k : Nat) : Spec := mkSp Ps.nil Os.nil Pt.bool Os.nil (fun p o => law04_awake k ) [] [] 0 (fun _ => true)
theorem law04_awake_ok (k : Nat) : SpecOk Try.prog 26 (law04_awake_sp k) := mk_ok (k := k) (h := .z) (W := law04_awake_wr) (G_ok.rows _) (law04_awake_EOK k) Try.func26 (c := law04_awake_c) (by kernel_rfl) (by kernel_rfl) (by kernel_rfl) (by kernel_rfl) (by kernel_rfl) fun _ _ => rfl

noncomputable def crc_Join_E (k : Nat) : Table := [(61, crc_turn_sp k)]
theorem crc_Join_EOK (k : Nat) : TabOk Try.prog (crc_Join_E k) := .cons (crc_turn_ok k) <| .nil
/-- plenum/crc.Join -/
noncomputable def crc_Join_c : Code := bodyOf Try.f37
noncomputable def crc_Join_wrrlrl : Norm := { keep := [(0, .asis), (1, .asis), (13, .asis), (14, .asis)], objs := [], c := 0 }
noncomputable def crc_Join_wr : Norm := { keep := [(6, .asis)], objs := [], c := 0 }
noncomputable def crc_Join (k : Nat) (a0 : Int) (a1 : Int) (a2 : Int) : Option (Int × Unit) := fnK G (crc_Join_E k) k (.two .z (.two .z (.two (.two .z (.lp crc_Join_wrrlrl .z)) .z))) crc_Join_c 22 [.tmp 6] 0 crc_Join_wr [] [.int .u32 a0, .int .u32 a1, .int .i64 a2] [] (rd (Pt.int .u32) Os.nil)
noncomputable def crc_Join_l0 (k n : Nat) (v13 : Int) (v14 : Int) (v15 : Int) (v16 : Int) : Option (Int × Unit) := iter (exec G (crc_Join_E k) k .z (lft (lft (rgt (lft (rgt (rgt crc_Join_c))))))) crc_Join_wrrlrl (blkK 0 (seqK (exec G (crc_Join_E k) k .z (rgt (rgt (rgt crc_Join_c)))) (retK G [.tmp 6] 0 crc_Join_wr (rd (Pt.int .u32) Os.nil)))) n (mkS 22 0 [(0, (.int .u32 v13)), (1, (.int .u32 v14)), (13, (.int .i64 v15)), (14, (.int .i64 v16))] 0 [] [])
theorem crc_Join_l0_zero (k : Nat) (v13 : Int) (v14 : Int) (v15 : Int) (v16 : Int) : crc_Join_l0 k 0 v13 v14 v15 v16 = none := rfl
theorem crc_Join_l0_eq (k n : Nat) (v13 : Int) (v14 : Int) (v15 : Int) (v16 : Int) : crc_Join_l0 k (n + 1) v13 v14 v15 v16 = (bif (decide (v16 < v15)) then (crc_turn k v13).bind fun r17 => crc_Join_l0 k n r17.1 v14 v15 (wr .i64 (v16 + 1)) else some ((Go.bits .xor .u32 v13 v14), ())) := by kernel_rfl
theorem crc_Join_eq (k : Nat) (a0 : Int) (a1 : Int) (a2 : Int) : crc_Join k a0 a1 a2 = (bif (decide (a2 < 0)) then some ((0 : Int), ()) else (bif (decide (65536 < a2)) then some ((0 : Int), ()) else crc_Join_l0 k k a0 a1 a2 (0 : Int))) := by kernel_rfl
noncomputable def crc_Join_sp (k : Nat) : Spec := mkSp (Ps.cons (Pt.int .u32) (Ps.cons (Pt.int .u32) (Ps.cons (Pt.int .i64) Ps.nil))) Os.nil (Pt.int .u32) Os.nil (fun p o => crc_Join k p.1 p.2.1 p.2.2.1) [.asis, .asis, .asis] [] 0 (fun _ => true)
theorem crc_Join_ok (k : Nat) : SpecOk Try.prog 37 (crc_Join_sp k) := mk_ok (k := k) (h := (.two .z (.two .z (.two (.two .z (.lp crc_Join_wrrlrl .z)) .z)))) (W := crc_Join_wr) G_ok (crc_Join_EOK k) Try.func37 (c := crc_Join_c) (by kernel_rfl) (by kernel_rfl) (by kernel_rfl) (by kernel_rfl) (by kernel_rfl) fun _ _ => rfl

noncomputable def ref01_Step_E (k : Nat) : Table := []
theorem ref01_Step_EOK (k : Nat) : TabOk Try.prog (ref01_Step_E k) := .nil
/-- plenum/plenumref01.Step -/
noncomputable def ref01_Step_c : Code := bodyOf Try.f28
noncomputable def ref01_Step_wrrlrl : Norm := { keep := [(0, .asis), (5, .asis)], objs := [], c := 0 }
noncomputable def ref01_Step_wrrlrllrllr : Norm := { keep := [(0, .asis), (5, .asis)], objs := [], c := 0 }
noncomputable def ref01_Step_wr : Norm := { keep := [(4, .asis)], objs := [], c := 0 }
noncomputable def ref01_Step (k : Nat) (a0 : Int) (a1 : Int) : Option (Int × Unit) := fnK G (ref01_Step_E k) k (.two .z (.two .z (.two (.two .z (.lp ref01_Step_wrrlrl (.two .z (.two (.two .z (.cd ref01_Step_wrrlrllrllr .z .z)) .z)))) .z))) ref01_Step_c 23 [.tmp 4] 0 ref01_Step_wr [] [.int .u32 a0, .int .u8 a1] [] (rd (Pt.int .u32) Os.nil)
noncomputable def ref01_Step_l0 (k n : Nat) (v24 : Int) (v25 : Int) : Option (Int × Unit) := iter (exec G (ref01_Step_E k) k (.two .z (.two (.two .z (.cd ref01_Step_wrrlrllrllr .z .z)) .z)) (lft (lft (rgt (lft (rgt (rgt ref01_Step_c))))))) ref01_Step_wrrlrl (blkK 0 (seqK (exec G (ref01_Step_E k) k .z (rgt (rgt (rgt ref01_Step_c)))) (retK G [.tmp 4] 0 ref01_Step_wr (rd (Pt.int .u32) Os.nil)))) n (mkS 23 0 [(0, (.int .u32 v24)), (5, (.int .i64 v25))] 0 [] [])
noncomputable def ref01_Step_j0 (k n : Nat) (v26 : Int) (v27 : Int) : Option (Int × Unit) := jmp k ((blkK 1 (seqK (exec G (ref01_Step_E k) k .z (rgt (rgt (lft (lft (rgt (lft (rgt (rgt ref01_Step_c))))))))) (backK (iter (exec G (ref01_Step_E k) k (.two .z (.two (.two .z (.cd ref01_Step_wrrlrllrllr .z .z)) .z)) (lft (lft (rgt (lft (rgt (rgt ref01_Step_c))))))) ref01_Step_wrrlrl (blkK 0 (seqK (exec G (ref01_Step_E k) k .z (rgt (rgt (rgt ref01_Step_c)))) (retK G [.tmp 4] 0 ref01_Step_wr (rd (Pt.int .u32) Os.nil)))) n) ref01_Step_wrrlrl (blkK 0 (seqK (exec G (ref01_Step_E k) k .z (rgt (rgt (rgt ref01_Step_c)))) (retK G [.tmp 4] 0 ref01_Step_wr (rd (Pt.int .u32) Os.nil))))))) .normal (mkS 23 0 [(0, (.int .u32 v26)), (5, (.int .i64 v27))] 0 [] []))
theorem ref01_Step_l0_zero (k : Nat) (v24 : Int) (v25 : Int) : ref01_Step_l0 k 0 v24 v25 = none := rfl
theorem ref01_Step_l0_eq (k n : Nat) (v24 : Int) (v25 : Int) : ref01_Step_l0 k (n + 1) v24 v25 = (bif (decide (v25 < 8)) then (bif (decide ((Int.tmod v24 2) = 1)) then ref01_Step_j0 k n (Go.bits .xor .u32 (wr .u32 (Int.tdiv v24 2)) 2197175160) v25 else ref01_Step_j0 k n (wr .u32 (Int.tdiv v24 2)) v25) else some (v24, ())) := by kernel_rfl
theorem ref01_Step_j0_eq (k n : Nat) (v26 : Int) (v27 : Int) : ref01_Step_j0 (k + 1) n v26 v27 = ref01_Step_l0 (k + 1) n v26 (wr .i64 (v27 + 1)) := by kernel_rfl
theorem ref01_Step_eq (k : Nat) (a0 : Int) (a1 : Int) : ref01_Step k a0 a1 = ref01_Step_l0 k k (Go.bits .xor .u32 a0 (wr .u32 a1)) (0 : Int) := by kernel_rfl
noncomputable def ref01_Step_sp (k : Nat) : Spec := mkSp (Ps.cons (Pt.int .u32) (Ps.cons (Pt.int .u8) Ps.nil)) Os.nil (Pt.int .u32) Os.nil (fun p o => ref01_Step k p.1 p.2.1) [.asis, .asis] [] 0 (fun _ => true)
theorem ref01_Step_ok (k : Nat) : SpecOk Try.prog 28 (ref01_Step_sp k) := mk_ok (k := k) (h := (.two .z (.two .z (.two (.two .z (.lp ref01_Step_wrrlrl (.two .z (.two (.two .z (.cd ref01_Step_wrrlrllrllr .z .z)) .z)))) .z)))) (W := ref01_Step_wr) G_ok (ref01_Step_EOK k) Try.func28 (c := ref01_Step_c) (by kernel_rfl) (by kernel_rfl) (by kernel_rfl) (by kernel_rfl) (by kernel_rfl) fun _ _ => rfl

noncomputable def ref01_Sum_E (k : Nat) : Table := [(28, ref01_Step_sp k)]
theorem ref01_Sum_EOK (k : Nat) : TabOk Try.prog (ref01_Sum_E k) := .cons (ref01_Step_ok k) <| .nil
/-- plenum/plenumref01.Sum -/
noncomputable def ref01_Sum_c : Code := bodyOf Try.f30
noncomputable def ref01_Sum_wrrlrl : Norm := { keep := [(3, .asis), (6, .sh), (7, .asis), (8, .asis)], objs := [], c := 0 }
noncomputable def ref01_Sum_wr : Norm := { keep := [(2, .asis)], objs := [], c := 0 }
noncomputable def ref01_Sum (k : Nat) (a0 : (List Int)) : Option (Int × Unit) := fnK G (ref01_Sum_E k) k (.two .z (.two .z (.two (.two .z (.lp ref01_Sum_wrrlrl .z)) .z))) ref01_Sum_c 18 [.tmp 2] 0 ref01_Sum_wr [] [.sl (.int .u8) .sh none a0] [] (rd (Pt.int .u32) Os.nil)
noncomputable def ref01_Sum_l0 (k n : Nat) (v19 : Int) (v20 : (List Int)) (v21 : Int) (v22 : Int) : Option (Int × Unit) := iter (exec G (ref01_Sum_E k) k .z (lft (lft (rgt (lft (rgt (rgt ref01_Sum_c))))))) ref01_Sum_wrrlrl (blkK 0 (seqK (exec G (ref01_Sum_E k) k .z (rgt (rgt (rgt ref01_Sum_c)))) (retK G [.tmp 2] 0 ref01_Sum_wr (rd (Pt.int .u32) Os.nil)))) n (mkS 18 0 [(3, (.int .u32 v19)), (6, (.sl (.int .u8) .sh none v20)), (7, (.int .i64 v21)), (8, (.int .i64 v22))] 0 [] [])
theorem ref01_Sum_l0_zero (k : Nat) (v19 : Int) (v20 : (List Int)) (v21 : Int) (v22 : Int) : ref01_Sum_l0 k 0 v19 v20 v21 v22 = none := rfl
theorem ref01_Sum_l0_eq (k n : Nat) (v19 : Int) (v20 : (List Int)) (v21 : Int) (v22 : Int) : ref01_Sum_l0 k (n + 1) v19 v20 v21 v22 = (bif (decide (v22 < v21)) then (nth v20 v22).bind fun x23 => (ref01_Step k v19 x23).bind fun r28 => ref01_Sum_l0 k n r28.1 v20 v21 (wr .i64 (v22 + 1)) else some ((wr .u32 (4294967295 - v19)), ())) := by kernel_rfl
theorem ref01_Sum_eq (k : Nat) (a0 : (List Int)) : ref01_Sum k a0 = ref01_Sum_l0 k k (4294967295 : Int) a0 (a0.length : Int) (0 : Int) := by kernel_rfl
noncomputable def ref01_Sum_sp (k : Nat) : Spec := mkSp (Ps.cons (Pt.sl (.int .u8)) Ps.nil) Os.nil (Pt.int .u32) Os.nil (fun p o => ref01_Sum k p.1) [.sh] [] 0 (fun _ => true)
theorem ref01_Sum_ok (k : Nat) : SpecOk Try.prog 30 (ref01_Sum_sp k) := mk_ok (k := k) (h := (.two .z (.two .z (.two (.two .z (.lp ref01_Sum_wrrlrl .z)) .z)))) (W := ref01_Sum_wr) G_ok (ref01_Sum_EOK k) Try.func30 (c := ref01_Sum_c) (by kernel_rfl) (by kernel_rfl) (by kernel_rfl) (by kernel_rfl) (by kernel_rfl) fun _ _ => rfl

noncomputable def law04_CrcJoins_E (k : Nat) : Table := [(37, crc_Join_sp k), (26, law04_awake_sp k), (30, ref01_Sum_sp k)]
theorem law04_CrcJoins_EOK (k : Nat) : TabOk Try.prog (law04_CrcJoins_E k) := .cons (crc_Join_ok k) <| .cons (law04_awake_ok k) <| .cons (ref01_Sum_ok k) <| .nil
/-- plenum/plenumlaw04.CrcJoins -/
noncomputable def law04_CrcJoins_c : Code := bodyOf Try.f9
noncomputable def law04_CrcJoins_wr : Norm := { keep := [(6, .asis)], objs := [], c := 0 }
noncomputable def law04_CrcJoins (k : Nat) (a0 : (List Int)) (a1 : (List Int)) (a2 : Int) : Option (Bool × Unit) := fnK G (law04_CrcJoins_E k) k .z law04_CrcJoins_c 41 [.tmp 6] 0 law04_CrcJoins_wr [] [.sl (.int .u8) .sh none a0, .sl (.int .u8) .sh none a1, .int .i64 a2] [] (rd Pt.bool Os.nil)
theorem law04_CrcJoins_eq (k : Nat) (a0 : (List Int)) (a1 : (List Int)) (a2 : Int) : law04_CrcJoins k a0 a1 a2 = (law04_awake k).bind fun r12 => (bif (!r12.1) then some (false, ()) else (bif (decide (300 < (a0.length : Int))) then some (true, ()) else (bif (decide (300 < (a1.length : Int))) then some (true, ()) else (bif (decide (a2 < 0)) then (crc_Join k (1 : Int) (2 : Int) a2).bind fun r18 => (bif (!decide (r18.1 = 0)) then some (false, ()) else (ref01_Sum k a0).bind fun r29 => (ref01_Sum k a1).bind fun r30 => (crc_Join k r29.1 r30.1 (a1.length : Int)).bind fun r31 => lim (0 + a0.length) (lim (([] ++ a0).length + a1.length) ((ref01_Sum k (([] ++ a0) ++ a1)).bind fun r32 => some ((decide (r31.1 = r32.1)), ())))) else (bif (decide (65536 < a2)) then (crc_Join k (1 : Int) (2 : Int) a2).bind fun r33 => (bif (!decide (r33.1 = 0)) then some (false, ()) else (ref01_Sum k a0).bind fun r34 => (ref01_Sum k a1).bind fun r35 => (crc_Join k r34.1 r35.1 (a1.length : Int)).bind fun r36 => lim (0 + a0.length) (lim (([] ++ a0).length + a1.length) ((ref01_Sum k (([] ++ a0) ++ a1)).bind fun r37 => some ((decide (r36.1 = r37.1)), ())))) else (ref01_Sum k a0).bind fun r38 => (ref01_Sum k a1).bind fun r39 => (crc_Join k r38.1 r39.1 (a1.length : Int)).bind fun r40 => lim (0 + a0.length) (lim (([] ++ a0).length + a1.length) ((ref01_Sum k (([] ++ a0) ++ a1)).bind fun r41 => some ((decide (r40.1 = r41.1)), ())))))))) := by kernel_rfl
noncomputable def law04_CrcJoins_sp (k : Nat) : Spec := mkSp (Ps.cons (Pt.sl (.int .u8)) (Ps.cons (Pt.sl (.int .u8)) (Ps.cons (Pt.int .i64) Ps.nil))) Os.nil Pt.bool Os.nil (fun p o => law04_CrcJoins k p.1 p.2.1 p.2.2.1) [.sh, .sh, .asis] [] 0 (fun _ => true)
theorem law04_CrcJoins_ok (k : Nat) : SpecOk Try.prog 9 (law04_CrcJoins_sp k) := mk_ok (k := k) (h := .z) (W := law04_CrcJoins_wr) G_ok (law04_CrcJoins_EOK k) Try.func9 (c := law04_CrcJoins_c) (by kernel_rfl) (by kernel_rfl) (by kernel_rfl) (by kernel_rfl) (by kernel_rfl) fun _ _ => rfl

end Go.Proofs.Ytnojkokhfmgcfaa.Den
