import Derived.Test.YtnojkokhfmgcfaaDen30
import Derived.Test.YtnojkokhfmgcfaaProg
import Derived.KernelRfl
namespace Go.Proofs.Ytnojkokhfmgcfaa.Den
open Go
set_option maxRecDepth 100000
noncomputable def G : Env := tabEnv [(3, (.int .i64)), (4, .bool), (5, (.int .u8)), (27, (.int .u32)), (28, (.sl (.int .u8))), (34, (.int .u64))] [] [] []
theorem G_ok : EnvOk Try.prog G := env_ok (by kernel_rfl)
noncomputable def crc_turn_E (k : Nat) : Table := []
theorem crc_turn_EOK (k : Nat) : TabOk Try.prog (crc_turn_E k) := .nil
/-- plenum/crc.turn -/
noncomputable def crc_turn_c : Code := bodyOf Try.f61
noncomputable def crc_turn_wrlrl : Norm := { keep := [(0, .asis), (4, .asis)], objs := [], c := 0 }
noncomputable def crc_turn_wr : Norm := { keep := [(2, .asis)], objs := [], c := 0 }
noncomputable def crc_turn (k : Nat) (a0 : Int) : Option (Int × Unit) := fnK G (crc_turn_E k) k (.two .z (.two (.two .z (.lp crc_turn_wrlrl .z)) .z)) crc_turn_c 17 [.tmp 2] 0 crc_turn_wr [] [.int .u32 a0] [] (rd (Pt.int .u32) Os.nil)
noncomputable def crc_turn_l0 (k n : Nat) (v6 : Int) (v7 : Int) : Option (Int × Unit) := iter (exec G (crc_turn_E k) k .z (lft (lft (rgt (lft (rgt crc_turn_c)))))) crc_turn_wrlrl (blkK 0 (seqK (exec G (crc_turn_E k) k .z (rgt (rgt crc_turn_c))) (retK G [.tmp 2] 0 crc_turn_wr (rd (Pt.int .u32) Os.nil)))) n (mkS 17 0 [(0, (.int .u32 v6)), (4, (.int .i64 v7))] 0 [] [])
theorem crc_turn_l0_zero (k : Nat) (v6 : Int) (v7 : Int) : crc_turn_l0 k 0 v6 v7 = none := rfl
theorem crc_turn_l0_eq (k n : Nat) (v6 : Int) (v7 : Int) : crc_turn_l0 k (n + 1) v6 v7 = (bif (decide (v7 < 8)) then crc_turn_l0 k n (Go.bits .xor .u32 (v6 / 2) (Go.bits .and .u32 2197175160 (wr .u32 (0 - (Go.bits .and .u32 v6 1))))) (wr .i64 (v7 + 1)) else some (v6, ())) := by kernel_rfl
theorem crc_turn_eq (k : Nat) (a0 : Int) : crc_turn k a0 = crc_turn_l0 k k a0 (0 : Int) := by kernel_rfl
noncomputable def crc_turn_sp (k : Nat) : Spec := mkSp (Ps.cons (Pt.int .u32) Ps.nil) Os.nil (Pt.int .u32) Os.nil (fun p o => crc_turn k p.1) [.asis] [] 0 (fun _ => true)
theorem crc_turn_ok (k : Nat) : SpecOk Try.prog 61 (crc_turn_sp k) := mk_ok (k := k) (h := (.two .z (.two (.two .z (.lp crc_turn_wrlrl .z)) .z))) (W := crc_turn_wr) G_ok (crc_turn_EOK k) Try.func61 (c := crc_turn_c) (by kernel_rfl) (by kernel_rfl) (by kernel_rfl) (by kernel_rfl) (by kernel_rfl) fun _ _ => rfl

noncomputable def crc_Step_E (k : Nat) : Table := [(61, crc_turn_sp k)]
theorem crc_Step_EOK (k : Nat) : TabOk Try.prog (crc_Step_E k) := .cons (crc_turn_ok k) <| .nil
/-- plenum/crc.Step -/
noncomputable def crc_Step_c : Code := bodyOf Try.f27
noncomputable def crc_Step_wr : Norm := { keep := [(4, .asis)], objs := [], c := 0 }
noncomputable def crc_Step (k : Nat) (a0 : Int) (a1 : Int) : Option (Int × Unit) := fnK G (crc_Step_E k) k .z crc_Step_c 10 [.tmp 4] 0 crc_Step_wr [] [.int .u32 a0, .int .u8 a1] [] (rd (Pt.int .u32) Os.nil)
theorem crc_Step_eq (k : Nat) (a0 : Int) (a1 : Int) : crc_Step k a0 a1 = (crc_turn k (Go.bits .xor .u32 a0 (wr .u32 a1))).bind fun r8 => some (r8.1, ()) := by kernel_rfl
noncomputable def crc_Step_sp (k : Nat) : Spec := mkSp (Ps.cons (Pt.int .u32) (Ps.cons (Pt.int .u8) Ps.nil)) Os.nil (Pt.int .u32) Os.nil (fun p o => crc_Step k p.1 p.2.1) [.asis, .asis] [] 0 (fun _ => true)
theorem crc_Step_ok (k : Nat) : SpecOk Try.prog 27 (crc_Step_sp k) := mk_ok (k := k) (h := .z) (W := crc_Step_wr) G_ok (crc_Step_EOK k) Try.func27 (c := crc_Step_c) (by kernel_rfl) (by kernel_rfl) (by kernel_rfl) (by kernel_rfl) (by kernel_rfl) fun _ _ => rfl

noncomputable def crc_More_E (k : Nat) : Table := [(27, crc_Step_sp k)]
theorem crc_More_EOK (k : Nat) : TabOk Try.prog (crc_More_E k) := .cons (crc_Step_ok k) <| .nil
/-- plenum/crc.More -/
noncomputable def crc_More_c : Code := bodyOf Try.f31
noncomputable def crc_More_wrlrl : Norm := { keep := [(0, .asis), (7, .sh), (8, .asis), (9, .asis)], objs := [], c := 0 }
noncomputable def crc_More_wr : Norm := { keep := [(4, .asis)], objs := [], c := 0 }
noncomputable def crc_More (k : Nat) (a0 : Int) (a1 : (List Int)) : Option (Int × Unit) := fnK G (crc_More_E k) k (.two .z (.two (.two .z (.lp crc_More_wrlrl .z)) .z)) crc_More_c 18 [.tmp 4] 0 crc_More_wr [] [.int .u32 a0, .sl (.int .u8) .sh none a1] [] (rd (Pt.int .u32) Os.nil)
noncomputable def crc_More_l0 (k n : Nat) (v1 : Int) (v2 : (List Int)) (v3 : Int) (v4 : Int) : Option (Int × Unit) := iter (exec G (crc_More_E k) k .z (lft (lft (rgt (lft (rgt crc_More_c)))))) crc_More_wrlrl (blkK 0 (seqK (exec G (crc_More_E k) k .z (rgt (rgt crc_More_c))) (retK G [.tmp 4] 0 crc_More_wr (rd (Pt.int .u32) Os.nil)))) n (mkS 18 0 [(0, (.int .u32 v1)), (7, (.sl (.int .u8) .sh none v2)), (8, (.int .i64 v3)), (9, (.int .i64 v4))] 0 [] [])
theorem crc_More_l0_zero (k : Nat) (v1 : Int) (v2 : (List Int)) (v3 : Int) (v4 : Int) : crc_More_l0 k 0 v1 v2 v3 v4 = none := rfl
theorem crc_More_l0_eq (k n : Nat) (v1 : Int) (v2 : (List Int)) (v3 : Int) (v4 : Int) : crc_More_l0 k (n + 1) v1 v2 v3 v4 = (bif (decide (v4 < v3)) then (nth v2 v4).bind fun x5 => (crc_Step k v1 x5).bind fun r9 => crc_More_l0 k n r9.1 v2 v3 (wr .i64 (v4 + 1)) else some (v1, ())) := by kernel_rfl
theorem crc_More_eq (k : Nat) (a0 : Int) (a1 : (List Int)) : crc_More k a0 a1 = crc_More_l0 k k a0 a1 (a1.length : Int) (0 : Int) := by kernel_rfl
noncomputable def crc_More_sp (k : Nat) : Spec := mkSp (Ps.cons (Pt.int .u32) (Ps.cons (Pt.sl (.int .u8)) Ps.nil)) Os.nil (Pt.int .u32) Os.nil (fun p o => crc_More k p.1 p.2.1) [.asis, .sh] [] 0 (fun _ => true)
theorem crc_More_ok (k : Nat) : SpecOk Try.prog 31 (crc_More_sp k) := mk_ok (k := k) (h := (.two .z (.two (.two .z (.lp crc_More_wrlrl .z)) .z))) (W := crc_More_wr) G_ok (crc_More_EOK k) Try.func31 (c := crc_More_c) (by kernel_rfl) (by kernel_rfl) (by kernel_rfl) (by kernel_rfl) (by kernel_rfl) fun _ _ => rfl

noncomputable def crc_Sum_E (k : Nat) : Table := [(31, crc_More_sp k)]
theorem crc_Sum_EOK (k : Nat) : TabOk Try.prog (crc_Sum_E k) := .cons (crc_More_ok k) <| .nil
/-- plenum/crc.Sum -/
noncomputable def crc_Sum_c : Code := bodyOf Try.f29
noncomputable def crc_Sum_wr : Norm := { keep := [(2, .asis)], objs := [], c := 0 }
noncomputable def crc_Sum (k : Nat) (a0 : (List Int)) : Option (Int × Unit) := fnK G (crc_Sum_E k) k .z crc_Sum_c 6 [.tmp 2] 0 crc_Sum_wr [] [.sl (.int .u8) .sh none a0] [] (rd (Pt.int .u32) Os.nil)
theorem crc_Sum_eq (k : Nat) (a0 : (List Int)) : crc_Sum k a0 = (crc_More k (4294967295 : Int) a0).bind fun r10 => some ((Go.bits .xor .u32 4294967295 r10.1), ()) := by kernel_rfl
noncomputable def crc_Sum_sp (k : Nat) : Spec := mkSp (Ps.cons (Pt.sl (.int .u8)) Ps.nil) Os.nil (Pt.int .u32) Os.nil (fun p o => crc_Sum k p.1) [.sh] [] 0 (fun _ => true)
theorem crc_Sum_ok (k : Nat) : SpecOk Try.prog 29 (crc_Sum_sp k) := mk_ok (k := k) (h := .z) (W := crc_Sum_wr) G_ok (crc_Sum_EOK k) Try.func29 (c := crc_Sum_c) (by kernel_rfl) (by kernel_rfl) (by kernel_rfl) (by kernel_rfl) (by kernel_rfl) fun _ _ => rfl

noncomputable def law04_awake_E (k : Nat) : Table := [(29, crc_Sum_sp k)]
theorem law04_awake_EOK (k : Nat) : TabOk Try.prog (law04_awake_E k) := .cons (crc_Sum_ok k) <| .nil
noncomputable def law04_awake_G : Env := rowEnv G [(1, 1)]
/-- plenum/plenumlaw04.awake -/
noncomputable def law04_awake_c : Code := bodyOf Try.f26
noncomputable def law04_awake_wr : Norm := { keep := [(0, .asis)], objs := [], c := 0 }
noncomputable def law04_awake (k : Nat)  : Option (Bool × Unit) := fnK law04_awake_G (law04_awake_E k) k .z law04_awake_c 5 [.tmp 0] 0 law04_awake_wr [] [] [] (rd Pt.bool Os.nil)
theorem law04_awake_eq (k : Nat)  : law04_awake k  = (crc_Sum k [(49 : Int), (50 : Int), (51 : Int), (52 : Int), (53 : Int), (54 : Int), (55 : Int), (56 : Int), (57 : Int)]).bind fun r11 => some ((decide (r11.1 = 3808858755)), ()) := by kernel_rfl
noncomputable def law04_awake_sp (k : Nat) : Spec := mkSp Ps.nil Os.nil Pt.bool Os.nil (fun p o => law04_awake k ) [] [] 0 (fun _ => true)
theorem law04_awake_ok (k : Nat) : SpecOk Try.prog 26 (law04_awake_sp k) := mk_ok (k := k) (h := .z) (W := law04_awake_wr) (G_ok.rows _) (law04_awake_EOK k) Try.func26 (c := law04_awake_c) (by kernel_rfl) (by kernel_rfl) (by kernel_rfl) (by kernel_rfl) (by kernel_rfl) fun _ _ => rfl

noncomputable def ref01_Step_E (k : Nat) : Table := []
theorem ref01_Step_EOK (k : Nat) : TabOk Try.prog (ref01_Step_E k) := .nil
/-- plenum/plenumref01.Step -/
noncomputable def ref01_Step_c : Code := bodyOf Try.f28
noncomputable def ref01_Step_wrrlrl : Norm := { keep := [(0, .asis), (5, .asis)], objs := [], c := 0 }
noncomputable def ref01_Step_wrrlrllrllr : Norm := { keep := [(0, .asis), (5, .asis)], objs := [], c := 0 }
noncomputable def ref01_Step_wr : Norm := { keep := [(4, .asis)], objs := [], c := 0 }
noncomputable def ref01_Step (k : Nat) (a0 : Int) (a1 : Int) : Option (Int × Unit) := fnK G (ref01_Step_E k) k (.two .z (.two .z (.two (.two .z (.lp ref01_Step_wrrlrl (.two .z (.two (.two .z (.cd ref01_Step_wrrlrllrllr .z .z)) .z)))) .z))) ref01_Step_c 23 [.tmp 4] 0 ref01_Step_wr [] [.int .u32 a0, .int .u8 a1] [] (rd (Pt.int .u32) Os.nil)
noncomputable def ref01_Step_l0 (k n : Nat) (v21 : Int) (v22 : Int) : Option (Int × Unit) := iter (exec G (ref01_Step_E k) k (.two .z (.two (.two .z (.cd ref01_Step_wrrlrllrllr .z .z)) .z)) (lft (lft (rgt (lft (rgt (rgt ref01_Step_c))))))) ref01_Step_wrrlrl (blkK 0 (seqK (exec G (ref01_Step_E k) k .z (rgt (rgt (rgt ref01_Step_c)))) (retK G [.tmp 4] 0 ref01_Step_wr (rd (Pt.int .u32) Os.nil)))) n (mkS 23 0 [(0, (.int .u32 v21)), (5, (.int .i64 v22))] 0 [] [])
noncomputable def ref01_Step_j0 (k n : Nat) (v23 : Int) (v24 : Int) : Option (Int × Unit) := jmp k ((blkK 1 (seqK (exec G (ref01_Step_E k) k .z (rgt (rgt (lft (lft (rgt (lft (rgt (rgt ref01_Step_c))))))))) (backK (iter (exec G (ref01_Step_E k) k (.two .z (.two (.two .z (.cd ref01_Step_wrrlrllrllr .z .z)) .z)) (lft (lft (rgt (lft (rgt (rgt ref01_Step_c))))))) ref01_Step_wrrlrl (blkK 0 (seqK (exec G (ref01_Step_E k) k .z (rgt (rgt (rgt ref01_Step_c)))) (retK G [.tmp 4] 0 ref01_Step_wr (rd (Pt.int .u32) Os.nil)))) n) ref01_Step_wrrlrl (blkK 0 (seqK (exec G (ref01_Step_E k) k .z (rgt (rgt (rgt ref01_Step_c)))) (retK G [.tmp 4] 0 ref01_Step_wr (rd (Pt.int .u32) Os.nil))))))) .normal (mkS 23 0 [(0, (.int .u32 v23)), (5, (.int .i64 v24))] 0 [] []))
theorem ref01_Step_l0_zero (k : Nat) (v21 : Int) (v22 : Int) : ref01_Step_l0 k 0 v21 v22 = none := rfl
theorem ref01_Step_l0_eq (k n : Nat) (v21 : Int) (v22 : Int) : ref01_Step_l0 k (n + 1) v21 v22 = (bif (decide (v22 < 8)) then (bif (decide ((Int.tmod v21 2) = 1)) then ref01_Step_j0 k n (Go.bits .xor .u32 (wr .u32 (Int.tdiv v21 2)) 2197175160) v22 else ref01_Step_j0 k n (wr .u32 (Int.tdiv v21 2)) v22) else some (v21, ())) := by kernel_rfl
theorem ref01_Step_j0_eq (k n : Nat) (v23 : Int) (v24 : Int) : ref01_Step_j0 (k + 1) n v23 v24 = ref01_Step_l0 (k + 1) n v23 (wr .i64 (v24 + 1)) := by kernel_rfl
theorem ref01_Step_eq (k : Nat) (a0 : Int) (a1 : Int) : ref01_Step k a0 a1 = ref01_Step_l0 k k (Go.bits .xor .u32 a0 (wr .u32 a1)) (0 : Int) := by kernel_rfl
noncomputable def ref01_Step_sp (k : Nat) : Spec := mkSp (Ps.cons (Pt.int .u32) (Ps.cons (Pt.int .u8) Ps.nil)) Os.nil (Pt.int .u32) Os.nil (fun p o => ref01_Step k p.1 p.2.1) [.asis, .asis] [] 0 (fun _ => true)
theorem ref01_Step_ok (k : Nat) : SpecOk Try.prog 28 (ref01_Step_sp k) := mk_ok (k := k) (h := (.two .z (.two .z (.two (.two .z (.lp ref01_Step_wrrlrl (.two .z (.two (.two .z (.cd ref01_Step_wrrlrllrllr .z .z)) .z)))) .z)))) (W := ref01_Step_wr) G_ok (ref01_Step_EOK k) Try.func28 (c := ref01_Step_c) (by kernel_rfl) (by kernel_rfl) (by kernel_rfl) (by kernel_rfl) (by kernel_rfl) fun _ _ => rfl

noncomputable def law04_CrcPieces_E (k : Nat) : Table := [(31, crc_More_sp k), (26, law04_awake_sp k), (28, ref01_Step_sp k)]
theorem law04_CrcPieces_EOK (k : Nat) : TabOk Try.prog (law04_CrcPieces_E k) := .cons (crc_More_ok k) <| .cons (law04_awake_ok k) <| .cons (ref01_Step_ok k) <| .nil
/-- plenum/plenumlaw04.CrcPieces -/
noncomputable def law04_CrcPieces_c : Code := bodyOf Try.f5
noncomputable def law04_CrcPieces_wrrrrlrl : Norm := { keep := [(0, .asis), (1, .sh), (2, .sh), (7, .asis), (21, .sh), (22, .asis), (23, .asis)], objs := [], c := 0 }
noncomputable def law04_CrcPieces_wr : Norm := { keep := [(6, .asis)], objs := [], c := 0 }
noncomputable def law04_CrcPieces (k : Nat) (a0 : Int) (a1 : (List Int)) (a2 : (List Int)) : Option (Bool × Unit) := fnK G (law04_CrcPieces_E k) k (.two .z (.two .z (.two .z (.two .z (.two (.two .z (.lp law04_CrcPieces_wrrrrlrl .z)) .z))))) law04_CrcPieces_c 50 [.tmp 6] 0 law04_CrcPieces_wr [] [.int .u32 a0, .sl (.int .u8) .sh none a1, .sl (.int .u8) .sh none a2] [] (rd Pt.bool Os.nil)
noncomputable def law04_CrcPieces_l0 (k n : Nat) (v13 : Int) (v14 : (List Int)) (v15 : (List Int)) (v16 : Int) (v17 : (List Int)) (v18 : Int) (v19 : Int) : Option (Bool × Unit) := iter (exec G (law04_CrcPieces_E k) k .z (lft (lft (rgt (lft (rgt (rgt (rgt (rgt law04_CrcPieces_c))))))))) law04_CrcPieces_wrrrrlrl (blkK 0 (seqK (exec G (law04_CrcPieces_E k) k .z (rgt (rgt (rgt (rgt (rgt law04_CrcPieces_c)))))) (retK G [.tmp 6] 0 law04_CrcPieces_wr (rd Pt.bool Os.nil)))) n (mkS 50 0 [(0, (.int .u32 v13)), (1, (.sl (.int .u8) .sh none v14)), (2, (.sl (.int .u8) .sh none v15)), (7, (.int .u32 v16)), (21, (.sl (.int .u8) .sh none v17)), (22, (.int .i64 v18)), (23, (.int .i64 v19))] 0 [] [])
theorem law04_CrcPieces_l0_zero (k : Nat) (v13 : Int) (v14 : (List Int)) (v15 : (List Int)) (v16 : Int) (v17 : (List Int)) (v18 : Int) (v19 : Int) : law04_CrcPieces_l0 k 0 v13 v14 v15 v16 v17 v18 v19 = none := rfl
theorem law04_CrcPieces_l0_eq (k n : Nat) (v13 : Int) (v14 : (List Int)) (v15 : (List Int)) (v16 : Int) (v17 : (List Int)) (v18 : Int) (v19 : Int) : law04_CrcPieces_l0 k (n + 1) v13 v14 v15 v16 v17 v18 v19 = (bif (decide (v19 < v18)) then (nth v17 v19).bind fun x20 => (ref01_Step k v16 x20).bind fun r25 => law04_CrcPieces_l0 k n v13 v14 v15 r25.1 v17 v18 (wr .i64 (v19 + 1)) else (crc_More k v13 v14).bind fun r26 => (bif (decide (r26.1 = v16)) then (crc_More k v13 v14).bind fun r27 => (crc_More k r27.1 v15).bind fun r28 => lim (0 + v14.length) (lim (([] ++ v14).length + v15.length) ((crc_More k v13 (([] ++ v14) ++ v15)).bind fun r29 => some ((decide (r28.1 = r29.1)), ()))) else some (false, ()))) := by kernel_rfl
theorem law04_CrcPieces_eq (k : Nat) (a0 : Int) (a1 : (List Int)) (a2 : (List Int)) : law04_CrcPieces k a0 a1 a2 = (law04_awake k).bind fun r12 => (bif (!r12.1) then some (false, ()) else (bif (decide (300 < (a1.length : Int))) then some (true, ()) else (bif (decide (300 < (a2.length : Int))) then some (true, ()) else law04_CrcPieces_l0 k k a0 a1 a2 a0 a1 (a1.length : Int) (0 : Int)))) := by kernel_rfl
noncomputable def law04_CrcPieces_sp (k : Nat) : Spec := mkSp (Ps.cons (Pt.int .u32) (Ps.cons (Pt.sl (.int .u8)) (Ps.cons (Pt.sl (.int .u8)) Ps.nil))) Os.nil Pt.bool Os.nil (fun p o => law04_CrcPieces k p.1 p.2.1 p.2.2.1) [.asis, .sh, .sh] [] 0 (fun _ => true)
theorem law04_CrcPieces_ok (k : Nat) : SpecOk Try.prog 5 (law04_CrcPieces_sp k) := mk_ok (k := k) (h := (.two .z (.two .z (.two .z (.two .z (.two (.two .z (.lp law04_CrcPieces_wrrrrlrl .z)) .z)))))) (W := law04_CrcPieces_wr) G_ok (law04_CrcPieces_EOK k) Try.func5 (c := law04_CrcPieces_c) (by kernel_rfl) (by kernel_rfl) (by kernel_rfl) (by kernel_rfl) (by kernel_rfl) fun _ _ => rfl

end Go.Proofs.Ytnojkokhfmgcfaa.Den
