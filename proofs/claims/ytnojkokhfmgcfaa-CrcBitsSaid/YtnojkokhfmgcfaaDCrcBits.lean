import Derived.Test.YtnojkokhfmgcfaaDen30
import Derived.Test.YtnojkokhfmgcfaaProg
import Derived.KernelRfl
namespace Go.Proofs.Ytnojkokhfmgcfaa.Den
open Go
set_option maxRecDepth 100000
noncomputable def G : Env := tabEnv [(3, (.int .i64)), (4, .bool), (5, (.int .u8)), (27, (.int .u32)), (28, (.sl (.int .u8))), (34, (.int .u64))] [] [] []
theorem G_ok : EnvOk Try.prog G := env_ok (by kernel_rfl)
noncomputable def crc_turn_E (k : Nat) : Table := []
theorem crc_turn_EOK (k : Nat) : TabOk Try.prog (crc_turn_E k) := .nil
/-- plenum/crc.turn -/
noncomputable def crc_turn_c : Code := bodyOf Try.f61
noncomputable def crc_turn_wrlrl : Norm := { keep := [(0, .asis), (4, .asis)], objs := [], c := 0 }
noncomputable def crc_turn_wr : Norm := { keep := [(2, .asis)], objs := [], c := 0 }
noncomputable def crc_turn (k : Nat) (a0 : Int) : Option (Int × Unit) := fnK G (crc_turn_E k) k (.two .z (.two (.two .z (.lp crc_turn_wrlrl .z)) .z)) crc_turn_c 17 [.tmp 2] 0 crc_turn_wr [] [.int .u32 a0] [] (rd (Pt.int .u32) Os.nil)
noncomputable def crc_turn_l0 (k n : Nat) (v6 : Int) (v7 : Int) : Option (Int × Unit) := iter (exec G (crc_turn_E k) k .z (lft (lft (rgt (lft (rgt crc_turn_c)))))) crc_turn_wrlrl (blkK 0 (seqK (exec G (crc_turn_E k) k .z (rgt (rgt crc_turn_c))) (retK G [.tmp 2] 0 crc_turn_wr (rd (Pt.int .u32) Os.nil)))) n (mkS 17 0 [(0, (.int .u32 v6)), (4, (.int .i64 v7))] 0 [] [])
theorem crc_turn_l0_zero (k : Nat) (v6 : Int) (v7 : Int) : crc_turn_l0 k 0 v6 v7 = none := rfl
theorem crc_turn_l0_eq (k n : Nat) (v6 : Int) (v7 : Int) : crc_turn_l0 k (n + 1) v6 v7 = (bif (decide (v7 < 8)) then crc_turn_l0 k n (Go.bits .xor .u32 (v6 / 2) (Go.bits .and .u32 2197175160 (wr .u32 (0 - (Go.bits .and .u32 v6 1))))) (wr .i64 (v7 + 1)) else some (v6, ())) := by kernel_rfl
theorem crc_turn_eq (k : Nat) (a0 : Int) : crc_turn k a0 = crc_turn_l0 k k a0 (0 : Int) := by kernel_rfl
noncomputable def crc_turn_sp (k : Nat) : Spec := mkSp (Ps.cons (Pt.int .u32) Ps.nil) Os.nil (Pt.int .u32) Os.nil (fun p o => crc_turn k p.1) [.asis] [] 0 (fun _ => true)
theorem crc_turn_ok (k : Nat) : SpecOk Try.prog 61 (crc_turn_sp k) := mk_ok (k := k) (h := (.two .z (.two (.two .z (.lp crc_turn_wrlrl .z)) .z))) (W := crc_turn_wr) G_ok (crc_turn_EOK k) Try.func61 (c := crc_turn_c) (by kernel_rfl) (by kernel_rfl) (by kernel_rfl) (by kernel_rfl) (by kernel_rfl) fun _ _ => rfl

noncomputable def crc_Step_E (k : Nat) : Table := [(61, crc_turn_sp k)]
theorem crc_Step_EOK (k : Nat) : TabOk Try.prog (crc_Step_E k) := .cons (crc_turn_ok k) <| .nil
/-- plenum/crc.Step -/
noncomputable def crc_Step_c : Code := bodyOf Try.f27
noncomputable def crc_Step_wr : Norm := { keep := [(4, .asis)], objs := [], c := 0 }
noncomputable def crc_Step (k : Nat) (a0 : Int) (a1 : Int) : Option (Int × Unit) := fnK G (crc_Step_E k) k .z crc_Step_c 10 [.tmp 4] 0 crc_Step_wr [] [.int .u32 a0, .int .u8 a1] [] (rd (Pt.int .u32) Os.nil)
theorem crc_Step_eq (k : Nat) (a0 : Int) (a1 : Int) : crc_Step k a0 a1 = (crc_turn k (Go.bits .xor .u32 a0 (wr .u32 a1))).bind fun r8 => some (r8.1, ()) := by kernel_rfl
noncomputable def crc_Step_sp (k : Nat) : Spec := mkSp (Ps.cons (Pt.int .u32) (Ps.cons (Pt.int .u8) Ps.nil)) Os.nil (Pt.int .u32) Os.nil (fun p o => crc_Step k p.1 p.2.1) [.asis, .asis] [] 0 (fun _ => true)
theorem crc_Step_ok (k : Nat) : SpecOk Try.prog 27 (crc_Step_sp k) := mk_ok (k := k) (h := .z) (W := crc_Step_wr) G_ok (crc_Step_EOK k) Try.func27 (c := crc_Step_c) (by kernel_rfl) (by kernel_rfl) (by kernel_rfl) (by kernel_rfl) (by kernel_rfl) fun _ _ => rfl

noncomputable def crc_More_E (k : Nat) : Table := [(27, crc_Step_sp k)]
theorem crc_More_EOK (k : Nat) : TabOk Try.prog (crc_More_E k) := .cons (crc_Step_ok k) <| .nil
/-- plenum/crc.More -/
noncomputable def crc_More_c : Code := bodyOf Try.f31
noncomputable def crc_More_wrlrl : Norm := { keep := [(0, .asis), (7, .sh), (8, .asis), (9, .asis)], objs := [], c := 0 }
noncomputable def crc_More_wr : Norm := { keep := [(4, .asis)], objs := [], c := 0 }
noncomputable def crc_More (k : Nat) (a0 : Int) (a1 : (List Int)) : Option (Int × Unit) := fnK G (crc_More_E k) k (.two .z (.two (.two .z (.lp crc_More_wrlrl .z)) .z)) crc_More_c 18 [.tmp 4] 0 crc_More_wr [] [.int .u32 a0, .sl (.int .u8) .sh none a1] [] (rd (Pt.int .u32) Os.nil)
noncomputable def crc_More_l0 (k n : Nat) (v1 : Int) (v2 : (List Int)) (v3 : Int) (v4 : Int) : Option (Int × Unit) := iter (exec G (crc_More_E k) k .z (lft (lft (rgt (lft (rgt crc_More_c)))))) crc_More_wrlrl (blkK 0 (seqK (exec G (crc_More_E k) k .z (rgt (rgt crc_More_c))) (retK G [.tmp 4] 0 crc_More_wr (rd (Pt.int .u32) Os.nil)))) n (mkS 18 0 [(0, (.int .u32 v1)), (7, (.sl (.int .u8) .sh none v2)), (8, (.int .i64 v3)), (9, (.int .i64 v4))] 0 [] [])
theorem crc_More_l0_zero (k : Nat) (v1 : Int) (v2 : (List Int)) (v3 : Int) (v4 : Int) : crc_More_l0 k 0 v1 v2 v3 v4 = none := rfl
theorem crc_More_l0_eq (k n : Nat) (v1 : Int) (v2 : (List Int)) (v3 : Int) (v4 : Int) : crc_More_l0 k (n + 1) v1 v2 v3 v4 = (bif (decide (v4 < v3)) then (nth v2 v4).bind fun x5 => (crc_Step k v1 x5).bind fun r9 => crc_More_l0 k n r9.1 v2 v3 (wr .i64 (v4 + 1)) else some (v1, ())) := by kernel_rfl
theorem crc_More_eq (k : Nat) (a0 : Int) (a1 : (List Int)) : crc_More k a0 a1 = crc_More_l0 k k a0 a1 (a1.length : Int) (0 : Int) := by kernel_rfl
noncomputable def crc_More_sp (k : Nat) : Spec := mkSp (Ps.cons (Pt.int .u32) (Ps.cons (Pt.sl (.int .u8)) Ps.nil)) Os.nil (Pt.int .u32) Os.nil (fun p o => crc_More k p.1 p.2.1) [.asis, .sh] [] 0 (fun _ => true)
theorem crc_More_ok (k : Nat) : SpecOk Try.prog 31 (crc_More_sp k) := mk_ok (k := k) (h := (.two .z (.two (.two .z (.lp crc_More_wrlrl .z)) .z))) (W := crc_More_wr) G_ok (crc_More_EOK k) Try.func31 (c := crc_More_c) (by kernel_rfl) (by kernel_rfl) (by kernel_rfl) (by kernel_rfl) (by kernel_rfl) fun _ _ => rfl

noncomputable def crc_Sum_E (k : Nat) : Table := [(31, crc_More_sp k)]
theorem crc_Sum_EOK (k : Nat) : TabOk Try.prog (crc_Sum_E k) := .cons (crc_More_ok k) <| .nil
/-- plenum/crc.Sum -/
noncomputable def crc_Sum_c : Code := bodyOf Try.f29
noncomputable def crc_Sum_wr : Norm := { keep := [(2, .asis)], objs := [], c := 0 }
noncomputable def crc_Sum (k : Nat) (a0 : (List Int)) : Option (Int × Unit) := fnK G (crc_Sum_E k) k .z crc_Sum_c 6 [.tmp 2] 0 crc_Sum_wr [] [.sl (.int .u8) .sh none a0] [] (rd (Pt.int .u32) Os.nil)
theorem crc_Sum_eq (k : Nat) (a0 : (List Int)) : crc_Sum k a0 = (crc_More k (4294967295 : Int) a0).bind fun r10 => some ((Go.bits .xor .u32 4294967295 r10.1), ()) := by kernel_rfl
noncomputable def crc_Sum_sp (k : Nat) : Spec := mkSp (Ps.cons (Pt.sl (.int .u8)) Ps.nil) Os.nil (Pt.int .u32) Os.nil (fun p o => crc_Sum k p.1) [.sh] [] 0 (fun _ => true)
theorem crc_Sum_ok (k : Nat) : SpecOk Try.prog 29 (crc_Sum_sp k) := mk_ok (k := k) (h := .z) (W := crc_Sum_wr) G_ok (crc_Sum_EOK k) Try.func29 (c := crc_Sum_c) (by kernel_rfl) (by kernel_rfl) (by kernel_rfl) (by kernel_rfl) (by kernel_rfl) fun _ _ => rfl

noncomputable def law04_awake_E (k : Nat) : Table := [(29, crc_Sum_sp k)]
theorem law04_awake_EOK (k : Nat) : TabOk Try.prog (law04_awake_E k) := .cons (crc_Sum_ok k) <| .nil
noncomputable def law04_awake_G : Env := rowEnv G [(1, 1)]
/-- plenum/plenumlaw04.awake -/
noncomputable def law04_awake_c : Code := bodyOf Try.f26
noncomputable def law04_awake_wr : Norm := { keep := [(0, .asis)], objs := [], c := 0 }
noncomputable def law04_awake (k : Nat)  : Option (Bool × Unit) := fnK law04_awake_G (law04_awake_E k) k .z law04_awake_c 5 [.tmp 0] 0 law04_awake_wr [] [] [] (rd Pt.bool Os.nil)
theorem law04_awake_eq (k : Nat)  : law04_awake k  = (crc_Sum k [(49 : Int), (50 : Int), (51 : Int), (52 : Int), (53 : Int), (54 : Int), (55 : Int), (56 : Int), (57 : Int)]).bind fun r11 => some ((decide (r11.1 = 3808858755)), ()) := by kernel_rfl
noncomputable def law04_awake_sp (k : Nat) : Spec := mkSp Ps.nil Os.nil Pt.bool Os.nil (fun p o => law04_awake k ) [] [] 0 (fun _ => true)
theorem law04_awake_ok (k : Nat) : SpecOk Try.prog 26 (law04_awake_sp k) := mk_ok (k := k) (h := .z) (W := law04_awake_wr) (G_ok.rows _) (law04_awake_EOK k) Try.func26 (c := law04_awake_c) (by kernel_rfl) (by kernel_rfl) (by kernel_rfl) (by kernel_rfl) (by kernel_rfl) fun _ _ => rfl

noncomputable def law04_CrcBits_E (k : Nat) : Table := [(29, crc_Sum_sp k), (26, law04_awake_sp k)]
theorem law04_CrcBits_EOK (k : Nat) : TabOk Try.prog (law04_CrcBits_E k) := .cons (crc_Sum_ok k) <| .cons (law04_awake_ok k) <| .nil
noncomputable def law04_CrcBits_G : Env := rowEnv G [(23, 1)]
/-- plenum/plenumlaw04.CrcBits -/
noncomputable def law04_CrcBits_c : Code := bodyOf Try.f6
noncomputable def law04_CrcBits_wr : Norm := { keep := [(4, .asis)], objs := [], c := 0 }
noncomputable def law04_CrcBits (k : Nat) (a0 : (List Int)) (a1 : Int) : Option (Bool × Unit) := fnK law04_CrcBits_G (law04_CrcBits_E k) k .z law04_CrcBits_c 40 [.tmp 4] 0 law04_CrcBits_wr [] [.sl (.int .u8) .sh none a0, .int .i64 a1] [] (rd Pt.bool Os.nil)
theorem law04_CrcBits_eq (k : Nat) (a0 : (List Int)) (a1 : Int) : law04_CrcBits k a0 a1 = (law04_awake k).bind fun r12 => (bif (!r12.1) then some (false, ()) else (bif (decide (300 < (a0.length : Int))) then some (true, ()) else (bif (decide (a1 < 0)) then some (true, ()) else (bif (decide ((wr .i64 (8 * (a0.length : Int))) ≤ a1)) then some (true, ()) else lim a0.length (must (inI (wr .i64 (Int.tdiv a1 8)) a0.length) ((a0[(wr .i64 (Int.tdiv a1 8)).toNat]?).bind fun x13 => (shlK .u8 1 (wr .u64 (Int.tmod a1 8))).bind fun x14 => must (inI (wr .i64 (Int.tdiv a1 8)) a0.length) (must (Nat.blt (wr .i64 (Int.tdiv a1 8)).toNat a0.length) ((crc_Sum k (a0.set (wr .i64 (Int.tdiv a1 8)).toNat (Go.bits .xor .u8 x13 x14))).bind fun r15 => (crc_Sum k a0).bind fun r16 => some ((!decide (r15.1 = r16.1)), ()))))))))) := by kernel_rfl
noncomputable def law04_CrcBits_sp (k : Nat) : Spec := mkSp (Ps.cons (Pt.sl (.int .u8)) (Ps.cons (Pt.int .i64) Ps.nil)) Os.nil Pt.bool Os.nil (fun p o => law04_CrcBits k p.1 p.2.1) [.sh, .asis] [] 0 (fun _ => true)
theorem law04_CrcBits_ok (k : Nat) : SpecOk Try.prog 6 (law04_CrcBits_sp k) := mk_ok (k := k) (h := .z) (W := law04_CrcBits_wr) (G_ok.rows _) (law04_CrcBits_EOK k) Try.func6 (c := law04_CrcBits_c) (by kernel_rfl) (by kernel_rfl) (by kernel_rfl) (by kernel_rfl) (by kernel_rfl) fun _ _ => rfl

end Go.Proofs.Ytnojkokhfmgcfaa.Den
