import Derived.Test.YtmngjegceoidhaaRows
import Derived.Test.YtmngjegceoidhaaDPExprSame
import Derived.WalkKit
import Derived.ProofKit
import Derived.OpenShut
import Derived.ShutString
import Derived.ChangeOld
import Derived.Below
import Derived.SizedLaws
import Derived.ChangeSlices
namespace Go.Proofs.Ytmngjegceoidhaa.Den
open Go Go.RowKit
def IsRow (k : IntKind) (w : World) (a : Option Addr) (len cap : Nat) (zs : List Int) : Prop :=
  (a = none ∧ len = 0 ∧ cap = 0 ∧ zs = []) ∨
  ∃ x, a = some x ∧ len ≤ cap ∧ cap ≤ maxLen ∧ zs.length = cap ∧ (∀ i, i < zs.length → w.cell? (x.add i) = some (.int k (zs.getD i 0))) ∧ ∀ n ∈ zs, (Lit.int k n).wf = true
theorem row_wf {k : IntKind} {w : World} {a : Option Addr} {len cap : Nat} {zs : List Int} (h : IsRow k w a len cap zs) : ∀ x ∈ zs.take len, (Lit.int k x).wf = true := by
  rcases h with ⟨_, _, _, rfl⟩ | ⟨_, _, _, _, _, _, h⟩
  · intro x hx; simp at hx
  · exact fun x hx => h x (List.mem_of_mem_take hx)
theorem row_nil {k : IntKind} {w : World} {a : Option Addr} {len cap : Nat} {zs : List Int} (h : IsRow k w a len cap zs) : a.isNone = true → zs.take len = [] := by
  rcases h with ⟨_, _, _, rfl⟩ | ⟨_, rfl, _⟩
  · intro _; simp
  · intro h; cases h
theorem run_eq (k : Nat) (x0 : ((.st (.pair (.int .i64) (.pair .str (.pair .str (.pair (.int .i64) (.pair (.st (.pair (.int .i64) (.pair (.int .i64) (.pair .str .unit)))) (.pair (.sl .ex) .unit))))))) : Ty).D) (x1 : ((.st (.pair (.int .i64) (.pair .str (.pair .str (.pair (.int .i64) (.pair (.st (.pair (.int .i64) (.pair (.int .i64) (.pair .str .unit)))) (.pair (.sl .ex) .unit))))))) : Ty).D) {ρ : Type} (K : TV → List Obj → Option ρ) : (law22_ExprSame_sp k).run [.st (.st (.pair (.int .i64) (.pair .str (.pair .str (.pair (.int .i64) (.pair (.st (.pair (.int .i64) (.pair (.int .i64) (.pair .str .unit)))) (.pair (.sl .ex) .unit))))))) x0, .st (.st (.pair (.int .i64) (.pair .str (.pair .str (.pair (.int .i64) (.pair (.st (.pair (.int .i64) (.pair (.int .i64) (.pair .str .unit)))) (.pair (.sl .ex) .unit))))))) x1] [] K = (law22_ExprSame k x0 x1).bind fun r => K (.bool r.1) [] := by kernel_rfl
theorem the_law {W : World} {cs0 : Array Value} (l0 : ((.st (.pair (.int .i64) (.pair .str (.pair .str (.pair (.int .i64) (.pair (.st (.pair (.int .i64) (.pair (.int .i64) (.pair .str .unit)))) (.pair (.sl .ex) .unit))))))) : Ty).D) {cs1 : Array Value} (l1 : ((.st (.pair (.int .i64) (.pair .str (.pair .str (.pair (.int .i64) (.pair (.st (.pair (.int .i64) (.pair (.int .i64) (.pair .str .unit)))) (.pair (.sl .ex) .unit))))))) : Ty).D) (w0 : rv (snap W) id (.st (.st (.pair (.int .i64) (.pair .str (.pair .str (.pair (.int .i64) (.pair (.st (.pair (.int .i64) (.pair (.int .i64) (.pair .str .unit)))) (.pair (.sl .ex) .unit))))))) l0) (.agg cs0)) (f0 : wfD (.st (.pair (.int .i64) (.pair .str (.pair .str (.pair (.int .i64) (.pair (.st (.pair (.int .i64) (.pair (.int .i64) (.pair .str .unit)))) (.pair (.sl .ex) .unit))))))) l0) (w1 : rv (snap W) id (.st (.st (.pair (.int .i64) (.pair .str (.pair .str (.pair (.int .i64) (.pair (.st (.pair (.int .i64) (.pair (.int .i64) (.pair .str .unit)))) (.pair (.sl .ex) .unit))))))) l1) (.agg cs1)) (f1 : wfD (.st (.pair (.int .i64) (.pair .str (.pair .str (.pair (.int .i64) (.pair (.st (.pair (.int .i64) (.pair (.int .i64) (.pair .str .unit)))) (.pair (.sl .ex) .unit))))))) l1) :
    Calls Try.prog 10 #[.agg cs0, .agg cs1] W fun e W' => e = .returned (.bool true) ∧ Below W.heap.size W W' := by
  obtain ⟨K, hK⟩ := ExprSame_true l0 l1 f0 f1
  have hr : (law22_ExprSame_sp K).run [.st (.st (.pair (.int .i64) (.pair .str (.pair .str (.pair (.int .i64) (.pair (.st (.pair (.int .i64) (.pair (.int .i64) (.pair .str .unit)))) (.pair (.sl .ex) .unit))))))) l0, .st (.st (.pair (.int .i64) (.pair .str (.pair .str (.pair (.int .i64) (.pair (.st (.pair (.int .i64) (.pair (.int .i64) (.pair .str .unit)))) (.pair (.sl .ex) .unit))))))) l1] [] (fun v S => some (v, S)) = some (.bool true, []) := by
    refine (run_eq _ l0 l1 _).trans ?_
    exact congrArg (fun o : Option (Bool × Unit) => o.bind fun r => some (TV.bool r.1, ([] : List Obj))) hK
  exact law_calls (V := [.agg cs0, .agg cs1]) (law22_ExprSame_ok K) Try.func10 (c := bodyOf Try.f10) (by kernel_rfl) (by kernel_rfl) (by kernel_rfl) rv_true hr ⟨_, _, rfl, w0, ⟨_, _, rfl, w1, rfl⟩⟩ ⟨trivial, trivial, trivial⟩ ⟨trivial, trivial, trivial⟩
end Go.Proofs.Ytmngjegceoidhaa.Den
/- The law ExprSame, by the reading of its code. Its form is the print's. -/
namespace Go.Proofs.Ytmngjegceoidhaa.exprSame
open Go.ChangeShapes Go.WideShapes Go.ChangeAt Go.RowKit Den
open Go.ChangeMaps (open_string shut_string)
set_option linter.unusedVariables false
theorem own : ownKnob Try.prog.godebug = none := by kernel_rfl
theorem laidOut : laidOutB Try.prog = true := by kernel_rfl
set_option maxRecDepth 100000 in
theorem lifted (os : Os) (started : os.Started) (H : Type) (enc : TypeId × Value → H) :
    ReturnsInHanded {} Try.checked os 10 .any (Rows.exprSameSpec.pre6 enc Try.prog Try.f10 Rows.exprSameRow.domain false) (Rows.exprSameSpec.post enc Try.prog Try.f10 false true false false) := by
  refine returnsInHanded_of_change_sized (C := Try.checked) own started (by kernel_rfl) Try.func10
    (ChangeSpec.witness6 (enc := enc) (C := Try.checked) false ⟨#[], #[.agg #[.int .i64 0, .string "".toUTF8, .string "".toUTF8, .int .i64 0, .int .i64 0, .int .i64 0, .string "".toUTF8, .slice none 0 0], .agg #[.int .i64 0, .string "".toUTF8, .string "".toUTF8, .int .i64 0, .int .i64 0, .int .i64 0, .string "".toUTF8, .slice none 0 0]], []⟩ 8 (by kernel_rfl) (by kernel_rfl) (by kernel_rfl) (by kernel_rfl)) ?_
  intro W base args ds gs before hval0 hW hcnd hsz0 _
  have hsz : (DataW.weightsEach Try.prog (Try.f10.params.toList ++ Rows.exprSameSpec.plain.varTypes Try.prog) (ds ++ gs)).all (· ≤ reachBytes) = true := hsz0
  have hval : ∀ (j : Nat) t v, Try.f10.params[j]? = some t → args[j]? = some v → Value.okWide Try.prog W .any base t v := hval0
  have hW' := hW
  obtain ⟨p, q, hA0, hV, rfl, hfz, hnd⟩ := hW
  have hA : DataW.TrodAll enc Try.prog W 0 (fun _ => true) true Try.f10.params.toList args.toList ds p := hA0
  rw [Try.params10] at hA hval hsz
  obtain ⟨v0, vs0, d0, ds0, p0, q0, hargs, rfl, rfl, h0, r0⟩ := trodAll_cons hA
  obtain ⟨v1, vs1, d1, ds1, p1, q1, rfl, rfl, rfl, h1, r1⟩ := trodAll_cons r0
  obtain ⟨rfl, rfl, rfl⟩ := trodAll_nil r1
  obtain rfl : args = #[v0, v1] := by cases args; simp_all
  obtain ⟨rfl, rfl⟩ := trodVars_none hV
  obtain ⟨cs0, rfl, _⟩ := okWide_struct Try.underlying61 (hval 0 61 v0 rfl rfl)
  have k0 := h0
  have lt0 : ∀ x ∈ p0, x.block < W.heap.size := by obtain ⟨m, hm⟩ := k0; exact DataW.trod_lt m _ _ _ hm
  obtain ⟨l0, w0, f0⟩ := Den.open_st (b := (.pair (.int .i64) (.pair .str (.pair .str (.pair (.int .i64) (.pair (.st (.pair (.int .i64) (.pair (.int .i64) (.pair .str .unit)))) (.pair (.sl .ex) .unit))))))) (by kernel_rfl) rfl rfl h0
  obtain ⟨cs1, rfl, _⟩ := okWide_struct Try.underlying61 (hval 1 61 v1 rfl rfl)
  have k1 := h1
  have lt1 : ∀ x ∈ p1, x.block < W.heap.size := by obtain ⟨m, hm⟩ := k1; exact DataW.trod_lt m _ _ _ hm
  obtain ⟨l1, w1, f1⟩ := Den.open_st (b := (.pair (.int .i64) (.pair .str (.pair .str (.pair (.int .i64) (.pair (.st (.pair (.int .i64) (.pair (.int .i64) (.pair .str .unit)))) (.pair (.sl .ex) .unit))))))) (by kernel_rfl) rfl rfl h1
  clear hA0 hval0 hsz0 hsz
  refine (Den.the_law (W := W) l0 l1 w0 f0 w1 f1).mono fun e W' ⟨he, bel⟩ => ?_
  subst he
  exact ⟨_, rfl, _, _, _, [], _, [], hW', trodAll_mk1 (shut_bool Try.underlying4 _), (trodAll_cons_mk (Below.trod laidOut (by kernel_rfl) (of_decide_eq_true (by kernel_rfl)) k0 bel lt0) (trodAll_cons_mk (Below.trod laidOut (by kernel_rfl) (of_decide_eq_true (by kernel_rfl)) k1 bel lt1) trodAll_mk0)), rfl, bel.frame _, fun h => by cases h⟩
theorem over : Rows.exprSameRow.holds Try.pinned (OpenSpec.ofChange Rows.exprSameSpec) :=
  OpenClaim.holds_of_wide 10 Try.f10 rfl rfl rfl rfl rfl rfl rfl ⟨rfl, rfl, rfl, rfl, rfl⟩ rfl rfl rfl rfl rfl (by kernel_rfl) Try.func10 (by kernel_rfl)
    (of_decide_eq_true (by kernel_rfl)) (by unfold Func.isWrapper; first | (rw [if_pos (by decide +kernel)]; kernel_rfl) | (rw [if_neg (by decide +kernel)]; exact ⟨rfl, rfl⟩))
    (fun os started H enc _ => lifted os started H enc)
theorem proved : Rows.ExprSameSaid := over
#print axioms proved
end Go.Proofs.Ytmngjegceoidhaa.exprSame
namespace Go.Proofs.Ytmngjegceoidhaa
/-- The row, under a short name, for the claim. -/
theorem exprSame_holds : Rows.ExprSameSaid := exprSame.proved
end Go.Proofs.Ytmngjegceoidhaa
