import Derived.Test.YtmngjegceoidhaaRows
import Derived.Test.YtmngjegceoidhaaDPExprNulls
import Derived.WalkKit
import Derived.ProofKit
import Derived.OpenShut
import Derived.ShutString
import Derived.ChangeOld
import Derived.Below
import Derived.SizedLaws
import Derived.ChangeSlices
namespace Go.Proofs.Ytmngjegceoidhaa.Den
open Go Go.RowKit
def IsRow (k : IntKind) (w : World) (a : Option Addr) (len cap : Nat) (zs : List Int) : Prop :=
  (a = none ∧ len = 0 ∧ cap = 0 ∧ zs = []) ∨
  ∃ x, a = some x ∧ len ≤ cap ∧ cap ≤ maxLen ∧ zs.length = cap ∧ (∀ i, i < zs.length → w.cell? (x.add i) = some (.int k (zs.getD i 0))) ∧ ∀ n ∈ zs, (Lit.int k n).wf = true
theorem row_wf {k : IntKind} {w : World} {a : Option Addr} {len cap : Nat} {zs : List Int} (h : IsRow k w a len cap zs) : ∀ x ∈ zs.take len, (Lit.int k x).wf = true := by
  rcases h with ⟨_, _, _, rfl⟩ | ⟨_, _, _, _, _, _, h⟩
  · intro x hx; simp at hx
  · exact fun x hx => h x (List.mem_of_mem_take hx)
theorem row_nil {k : IntKind} {w : World} {a : Option Addr} {len cap : Nat} {zs : List Int} (h : IsRow k w a len cap zs) : a.isNone = true → zs.take len = [] := by
  rcases h with ⟨_, _, _, rfl⟩ | ⟨_, rfl, _⟩
  · intro _; simp
  · intro h; cases h
theorem run_eq (k : Nat) (x0 : Int) (x1 : ((.st (.pair (.int .i64) (.pair (.int .i64) (.pair .str .unit)))) : Ty).D) (x2 : Bool) {ρ : Type} (K : TV → List Obj → Option ρ) : (law22_ExprNulls_sp k).run [.int .i64 x0, .st (.st (.pair (.int .i64) (.pair (.int .i64) (.pair .str .unit)))) x1, .bool x2] [] K = (law22_ExprNulls k x0 x1 x2).bind fun r => K (.bool r.1) [] := by kernel_rfl
theorem the_law {W : World} (a0 : Int) {cs1 : Array Value} (l1 : ((.st (.pair (.int .i64) (.pair (.int .i64) (.pair .str .unit)))) : Ty).D) (a2 : Bool) (w0 : (Lit.int .i64 a0).wf = true) (w1 : rv (snap W) id (.st (.st (.pair (.int .i64) (.pair (.int .i64) (.pair .str .unit)))) l1) (.agg cs1)) (f1 : wfD (.st (.pair (.int .i64) (.pair (.int .i64) (.pair .str .unit)))) l1) :
    Calls Try.prog 8 #[.int .i64 a0, .agg cs1, .bool a2] W fun e W' => e = .returned (.bool true) ∧ Below W.heap.size W W' := by
  obtain ⟨K, hK⟩ := ExprNulls_true a0 l1 a2 w0 f1
  have hr : (law22_ExprNulls_sp K).run [.int .i64 a0, .st (.st (.pair (.int .i64) (.pair (.int .i64) (.pair .str .unit)))) l1, .bool a2] [] (fun v S => some (v, S)) = some (.bool true, []) := by
    refine (run_eq _ a0 l1 a2 _).trans ?_
    exact congrArg (fun o : Option (Bool × Unit) => o.bind fun r => some (TV.bool r.1, ([] : List Obj))) hK
  exact law_calls (V := [.int .i64 a0, .agg cs1, .bool a2]) (law22_ExprNulls_ok K) Try.func8 (c := bodyOf Try.f8) (by kernel_rfl) (by kernel_rfl) (by kernel_rfl) rv_true hr ⟨_, _, rfl, rv_int w0, ⟨_, _, rfl, w1, ⟨_, _, rfl, rv_bool _, rfl⟩⟩⟩ ⟨trivial, trivial, trivial, trivial⟩ ⟨trivial, trivial, trivial, trivial⟩
end Go.Proofs.Ytmngjegceoidhaa.Den
/- The law ExprNulls, by the reading of its code. Its form is the print's. -/
namespace Go.Proofs.Ytmngjegceoidhaa.exprNulls
open Go.ChangeShapes Go.WideShapes Go.ChangeAt Go.RowKit Den
open Go.ChangeMaps (open_string shut_string)
set_option linter.unusedVariables false
theorem own : ownKnob Try.prog.godebug = none := by kernel_rfl
theorem laidOut : laidOutB Try.prog = true := by kernel_rfl
set_option maxRecDepth 100000 in
theorem lifted (os : Os) (started : os.Started) (H : Type) (enc : TypeId × Value → H) :
    ReturnsInHanded {} Try.checked os 8 .any (Rows.exprNullsSpec.pre6 enc Try.prog Try.f8 Rows.exprNullsRow.domain false) (Rows.exprNullsSpec.post enc Try.prog Try.f8 false true false false) := by
  refine returnsInHanded_of_change_sized (C := Try.checked) own started (by kernel_rfl) Try.func8
    (ChangeSpec.witness6 (enc := enc) (C := Try.checked) false ⟨#[], #[.int .i64 0, .agg #[.int .i64 0, .int .i64 0, .string "".toUTF8], .bool false], []⟩ 8 (by kernel_rfl) (by kernel_rfl) (by kernel_rfl) (by kernel_rfl)) ?_
  intro W base args ds gs before hval0 hW hcnd hsz0 _
  have hsz : (DataW.weightsEach Try.prog (Try.f8.params.toList ++ Rows.exprNullsSpec.plain.varTypes Try.prog) (ds ++ gs)).all (· ≤ reachBytes) = true := hsz0
  have hval : ∀ (j : Nat) t v, Try.f8.params[j]? = some t → args[j]? = some v → Value.okWide Try.prog W .any base t v := hval0
  have hW' := hW
  obtain ⟨p, q, hA0, hV, rfl, hfz, hnd⟩ := hW
  have hA : DataW.TrodAll enc Try.prog W 0 (fun _ => true) true Try.f8.params.toList args.toList ds p := hA0
  rw [Try.params8] at hA hval hsz
  obtain ⟨v0, vs0, d0, ds0, p0, q0, hargs, rfl, rfl, h0, r0⟩ := trodAll_cons hA
  obtain ⟨v1, vs1, d1, ds1, p1, q1, rfl, rfl, rfl, h1, r1⟩ := trodAll_cons r0
  obtain ⟨v2, vs2, d2, ds2, p2, q2, rfl, rfl, rfl, h2, r2⟩ := trodAll_cons r1
  obtain ⟨rfl, rfl, rfl⟩ := trodAll_nil r2
  obtain rfl : args = #[v0, v1, v2] := by cases args; simp_all
  obtain ⟨rfl, rfl⟩ := trodVars_none hV
  obtain ⟨a0, rfl, rfl, rfl, w0⟩ := open_int Try.underlying3 (hval 0 3 v0 rfl rfl) h0
  obtain ⟨cs1, rfl, _⟩ := okWide_struct Try.underlying38 (hval 1 38 v1 rfl rfl)
  have k1 := h1
  have lt1 : ∀ x ∈ p1, x.block < W.heap.size := by obtain ⟨m, hm⟩ := k1; exact DataW.trod_lt m _ _ _ hm
  obtain ⟨l1, w1, f1⟩ := Den.open_st (b := (.pair (.int .i64) (.pair (.int .i64) (.pair .str .unit)))) (by kernel_rfl) rfl rfl h1
  obtain ⟨a2, rfl, rfl, rfl⟩ := open_bool Try.underlying4 (hval 2 4 v2 rfl rfl) h2
  clear hA0 hval0 hsz0 hsz
  refine (Den.the_law (W := W) a0 l1 a2 w0 w1 f1 ).mono fun e W' ⟨he, bel⟩ => ?_
  subst he
  exact ⟨_, rfl, _, _, _, [], _, [], hW', trodAll_mk1 (shut_bool Try.underlying4 _), (trodAll_cons_mk (shut_int Try.underlying3 w0) (trodAll_cons_mk (Below.trod laidOut (by kernel_rfl) (of_decide_eq_true (by kernel_rfl)) k1 bel lt1) (trodAll_cons_mk (shut_bool Try.underlying4 _) trodAll_mk0))), rfl, bel.frame _, fun h => by cases h⟩
theorem over : Rows.exprNullsRow.holds Try.pinned (OpenSpec.ofChange Rows.exprNullsSpec) :=
  OpenClaim.holds_of_wide 8 Try.f8 rfl rfl rfl rfl rfl rfl rfl ⟨rfl, rfl, rfl, rfl, rfl⟩ rfl rfl rfl rfl rfl (by kernel_rfl) Try.func8 (by kernel_rfl)
    (of_decide_eq_true (by kernel_rfl)) (by unfold Func.isWrapper; first | (rw [if_pos (by decide +kernel)]; kernel_rfl) | (rw [if_neg (by decide +kernel)]; exact ⟨rfl, rfl⟩))
    (fun os started H enc _ => lifted os started H enc)
theorem proved : Rows.ExprNullsSaid := over
#print axioms proved
end Go.Proofs.Ytmngjegceoidhaa.exprNulls
namespace Go.Proofs.Ytmngjegceoidhaa
/-- The row, under a short name, for the claim. -/
theorem exprNulls_holds : Rows.ExprNullsSaid := exprNulls.proved
end Go.Proofs.Ytmngjegceoidhaa
