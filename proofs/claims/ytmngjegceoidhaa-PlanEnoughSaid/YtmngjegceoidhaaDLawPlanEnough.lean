import Derived.Test.YtmngjegceoidhaaRows
import Derived.Test.YtmngjegceoidhaaDPPlanEnough
import Derived.WalkKit
import Derived.ProofKit
import Derived.OpenShut
import Derived.ShutString
import Derived.ChangeOld
import Derived.Below
import Derived.SizedLaws
import Derived.ChangeSlices
namespace Go.Proofs.Ytmngjegceoidhaa.Den
open Go Go.RowKit
def IsRow (k : IntKind) (w : World) (a : Option Addr) (len cap : Nat) (zs : List Int) : Prop :=
  (a = none ∧ len = 0 ∧ cap = 0 ∧ zs = []) ∨
  ∃ x, a = some x ∧ len ≤ cap ∧ cap ≤ maxLen ∧ zs.length = cap ∧ (∀ i, i < zs.length → w.cell? (x.add i) = some (.int k (zs.getD i 0))) ∧ ∀ n ∈ zs, (Lit.int k n).wf = true
theorem row_wf {k : IntKind} {w : World} {a : Option Addr} {len cap : Nat} {zs : List Int} (h : IsRow k w a len cap zs) : ∀ x ∈ zs.take len, (Lit.int k x).wf = true := by
  rcases h with ⟨_, _, _, rfl⟩ | ⟨_, _, _, _, _, _, h⟩
  · intro x hx; simp at hx
  · exact fun x hx => h x (List.mem_of_mem_take hx)
theorem row_nil {k : IntKind} {w : World} {a : Option Addr} {len cap : Nat} {zs : List Int} (h : IsRow k w a len cap zs) : a.isNone = true → zs.take len = [] := by
  rcases h with ⟨_, _, _, rfl⟩ | ⟨_, rfl, _⟩
  · intro _; simp
  · intro h; cases h
theorem run_eq (k : Nat) (x0 : ((.st (.pair (.int .i64) (.pair .str (.pair (.sl (.st (.pair .str (.pair (.int .i64) (.pair .bool .unit))))) (.pair (.int .i64) (.pair (.sl (.int .i64)) .unit)))))) : Ty).D) (x1 : List (.ex : Ty).D) (x2 : List ((.st (.pair (.int .i64) (.pair (.int .i64) (.pair .str .unit)))) : Ty).D) {ρ : Type} (K : TV → List Obj → Option ρ) : (law23_PlanEnough_sp k).run [.st (.st (.pair (.int .i64) (.pair .str (.pair (.sl (.st (.pair .str (.pair (.int .i64) (.pair .bool .unit))))) (.pair (.int .i64) (.pair (.sl (.int .i64)) .unit)))))) x0, .sl .ex .sh none x1, .sl (.st (.pair (.int .i64) (.pair (.int .i64) (.pair .str .unit)))) .sh none x2] [] K = (law23_PlanEnough k x0 x1 x2).bind fun r => K (.bool r.1) [] := by kernel_rfl
theorem the_law {W : World} {cs0 : Array Value} (l0 : ((.st (.pair (.int .i64) (.pair .str (.pair (.sl (.st (.pair .str (.pair (.int .i64) (.pair .bool .unit))))) (.pair (.int .i64) (.pair (.sl (.int .i64)) .unit)))))) : Ty).D) {a1 : Option Addr} {len1 cap1 : Nat} (l1 : List (.ex : Ty).D) {a2 : Option Addr} {len2 cap2 : Nat} (l2 : List ((.st (.pair (.int .i64) (.pair (.int .i64) (.pair .str .unit)))) : Ty).D) (w0 : rv (snap W) id (.st (.st (.pair (.int .i64) (.pair .str (.pair (.sl (.st (.pair .str (.pair (.int .i64) (.pair .bool .unit))))) (.pair (.int .i64) (.pair (.sl (.int .i64)) .unit)))))) l0) (.agg cs0)) (f0 : wfD (.st (.pair (.int .i64) (.pair .str (.pair (.sl (.st (.pair .str (.pair (.int .i64) (.pair .bool .unit))))) (.pair (.int .i64) (.pair (.sl (.int .i64)) .unit)))))) l0) (w1 : rv (snap W) id (.sl .ex .sh none l1) (.slice a1 len1 cap1)) (f1 : wfD (.sl .ex) l1) (z1 : szD (.sl .ex) l1) (w2 : rv (snap W) id (.sl (.st (.pair (.int .i64) (.pair (.int .i64) (.pair .str .unit)))) .sh none l2) (.slice a2 len2 cap2)) (f2 : wfD (.sl (.st (.pair (.int .i64) (.pair (.int .i64) (.pair .str .unit))))) l2) :
    Calls Try.prog 14 #[.agg cs0, .slice a1 len1 cap1, .slice a2 len2 cap2] W fun e W' => e = .returned (.bool true) ∧ Below W.heap.size W W' := by
  obtain ⟨K, hK⟩ := PlanEnough_true l0 l1 l2 f0 f1 f2 z1
  have hr : (law23_PlanEnough_sp K).run [.st (.st (.pair (.int .i64) (.pair .str (.pair (.sl (.st (.pair .str (.pair (.int .i64) (.pair .bool .unit))))) (.pair (.int .i64) (.pair (.sl (.int .i64)) .unit)))))) l0, .sl .ex .sh none l1, .sl (.st (.pair (.int .i64) (.pair (.int .i64) (.pair .str .unit)))) .sh none l2] [] (fun v S => some (v, S)) = some (.bool true, []) := by
    refine (run_eq _ l0 l1 l2 _).trans ?_
    exact congrArg (fun o : Option (Bool × Unit) => o.bind fun r => some (TV.bool r.1, ([] : List Obj))) hK
  exact law_calls (V := [.agg cs0, .slice a1 len1 cap1, .slice a2 len2 cap2]) (law23_PlanEnough_ok K) Try.func14 (c := bodyOf Try.f14) (by kernel_rfl) (by kernel_rfl) (by kernel_rfl) rv_true hr ⟨_, _, rfl, w0, ⟨_, _, rfl, w1, ⟨_, _, rfl, w2, rfl⟩⟩⟩ ⟨trivial, trivial, trivial, trivial⟩ ⟨trivial, trivial, trivial, trivial⟩
end Go.Proofs.Ytmngjegceoidhaa.Den
/- The law PlanEnough, by the reading of its code. Its form is the print's. -/
namespace Go.Proofs.Ytmngjegceoidhaa.planEnough
open Go.ChangeShapes Go.WideShapes Go.ChangeAt Go.RowKit Den
open Go.ChangeMaps (open_string shut_string)
set_option linter.unusedVariables false
theorem own : ownKnob Try.prog.godebug = none := by kernel_rfl
theorem u8b : ∀ e, Try.prog.underlying e = some (.int .u8) → 1 ≤ Try.prog.bytesOf e := u8_bytes (by kernel_rfl)
theorem laidOut : laidOutB Try.prog = true := by kernel_rfl
set_option maxRecDepth 100000 in
theorem lifted (os : Os) (started : os.Started) (H : Type) (enc : TypeId × Value → H) :
    ReturnsInHanded {} Try.checked os 14 .any (Rows.planEnoughSpec.pre6 enc Try.prog Try.f14 Rows.planEnoughRow.domain false) (Rows.planEnoughSpec.post enc Try.prog Try.f14 false true false false) := by
  refine returnsInHanded_of_change_sized (C := Try.checked) own started (by kernel_rfl) Try.func14
    (ChangeSpec.witness6 (enc := enc) (C := Try.checked) false ⟨#[], #[.agg #[.int .i64 0, .string "".toUTF8, .slice none 0 0, .int .i64 0, .slice none 0 0], .slice none 0 0, .slice none 0 0], []⟩ 8 (by kernel_rfl) (by kernel_rfl) (by kernel_rfl) (by kernel_rfl)) ?_
  intro W base args ds gs before hval0 hW hcnd hsz0 _
  have hsz : (DataW.weightsEach Try.prog (Try.f14.params.toList ++ Rows.planEnoughSpec.plain.varTypes Try.prog) (ds ++ gs)).all (· ≤ reachBytes) = true := hsz0
  have hval : ∀ (j : Nat) t v, Try.f14.params[j]? = some t → args[j]? = some v → Value.okWide Try.prog W .any base t v := hval0
  have hW' := hW
  obtain ⟨p, q, hA0, hV, rfl, hfz, hnd⟩ := hW
  have hA : DataW.TrodAll enc Try.prog W 0 (fun _ => true) true Try.f14.params.toList args.toList ds p := hA0
  rw [Try.params14] at hA hval hsz
  obtain ⟨v0, vs0, d0, ds0, p0, q0, hargs, rfl, rfl, h0, r0⟩ := trodAll_cons hA
  obtain ⟨v1, vs1, d1, ds1, p1, q1, rfl, rfl, rfl, h1, r1⟩ := trodAll_cons r0
  obtain ⟨v2, vs2, d2, ds2, p2, q2, rfl, rfl, rfl, h2, r2⟩ := trodAll_cons r1
  obtain ⟨rfl, rfl, rfl⟩ := trodAll_nil r2
  obtain rfl : args = #[v0, v1, v2] := by cases args; simp_all
  obtain ⟨rfl, rfl⟩ := trodVars_none hV
  obtain ⟨cs0, rfl, _⟩ := okWide_struct Try.underlying25 (hval 0 25 v0 rfl rfl)
  have k0 := h0
  have lt0 : ∀ x ∈ p0, x.block < W.heap.size := by obtain ⟨m, hm⟩ := k0; exact DataW.trod_lt m _ _ _ hm
  obtain ⟨l0, w0, f0⟩ := Den.open_st (b := (.pair (.int .i64) (.pair .str (.pair (.sl (.st (.pair .str (.pair (.int .i64) (.pair .bool .unit))))) (.pair (.int .i64) (.pair (.sl (.int .i64)) .unit)))))) (by kernel_rfl) rfl rfl h0
  obtain ⟨a1, len1, cap1, rfl⟩ := okWide_slice Try.underlying59 (hval 1 59 v1 rfl rfl)
  have k1 := h1
  have lt1 : ∀ x ∈ p1, x.block < W.heap.size := by obtain ⟨m, hm⟩ := k1; exact DataW.trod_lt m _ _ _ hm
  obtain ⟨l1, w1, f1, z1⟩ := Den.open_sl_sz u8b (t := .ex) (by kernel_rfl) rfl rfl h1 (fun n hn => by have := List.all_eq_true.1 hsz n (DataW.weights_mem_each (j := 1) rfl rfl n hn); simpa using this)
  obtain ⟨a2, len2, cap2, rfl⟩ := okWide_slice Try.underlying26 (hval 2 26 v2 rfl rfl)
  have k2 := h2
  have lt2 : ∀ x ∈ p2, x.block < W.heap.size := by obtain ⟨m, hm⟩ := k2; exact DataW.trod_lt m _ _ _ hm
  obtain ⟨l2, w2, f2⟩ := Den.open_sl (t := (.st (.pair (.int .i64) (.pair (.int .i64) (.pair .str .unit))))) (by kernel_rfl) rfl rfl h2
  clear hA0 hval0 hsz0 hsz
  refine (Den.the_law (W := W) l0 l1 l2 w0 f0 w1 f1 z1 w2 f2).mono fun e W' ⟨he, bel⟩ => ?_
  subst he
  exact ⟨_, rfl, _, _, _, [], _, [], hW', trodAll_mk1 (shut_bool Try.underlying4 _), (trodAll_cons_mk (Below.trod laidOut (by kernel_rfl) (of_decide_eq_true (by kernel_rfl)) k0 bel lt0) (trodAll_cons_mk (Below.trod laidOut (by kernel_rfl) (of_decide_eq_true (by kernel_rfl)) k1 bel lt1) (trodAll_cons_mk (Below.trod laidOut (by kernel_rfl) (of_decide_eq_true (by kernel_rfl)) k2 bel lt2) trodAll_mk0))), rfl, bel.frame _, fun h => by cases h⟩
theorem over : Rows.planEnoughRow.holds Try.pinned (OpenSpec.ofChange Rows.planEnoughSpec) :=
  OpenClaim.holds_of_wide 14 Try.f14 rfl rfl rfl rfl rfl rfl rfl ⟨rfl, rfl, rfl, rfl, rfl⟩ rfl rfl rfl rfl rfl (by kernel_rfl) Try.func14 (by kernel_rfl)
    (of_decide_eq_true (by kernel_rfl)) (by unfold Func.isWrapper; first | (rw [if_pos (by decide +kernel)]; kernel_rfl) | (rw [if_neg (by decide +kernel)]; exact ⟨rfl, rfl⟩))
    (fun os started H enc _ => lifted os started H enc)
theorem proved : Rows.PlanEnoughSaid := over
#print axioms proved
end Go.Proofs.Ytmngjegceoidhaa.planEnough
namespace Go.Proofs.Ytmngjegceoidhaa
/-- The row, under a short name, for the claim. -/
theorem planEnough_holds : Rows.PlanEnoughSaid := planEnough.proved
end Go.Proofs.Ytmngjegceoidhaa
