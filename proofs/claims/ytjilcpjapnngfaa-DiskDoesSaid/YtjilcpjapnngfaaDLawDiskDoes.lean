import Derived.Test.YtjilcpjapnngfaaRows
import Derived.Test.YtjilcpjapnngfaaDPDiskDoes
import Derived.WalkKit
import Derived.ProofKit
import Derived.OpenShut
import Derived.ShutString
import Derived.ChangeOld
import Derived.Below
import Derived.SizedLaws
import Derived.ChangeSlices
namespace Go.Proofs.Ytjilcpjapnngfaa.Den
open Go Go.RowKit
def IsRow (k : IntKind) (w : World) (a : Option Addr) (len cap : Nat) (zs : List Int) : Prop :=
  (a = none ∧ len = 0 ∧ cap = 0 ∧ zs = []) ∨
  ∃ x, a = some x ∧ len ≤ cap ∧ cap ≤ maxLen ∧ zs.length = cap ∧ (∀ i, i < zs.length → w.cell? (x.add i) = some (.int k (zs.getD i 0))) ∧ ∀ n ∈ zs, (Lit.int k n).wf = true
theorem row_wf {k : IntKind} {w : World} {a : Option Addr} {len cap : Nat} {zs : List Int} (h : IsRow k w a len cap zs) : ∀ x ∈ zs.take len, (Lit.int k x).wf = true := by
  rcases h with ⟨_, _, _, rfl⟩ | ⟨_, _, _, _, _, _, h⟩
  · intro x hx; simp at hx
  · exact fun x hx => h x (List.mem_of_mem_take hx)
theorem row_nil {k : IntKind} {w : World} {a : Option Addr} {len cap : Nat} {zs : List Int} (h : IsRow k w a len cap zs) : a.isNone = true → zs.take len = [] := by
  rcases h with ⟨_, _, _, rfl⟩ | ⟨_, rfl, _⟩
  · intro _; simp
  · intro h; cases h
theorem run_eq (k : Nat) (x0 : Int) (x1 : List ((.st (.pair (.int .i64) (.pair (.sl (.int .u8)) (.pair (.int .i64) .unit)))) : Ty).D) {ρ : Type} (K : TV → List Obj → Option ρ) : (law06_DiskDoes_sp k).run [.int .i64 x0, .sl (.st (.pair (.int .i64) (.pair (.sl (.int .u8)) (.pair (.int .i64) .unit)))) .sh none x1] [] K = (law06_DiskDoes k x0 x1).bind fun r => K (.bool r.1) [] := by kernel_rfl
theorem the_law {W : World} (a0 : Int) {a1 : Option Addr} {len1 cap1 : Nat} (l1 : List ((.st (.pair (.int .i64) (.pair (.sl (.int .u8)) (.pair (.int .i64) .unit)))) : Ty).D) (w0 : (Lit.int .i64 a0).wf = true) (w1 : rv (snap W) id (.sl (.st (.pair (.int .i64) (.pair (.sl (.int .u8)) (.pair (.int .i64) .unit)))) .sh none l1) (.slice a1 len1 cap1)) (f1 : wfD (.sl (.st (.pair (.int .i64) (.pair (.sl (.int .u8)) (.pair (.int .i64) .unit))))) l1) :
    Calls Try.prog 5 #[.int .i64 a0, .slice a1 len1 cap1] W fun e W' => e = .returned (.bool true) ∧ Below W.heap.size W W' := by
  obtain ⟨K, hK⟩ := DiskDoes_true a0 l1 w0 f1
  have hr : (law06_DiskDoes_sp K).run [.int .i64 a0, .sl (.st (.pair (.int .i64) (.pair (.sl (.int .u8)) (.pair (.int .i64) .unit)))) .sh none l1] [] (fun v S => some (v, S)) = some (.bool true, []) := by
    refine (run_eq _ a0 l1 _).trans ?_
    exact congrArg (fun o : Option (Bool × Unit) => o.bind fun r => some (TV.bool r.1, ([] : List Obj))) hK
  exact law_calls (V := [.int .i64 a0, .slice a1 len1 cap1]) (law06_DiskDoes_ok K) Try.func5 (c := bodyOf Try.f5) (by kernel_rfl) (by kernel_rfl) (by kernel_rfl) rv_true hr ⟨_, _, rfl, rv_int w0, ⟨_, _, rfl, w1, rfl⟩⟩ ⟨trivial, trivial, trivial⟩ ⟨trivial, trivial, trivial⟩
end Go.Proofs.Ytjilcpjapnngfaa.Den
/- The law DiskDoes, by the reading of its code. Its form is the print's. -/
namespace Go.Proofs.Ytjilcpjapnngfaa.diskDoes
open Go.ChangeShapes Go.WideShapes Go.ChangeAt Go.RowKit Den
open Go.ChangeMaps (open_string shut_string)
set_option linter.unusedVariables false
theorem own : ownKnob Try.prog.godebug = none := by kernel_rfl
theorem laidOut : laidOutB Try.prog = true := by kernel_rfl
set_option maxRecDepth 100000 in
theorem lifted (os : Os) (started : os.Started) (H : Type) (enc : TypeId × Value → H) :
    ReturnsInHanded {} Try.checked os 5 .any (Rows.diskDoesSpec.pre6 enc Try.prog Try.f5 Rows.diskDoesRow.domain false) (Rows.diskDoesSpec.post enc Try.prog Try.f5 false true false false) := by
  refine returnsInHanded_of_change_sized (C := Try.checked) own started (by kernel_rfl) Try.func5
    (ChangeSpec.witness6 (enc := enc) (C := Try.checked) false ⟨#[], #[.int .i64 0, .slice none 0 0], []⟩ 8 (by kernel_rfl) (by kernel_rfl) (by kernel_rfl) (by kernel_rfl)) ?_
  intro W base args ds gs before hval0 hW hcnd hsz0 _
  have hsz : (DataW.weightsEach Try.prog (Try.f5.params.toList ++ Rows.diskDoesSpec.plain.varTypes Try.prog) (ds ++ gs)).all (· ≤ reachBytes) = true := hsz0
  have hval : ∀ (j : Nat) t v, Try.f5.params[j]? = some t → args[j]? = some v → Value.okWide Try.prog W .any base t v := hval0
  have hW' := hW
  obtain ⟨p, q, hA0, hV, rfl, hfz, hnd⟩ := hW
  have hA : DataW.TrodAll enc Try.prog W 0 (fun _ => true) true Try.f5.params.toList args.toList ds p := hA0
  rw [Try.params5] at hA hval hsz
  obtain ⟨v0, vs0, d0, ds0, p0, q0, hargs, rfl, rfl, h0, r0⟩ := trodAll_cons hA
  obtain ⟨v1, vs1, d1, ds1, p1, q1, rfl, rfl, rfl, h1, r1⟩ := trodAll_cons r0
  obtain ⟨rfl, rfl, rfl⟩ := trodAll_nil r1
  obtain rfl : args = #[v0, v1] := by cases args; simp_all
  obtain ⟨rfl, rfl⟩ := trodVars_none hV
  obtain ⟨a0, rfl, rfl, rfl, w0⟩ := open_int Try.underlying3 (hval 0 3 v0 rfl rfl) h0
  obtain ⟨a1, len1, cap1, rfl⟩ := okWide_slice Try.underlying33 (hval 1 33 v1 rfl rfl)
  have k1 := h1
  have lt1 : ∀ x ∈ p1, x.block < W.heap.size := by obtain ⟨m, hm⟩ := k1; exact DataW.trod_lt m _ _ _ hm
  obtain ⟨l1, w1, f1⟩ := Den.open_sl (t := (.st (.pair (.int .i64) (.pair (.sl (.int .u8)) (.pair (.int .i64) .unit))))) (by kernel_rfl) rfl rfl h1
  clear hA0 hval0 hsz0 hsz
  refine (Den.the_law (W := W) a0 l1 w0 w1 f1).mono fun e W' ⟨he, bel⟩ => ?_
  subst he
  exact ⟨_, rfl, _, _, _, [], _, [], hW', trodAll_mk1 (shut_bool Try.underlying4 _), (trodAll_cons_mk (shut_int Try.underlying3 w0) (trodAll_cons_mk (Below.trod laidOut (by kernel_rfl) (of_decide_eq_true (by kernel_rfl)) k1 bel lt1) trodAll_mk0)), rfl, bel.frame _, fun h => by cases h⟩
theorem over : Rows.diskDoesRow.holds Try.pinned (OpenSpec.ofChange Rows.diskDoesSpec) :=
  OpenClaim.holds_of_wide 5 Try.f5 rfl rfl rfl rfl rfl rfl rfl ⟨rfl, rfl, rfl, rfl, rfl⟩ rfl rfl rfl rfl rfl (by kernel_rfl) Try.func5 (by kernel_rfl)
    (of_decide_eq_true (by kernel_rfl)) (by unfold Func.isWrapper; first | (rw [if_pos (by decide +kernel)]; kernel_rfl) | (rw [if_neg (by decide +kernel)]; exact ⟨rfl, rfl⟩))
    (fun os started H enc _ => lifted os started H enc)
theorem proved : Rows.DiskDoesSaid := over
#print axioms proved
end Go.Proofs.Ytjilcpjapnngfaa.diskDoes
namespace Go.Proofs.Ytjilcpjapnngfaa
/-- The row, under a short name, for the claim. -/
theorem diskDoes_holds : Rows.DiskDoesSaid := diskDoes.proved
end Go.Proofs.Ytjilcpjapnngfaa
