import Derived.Test.YtgmeimbamfggkaaRows
import Derived.Test.YtgmeimbamfggkaaDPMetaDoes
import Derived.WalkKit
import Derived.ProofKit
import Derived.OpenShut
import Derived.ShutString
import Derived.ChangeOld
import Derived.Below
import Derived.SizedLaws
import Derived.ChangeSlices
namespace Go.Proofs.Ytgmeimbamfggkaa.Den
open Go Go.RowKit
def IsRow (k : IntKind) (w : World) (a : Option Addr) (len cap : Nat) (zs : List Int) : Prop :=
  (a = none ∧ len = 0 ∧ cap = 0 ∧ zs = []) ∨
  ∃ x, a = some x ∧ len ≤ cap ∧ cap ≤ maxLen ∧ zs.length = cap ∧ (∀ i, i < zs.length → w.cell? (x.add i) = some (.int k (zs.getD i 0))) ∧ ∀ n ∈ zs, (Lit.int k n).wf = true
theorem row_wf {k : IntKind} {w : World} {a : Option Addr} {len cap : Nat} {zs : List Int} (h : IsRow k w a len cap zs) : ∀ x ∈ zs.take len, (Lit.int k x).wf = true := by
  rcases h with ⟨_, _, _, rfl⟩ | ⟨_, _, _, _, _, _, h⟩
  · intro x hx; simp at hx
  · exact fun x hx => h x (List.mem_of_mem_take hx)
theorem row_nil {k : IntKind} {w : World} {a : Option Addr} {len cap : Nat} {zs : List Int} (h : IsRow k w a len cap zs) : a.isNone = true → zs.take len = [] := by
  rcases h with ⟨_, _, _, rfl⟩ | ⟨_, rfl, _⟩
  · intro _; simp
  · intro h; cases h
theorem run_eq (k : Nat) (x0 : List ((.st (.pair (.int .u64) (.pair (.int .u64) (.pair (.int .i64) (.pair (.int .u64) (.pair (.int .u64) (.pair .bool (.pair (.st (.pair (.int .u64) (.pair (.int .i64) (.pair (.int .i64) (.pair (.sl (.int .u8)) (.pair (.sl (.int .u8)) .unit)))))) (.pair (.sl (.int .u8)) (.pair (.sl (.int .u8)) (.pair (.sl (.int .u64)) (.pair (.sl (.st (.pair (.sl (.int .u8)) (.pair .bool (.pair (.sl (.int .u8)) .unit))))) (.pair (.sl (.sl (.int .u8))) (.pair (.st (.pair (.int .i64) (.pair .str (.pair (.sl (.st (.pair .str (.pair (.int .i64) (.pair .bool .unit))))) (.pair (.int .i64) (.pair (.sl (.int .i64)) .unit)))))) .unit)))))))))))))) : Ty).D) {ρ : Type} (K : TV → List Obj → Option ρ) : (law15_MetaDoes_sp k).run [.sl (.st (.pair (.int .u64) (.pair (.int .u64) (.pair (.int .i64) (.pair (.int .u64) (.pair (.int .u64) (.pair .bool (.pair (.st (.pair (.int .u64) (.pair (.int .i64) (.pair (.int .i64) (.pair (.sl (.int .u8)) (.pair (.sl (.int .u8)) .unit)))))) (.pair (.sl (.int .u8)) (.pair (.sl (.int .u8)) (.pair (.sl (.int .u64)) (.pair (.sl (.st (.pair (.sl (.int .u8)) (.pair .bool (.pair (.sl (.int .u8)) .unit))))) (.pair (.sl (.sl (.int .u8))) (.pair (.st (.pair (.int .i64) (.pair .str (.pair (.sl (.st (.pair .str (.pair (.int .i64) (.pair .bool .unit))))) (.pair (.int .i64) (.pair (.sl (.int .i64)) .unit)))))) .unit)))))))))))))) .sh none x0] [] K = (law15_MetaDoes k x0).bind fun r => K (.bool r.1) [] := by kernel_rfl
theorem the_law {W : World} {a0 : Option Addr} {len0 cap0 : Nat} (l0 : List ((.st (.pair (.int .u64) (.pair (.int .u64) (.pair (.int .i64) (.pair (.int .u64) (.pair (.int .u64) (.pair .bool (.pair (.st (.pair (.int .u64) (.pair (.int .i64) (.pair (.int .i64) (.pair (.sl (.int .u8)) (.pair (.sl (.int .u8)) .unit)))))) (.pair (.sl (.int .u8)) (.pair (.sl (.int .u8)) (.pair (.sl (.int .u64)) (.pair (.sl (.st (.pair (.sl (.int .u8)) (.pair .bool (.pair (.sl (.int .u8)) .unit))))) (.pair (.sl (.sl (.int .u8))) (.pair (.st (.pair (.int .i64) (.pair .str (.pair (.sl (.st (.pair .str (.pair (.int .i64) (.pair .bool .unit))))) (.pair (.int .i64) (.pair (.sl (.int .i64)) .unit)))))) .unit)))))))))))))) : Ty).D) (w0 : rv (snap W) id (.sl (.st (.pair (.int .u64) (.pair (.int .u64) (.pair (.int .i64) (.pair (.int .u64) (.pair (.int .u64) (.pair .bool (.pair (.st (.pair (.int .u64) (.pair (.int .i64) (.pair (.int .i64) (.pair (.sl (.int .u8)) (.pair (.sl (.int .u8)) .unit)))))) (.pair (.sl (.int .u8)) (.pair (.sl (.int .u8)) (.pair (.sl (.int .u64)) (.pair (.sl (.st (.pair (.sl (.int .u8)) (.pair .bool (.pair (.sl (.int .u8)) .unit))))) (.pair (.sl (.sl (.int .u8))) (.pair (.st (.pair (.int .i64) (.pair .str (.pair (.sl (.st (.pair .str (.pair (.int .i64) (.pair .bool .unit))))) (.pair (.int .i64) (.pair (.sl (.int .i64)) .unit)))))) .unit)))))))))))))) .sh none l0) (.slice a0 len0 cap0)) (f0 : wfD (.sl (.st (.pair (.int .u64) (.pair (.int .u64) (.pair (.int .i64) (.pair (.int .u64) (.pair (.int .u64) (.pair .bool (.pair (.st (.pair (.int .u64) (.pair (.int .i64) (.pair (.int .i64) (.pair (.sl (.int .u8)) (.pair (.sl (.int .u8)) .unit)))))) (.pair (.sl (.int .u8)) (.pair (.sl (.int .u8)) (.pair (.sl (.int .u64)) (.pair (.sl (.st (.pair (.sl (.int .u8)) (.pair .bool (.pair (.sl (.int .u8)) .unit))))) (.pair (.sl (.sl (.int .u8))) (.pair (.st (.pair (.int .i64) (.pair .str (.pair (.sl (.st (.pair .str (.pair (.int .i64) (.pair .bool .unit))))) (.pair (.int .i64) (.pair (.sl (.int .i64)) .unit)))))) .unit))))))))))))))) l0) (z0 : szD (.sl (.st (.pair (.int .u64) (.pair (.int .u64) (.pair (.int .i64) (.pair (.int .u64) (.pair (.int .u64) (.pair .bool (.pair (.st (.pair (.int .u64) (.pair (.int .i64) (.pair (.int .i64) (.pair (.sl (.int .u8)) (.pair (.sl (.int .u8)) .unit)))))) (.pair (.sl (.int .u8)) (.pair (.sl (.int .u8)) (.pair (.sl (.int .u64)) (.pair (.sl (.st (.pair (.sl (.int .u8)) (.pair .bool (.pair (.sl (.int .u8)) .unit))))) (.pair (.sl (.sl (.int .u8))) (.pair (.st (.pair (.int .i64) (.pair .str (.pair (.sl (.st (.pair .str (.pair (.int .i64) (.pair .bool .unit))))) (.pair (.int .i64) (.pair (.sl (.int .i64)) .unit)))))) .unit))))))))))))))) l0) :
    Calls Try.prog 9 #[.slice a0 len0 cap0] W fun e W' => e = .returned (.bool true) ∧ Below W.heap.size W W' := by
  obtain ⟨K, hK⟩ := MetaDoes_true l0 f0 z0
  have hr : (law15_MetaDoes_sp K).run [.sl (.st (.pair (.int .u64) (.pair (.int .u64) (.pair (.int .i64) (.pair (.int .u64) (.pair (.int .u64) (.pair .bool (.pair (.st (.pair (.int .u64) (.pair (.int .i64) (.pair (.int .i64) (.pair (.sl (.int .u8)) (.pair (.sl (.int .u8)) .unit)))))) (.pair (.sl (.int .u8)) (.pair (.sl (.int .u8)) (.pair (.sl (.int .u64)) (.pair (.sl (.st (.pair (.sl (.int .u8)) (.pair .bool (.pair (.sl (.int .u8)) .unit))))) (.pair (.sl (.sl (.int .u8))) (.pair (.st (.pair (.int .i64) (.pair .str (.pair (.sl (.st (.pair .str (.pair (.int .i64) (.pair .bool .unit))))) (.pair (.int .i64) (.pair (.sl (.int .i64)) .unit)))))) .unit)))))))))))))) .sh none l0] [] (fun v S => some (v, S)) = some (.bool true, []) := by
    refine (run_eq _ l0 _).trans ?_
    exact congrArg (fun o : Option (Bool × Unit) => o.bind fun r => some (TV.bool r.1, ([] : List Obj))) hK
  exact law_calls (V := [.slice a0 len0 cap0]) (law15_MetaDoes_ok K) Try.func9 (c := bodyOf Try.f9) (by kernel_rfl) (by kernel_rfl) (by kernel_rfl) rv_true hr ⟨_, _, rfl, w0, rfl⟩ ⟨trivial, trivial⟩ ⟨trivial, trivial⟩
end Go.Proofs.Ytgmeimbamfggkaa.Den
/- The law MetaDoes, by the reading of its code. Its form is the print's. -/
namespace Go.Proofs.Ytgmeimbamfggkaa.metaDoes
open Go.ChangeShapes Go.WideShapes Go.ChangeAt Go.RowKit Den
open Go.ChangeMaps (open_string shut_string)
set_option linter.unusedVariables false
theorem own : ownKnob Try.prog.godebug = none := by kernel_rfl
theorem u8b : ∀ e, Try.prog.underlying e = some (.int .u8) → 1 ≤ Try.prog.bytesOf e := u8_bytes (by kernel_rfl)
theorem laidOut : laidOutB Try.prog = true := by kernel_rfl
set_option maxRecDepth 100000 in
theorem lifted (os : Os) (started : os.Started) (H : Type) (enc : TypeId × Value → H) :
    ReturnsInHanded {} Try.checked os 9 .any (Rows.metaDoesSpec.pre6 enc Try.prog Try.f9 Rows.metaDoesRow.domain false) (Rows.metaDoesSpec.post enc Try.prog Try.f9 false true false false) := by
  refine returnsInHanded_of_change_sized (C := Try.checked) own started (by kernel_rfl) Try.func9
    (ChangeSpec.witness6 (enc := enc) (C := Try.checked) false ⟨#[], #[.slice none 0 0], []⟩ 8 (by kernel_rfl) (by kernel_rfl) (by kernel_rfl) (by kernel_rfl)) ?_
  intro W base args ds gs before hval0 hW hcnd hsz0 _
  have hsz : (DataW.weightsEach Try.prog (Try.f9.params.toList ++ Rows.metaDoesSpec.plain.varTypes Try.prog) (ds ++ gs)).all (· ≤ reachBytes) = true := hsz0
  have hval : ∀ (j : Nat) t v, Try.f9.params[j]? = some t → args[j]? = some v → Value.okWide Try.prog W .any base t v := hval0
  have hW' := hW
  obtain ⟨p, q, hA0, hV, rfl, hfz, hnd⟩ := hW
  have hA : DataW.TrodAll enc Try.prog W 0 (fun _ => true) true Try.f9.params.toList args.toList ds p := hA0
  rw [Try.params9] at hA hval hsz
  obtain ⟨v0, vs0, d0, ds0, p0, q0, hargs, rfl, rfl, h0, r0⟩ := trodAll_cons hA
  obtain ⟨rfl, rfl, rfl⟩ := trodAll_nil r0
  obtain rfl : args = #[v0] := by cases args; simp_all
  obtain ⟨rfl, rfl⟩ := trodVars_none hV
  obtain ⟨a0, len0, cap0, rfl⟩ := okWide_slice Try.underlying52 (hval 0 52 v0 rfl rfl)
  have k0 := h0
  have lt0 : ∀ x ∈ p0, x.block < W.heap.size := by obtain ⟨m, hm⟩ := k0; exact DataW.trod_lt m _ _ _ hm
  obtain ⟨l0, w0, f0, z0⟩ := Den.open_sl_sz u8b (t := (.st (.pair (.int .u64) (.pair (.int .u64) (.pair (.int .i64) (.pair (.int .u64) (.pair (.int .u64) (.pair .bool (.pair (.st (.pair (.int .u64) (.pair (.int .i64) (.pair (.int .i64) (.pair (.sl (.int .u8)) (.pair (.sl (.int .u8)) .unit)))))) (.pair (.sl (.int .u8)) (.pair (.sl (.int .u8)) (.pair (.sl (.int .u64)) (.pair (.sl (.st (.pair (.sl (.int .u8)) (.pair .bool (.pair (.sl (.int .u8)) .unit))))) (.pair (.sl (.sl (.int .u8))) (.pair (.st (.pair (.int .i64) (.pair .str (.pair (.sl (.st (.pair .str (.pair (.int .i64) (.pair .bool .unit))))) (.pair (.int .i64) (.pair (.sl (.int .i64)) .unit)))))) .unit))))))))))))))) (by kernel_rfl) rfl rfl h0 (fun n hn => by have := List.all_eq_true.1 hsz n (DataW.weights_mem_each (j := 0) rfl rfl n hn); simpa using this)
  clear hA0 hval0 hsz0 hsz
  refine (Den.the_law (W := W) l0 w0 f0 z0).mono fun e W' ⟨he, bel⟩ => ?_
  subst he
  exact ⟨_, rfl, _, _, _, [], _, [], hW', trodAll_mk1 (shut_bool Try.underlying4 _), (trodAll_cons_mk (Below.trod laidOut (by kernel_rfl) (of_decide_eq_true (by kernel_rfl)) k0 bel lt0) trodAll_mk0), rfl, bel.frame _, fun h => by cases h⟩
theorem over : Rows.metaDoesRow.holds Try.pinned (OpenSpec.ofChange Rows.metaDoesSpec) :=
  OpenClaim.holds_of_wide 9 Try.f9 rfl rfl rfl rfl rfl rfl rfl ⟨rfl, rfl, rfl, rfl, rfl⟩ rfl rfl rfl rfl rfl (by kernel_rfl) Try.func9 (by kernel_rfl)
    (of_decide_eq_true (by kernel_rfl)) (by unfold Func.isWrapper; first | (rw [if_pos (by decide +kernel)]; kernel_rfl) | (rw [if_neg (by decide +kernel)]; exact ⟨rfl, rfl⟩))
    (fun os started H enc _ => lifted os started H enc)
theorem proved : Rows.MetaDoesSaid := over
#print axioms proved
end Go.Proofs.Ytgmeimbamfggkaa.metaDoes
namespace Go.Proofs.Ytgmeimbamfggkaa
/-- The row, under a short name, for the claim. -/
theorem metaDoes_holds : Rows.MetaDoesSaid := metaDoes.proved
end Go.Proofs.Ytgmeimbamfggkaa
