import Derived.Test.YtgmeimbamfggkaaRows
import Derived.Test.YtgmeimbamfggkaaDPMetaCommands
import Derived.WalkKit
import Derived.ProofKit
import Derived.OpenShut
import Derived.ShutString
import Derived.ChangeOld
import Derived.Below
import Derived.SizedLaws
import Derived.ChangeSlices
namespace Go.Proofs.Ytgmeimbamfggkaa.Den
open Go Go.RowKit
def IsRow (k : IntKind) (w : World) (a : Option Addr) (len cap : Nat) (zs : List Int) : Prop :=
  (a = none ∧ len = 0 ∧ cap = 0 ∧ zs = []) ∨
  ∃ x, a = some x ∧ len ≤ cap ∧ cap ≤ maxLen ∧ zs.length = cap ∧ (∀ i, i < zs.length → w.cell? (x.add i) = some (.int k (zs.getD i 0))) ∧ ∀ n ∈ zs, (Lit.int k n).wf = true
theorem row_wf {k : IntKind} {w : World} {a : Option Addr} {len cap : Nat} {zs : List Int} (h : IsRow k w a len cap zs) : ∀ x ∈ zs.take len, (Lit.int k x).wf = true := by
  rcases h with ⟨_, _, _, rfl⟩ | ⟨_, _, _, _, _, _, h⟩
  · intro x hx; simp at hx
  · exact fun x hx => h x (List.mem_of_mem_take hx)
theorem row_nil {k : IntKind} {w : World} {a : Option Addr} {len cap : Nat} {zs : List Int} (h : IsRow k w a len cap zs) : a.isNone = true → zs.take len = [] := by
  rcases h with ⟨_, _, _, rfl⟩ | ⟨_, rfl, _⟩
  · intro _; simp
  · intro h; cases h
theorem run_eq (k : Nat) (x0 : ((.st (.pair (.int .u64) (.pair (.int .u64) (.pair (.int .i64) (.pair (.int .u64) (.pair (.int .u64) (.pair .bool (.pair (.st (.pair (.int .u64) (.pair (.int .i64) (.pair (.int .i64) (.pair (.sl (.int .u8)) (.pair (.sl (.int .u8)) .unit)))))) (.pair (.sl (.int .u8)) (.pair (.sl (.int .u8)) (.pair (.sl (.int .u64)) (.pair (.sl (.st (.pair (.sl (.int .u8)) (.pair .bool (.pair (.sl (.int .u8)) .unit))))) (.pair (.sl (.sl (.int .u8))) (.pair (.st (.pair (.int .i64) (.pair .str (.pair (.sl (.st (.pair .str (.pair (.int .i64) (.pair .bool .unit))))) (.pair (.int .i64) (.pair (.sl (.int .i64)) .unit)))))) .unit)))))))))))))) : Ty).D) (x1 : List Int) {ρ : Type} (K : TV → List Obj → Option ρ) : (law15_MetaCommands_sp k).run [.st (.st (.pair (.int .u64) (.pair (.int .u64) (.pair (.int .i64) (.pair (.int .u64) (.pair (.int .u64) (.pair .bool (.pair (.st (.pair (.int .u64) (.pair (.int .i64) (.pair (.int .i64) (.pair (.sl (.int .u8)) (.pair (.sl (.int .u8)) .unit)))))) (.pair (.sl (.int .u8)) (.pair (.sl (.int .u8)) (.pair (.sl (.int .u64)) (.pair (.sl (.st (.pair (.sl (.int .u8)) (.pair .bool (.pair (.sl (.int .u8)) .unit))))) (.pair (.sl (.sl (.int .u8))) (.pair (.st (.pair (.int .i64) (.pair .str (.pair (.sl (.st (.pair .str (.pair (.int .i64) (.pair .bool .unit))))) (.pair (.int .i64) (.pair (.sl (.int .i64)) .unit)))))) .unit)))))))))))))) x0, .sl (.int .u8) .sh none x1] [] K = (law15_MetaCommands k x0 x1).bind fun r => K (.bool r.1) [] := by kernel_rfl
theorem the_law {W : World} {cs0 : Array Value} (l0 : ((.st (.pair (.int .u64) (.pair (.int .u64) (.pair (.int .i64) (.pair (.int .u64) (.pair (.int .u64) (.pair .bool (.pair (.st (.pair (.int .u64) (.pair (.int .i64) (.pair (.int .i64) (.pair (.sl (.int .u8)) (.pair (.sl (.int .u8)) .unit)))))) (.pair (.sl (.int .u8)) (.pair (.sl (.int .u8)) (.pair (.sl (.int .u64)) (.pair (.sl (.st (.pair (.sl (.int .u8)) (.pair .bool (.pair (.sl (.int .u8)) .unit))))) (.pair (.sl (.sl (.int .u8))) (.pair (.st (.pair (.int .i64) (.pair .str (.pair (.sl (.st (.pair .str (.pair (.int .i64) (.pair .bool .unit))))) (.pair (.int .i64) (.pair (.sl (.int .i64)) .unit)))))) .unit)))))))))))))) : Ty).D) {a1 : Option Addr} {len1 cap1 : Nat} {z1 : List Int} (w0 : rv (snap W) id (.st (.st (.pair (.int .u64) (.pair (.int .u64) (.pair (.int .i64) (.pair (.int .u64) (.pair (.int .u64) (.pair .bool (.pair (.st (.pair (.int .u64) (.pair (.int .i64) (.pair (.int .i64) (.pair (.sl (.int .u8)) (.pair (.sl (.int .u8)) .unit)))))) (.pair (.sl (.int .u8)) (.pair (.sl (.int .u8)) (.pair (.sl (.int .u64)) (.pair (.sl (.st (.pair (.sl (.int .u8)) (.pair .bool (.pair (.sl (.int .u8)) .unit))))) (.pair (.sl (.sl (.int .u8))) (.pair (.st (.pair (.int .i64) (.pair .str (.pair (.sl (.st (.pair .str (.pair (.int .i64) (.pair .bool .unit))))) (.pair (.int .i64) (.pair (.sl (.int .i64)) .unit)))))) .unit)))))))))))))) l0) (.agg cs0)) (f0 : wfD (.st (.pair (.int .u64) (.pair (.int .u64) (.pair (.int .i64) (.pair (.int .u64) (.pair (.int .u64) (.pair .bool (.pair (.st (.pair (.int .u64) (.pair (.int .i64) (.pair (.int .i64) (.pair (.sl (.int .u8)) (.pair (.sl (.int .u8)) .unit)))))) (.pair (.sl (.int .u8)) (.pair (.sl (.int .u8)) (.pair (.sl (.int .u64)) (.pair (.sl (.st (.pair (.sl (.int .u8)) (.pair .bool (.pair (.sl (.int .u8)) .unit))))) (.pair (.sl (.sl (.int .u8))) (.pair (.st (.pair (.int .i64) (.pair .str (.pair (.sl (.st (.pair .str (.pair (.int .i64) (.pair .bool .unit))))) (.pair (.int .i64) (.pair (.sl (.int .i64)) .unit)))))) .unit)))))))))))))) l0) (z0 : szD (.st (.pair (.int .u64) (.pair (.int .u64) (.pair (.int .i64) (.pair (.int .u64) (.pair (.int .u64) (.pair .bool (.pair (.st (.pair (.int .u64) (.pair (.int .i64) (.pair (.int .i64) (.pair (.sl (.int .u8)) (.pair (.sl (.int .u8)) .unit)))))) (.pair (.sl (.int .u8)) (.pair (.sl (.int .u8)) (.pair (.sl (.int .u64)) (.pair (.sl (.st (.pair (.sl (.int .u8)) (.pair .bool (.pair (.sl (.int .u8)) .unit))))) (.pair (.sl (.sl (.int .u8))) (.pair (.st (.pair (.int .i64) (.pair .str (.pair (.sl (.st (.pair .str (.pair (.int .i64) (.pair .bool .unit))))) (.pair (.int .i64) (.pair (.sl (.int .i64)) .unit)))))) .unit)))))))))))))) l0) (w1 : IsRow .u8 W a1 len1 cap1 z1) :
    Calls Try.prog 11 #[.agg cs0, .slice a1 len1 cap1] W fun e W' => e = .returned (.bool true) ∧ Below W.heap.size W W' := by
  obtain ⟨K, hK⟩ := MetaCommands_true l0 (z1.take len1) f0 (row_wf w1) z0
  have hr : (law15_MetaCommands_sp K).run [.st (.st (.pair (.int .u64) (.pair (.int .u64) (.pair (.int .i64) (.pair (.int .u64) (.pair (.int .u64) (.pair .bool (.pair (.st (.pair (.int .u64) (.pair (.int .i64) (.pair (.int .i64) (.pair (.sl (.int .u8)) (.pair (.sl (.int .u8)) .unit)))))) (.pair (.sl (.int .u8)) (.pair (.sl (.int .u8)) (.pair (.sl (.int .u64)) (.pair (.sl (.st (.pair (.sl (.int .u8)) (.pair .bool (.pair (.sl (.int .u8)) .unit))))) (.pair (.sl (.sl (.int .u8))) (.pair (.st (.pair (.int .i64) (.pair .str (.pair (.sl (.st (.pair .str (.pair (.int .i64) (.pair .bool .unit))))) (.pair (.int .i64) (.pair (.sl (.int .i64)) .unit)))))) .unit)))))))))))))) l0, .sl (.int .u8) .sh none (z1.take len1)] [] (fun v S => some (v, S)) = some (.bool true, []) := by
    refine (run_eq _ l0 (z1.take len1) _).trans ?_
    exact congrArg (fun o : Option (Bool × Unit) => o.bind fun r => some (TV.bool r.1, ([] : List Obj))) hK
  exact law_calls (V := [.agg cs0, .slice a1 len1 cap1]) (law15_MetaCommands_ok K) Try.func11 (c := bodyOf Try.f11) (by kernel_rfl) (by kernel_rfl) (by kernel_rfl) rv_true hr ⟨_, _, rfl, w0, ⟨_, _, rfl, rv_row w1, rfl⟩⟩ ⟨trivial, trivial, trivial⟩ ⟨trivial, trivial, trivial⟩
end Go.Proofs.Ytgmeimbamfggkaa.Den
/- The law MetaCommands, by the reading of its code. Its form is the print's. -/
namespace Go.Proofs.Ytgmeimbamfggkaa.metaCommands
open Go.ChangeShapes Go.WideShapes Go.ChangeAt Go.RowKit Den
open Go.ChangeMaps (open_string shut_string)
set_option linter.unusedVariables false
theorem own : ownKnob Try.prog.godebug = none := by kernel_rfl
theorem u8b : ∀ e, Try.prog.underlying e = some (.int .u8) → 1 ≤ Try.prog.bytesOf e := u8_bytes (by kernel_rfl)
theorem laidOut : laidOutB Try.prog = true := by kernel_rfl
set_option maxRecDepth 100000 in
theorem lifted (os : Os) (started : os.Started) (H : Type) (enc : TypeId × Value → H) :
    ReturnsInHanded {} Try.checked os 11 .any (Rows.metaCommandsSpec.pre6 enc Try.prog Try.f11 Rows.metaCommandsRow.domain false) (Rows.metaCommandsSpec.post enc Try.prog Try.f11 false true false false) := by
  refine returnsInHanded_of_change_sized (C := Try.checked) own started (by kernel_rfl) Try.func11
    (ChangeSpec.witness6 (enc := enc) (C := Try.checked) false ⟨#[], #[.agg #[.int .u64 0, .int .u64 0, .int .i64 0, .int .u64 0, .int .u64 0, .bool false, .int .u64 0, .int .i64 0, .int .i64 0, .slice none 0 0, .slice none 0 0, .slice none 0 0, .slice none 0 0, .slice none 0 0, .slice none 0 0, .slice none 0 0, .int .i64 0, .string "".toUTF8, .slice none 0 0, .int .i64 0, .slice none 0 0], .slice none 0 0], []⟩ 8 (by kernel_rfl) (by kernel_rfl) (by kernel_rfl) (by kernel_rfl)) ?_
  intro W base args ds gs before hval0 hW hcnd hsz0 _
  have hsz : (DataW.weightsEach Try.prog (Try.f11.params.toList ++ Rows.metaCommandsSpec.plain.varTypes Try.prog) (ds ++ gs)).all (· ≤ reachBytes) = true := hsz0
  have hval : ∀ (j : Nat) t v, Try.f11.params[j]? = some t → args[j]? = some v → Value.okWide Try.prog W .any base t v := hval0
  have hW' := hW
  obtain ⟨p, q, hA0, hV, rfl, hfz, hnd⟩ := hW
  have hA : DataW.TrodAll enc Try.prog W 0 (fun _ => true) true Try.f11.params.toList args.toList ds p := hA0
  rw [Try.params11] at hA hval hsz
  obtain ⟨v0, vs0, d0, ds0, p0, q0, hargs, rfl, rfl, h0, r0⟩ := trodAll_cons hA
  obtain ⟨v1, vs1, d1, ds1, p1, q1, rfl, rfl, rfl, h1, r1⟩ := trodAll_cons r0
  obtain ⟨rfl, rfl, rfl⟩ := trodAll_nil r1
  obtain rfl : args = #[v0, v1] := by cases args; simp_all
  obtain ⟨rfl, rfl⟩ := trodVars_none hV
  obtain ⟨cs0, rfl, _⟩ := okWide_struct Try.underlying65 (hval 0 65 v0 rfl rfl)
  have k0 := h0
  have lt0 : ∀ x ∈ p0, x.block < W.heap.size := by obtain ⟨m, hm⟩ := k0; exact DataW.trod_lt m _ _ _ hm
  obtain ⟨l0, w0, f0, z0⟩ := Den.open_st_sz u8b (b := (.pair (.int .u64) (.pair (.int .u64) (.pair (.int .i64) (.pair (.int .u64) (.pair (.int .u64) (.pair .bool (.pair (.st (.pair (.int .u64) (.pair (.int .i64) (.pair (.int .i64) (.pair (.sl (.int .u8)) (.pair (.sl (.int .u8)) .unit)))))) (.pair (.sl (.int .u8)) (.pair (.sl (.int .u8)) (.pair (.sl (.int .u64)) (.pair (.sl (.st (.pair (.sl (.int .u8)) (.pair .bool (.pair (.sl (.int .u8)) .unit))))) (.pair (.sl (.sl (.int .u8))) (.pair (.st (.pair (.int .i64) (.pair .str (.pair (.sl (.st (.pair .str (.pair (.int .i64) (.pair .bool .unit))))) (.pair (.int .i64) (.pair (.sl (.int .i64)) .unit)))))) .unit)))))))))))))) (by kernel_rfl) rfl rfl h0 (fun n hn => by have := List.all_eq_true.1 hsz n (DataW.weights_mem_each (j := 0) rfl rfl n hn); simpa using this)
  obtain ⟨a1, len1, cap1, rfl⟩ := okWide_slice Try.underlying23 (hval 1 23 v1 rfl rfl)
  have k1 := h1
  have lt1 : ∀ x ∈ p1, x.block < W.heap.size := by obtain ⟨m, hm⟩ := k1; exact DataW.trod_lt m _ _ _ hm
  obtain ⟨z1, w1⟩ : ∃ zs, IsRow .u8 W a1 len1 cap1 zs := by
    obtain ⟨fuel, hf⟩ := h1
    rcases open_ints Try.underlying23 Try.underlying5 (by kernel_rfl) hf with ⟨hcs, _⟩ | ⟨x, l, c, zs, hcs, _, hl, hm, hz, _, hcell, hwz⟩
    · simp [Value.cells] at hcs
      obtain ⟨rfl, rfl, rfl⟩ := hcs
      exact ⟨[], .inl ⟨rfl, rfl, rfl, rfl⟩⟩
    · simp [Value.cells] at hcs
      obtain ⟨rfl, rfl, rfl⟩ := hcs
      exact ⟨zs, .inr ⟨_, rfl, hl, hm, by simpa using hz, hcell, hwz⟩⟩
  clear hA0 hval0 hsz0 hsz
  refine (Den.the_law (W := W) l0 w0 f0 z0 w1).mono fun e W' ⟨he, bel⟩ => ?_
  subst he
  exact ⟨_, rfl, _, _, _, [], _, [], hW', trodAll_mk1 (shut_bool Try.underlying4 _), (trodAll_cons_mk (Below.trod laidOut (by kernel_rfl) (of_decide_eq_true (by kernel_rfl)) k0 bel lt0) (trodAll_cons_mk (Below.trod laidOut (by kernel_rfl) (of_decide_eq_true (by kernel_rfl)) k1 bel lt1) trodAll_mk0)), rfl, bel.frame _, fun h => by cases h⟩
theorem over : Rows.metaCommandsRow.holds Try.pinned (OpenSpec.ofChange Rows.metaCommandsSpec) :=
  OpenClaim.holds_of_wide 11 Try.f11 rfl rfl rfl rfl rfl rfl rfl ⟨rfl, rfl, rfl, rfl, rfl⟩ rfl rfl rfl rfl rfl (by kernel_rfl) Try.func11 (by kernel_rfl)
    (of_decide_eq_true (by kernel_rfl)) (by unfold Func.isWrapper; first | (rw [if_pos (by decide +kernel)]; kernel_rfl) | (rw [if_neg (by decide +kernel)]; exact ⟨rfl, rfl⟩))
    (fun os started H enc _ => lifted os started H enc)
theorem proved : Rows.MetaCommandsSaid := over
#print axioms proved
end Go.Proofs.Ytgmeimbamfggkaa.metaCommands
namespace Go.Proofs.Ytgmeimbamfggkaa
/-- The row, under a short name, for the claim. -/
theorem metaCommands_holds : Rows.MetaCommandsSaid := metaCommands.proved
end Go.Proofs.Ytgmeimbamfggkaa
