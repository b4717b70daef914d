import Derived.Test.YtjilcpjapnngfaaRows
import Derived.Test.YtjilcpjapnngfaaDPWalAdds
import Derived.WalkKit
import Derived.ProofKit
import Derived.OpenShut
import Derived.ShutString
import Derived.ChangeOld
import Derived.Below
import Derived.SizedLaws
import Derived.ChangeSlices
namespace Go.Proofs.Ytjilcpjapnngfaa.Den
open Go Go.RowKit
def IsRow (k : IntKind) (w : World) (a : Option Addr) (len cap : Nat) (zs : List Int) : Prop :=
  (a = none ∧ len = 0 ∧ cap = 0 ∧ zs = []) ∨
  ∃ x, a = some x ∧ len ≤ cap ∧ cap ≤ maxLen ∧ zs.length = cap ∧ (∀ i, i < zs.length → w.cell? (x.add i) = some (.int k (zs.getD i 0))) ∧ ∀ n ∈ zs, (Lit.int k n).wf = true
theorem row_wf {k : IntKind} {w : World} {a : Option Addr} {len cap : Nat} {zs : List Int} (h : IsRow k w a len cap zs) : ∀ x ∈ zs.take len, (Lit.int k x).wf = true := by
  rcases h with ⟨_, _, _, rfl⟩ | ⟨_, _, _, _, _, _, h⟩
  · intro x hx; simp at hx
  · exact fun x hx => h x (List.mem_of_mem_take hx)
theorem row_nil {k : IntKind} {w : World} {a : Option Addr} {len cap : Nat} {zs : List Int} (h : IsRow k w a len cap zs) : a.isNone = true → zs.take len = [] := by
  rcases h with ⟨_, _, _, rfl⟩ | ⟨_, rfl, _⟩
  · intro _; simp
  · intro h; cases h
theorem run_eq (k : Nat) (x0 : Int) (x1 : List ((.sl (.int .u8)) : Ty).D) (x2 : List ((.sl (.int .u8)) : Ty).D) (x3 : List ((.sl (.int .u8)) : Ty).D) {ρ : Type} (K : TV → List Obj → Option ρ) : (law07_WalAdds_sp k).run [.int .i64 x0, .sl (.sl (.int .u8)) .sh none x1, .sl (.sl (.int .u8)) .sh none x2, .sl (.sl (.int .u8)) .sh none x3] [] K = (law07_WalAdds k x0 x1 x2 x3).bind fun r => K (.bool r.1) [] := by kernel_rfl
theorem the_law {W : World} (a0 : Int) {a1 : Option Addr} {len1 cap1 : Nat} (l1 : List ((.sl (.int .u8)) : Ty).D) {a2 : Option Addr} {len2 cap2 : Nat} (l2 : List ((.sl (.int .u8)) : Ty).D) {a3 : Option Addr} {len3 cap3 : Nat} (l3 : List ((.sl (.int .u8)) : Ty).D) (w0 : (Lit.int .i64 a0).wf = true) (w1 : rv (snap W) id (.sl (.sl (.int .u8)) .sh none l1) (.slice a1 len1 cap1)) (f1 : wfD (.sl (.sl (.int .u8))) l1) (w2 : rv (snap W) id (.sl (.sl (.int .u8)) .sh none l2) (.slice a2 len2 cap2)) (f2 : wfD (.sl (.sl (.int .u8))) l2) (w3 : rv (snap W) id (.sl (.sl (.int .u8)) .sh none l3) (.slice a3 len3 cap3)) (f3 : wfD (.sl (.sl (.int .u8))) l3) :
    Calls Try.prog 11 #[.int .i64 a0, .slice a1 len1 cap1, .slice a2 len2 cap2, .slice a3 len3 cap3] W fun e W' => e = .returned (.bool true) ∧ Below W.heap.size W W' := by
  obtain ⟨K, hK⟩ := WalAdds_true a0 l1 l2 l3 w0 f1 f2 f3
  have hr : (law07_WalAdds_sp K).run [.int .i64 a0, .sl (.sl (.int .u8)) .sh none l1, .sl (.sl (.int .u8)) .sh none l2, .sl (.sl (.int .u8)) .sh none l3] [] (fun v S => some (v, S)) = some (.bool true, []) := by
    refine (run_eq _ a0 l1 l2 l3 _).trans ?_
    exact congrArg (fun o : Option (Bool × Unit) => o.bind fun r => some (TV.bool r.1, ([] : List Obj))) hK
  exact law_calls (V := [.int .i64 a0, .slice a1 len1 cap1, .slice a2 len2 cap2, .slice a3 len3 cap3]) (law07_WalAdds_ok K) Try.func11 (c := bodyOf Try.f11) (by kernel_rfl) (by kernel_rfl) (by kernel_rfl) rv_true hr ⟨_, _, rfl, rv_int w0, ⟨_, _, rfl, w1, ⟨_, _, rfl, w2, ⟨_, _, rfl, w3, rfl⟩⟩⟩⟩ ⟨trivial, trivial, trivial, trivial, trivial⟩ ⟨trivial, trivial, trivial, trivial, trivial⟩
end Go.Proofs.Ytjilcpjapnngfaa.Den
/- The law WalAdds, by the reading of its code. Its form is the print's. -/
namespace Go.Proofs.Ytjilcpjapnngfaa.walAdds
open Go.ChangeShapes Go.WideShapes Go.ChangeAt Go.RowKit Den
open Go.ChangeMaps (open_string shut_string)
set_option linter.unusedVariables false
theorem own : ownKnob Try.prog.godebug = none := by kernel_rfl
theorem laidOut : laidOutB Try.prog = true := by kernel_rfl
set_option maxRecDepth 100000 in
theorem lifted (os : Os) (started : os.Started) (H : Type) (enc : TypeId × Value → H) :
    ReturnsInHanded {} Try.checked os 11 .any (Rows.walAddsSpec.pre6 enc Try.prog Try.f11 Rows.walAddsRow.domain false) (Rows.walAddsSpec.post enc Try.prog Try.f11 false true false false) := by
  refine returnsInHanded_of_change_sized (C := Try.checked) own started (by kernel_rfl) Try.func11
    (ChangeSpec.witness6 (enc := enc) (C := Try.checked) false ⟨#[], #[.int .i64 0, .slice none 0 0, .slice none 0 0, .slice none 0 0], []⟩ 8 (by kernel_rfl) (by kernel_rfl) (by kernel_rfl) (by kernel_rfl)) ?_
  intro W base args ds gs before hval0 hW hcnd hsz0 _
  have hsz : (DataW.weightsEach Try.prog (Try.f11.params.toList ++ Rows.walAddsSpec.plain.varTypes Try.prog) (ds ++ gs)).all (· ≤ reachBytes) = true := hsz0
  have hval : ∀ (j : Nat) t v, Try.f11.params[j]? = some t → args[j]? = some v → Value.okWide Try.prog W .any base t v := hval0
  have hW' := hW
  obtain ⟨p, q, hA0, hV, rfl, hfz, hnd⟩ := hW
  have hA : DataW.TrodAll enc Try.prog W 0 (fun _ => true) true Try.f11.params.toList args.toList ds p := hA0
  rw [Try.params11] at hA hval hsz
  obtain ⟨v0, vs0, d0, ds0, p0, q0, hargs, rfl, rfl, h0, r0⟩ := trodAll_cons hA
  obtain ⟨v1, vs1, d1, ds1, p1, q1, rfl, rfl, rfl, h1, r1⟩ := trodAll_cons r0
  obtain ⟨v2, vs2, d2, ds2, p2, q2, rfl, rfl, rfl, h2, r2⟩ := trodAll_cons r1
  obtain ⟨v3, vs3, d3, ds3, p3, q3, rfl, rfl, rfl, h3, r3⟩ := trodAll_cons r2
  obtain ⟨rfl, rfl, rfl⟩ := trodAll_nil r3
  obtain rfl : args = #[v0, v1, v2, v3] := by cases args; simp_all
  obtain ⟨rfl, rfl⟩ := trodVars_none hV
  obtain ⟨a0, rfl, rfl, rfl, w0⟩ := open_int Try.underlying3 (hval 0 3 v0 rfl rfl) h0
  obtain ⟨a1, len1, cap1, rfl⟩ := okWide_slice Try.underlying46 (hval 1 46 v1 rfl rfl)
  have k1 := h1
  have lt1 : ∀ x ∈ p1, x.block < W.heap.size := by obtain ⟨m, hm⟩ := k1; exact DataW.trod_lt m _ _ _ hm
  obtain ⟨l1, w1, f1⟩ := Den.open_sl (t := (.sl (.int .u8))) (by kernel_rfl) rfl rfl h1
  obtain ⟨a2, len2, cap2, rfl⟩ := okWide_slice Try.underlying46 (hval 2 46 v2 rfl rfl)
  have k2 := h2
  have lt2 : ∀ x ∈ p2, x.block < W.heap.size := by obtain ⟨m, hm⟩ := k2; exact DataW.trod_lt m _ _ _ hm
  obtain ⟨l2, w2, f2⟩ := Den.open_sl (t := (.sl (.int .u8))) (by kernel_rfl) rfl rfl h2
  obtain ⟨a3, len3, cap3, rfl⟩ := okWide_slice Try.underlying46 (hval 3 46 v3 rfl rfl)
  have k3 := h3
  have lt3 : ∀ x ∈ p3, x.block < W.heap.size := by obtain ⟨m, hm⟩ := k3; exact DataW.trod_lt m _ _ _ hm
  obtain ⟨l3, w3, f3⟩ := Den.open_sl (t := (.sl (.int .u8))) (by kernel_rfl) rfl rfl h3
  clear hA0 hval0 hsz0 hsz
  refine (Den.the_law (W := W) a0 l1 l2 l3 w0 w1 f1 w2 f2 w3 f3).mono fun e W' ⟨he, bel⟩ => ?_
  subst he
  exact ⟨_, rfl, _, _, _, [], _, [], hW', trodAll_mk1 (shut_bool Try.underlying4 _), (trodAll_cons_mk (shut_int Try.underlying3 w0) (trodAll_cons_mk (Below.trod laidOut (by kernel_rfl) (of_decide_eq_true (by kernel_rfl)) k1 bel lt1) (trodAll_cons_mk (Below.trod laidOut (by kernel_rfl) (of_decide_eq_true (by kernel_rfl)) k2 bel lt2) (trodAll_cons_mk (Below.trod laidOut (by kernel_rfl) (of_decide_eq_true (by kernel_rfl)) k3 bel lt3) trodAll_mk0)))), rfl, bel.frame _, fun h => by cases h⟩
theorem over : Rows.walAddsRow.holds Try.pinned (OpenSpec.ofChange Rows.walAddsSpec) :=
  OpenClaim.holds_of_wide 11 Try.f11 rfl rfl rfl rfl rfl rfl rfl ⟨rfl, rfl, rfl, rfl, rfl⟩ rfl rfl rfl rfl rfl (by kernel_rfl) Try.func11 (by kernel_rfl)
    (of_decide_eq_true (by kernel_rfl)) (by unfold Func.isWrapper; first | (rw [if_pos (by decide +kernel)]; kernel_rfl) | (rw [if_neg (by decide +kernel)]; exact ⟨rfl, rfl⟩))
    (fun os started H enc _ => lifted os started H enc)
theorem proved : Rows.WalAddsSaid := over
#print axioms proved
end Go.Proofs.Ytjilcpjapnngfaa.walAdds
namespace Go.Proofs.Ytjilcpjapnngfaa
/-- The row, under a short name, for the claim. -/
theorem walAdds_holds : Rows.WalAddsSaid := walAdds.proved
end Go.Proofs.Ytjilcpjapnngfaa
