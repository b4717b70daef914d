/-
  NARROWER THAN 'FOR EVERY INPUT', by the rows' own cells (each row's printed sentence says how): PlanChooses: loops · PlanWithin: loops · ExprLogic: loops · ExprSame: loops · ExprTyped: loops · PlanEnough: loops.
  DERIVED. THE GIVEN ROWS OF THIS SEAT. 12 by the template 'for every input the law returns true; each argument reads behind the call as it read before'; 0 by the template 'total and deterministic' (their statements: YtmngjegceoidhaaTotals.lean).
  GIVEN WITH THE SEED: the statements are not yours to turn. If you find one false, say at which input.
  Laid BY PROGRAM, IN A SANDBOX (cutbox-rows.mjs): the forced cells as the released guide's own fill.sh prints them over the translation 8d89dc1e8c0c9ab7… (all of the seat's roots in one cut). By AI agents, Wed Nov 11 2026. No macro, syntax, notation, axiom, sorry.
-/
import Derived.Test.YtmngjegceoidhaaChecked
import GoSem.Claim
import GoSem.ClaimJoined
import GoSem.ClaimMapViews
import Derived.JoinedTies
import Derived.KernelRfl
namespace Go.Proofs.Ytmngjegceoidhaa
/- THE CELL 'sum', in the pinned program and in every row, IS THE sha256 OF THE DUMP (.gsa) THAT YtmngjegceoidhaaProg.lean LOADS. Nothing in Lean hashes anything: it is a label: what it is worth is what the hold of that sum in a sandbox is worth. -/
noncomputable def Try.pinned : Pinned := { name := "ytmngjegceoidhaa", sum := "8d89dc1e8c0c9ab7692dd5ac5613c1d642292d96300e60b7bf696055ad0c149e", checked := Try.checked }
namespace Rows
def none {H : Type} : Left H := { results := [], args := [] }

/-- 'plenumlaw21.CatOrders': WHATEVER THE INPUT: true; the input reads as it did. -/
def catOrdersSpec : ChangeSpec := { name := "catOrders", fn := fun _ => fun
  | [d1, d2, d3, d4] => { results := [.lit (.bool true)], args := [d1, d2, d3, d4] }
  | _ => none }
def catOrdersRow : OpenClaim := { program := "ytmngjegceoidhaa", sum := "8d89dc1e8c0c9ab7692dd5ac5613c1d642292d96300e60b7bf696055ad0c149e", func := "plenum/plenumlaw21.CatOrders", spec := "catOrders", apart := false }
def CatOrdersSaid : Prop := catOrdersRow.holds Try.pinned (OpenSpec.ofChange catOrdersSpec)

/-- ITS FALSE NEIGHBOUR: 'it returns false'. Refute it at one input. -/
def catOrdersWrong : ChangeSpec := { name := "catOrders", fn := fun _ => fun
  | [d1, d2, d3, d4] => { results := [.lit (.bool false)], args := [d1, d2, d3, d4] }
  | _ => none }
def CatOrdersWrongFalsely : Prop := catOrdersRow.holds Try.pinned (OpenSpec.ofChange catOrdersWrong)

/-- 'plenumlaw21.CatNames': WHATEVER THE INPUT: true; the input reads as it did. -/
def catNamesSpec : ChangeSpec := { name := "catNames", fn := fun _ => fun
  | [d1, d2, d3] => { results := [.lit (.bool true)], args := [d1, d2, d3] }
  | _ => none }
def catNamesRow : OpenClaim := { program := "ytmngjegceoidhaa", sum := "8d89dc1e8c0c9ab7692dd5ac5613c1d642292d96300e60b7bf696055ad0c149e", func := "plenum/plenumlaw21.CatNames", spec := "catNames", unfollowed := true, recurses := true, apart := false }
def CatNamesSaid : Prop := catNamesRow.holds Try.pinned (OpenSpec.ofChange catNamesSpec)

/-- ITS FALSE NEIGHBOUR: 'it returns false'. Refute it at one input. -/
def catNamesWrong : ChangeSpec := { name := "catNames", fn := fun _ => fun
  | [d1, d2, d3] => { results := [.lit (.bool false)], args := [d1, d2, d3] }
  | _ => none }
def CatNamesWrongFalsely : Prop := catNamesRow.holds Try.pinned (OpenSpec.ofChange catNamesWrong)

/-- 'plenumlaw23.PlanChooses': WHATEVER THE INPUT: true; the input reads as it did. -/
def planChoosesSpec : ChangeSpec := { name := "planChooses", fn := fun _ => fun
  | [d1, d2, d3] => { results := [.lit (.bool true)], args := [d1, d2, d3] }
  | _ => none }
def planChoosesRow : OpenClaim := { program := "ytmngjegceoidhaa", sum := "8d89dc1e8c0c9ab7692dd5ac5613c1d642292d96300e60b7bf696055ad0c149e", func := "plenum/plenumlaw23.PlanChooses", spec := "planChooses", recurses := true, loops := true, apart := false }
def PlanChoosesSaid : Prop := planChoosesRow.holds Try.pinned (OpenSpec.ofChange planChoosesSpec)

/-- ITS FALSE NEIGHBOUR: 'it returns false'. Refute it at one input. -/
def planChoosesWrong : ChangeSpec := { name := "planChooses", fn := fun _ => fun
  | [d1, d2, d3] => { results := [.lit (.bool false)], args := [d1, d2, d3] }
  | _ => none }
def PlanChoosesWrongFalsely : Prop := planChoosesRow.holds Try.pinned (OpenSpec.ofChange planChoosesWrong)

/-- 'plenumlaw23.PlanWithin': WHATEVER THE INPUT: true; the input reads as it did. -/
def planWithinSpec : ChangeSpec := { name := "planWithin", fn := fun _ => fun
  | [d1, d2, d3, d4] => { results := [.lit (.bool true)], args := [d1, d2, d3, d4] }
  | _ => none }
def planWithinRow : OpenClaim := { program := "ytmngjegceoidhaa", sum := "8d89dc1e8c0c9ab7692dd5ac5613c1d642292d96300e60b7bf696055ad0c149e", func := "plenum/plenumlaw23.PlanWithin", spec := "planWithin", recurses := true, loops := true, apart := false }
def PlanWithinSaid : Prop := planWithinRow.holds Try.pinned (OpenSpec.ofChange planWithinSpec)

/-- ITS FALSE NEIGHBOUR: 'it returns false'. Refute it at one input. -/
def planWithinWrong : ChangeSpec := { name := "planWithin", fn := fun _ => fun
  | [d1, d2, d3, d4] => { results := [.lit (.bool false)], args := [d1, d2, d3, d4] }
  | _ => none }
def PlanWithinWrongFalsely : Prop := planWithinRow.holds Try.pinned (OpenSpec.ofChange planWithinWrong)

/-- 'plenumlaw21.CatKeys': WHATEVER THE INPUT: true; the input reads as it did. -/
def catKeysSpec : ChangeSpec := { name := "catKeys", fn := fun _ => fun
  | [d1, d2, d3, d4] => { results := [.lit (.bool true)], args := [d1, d2, d3, d4] }
  | _ => none }
def catKeysRow : OpenClaim := { program := "ytmngjegceoidhaa", sum := "8d89dc1e8c0c9ab7692dd5ac5613c1d642292d96300e60b7bf696055ad0c149e", func := "plenum/plenumlaw21.CatKeys", spec := "catKeys", apart := false }
def CatKeysSaid : Prop := catKeysRow.holds Try.pinned (OpenSpec.ofChange catKeysSpec)

/-- ITS FALSE NEIGHBOUR: 'it returns false'. Refute it at one input. -/
def catKeysWrong : ChangeSpec := { name := "catKeys", fn := fun _ => fun
  | [d1, d2, d3, d4] => { results := [.lit (.bool false)], args := [d1, d2, d3, d4] }
  | _ => none }
def CatKeysWrongFalsely : Prop := catKeysRow.holds Try.pinned (OpenSpec.ofChange catKeysWrong)

/-- 'plenumlaw22.ExprNulls': WHATEVER THE INPUT: true; the input reads as it did. -/
def exprNullsSpec : ChangeSpec := { name := "exprNulls", fn := fun _ => fun
  | [d1, d2, d3] => { results := [.lit (.bool true)], args := [d1, d2, d3] }
  | _ => none }
def exprNullsRow : OpenClaim := { program := "ytmngjegceoidhaa", sum := "8d89dc1e8c0c9ab7692dd5ac5613c1d642292d96300e60b7bf696055ad0c149e", func := "plenum/plenumlaw22.ExprNulls", spec := "exprNulls", inPlace := ["internal/bytealg.abigen_runtime_cmpstring"], recurses := true, apart := false }
def ExprNullsSaid : Prop := exprNullsRow.holds Try.pinned (OpenSpec.ofChange exprNullsSpec)

/-- ITS FALSE NEIGHBOUR: 'it returns false'. Refute it at one input. -/
def exprNullsWrong : ChangeSpec := { name := "exprNulls", fn := fun _ => fun
  | [d1, d2, d3] => { results := [.lit (.bool false)], args := [d1, d2, d3] }
  | _ => none }
def ExprNullsWrongFalsely : Prop := exprNullsRow.holds Try.pinned (OpenSpec.ofChange exprNullsWrong)

/-- 'plenumlaw22.ExprLogic': WHATEVER THE INPUT: true; the input reads as it did. -/
def exprLogicSpec : ChangeSpec := { name := "exprLogic", fn := fun _ => fun
  | [d1, d2, d3] => { results := [.lit (.bool true)], args := [d1, d2, d3] }
  | _ => none }
def exprLogicRow : OpenClaim := { program := "ytmngjegceoidhaa", sum := "8d89dc1e8c0c9ab7692dd5ac5613c1d642292d96300e60b7bf696055ad0c149e", func := "plenum/plenumlaw22.ExprLogic", spec := "exprLogic", inPlace := ["internal/bytealg.abigen_runtime_cmpstring"], recurses := true, loops := true, apart := false }
def ExprLogicSaid : Prop := exprLogicRow.holds Try.pinned (OpenSpec.ofChange exprLogicSpec)

/-- ITS FALSE NEIGHBOUR: 'it returns false'. Refute it at one input. -/
def exprLogicWrong : ChangeSpec := { name := "exprLogic", fn := fun _ => fun
  | [d1, d2, d3] => { results := [.lit (.bool false)], args := [d1, d2, d3] }
  | _ => none }
def ExprLogicWrongFalsely : Prop := exprLogicRow.holds Try.pinned (OpenSpec.ofChange exprLogicWrong)

/-- 'plenumlaw22.ExprSame': WHATEVER THE INPUT: true; the input reads as it did. -/
def exprSameSpec : ChangeSpec := { name := "exprSame", fn := fun _ => fun
  | [d1, d2] => { results := [.lit (.bool true)], args := [d1, d2] }
  | _ => none }
def exprSameRow : OpenClaim := { program := "ytmngjegceoidhaa", sum := "8d89dc1e8c0c9ab7692dd5ac5613c1d642292d96300e60b7bf696055ad0c149e", func := "plenum/plenumlaw22.ExprSame", spec := "exprSame", inPlace := ["internal/bytealg.abigen_runtime_cmpstring"], unfollowed := true, recurses := true, loops := true, apart := false }
def ExprSameSaid : Prop := exprSameRow.holds Try.pinned (OpenSpec.ofChange exprSameSpec)

/-- ITS FALSE NEIGHBOUR: 'it returns false'. Refute it at one input. -/
def exprSameWrong : ChangeSpec := { name := "exprSame", fn := fun _ => fun
  | [d1, d2] => { results := [.lit (.bool false)], args := [d1, d2] }
  | _ => none }
def ExprSameWrongFalsely : Prop := exprSameRow.holds Try.pinned (OpenSpec.ofChange exprSameWrong)

/-- 'plenumlaw21.CatWrites': WHATEVER THE INPUT: true; the input reads as it did. -/
def catWritesSpec : ChangeSpec := { name := "catWrites", fn := fun _ => fun
  | [d1, d2, d3, d4] => { results := [.lit (.bool true)], args := [d1, d2, d3, d4] }
  | _ => none }
def catWritesRow : OpenClaim := { program := "ytmngjegceoidhaa", sum := "8d89dc1e8c0c9ab7692dd5ac5613c1d642292d96300e60b7bf696055ad0c149e", func := "plenum/plenumlaw21.CatWrites", spec := "catWrites", apart := false }
def CatWritesSaid : Prop := catWritesRow.holds Try.pinned (OpenSpec.ofChange catWritesSpec)

/-- ITS FALSE NEIGHBOUR: 'it returns false'. Refute it at one input. -/
def catWritesWrong : ChangeSpec := { name := "catWrites", fn := fun _ => fun
  | [d1, d2, d3, d4] => { results := [.lit (.bool false)], args := [d1, d2, d3, d4] }
  | _ => none }
def CatWritesWrongFalsely : Prop := catWritesRow.holds Try.pinned (OpenSpec.ofChange catWritesWrong)

/-- 'plenumlaw21.CatBack': WHATEVER THE INPUT: true; the input reads as it did. -/
def catBackSpec : ChangeSpec := { name := "catBack", fn := fun _ => fun
  | [d1, d2] => { results := [.lit (.bool true)], args := [d1, d2] }
  | _ => none }
def catBackRow : OpenClaim := { program := "ytmngjegceoidhaa", sum := "8d89dc1e8c0c9ab7692dd5ac5613c1d642292d96300e60b7bf696055ad0c149e", func := "plenum/plenumlaw21.CatBack", spec := "catBack", apart := false }
def CatBackSaid : Prop := catBackRow.holds Try.pinned (OpenSpec.ofChange catBackSpec)

/-- ITS FALSE NEIGHBOUR: 'it returns false'. Refute it at one input. -/
def catBackWrong : ChangeSpec := { name := "catBack", fn := fun _ => fun
  | [d1, d2] => { results := [.lit (.bool false)], args := [d1, d2] }
  | _ => none }
def CatBackWrongFalsely : Prop := catBackRow.holds Try.pinned (OpenSpec.ofChange catBackWrong)

/-- 'plenumlaw22.ExprTyped': WHATEVER THE INPUT: true; the input reads as it did. -/
def exprTypedSpec : ChangeSpec := { name := "exprTyped", fn := fun _ => fun
  | [d1, d2, d3] => { results := [.lit (.bool true)], args := [d1, d2, d3] }
  | _ => none }
def exprTypedRow : OpenClaim := { program := "ytmngjegceoidhaa", sum := "8d89dc1e8c0c9ab7692dd5ac5613c1d642292d96300e60b7bf696055ad0c149e", func := "plenum/plenumlaw22.ExprTyped", spec := "exprTyped", inPlace := ["internal/bytealg.abigen_runtime_cmpstring"], unfollowed := true, recurses := true, loops := true, apart := false }
def ExprTypedSaid : Prop := exprTypedRow.holds Try.pinned (OpenSpec.ofChange exprTypedSpec)

/-- ITS FALSE NEIGHBOUR: 'it returns false'. Refute it at one input. -/
def exprTypedWrong : ChangeSpec := { name := "exprTyped", fn := fun _ => fun
  | [d1, d2, d3] => { results := [.lit (.bool false)], args := [d1, d2, d3] }
  | _ => none }
def ExprTypedWrongFalsely : Prop := exprTypedRow.holds Try.pinned (OpenSpec.ofChange exprTypedWrong)

/-- 'plenumlaw23.PlanEnough': WHATEVER THE INPUT: true; the input reads as it did. -/
def planEnoughSpec : ChangeSpec := { name := "planEnough", fn := fun _ => fun
  | [d1, d2, d3] => { results := [.lit (.bool true)], args := [d1, d2, d3] }
  | _ => none }
def planEnoughRow : OpenClaim := { program := "ytmngjegceoidhaa", sum := "8d89dc1e8c0c9ab7692dd5ac5613c1d642292d96300e60b7bf696055ad0c149e", func := "plenum/plenumlaw23.PlanEnough", spec := "planEnough", inPlace := ["internal/bytealg.abigen_runtime_cmpstring"], unfollowed := true, recurses := true, loops := true, apart := false }
def PlanEnoughSaid : Prop := planEnoughRow.holds Try.pinned (OpenSpec.ofChange planEnoughSpec)

/-- ITS FALSE NEIGHBOUR: 'it returns false'. Refute it at one input. -/
def planEnoughWrong : ChangeSpec := { name := "planEnough", fn := fun _ => fun
  | [d1, d2, d3] => { results := [.lit (.bool false)], args := [d1, d2, d3] }
  | _ => none }
def PlanEnoughWrongFalsely : Prop := planEnoughRow.holds Try.pinned (OpenSpec.ofChange planEnoughWrong)

/- THE SECOND FORM. 'bulk': how many values and letters a reading holds, each counted each time it is reached (what is shared counts as often as it is met; a slice's spare places count too). A statement '..UptoSaid' is the law's where the arguments, and the package variables that the reading takes, are together of bulk at most 1048576: NARROWER than '..Said'. Prove '..Said' where nothing that the law and all that it calls make is longer than what came in: it says more and counts as full. Else prove '..UptoSaid'. A law counts once. -/
mutual
def uptoBulk {H : Type} : DataW H → Nat
  | .lit (.string bytes) => bytes.length + 1
  | .lit _ => 1
  | .nil => 1
  | .ptr d => uptoBulk d + 1
  | .slice elems spare => uptoBulkAll elems + uptoBulkAll spare + 1
  | .agg parts => uptoBulkAll parts + 1
  | .iface _ d => uptoBulk d + 1
  | .map entries => uptoBulkEntries entries + 1
  | .held _ => 1
def uptoBulkAll {H : Type} : List (DataW H) → Nat
  | [] => 0
  | d :: r => uptoBulk d + uptoBulkAll r
def uptoBulkEntries {H : Type} : List (Lit × DataW H) → Nat
  | [] => 0
  | x :: r => uptoBulkEntry x + uptoBulkEntries r
def uptoBulkEntry {H : Type} : Lit × DataW H → Nat
  | (.string bytes, d) => bytes.length + uptoBulk d + 1
  | (_, d) => uptoBulk d + 1
 end
def uptoSmall : (H : Type) → List (DataW H) → Bool := fun _ ds => decide (uptoBulkAll ds ≤ 1048576)
def OpenSpec.upto (s : _root_.Go.ChangeSpec) : _root_.Go.OpenSpec := { _root_.Go.OpenSpec.ofChange s with cond := some uptoSmall }

/-- 'plenumlaw21.CatOrders', WHERE WHAT IT READS IS OF BULK AT MOST 1048576: true; the input reads as it did. -/
def catOrdersUptoRow : OpenClaim := { program := "ytmngjegceoidhaa", sum := "8d89dc1e8c0c9ab7692dd5ac5613c1d642292d96300e60b7bf696055ad0c149e", func := "plenum/plenumlaw21.CatOrders", spec := "catOrders", apart := false, narrowed := true }
def CatOrdersUptoSaid : Prop := catOrdersUptoRow.holds Try.pinned (OpenSpec.upto catOrdersSpec)

/-- 'plenumlaw21.CatNames', WHERE WHAT IT READS IS OF BULK AT MOST 1048576: true; the input reads as it did. -/
def catNamesUptoRow : OpenClaim := { program := "ytmngjegceoidhaa", sum := "8d89dc1e8c0c9ab7692dd5ac5613c1d642292d96300e60b7bf696055ad0c149e", func := "plenum/plenumlaw21.CatNames", spec := "catNames", unfollowed := true, recurses := true, apart := false, narrowed := true }
def CatNamesUptoSaid : Prop := catNamesUptoRow.holds Try.pinned (OpenSpec.upto catNamesSpec)

/-- 'plenumlaw23.PlanChooses', WHERE WHAT IT READS IS OF BULK AT MOST 1048576: true; the input reads as it did. -/
def planChoosesUptoRow : OpenClaim := { program := "ytmngjegceoidhaa", sum := "8d89dc1e8c0c9ab7692dd5ac5613c1d642292d96300e60b7bf696055ad0c149e", func := "plenum/plenumlaw23.PlanChooses", spec := "planChooses", recurses := true, loops := true, apart := false, narrowed := true }
def PlanChoosesUptoSaid : Prop := planChoosesUptoRow.holds Try.pinned (OpenSpec.upto planChoosesSpec)

/-- 'plenumlaw23.PlanWithin', WHERE WHAT IT READS IS OF BULK AT MOST 1048576: true; the input reads as it did. -/
def planWithinUptoRow : OpenClaim := { program := "ytmngjegceoidhaa", sum := "8d89dc1e8c0c9ab7692dd5ac5613c1d642292d96300e60b7bf696055ad0c149e", func := "plenum/plenumlaw23.PlanWithin", spec := "planWithin", recurses := true, loops := true, apart := false, narrowed := true }
def PlanWithinUptoSaid : Prop := planWithinUptoRow.holds Try.pinned (OpenSpec.upto planWithinSpec)

/-- 'plenumlaw21.CatKeys', WHERE WHAT IT READS IS OF BULK AT MOST 1048576: true; the input reads as it did. -/
def catKeysUptoRow : OpenClaim := { program := "ytmngjegceoidhaa", sum := "8d89dc1e8c0c9ab7692dd5ac5613c1d642292d96300e60b7bf696055ad0c149e", func := "plenum/plenumlaw21.CatKeys", spec := "catKeys", apart := false, narrowed := true }
def CatKeysUptoSaid : Prop := catKeysUptoRow.holds Try.pinned (OpenSpec.upto catKeysSpec)

/-- 'plenumlaw22.ExprNulls', WHERE WHAT IT READS IS OF BULK AT MOST 1048576: true; the input reads as it did. -/
def exprNullsUptoRow : OpenClaim := { program := "ytmngjegceoidhaa", sum := "8d89dc1e8c0c9ab7692dd5ac5613c1d642292d96300e60b7bf696055ad0c149e", func := "plenum/plenumlaw22.ExprNulls", spec := "exprNulls", inPlace := ["internal/bytealg.abigen_runtime_cmpstring"], recurses := true, apart := false, narrowed := true }
def ExprNullsUptoSaid : Prop := exprNullsUptoRow.holds Try.pinned (OpenSpec.upto exprNullsSpec)

/-- 'plenumlaw22.ExprLogic', WHERE WHAT IT READS IS OF BULK AT MOST 1048576: true; the input reads as it did. -/
def exprLogicUptoRow : OpenClaim := { program := "ytmngjegceoidhaa", sum := "8d89dc1e8c0c9ab7692dd5ac5613c1d642292d96300e60b7bf696055ad0c149e", func := "plenum/plenumlaw22.ExprLogic", spec := "exprLogic", inPlace := ["internal/bytealg.abigen_runtime_cmpstring"], recurses := true, loops := true, apart := false, narrowed := true }
def ExprLogicUptoSaid : Prop := exprLogicUptoRow.holds Try.pinned (OpenSpec.upto exprLogicSpec)

/-- 'plenumlaw22.ExprSame', WHERE WHAT IT READS IS OF BULK AT MOST 1048576: true; the input reads as it did. -/
def exprSameUptoRow : OpenClaim := { program := "ytmngjegceoidhaa", sum := "8d89dc1e8c0c9ab7692dd5ac5613c1d642292d96300e60b7bf696055ad0c149e", func := "plenum/plenumlaw22.ExprSame", spec := "exprSame", inPlace := ["internal/bytealg.abigen_runtime_cmpstring"], unfollowed := true, recurses := true, loops := true, apart := false, narrowed := true }
def ExprSameUptoSaid : Prop := exprSameUptoRow.holds Try.pinned (OpenSpec.upto exprSameSpec)

/-- 'plenumlaw21.CatWrites', WHERE WHAT IT READS IS OF BULK AT MOST 1048576: true; the input reads as it did. -/
def catWritesUptoRow : OpenClaim := { program := "ytmngjegceoidhaa", sum := "8d89dc1e8c0c9ab7692dd5ac5613c1d642292d96300e60b7bf696055ad0c149e", func := "plenum/plenumlaw21.CatWrites", spec := "catWrites", apart := false, narrowed := true }
def CatWritesUptoSaid : Prop := catWritesUptoRow.holds Try.pinned (OpenSpec.upto catWritesSpec)

/-- 'plenumlaw21.CatBack', WHERE WHAT IT READS IS OF BULK AT MOST 1048576: true; the input reads as it did. -/
def catBackUptoRow : OpenClaim := { program := "ytmngjegceoidhaa", sum := "8d89dc1e8c0c9ab7692dd5ac5613c1d642292d96300e60b7bf696055ad0c149e", func := "plenum/plenumlaw21.CatBack", spec := "catBack", apart := false, narrowed := true }
def CatBackUptoSaid : Prop := catBackUptoRow.holds Try.pinned (OpenSpec.upto catBackSpec)

/-- 'plenumlaw22.ExprTyped', WHERE WHAT IT READS IS OF BULK AT MOST 1048576: true; the input reads as it did. -/
def exprTypedUptoRow : OpenClaim := { program := "ytmngjegceoidhaa", sum := "8d89dc1e8c0c9ab7692dd5ac5613c1d642292d96300e60b7bf696055ad0c149e", func := "plenum/plenumlaw22.ExprTyped", spec := "exprTyped", inPlace := ["internal/bytealg.abigen_runtime_cmpstring"], unfollowed := true, recurses := true, loops := true, apart := false, narrowed := true }
def ExprTypedUptoSaid : Prop := exprTypedUptoRow.holds Try.pinned (OpenSpec.upto exprTypedSpec)

/-- 'plenumlaw23.PlanEnough', WHERE WHAT IT READS IS OF BULK AT MOST 1048576: true; the input reads as it did. -/
def planEnoughUptoRow : OpenClaim := { program := "ytmngjegceoidhaa", sum := "8d89dc1e8c0c9ab7692dd5ac5613c1d642292d96300e60b7bf696055ad0c149e", func := "plenum/plenumlaw23.PlanEnough", spec := "planEnough", inPlace := ["internal/bytealg.abigen_runtime_cmpstring"], unfollowed := true, recurses := true, loops := true, apart := false, narrowed := true }
def PlanEnoughUptoSaid : Prop := planEnoughUptoRow.holds Try.pinned (OpenSpec.upto planEnoughSpec)

end Rows
end Go.Proofs.Ytmngjegceoidhaa
