/-
  No cell of these rows narrows 'for every input' (looked for: loops, veiled, ifaces, maps, wideKeys, modest, calm, conditions, laid).
  DERIVED. THE GIVEN ROWS OF THIS SEAT. 12 by the template 'for every input the law returns true; each argument reads behind the call as it read before'; 0 by the template 'total and deterministic' (their statements: YtjongebmeoimoaaTotals.lean).
  GIVEN WITH THE SEED: the statements are not yours to turn. If you find one false, say at which input.
  Laid BY PROGRAM, IN A SANDBOX (cutbox-rows.mjs): the forced cells as the released guide's own fill.sh prints them over the translation e04a2b8ca9158944… (all of the seat's roots in one cut). By AI agents, Wed Nov 11 2026. No macro, syntax, notation, axiom, sorry.
-/
import Derived.Test.YtjongebmeoimoaaChecked
import GoSem.Claim
import GoSem.ClaimJoined
import GoSem.ClaimMapViews
import Derived.JoinedTies
import Derived.KernelRfl
namespace Go.Proofs.Ytjongebmeoimoaa
/- THE CELL 'sum', in the pinned program and in every row, IS THE sha256 OF THE DUMP (.gsa) THAT YtjongebmeoimoaaProg.lean LOADS. Nothing in Lean hashes anything: it is a label: what it is worth is what the hold of that sum in a sandbox is worth. -/
noncomputable def Try.pinned : Pinned := { name := "ytjongebmeoimoaa", sum := "e04a2b8ca915894461816247f001adac6b33b4cdc7dad8af5f01389a004ca6ae", checked := Try.checked }
namespace Rows
def none {H : Type} : Left H := { results := [], args := [] }

/-- 'plenumlaw02.OkeyNexts': WHATEVER THE INPUT: true; the input reads as it did. -/
def okeyNextsSpec : ChangeSpec := { name := "okeyNexts", fn := fun _ => fun
  | [d1, d2, d3] => { results := [.lit (.bool true)], args := [d1, d2, d3] }
  | _ => none }
def okeyNextsRow : OpenClaim := { program := "ytjongebmeoimoaa", sum := "e04a2b8ca915894461816247f001adac6b33b4cdc7dad8af5f01389a004ca6ae", func := "plenum/plenumlaw02.OkeyNexts", spec := "okeyNexts", inPlace := ["internal/bytealg.Compare"], apart := false }
def OkeyNextsSaid : Prop := okeyNextsRow.holds Try.pinned (OpenSpec.ofChange okeyNextsSpec)

/-- ITS FALSE NEIGHBOUR: 'it returns false'. Refute it at one input. -/
def okeyNextsWrong : ChangeSpec := { name := "okeyNexts", fn := fun _ => fun
  | [d1, d2, d3] => { results := [.lit (.bool false)], args := [d1, d2, d3] }
  | _ => none }
def OkeyNextsWrongFalsely : Prop := okeyNextsRow.holds Try.pinned (OpenSpec.ofChange okeyNextsWrong)

/-- 'plenumlaw02.OkeyBegins': WHATEVER THE INPUT: true; the input reads as it did. -/
def okeyBeginsSpec : ChangeSpec := { name := "okeyBegins", fn := fun _ => fun
  | [d1, d2] => { results := [.lit (.bool true)], args := [d1, d2] }
  | _ => none }
def okeyBeginsRow : OpenClaim := { program := "ytjongebmeoimoaa", sum := "e04a2b8ca915894461816247f001adac6b33b4cdc7dad8af5f01389a004ca6ae", func := "plenum/plenumlaw02.OkeyBegins", spec := "okeyBegins", inPlace := ["internal/bytealg.Compare"], apart := false }
def OkeyBeginsSaid : Prop := okeyBeginsRow.holds Try.pinned (OpenSpec.ofChange okeyBeginsSpec)

/-- ITS FALSE NEIGHBOUR: 'it returns false'. Refute it at one input. -/
def okeyBeginsWrong : ChangeSpec := { name := "okeyBegins", fn := fun _ => fun
  | [d1, d2] => { results := [.lit (.bool false)], args := [d1, d2] }
  | _ => none }
def OkeyBeginsWrongFalsely : Prop := okeyBeginsRow.holds Try.pinned (OpenSpec.ofChange okeyBeginsWrong)

/-- 'plenumlaw03.RowWrites': WHATEVER THE INPUT: true; the input reads as it did. -/
def rowWritesSpec : ChangeSpec := { name := "rowWrites", fn := fun _ => fun
  | [d] => { results := [.lit (.bool true)], args := [d] }
  | _ => none }
def rowWritesRow : OpenClaim := { program := "ytjongebmeoimoaa", sum := "e04a2b8ca915894461816247f001adac6b33b4cdc7dad8af5f01389a004ca6ae", func := "plenum/plenumlaw03.RowWrites", spec := "rowWrites", apart := false }
def RowWritesSaid : Prop := rowWritesRow.holds Try.pinned (OpenSpec.ofChange rowWritesSpec)

/-- ITS FALSE NEIGHBOUR: 'it returns false'. Refute it at one input. -/
def rowWritesWrong : ChangeSpec := { name := "rowWrites", fn := fun _ => fun
  | [d] => { results := [.lit (.bool false)], args := [d] }
  | _ => none }
def RowWritesWrongFalsely : Prop := rowWritesRow.holds Try.pinned (OpenSpec.ofChange rowWritesWrong)

/-- 'plenumlaw03.RowReads': WHATEVER THE INPUT: true; the input reads as it did. -/
def rowReadsSpec : ChangeSpec := { name := "rowReads", fn := fun _ => fun
  | [d1, d2] => { results := [.lit (.bool true)], args := [d1, d2] }
  | _ => none }
def rowReadsRow : OpenClaim := { program := "ytjongebmeoimoaa", sum := "e04a2b8ca915894461816247f001adac6b33b4cdc7dad8af5f01389a004ca6ae", func := "plenum/plenumlaw03.RowReads", spec := "rowReads", apart := false }
def RowReadsSaid : Prop := rowReadsRow.holds Try.pinned (OpenSpec.ofChange rowReadsSpec)

/-- ITS FALSE NEIGHBOUR: 'it returns false'. Refute it at one input. -/
def rowReadsWrong : ChangeSpec := { name := "rowReads", fn := fun _ => fun
  | [d1, d2] => { results := [.lit (.bool false)], args := [d1, d2] }
  | _ => none }
def RowReadsWrongFalsely : Prop := rowReadsRow.holds Try.pinned (OpenSpec.ofChange rowReadsWrong)

/-- 'plenumlaw02.OkeyKeeps': WHATEVER THE INPUT: true; the input reads as it did. -/
def okeyKeepsSpec : ChangeSpec := { name := "okeyKeeps", fn := fun _ => fun
  | [d1, d2] => { results := [.lit (.bool true)], args := [d1, d2] }
  | _ => none }
def okeyKeepsRow : OpenClaim := { program := "ytjongebmeoimoaa", sum := "e04a2b8ca915894461816247f001adac6b33b4cdc7dad8af5f01389a004ca6ae", func := "plenum/plenumlaw02.OkeyKeeps", spec := "okeyKeeps", inPlace := ["internal/bytealg.abigen_runtime_cmpstring"], apart := false }
def OkeyKeepsSaid : Prop := okeyKeepsRow.holds Try.pinned (OpenSpec.ofChange okeyKeepsSpec)

/-- ITS FALSE NEIGHBOUR: 'it returns false'. Refute it at one input. -/
def okeyKeepsWrong : ChangeSpec := { name := "okeyKeeps", fn := fun _ => fun
  | [d1, d2] => { results := [.lit (.bool false)], args := [d1, d2] }
  | _ => none }
def OkeyKeepsWrongFalsely : Prop := okeyKeepsRow.holds Try.pinned (OpenSpec.ofChange okeyKeepsWrong)

/-- 'plenumlaw02.OkeyOrders': WHATEVER THE INPUT: true; the input reads as it did. -/
def okeyOrdersSpec : ChangeSpec := { name := "okeyOrders", fn := fun _ => fun
  | [d1, d2] => { results := [.lit (.bool true)], args := [d1, d2] }
  | _ => none }
def okeyOrdersRow : OpenClaim := { program := "ytjongebmeoimoaa", sum := "e04a2b8ca915894461816247f001adac6b33b4cdc7dad8af5f01389a004ca6ae", func := "plenum/plenumlaw02.OkeyOrders", spec := "okeyOrders", inPlace := ["internal/bytealg.abigen_runtime_cmpstring"], apart := false }
def OkeyOrdersSaid : Prop := okeyOrdersRow.holds Try.pinned (OpenSpec.ofChange okeyOrdersSpec)

/-- ITS FALSE NEIGHBOUR: 'it returns false'. Refute it at one input. -/
def okeyOrdersWrong : ChangeSpec := { name := "okeyOrders", fn := fun _ => fun
  | [d1, d2] => { results := [.lit (.bool false)], args := [d1, d2] }
  | _ => none }
def OkeyOrdersWrongFalsely : Prop := okeyOrdersRow.holds Try.pinned (OpenSpec.ofChange okeyOrdersWrong)

/-- 'plenumlaw02.OkeyPuts': WHATEVER THE INPUT: true; the input reads as it did. -/
def okeyPutsSpec : ChangeSpec := { name := "okeyPuts", fn := fun _ => fun
  | [d1, d2] => { results := [.lit (.bool true)], args := [d1, d2] }
  | _ => none }
def okeyPutsRow : OpenClaim := { program := "ytjongebmeoimoaa", sum := "e04a2b8ca915894461816247f001adac6b33b4cdc7dad8af5f01389a004ca6ae", func := "plenum/plenumlaw02.OkeyPuts", spec := "okeyPuts", apart := false }
def OkeyPutsSaid : Prop := okeyPutsRow.holds Try.pinned (OpenSpec.ofChange okeyPutsSpec)

/-- ITS FALSE NEIGHBOUR: 'it returns false'. Refute it at one input. -/
def okeyPutsWrong : ChangeSpec := { name := "okeyPuts", fn := fun _ => fun
  | [d1, d2] => { results := [.lit (.bool false)], args := [d1, d2] }
  | _ => none }
def OkeyPutsWrongFalsely : Prop := okeyPutsRow.holds Try.pinned (OpenSpec.ofChange okeyPutsWrong)

/-- 'plenumlaw02.OkeyBack': WHATEVER THE INPUT: true; the input reads as it did. -/
def okeyBackSpec : ChangeSpec := { name := "okeyBack", fn := fun _ => fun
  | [d1, d2] => { results := [.lit (.bool true)], args := [d1, d2] }
  | _ => none }
def okeyBackRow : OpenClaim := { program := "ytjongebmeoimoaa", sum := "e04a2b8ca915894461816247f001adac6b33b4cdc7dad8af5f01389a004ca6ae", func := "plenum/plenumlaw02.OkeyBack", spec := "okeyBack", apart := false }
def OkeyBackSaid : Prop := okeyBackRow.holds Try.pinned (OpenSpec.ofChange okeyBackSpec)

/-- ITS FALSE NEIGHBOUR: 'it returns false'. Refute it at one input. -/
def okeyBackWrong : ChangeSpec := { name := "okeyBack", fn := fun _ => fun
  | [d1, d2] => { results := [.lit (.bool false)], args := [d1, d2] }
  | _ => none }
def OkeyBackWrongFalsely : Prop := okeyBackRow.holds Try.pinned (OpenSpec.ofChange okeyBackWrong)

/-- 'plenumlaw03.RowBack': WHATEVER THE INPUT: true; the input reads as it did. -/
def rowBackSpec : ChangeSpec := { name := "rowBack", fn := fun _ => fun
  | [d] => { results := [.lit (.bool true)], args := [d] }
  | _ => none }
def rowBackRow : OpenClaim := { program := "ytjongebmeoimoaa", sum := "e04a2b8ca915894461816247f001adac6b33b4cdc7dad8af5f01389a004ca6ae", func := "plenum/plenumlaw03.RowBack", spec := "rowBack", apart := false }
def RowBackSaid : Prop := rowBackRow.holds Try.pinned (OpenSpec.ofChange rowBackSpec)

/-- ITS FALSE NEIGHBOUR: 'it returns false'. Refute it at one input. -/
def rowBackWrong : ChangeSpec := { name := "rowBack", fn := fun _ => fun
  | [d] => { results := [.lit (.bool false)], args := [d] }
  | _ => none }
def RowBackWrongFalsely : Prop := rowBackRow.holds Try.pinned (OpenSpec.ofChange rowBackWrong)

/-- 'plenumlaw03.RowNone': WHATEVER THE INPUT: true; the input reads as it did. -/
def rowNoneSpec : ChangeSpec := { name := "rowNone", fn := fun _ => fun
  | [d1, d2, d3] => { results := [.lit (.bool true)], args := [d1, d2, d3] }
  | _ => none }
def rowNoneRow : OpenClaim := { program := "ytjongebmeoimoaa", sum := "e04a2b8ca915894461816247f001adac6b33b4cdc7dad8af5f01389a004ca6ae", func := "plenum/plenumlaw03.RowNone", spec := "rowNone", apart := false }
def RowNoneSaid : Prop := rowNoneRow.holds Try.pinned (OpenSpec.ofChange rowNoneSpec)

/-- ITS FALSE NEIGHBOUR: 'it returns false'. Refute it at one input. -/
def rowNoneWrong : ChangeSpec := { name := "rowNone", fn := fun _ => fun
  | [d1, d2, d3] => { results := [.lit (.bool false)], args := [d1, d2, d3] }
  | _ => none }
def RowNoneWrongFalsely : Prop := rowNoneRow.holds Try.pinned (OpenSpec.ofChange rowNoneWrong)

/-- 'plenumlaw03.RowRows': WHATEVER THE INPUT: true; the input reads as it did. -/
def rowRowsSpec : ChangeSpec := { name := "rowRows", fn := fun _ => fun
  | [d1, d2] => { results := [.lit (.bool true)], args := [d1, d2] }
  | _ => none }
def rowRowsRow : OpenClaim := { program := "ytjongebmeoimoaa", sum := "e04a2b8ca915894461816247f001adac6b33b4cdc7dad8af5f01389a004ca6ae", func := "plenum/plenumlaw03.RowRows", spec := "rowRows", apart := false }
def RowRowsSaid : Prop := rowRowsRow.holds Try.pinned (OpenSpec.ofChange rowRowsSpec)

/-- ITS FALSE NEIGHBOUR: 'it returns false'. Refute it at one input. -/
def rowRowsWrong : ChangeSpec := { name := "rowRows", fn := fun _ => fun
  | [d1, d2] => { results := [.lit (.bool false)], args := [d1, d2] }
  | _ => none }
def RowRowsWrongFalsely : Prop := rowRowsRow.holds Try.pinned (OpenSpec.ofChange rowRowsWrong)

/-- 'plenumlaw03.RowOnce': WHATEVER THE INPUT: true; the input reads as it did. -/
def rowOnceSpec : ChangeSpec := { name := "rowOnce", fn := fun _ => fun
  | [d1, d2] => { results := [.lit (.bool true)], args := [d1, d2] }
  | _ => none }
def rowOnceRow : OpenClaim := { program := "ytjongebmeoimoaa", sum := "e04a2b8ca915894461816247f001adac6b33b4cdc7dad8af5f01389a004ca6ae", func := "plenum/plenumlaw03.RowOnce", spec := "rowOnce", apart := false }
def RowOnceSaid : Prop := rowOnceRow.holds Try.pinned (OpenSpec.ofChange rowOnceSpec)

/-- ITS FALSE NEIGHBOUR: 'it returns false'. Refute it at one input. -/
def rowOnceWrong : ChangeSpec := { name := "rowOnce", fn := fun _ => fun
  | [d1, d2] => { results := [.lit (.bool false)], args := [d1, d2] }
  | _ => none }
def RowOnceWrongFalsely : Prop := rowOnceRow.holds Try.pinned (OpenSpec.ofChange rowOnceWrong)

/- THE SECOND FORM. 'bulk': how many values and letters a reading holds, each counted each time it is reached (what is shared counts as often as it is met; a slice's spare places count too). A statement '..UptoSaid' is the law's where the arguments, and the package variables that the reading takes, are together of bulk at most 1048576: NARROWER than '..Said'. Prove '..Said' where nothing that the law and all that it calls make is longer than what came in: it says more and counts as full. Else prove '..UptoSaid'. A law counts once. -/
mutual
def uptoBulk {H : Type} : DataW H → Nat
  | .lit (.string bytes) => bytes.length + 1
  | .lit _ => 1
  | .nil => 1
  | .ptr d => uptoBulk d + 1
  | .slice elems spare => uptoBulkAll elems + uptoBulkAll spare + 1
  | .agg parts => uptoBulkAll parts + 1
  | .iface _ d => uptoBulk d + 1
  | .map entries => uptoBulkEntries entries + 1
  | .held _ => 1
def uptoBulkAll {H : Type} : List (DataW H) → Nat
  | [] => 0
  | d :: r => uptoBulk d + uptoBulkAll r
def uptoBulkEntries {H : Type} : List (Lit × DataW H) → Nat
  | [] => 0
  | x :: r => uptoBulkEntry x + uptoBulkEntries r
def uptoBulkEntry {H : Type} : Lit × DataW H → Nat
  | (.string bytes, d) => bytes.length + uptoBulk d + 1
  | (_, d) => uptoBulk d + 1
 end
def uptoSmall : (H : Type) → List (DataW H) → Bool := fun _ ds => decide (uptoBulkAll ds ≤ 1048576)
def OpenSpec.upto (s : _root_.Go.ChangeSpec) : _root_.Go.OpenSpec := { _root_.Go.OpenSpec.ofChange s with cond := some uptoSmall }

/-- 'plenumlaw02.OkeyNexts', WHERE WHAT IT READS IS OF BULK AT MOST 1048576: true; the input reads as it did. -/
def okeyNextsUptoRow : OpenClaim := { program := "ytjongebmeoimoaa", sum := "e04a2b8ca915894461816247f001adac6b33b4cdc7dad8af5f01389a004ca6ae", func := "plenum/plenumlaw02.OkeyNexts", spec := "okeyNexts", inPlace := ["internal/bytealg.Compare"], apart := false, narrowed := true }
def OkeyNextsUptoSaid : Prop := okeyNextsUptoRow.holds Try.pinned (OpenSpec.upto okeyNextsSpec)

/-- 'plenumlaw02.OkeyBegins', WHERE WHAT IT READS IS OF BULK AT MOST 1048576: true; the input reads as it did. -/
def okeyBeginsUptoRow : OpenClaim := { program := "ytjongebmeoimoaa", sum := "e04a2b8ca915894461816247f001adac6b33b4cdc7dad8af5f01389a004ca6ae", func := "plenum/plenumlaw02.OkeyBegins", spec := "okeyBegins", inPlace := ["internal/bytealg.Compare"], apart := false, narrowed := true }
def OkeyBeginsUptoSaid : Prop := okeyBeginsUptoRow.holds Try.pinned (OpenSpec.upto okeyBeginsSpec)

/-- 'plenumlaw03.RowWrites', WHERE WHAT IT READS IS OF BULK AT MOST 1048576: true; the input reads as it did. -/
def rowWritesUptoRow : OpenClaim := { program := "ytjongebmeoimoaa", sum := "e04a2b8ca915894461816247f001adac6b33b4cdc7dad8af5f01389a004ca6ae", func := "plenum/plenumlaw03.RowWrites", spec := "rowWrites", apart := false, narrowed := true }
def RowWritesUptoSaid : Prop := rowWritesUptoRow.holds Try.pinned (OpenSpec.upto rowWritesSpec)

/-- 'plenumlaw03.RowReads', WHERE WHAT IT READS IS OF BULK AT MOST 1048576: true; the input reads as it did. -/
def rowReadsUptoRow : OpenClaim := { program := "ytjongebmeoimoaa", sum := "e04a2b8ca915894461816247f001adac6b33b4cdc7dad8af5f01389a004ca6ae", func := "plenum/plenumlaw03.RowReads", spec := "rowReads", apart := false, narrowed := true }
def RowReadsUptoSaid : Prop := rowReadsUptoRow.holds Try.pinned (OpenSpec.upto rowReadsSpec)

/-- 'plenumlaw02.OkeyKeeps', WHERE WHAT IT READS IS OF BULK AT MOST 1048576: true; the input reads as it did. -/
def okeyKeepsUptoRow : OpenClaim := { program := "ytjongebmeoimoaa", sum := "e04a2b8ca915894461816247f001adac6b33b4cdc7dad8af5f01389a004ca6ae", func := "plenum/plenumlaw02.OkeyKeeps", spec := "okeyKeeps", inPlace := ["internal/bytealg.abigen_runtime_cmpstring"], apart := false, narrowed := true }
def OkeyKeepsUptoSaid : Prop := okeyKeepsUptoRow.holds Try.pinned (OpenSpec.upto okeyKeepsSpec)

/-- 'plenumlaw02.OkeyOrders', WHERE WHAT IT READS IS OF BULK AT MOST 1048576: true; the input reads as it did. -/
def okeyOrdersUptoRow : OpenClaim := { program := "ytjongebmeoimoaa", sum := "e04a2b8ca915894461816247f001adac6b33b4cdc7dad8af5f01389a004ca6ae", func := "plenum/plenumlaw02.OkeyOrders", spec := "okeyOrders", inPlace := ["internal/bytealg.abigen_runtime_cmpstring"], apart := false, narrowed := true }
def OkeyOrdersUptoSaid : Prop := okeyOrdersUptoRow.holds Try.pinned (OpenSpec.upto okeyOrdersSpec)

/-- 'plenumlaw02.OkeyPuts', WHERE WHAT IT READS IS OF BULK AT MOST 1048576: true; the input reads as it did. -/
def okeyPutsUptoRow : OpenClaim := { program := "ytjongebmeoimoaa", sum := "e04a2b8ca915894461816247f001adac6b33b4cdc7dad8af5f01389a004ca6ae", func := "plenum/plenumlaw02.OkeyPuts", spec := "okeyPuts", apart := false, narrowed := true }
def OkeyPutsUptoSaid : Prop := okeyPutsUptoRow.holds Try.pinned (OpenSpec.upto okeyPutsSpec)

/-- 'plenumlaw02.OkeyBack', WHERE WHAT IT READS IS OF BULK AT MOST 1048576: true; the input reads as it did. -/
def okeyBackUptoRow : OpenClaim := { program := "ytjongebmeoimoaa", sum := "e04a2b8ca915894461816247f001adac6b33b4cdc7dad8af5f01389a004ca6ae", func := "plenum/plenumlaw02.OkeyBack", spec := "okeyBack", apart := false, narrowed := true }
def OkeyBackUptoSaid : Prop := okeyBackUptoRow.holds Try.pinned (OpenSpec.upto okeyBackSpec)

/-- 'plenumlaw03.RowBack', WHERE WHAT IT READS IS OF BULK AT MOST 1048576: true; the input reads as it did. -/
def rowBackUptoRow : OpenClaim := { program := "ytjongebmeoimoaa", sum := "e04a2b8ca915894461816247f001adac6b33b4cdc7dad8af5f01389a004ca6ae", func := "plenum/plenumlaw03.RowBack", spec := "rowBack", apart := false, narrowed := true }
def RowBackUptoSaid : Prop := rowBackUptoRow.holds Try.pinned (OpenSpec.upto rowBackSpec)

/-- 'plenumlaw03.RowNone', WHERE WHAT IT READS IS OF BULK AT MOST 1048576: true; the input reads as it did. -/
def rowNoneUptoRow : OpenClaim := { program := "ytjongebmeoimoaa", sum := "e04a2b8ca915894461816247f001adac6b33b4cdc7dad8af5f01389a004ca6ae", func := "plenum/plenumlaw03.RowNone", spec := "rowNone", apart := false, narrowed := true }
def RowNoneUptoSaid : Prop := rowNoneUptoRow.holds Try.pinned (OpenSpec.upto rowNoneSpec)

/-- 'plenumlaw03.RowRows', WHERE WHAT IT READS IS OF BULK AT MOST 1048576: true; the input reads as it did. -/
def rowRowsUptoRow : OpenClaim := { program := "ytjongebmeoimoaa", sum := "e04a2b8ca915894461816247f001adac6b33b4cdc7dad8af5f01389a004ca6ae", func := "plenum/plenumlaw03.RowRows", spec := "rowRows", apart := false, narrowed := true }
def RowRowsUptoSaid : Prop := rowRowsUptoRow.holds Try.pinned (OpenSpec.upto rowRowsSpec)

/-- 'plenumlaw03.RowOnce', WHERE WHAT IT READS IS OF BULK AT MOST 1048576: true; the input reads as it did. -/
def rowOnceUptoRow : OpenClaim := { program := "ytjongebmeoimoaa", sum := "e04a2b8ca915894461816247f001adac6b33b4cdc7dad8af5f01389a004ca6ae", func := "plenum/plenumlaw03.RowOnce", spec := "rowOnce", apart := false, narrowed := true }
def RowOnceUptoSaid : Prop := rowOnceUptoRow.holds Try.pinned (OpenSpec.upto rowOnceSpec)

end Rows
end Go.Proofs.Ytjongebmeoimoaa
