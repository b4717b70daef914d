/-
  No cell of these rows narrows 'for every input' (looked for: loops, veiled, ifaces, maps, wideKeys, modest, calm, conditions, laid).
  DERIVED. THE GIVEN ROWS OF THIS SEAT. 9 by the template 'for every input the law returns true; each argument reads behind the call as it read before'; 0 by the template 'total and deterministic' (their statements: YtgmeimbamfggkaaTotals.lean).
  GIVEN WITH THE SEED: the statements are not yours to turn. If you find one false, say at which input.
  Laid BY PROGRAM, IN A SANDBOX (cutbox-rows.mjs): the forced cells as the released guide's own fill.sh prints them over the translation e4b956b33e53a3c5… (all of the seat's roots in one cut). By AI agents, Wed Nov 11 2026. No macro, syntax, notation, axiom, sorry.
-/
import Derived.Test.YtgmeimbamfggkaaChecked
import GoSem.Claim
import GoSem.ClaimJoined
import GoSem.ClaimMapViews
import Derived.JoinedTies
import Derived.KernelRfl
namespace Go.Proofs.Ytgmeimbamfggkaa
/- THE CELL 'sum', in the pinned program and in every row, IS THE sha256 OF THE DUMP (.gsa) THAT YtgmeimbamfggkaaProg.lean LOADS. Nothing in Lean hashes anything: it is a label: what it is worth is what the hold of that sum in a sandbox is worth. -/
noncomputable def Try.pinned : Pinned := { name := "ytgmeimbamfggkaa", sum := "e4b956b33e53a3c5da3839ac6832270043d073b13cc902d2769b7bbf8a6f01c4", checked := Try.checked }
namespace Rows
def none {H : Type} : Left H := { results := [], args := [] }

/-- 'plenumlaw14.LockModes': WHATEVER THE INPUT: true; the input reads as it did. -/
def lockModesSpec : ChangeSpec := { name := "lockModes", fn := fun _ => fun
  | [d1, d2, d3, d4] => { results := [.lit (.bool true)], args := [d1, d2, d3, d4] }
  | _ => none }
def lockModesRow : OpenClaim := { program := "ytgmeimbamfggkaa", sum := "e4b956b33e53a3c5da3839ac6832270043d073b13cc902d2769b7bbf8a6f01c4", func := "plenum/plenumlaw14.LockModes", spec := "lockModes", inPlace := ["internal/bytealg.Compare"], unfollowed := true, recurses := true, plainKeys := false, apart := false }
def LockModesSaid : Prop := lockModesRow.holds Try.pinned (OpenSpec.ofChange lockModesSpec)

/-- ITS FALSE NEIGHBOUR: 'it returns false'. Refute it at one input. -/
def lockModesWrong : ChangeSpec := { name := "lockModes", fn := fun _ => fun
  | [d1, d2, d3, d4] => { results := [.lit (.bool false)], args := [d1, d2, d3, d4] }
  | _ => none }
def LockModesWrongFalsely : Prop := lockModesRow.holds Try.pinned (OpenSpec.ofChange lockModesWrong)

/-- 'plenumlaw14.LockComes': WHATEVER THE INPUT: true; the input reads as it did. -/
def lockComesSpec : ChangeSpec := { name := "lockComes", fn := fun _ => fun
  | [d1, d2] => { results := [.lit (.bool true)], args := [d1, d2] }
  | _ => none }
def lockComesRow : OpenClaim := { program := "ytgmeimbamfggkaa", sum := "e4b956b33e53a3c5da3839ac6832270043d073b13cc902d2769b7bbf8a6f01c4", func := "plenum/plenumlaw14.LockComes", spec := "lockComes", inPlace := ["internal/bytealg.Compare"], unfollowed := true, recurses := true, plainKeys := false, apart := false }
def LockComesSaid : Prop := lockComesRow.holds Try.pinned (OpenSpec.ofChange lockComesSpec)

/-- ITS FALSE NEIGHBOUR: 'it returns false'. Refute it at one input. -/
def lockComesWrong : ChangeSpec := { name := "lockComes", fn := fun _ => fun
  | [d1, d2] => { results := [.lit (.bool false)], args := [d1, d2] }
  | _ => none }
def LockComesWrongFalsely : Prop := lockComesRow.holds Try.pinned (OpenSpec.ofChange lockComesWrong)

/-- 'plenumlaw14.LockTogether': WHATEVER THE INPUT: true; the input reads as it did. -/
def lockTogetherSpec : ChangeSpec := { name := "lockTogether", fn := fun _ => fun
  | [d] => { results := [.lit (.bool true)], args := [d] }
  | _ => none }
def lockTogetherRow : OpenClaim := { program := "ytgmeimbamfggkaa", sum := "e4b956b33e53a3c5da3839ac6832270043d073b13cc902d2769b7bbf8a6f01c4", func := "plenum/plenumlaw14.LockTogether", spec := "lockTogether", inPlace := ["internal/bytealg.Compare"], unfollowed := true, recurses := true, plainKeys := false, apart := false }
def LockTogetherSaid : Prop := lockTogetherRow.holds Try.pinned (OpenSpec.ofChange lockTogetherSpec)

/-- ITS FALSE NEIGHBOUR: 'it returns false'. Refute it at one input. -/
def lockTogetherWrong : ChangeSpec := { name := "lockTogether", fn := fun _ => fun
  | [d] => { results := [.lit (.bool false)], args := [d] }
  | _ => none }
def LockTogetherWrongFalsely : Prop := lockTogetherRow.holds Try.pinned (OpenSpec.ofChange lockTogetherWrong)

/-- 'plenumlaw14.LockDoes': WHATEVER THE INPUT: true; the input reads as it did. -/
def lockDoesSpec : ChangeSpec := { name := "lockDoes", fn := fun _ => fun
  | [d] => { results := [.lit (.bool true)], args := [d] }
  | _ => none }
def lockDoesRow : OpenClaim := { program := "ytgmeimbamfggkaa", sum := "e4b956b33e53a3c5da3839ac6832270043d073b13cc902d2769b7bbf8a6f01c4", func := "plenum/plenumlaw14.LockDoes", spec := "lockDoes", inPlace := ["internal/bytealg.Compare"], unfollowed := true, recurses := true, plainKeys := false, apart := false }
def LockDoesSaid : Prop := lockDoesRow.holds Try.pinned (OpenSpec.ofChange lockDoesSpec)

/-- ITS FALSE NEIGHBOUR: 'it returns false'. Refute it at one input. -/
def lockDoesWrong : ChangeSpec := { name := "lockDoes", fn := fun _ => fun
  | [d] => { results := [.lit (.bool false)], args := [d] }
  | _ => none }
def LockDoesWrongFalsely : Prop := lockDoesRow.holds Try.pinned (OpenSpec.ofChange lockDoesWrong)

/-- 'plenumlaw14.LockHolds': WHATEVER THE INPUT: true; the input reads as it did. -/
def lockHoldsSpec : ChangeSpec := { name := "lockHolds", fn := fun _ => fun
  | [d1, d2] => { results := [.lit (.bool true)], args := [d1, d2] }
  | _ => none }
def lockHoldsRow : OpenClaim := { program := "ytgmeimbamfggkaa", sum := "e4b956b33e53a3c5da3839ac6832270043d073b13cc902d2769b7bbf8a6f01c4", func := "plenum/plenumlaw14.LockHolds", spec := "lockHolds", inPlace := ["internal/bytealg.Compare"], unfollowed := true, recurses := true, plainKeys := false, apart := false }
def LockHoldsSaid : Prop := lockHoldsRow.holds Try.pinned (OpenSpec.ofChange lockHoldsSpec)

/-- ITS FALSE NEIGHBOUR: 'it returns false'. Refute it at one input. -/
def lockHoldsWrong : ChangeSpec := { name := "lockHolds", fn := fun _ => fun
  | [d1, d2] => { results := [.lit (.bool false)], args := [d1, d2] }
  | _ => none }
def LockHoldsWrongFalsely : Prop := lockHoldsRow.holds Try.pinned (OpenSpec.ofChange lockHoldsWrong)

/-- 'plenumlaw15.MetaDecides': WHATEVER THE INPUT: true; the input reads as it did. -/
def metaDecidesSpec : ChangeSpec := { name := "metaDecides", fn := fun _ => fun
  | [d] => { results := [.lit (.bool true)], args := [d] }
  | _ => none }
def metaDecidesRow : OpenClaim := { program := "ytgmeimbamfggkaa", sum := "e4b956b33e53a3c5da3839ac6832270043d073b13cc902d2769b7bbf8a6f01c4", func := "plenum/plenumlaw15.MetaDecides", spec := "metaDecides", inPlace := ["internal/bytealg.Compare"], unfollowed := true, recurses := true, plainKeys := false, apart := false }
def MetaDecidesSaid : Prop := metaDecidesRow.holds Try.pinned (OpenSpec.ofChange metaDecidesSpec)

/-- ITS FALSE NEIGHBOUR: 'it returns false'. Refute it at one input. -/
def metaDecidesWrong : ChangeSpec := { name := "metaDecides", fn := fun _ => fun
  | [d] => { results := [.lit (.bool false)], args := [d] }
  | _ => none }
def MetaDecidesWrongFalsely : Prop := metaDecidesRow.holds Try.pinned (OpenSpec.ofChange metaDecidesWrong)

/-- 'plenumlaw15.MetaDoes': WHATEVER THE INPUT: true; the input reads as it did. -/
def metaDoesSpec : ChangeSpec := { name := "metaDoes", fn := fun _ => fun
  | [d] => { results := [.lit (.bool true)], args := [d] }
  | _ => none }
def metaDoesRow : OpenClaim := { program := "ytgmeimbamfggkaa", sum := "e4b956b33e53a3c5da3839ac6832270043d073b13cc902d2769b7bbf8a6f01c4", func := "plenum/plenumlaw15.MetaDoes", spec := "metaDoes", inPlace := ["internal/bytealg.Compare"], unfollowed := true, recurses := true, plainKeys := false, apart := false }
def MetaDoesSaid : Prop := metaDoesRow.holds Try.pinned (OpenSpec.ofChange metaDoesSpec)

/-- ITS FALSE NEIGHBOUR: 'it returns false'. Refute it at one input. -/
def metaDoesWrong : ChangeSpec := { name := "metaDoes", fn := fun _ => fun
  | [d] => { results := [.lit (.bool false)], args := [d] }
  | _ => none }
def MetaDoesWrongFalsely : Prop := metaDoesRow.holds Try.pinned (OpenSpec.ofChange metaDoesWrong)

/-- 'plenumlaw15.MetaAgain': WHATEVER THE INPUT: true; the input reads as it did. -/
def metaAgainSpec : ChangeSpec := { name := "metaAgain", fn := fun _ => fun
  | [d1, d2, d3, d4] => { results := [.lit (.bool true)], args := [d1, d2, d3, d4] }
  | _ => none }
def metaAgainRow : OpenClaim := { program := "ytgmeimbamfggkaa", sum := "e4b956b33e53a3c5da3839ac6832270043d073b13cc902d2769b7bbf8a6f01c4", func := "plenum/plenumlaw15.MetaAgain", spec := "metaAgain", inPlace := ["internal/bytealg.Compare"], unfollowed := true, recurses := true, plainKeys := false, apart := false }
def MetaAgainSaid : Prop := metaAgainRow.holds Try.pinned (OpenSpec.ofChange metaAgainSpec)

/-- ITS FALSE NEIGHBOUR: 'it returns false'. Refute it at one input. -/
def metaAgainWrong : ChangeSpec := { name := "metaAgain", fn := fun _ => fun
  | [d1, d2, d3, d4] => { results := [.lit (.bool false)], args := [d1, d2, d3, d4] }
  | _ => none }
def MetaAgainWrongFalsely : Prop := metaAgainRow.holds Try.pinned (OpenSpec.ofChange metaAgainWrong)

/-- 'plenumlaw15.MetaCommands': WHATEVER THE INPUT: true; the input reads as it did. -/
def metaCommandsSpec : ChangeSpec := { name := "metaCommands", fn := fun _ => fun
  | [d1, d2] => { results := [.lit (.bool true)], args := [d1, d2] }
  | _ => none }
def metaCommandsRow : OpenClaim := { program := "ytgmeimbamfggkaa", sum := "e4b956b33e53a3c5da3839ac6832270043d073b13cc902d2769b7bbf8a6f01c4", func := "plenum/plenumlaw15.MetaCommands", spec := "metaCommands", inPlace := ["internal/bytealg.Compare"], unfollowed := true, recurses := true, plainKeys := false, apart := false }
def MetaCommandsSaid : Prop := metaCommandsRow.holds Try.pinned (OpenSpec.ofChange metaCommandsSpec)

/-- ITS FALSE NEIGHBOUR: 'it returns false'. Refute it at one input. -/
def metaCommandsWrong : ChangeSpec := { name := "metaCommands", fn := fun _ => fun
  | [d1, d2] => { results := [.lit (.bool false)], args := [d1, d2] }
  | _ => none }
def MetaCommandsWrongFalsely : Prop := metaCommandsRow.holds Try.pinned (OpenSpec.ofChange metaCommandsWrong)

/- THE SECOND FORM. 'bulk': how many values and letters a reading holds, each counted each time it is reached (what is shared counts as often as it is met; a slice's spare places count too). A statement '..UptoSaid' is the law's where the arguments, and the package variables that the reading takes, are together of bulk at most 1048576: NARROWER than '..Said'. Prove '..Said' where nothing that the law and all that it calls make is longer than what came in: it says more and counts as full. Else prove '..UptoSaid'. A law counts once. -/
mutual
def uptoBulk {H : Type} : DataW H → Nat
  | .lit (.string bytes) => bytes.length + 1
  | .lit _ => 1
  | .nil => 1
  | .ptr d => uptoBulk d + 1
  | .slice elems spare => uptoBulkAll elems + uptoBulkAll spare + 1
  | .agg parts => uptoBulkAll parts + 1
  | .iface _ d => uptoBulk d + 1
  | .map entries => uptoBulkEntries entries + 1
  | .held _ => 1
def uptoBulkAll {H : Type} : List (DataW H) → Nat
  | [] => 0
  | d :: r => uptoBulk d + uptoBulkAll r
def uptoBulkEntries {H : Type} : List (Lit × DataW H) → Nat
  | [] => 0
  | x :: r => uptoBulkEntry x + uptoBulkEntries r
def uptoBulkEntry {H : Type} : Lit × DataW H → Nat
  | (.string bytes, d) => bytes.length + uptoBulk d + 1
  | (_, d) => uptoBulk d + 1
 end
def uptoSmall : (H : Type) → List (DataW H) → Bool := fun _ ds => decide (uptoBulkAll ds ≤ 1048576)
def OpenSpec.upto (s : _root_.Go.ChangeSpec) : _root_.Go.OpenSpec := { _root_.Go.OpenSpec.ofChange s with cond := some uptoSmall }

/-- 'plenumlaw14.LockModes', WHERE WHAT IT READS IS OF BULK AT MOST 1048576: true; the input reads as it did. -/
def lockModesUptoRow : OpenClaim := { program := "ytgmeimbamfggkaa", sum := "e4b956b33e53a3c5da3839ac6832270043d073b13cc902d2769b7bbf8a6f01c4", func := "plenum/plenumlaw14.LockModes", spec := "lockModes", inPlace := ["internal/bytealg.Compare"], unfollowed := true, recurses := true, plainKeys := false, apart := false, narrowed := true }
def LockModesUptoSaid : Prop := lockModesUptoRow.holds Try.pinned (OpenSpec.upto lockModesSpec)

/-- 'plenumlaw14.LockComes', WHERE WHAT IT READS IS OF BULK AT MOST 1048576: true; the input reads as it did. -/
def lockComesUptoRow : OpenClaim := { program := "ytgmeimbamfggkaa", sum := "e4b956b33e53a3c5da3839ac6832270043d073b13cc902d2769b7bbf8a6f01c4", func := "plenum/plenumlaw14.LockComes", spec := "lockComes", inPlace := ["internal/bytealg.Compare"], unfollowed := true, recurses := true, plainKeys := false, apart := false, narrowed := true }
def LockComesUptoSaid : Prop := lockComesUptoRow.holds Try.pinned (OpenSpec.upto lockComesSpec)

/-- 'plenumlaw14.LockTogether', WHERE WHAT IT READS IS OF BULK AT MOST 1048576: true; the input reads as it did. -/
def lockTogetherUptoRow : OpenClaim := { program := "ytgmeimbamfggkaa", sum := "e4b956b33e53a3c5da3839ac6832270043d073b13cc902d2769b7bbf8a6f01c4", func := "plenum/plenumlaw14.LockTogether", spec := "lockTogether", inPlace := ["internal/bytealg.Compare"], unfollowed := true, recurses := true, plainKeys := false, apart := false, narrowed := true }
def LockTogetherUptoSaid : Prop := lockTogetherUptoRow.holds Try.pinned (OpenSpec.upto lockTogetherSpec)

/-- 'plenumlaw14.LockDoes', WHERE WHAT IT READS IS OF BULK AT MOST 1048576: true; the input reads as it did. -/
def lockDoesUptoRow : OpenClaim := { program := "ytgmeimbamfggkaa", sum := "e4b956b33e53a3c5da3839ac6832270043d073b13cc902d2769b7bbf8a6f01c4", func := "plenum/plenumlaw14.LockDoes", spec := "lockDoes", inPlace := ["internal/bytealg.Compare"], unfollowed := true, recurses := true, plainKeys := false, apart := false, narrowed := true }
def LockDoesUptoSaid : Prop := lockDoesUptoRow.holds Try.pinned (OpenSpec.upto lockDoesSpec)

/-- 'plenumlaw14.LockHolds', WHERE WHAT IT READS IS OF BULK AT MOST 1048576: true; the input reads as it did. -/
def lockHoldsUptoRow : OpenClaim := { program := "ytgmeimbamfggkaa", sum := "e4b956b33e53a3c5da3839ac6832270043d073b13cc902d2769b7bbf8a6f01c4", func := "plenum/plenumlaw14.LockHolds", spec := "lockHolds", inPlace := ["internal/bytealg.Compare"], unfollowed := true, recurses := true, plainKeys := false, apart := false, narrowed := true }
def LockHoldsUptoSaid : Prop := lockHoldsUptoRow.holds Try.pinned (OpenSpec.upto lockHoldsSpec)

/-- 'plenumlaw15.MetaDecides', WHERE WHAT IT READS IS OF BULK AT MOST 1048576: true; the input reads as it did. -/
def metaDecidesUptoRow : OpenClaim := { program := "ytgmeimbamfggkaa", sum := "e4b956b33e53a3c5da3839ac6832270043d073b13cc902d2769b7bbf8a6f01c4", func := "plenum/plenumlaw15.MetaDecides", spec := "metaDecides", inPlace := ["internal/bytealg.Compare"], unfollowed := true, recurses := true, plainKeys := false, apart := false, narrowed := true }
def MetaDecidesUptoSaid : Prop := metaDecidesUptoRow.holds Try.pinned (OpenSpec.upto metaDecidesSpec)

/-- 'plenumlaw15.MetaDoes', WHERE WHAT IT READS IS OF BULK AT MOST 1048576: true; the input reads as it did. -/
def metaDoesUptoRow : OpenClaim := { program := "ytgmeimbamfggkaa", sum := "e4b956b33e53a3c5da3839ac6832270043d073b13cc902d2769b7bbf8a6f01c4", func := "plenum/plenumlaw15.MetaDoes", spec := "metaDoes", inPlace := ["internal/bytealg.Compare"], unfollowed := true, recurses := true, plainKeys := false, apart := false, narrowed := true }
def MetaDoesUptoSaid : Prop := metaDoesUptoRow.holds Try.pinned (OpenSpec.upto metaDoesSpec)

/-- 'plenumlaw15.MetaAgain', WHERE WHAT IT READS IS OF BULK AT MOST 1048576: true; the input reads as it did. -/
def metaAgainUptoRow : OpenClaim := { program := "ytgmeimbamfggkaa", sum := "e4b956b33e53a3c5da3839ac6832270043d073b13cc902d2769b7bbf8a6f01c4", func := "plenum/plenumlaw15.MetaAgain", spec := "metaAgain", inPlace := ["internal/bytealg.Compare"], unfollowed := true, recurses := true, plainKeys := false, apart := false, narrowed := true }
def MetaAgainUptoSaid : Prop := metaAgainUptoRow.holds Try.pinned (OpenSpec.upto metaAgainSpec)

/-- 'plenumlaw15.MetaCommands', WHERE WHAT IT READS IS OF BULK AT MOST 1048576: true; the input reads as it did. -/
def metaCommandsUptoRow : OpenClaim := { program := "ytgmeimbamfggkaa", sum := "e4b956b33e53a3c5da3839ac6832270043d073b13cc902d2769b7bbf8a6f01c4", func := "plenum/plenumlaw15.MetaCommands", spec := "metaCommands", inPlace := ["internal/bytealg.Compare"], unfollowed := true, recurses := true, plainKeys := false, apart := false, narrowed := true }
def MetaCommandsUptoSaid : Prop := metaCommandsUptoRow.holds Try.pinned (OpenSpec.upto metaCommandsSpec)

end Rows
end Go.Proofs.Ytgmeimbamfggkaa
