/-
  No cell of these rows narrows 'for every input' (looked for: loops, veiled, ifaces, maps, wideKeys, modest, calm, conditions, laid).
  DERIVED. THE GIVEN ROWS OF THIS SEAT. 7 by the template 'for every input the law returns true; each argument reads behind the call as it read before'; 0 by the template 'total and deterministic' (their statements: YtkmoohhnjgpchaaTotals.lean).
  GIVEN WITH THE SEED: the statements are not yours to turn. If you find one false, say at which input.
  Laid BY PROGRAM, IN A SANDBOX (cutbox-rows.mjs): the forced cells as the released guide's own fill.sh prints them over the translation 9b1cd017f2423f05… (all of the seat's roots in one cut). By AI agents, Wed Nov 11 2026. No macro, syntax, notation, axiom, sorry.
-/
import Derived.Test.YtkmoohhnjgpchaaChecked
import GoSem.Claim
import GoSem.ClaimJoined
import GoSem.ClaimMapViews
import Derived.JoinedTies
import Derived.KernelRfl
namespace Go.Proofs.Ytkmoohhnjgpchaa
/- THE CELL 'sum', in the pinned program and in every row, IS THE sha256 OF THE DUMP (.gsa) THAT YtkmoohhnjgpchaaProg.lean LOADS. Nothing in Lean hashes anything: it is a label: what it is worth is what the hold of that sum in a sandbox is worth. -/
noncomputable def Try.pinned : Pinned := { name := "ytkmoohhnjgpchaa", sum := "9b1cd017f2423f05e719575ce3d8c5e4e2698726c836ab37c8513d06c4325b7e", checked := Try.checked }
namespace Rows
def none {H : Type} : Left H := { results := [], args := [] }

/-- 'letterbecklaw1.LyndonParts': WHATEVER THE INPUT: true; the input reads as it did. -/
def lyndonPartsSpec : ChangeSpec := { name := "lyndonParts", fn := fun _ => fun
  | [d] => { results := [.lit (.bool true)], args := [d] }
  | _ => none }
def lyndonPartsRow : OpenClaim := { program := "ytkmoohhnjgpchaa", sum := "9b1cd017f2423f05e719575ce3d8c5e4e2698726c836ab37c8513d06c4325b7e", func := "letterbeck/letterbecklaw1.LyndonParts", spec := "lyndonParts", apart := false }
def LyndonPartsSaid : Prop := lyndonPartsRow.holds Try.pinned (OpenSpec.ofChange lyndonPartsSpec)

/-- ITS FALSE NEIGHBOUR: 'it returns false'. Refute it at one input. -/
def lyndonPartsWrong : ChangeSpec := { name := "lyndonParts", fn := fun _ => fun
  | [d] => { results := [.lit (.bool false)], args := [d] }
  | _ => none }
def LyndonPartsWrongFalsely : Prop := lyndonPartsRow.holds Try.pinned (OpenSpec.ofChange lyndonPartsWrong)

/-- 'letterbecklaw1.LyndonJoin': WHATEVER THE INPUT: true; the input reads as it did. -/
def lyndonJoinSpec : ChangeSpec := { name := "lyndonJoin", fn := fun _ => fun
  | [d1, d2] => { results := [.lit (.bool true)], args := [d1, d2] }
  | _ => none }
def lyndonJoinRow : OpenClaim := { program := "ytkmoohhnjgpchaa", sum := "9b1cd017f2423f05e719575ce3d8c5e4e2698726c836ab37c8513d06c4325b7e", func := "letterbeck/letterbecklaw1.LyndonJoin", spec := "lyndonJoin", apart := false }
def LyndonJoinSaid : Prop := lyndonJoinRow.holds Try.pinned (OpenSpec.ofChange lyndonJoinSpec)

/-- ITS FALSE NEIGHBOUR: 'it returns false'. Refute it at one input. -/
def lyndonJoinWrong : ChangeSpec := { name := "lyndonJoin", fn := fun _ => fun
  | [d1, d2] => { results := [.lit (.bool false)], args := [d1, d2] }
  | _ => none }
def LyndonJoinWrongFalsely : Prop := lyndonJoinRow.holds Try.pinned (OpenSpec.ofChange lyndonJoinWrong)

/-- 'letterbecklaw1.LyndonTurn': WHATEVER THE INPUT: true; the input reads as it did. -/
def lyndonTurnSpec : ChangeSpec := { name := "lyndonTurn", fn := fun _ => fun
  | [d] => { results := [.lit (.bool true)], args := [d] }
  | _ => none }
def lyndonTurnRow : OpenClaim := { program := "ytkmoohhnjgpchaa", sum := "9b1cd017f2423f05e719575ce3d8c5e4e2698726c836ab37c8513d06c4325b7e", func := "letterbeck/letterbecklaw1.LyndonTurn", spec := "lyndonTurn", apart := false }
def LyndonTurnSaid : Prop := lyndonTurnRow.holds Try.pinned (OpenSpec.ofChange lyndonTurnSpec)

/-- ITS FALSE NEIGHBOUR: 'it returns false'. Refute it at one input. -/
def lyndonTurnWrong : ChangeSpec := { name := "lyndonTurn", fn := fun _ => fun
  | [d] => { results := [.lit (.bool false)], args := [d] }
  | _ => none }
def LyndonTurnWrongFalsely : Prop := lyndonTurnRow.holds Try.pinned (OpenSpec.ofChange lyndonTurnWrong)

/-- 'letterbecklaw1.TurnLeast': WHATEVER THE INPUT: true; the input reads as it did. -/
def turnLeastSpec : ChangeSpec := { name := "turnLeast", fn := fun _ => fun
  | [d1, d2] => { results := [.lit (.bool true)], args := [d1, d2] }
  | _ => none }
def turnLeastRow : OpenClaim := { program := "ytkmoohhnjgpchaa", sum := "9b1cd017f2423f05e719575ce3d8c5e4e2698726c836ab37c8513d06c4325b7e", func := "letterbeck/letterbecklaw1.TurnLeast", spec := "turnLeast", inPlace := ["internal/bytealg.IndexByteString", "internal/bytealg.IndexString"], named := ["internal/bytealg.MaxLen"], apart := false }
def TurnLeastSaid : Prop := turnLeastRow.holds Try.pinned (OpenSpec.ofChange turnLeastSpec)

/-- ITS FALSE NEIGHBOUR: 'it returns false'. Refute it at one input. -/
def turnLeastWrong : ChangeSpec := { name := "turnLeast", fn := fun _ => fun
  | [d1, d2] => { results := [.lit (.bool false)], args := [d1, d2] }
  | _ => none }
def TurnLeastWrongFalsely : Prop := turnLeastRow.holds Try.pinned (OpenSpec.ofChange turnLeastWrong)

/-- 'letterbecklaw1.TurnRoot': WHATEVER THE INPUT: true; the input reads as it did. -/
def turnRootSpec : ChangeSpec := { name := "turnRoot", fn := fun _ => fun
  | [d1, d2] => { results := [.lit (.bool true)], args := [d1, d2] }
  | _ => none }
def turnRootRow : OpenClaim := { program := "ytkmoohhnjgpchaa", sum := "9b1cd017f2423f05e719575ce3d8c5e4e2698726c836ab37c8513d06c4325b7e", func := "letterbeck/letterbecklaw1.TurnRoot", spec := "turnRoot", inPlace := ["internal/bytealg.IndexByteString", "internal/bytealg.IndexString"], named := ["internal/bytealg.MaxLen"], apart := false }
def TurnRootSaid : Prop := turnRootRow.holds Try.pinned (OpenSpec.ofChange turnRootSpec)

/-- ITS FALSE NEIGHBOUR: 'it returns false'. Refute it at one input. -/
def turnRootWrong : ChangeSpec := { name := "turnRoot", fn := fun _ => fun
  | [d1, d2] => { results := [.lit (.bool false)], args := [d1, d2] }
  | _ => none }
def TurnRootWrongFalsely : Prop := turnRootRow.holds Try.pinned (OpenSpec.ofChange turnRootWrong)

/-- 'letterbecklaw1.TurnTurns': WHATEVER THE INPUT: true; the input reads as it did. -/
def turnTurnsSpec : ChangeSpec := { name := "turnTurns", fn := fun _ => fun
  | [d1, d2] => { results := [.lit (.bool true)], args := [d1, d2] }
  | _ => none }
def turnTurnsRow : OpenClaim := { program := "ytkmoohhnjgpchaa", sum := "9b1cd017f2423f05e719575ce3d8c5e4e2698726c836ab37c8513d06c4325b7e", func := "letterbeck/letterbecklaw1.TurnTurns", spec := "turnTurns", inPlace := ["internal/bytealg.IndexByteString", "internal/bytealg.IndexString"], named := ["internal/bytealg.MaxLen"], apart := false }
def TurnTurnsSaid : Prop := turnTurnsRow.holds Try.pinned (OpenSpec.ofChange turnTurnsSpec)

/-- ITS FALSE NEIGHBOUR: 'it returns false'. Refute it at one input. -/
def turnTurnsWrong : ChangeSpec := { name := "turnTurns", fn := fun _ => fun
  | [d1, d2] => { results := [.lit (.bool false)], args := [d1, d2] }
  | _ => none }
def TurnTurnsWrongFalsely : Prop := turnTurnsRow.holds Try.pinned (OpenSpec.ofChange turnTurnsWrong)

/-- 'letterbecklaw1.TurnCount': WHATEVER THE INPUT: true; the input reads as it did. -/
def turnCountSpec : ChangeSpec := { name := "turnCount", fn := fun _ => fun
  | [d] => { results := [.lit (.bool true)], args := [d] }
  | _ => none }
def turnCountRow : OpenClaim := { program := "ytkmoohhnjgpchaa", sum := "9b1cd017f2423f05e719575ce3d8c5e4e2698726c836ab37c8513d06c4325b7e", func := "letterbeck/letterbecklaw1.TurnCount", spec := "turnCount", inPlace := ["internal/bytealg.IndexByteString", "internal/bytealg.IndexString"], named := ["internal/bytealg.MaxLen"], apart := false }
def TurnCountSaid : Prop := turnCountRow.holds Try.pinned (OpenSpec.ofChange turnCountSpec)

/-- ITS FALSE NEIGHBOUR: 'it returns false'. Refute it at one input. -/
def turnCountWrong : ChangeSpec := { name := "turnCount", fn := fun _ => fun
  | [d] => { results := [.lit (.bool false)], args := [d] }
  | _ => none }
def TurnCountWrongFalsely : Prop := turnCountRow.holds Try.pinned (OpenSpec.ofChange turnCountWrong)

/- THE SECOND FORM. 'bulk': how many values and letters a reading holds, each counted each time it is reached (what is shared counts as often as it is met; a slice's spare places count too). A statement '..UptoSaid' is the law's where the arguments, and the package variables that the reading takes, are together of bulk at most 1048576: NARROWER than '..Said'. Prove '..Said' where nothing that the law and all that it calls make is longer than what came in: it says more and counts as full. Else prove '..UptoSaid'. A law counts once. -/
mutual
def uptoBulk {H : Type} : DataW H → Nat
  | .lit (.string bytes) => bytes.length + 1
  | .lit _ => 1
  | .nil => 1
  | .ptr d => uptoBulk d + 1
  | .slice elems spare => uptoBulkAll elems + uptoBulkAll spare + 1
  | .agg parts => uptoBulkAll parts + 1
  | .iface _ d => uptoBulk d + 1
  | .map entries => uptoBulkEntries entries + 1
  | .held _ => 1
def uptoBulkAll {H : Type} : List (DataW H) → Nat
  | [] => 0
  | d :: r => uptoBulk d + uptoBulkAll r
def uptoBulkEntries {H : Type} : List (Lit × DataW H) → Nat
  | [] => 0
  | x :: r => uptoBulkEntry x + uptoBulkEntries r
def uptoBulkEntry {H : Type} : Lit × DataW H → Nat
  | (.string bytes, d) => bytes.length + uptoBulk d + 1
  | (_, d) => uptoBulk d + 1
 end
def uptoSmall : (H : Type) → List (DataW H) → Bool := fun _ ds => decide (uptoBulkAll ds ≤ 1048576)
def OpenSpec.upto (s : _root_.Go.ChangeSpec) : _root_.Go.OpenSpec := { _root_.Go.OpenSpec.ofChange s with cond := some uptoSmall }

/-- 'letterbecklaw1.LyndonParts', WHERE WHAT IT READS IS OF BULK AT MOST 1048576: true; the input reads as it did. -/
def lyndonPartsUptoRow : OpenClaim := { program := "ytkmoohhnjgpchaa", sum := "9b1cd017f2423f05e719575ce3d8c5e4e2698726c836ab37c8513d06c4325b7e", func := "letterbeck/letterbecklaw1.LyndonParts", spec := "lyndonParts", apart := false, narrowed := true }
def LyndonPartsUptoSaid : Prop := lyndonPartsUptoRow.holds Try.pinned (OpenSpec.upto lyndonPartsSpec)

/-- 'letterbecklaw1.LyndonJoin', WHERE WHAT IT READS IS OF BULK AT MOST 1048576: true; the input reads as it did. -/
def lyndonJoinUptoRow : OpenClaim := { program := "ytkmoohhnjgpchaa", sum := "9b1cd017f2423f05e719575ce3d8c5e4e2698726c836ab37c8513d06c4325b7e", func := "letterbeck/letterbecklaw1.LyndonJoin", spec := "lyndonJoin", apart := false, narrowed := true }
def LyndonJoinUptoSaid : Prop := lyndonJoinUptoRow.holds Try.pinned (OpenSpec.upto lyndonJoinSpec)

/-- 'letterbecklaw1.LyndonTurn', WHERE WHAT IT READS IS OF BULK AT MOST 1048576: true; the input reads as it did. -/
def lyndonTurnUptoRow : OpenClaim := { program := "ytkmoohhnjgpchaa", sum := "9b1cd017f2423f05e719575ce3d8c5e4e2698726c836ab37c8513d06c4325b7e", func := "letterbeck/letterbecklaw1.LyndonTurn", spec := "lyndonTurn", apart := false, narrowed := true }
def LyndonTurnUptoSaid : Prop := lyndonTurnUptoRow.holds Try.pinned (OpenSpec.upto lyndonTurnSpec)

/-- 'letterbecklaw1.TurnLeast', WHERE WHAT IT READS IS OF BULK AT MOST 1048576: true; the input reads as it did. -/
def turnLeastUptoRow : OpenClaim := { program := "ytkmoohhnjgpchaa", sum := "9b1cd017f2423f05e719575ce3d8c5e4e2698726c836ab37c8513d06c4325b7e", func := "letterbeck/letterbecklaw1.TurnLeast", spec := "turnLeast", inPlace := ["internal/bytealg.IndexByteString", "internal/bytealg.IndexString"], named := ["internal/bytealg.MaxLen"], apart := false, narrowed := true }
def TurnLeastUptoSaid : Prop := turnLeastUptoRow.holds Try.pinned (OpenSpec.upto turnLeastSpec)

/-- 'letterbecklaw1.TurnRoot', WHERE WHAT IT READS IS OF BULK AT MOST 1048576: true; the input reads as it did. -/
def turnRootUptoRow : OpenClaim := { program := "ytkmoohhnjgpchaa", sum := "9b1cd017f2423f05e719575ce3d8c5e4e2698726c836ab37c8513d06c4325b7e", func := "letterbeck/letterbecklaw1.TurnRoot", spec := "turnRoot", inPlace := ["internal/bytealg.IndexByteString", "internal/bytealg.IndexString"], named := ["internal/bytealg.MaxLen"], apart := false, narrowed := true }
def TurnRootUptoSaid : Prop := turnRootUptoRow.holds Try.pinned (OpenSpec.upto turnRootSpec)

/-- 'letterbecklaw1.TurnTurns', WHERE WHAT IT READS IS OF BULK AT MOST 1048576: true; the input reads as it did. -/
def turnTurnsUptoRow : OpenClaim := { program := "ytkmoohhnjgpchaa", sum := "9b1cd017f2423f05e719575ce3d8c5e4e2698726c836ab37c8513d06c4325b7e", func := "letterbeck/letterbecklaw1.TurnTurns", spec := "turnTurns", inPlace := ["internal/bytealg.IndexByteString", "internal/bytealg.IndexString"], named := ["internal/bytealg.MaxLen"], apart := false, narrowed := true }
def TurnTurnsUptoSaid : Prop := turnTurnsUptoRow.holds Try.pinned (OpenSpec.upto turnTurnsSpec)

/-- 'letterbecklaw1.TurnCount', WHERE WHAT IT READS IS OF BULK AT MOST 1048576: true; the input reads as it did. -/
def turnCountUptoRow : OpenClaim := { program := "ytkmoohhnjgpchaa", sum := "9b1cd017f2423f05e719575ce3d8c5e4e2698726c836ab37c8513d06c4325b7e", func := "letterbeck/letterbecklaw1.TurnCount", spec := "turnCount", inPlace := ["internal/bytealg.IndexByteString", "internal/bytealg.IndexString"], named := ["internal/bytealg.MaxLen"], apart := false, narrowed := true }
def TurnCountUptoSaid : Prop := turnCountUptoRow.holds Try.pinned (OpenSpec.upto turnCountSpec)

end Rows
end Go.Proofs.Ytkmoohhnjgpchaa
