/-
  No cell of these rows narrows 'for every input' (looked for: loops, veiled, ifaces, maps, wideKeys, modest, calm, conditions, laid).
  DERIVED. THE GIVEN ROWS OF THIS SEAT. 6 by the template 'for every input the law returns true; each argument reads behind the call as it read before'; 0 by the template 'total and deterministic' (their statements: YthdckapielbonaaTotals.lean).
  GIVEN WITH THE SEED: the statements are not yours to turn. If you find one false, say at which input.
  Laid BY PROGRAM, IN A SANDBOX (cutbox-rows.mjs): the forced cells as the released guide's own fill.sh prints them over the translation 4df6a877012e4d43… (all of the seat's roots in one cut). By AI agents, Wed Nov 11 2026. No macro, syntax, notation, axiom, sorry.
-/
import Derived.Test.YthdckapielbonaaChecked
import GoSem.Claim
import GoSem.ClaimJoined
import GoSem.ClaimMapViews
import Derived.JoinedTies
import Derived.KernelRfl
namespace Go.Proofs.Ythdckapielbonaa
/- THE CELL 'sum', in the pinned program and in every row, IS THE sha256 OF THE DUMP (.gsa) THAT YthdckapielbonaaProg.lean LOADS. Nothing in Lean hashes anything: it is a label: what it is worth is what the hold of that sum in a sandbox is worth. -/
noncomputable def Try.pinned : Pinned := { name := "ythdckapielbonaa", sum := "4df6a877012e4d4312229a8869a5d660da681a4723804ba7197eb4dcb3752fbe", checked := Try.checked }
namespace Rows
def none {H : Type} : Left H := { results := [], args := [] }

/-- 'letterbecklaw1.MirrorBack': WHATEVER THE INPUT: true; the input reads as it did. -/
def mirrorBackSpec : ChangeSpec := { name := "mirrorBack", fn := fun _ => fun
  | [d] => { results := [.lit (.bool true)], args := [d] }
  | _ => none }
def mirrorBackRow : OpenClaim := { program := "ythdckapielbonaa", sum := "4df6a877012e4d4312229a8869a5d660da681a4723804ba7197eb4dcb3752fbe", func := "letterbeck/letterbecklaw1.MirrorBack", spec := "mirrorBack", apart := false }
def MirrorBackSaid : Prop := mirrorBackRow.holds Try.pinned (OpenSpec.ofChange mirrorBackSpec)

/-- ITS FALSE NEIGHBOUR: 'it returns false'. Refute it at one input. -/
def mirrorBackWrong : ChangeSpec := { name := "mirrorBack", fn := fun _ => fun
  | [d] => { results := [.lit (.bool false)], args := [d] }
  | _ => none }
def MirrorBackWrongFalsely : Prop := mirrorBackRow.holds Try.pinned (OpenSpec.ofChange mirrorBackWrong)

/-- 'letterbecklaw1.MirrorLongest': WHATEVER THE INPUT: true; the input reads as it did. -/
def mirrorLongestSpec : ChangeSpec := { name := "mirrorLongest", fn := fun _ => fun
  | [d1, d2, d3] => { results := [.lit (.bool true)], args := [d1, d2, d3] }
  | _ => none }
def mirrorLongestRow : OpenClaim := { program := "ythdckapielbonaa", sum := "4df6a877012e4d4312229a8869a5d660da681a4723804ba7197eb4dcb3752fbe", func := "letterbeck/letterbecklaw1.MirrorLongest", spec := "mirrorLongest", apart := false }
def MirrorLongestSaid : Prop := mirrorLongestRow.holds Try.pinned (OpenSpec.ofChange mirrorLongestSpec)

/-- ITS FALSE NEIGHBOUR: 'it returns false'. Refute it at one input. -/
def mirrorLongestWrong : ChangeSpec := { name := "mirrorLongest", fn := fun _ => fun
  | [d1, d2, d3] => { results := [.lit (.bool false)], args := [d1, d2, d3] }
  | _ => none }
def MirrorLongestWrongFalsely : Prop := mirrorLongestRow.holds Try.pinned (OpenSpec.ofChange mirrorLongestWrong)

/-- 'letterbecklaw1.MirrorFew': WHATEVER THE INPUT: true; the input reads as it did. -/
def mirrorFewSpec : ChangeSpec := { name := "mirrorFew", fn := fun _ => fun
  | [d] => { results := [.lit (.bool true)], args := [d] }
  | _ => none }
def mirrorFewRow : OpenClaim := { program := "ythdckapielbonaa", sum := "4df6a877012e4d4312229a8869a5d660da681a4723804ba7197eb4dcb3752fbe", func := "letterbeck/letterbecklaw1.MirrorFew", spec := "mirrorFew", apart := false }
def MirrorFewSaid : Prop := mirrorFewRow.holds Try.pinned (OpenSpec.ofChange mirrorFewSpec)

/-- ITS FALSE NEIGHBOUR: 'it returns false'. Refute it at one input. -/
def mirrorFewWrong : ChangeSpec := { name := "mirrorFew", fn := fun _ => fun
  | [d] => { results := [.lit (.bool false)], args := [d] }
  | _ => none }
def MirrorFewWrongFalsely : Prop := mirrorFewRow.holds Try.pinned (OpenSpec.ofChange mirrorFewWrong)

/-- 'letterbecklaw1.MirrorWhole': WHATEVER THE INPUT: true; the input reads as it did. -/
def mirrorWholeSpec : ChangeSpec := { name := "mirrorWhole", fn := fun _ => fun
  | [d] => { results := [.lit (.bool true)], args := [d] }
  | _ => none }
def mirrorWholeRow : OpenClaim := { program := "ythdckapielbonaa", sum := "4df6a877012e4d4312229a8869a5d660da681a4723804ba7197eb4dcb3752fbe", func := "letterbeck/letterbecklaw1.MirrorWhole", spec := "mirrorWhole", apart := false }
def MirrorWholeSaid : Prop := mirrorWholeRow.holds Try.pinned (OpenSpec.ofChange mirrorWholeSpec)

/-- ITS FALSE NEIGHBOUR: 'it returns false'. Refute it at one input. -/
def mirrorWholeWrong : ChangeSpec := { name := "mirrorWhole", fn := fun _ => fun
  | [d] => { results := [.lit (.bool false)], args := [d] }
  | _ => none }
def MirrorWholeWrongFalsely : Prop := mirrorWholeRow.holds Try.pinned (OpenSpec.ofChange mirrorWholeWrong)

/-- 'letterbecktop.TopMirrors': WHATEVER THE INPUT: true; the input reads as it did. -/
def topMirrorsSpec : ChangeSpec := { name := "topMirrors", fn := fun _ => fun
  | [d] => { results := [.lit (.bool true)], args := [d] }
  | _ => none }
def topMirrorsRow : OpenClaim := { program := "ythdckapielbonaa", sum := "4df6a877012e4d4312229a8869a5d660da681a4723804ba7197eb4dcb3752fbe", func := "letterbeck/letterbecktop.TopMirrors", spec := "topMirrors", apart := false }
def TopMirrorsSaid : Prop := topMirrorsRow.holds Try.pinned (OpenSpec.ofChange topMirrorsSpec)

/-- ITS FALSE NEIGHBOUR: 'it returns false'. Refute it at one input. -/
def topMirrorsWrong : ChangeSpec := { name := "topMirrors", fn := fun _ => fun
  | [d] => { results := [.lit (.bool false)], args := [d] }
  | _ => none }
def TopMirrorsWrongFalsely : Prop := topMirrorsRow.holds Try.pinned (OpenSpec.ofChange topMirrorsWrong)

/-- 'letterbecktop.TopGrammar': WHATEVER THE INPUT: true; the input reads as it did. -/
def topGrammarSpec : ChangeSpec := { name := "topGrammar", fn := fun _ => fun
  | [d] => { results := [.lit (.bool true)], args := [d] }
  | _ => none }
def topGrammarRow : OpenClaim := { program := "ythdckapielbonaa", sum := "4df6a877012e4d4312229a8869a5d660da681a4723804ba7197eb4dcb3752fbe", func := "letterbeck/letterbecktop.TopGrammar", spec := "topGrammar", unfollowed := true, recurses := true, apart := false }
def TopGrammarSaid : Prop := topGrammarRow.holds Try.pinned (OpenSpec.ofChange topGrammarSpec)

/-- ITS FALSE NEIGHBOUR: 'it returns false'. Refute it at one input. -/
def topGrammarWrong : ChangeSpec := { name := "topGrammar", fn := fun _ => fun
  | [d] => { results := [.lit (.bool false)], args := [d] }
  | _ => none }
def TopGrammarWrongFalsely : Prop := topGrammarRow.holds Try.pinned (OpenSpec.ofChange topGrammarWrong)

/- THE SECOND FORM. 'bulk': how many values and letters a reading holds, each counted each time it is reached (what is shared counts as often as it is met; a slice's spare places count too). A statement '..UptoSaid' is the law's where the arguments, and the package variables that the reading takes, are together of bulk at most 1048576: NARROWER than '..Said'. Prove '..Said' where nothing that the law and all that it calls make is longer than what came in: it says more and counts as full. Else prove '..UptoSaid'. A law counts once. -/
mutual
def uptoBulk {H : Type} : DataW H → Nat
  | .lit (.string bytes) => bytes.length + 1
  | .lit _ => 1
  | .nil => 1
  | .ptr d => uptoBulk d + 1
  | .slice elems spare => uptoBulkAll elems + uptoBulkAll spare + 1
  | .agg parts => uptoBulkAll parts + 1
  | .iface _ d => uptoBulk d + 1
  | .map entries => uptoBulkEntries entries + 1
  | .held _ => 1
def uptoBulkAll {H : Type} : List (DataW H) → Nat
  | [] => 0
  | d :: r => uptoBulk d + uptoBulkAll r
def uptoBulkEntries {H : Type} : List (Lit × DataW H) → Nat
  | [] => 0
  | x :: r => uptoBulkEntry x + uptoBulkEntries r
def uptoBulkEntry {H : Type} : Lit × DataW H → Nat
  | (.string bytes, d) => bytes.length + uptoBulk d + 1
  | (_, d) => uptoBulk d + 1
 end
def uptoSmall : (H : Type) → List (DataW H) → Bool := fun _ ds => decide (uptoBulkAll ds ≤ 1048576)
def OpenSpec.upto (s : _root_.Go.ChangeSpec) : _root_.Go.OpenSpec := { _root_.Go.OpenSpec.ofChange s with cond := some uptoSmall }

/-- 'letterbecklaw1.MirrorBack', WHERE WHAT IT READS IS OF BULK AT MOST 1048576: true; the input reads as it did. -/
def mirrorBackUptoRow : OpenClaim := { program := "ythdckapielbonaa", sum := "4df6a877012e4d4312229a8869a5d660da681a4723804ba7197eb4dcb3752fbe", func := "letterbeck/letterbecklaw1.MirrorBack", spec := "mirrorBack", apart := false, narrowed := true }
def MirrorBackUptoSaid : Prop := mirrorBackUptoRow.holds Try.pinned (OpenSpec.upto mirrorBackSpec)

/-- 'letterbecklaw1.MirrorLongest', WHERE WHAT IT READS IS OF BULK AT MOST 1048576: true; the input reads as it did. -/
def mirrorLongestUptoRow : OpenClaim := { program := "ythdckapielbonaa", sum := "4df6a877012e4d4312229a8869a5d660da681a4723804ba7197eb4dcb3752fbe", func := "letterbeck/letterbecklaw1.MirrorLongest", spec := "mirrorLongest", apart := false, narrowed := true }
def MirrorLongestUptoSaid : Prop := mirrorLongestUptoRow.holds Try.pinned (OpenSpec.upto mirrorLongestSpec)

/-- 'letterbecklaw1.MirrorFew', WHERE WHAT IT READS IS OF BULK AT MOST 1048576: true; the input reads as it did. -/
def mirrorFewUptoRow : OpenClaim := { program := "ythdckapielbonaa", sum := "4df6a877012e4d4312229a8869a5d660da681a4723804ba7197eb4dcb3752fbe", func := "letterbeck/letterbecklaw1.MirrorFew", spec := "mirrorFew", apart := false, narrowed := true }
def MirrorFewUptoSaid : Prop := mirrorFewUptoRow.holds Try.pinned (OpenSpec.upto mirrorFewSpec)

/-- 'letterbecklaw1.MirrorWhole', WHERE WHAT IT READS IS OF BULK AT MOST 1048576: true; the input reads as it did. -/
def mirrorWholeUptoRow : OpenClaim := { program := "ythdckapielbonaa", sum := "4df6a877012e4d4312229a8869a5d660da681a4723804ba7197eb4dcb3752fbe", func := "letterbeck/letterbecklaw1.MirrorWhole", spec := "mirrorWhole", apart := false, narrowed := true }
def MirrorWholeUptoSaid : Prop := mirrorWholeUptoRow.holds Try.pinned (OpenSpec.upto mirrorWholeSpec)

/-- 'letterbecktop.TopMirrors', WHERE WHAT IT READS IS OF BULK AT MOST 1048576: true; the input reads as it did. -/
def topMirrorsUptoRow : OpenClaim := { program := "ythdckapielbonaa", sum := "4df6a877012e4d4312229a8869a5d660da681a4723804ba7197eb4dcb3752fbe", func := "letterbeck/letterbecktop.TopMirrors", spec := "topMirrors", apart := false, narrowed := true }
def TopMirrorsUptoSaid : Prop := topMirrorsUptoRow.holds Try.pinned (OpenSpec.upto topMirrorsSpec)

/-- 'letterbecktop.TopGrammar', WHERE WHAT IT READS IS OF BULK AT MOST 1048576: true; the input reads as it did. -/
def topGrammarUptoRow : OpenClaim := { program := "ythdckapielbonaa", sum := "4df6a877012e4d4312229a8869a5d660da681a4723804ba7197eb4dcb3752fbe", func := "letterbeck/letterbecktop.TopGrammar", spec := "topGrammar", unfollowed := true, recurses := true, apart := false, narrowed := true }
def TopGrammarUptoSaid : Prop := topGrammarUptoRow.holds Try.pinned (OpenSpec.upto topGrammarSpec)

end Rows
end Go.Proofs.Ythdckapielbonaa
