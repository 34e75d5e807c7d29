/-
  No cell of these rows narrows 'for every input' (looked for: loops, veiled, ifaces, maps, wideKeys, modest, calm, conditions, laid).
  DERIVED. THE GIVEN ROWS OF THIS SEAT. 10 by the template 'for every input the law returns true; each argument reads behind the call as it read before'; 0 by the template 'total and deterministic' (their statements: YtocbkapoibddaaaTotals.lean).
  GIVEN WITH THE SEED: the statements are not yours to turn. If you find one false, say at which input.
  Laid BY PROGRAM, IN A SANDBOX (cutbox-rows.mjs): the forced cells as the released guide's own fill.sh prints them over the translation ae66447ee7ae8126… (all of the seat's roots in one cut). By AI agents, Wed Nov 11 2026. No macro, syntax, notation, axiom, sorry.
-/
import Derived.Test.YtocbkapoibddaaaChecked
import GoSem.Claim
import GoSem.ClaimJoined
import GoSem.ClaimMapViews
import Derived.JoinedTies
import Derived.KernelRfl
namespace Go.Proofs.Ytocbkapoibddaaa
/- THE CELL 'sum', in the pinned program and in every row, IS THE sha256 OF THE DUMP (.gsa) THAT YtocbkapoibddaaaProg.lean LOADS. Nothing in Lean hashes anything: it is a label: what it is worth is what the hold of that sum in a sandbox is worth. -/
noncomputable def Try.pinned : Pinned := { name := "ytocbkapoibddaaa", sum := "ae66447ee7ae81265b0955591f20e14331bfb7fd13add43d7059ac3bc4229a94", checked := Try.checked }
namespace Rows
def none {H : Type} : Left H := { results := [], args := [] }

/-- 'letterbecklaw1.Names': WHATEVER THE INPUT: true; the input reads as it did. -/
def namesSpec : ChangeSpec := { name := "names", fn := fun _ => fun
  | [] => { results := [.lit (.bool true)], args := [] }
  | _ => none }
def namesRow : OpenClaim := { program := "ytocbkapoibddaaa", sum := "ae66447ee7ae81265b0955591f20e14331bfb7fd13add43d7059ac3bc4229a94", func := "letterbeck/letterbecklaw1.Names", spec := "names", apart := false }
def NamesSaid : Prop := namesRow.holds Try.pinned (OpenSpec.ofChange namesSpec)

/-- ITS FALSE NEIGHBOUR: 'it returns false'. Refute it at one input. -/
def namesWrong : ChangeSpec := { name := "names", fn := fun _ => fun
  | [] => { results := [.lit (.bool false)], args := [] }
  | _ => none }
def NamesWrongFalsely : Prop := namesRow.holds Try.pinned (OpenSpec.ofChange namesWrong)

/-- 'letterbecklaw1.EdgesChain': WHATEVER THE INPUT: true; the input reads as it did. -/
def edgesChainSpec : ChangeSpec := { name := "edgesChain", fn := fun _ => fun
  | [d] => { results := [.lit (.bool true)], args := [d] }
  | _ => none }
def edgesChainRow : OpenClaim := { program := "ytocbkapoibddaaa", sum := "ae66447ee7ae81265b0955591f20e14331bfb7fd13add43d7059ac3bc4229a94", func := "letterbeck/letterbecklaw1.EdgesChain", spec := "edgesChain", apart := false }
def EdgesChainSaid : Prop := edgesChainRow.holds Try.pinned (OpenSpec.ofChange edgesChainSpec)

/-- ITS FALSE NEIGHBOUR: 'it returns false'. Refute it at one input. -/
def edgesChainWrong : ChangeSpec := { name := "edgesChain", fn := fun _ => fun
  | [d] => { results := [.lit (.bool false)], args := [d] }
  | _ => none }
def EdgesChainWrongFalsely : Prop := edgesChainRow.holds Try.pinned (OpenSpec.ofChange edgesChainWrong)

/-- 'letterbecklaw1.EdgesGrow': WHATEVER THE INPUT: true; the input reads as it did. -/
def edgesGrowSpec : ChangeSpec := { name := "edgesGrow", fn := fun _ => fun
  | [d] => { results := [.lit (.bool true)], args := [d] }
  | _ => none }
def edgesGrowRow : OpenClaim := { program := "ytocbkapoibddaaa", sum := "ae66447ee7ae81265b0955591f20e14331bfb7fd13add43d7059ac3bc4229a94", func := "letterbeck/letterbecklaw1.EdgesGrow", spec := "edgesGrow", apart := false }
def EdgesGrowSaid : Prop := edgesGrowRow.holds Try.pinned (OpenSpec.ofChange edgesGrowSpec)

/-- ITS FALSE NEIGHBOUR: 'it returns false'. Refute it at one input. -/
def edgesGrowWrong : ChangeSpec := { name := "edgesGrow", fn := fun _ => fun
  | [d] => { results := [.lit (.bool false)], args := [d] }
  | _ => none }
def EdgesGrowWrongFalsely : Prop := edgesGrowRow.holds Try.pinned (OpenSpec.ofChange edgesGrowWrong)

/-- 'letterbecklaw1.EdgesTurned': WHATEVER THE INPUT: true; the input reads as it did. -/
def edgesTurnedSpec : ChangeSpec := { name := "edgesTurned", fn := fun _ => fun
  | [d] => { results := [.lit (.bool true)], args := [d] }
  | _ => none }
def edgesTurnedRow : OpenClaim := { program := "ytocbkapoibddaaa", sum := "ae66447ee7ae81265b0955591f20e14331bfb7fd13add43d7059ac3bc4229a94", func := "letterbeck/letterbecklaw1.EdgesTurned", spec := "edgesTurned", apart := false }
def EdgesTurnedSaid : Prop := edgesTurnedRow.holds Try.pinned (OpenSpec.ofChange edgesTurnedSpec)

/-- ITS FALSE NEIGHBOUR: 'it returns false'. Refute it at one input. -/
def edgesTurnedWrong : ChangeSpec := { name := "edgesTurned", fn := fun _ => fun
  | [d] => { results := [.lit (.bool false)], args := [d] }
  | _ => none }
def EdgesTurnedWrongFalsely : Prop := edgesTurnedRow.holds Try.pinned (OpenSpec.ofChange edgesTurnedWrong)

/-- 'letterbecklaw1.ZetaBoth': WHATEVER THE INPUT: true; the input reads as it did. -/
def zetaBothSpec : ChangeSpec := { name := "zetaBoth", fn := fun _ => fun
  | [d] => { results := [.lit (.bool true)], args := [d] }
  | _ => none }
def zetaBothRow : OpenClaim := { program := "ytocbkapoibddaaa", sum := "ae66447ee7ae81265b0955591f20e14331bfb7fd13add43d7059ac3bc4229a94", func := "letterbeck/letterbecklaw1.ZetaBoth", spec := "zetaBoth", apart := false }
def ZetaBothSaid : Prop := zetaBothRow.holds Try.pinned (OpenSpec.ofChange zetaBothSpec)

/-- ITS FALSE NEIGHBOUR: 'it returns false'. Refute it at one input. -/
def zetaBothWrong : ChangeSpec := { name := "zetaBoth", fn := fun _ => fun
  | [d] => { results := [.lit (.bool false)], args := [d] }
  | _ => none }
def ZetaBothWrongFalsely : Prop := zetaBothRow.holds Try.pinned (OpenSpec.ofChange zetaBothWrong)

/-- 'letterbecklaw1.ZetaEdges': WHATEVER THE INPUT: true; the input reads as it did. -/
def zetaEdgesSpec : ChangeSpec := { name := "zetaEdges", fn := fun _ => fun
  | [d] => { results := [.lit (.bool true)], args := [d] }
  | _ => none }
def zetaEdgesRow : OpenClaim := { program := "ytocbkapoibddaaa", sum := "ae66447ee7ae81265b0955591f20e14331bfb7fd13add43d7059ac3bc4229a94", func := "letterbeck/letterbecklaw1.ZetaEdges", spec := "zetaEdges", apart := false }
def ZetaEdgesSaid : Prop := zetaEdgesRow.holds Try.pinned (OpenSpec.ofChange zetaEdgesSpec)

/-- ITS FALSE NEIGHBOUR: 'it returns false'. Refute it at one input. -/
def zetaEdgesWrong : ChangeSpec := { name := "zetaEdges", fn := fun _ => fun
  | [d] => { results := [.lit (.bool false)], args := [d] }
  | _ => none }
def ZetaEdgesWrongFalsely : Prop := zetaEdgesRow.holds Try.pinned (OpenSpec.ofChange zetaEdgesWrong)

/-- 'letterbecklaw1.PeriodTimes': WHATEVER THE INPUT: true; the input reads as it did. -/
def periodTimesSpec : ChangeSpec := { name := "periodTimes", fn := fun _ => fun
  | [d1, d2, d3, d4] => { results := [.lit (.bool true)], args := [d1, d2, d3, d4] }
  | _ => none }
def periodTimesRow : OpenClaim := { program := "ytocbkapoibddaaa", sum := "ae66447ee7ae81265b0955591f20e14331bfb7fd13add43d7059ac3bc4229a94", func := "letterbeck/letterbecklaw1.PeriodTimes", spec := "periodTimes", apart := false }
def PeriodTimesSaid : Prop := periodTimesRow.holds Try.pinned (OpenSpec.ofChange periodTimesSpec)

/-- ITS FALSE NEIGHBOUR: 'it returns false'. Refute it at one input. -/
def periodTimesWrong : ChangeSpec := { name := "periodTimes", fn := fun _ => fun
  | [d1, d2, d3, d4] => { results := [.lit (.bool false)], args := [d1, d2, d3, d4] }
  | _ => none }
def PeriodTimesWrongFalsely : Prop := periodTimesRow.holds Try.pinned (OpenSpec.ofChange periodTimesWrong)

/-- 'letterbecklaw1.PeriodFine': WHATEVER THE INPUT: true; the input reads as it did. -/
def periodFineSpec : ChangeSpec := { name := "periodFine", fn := fun _ => fun
  | [d1, d2, d3] => { results := [.lit (.bool true)], args := [d1, d2, d3] }
  | _ => none }
def periodFineRow : OpenClaim := { program := "ytocbkapoibddaaa", sum := "ae66447ee7ae81265b0955591f20e14331bfb7fd13add43d7059ac3bc4229a94", func := "letterbeck/letterbecklaw1.PeriodFine", spec := "periodFine", apart := false }
def PeriodFineSaid : Prop := periodFineRow.holds Try.pinned (OpenSpec.ofChange periodFineSpec)

/-- ITS FALSE NEIGHBOUR: 'it returns false'. Refute it at one input. -/
def periodFineWrong : ChangeSpec := { name := "periodFine", fn := fun _ => fun
  | [d1, d2, d3] => { results := [.lit (.bool false)], args := [d1, d2, d3] }
  | _ => none }
def PeriodFineWrongFalsely : Prop := periodFineRow.holds Try.pinned (OpenSpec.ofChange periodFineWrong)

/-- 'letterbecklaw1.PeriodEdges': WHATEVER THE INPUT: true; the input reads as it did. -/
def periodEdgesSpec : ChangeSpec := { name := "periodEdges", fn := fun _ => fun
  | [d] => { results := [.lit (.bool true)], args := [d] }
  | _ => none }
def periodEdgesRow : OpenClaim := { program := "ytocbkapoibddaaa", sum := "ae66447ee7ae81265b0955591f20e14331bfb7fd13add43d7059ac3bc4229a94", func := "letterbeck/letterbecklaw1.PeriodEdges", spec := "periodEdges", apart := false }
def PeriodEdgesSaid : Prop := periodEdgesRow.holds Try.pinned (OpenSpec.ofChange periodEdgesSpec)

/-- ITS FALSE NEIGHBOUR: 'it returns false'. Refute it at one input. -/
def periodEdgesWrong : ChangeSpec := { name := "periodEdges", fn := fun _ => fun
  | [d] => { results := [.lit (.bool false)], args := [d] }
  | _ => none }
def PeriodEdgesWrongFalsely : Prop := periodEdgesRow.holds Try.pinned (OpenSpec.ofChange periodEdgesWrong)

/-- 'letterbecktop.TopPeriods': WHATEVER THE INPUT: true; the input reads as it did. -/
def topPeriodsSpec : ChangeSpec := { name := "topPeriods", fn := fun _ => fun
  | [d] => { results := [.lit (.bool true)], args := [d] }
  | _ => none }
def topPeriodsRow : OpenClaim := { program := "ytocbkapoibddaaa", sum := "ae66447ee7ae81265b0955591f20e14331bfb7fd13add43d7059ac3bc4229a94", func := "letterbeck/letterbecktop.TopPeriods", spec := "topPeriods", apart := false }
def TopPeriodsSaid : Prop := topPeriodsRow.holds Try.pinned (OpenSpec.ofChange topPeriodsSpec)

/-- ITS FALSE NEIGHBOUR: 'it returns false'. Refute it at one input. -/
def topPeriodsWrong : ChangeSpec := { name := "topPeriods", fn := fun _ => fun
  | [d] => { results := [.lit (.bool false)], args := [d] }
  | _ => none }
def TopPeriodsWrongFalsely : Prop := topPeriodsRow.holds Try.pinned (OpenSpec.ofChange topPeriodsWrong)

/- THE SECOND FORM. 'bulk': how many values and letters a reading holds, each counted each time it is reached (what is shared counts as often as it is met; a slice's spare places count too). A statement '..UptoSaid' is the law's where the arguments, and the package variables that the reading takes, are together of bulk at most 1048576: NARROWER than '..Said'. Prove '..Said' where nothing that the law and all that it calls make is longer than what came in: it says more and counts as full. Else prove '..UptoSaid'. A law counts once. -/
mutual
def uptoBulk {H : Type} : DataW H → Nat
  | .lit (.string bytes) => bytes.length + 1
  | .lit _ => 1
  | .nil => 1
  | .ptr d => uptoBulk d + 1
  | .slice elems spare => uptoBulkAll elems + uptoBulkAll spare + 1
  | .agg parts => uptoBulkAll parts + 1
  | .iface _ d => uptoBulk d + 1
  | .map entries => uptoBulkEntries entries + 1
  | .held _ => 1
def uptoBulkAll {H : Type} : List (DataW H) → Nat
  | [] => 0
  | d :: r => uptoBulk d + uptoBulkAll r
def uptoBulkEntries {H : Type} : List (Lit × DataW H) → Nat
  | [] => 0
  | x :: r => uptoBulkEntry x + uptoBulkEntries r
def uptoBulkEntry {H : Type} : Lit × DataW H → Nat
  | (.string bytes, d) => bytes.length + uptoBulk d + 1
  | (_, d) => uptoBulk d + 1
 end
def uptoSmall : (H : Type) → List (DataW H) → Bool := fun _ ds => decide (uptoBulkAll ds ≤ 1048576)
def OpenSpec.upto (s : _root_.Go.ChangeSpec) : _root_.Go.OpenSpec := { _root_.Go.OpenSpec.ofChange s with cond := some uptoSmall }

/-- 'letterbecklaw1.Names', WHERE WHAT IT READS IS OF BULK AT MOST 1048576: true; the input reads as it did. -/
def namesUptoRow : OpenClaim := { program := "ytocbkapoibddaaa", sum := "ae66447ee7ae81265b0955591f20e14331bfb7fd13add43d7059ac3bc4229a94", func := "letterbeck/letterbecklaw1.Names", spec := "names", apart := false, narrowed := true }
def NamesUptoSaid : Prop := namesUptoRow.holds Try.pinned (OpenSpec.upto namesSpec)

/-- 'letterbecklaw1.EdgesChain', WHERE WHAT IT READS IS OF BULK AT MOST 1048576: true; the input reads as it did. -/
def edgesChainUptoRow : OpenClaim := { program := "ytocbkapoibddaaa", sum := "ae66447ee7ae81265b0955591f20e14331bfb7fd13add43d7059ac3bc4229a94", func := "letterbeck/letterbecklaw1.EdgesChain", spec := "edgesChain", apart := false, narrowed := true }
def EdgesChainUptoSaid : Prop := edgesChainUptoRow.holds Try.pinned (OpenSpec.upto edgesChainSpec)

/-- 'letterbecklaw1.EdgesGrow', WHERE WHAT IT READS IS OF BULK AT MOST 1048576: true; the input reads as it did. -/
def edgesGrowUptoRow : OpenClaim := { program := "ytocbkapoibddaaa", sum := "ae66447ee7ae81265b0955591f20e14331bfb7fd13add43d7059ac3bc4229a94", func := "letterbeck/letterbecklaw1.EdgesGrow", spec := "edgesGrow", apart := false, narrowed := true }
def EdgesGrowUptoSaid : Prop := edgesGrowUptoRow.holds Try.pinned (OpenSpec.upto edgesGrowSpec)

/-- 'letterbecklaw1.EdgesTurned', WHERE WHAT IT READS IS OF BULK AT MOST 1048576: true; the input reads as it did. -/
def edgesTurnedUptoRow : OpenClaim := { program := "ytocbkapoibddaaa", sum := "ae66447ee7ae81265b0955591f20e14331bfb7fd13add43d7059ac3bc4229a94", func := "letterbeck/letterbecklaw1.EdgesTurned", spec := "edgesTurned", apart := false, narrowed := true }
def EdgesTurnedUptoSaid : Prop := edgesTurnedUptoRow.holds Try.pinned (OpenSpec.upto edgesTurnedSpec)

/-- 'letterbecklaw1.ZetaBoth', WHERE WHAT IT READS IS OF BULK AT MOST 1048576: true; the input reads as it did. -/
def zetaBothUptoRow : OpenClaim := { program := "ytocbkapoibddaaa", sum := "ae66447ee7ae81265b0955591f20e14331bfb7fd13add43d7059ac3bc4229a94", func := "letterbeck/letterbecklaw1.ZetaBoth", spec := "zetaBoth", apart := false, narrowed := true }
def ZetaBothUptoSaid : Prop := zetaBothUptoRow.holds Try.pinned (OpenSpec.upto zetaBothSpec)

/-- 'letterbecklaw1.ZetaEdges', WHERE WHAT IT READS IS OF BULK AT MOST 1048576: true; the input reads as it did. -/
def zetaEdgesUptoRow : OpenClaim := { program := "ytocbkapoibddaaa", sum := "ae66447ee7ae81265b0955591f20e14331bfb7fd13add43d7059ac3bc4229a94", func := "letterbeck/letterbecklaw1.ZetaEdges", spec := "zetaEdges", apart := false, narrowed := true }
def ZetaEdgesUptoSaid : Prop := zetaEdgesUptoRow.holds Try.pinned (OpenSpec.upto zetaEdgesSpec)

/-- 'letterbecklaw1.PeriodTimes', WHERE WHAT IT READS IS OF BULK AT MOST 1048576: true; the input reads as it did. -/
def periodTimesUptoRow : OpenClaim := { program := "ytocbkapoibddaaa", sum := "ae66447ee7ae81265b0955591f20e14331bfb7fd13add43d7059ac3bc4229a94", func := "letterbeck/letterbecklaw1.PeriodTimes", spec := "periodTimes", apart := false, narrowed := true }
def PeriodTimesUptoSaid : Prop := periodTimesUptoRow.holds Try.pinned (OpenSpec.upto periodTimesSpec)

/-- 'letterbecklaw1.PeriodFine', WHERE WHAT IT READS IS OF BULK AT MOST 1048576: true; the input reads as it did. -/
def periodFineUptoRow : OpenClaim := { program := "ytocbkapoibddaaa", sum := "ae66447ee7ae81265b0955591f20e14331bfb7fd13add43d7059ac3bc4229a94", func := "letterbeck/letterbecklaw1.PeriodFine", spec := "periodFine", apart := false, narrowed := true }
def PeriodFineUptoSaid : Prop := periodFineUptoRow.holds Try.pinned (OpenSpec.upto periodFineSpec)

/-- 'letterbecklaw1.PeriodEdges', WHERE WHAT IT READS IS OF BULK AT MOST 1048576: true; the input reads as it did. -/
def periodEdgesUptoRow : OpenClaim := { program := "ytocbkapoibddaaa", sum := "ae66447ee7ae81265b0955591f20e14331bfb7fd13add43d7059ac3bc4229a94", func := "letterbeck/letterbecklaw1.PeriodEdges", spec := "periodEdges", apart := false, narrowed := true }
def PeriodEdgesUptoSaid : Prop := periodEdgesUptoRow.holds Try.pinned (OpenSpec.upto periodEdgesSpec)

/-- 'letterbecktop.TopPeriods', WHERE WHAT IT READS IS OF BULK AT MOST 1048576: true; the input reads as it did. -/
def topPeriodsUptoRow : OpenClaim := { program := "ytocbkapoibddaaa", sum := "ae66447ee7ae81265b0955591f20e14331bfb7fd13add43d7059ac3bc4229a94", func := "letterbeck/letterbecktop.TopPeriods", spec := "topPeriods", apart := false, narrowed := true }
def TopPeriodsUptoSaid : Prop := topPeriodsUptoRow.holds Try.pinned (OpenSpec.upto topPeriodsSpec)

end Rows
end Go.Proofs.Ytocbkapoibddaaa
