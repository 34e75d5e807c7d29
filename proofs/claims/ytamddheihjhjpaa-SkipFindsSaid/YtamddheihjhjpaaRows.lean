/-
  No cell of these rows narrows 'for every input' (looked for: loops, veiled, ifaces, maps, wideKeys, modest, calm, conditions, laid).
  DERIVED. THE GIVEN ROWS OF THIS SEAT. 7 by the template 'for every input the law returns true; each argument reads behind the call as it read before'; 0 by the template 'total and deterministic' (their statements: YtamddheihjhjpaaTotals.lean).
  GIVEN WITH THE SEED: the statements are not yours to turn. If you find one false, say at which input.
  Laid BY PROGRAM, IN A SANDBOX (cutbox-rows.mjs): the forced cells as the released guide's own fill.sh prints them over the translation 29ea630ebfa69460… (all of the seat's roots in one cut). By AI agents, Wed Nov 11 2026. No macro, syntax, notation, axiom, sorry.
-/
import Derived.Test.YtamddheihjhjpaaChecked
import GoSem.Claim
import GoSem.ClaimJoined
import GoSem.ClaimMapViews
import Derived.JoinedTies
import Derived.KernelRfl
namespace Go.Proofs.Ytamddheihjhjpaa
/- THE CELL 'sum', in the pinned program and in every row, IS THE sha256 OF THE DUMP (.gsa) THAT YtamddheihjhjpaaProg.lean LOADS. Nothing in Lean hashes anything: it is a label: what it is worth is what the hold of that sum in a sandbox is worth. -/
noncomputable def Try.pinned : Pinned := { name := "ytamddheihjhjpaa", sum := "29ea630ebfa6946066be945f83ffd370365081b5eda80653f4f921d1942b2005", checked := Try.checked }
namespace Rows
def none {H : Type} : Left H := { results := [], args := [] }

/-- 'letterbecklaw1.SkipTimes': WHATEVER THE INPUT: true; the input reads as it did. -/
def skipTimesSpec : ChangeSpec := { name := "skipTimes", fn := fun _ => fun
  | [d1, d2] => { results := [.lit (.bool true)], args := [d1, d2] }
  | _ => none }
def skipTimesRow : OpenClaim := { program := "ytamddheihjhjpaa", sum := "29ea630ebfa6946066be945f83ffd370365081b5eda80653f4f921d1942b2005", func := "letterbeck/letterbecklaw1.SkipTimes", spec := "skipTimes", unfollowed := true, recurses := true, apart := false }
def SkipTimesSaid : Prop := skipTimesRow.holds Try.pinned (OpenSpec.ofChange skipTimesSpec)

/-- ITS FALSE NEIGHBOUR: 'it returns false'. Refute it at one input. -/
def skipTimesWrong : ChangeSpec := { name := "skipTimes", fn := fun _ => fun
  | [d1, d2] => { results := [.lit (.bool false)], args := [d1, d2] }
  | _ => none }
def SkipTimesWrongFalsely : Prop := skipTimesRow.holds Try.pinned (OpenSpec.ofChange skipTimesWrong)

/-- 'letterbecklaw1.SkipLeap': WHATEVER THE INPUT: true; the input reads as it did. -/
def skipLeapSpec : ChangeSpec := { name := "skipLeap", fn := fun _ => fun
  | [d1, d2] => { results := [.lit (.bool true)], args := [d1, d2] }
  | _ => none }
def skipLeapRow : OpenClaim := { program := "ytamddheihjhjpaa", sum := "29ea630ebfa6946066be945f83ffd370365081b5eda80653f4f921d1942b2005", func := "letterbeck/letterbecklaw1.SkipLeap", spec := "skipLeap", unfollowed := true, recurses := true, apart := false }
def SkipLeapSaid : Prop := skipLeapRow.holds Try.pinned (OpenSpec.ofChange skipLeapSpec)

/-- ITS FALSE NEIGHBOUR: 'it returns false'. Refute it at one input. -/
def skipLeapWrong : ChangeSpec := { name := "skipLeap", fn := fun _ => fun
  | [d1, d2] => { results := [.lit (.bool false)], args := [d1, d2] }
  | _ => none }
def SkipLeapWrongFalsely : Prop := skipLeapRow.holds Try.pinned (OpenSpec.ofChange skipLeapWrong)

/-- 'letterbecklaw1.SkipFinds': WHATEVER THE INPUT: true; the input reads as it did. -/
def skipFindsSpec : ChangeSpec := { name := "skipFinds", fn := fun _ => fun
  | [d1, d2] => { results := [.lit (.bool true)], args := [d1, d2] }
  | _ => none }
def skipFindsRow : OpenClaim := { program := "ytamddheihjhjpaa", sum := "29ea630ebfa6946066be945f83ffd370365081b5eda80653f4f921d1942b2005", func := "letterbeck/letterbecklaw1.SkipFinds", spec := "skipFinds", unfollowed := true, recurses := true, apart := false }
def SkipFindsSaid : Prop := skipFindsRow.holds Try.pinned (OpenSpec.ofChange skipFindsSpec)

/-- ITS FALSE NEIGHBOUR: 'it returns false'. Refute it at one input. -/
def skipFindsWrong : ChangeSpec := { name := "skipFinds", fn := fun _ => fun
  | [d1, d2] => { results := [.lit (.bool false)], args := [d1, d2] }
  | _ => none }
def SkipFindsWrongFalsely : Prop := skipFindsRow.holds Try.pinned (OpenSpec.ofChange skipFindsWrong)

/-- 'letterbecklaw1.FindNear': WHATEVER THE INPUT: true; the input reads as it did. -/
def findNearSpec : ChangeSpec := { name := "findNear", fn := fun _ => fun
  | [d1, d2] => { results := [.lit (.bool true)], args := [d1, d2] }
  | _ => none }
def findNearRow : OpenClaim := { program := "ytamddheihjhjpaa", sum := "29ea630ebfa6946066be945f83ffd370365081b5eda80653f4f921d1942b2005", func := "letterbeck/letterbecklaw1.FindNear", spec := "findNear", apart := false }
def FindNearSaid : Prop := findNearRow.holds Try.pinned (OpenSpec.ofChange findNearSpec)

/-- ITS FALSE NEIGHBOUR: 'it returns false'. Refute it at one input. -/
def findNearWrong : ChangeSpec := { name := "findNear", fn := fun _ => fun
  | [d1, d2] => { results := [.lit (.bool false)], args := [d1, d2] }
  | _ => none }
def FindNearWrongFalsely : Prop := findNearRow.holds Try.pinned (OpenSpec.ofChange findNearWrong)

/-- 'letterbecklaw1.FindParts': WHATEVER THE INPUT: true; the input reads as it did. -/
def findPartsSpec : ChangeSpec := { name := "findParts", fn := fun _ => fun
  | [d1, d2, d3] => { results := [.lit (.bool true)], args := [d1, d2, d3] }
  | _ => none }
def findPartsRow : OpenClaim := { program := "ytamddheihjhjpaa", sum := "29ea630ebfa6946066be945f83ffd370365081b5eda80653f4f921d1942b2005", func := "letterbeck/letterbecklaw1.FindParts", spec := "findParts", apart := false }
def FindPartsSaid : Prop := findPartsRow.holds Try.pinned (OpenSpec.ofChange findPartsSpec)

/-- ITS FALSE NEIGHBOUR: 'it returns false'. Refute it at one input. -/
def findPartsWrong : ChangeSpec := { name := "findParts", fn := fun _ => fun
  | [d1, d2, d3] => { results := [.lit (.bool false)], args := [d1, d2, d3] }
  | _ => none }
def FindPartsWrongFalsely : Prop := findPartsRow.holds Try.pinned (OpenSpec.ofChange findPartsWrong)

/-- 'letterbecklaw1.FindOne': WHATEVER THE INPUT: true; the input reads as it did. -/
def findOneSpec : ChangeSpec := { name := "findOne", fn := fun _ => fun
  | [d1, d2] => { results := [.lit (.bool true)], args := [d1, d2] }
  | _ => none }
def findOneRow : OpenClaim := { program := "ytamddheihjhjpaa", sum := "29ea630ebfa6946066be945f83ffd370365081b5eda80653f4f921d1942b2005", func := "letterbeck/letterbecklaw1.FindOne", spec := "findOne", apart := false }
def FindOneSaid : Prop := findOneRow.holds Try.pinned (OpenSpec.ofChange findOneSpec)

/-- ITS FALSE NEIGHBOUR: 'it returns false'. Refute it at one input. -/
def findOneWrong : ChangeSpec := { name := "findOne", fn := fun _ => fun
  | [d1, d2] => { results := [.lit (.bool false)], args := [d1, d2] }
  | _ => none }
def FindOneWrongFalsely : Prop := findOneRow.holds Try.pinned (OpenSpec.ofChange findOneWrong)

/-- 'letterbecklaw1.FindLonger': WHATEVER THE INPUT: true; the input reads as it did. -/
def findLongerSpec : ChangeSpec := { name := "findLonger", fn := fun _ => fun
  | [d1, d2, d3] => { results := [.lit (.bool true)], args := [d1, d2, d3] }
  | _ => none }
def findLongerRow : OpenClaim := { program := "ytamddheihjhjpaa", sum := "29ea630ebfa6946066be945f83ffd370365081b5eda80653f4f921d1942b2005", func := "letterbeck/letterbecklaw1.FindLonger", spec := "findLonger", apart := false }
def FindLongerSaid : Prop := findLongerRow.holds Try.pinned (OpenSpec.ofChange findLongerSpec)

/-- ITS FALSE NEIGHBOUR: 'it returns false'. Refute it at one input. -/
def findLongerWrong : ChangeSpec := { name := "findLonger", fn := fun _ => fun
  | [d1, d2, d3] => { results := [.lit (.bool false)], args := [d1, d2, d3] }
  | _ => none }
def FindLongerWrongFalsely : Prop := findLongerRow.holds Try.pinned (OpenSpec.ofChange findLongerWrong)

/- THE SECOND FORM. 'bulk': how many values and letters a reading holds, each counted each time it is reached (what is shared counts as often as it is met; a slice's spare places count too). A statement '..UptoSaid' is the law's where the arguments, and the package variables that the reading takes, are together of bulk at most 1048576: NARROWER than '..Said'. Prove '..Said' where nothing that the law and all that it calls make is longer than what came in: it says more and counts as full. Else prove '..UptoSaid'. A law counts once. -/
mutual
def uptoBulk {H : Type} : DataW H → Nat
  | .lit (.string bytes) => bytes.length + 1
  | .lit _ => 1
  | .nil => 1
  | .ptr d => uptoBulk d + 1
  | .slice elems spare => uptoBulkAll elems + uptoBulkAll spare + 1
  | .agg parts => uptoBulkAll parts + 1
  | .iface _ d => uptoBulk d + 1
  | .map entries => uptoBulkEntries entries + 1
  | .held _ => 1
def uptoBulkAll {H : Type} : List (DataW H) → Nat
  | [] => 0
  | d :: r => uptoBulk d + uptoBulkAll r
def uptoBulkEntries {H : Type} : List (Lit × DataW H) → Nat
  | [] => 0
  | x :: r => uptoBulkEntry x + uptoBulkEntries r
def uptoBulkEntry {H : Type} : Lit × DataW H → Nat
  | (.string bytes, d) => bytes.length + uptoBulk d + 1
  | (_, d) => uptoBulk d + 1
 end
def uptoSmall : (H : Type) → List (DataW H) → Bool := fun _ ds => decide (uptoBulkAll ds ≤ 1048576)
def OpenSpec.upto (s : _root_.Go.ChangeSpec) : _root_.Go.OpenSpec := { _root_.Go.OpenSpec.ofChange s with cond := some uptoSmall }

/-- 'letterbecklaw1.SkipTimes', WHERE WHAT IT READS IS OF BULK AT MOST 1048576: true; the input reads as it did. -/
def skipTimesUptoRow : OpenClaim := { program := "ytamddheihjhjpaa", sum := "29ea630ebfa6946066be945f83ffd370365081b5eda80653f4f921d1942b2005", func := "letterbeck/letterbecklaw1.SkipTimes", spec := "skipTimes", unfollowed := true, recurses := true, apart := false, narrowed := true }
def SkipTimesUptoSaid : Prop := skipTimesUptoRow.holds Try.pinned (OpenSpec.upto skipTimesSpec)

/-- 'letterbecklaw1.SkipLeap', WHERE WHAT IT READS IS OF BULK AT MOST 1048576: true; the input reads as it did. -/
def skipLeapUptoRow : OpenClaim := { program := "ytamddheihjhjpaa", sum := "29ea630ebfa6946066be945f83ffd370365081b5eda80653f4f921d1942b2005", func := "letterbeck/letterbecklaw1.SkipLeap", spec := "skipLeap", unfollowed := true, recurses := true, apart := false, narrowed := true }
def SkipLeapUptoSaid : Prop := skipLeapUptoRow.holds Try.pinned (OpenSpec.upto skipLeapSpec)

/-- 'letterbecklaw1.SkipFinds', WHERE WHAT IT READS IS OF BULK AT MOST 1048576: true; the input reads as it did. -/
def skipFindsUptoRow : OpenClaim := { program := "ytamddheihjhjpaa", sum := "29ea630ebfa6946066be945f83ffd370365081b5eda80653f4f921d1942b2005", func := "letterbeck/letterbecklaw1.SkipFinds", spec := "skipFinds", unfollowed := true, recurses := true, apart := false, narrowed := true }
def SkipFindsUptoSaid : Prop := skipFindsUptoRow.holds Try.pinned (OpenSpec.upto skipFindsSpec)

/-- 'letterbecklaw1.FindNear', WHERE WHAT IT READS IS OF BULK AT MOST 1048576: true; the input reads as it did. -/
def findNearUptoRow : OpenClaim := { program := "ytamddheihjhjpaa", sum := "29ea630ebfa6946066be945f83ffd370365081b5eda80653f4f921d1942b2005", func := "letterbeck/letterbecklaw1.FindNear", spec := "findNear", apart := false, narrowed := true }
def FindNearUptoSaid : Prop := findNearUptoRow.holds Try.pinned (OpenSpec.upto findNearSpec)

/-- 'letterbecklaw1.FindParts', WHERE WHAT IT READS IS OF BULK AT MOST 1048576: true; the input reads as it did. -/
def findPartsUptoRow : OpenClaim := { program := "ytamddheihjhjpaa", sum := "29ea630ebfa6946066be945f83ffd370365081b5eda80653f4f921d1942b2005", func := "letterbeck/letterbecklaw1.FindParts", spec := "findParts", apart := false, narrowed := true }
def FindPartsUptoSaid : Prop := findPartsUptoRow.holds Try.pinned (OpenSpec.upto findPartsSpec)

/-- 'letterbecklaw1.FindOne', WHERE WHAT IT READS IS OF BULK AT MOST 1048576: true; the input reads as it did. -/
def findOneUptoRow : OpenClaim := { program := "ytamddheihjhjpaa", sum := "29ea630ebfa6946066be945f83ffd370365081b5eda80653f4f921d1942b2005", func := "letterbeck/letterbecklaw1.FindOne", spec := "findOne", apart := false, narrowed := true }
def FindOneUptoSaid : Prop := findOneUptoRow.holds Try.pinned (OpenSpec.upto findOneSpec)

/-- 'letterbecklaw1.FindLonger', WHERE WHAT IT READS IS OF BULK AT MOST 1048576: true; the input reads as it did. -/
def findLongerUptoRow : OpenClaim := { program := "ytamddheihjhjpaa", sum := "29ea630ebfa6946066be945f83ffd370365081b5eda80653f4f921d1942b2005", func := "letterbeck/letterbecklaw1.FindLonger", spec := "findLonger", apart := false, narrowed := true }
def FindLongerUptoSaid : Prop := findLongerUptoRow.holds Try.pinned (OpenSpec.upto findLongerSpec)

end Rows
end Go.Proofs.Ytamddheihjhjpaa
