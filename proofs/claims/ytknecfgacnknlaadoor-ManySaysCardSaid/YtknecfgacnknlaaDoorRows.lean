/-
  NARROWER THAN 'FOR EVERY INPUT', by the rows' own cells (each row's printed sentence says how): EdgesSays: laid · ZetaSays: laid · PeriodSays: laid · FindSays: laid · SkipSays: laid · LyndonSays: laid · TurnSays: laid · MirrorSays: laid · TrieSays: laid · ManySays: laid.
  DERIVED. THE GIVEN ROWS OF THIS SEAT. 10 by the template 'for every input the law returns true; each argument reads behind the call as it read before'; 0 by the template 'total and deterministic' (their statements: YtknecfgacnknlaaDoorTotals.lean).
  GIVEN WITH THE SEED: the statements are not yours to turn. If you find one false, say at which input.
  Laid BY PROGRAM, IN A SANDBOX (cutbox-rows.mjs): the forced cells as the released guide's own fill.sh prints them over the translation 9186f2bc1b352463… (all of the seat's roots in one cut). By AI agents, Wed Nov 11 2026. No macro, syntax, notation, axiom, sorry.
-/
import Derived.Test.YtknecfgacnknlaaDoorChecked
import GoSem.Claim
import GoSem.ClaimJoined
import GoSem.ClaimMapViews
import Derived.JoinedTies
import Derived.KernelRfl
namespace Go.Proofs.YtknecfgacnknlaaDoor
/- THE CELL 'sum', in the pinned program and in every row, IS THE sha256 OF THE DUMP (.gsa) THAT YtknecfgacnknlaaDoorProg.lean LOADS. Nothing in Lean hashes anything: it is a label: what it is worth is what the hold of that sum in a sandbox is worth. -/
noncomputable def Tryd.pinned : Pinned := { name := "ytknecfgacnknlaadoor", sum := "9186f2bc1b3524634588c9c66a42f40abf4c0623fedeea0da5e82c156eaae1ed", checked := Tryd.checked }
namespace Rows
def none {H : Type} : Left H := { results := [], args := [] }

/- WHAT THE LISTED PACKAGE-LEVEL VARIABLES READ AS WHEN THE CALL BEGINS. Each datum BY PROGRAM (the guide's laid-datum.mjs) off the statement by which the dump's own 'gosem.cut.vars' lays the variable. In a bare row this is a premise. The card (YtknecfgacnknlaaDoorCards.lean) ties it to the program's text. -/
def laid_errors_errorType {H : Type} : DataW H := .iface "internal/reflectlite.rtype" (.agg [.ptr (.lit (.string [101, 114, 114, 111, 114]))])

/-- 'letterbecklaw1.EdgesSays': WHATEVER THE INPUT: true; the input reads as it did. -/
def edgesSaysSpec : ChangeSpec := { name := "edgesSays", fn := fun _ => fun
  | [d] => { results := [.lit (.bool true)], args := [d] }
  | _ => none }
def edgesSaysRow : OpenClaim := { program := "ytknecfgacnknlaadoor", sum := "9186f2bc1b3524634588c9c66a42f40abf4c0623fedeea0da5e82c156eaae1ed", func := "letterbeck/letterbecklaw1.EdgesSays", spec := "edgesSays", inPlace := ["internal/reflectlite.ValueOf", "(internal/reflectlite.Value).Type", "(internal/reflectlite.Value).IsNil", "internal/reflectlite.TypeOf", "(internal/reflectlite.Value).Elem", "(internal/reflectlite.Value).Set"], unfollowed := true, recurses := true, named := ["errors.errorType"], apart := false, laid := [("errors.errorType", laid_errors_errorType)] }
def EdgesSaysSaid : Prop := edgesSaysRow.holds Tryd.pinned (OpenSpec.ofChange edgesSaysSpec)

/-- ITS FALSE NEIGHBOUR: 'it returns false'. Refute it at one input. -/
def edgesSaysWrong : ChangeSpec := { name := "edgesSays", fn := fun _ => fun
  | [d] => { results := [.lit (.bool false)], args := [d] }
  | _ => none }
def EdgesSaysWrongFalsely : Prop := edgesSaysRow.holds Tryd.pinned (OpenSpec.ofChange edgesSaysWrong)

/-- 'letterbecklaw1.ZetaSays': WHATEVER THE INPUT: true; the input reads as it did. -/
def zetaSaysSpec : ChangeSpec := { name := "zetaSays", fn := fun _ => fun
  | [d] => { results := [.lit (.bool true)], args := [d] }
  | _ => none }
def zetaSaysRow : OpenClaim := { program := "ytknecfgacnknlaadoor", sum := "9186f2bc1b3524634588c9c66a42f40abf4c0623fedeea0da5e82c156eaae1ed", func := "letterbeck/letterbecklaw1.ZetaSays", spec := "zetaSays", inPlace := ["internal/reflectlite.ValueOf", "(internal/reflectlite.Value).Type", "(internal/reflectlite.Value).IsNil", "internal/reflectlite.TypeOf", "(internal/reflectlite.Value).Elem", "(internal/reflectlite.Value).Set"], unfollowed := true, recurses := true, named := ["errors.errorType"], apart := false, laid := [("errors.errorType", laid_errors_errorType)] }
def ZetaSaysSaid : Prop := zetaSaysRow.holds Tryd.pinned (OpenSpec.ofChange zetaSaysSpec)

/-- ITS FALSE NEIGHBOUR: 'it returns false'. Refute it at one input. -/
def zetaSaysWrong : ChangeSpec := { name := "zetaSays", fn := fun _ => fun
  | [d] => { results := [.lit (.bool false)], args := [d] }
  | _ => none }
def ZetaSaysWrongFalsely : Prop := zetaSaysRow.holds Tryd.pinned (OpenSpec.ofChange zetaSaysWrong)

/-- 'letterbecklaw1.PeriodSays': WHATEVER THE INPUT: true; the input reads as it did. -/
def periodSaysSpec : ChangeSpec := { name := "periodSays", fn := fun _ => fun
  | [d1, d2] => { results := [.lit (.bool true)], args := [d1, d2] }
  | _ => none }
def periodSaysRow : OpenClaim := { program := "ytknecfgacnknlaadoor", sum := "9186f2bc1b3524634588c9c66a42f40abf4c0623fedeea0da5e82c156eaae1ed", func := "letterbeck/letterbecklaw1.PeriodSays", spec := "periodSays", inPlace := ["internal/reflectlite.ValueOf", "(internal/reflectlite.Value).Type", "(internal/reflectlite.Value).IsNil", "internal/reflectlite.TypeOf", "(internal/reflectlite.Value).Elem", "(internal/reflectlite.Value).Set"], unfollowed := true, recurses := true, named := ["errors.errorType"], apart := false, laid := [("errors.errorType", laid_errors_errorType)] }
def PeriodSaysSaid : Prop := periodSaysRow.holds Tryd.pinned (OpenSpec.ofChange periodSaysSpec)

/-- ITS FALSE NEIGHBOUR: 'it returns false'. Refute it at one input. -/
def periodSaysWrong : ChangeSpec := { name := "periodSays", fn := fun _ => fun
  | [d1, d2] => { results := [.lit (.bool false)], args := [d1, d2] }
  | _ => none }
def PeriodSaysWrongFalsely : Prop := periodSaysRow.holds Tryd.pinned (OpenSpec.ofChange periodSaysWrong)

/-- 'letterbecklaw1.FindSays': WHATEVER THE INPUT: true; the input reads as it did. -/
def findSaysSpec : ChangeSpec := { name := "findSays", fn := fun _ => fun
  | [d1, d2] => { results := [.lit (.bool true)], args := [d1, d2] }
  | _ => none }
def findSaysRow : OpenClaim := { program := "ytknecfgacnknlaadoor", sum := "9186f2bc1b3524634588c9c66a42f40abf4c0623fedeea0da5e82c156eaae1ed", func := "letterbeck/letterbecklaw1.FindSays", spec := "findSays", inPlace := ["internal/reflectlite.ValueOf", "(internal/reflectlite.Value).Type", "(internal/reflectlite.Value).IsNil", "internal/reflectlite.TypeOf", "(internal/reflectlite.Value).Elem", "(internal/reflectlite.Value).Set"], unfollowed := true, recurses := true, named := ["errors.errorType"], apart := false, laid := [("errors.errorType", laid_errors_errorType)] }
def FindSaysSaid : Prop := findSaysRow.holds Tryd.pinned (OpenSpec.ofChange findSaysSpec)

/-- ITS FALSE NEIGHBOUR: 'it returns false'. Refute it at one input. -/
def findSaysWrong : ChangeSpec := { name := "findSays", fn := fun _ => fun
  | [d1, d2] => { results := [.lit (.bool false)], args := [d1, d2] }
  | _ => none }
def FindSaysWrongFalsely : Prop := findSaysRow.holds Tryd.pinned (OpenSpec.ofChange findSaysWrong)

/-- 'letterbecklaw1.SkipSays': WHATEVER THE INPUT: true; the input reads as it did. -/
def skipSaysSpec : ChangeSpec := { name := "skipSays", fn := fun _ => fun
  | [d1, d2, d3] => { results := [.lit (.bool true)], args := [d1, d2, d3] }
  | _ => none }
def skipSaysRow : OpenClaim := { program := "ytknecfgacnknlaadoor", sum := "9186f2bc1b3524634588c9c66a42f40abf4c0623fedeea0da5e82c156eaae1ed", func := "letterbeck/letterbecklaw1.SkipSays", spec := "skipSays", inPlace := ["internal/reflectlite.ValueOf", "(internal/reflectlite.Value).Type", "(internal/reflectlite.Value).IsNil", "internal/reflectlite.TypeOf", "(internal/reflectlite.Value).Elem", "(internal/reflectlite.Value).Set"], unfollowed := true, recurses := true, named := ["errors.errorType"], apart := false, laid := [("errors.errorType", laid_errors_errorType)] }
def SkipSaysSaid : Prop := skipSaysRow.holds Tryd.pinned (OpenSpec.ofChange skipSaysSpec)

/-- ITS FALSE NEIGHBOUR: 'it returns false'. Refute it at one input. -/
def skipSaysWrong : ChangeSpec := { name := "skipSays", fn := fun _ => fun
  | [d1, d2, d3] => { results := [.lit (.bool false)], args := [d1, d2, d3] }
  | _ => none }
def SkipSaysWrongFalsely : Prop := skipSaysRow.holds Tryd.pinned (OpenSpec.ofChange skipSaysWrong)

/-- 'letterbecklaw1.LyndonSays': WHATEVER THE INPUT: true; the input reads as it did. -/
def lyndonSaysSpec : ChangeSpec := { name := "lyndonSays", fn := fun _ => fun
  | [d] => { results := [.lit (.bool true)], args := [d] }
  | _ => none }
def lyndonSaysRow : OpenClaim := { program := "ytknecfgacnknlaadoor", sum := "9186f2bc1b3524634588c9c66a42f40abf4c0623fedeea0da5e82c156eaae1ed", func := "letterbeck/letterbecklaw1.LyndonSays", spec := "lyndonSays", inPlace := ["internal/reflectlite.ValueOf", "(internal/reflectlite.Value).Type", "(internal/reflectlite.Value).IsNil", "internal/reflectlite.TypeOf", "(internal/reflectlite.Value).Elem", "(internal/reflectlite.Value).Set"], unfollowed := true, recurses := true, named := ["errors.errorType"], apart := false, laid := [("errors.errorType", laid_errors_errorType)] }
def LyndonSaysSaid : Prop := lyndonSaysRow.holds Tryd.pinned (OpenSpec.ofChange lyndonSaysSpec)

/-- ITS FALSE NEIGHBOUR: 'it returns false'. Refute it at one input. -/
def lyndonSaysWrong : ChangeSpec := { name := "lyndonSays", fn := fun _ => fun
  | [d] => { results := [.lit (.bool false)], args := [d] }
  | _ => none }
def LyndonSaysWrongFalsely : Prop := lyndonSaysRow.holds Tryd.pinned (OpenSpec.ofChange lyndonSaysWrong)

/-- 'letterbecklaw1.TurnSays': WHATEVER THE INPUT: true; the input reads as it did. -/
def turnSaysSpec : ChangeSpec := { name := "turnSays", fn := fun _ => fun
  | [d1, d2] => { results := [.lit (.bool true)], args := [d1, d2] }
  | _ => none }
def turnSaysRow : OpenClaim := { program := "ytknecfgacnknlaadoor", sum := "9186f2bc1b3524634588c9c66a42f40abf4c0623fedeea0da5e82c156eaae1ed", func := "letterbeck/letterbecklaw1.TurnSays", spec := "turnSays", inPlace := ["internal/reflectlite.ValueOf", "(internal/reflectlite.Value).Type", "(internal/reflectlite.Value).IsNil", "internal/reflectlite.TypeOf", "(internal/reflectlite.Value).Elem", "(internal/reflectlite.Value).Set", "internal/bytealg.IndexByteString", "internal/bytealg.IndexString"], unfollowed := true, recurses := true, named := ["errors.errorType", "internal/bytealg.MaxLen"], apart := false, laid := [("errors.errorType", laid_errors_errorType)] }
def TurnSaysSaid : Prop := turnSaysRow.holds Tryd.pinned (OpenSpec.ofChange turnSaysSpec)

/-- ITS FALSE NEIGHBOUR: 'it returns false'. Refute it at one input. -/
def turnSaysWrong : ChangeSpec := { name := "turnSays", fn := fun _ => fun
  | [d1, d2] => { results := [.lit (.bool false)], args := [d1, d2] }
  | _ => none }
def TurnSaysWrongFalsely : Prop := turnSaysRow.holds Tryd.pinned (OpenSpec.ofChange turnSaysWrong)

/-- 'letterbecklaw1.MirrorSays': WHATEVER THE INPUT: true; the input reads as it did. -/
def mirrorSaysSpec : ChangeSpec := { name := "mirrorSays", fn := fun _ => fun
  | [d] => { results := [.lit (.bool true)], args := [d] }
  | _ => none }
def mirrorSaysRow : OpenClaim := { program := "ytknecfgacnknlaadoor", sum := "9186f2bc1b3524634588c9c66a42f40abf4c0623fedeea0da5e82c156eaae1ed", func := "letterbeck/letterbecklaw1.MirrorSays", spec := "mirrorSays", inPlace := ["internal/reflectlite.ValueOf", "(internal/reflectlite.Value).Type", "(internal/reflectlite.Value).IsNil", "internal/reflectlite.TypeOf", "(internal/reflectlite.Value).Elem", "(internal/reflectlite.Value).Set"], unfollowed := true, recurses := true, named := ["errors.errorType"], apart := false, laid := [("errors.errorType", laid_errors_errorType)] }
def MirrorSaysSaid : Prop := mirrorSaysRow.holds Tryd.pinned (OpenSpec.ofChange mirrorSaysSpec)

/-- ITS FALSE NEIGHBOUR: 'it returns false'. Refute it at one input. -/
def mirrorSaysWrong : ChangeSpec := { name := "mirrorSays", fn := fun _ => fun
  | [d] => { results := [.lit (.bool false)], args := [d] }
  | _ => none }
def MirrorSaysWrongFalsely : Prop := mirrorSaysRow.holds Tryd.pinned (OpenSpec.ofChange mirrorSaysWrong)

/-- 'letterbecklaw1.TrieSays': WHATEVER THE INPUT: true; the input reads as it did. -/
def trieSaysSpec : ChangeSpec := { name := "trieSays", fn := fun _ => fun
  | [d1, d2] => { results := [.lit (.bool true)], args := [d1, d2] }
  | _ => none }
def trieSaysRow : OpenClaim := { program := "ytknecfgacnknlaadoor", sum := "9186f2bc1b3524634588c9c66a42f40abf4c0623fedeea0da5e82c156eaae1ed", func := "letterbeck/letterbecklaw1.TrieSays", spec := "trieSays", inPlace := ["internal/reflectlite.ValueOf", "(internal/reflectlite.Value).Type", "(internal/reflectlite.Value).IsNil", "internal/reflectlite.TypeOf", "(internal/reflectlite.Value).Elem", "(internal/reflectlite.Value).Set"], unfollowed := true, recurses := true, named := ["errors.errorType"], apart := false, laid := [("errors.errorType", laid_errors_errorType)] }
def TrieSaysSaid : Prop := trieSaysRow.holds Tryd.pinned (OpenSpec.ofChange trieSaysSpec)

/-- ITS FALSE NEIGHBOUR: 'it returns false'. Refute it at one input. -/
def trieSaysWrong : ChangeSpec := { name := "trieSays", fn := fun _ => fun
  | [d1, d2] => { results := [.lit (.bool false)], args := [d1, d2] }
  | _ => none }
def TrieSaysWrongFalsely : Prop := trieSaysRow.holds Tryd.pinned (OpenSpec.ofChange trieSaysWrong)

/-- 'letterbecklaw1.ManySays': WHATEVER THE INPUT: true; the input reads as it did. -/
def manySaysSpec : ChangeSpec := { name := "manySays", fn := fun _ => fun
  | [d1, d2] => { results := [.lit (.bool true)], args := [d1, d2] }
  | _ => none }
def manySaysRow : OpenClaim := { program := "ytknecfgacnknlaadoor", sum := "9186f2bc1b3524634588c9c66a42f40abf4c0623fedeea0da5e82c156eaae1ed", func := "letterbeck/letterbecklaw1.ManySays", spec := "manySays", inPlace := ["internal/reflectlite.ValueOf", "(internal/reflectlite.Value).Type", "(internal/reflectlite.Value).IsNil", "internal/reflectlite.TypeOf", "(internal/reflectlite.Value).Elem", "(internal/reflectlite.Value).Set"], unfollowed := true, recurses := true, named := ["errors.errorType"], apart := false, laid := [("errors.errorType", laid_errors_errorType)] }
def ManySaysSaid : Prop := manySaysRow.holds Tryd.pinned (OpenSpec.ofChange manySaysSpec)

/-- ITS FALSE NEIGHBOUR: 'it returns false'. Refute it at one input. -/
def manySaysWrong : ChangeSpec := { name := "manySays", fn := fun _ => fun
  | [d1, d2] => { results := [.lit (.bool false)], args := [d1, d2] }
  | _ => none }
def ManySaysWrongFalsely : Prop := manySaysRow.holds Tryd.pinned (OpenSpec.ofChange manySaysWrong)

/- THE SECOND FORM. 'bulk': how many values and letters a reading holds, each counted each time it is reached (what is shared counts as often as it is met; a slice's spare places count too). A statement '..UptoSaid' is the law's where the arguments, and the package variables that the reading takes, are together of bulk at most 1048576: NARROWER than '..Said'. Prove '..Said' where nothing that the law and all that it calls make is longer than what came in: it says more and counts as full. Else prove '..UptoSaid'. A law counts once. -/
mutual
def uptoBulk {H : Type} : DataW H → Nat
  | .lit (.string bytes) => bytes.length + 1
  | .lit _ => 1
  | .nil => 1
  | .ptr d => uptoBulk d + 1
  | .slice elems spare => uptoBulkAll elems + uptoBulkAll spare + 1
  | .agg parts => uptoBulkAll parts + 1
  | .iface _ d => uptoBulk d + 1
  | .map entries => uptoBulkEntries entries + 1
  | .held _ => 1
def uptoBulkAll {H : Type} : List (DataW H) → Nat
  | [] => 0
  | d :: r => uptoBulk d + uptoBulkAll r
def uptoBulkEntries {H : Type} : List (Lit × DataW H) → Nat
  | [] => 0
  | x :: r => uptoBulkEntry x + uptoBulkEntries r
def uptoBulkEntry {H : Type} : Lit × DataW H → Nat
  | (.string bytes, d) => bytes.length + uptoBulk d + 1
  | (_, d) => uptoBulk d + 1
 end
def uptoSmall : (H : Type) → List (DataW H) → Bool := fun _ ds => decide (uptoBulkAll ds ≤ 1048576)
def OpenSpec.upto (s : _root_.Go.ChangeSpec) : _root_.Go.OpenSpec := { _root_.Go.OpenSpec.ofChange s with cond := some uptoSmall }

/-- 'letterbecklaw1.EdgesSays', WHERE WHAT IT READS IS OF BULK AT MOST 1048576: true; the input reads as it did. -/
def edgesSaysUptoRow : OpenClaim := { program := "ytknecfgacnknlaadoor", sum := "9186f2bc1b3524634588c9c66a42f40abf4c0623fedeea0da5e82c156eaae1ed", func := "letterbeck/letterbecklaw1.EdgesSays", spec := "edgesSays", inPlace := ["internal/reflectlite.ValueOf", "(internal/reflectlite.Value).Type", "(internal/reflectlite.Value).IsNil", "internal/reflectlite.TypeOf", "(internal/reflectlite.Value).Elem", "(internal/reflectlite.Value).Set"], unfollowed := true, recurses := true, named := ["errors.errorType"], apart := false, laid := [("errors.errorType", laid_errors_errorType)], narrowed := true }
def EdgesSaysUptoSaid : Prop := edgesSaysUptoRow.holds Tryd.pinned (OpenSpec.upto edgesSaysSpec)

/-- 'letterbecklaw1.ZetaSays', WHERE WHAT IT READS IS OF BULK AT MOST 1048576: true; the input reads as it did. -/
def zetaSaysUptoRow : OpenClaim := { program := "ytknecfgacnknlaadoor", sum := "9186f2bc1b3524634588c9c66a42f40abf4c0623fedeea0da5e82c156eaae1ed", func := "letterbeck/letterbecklaw1.ZetaSays", spec := "zetaSays", inPlace := ["internal/reflectlite.ValueOf", "(internal/reflectlite.Value).Type", "(internal/reflectlite.Value).IsNil", "internal/reflectlite.TypeOf", "(internal/reflectlite.Value).Elem", "(internal/reflectlite.Value).Set"], unfollowed := true, recurses := true, named := ["errors.errorType"], apart := false, laid := [("errors.errorType", laid_errors_errorType)], narrowed := true }
def ZetaSaysUptoSaid : Prop := zetaSaysUptoRow.holds Tryd.pinned (OpenSpec.upto zetaSaysSpec)

/-- 'letterbecklaw1.PeriodSays', WHERE WHAT IT READS IS OF BULK AT MOST 1048576: true; the input reads as it did. -/
def periodSaysUptoRow : OpenClaim := { program := "ytknecfgacnknlaadoor", sum := "9186f2bc1b3524634588c9c66a42f40abf4c0623fedeea0da5e82c156eaae1ed", func := "letterbeck/letterbecklaw1.PeriodSays", spec := "periodSays", inPlace := ["internal/reflectlite.ValueOf", "(internal/reflectlite.Value).Type", "(internal/reflectlite.Value).IsNil", "internal/reflectlite.TypeOf", "(internal/reflectlite.Value).Elem", "(internal/reflectlite.Value).Set"], unfollowed := true, recurses := true, named := ["errors.errorType"], apart := false, laid := [("errors.errorType", laid_errors_errorType)], narrowed := true }
def PeriodSaysUptoSaid : Prop := periodSaysUptoRow.holds Tryd.pinned (OpenSpec.upto periodSaysSpec)

/-- 'letterbecklaw1.FindSays', WHERE WHAT IT READS IS OF BULK AT MOST 1048576: true; the input reads as it did. -/
def findSaysUptoRow : OpenClaim := { program := "ytknecfgacnknlaadoor", sum := "9186f2bc1b3524634588c9c66a42f40abf4c0623fedeea0da5e82c156eaae1ed", func := "letterbeck/letterbecklaw1.FindSays", spec := "findSays", inPlace := ["internal/reflectlite.ValueOf", "(internal/reflectlite.Value).Type", "(internal/reflectlite.Value).IsNil", "internal/reflectlite.TypeOf", "(internal/reflectlite.Value).Elem", "(internal/reflectlite.Value).Set"], unfollowed := true, recurses := true, named := ["errors.errorType"], apart := false, laid := [("errors.errorType", laid_errors_errorType)], narrowed := true }
def FindSaysUptoSaid : Prop := findSaysUptoRow.holds Tryd.pinned (OpenSpec.upto findSaysSpec)

/-- 'letterbecklaw1.SkipSays', WHERE WHAT IT READS IS OF BULK AT MOST 1048576: true; the input reads as it did. -/
def skipSaysUptoRow : OpenClaim := { program := "ytknecfgacnknlaadoor", sum := "9186f2bc1b3524634588c9c66a42f40abf4c0623fedeea0da5e82c156eaae1ed", func := "letterbeck/letterbecklaw1.SkipSays", spec := "skipSays", inPlace := ["internal/reflectlite.ValueOf", "(internal/reflectlite.Value).Type", "(internal/reflectlite.Value).IsNil", "internal/reflectlite.TypeOf", "(internal/reflectlite.Value).Elem", "(internal/reflectlite.Value).Set"], unfollowed := true, recurses := true, named := ["errors.errorType"], apart := false, laid := [("errors.errorType", laid_errors_errorType)], narrowed := true }
def SkipSaysUptoSaid : Prop := skipSaysUptoRow.holds Tryd.pinned (OpenSpec.upto skipSaysSpec)

/-- 'letterbecklaw1.LyndonSays', WHERE WHAT IT READS IS OF BULK AT MOST 1048576: true; the input reads as it did. -/
def lyndonSaysUptoRow : OpenClaim := { program := "ytknecfgacnknlaadoor", sum := "9186f2bc1b3524634588c9c66a42f40abf4c0623fedeea0da5e82c156eaae1ed", func := "letterbeck/letterbecklaw1.LyndonSays", spec := "lyndonSays", inPlace := ["internal/reflectlite.ValueOf", "(internal/reflectlite.Value).Type", "(internal/reflectlite.Value).IsNil", "internal/reflectlite.TypeOf", "(internal/reflectlite.Value).Elem", "(internal/reflectlite.Value).Set"], unfollowed := true, recurses := true, named := ["errors.errorType"], apart := false, laid := [("errors.errorType", laid_errors_errorType)], narrowed := true }
def LyndonSaysUptoSaid : Prop := lyndonSaysUptoRow.holds Tryd.pinned (OpenSpec.upto lyndonSaysSpec)

/-- 'letterbecklaw1.TurnSays', WHERE WHAT IT READS IS OF BULK AT MOST 1048576: true; the input reads as it did. -/
def turnSaysUptoRow : OpenClaim := { program := "ytknecfgacnknlaadoor", sum := "9186f2bc1b3524634588c9c66a42f40abf4c0623fedeea0da5e82c156eaae1ed", func := "letterbeck/letterbecklaw1.TurnSays", spec := "turnSays", inPlace := ["internal/reflectlite.ValueOf", "(internal/reflectlite.Value).Type", "(internal/reflectlite.Value).IsNil", "internal/reflectlite.TypeOf", "(internal/reflectlite.Value).Elem", "(internal/reflectlite.Value).Set", "internal/bytealg.IndexByteString", "internal/bytealg.IndexString"], unfollowed := true, recurses := true, named := ["errors.errorType", "internal/bytealg.MaxLen"], apart := false, laid := [("errors.errorType", laid_errors_errorType)], narrowed := true }
def TurnSaysUptoSaid : Prop := turnSaysUptoRow.holds Tryd.pinned (OpenSpec.upto turnSaysSpec)

/-- 'letterbecklaw1.MirrorSays', WHERE WHAT IT READS IS OF BULK AT MOST 1048576: true; the input reads as it did. -/
def mirrorSaysUptoRow : OpenClaim := { program := "ytknecfgacnknlaadoor", sum := "9186f2bc1b3524634588c9c66a42f40abf4c0623fedeea0da5e82c156eaae1ed", func := "letterbeck/letterbecklaw1.MirrorSays", spec := "mirrorSays", inPlace := ["internal/reflectlite.ValueOf", "(internal/reflectlite.Value).Type", "(internal/reflectlite.Value).IsNil", "internal/reflectlite.TypeOf", "(internal/reflectlite.Value).Elem", "(internal/reflectlite.Value).Set"], unfollowed := true, recurses := true, named := ["errors.errorType"], apart := false, laid := [("errors.errorType", laid_errors_errorType)], narrowed := true }
def MirrorSaysUptoSaid : Prop := mirrorSaysUptoRow.holds Tryd.pinned (OpenSpec.upto mirrorSaysSpec)

/-- 'letterbecklaw1.TrieSays', WHERE WHAT IT READS IS OF BULK AT MOST 1048576: true; the input reads as it did. -/
def trieSaysUptoRow : OpenClaim := { program := "ytknecfgacnknlaadoor", sum := "9186f2bc1b3524634588c9c66a42f40abf4c0623fedeea0da5e82c156eaae1ed", func := "letterbeck/letterbecklaw1.TrieSays", spec := "trieSays", inPlace := ["internal/reflectlite.ValueOf", "(internal/reflectlite.Value).Type", "(internal/reflectlite.Value).IsNil", "internal/reflectlite.TypeOf", "(internal/reflectlite.Value).Elem", "(internal/reflectlite.Value).Set"], unfollowed := true, recurses := true, named := ["errors.errorType"], apart := false, laid := [("errors.errorType", laid_errors_errorType)], narrowed := true }
def TrieSaysUptoSaid : Prop := trieSaysUptoRow.holds Tryd.pinned (OpenSpec.upto trieSaysSpec)

/-- 'letterbecklaw1.ManySays', WHERE WHAT IT READS IS OF BULK AT MOST 1048576: true; the input reads as it did. -/
def manySaysUptoRow : OpenClaim := { program := "ytknecfgacnknlaadoor", sum := "9186f2bc1b3524634588c9c66a42f40abf4c0623fedeea0da5e82c156eaae1ed", func := "letterbeck/letterbecklaw1.ManySays", spec := "manySays", inPlace := ["internal/reflectlite.ValueOf", "(internal/reflectlite.Value).Type", "(internal/reflectlite.Value).IsNil", "internal/reflectlite.TypeOf", "(internal/reflectlite.Value).Elem", "(internal/reflectlite.Value).Set"], unfollowed := true, recurses := true, named := ["errors.errorType"], apart := false, laid := [("errors.errorType", laid_errors_errorType)], narrowed := true }
def ManySaysUptoSaid : Prop := manySaysUptoRow.holds Tryd.pinned (OpenSpec.upto manySaysSpec)

end Rows
end Go.Proofs.YtknecfgacnknlaaDoor
