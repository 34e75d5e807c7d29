/-
  No cell of these rows narrows 'for every input' (looked for: loops, veiled, ifaces, maps, wideKeys, modest, calm, conditions, laid).
  DERIVED. THE GIVEN ROWS OF THIS SEAT. 7 by the template 'for every input the law returns true; each argument reads behind the call as it read before'; 0 by the template 'total and deterministic' (their statements: YthlibdpemocpmaaTotals.lean).
  GIVEN WITH THE SEED: the statements are not yours to turn. If you find one false, say at which input.
  Laid BY PROGRAM, IN A SANDBOX (cutbox-rows.mjs): the forced cells as the released guide's own fill.sh prints them over the translation 7a0e9d715e14c223… (all of the seat's roots in one cut). By AI agents, Wed Nov 11 2026. No macro, syntax, notation, axiom, sorry.
-/
import Derived.Test.YthlibdpemocpmaaChecked
import GoSem.Claim
import GoSem.ClaimJoined
import GoSem.ClaimMapViews
import Derived.JoinedTies
import Derived.KernelRfl
namespace Go.Proofs.Ythlibdpemocpmaa
/- THE CELL 'sum', in the pinned program and in every row, IS THE sha256 OF THE DUMP (.gsa) THAT YthlibdpemocpmaaProg.lean LOADS. Nothing in Lean hashes anything: it is a label: what it is worth is what the hold of that sum in a sandbox is worth. -/
noncomputable def Try.pinned : Pinned := { name := "ythlibdpemocpmaa", sum := "7a0e9d715e14c223b9475f8d0f70155358666ccd50c488b7813c0ee8e1b4a52a", checked := Try.checked }
namespace Rows
def none {H : Type} : Left H := { results := [], args := [] }

/-- 'letterbecklaw1.TrieSize': WHATEVER THE INPUT: true; the input reads as it did. -/
def trieSizeSpec : ChangeSpec := { name := "trieSize", fn := fun _ => fun
  | [d] => { results := [.lit (.bool true)], args := [d] }
  | _ => none }
def trieSizeRow : OpenClaim := { program := "ythlibdpemocpmaa", sum := "7a0e9d715e14c223b9475f8d0f70155358666ccd50c488b7813c0ee8e1b4a52a", func := "letterbeck/letterbecklaw1.TrieSize", spec := "trieSize", unfollowed := true, recurses := true, apart := false }
def TrieSizeSaid : Prop := trieSizeRow.holds Try.pinned (OpenSpec.ofChange trieSizeSpec)

/-- ITS FALSE NEIGHBOUR: 'it returns false'. Refute it at one input. -/
def trieSizeWrong : ChangeSpec := { name := "trieSize", fn := fun _ => fun
  | [d] => { results := [.lit (.bool false)], args := [d] }
  | _ => none }
def TrieSizeWrongFalsely : Prop := trieSizeRow.holds Try.pinned (OpenSpec.ofChange trieSizeWrong)

/-- 'letterbecklaw1.TrieLongest': WHATEVER THE INPUT: true; the input reads as it did. -/
def trieLongestSpec : ChangeSpec := { name := "trieLongest", fn := fun _ => fun
  | [d1, d2] => { results := [.lit (.bool true)], args := [d1, d2] }
  | _ => none }
def trieLongestRow : OpenClaim := { program := "ythlibdpemocpmaa", sum := "7a0e9d715e14c223b9475f8d0f70155358666ccd50c488b7813c0ee8e1b4a52a", func := "letterbeck/letterbecklaw1.TrieLongest", spec := "trieLongest", unfollowed := true, recurses := true, apart := false }
def TrieLongestSaid : Prop := trieLongestRow.holds Try.pinned (OpenSpec.ofChange trieLongestSpec)

/-- ITS FALSE NEIGHBOUR: 'it returns false'. Refute it at one input. -/
def trieLongestWrong : ChangeSpec := { name := "trieLongest", fn := fun _ => fun
  | [d1, d2] => { results := [.lit (.bool false)], args := [d1, d2] }
  | _ => none }
def TrieLongestWrongFalsely : Prop := trieLongestRow.holds Try.pinned (OpenSpec.ofChange trieLongestWrong)

/-- 'letterbecklaw1.TrieOrder': WHATEVER THE INPUT: true; the input reads as it did. -/
def trieOrderSpec : ChangeSpec := { name := "trieOrder", fn := fun _ => fun
  | [d] => { results := [.lit (.bool true)], args := [d] }
  | _ => none }
def trieOrderRow : OpenClaim := { program := "ythlibdpemocpmaa", sum := "7a0e9d715e14c223b9475f8d0f70155358666ccd50c488b7813c0ee8e1b4a52a", func := "letterbeck/letterbecklaw1.TrieOrder", spec := "trieOrder", unfollowed := true, recurses := true, apart := false }
def TrieOrderSaid : Prop := trieOrderRow.holds Try.pinned (OpenSpec.ofChange trieOrderSpec)

/-- ITS FALSE NEIGHBOUR: 'it returns false'. Refute it at one input. -/
def trieOrderWrong : ChangeSpec := { name := "trieOrder", fn := fun _ => fun
  | [d] => { results := [.lit (.bool false)], args := [d] }
  | _ => none }
def TrieOrderWrongFalsely : Prop := trieOrderRow.holds Try.pinned (OpenSpec.ofChange trieOrderWrong)

/-- 'letterbecklaw1.ManyCut': WHATEVER THE INPUT: true; the input reads as it did. -/
def manyCutSpec : ChangeSpec := { name := "manyCut", fn := fun _ => fun
  | [d1, d2] => { results := [.lit (.bool true)], args := [d1, d2] }
  | _ => none }
def manyCutRow : OpenClaim := { program := "ythlibdpemocpmaa", sum := "7a0e9d715e14c223b9475f8d0f70155358666ccd50c488b7813c0ee8e1b4a52a", func := "letterbeck/letterbecklaw1.ManyCut", spec := "manyCut", unfollowed := true, recurses := true, apart := false }
def ManyCutSaid : Prop := manyCutRow.holds Try.pinned (OpenSpec.ofChange manyCutSpec)

/-- ITS FALSE NEIGHBOUR: 'it returns false'. Refute it at one input. -/
def manyCutWrong : ChangeSpec := { name := "manyCut", fn := fun _ => fun
  | [d1, d2] => { results := [.lit (.bool false)], args := [d1, d2] }
  | _ => none }
def ManyCutWrongFalsely : Prop := manyCutRow.holds Try.pinned (OpenSpec.ofChange manyCutWrong)

/-- 'letterbecklaw1.ManyFewer': WHATEVER THE INPUT: true; the input reads as it did. -/
def manyFewerSpec : ChangeSpec := { name := "manyFewer", fn := fun _ => fun
  | [d1, d2] => { results := [.lit (.bool true)], args := [d1, d2] }
  | _ => none }
def manyFewerRow : OpenClaim := { program := "ythlibdpemocpmaa", sum := "7a0e9d715e14c223b9475f8d0f70155358666ccd50c488b7813c0ee8e1b4a52a", func := "letterbeck/letterbecklaw1.ManyFewer", spec := "manyFewer", unfollowed := true, recurses := true, apart := false }
def ManyFewerSaid : Prop := manyFewerRow.holds Try.pinned (OpenSpec.ofChange manyFewerSpec)

/-- ITS FALSE NEIGHBOUR: 'it returns false'. Refute it at one input. -/
def manyFewerWrong : ChangeSpec := { name := "manyFewer", fn := fun _ => fun
  | [d1, d2] => { results := [.lit (.bool false)], args := [d1, d2] }
  | _ => none }
def ManyFewerWrongFalsely : Prop := manyFewerRow.holds Try.pinned (OpenSpec.ofChange manyFewerWrong)

/-- 'letterbecklaw1.ManyEach': WHATEVER THE INPUT: true; the input reads as it did. -/
def manyEachSpec : ChangeSpec := { name := "manyEach", fn := fun _ => fun
  | [d1, d2, d3] => { results := [.lit (.bool true)], args := [d1, d2, d3] }
  | _ => none }
def manyEachRow : OpenClaim := { program := "ythlibdpemocpmaa", sum := "7a0e9d715e14c223b9475f8d0f70155358666ccd50c488b7813c0ee8e1b4a52a", func := "letterbeck/letterbecklaw1.ManyEach", spec := "manyEach", unfollowed := true, recurses := true, apart := false }
def ManyEachSaid : Prop := manyEachRow.holds Try.pinned (OpenSpec.ofChange manyEachSpec)

/-- ITS FALSE NEIGHBOUR: 'it returns false'. Refute it at one input. -/
def manyEachWrong : ChangeSpec := { name := "manyEach", fn := fun _ => fun
  | [d1, d2, d3] => { results := [.lit (.bool false)], args := [d1, d2, d3] }
  | _ => none }
def ManyEachWrongFalsely : Prop := manyEachRow.holds Try.pinned (OpenSpec.ofChange manyEachWrong)

/-- 'letterbecktop.TopFinds': WHATEVER THE INPUT: true; the input reads as it did. -/
def topFindsSpec : ChangeSpec := { name := "topFinds", fn := fun _ => fun
  | [d1, d2] => { results := [.lit (.bool true)], args := [d1, d2] }
  | _ => none }
def topFindsRow : OpenClaim := { program := "ythlibdpemocpmaa", sum := "7a0e9d715e14c223b9475f8d0f70155358666ccd50c488b7813c0ee8e1b4a52a", func := "letterbeck/letterbecktop.TopFinds", spec := "topFinds", unfollowed := true, recurses := true, apart := false }
def TopFindsSaid : Prop := topFindsRow.holds Try.pinned (OpenSpec.ofChange topFindsSpec)

/-- ITS FALSE NEIGHBOUR: 'it returns false'. Refute it at one input. -/
def topFindsWrong : ChangeSpec := { name := "topFinds", fn := fun _ => fun
  | [d1, d2] => { results := [.lit (.bool false)], args := [d1, d2] }
  | _ => none }
def TopFindsWrongFalsely : Prop := topFindsRow.holds Try.pinned (OpenSpec.ofChange topFindsWrong)

/- THE SECOND FORM. 'bulk': how many values and letters a reading holds, each counted each time it is reached (what is shared counts as often as it is met; a slice's spare places count too). A statement '..UptoSaid' is the law's where the arguments, and the package variables that the reading takes, are together of bulk at most 1048576: NARROWER than '..Said'. Prove '..Said' where nothing that the law and all that it calls make is longer than what came in: it says more and counts as full. Else prove '..UptoSaid'. A law counts once. -/
mutual
def uptoBulk {H : Type} : DataW H → Nat
  | .lit (.string bytes) => bytes.length + 1
  | .lit _ => 1
  | .nil => 1
  | .ptr d => uptoBulk d + 1
  | .slice elems spare => uptoBulkAll elems + uptoBulkAll spare + 1
  | .agg parts => uptoBulkAll parts + 1
  | .iface _ d => uptoBulk d + 1
  | .map entries => uptoBulkEntries entries + 1
  | .held _ => 1
def uptoBulkAll {H : Type} : List (DataW H) → Nat
  | [] => 0
  | d :: r => uptoBulk d + uptoBulkAll r
def uptoBulkEntries {H : Type} : List (Lit × DataW H) → Nat
  | [] => 0
  | x :: r => uptoBulkEntry x + uptoBulkEntries r
def uptoBulkEntry {H : Type} : Lit × DataW H → Nat
  | (.string bytes, d) => bytes.length + uptoBulk d + 1
  | (_, d) => uptoBulk d + 1
 end
def uptoSmall : (H : Type) → List (DataW H) → Bool := fun _ ds => decide (uptoBulkAll ds ≤ 1048576)
def OpenSpec.upto (s : _root_.Go.ChangeSpec) : _root_.Go.OpenSpec := { _root_.Go.OpenSpec.ofChange s with cond := some uptoSmall }

/-- 'letterbecklaw1.TrieSize', WHERE WHAT IT READS IS OF BULK AT MOST 1048576: true; the input reads as it did. -/
def trieSizeUptoRow : OpenClaim := { program := "ythlibdpemocpmaa", sum := "7a0e9d715e14c223b9475f8d0f70155358666ccd50c488b7813c0ee8e1b4a52a", func := "letterbeck/letterbecklaw1.TrieSize", spec := "trieSize", unfollowed := true, recurses := true, apart := false, narrowed := true }
def TrieSizeUptoSaid : Prop := trieSizeUptoRow.holds Try.pinned (OpenSpec.upto trieSizeSpec)

/-- 'letterbecklaw1.TrieLongest', WHERE WHAT IT READS IS OF BULK AT MOST 1048576: true; the input reads as it did. -/
def trieLongestUptoRow : OpenClaim := { program := "ythlibdpemocpmaa", sum := "7a0e9d715e14c223b9475f8d0f70155358666ccd50c488b7813c0ee8e1b4a52a", func := "letterbeck/letterbecklaw1.TrieLongest", spec := "trieLongest", unfollowed := true, recurses := true, apart := false, narrowed := true }
def TrieLongestUptoSaid : Prop := trieLongestUptoRow.holds Try.pinned (OpenSpec.upto trieLongestSpec)

/-- 'letterbecklaw1.TrieOrder', WHERE WHAT IT READS IS OF BULK AT MOST 1048576: true; the input reads as it did. -/
def trieOrderUptoRow : OpenClaim := { program := "ythlibdpemocpmaa", sum := "7a0e9d715e14c223b9475f8d0f70155358666ccd50c488b7813c0ee8e1b4a52a", func := "letterbeck/letterbecklaw1.TrieOrder", spec := "trieOrder", unfollowed := true, recurses := true, apart := false, narrowed := true }
def TrieOrderUptoSaid : Prop := trieOrderUptoRow.holds Try.pinned (OpenSpec.upto trieOrderSpec)

/-- 'letterbecklaw1.ManyCut', WHERE WHAT IT READS IS OF BULK AT MOST 1048576: true; the input reads as it did. -/
def manyCutUptoRow : OpenClaim := { program := "ythlibdpemocpmaa", sum := "7a0e9d715e14c223b9475f8d0f70155358666ccd50c488b7813c0ee8e1b4a52a", func := "letterbeck/letterbecklaw1.ManyCut", spec := "manyCut", unfollowed := true, recurses := true, apart := false, narrowed := true }
def ManyCutUptoSaid : Prop := manyCutUptoRow.holds Try.pinned (OpenSpec.upto manyCutSpec)

/-- 'letterbecklaw1.ManyFewer', WHERE WHAT IT READS IS OF BULK AT MOST 1048576: true; the input reads as it did. -/
def manyFewerUptoRow : OpenClaim := { program := "ythlibdpemocpmaa", sum := "7a0e9d715e14c223b9475f8d0f70155358666ccd50c488b7813c0ee8e1b4a52a", func := "letterbeck/letterbecklaw1.ManyFewer", spec := "manyFewer", unfollowed := true, recurses := true, apart := false, narrowed := true }
def ManyFewerUptoSaid : Prop := manyFewerUptoRow.holds Try.pinned (OpenSpec.upto manyFewerSpec)

/-- 'letterbecklaw1.ManyEach', WHERE WHAT IT READS IS OF BULK AT MOST 1048576: true; the input reads as it did. -/
def manyEachUptoRow : OpenClaim := { program := "ythlibdpemocpmaa", sum := "7a0e9d715e14c223b9475f8d0f70155358666ccd50c488b7813c0ee8e1b4a52a", func := "letterbeck/letterbecklaw1.ManyEach", spec := "manyEach", unfollowed := true, recurses := true, apart := false, narrowed := true }
def ManyEachUptoSaid : Prop := manyEachUptoRow.holds Try.pinned (OpenSpec.upto manyEachSpec)

/-- 'letterbecktop.TopFinds', WHERE WHAT IT READS IS OF BULK AT MOST 1048576: true; the input reads as it did. -/
def topFindsUptoRow : OpenClaim := { program := "ythlibdpemocpmaa", sum := "7a0e9d715e14c223b9475f8d0f70155358666ccd50c488b7813c0ee8e1b4a52a", func := "letterbeck/letterbecktop.TopFinds", spec := "topFinds", unfollowed := true, recurses := true, apart := false, narrowed := true }
def TopFindsUptoSaid : Prop := topFindsUptoRow.holds Try.pinned (OpenSpec.upto topFindsSpec)

end Rows
end Go.Proofs.Ythlibdpemocpmaa
