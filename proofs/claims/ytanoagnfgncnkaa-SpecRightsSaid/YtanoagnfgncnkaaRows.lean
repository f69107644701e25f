/-
  NARROWER THAN 'FOR EVERY INPUT', by the rows' own cells (each row's printed sentence says how): PlacesMakes: loops.
  DERIVED. THE GIVEN ROWS OF THIS SEAT. 9 by the template 'for every input the law returns true; each argument reads behind the call as it read before'; 0 by the template 'total and deterministic' (their statements: YtanoagnfgncnkaaTotals.lean).
  GIVEN WITH THE SEED: the statements are not yours to turn. If you find one false, say at which input.
  Laid BY PROGRAM, IN A SANDBOX (cutbox-rows.mjs): the forced cells as the released guide's own fill.sh prints them over the translation 96e5c6700a889020… (all of the seat's roots in one cut). By AI agents, Wed Nov 11 2026. No macro, syntax, notation, axiom, sorry.
-/
import Derived.Test.YtanoagnfgncnkaaChecked
import GoSem.Claim
import GoSem.ClaimJoined
import GoSem.ClaimMapViews
import Derived.JoinedTies
import Derived.KernelRfl
namespace Go.Proofs.Ytanoagnfgncnkaa
/- THE CELL 'sum', in the pinned program and in every row, IS THE sha256 OF THE DUMP (.gsa) THAT YtanoagnfgncnkaaProg.lean LOADS. Nothing in Lean hashes anything: it is a label: what it is worth is what the hold of that sum in a sandbox is worth. -/
noncomputable def Try.pinned : Pinned := { name := "ytanoagnfgncnkaa", sum := "96e5c6700a88902041a40d3aefb695fe0d1d70368039a50b6ca2ee517a5e09d0", checked := Try.checked }
namespace Rows
def none {H : Type} : Left H := { results := [], args := [] }

/-- 'pushlaw.SpecRights': WHATEVER THE INPUT: true; the input reads as it did. -/
def specRightsSpec : ChangeSpec := { name := "specRights", fn := fun _ => fun
  | [d] => { results := [.lit (.bool true)], args := [d] }
  | _ => none }
def specRightsRow : OpenClaim := { program := "ytanoagnfgncnkaa", sum := "96e5c6700a88902041a40d3aefb695fe0d1d70368039a50b6ca2ee517a5e09d0", func := "pushmill/pushlaw.SpecRights", spec := "specRights", unfollowed := true, recurses := true, plainKeys := false, apart := false }
def SpecRightsSaid : Prop := specRightsRow.holds Try.pinned (OpenSpec.ofChange specRightsSpec)

/-- ITS FALSE NEIGHBOUR: 'it returns false'. Refute it at one input. -/
def specRightsWrong : ChangeSpec := { name := "specRights", fn := fun _ => fun
  | [d] => { results := [.lit (.bool false)], args := [d] }
  | _ => none }
def SpecRightsWrongFalsely : Prop := specRightsRow.holds Try.pinned (OpenSpec.ofChange specRightsWrong)

/-- 'pushlaw.LlSays': WHATEVER THE INPUT: true; the input reads as it did. -/
def llSaysSpec : ChangeSpec := { name := "llSays", fn := fun _ => fun
  | [d1, d2] => { results := [.lit (.bool true)], args := [d1, d2] }
  | _ => none }
def llSaysRow : OpenClaim := { program := "ytanoagnfgncnkaa", sum := "96e5c6700a88902041a40d3aefb695fe0d1d70368039a50b6ca2ee517a5e09d0", func := "pushmill/pushlaw.LlSays", spec := "llSays", unfollowed := true, recurses := true, plainKeys := false, apart := false }
def LlSaysSaid : Prop := llSaysRow.holds Try.pinned (OpenSpec.ofChange llSaysSpec)

/-- ITS FALSE NEIGHBOUR: 'it returns false'. Refute it at one input. -/
def llSaysWrong : ChangeSpec := { name := "llSays", fn := fun _ => fun
  | [d1, d2] => { results := [.lit (.bool false)], args := [d1, d2] }
  | _ => none }
def LlSaysWrongFalsely : Prop := llSaysRow.holds Try.pinned (OpenSpec.ofChange llSaysWrong)

/-- 'pushlaw.FactsSays': WHATEVER THE INPUT: true; the input reads as it did. -/
def factsSaysSpec : ChangeSpec := { name := "factsSays", fn := fun _ => fun
  | [d1, d2, d3] => { results := [.lit (.bool true)], args := [d1, d2, d3] }
  | _ => none }
def factsSaysRow : OpenClaim := { program := "ytanoagnfgncnkaa", sum := "96e5c6700a88902041a40d3aefb695fe0d1d70368039a50b6ca2ee517a5e09d0", func := "pushmill/pushlaw.FactsSays", spec := "factsSays", unfollowed := true, recurses := true, plainKeys := false, apart := false }
def FactsSaysSaid : Prop := factsSaysRow.holds Try.pinned (OpenSpec.ofChange factsSaysSpec)

/-- ITS FALSE NEIGHBOUR: 'it returns false'. Refute it at one input. -/
def factsSaysWrong : ChangeSpec := { name := "factsSays", fn := fun _ => fun
  | [d1, d2, d3] => { results := [.lit (.bool false)], args := [d1, d2, d3] }
  | _ => none }
def FactsSaysWrongFalsely : Prop := factsSaysRow.holds Try.pinned (OpenSpec.ofChange factsSaysWrong)

/-- 'pushlaw.BuildSays': WHATEVER THE INPUT: true; the input reads as it did. -/
def buildSaysSpec : ChangeSpec := { name := "buildSays", fn := fun _ => fun
  | [d1, d2, d3, d4] => { results := [.lit (.bool true)], args := [d1, d2, d3, d4] }
  | _ => none }
def buildSaysRow : OpenClaim := { program := "ytanoagnfgncnkaa", sum := "96e5c6700a88902041a40d3aefb695fe0d1d70368039a50b6ca2ee517a5e09d0", func := "pushmill/pushlaw.BuildSays", spec := "buildSays", unfollowed := true, recurses := true, plainKeys := false, apart := false }
def BuildSaysSaid : Prop := buildSaysRow.holds Try.pinned (OpenSpec.ofChange buildSaysSpec)

/-- ITS FALSE NEIGHBOUR: 'it returns false'. Refute it at one input. -/
def buildSaysWrong : ChangeSpec := { name := "buildSays", fn := fun _ => fun
  | [d1, d2, d3, d4] => { results := [.lit (.bool false)], args := [d1, d2, d3, d4] }
  | _ => none }
def BuildSaysWrongFalsely : Prop := buildSaysRow.holds Try.pinned (OpenSpec.ofChange buildSaysWrong)

/-- 'pushlaw.ClimbSays': WHATEVER THE INPUT: true; the input reads as it did. -/
def climbSaysSpec : ChangeSpec := { name := "climbSays", fn := fun _ => fun
  | [d1, d2, d3, d4] => { results := [.lit (.bool true)], args := [d1, d2, d3, d4] }
  | _ => none }
def climbSaysRow : OpenClaim := { program := "ytanoagnfgncnkaa", sum := "96e5c6700a88902041a40d3aefb695fe0d1d70368039a50b6ca2ee517a5e09d0", func := "pushmill/pushlaw.ClimbSays", spec := "climbSays", unfollowed := true, recurses := true, plainKeys := false, apart := false }
def ClimbSaysSaid : Prop := climbSaysRow.holds Try.pinned (OpenSpec.ofChange climbSaysSpec)

/-- ITS FALSE NEIGHBOUR: 'it returns false'. Refute it at one input. -/
def climbSaysWrong : ChangeSpec := { name := "climbSays", fn := fun _ => fun
  | [d1, d2, d3, d4] => { results := [.lit (.bool false)], args := [d1, d2, d3, d4] }
  | _ => none }
def ClimbSaysWrongFalsely : Prop := climbSaysRow.holds Try.pinned (OpenSpec.ofChange climbSaysWrong)

/-- 'pushlaw.TreesReads': WHATEVER THE INPUT: true; the input reads as it did. -/
def treesReadsSpec : ChangeSpec := { name := "treesReads", fn := fun _ => fun
  | [d1, d2] => { results := [.lit (.bool true)], args := [d1, d2] }
  | _ => none }
def treesReadsRow : OpenClaim := { program := "ytanoagnfgncnkaa", sum := "96e5c6700a88902041a40d3aefb695fe0d1d70368039a50b6ca2ee517a5e09d0", func := "pushmill/pushlaw.TreesReads", spec := "treesReads", unfollowed := true, recurses := true, plainKeys := false, apart := false }
def TreesReadsSaid : Prop := treesReadsRow.holds Try.pinned (OpenSpec.ofChange treesReadsSpec)

/-- ITS FALSE NEIGHBOUR: 'it returns false'. Refute it at one input. -/
def treesReadsWrong : ChangeSpec := { name := "treesReads", fn := fun _ => fun
  | [d1, d2] => { results := [.lit (.bool false)], args := [d1, d2] }
  | _ => none }
def TreesReadsWrongFalsely : Prop := treesReadsRow.holds Try.pinned (OpenSpec.ofChange treesReadsWrong)

/-- 'pushlaw.CountSays': WHATEVER THE INPUT: true; the input reads as it did. -/
def countSaysSpec : ChangeSpec := { name := "countSays", fn := fun _ => fun
  | [d1, d2] => { results := [.lit (.bool true)], args := [d1, d2] }
  | _ => none }
def countSaysRow : OpenClaim := { program := "ytanoagnfgncnkaa", sum := "96e5c6700a88902041a40d3aefb695fe0d1d70368039a50b6ca2ee517a5e09d0", func := "pushmill/pushlaw.CountSays", spec := "countSays", unfollowed := true, recurses := true, plainKeys := false, apart := false }
def CountSaysSaid : Prop := countSaysRow.holds Try.pinned (OpenSpec.ofChange countSaysSpec)

/-- ITS FALSE NEIGHBOUR: 'it returns false'. Refute it at one input. -/
def countSaysWrong : ChangeSpec := { name := "countSays", fn := fun _ => fun
  | [d1, d2] => { results := [.lit (.bool false)], args := [d1, d2] }
  | _ => none }
def CountSaysWrongFalsely : Prop := countSaysRow.holds Try.pinned (OpenSpec.ofChange countSaysWrong)

/-- 'pushlaw.RexReads': WHATEVER THE INPUT: true; the input reads as it did. -/
def rexReadsSpec : ChangeSpec := { name := "rexReads", fn := fun _ => fun
  | [d] => { results := [.lit (.bool true)], args := [d] }
  | _ => none }
def rexReadsRow : OpenClaim := { program := "ytanoagnfgncnkaa", sum := "96e5c6700a88902041a40d3aefb695fe0d1d70368039a50b6ca2ee517a5e09d0", func := "pushmill/pushlaw.RexReads", spec := "rexReads", inPlace := ["internal/bytealg.IndexByteString"], unfollowed := true, recurses := true, plainKeys := false, apart := false }
def RexReadsSaid : Prop := rexReadsRow.holds Try.pinned (OpenSpec.ofChange rexReadsSpec)

/-- ITS FALSE NEIGHBOUR: 'it returns false'. Refute it at one input. -/
def rexReadsWrong : ChangeSpec := { name := "rexReads", fn := fun _ => fun
  | [d] => { results := [.lit (.bool false)], args := [d] }
  | _ => none }
def RexReadsWrongFalsely : Prop := rexReadsRow.holds Try.pinned (OpenSpec.ofChange rexReadsWrong)

/-- 'pushlaw.PlacesMakes': WHATEVER THE INPUT: true; the input reads as it did. -/
def placesMakesSpec : ChangeSpec := { name := "placesMakes", fn := fun _ => fun
  | [d] => { results := [.lit (.bool true)], args := [d] }
  | _ => none }
def placesMakesRow : OpenClaim := { program := "ytanoagnfgncnkaa", sum := "96e5c6700a88902041a40d3aefb695fe0d1d70368039a50b6ca2ee517a5e09d0", func := "pushmill/pushlaw.PlacesMakes", spec := "placesMakes", unfollowed := true, recurses := true, loops := true, plainKeys := false, apart := false }
def PlacesMakesSaid : Prop := placesMakesRow.holds Try.pinned (OpenSpec.ofChange placesMakesSpec)

/-- ITS FALSE NEIGHBOUR: 'it returns false'. Refute it at one input. -/
def placesMakesWrong : ChangeSpec := { name := "placesMakes", fn := fun _ => fun
  | [d] => { results := [.lit (.bool false)], args := [d] }
  | _ => none }
def PlacesMakesWrongFalsely : Prop := placesMakesRow.holds Try.pinned (OpenSpec.ofChange placesMakesWrong)

/- THE SECOND FORM. 'bulk': how many values and letters a reading holds, each counted each time it is reached (what is shared counts as often as it is met; a slice's spare places count too). A statement '..UptoSaid' is the law's where the arguments, and the package variables that the reading takes, are together of bulk at most 1048576: NARROWER than '..Said'. Prove '..Said' where nothing that the law and all that it calls make is longer than what came in: it says more and counts as full. Else prove '..UptoSaid'. A law counts once. -/
mutual
def uptoBulk {H : Type} : DataW H → Nat
  | .lit (.string bytes) => bytes.length + 1
  | .lit _ => 1
  | .nil => 1
  | .ptr d => uptoBulk d + 1
  | .slice elems spare => uptoBulkAll elems + uptoBulkAll spare + 1
  | .agg parts => uptoBulkAll parts + 1
  | .iface _ d => uptoBulk d + 1
  | .map entries => uptoBulkEntries entries + 1
  | .held _ => 1
def uptoBulkAll {H : Type} : List (DataW H) → Nat
  | [] => 0
  | d :: r => uptoBulk d + uptoBulkAll r
def uptoBulkEntries {H : Type} : List (Lit × DataW H) → Nat
  | [] => 0
  | x :: r => uptoBulkEntry x + uptoBulkEntries r
def uptoBulkEntry {H : Type} : Lit × DataW H → Nat
  | (.string bytes, d) => bytes.length + uptoBulk d + 1
  | (_, d) => uptoBulk d + 1
 end
def uptoSmall : (H : Type) → List (DataW H) → Bool := fun _ ds => decide (uptoBulkAll ds ≤ 1048576)
def OpenSpec.upto (s : _root_.Go.ChangeSpec) : _root_.Go.OpenSpec := { _root_.Go.OpenSpec.ofChange s with cond := some uptoSmall }

/-- 'pushlaw.SpecRights', WHERE WHAT IT READS IS OF BULK AT MOST 1048576: true; the input reads as it did. -/
def specRightsUptoRow : OpenClaim := { program := "ytanoagnfgncnkaa", sum := "96e5c6700a88902041a40d3aefb695fe0d1d70368039a50b6ca2ee517a5e09d0", func := "pushmill/pushlaw.SpecRights", spec := "specRights", unfollowed := true, recurses := true, plainKeys := false, apart := false, narrowed := true }
def SpecRightsUptoSaid : Prop := specRightsUptoRow.holds Try.pinned (OpenSpec.upto specRightsSpec)

/-- 'pushlaw.LlSays', WHERE WHAT IT READS IS OF BULK AT MOST 1048576: true; the input reads as it did. -/
def llSaysUptoRow : OpenClaim := { program := "ytanoagnfgncnkaa", sum := "96e5c6700a88902041a40d3aefb695fe0d1d70368039a50b6ca2ee517a5e09d0", func := "pushmill/pushlaw.LlSays", spec := "llSays", unfollowed := true, recurses := true, plainKeys := false, apart := false, narrowed := true }
def LlSaysUptoSaid : Prop := llSaysUptoRow.holds Try.pinned (OpenSpec.upto llSaysSpec)

/-- 'pushlaw.FactsSays', WHERE WHAT IT READS IS OF BULK AT MOST 1048576: true; the input reads as it did. -/
def factsSaysUptoRow : OpenClaim := { program := "ytanoagnfgncnkaa", sum := "96e5c6700a88902041a40d3aefb695fe0d1d70368039a50b6ca2ee517a5e09d0", func := "pushmill/pushlaw.FactsSays", spec := "factsSays", unfollowed := true, recurses := true, plainKeys := false, apart := false, narrowed := true }
def FactsSaysUptoSaid : Prop := factsSaysUptoRow.holds Try.pinned (OpenSpec.upto factsSaysSpec)

/-- 'pushlaw.BuildSays', WHERE WHAT IT READS IS OF BULK AT MOST 1048576: true; the input reads as it did. -/
def buildSaysUptoRow : OpenClaim := { program := "ytanoagnfgncnkaa", sum := "96e5c6700a88902041a40d3aefb695fe0d1d70368039a50b6ca2ee517a5e09d0", func := "pushmill/pushlaw.BuildSays", spec := "buildSays", unfollowed := true, recurses := true, plainKeys := false, apart := false, narrowed := true }
def BuildSaysUptoSaid : Prop := buildSaysUptoRow.holds Try.pinned (OpenSpec.upto buildSaysSpec)

/-- 'pushlaw.ClimbSays', WHERE WHAT IT READS IS OF BULK AT MOST 1048576: true; the input reads as it did. -/
def climbSaysUptoRow : OpenClaim := { program := "ytanoagnfgncnkaa", sum := "96e5c6700a88902041a40d3aefb695fe0d1d70368039a50b6ca2ee517a5e09d0", func := "pushmill/pushlaw.ClimbSays", spec := "climbSays", unfollowed := true, recurses := true, plainKeys := false, apart := false, narrowed := true }
def ClimbSaysUptoSaid : Prop := climbSaysUptoRow.holds Try.pinned (OpenSpec.upto climbSaysSpec)

/-- 'pushlaw.TreesReads', WHERE WHAT IT READS IS OF BULK AT MOST 1048576: true; the input reads as it did. -/
def treesReadsUptoRow : OpenClaim := { program := "ytanoagnfgncnkaa", sum := "96e5c6700a88902041a40d3aefb695fe0d1d70368039a50b6ca2ee517a5e09d0", func := "pushmill/pushlaw.TreesReads", spec := "treesReads", unfollowed := true, recurses := true, plainKeys := false, apart := false, narrowed := true }
def TreesReadsUptoSaid : Prop := treesReadsUptoRow.holds Try.pinned (OpenSpec.upto treesReadsSpec)

/-- 'pushlaw.CountSays', WHERE WHAT IT READS IS OF BULK AT MOST 1048576: true; the input reads as it did. -/
def countSaysUptoRow : OpenClaim := { program := "ytanoagnfgncnkaa", sum := "96e5c6700a88902041a40d3aefb695fe0d1d70368039a50b6ca2ee517a5e09d0", func := "pushmill/pushlaw.CountSays", spec := "countSays", unfollowed := true, recurses := true, plainKeys := false, apart := false, narrowed := true }
def CountSaysUptoSaid : Prop := countSaysUptoRow.holds Try.pinned (OpenSpec.upto countSaysSpec)

/-- 'pushlaw.RexReads', WHERE WHAT IT READS IS OF BULK AT MOST 1048576: true; the input reads as it did. -/
def rexReadsUptoRow : OpenClaim := { program := "ytanoagnfgncnkaa", sum := "96e5c6700a88902041a40d3aefb695fe0d1d70368039a50b6ca2ee517a5e09d0", func := "pushmill/pushlaw.RexReads", spec := "rexReads", inPlace := ["internal/bytealg.IndexByteString"], unfollowed := true, recurses := true, plainKeys := false, apart := false, narrowed := true }
def RexReadsUptoSaid : Prop := rexReadsUptoRow.holds Try.pinned (OpenSpec.upto rexReadsSpec)

/-- 'pushlaw.PlacesMakes', WHERE WHAT IT READS IS OF BULK AT MOST 1048576: true; the input reads as it did. -/
def placesMakesUptoRow : OpenClaim := { program := "ytanoagnfgncnkaa", sum := "96e5c6700a88902041a40d3aefb695fe0d1d70368039a50b6ca2ee517a5e09d0", func := "pushmill/pushlaw.PlacesMakes", spec := "placesMakes", unfollowed := true, recurses := true, loops := true, plainKeys := false, apart := false, narrowed := true }
def PlacesMakesUptoSaid : Prop := placesMakesUptoRow.holds Try.pinned (OpenSpec.upto placesMakesSpec)

end Rows
end Go.Proofs.Ytanoagnfgncnkaa
