/-
  NARROWER THAN 'FOR EVERY INPUT', by the rows' own cells (each row's printed sentence says how): TreesSays: loops.
  DERIVED. THE GIVEN ROWS OF THIS SEAT. 11 by the template 'for every input the law returns true; each argument reads behind the call as it read before'; 0 by the template 'total and deterministic' (their statements: YtldapomcjfkeeaaTotals.lean).
  GIVEN WITH THE SEED: the statements are not yours to turn. If you find one false, say at which input.
  Laid BY PROGRAM, IN A SANDBOX (cutbox-rows.mjs): the forced cells as the released guide's own fill.sh prints them over the translation 939ef1edef958f5d… (all of the seat's roots in one cut). By AI agents, Wed Nov 11 2026. No macro, syntax, notation, axiom, sorry.
-/
import Derived.Test.YtldapomcjfkeeaaChecked
import GoSem.Claim
import GoSem.ClaimJoined
import GoSem.ClaimMapViews
import Derived.JoinedTies
import Derived.KernelRfl
namespace Go.Proofs.Ytldapomcjfkeeaa
/- THE CELL 'sum', in the pinned program and in every row, IS THE sha256 OF THE DUMP (.gsa) THAT YtldapomcjfkeeaaProg.lean LOADS. Nothing in Lean hashes anything: it is a label: what it is worth is what the hold of that sum in a sandbox is worth. -/
noncomputable def Try.pinned : Pinned := { name := "ytldapomcjfkeeaa", sum := "939ef1edef958f5d796d4a153bc0bd996cd3ee9b416308dc59b51f028387237f", checked := Try.checked }
namespace Rows
def none {H : Type} : Left H := { results := [], args := [] }

/-- 'pushlaw.FrameFeeds': WHATEVER THE INPUT: true; the input reads as it did. -/
def frameFeedsSpec : ChangeSpec := { name := "frameFeeds", fn := fun _ => fun
  | [d1, d2] => { results := [.lit (.bool true)], args := [d1, d2] }
  | _ => none }
def frameFeedsRow : OpenClaim := { program := "ytldapomcjfkeeaa", sum := "939ef1edef958f5d796d4a153bc0bd996cd3ee9b416308dc59b51f028387237f", func := "pushmill/pushlaw.FrameFeeds", spec := "frameFeeds", plainKeys := false, apart := false }
def FrameFeedsSaid : Prop := frameFeedsRow.holds Try.pinned (OpenSpec.ofChange frameFeedsSpec)

/-- ITS FALSE NEIGHBOUR: 'it returns false'. Refute it at one input. -/
def frameFeedsWrong : ChangeSpec := { name := "frameFeeds", fn := fun _ => fun
  | [d1, d2] => { results := [.lit (.bool false)], args := [d1, d2] }
  | _ => none }
def FrameFeedsWrongFalsely : Prop := frameFeedsRow.holds Try.pinned (OpenSpec.ofChange frameFeedsWrong)

/-- 'pushlaw.SmallApart': WHATEVER THE INPUT: true; the input reads as it did. -/
def smallApartSpec : ChangeSpec := { name := "smallApart", fn := fun _ => fun
  | [d1, d2] => { results := [.lit (.bool true)], args := [d1, d2] }
  | _ => none }
def smallApartRow : OpenClaim := { program := "ytldapomcjfkeeaa", sum := "939ef1edef958f5d796d4a153bc0bd996cd3ee9b416308dc59b51f028387237f", func := "pushmill/pushlaw.SmallApart", spec := "smallApart", unfollowed := true, recurses := true, plainKeys := false, apart := false }
def SmallApartSaid : Prop := smallApartRow.holds Try.pinned (OpenSpec.ofChange smallApartSpec)

/-- ITS FALSE NEIGHBOUR: 'it returns false'. Refute it at one input. -/
def smallApartWrong : ChangeSpec := { name := "smallApart", fn := fun _ => fun
  | [d1, d2] => { results := [.lit (.bool false)], args := [d1, d2] }
  | _ => none }
def SmallApartWrongFalsely : Prop := smallApartRow.holds Try.pinned (OpenSpec.ofChange smallApartWrong)

/-- 'pushlaw.SmallPacks': WHATEVER THE INPUT: true; the input reads as it did. -/
def smallPacksSpec : ChangeSpec := { name := "smallPacks", fn := fun _ => fun
  | [d] => { results := [.lit (.bool true)], args := [d] }
  | _ => none }
def smallPacksRow : OpenClaim := { program := "ytldapomcjfkeeaa", sum := "939ef1edef958f5d796d4a153bc0bd996cd3ee9b416308dc59b51f028387237f", func := "pushmill/pushlaw.SmallPacks", spec := "smallPacks", unfollowed := true, recurses := true, plainKeys := false, apart := false }
def SmallPacksSaid : Prop := smallPacksRow.holds Try.pinned (OpenSpec.ofChange smallPacksSpec)

/-- ITS FALSE NEIGHBOUR: 'it returns false'. Refute it at one input. -/
def smallPacksWrong : ChangeSpec := { name := "smallPacks", fn := fun _ => fun
  | [d] => { results := [.lit (.bool false)], args := [d] }
  | _ => none }
def SmallPacksWrongFalsely : Prop := smallPacksRow.holds Try.pinned (OpenSpec.ofChange smallPacksWrong)

/-- 'pushlaw.PlacesRuns': WHATEVER THE INPUT: true; the input reads as it did. -/
def placesRunsSpec : ChangeSpec := { name := "placesRuns", fn := fun _ => fun
  | [d1, d2] => { results := [.lit (.bool true)], args := [d1, d2] }
  | _ => none }
def placesRunsRow : OpenClaim := { program := "ytldapomcjfkeeaa", sum := "939ef1edef958f5d796d4a153bc0bd996cd3ee9b416308dc59b51f028387237f", func := "pushmill/pushlaw.PlacesRuns", spec := "placesRuns", unfollowed := true, recurses := true, plainKeys := false, apart := false }
def PlacesRunsSaid : Prop := placesRunsRow.holds Try.pinned (OpenSpec.ofChange placesRunsSpec)

/-- ITS FALSE NEIGHBOUR: 'it returns false'. Refute it at one input. -/
def placesRunsWrong : ChangeSpec := { name := "placesRuns", fn := fun _ => fun
  | [d1, d2] => { results := [.lit (.bool false)], args := [d1, d2] }
  | _ => none }
def PlacesRunsWrongFalsely : Prop := placesRunsRow.holds Try.pinned (OpenSpec.ofChange placesRunsWrong)

/-- 'pushlaw.DfaMakes': WHATEVER THE INPUT: true; the input reads as it did. -/
def dfaMakesSpec : ChangeSpec := { name := "dfaMakes", fn := fun _ => fun
  | [d] => { results := [.lit (.bool true)], args := [d] }
  | _ => none }
def dfaMakesRow : OpenClaim := { program := "ytldapomcjfkeeaa", sum := "939ef1edef958f5d796d4a153bc0bd996cd3ee9b416308dc59b51f028387237f", func := "pushmill/pushlaw.DfaMakes", spec := "dfaMakes", unfollowed := true, recurses := true, plainKeys := false, apart := false }
def DfaMakesSaid : Prop := dfaMakesRow.holds Try.pinned (OpenSpec.ofChange dfaMakesSpec)

/-- ITS FALSE NEIGHBOUR: 'it returns false'. Refute it at one input. -/
def dfaMakesWrong : ChangeSpec := { name := "dfaMakes", fn := fun _ => fun
  | [d] => { results := [.lit (.bool false)], args := [d] }
  | _ => none }
def DfaMakesWrongFalsely : Prop := dfaMakesRow.holds Try.pinned (OpenSpec.ofChange dfaMakesWrong)

/-- 'pushlaw.TreesSays': WHATEVER THE INPUT: true; the input reads as it did. -/
def treesSaysSpec : ChangeSpec := { name := "treesSays", fn := fun _ => fun
  | [d1, d2] => { results := [.lit (.bool true)], args := [d1, d2] }
  | _ => none }
def treesSaysRow : OpenClaim := { program := "ytldapomcjfkeeaa", sum := "939ef1edef958f5d796d4a153bc0bd996cd3ee9b416308dc59b51f028387237f", func := "pushmill/pushlaw.TreesSays", spec := "treesSays", unfollowed := true, recurses := true, loops := true, plainKeys := false, apart := false }
def TreesSaysSaid : Prop := treesSaysRow.holds Try.pinned (OpenSpec.ofChange treesSaysSpec)

/-- ITS FALSE NEIGHBOUR: 'it returns false'. Refute it at one input. -/
def treesSaysWrong : ChangeSpec := { name := "treesSays", fn := fun _ => fun
  | [d1, d2] => { results := [.lit (.bool false)], args := [d1, d2] }
  | _ => none }
def TreesSaysWrongFalsely : Prop := treesSaysRow.holds Try.pinned (OpenSpec.ofChange treesSaysWrong)

/-- 'pushlaw.FactsSays': WHATEVER THE INPUT: true; the input reads as it did. -/
def factsSaysSpec : ChangeSpec := { name := "factsSays", fn := fun _ => fun
  | [d1, d2, d3] => { results := [.lit (.bool true)], args := [d1, d2, d3] }
  | _ => none }
def factsSaysRow : OpenClaim := { program := "ytldapomcjfkeeaa", sum := "939ef1edef958f5d796d4a153bc0bd996cd3ee9b416308dc59b51f028387237f", func := "pushmill/pushlaw.FactsSays", spec := "factsSays", unfollowed := true, recurses := true, plainKeys := false, apart := false }
def FactsSaysSaid : Prop := factsSaysRow.holds Try.pinned (OpenSpec.ofChange factsSaysSpec)

/-- ITS FALSE NEIGHBOUR: 'it returns false'. Refute it at one input. -/
def factsSaysWrong : ChangeSpec := { name := "factsSays", fn := fun _ => fun
  | [d1, d2, d3] => { results := [.lit (.bool false)], args := [d1, d2, d3] }
  | _ => none }
def FactsSaysWrongFalsely : Prop := factsSaysRow.holds Try.pinned (OpenSpec.ofChange factsSaysWrong)

/-- 'pushlaw.TreesReads': WHATEVER THE INPUT: true; the input reads as it did. -/
def treesReadsSpec : ChangeSpec := { name := "treesReads", fn := fun _ => fun
  | [d1, d2] => { results := [.lit (.bool true)], args := [d1, d2] }
  | _ => none }
def treesReadsRow : OpenClaim := { program := "ytldapomcjfkeeaa", sum := "939ef1edef958f5d796d4a153bc0bd996cd3ee9b416308dc59b51f028387237f", func := "pushmill/pushlaw.TreesReads", spec := "treesReads", unfollowed := true, recurses := true, plainKeys := false, apart := false }
def TreesReadsSaid : Prop := treesReadsRow.holds Try.pinned (OpenSpec.ofChange treesReadsSpec)

/-- ITS FALSE NEIGHBOUR: 'it returns false'. Refute it at one input. -/
def treesReadsWrong : ChangeSpec := { name := "treesReads", fn := fun _ => fun
  | [d1, d2] => { results := [.lit (.bool false)], args := [d1, d2] }
  | _ => none }
def TreesReadsWrongFalsely : Prop := treesReadsRow.holds Try.pinned (OpenSpec.ofChange treesReadsWrong)

/-- 'pushlaw.BuildSays': WHATEVER THE INPUT: true; the input reads as it did. -/
def buildSaysSpec : ChangeSpec := { name := "buildSays", fn := fun _ => fun
  | [d1, d2, d3, d4] => { results := [.lit (.bool true)], args := [d1, d2, d3, d4] }
  | _ => none }
def buildSaysRow : OpenClaim := { program := "ytldapomcjfkeeaa", sum := "939ef1edef958f5d796d4a153bc0bd996cd3ee9b416308dc59b51f028387237f", func := "pushmill/pushlaw.BuildSays", spec := "buildSays", unfollowed := true, recurses := true, plainKeys := false, apart := false }
def BuildSaysSaid : Prop := buildSaysRow.holds Try.pinned (OpenSpec.ofChange buildSaysSpec)

/-- ITS FALSE NEIGHBOUR: 'it returns false'. Refute it at one input. -/
def buildSaysWrong : ChangeSpec := { name := "buildSays", fn := fun _ => fun
  | [d1, d2, d3, d4] => { results := [.lit (.bool false)], args := [d1, d2, d3, d4] }
  | _ => none }
def BuildSaysWrongFalsely : Prop := buildSaysRow.holds Try.pinned (OpenSpec.ofChange buildSaysWrong)

/-- 'pushlaw.ClimbSays': WHATEVER THE INPUT: true; the input reads as it did. -/
def climbSaysSpec : ChangeSpec := { name := "climbSays", fn := fun _ => fun
  | [d1, d2, d3, d4] => { results := [.lit (.bool true)], args := [d1, d2, d3, d4] }
  | _ => none }
def climbSaysRow : OpenClaim := { program := "ytldapomcjfkeeaa", sum := "939ef1edef958f5d796d4a153bc0bd996cd3ee9b416308dc59b51f028387237f", func := "pushmill/pushlaw.ClimbSays", spec := "climbSays", unfollowed := true, recurses := true, plainKeys := false, apart := false }
def ClimbSaysSaid : Prop := climbSaysRow.holds Try.pinned (OpenSpec.ofChange climbSaysSpec)

/-- ITS FALSE NEIGHBOUR: 'it returns false'. Refute it at one input. -/
def climbSaysWrong : ChangeSpec := { name := "climbSays", fn := fun _ => fun
  | [d1, d2, d3, d4] => { results := [.lit (.bool false)], args := [d1, d2, d3, d4] }
  | _ => none }
def ClimbSaysWrongFalsely : Prop := climbSaysRow.holds Try.pinned (OpenSpec.ofChange climbSaysWrong)

/-- 'pushlaw.LlSays': WHATEVER THE INPUT: true; the input reads as it did. -/
def llSaysSpec : ChangeSpec := { name := "llSays", fn := fun _ => fun
  | [d1, d2] => { results := [.lit (.bool true)], args := [d1, d2] }
  | _ => none }
def llSaysRow : OpenClaim := { program := "ytldapomcjfkeeaa", sum := "939ef1edef958f5d796d4a153bc0bd996cd3ee9b416308dc59b51f028387237f", func := "pushmill/pushlaw.LlSays", spec := "llSays", unfollowed := true, recurses := true, plainKeys := false, apart := false }
def LlSaysSaid : Prop := llSaysRow.holds Try.pinned (OpenSpec.ofChange llSaysSpec)

/-- ITS FALSE NEIGHBOUR: 'it returns false'. Refute it at one input. -/
def llSaysWrong : ChangeSpec := { name := "llSays", fn := fun _ => fun
  | [d1, d2] => { results := [.lit (.bool false)], args := [d1, d2] }
  | _ => none }
def LlSaysWrongFalsely : Prop := llSaysRow.holds Try.pinned (OpenSpec.ofChange llSaysWrong)

/- THE SECOND FORM. 'bulk': how many values and letters a reading holds, each counted each time it is reached (what is shared counts as often as it is met; a slice's spare places count too). A statement '..UptoSaid' is the law's where the arguments, and the package variables that the reading takes, are together of bulk at most 1048576: NARROWER than '..Said'. Prove '..Said' where nothing that the law and all that it calls make is longer than what came in: it says more and counts as full. Else prove '..UptoSaid'. A law counts once. -/
mutual
def uptoBulk {H : Type} : DataW H → Nat
  | .lit (.string bytes) => bytes.length + 1
  | .lit _ => 1
  | .nil => 1
  | .ptr d => uptoBulk d + 1
  | .slice elems spare => uptoBulkAll elems + uptoBulkAll spare + 1
  | .agg parts => uptoBulkAll parts + 1
  | .iface _ d => uptoBulk d + 1
  | .map entries => uptoBulkEntries entries + 1
  | .held _ => 1
def uptoBulkAll {H : Type} : List (DataW H) → Nat
  | [] => 0
  | d :: r => uptoBulk d + uptoBulkAll r
def uptoBulkEntries {H : Type} : List (Lit × DataW H) → Nat
  | [] => 0
  | x :: r => uptoBulkEntry x + uptoBulkEntries r
def uptoBulkEntry {H : Type} : Lit × DataW H → Nat
  | (.string bytes, d) => bytes.length + uptoBulk d + 1
  | (_, d) => uptoBulk d + 1
 end
def uptoSmall : (H : Type) → List (DataW H) → Bool := fun _ ds => decide (uptoBulkAll ds ≤ 1048576)
def OpenSpec.upto (s : _root_.Go.ChangeSpec) : _root_.Go.OpenSpec := { _root_.Go.OpenSpec.ofChange s with cond := some uptoSmall }

/-- 'pushlaw.FrameFeeds', WHERE WHAT IT READS IS OF BULK AT MOST 1048576: true; the input reads as it did. -/
def frameFeedsUptoRow : OpenClaim := { program := "ytldapomcjfkeeaa", sum := "939ef1edef958f5d796d4a153bc0bd996cd3ee9b416308dc59b51f028387237f", func := "pushmill/pushlaw.FrameFeeds", spec := "frameFeeds", plainKeys := false, apart := false, narrowed := true }
def FrameFeedsUptoSaid : Prop := frameFeedsUptoRow.holds Try.pinned (OpenSpec.upto frameFeedsSpec)

/-- 'pushlaw.SmallApart', WHERE WHAT IT READS IS OF BULK AT MOST 1048576: true; the input reads as it did. -/
def smallApartUptoRow : OpenClaim := { program := "ytldapomcjfkeeaa", sum := "939ef1edef958f5d796d4a153bc0bd996cd3ee9b416308dc59b51f028387237f", func := "pushmill/pushlaw.SmallApart", spec := "smallApart", unfollowed := true, recurses := true, plainKeys := false, apart := false, narrowed := true }
def SmallApartUptoSaid : Prop := smallApartUptoRow.holds Try.pinned (OpenSpec.upto smallApartSpec)

/-- 'pushlaw.SmallPacks', WHERE WHAT IT READS IS OF BULK AT MOST 1048576: true; the input reads as it did. -/
def smallPacksUptoRow : OpenClaim := { program := "ytldapomcjfkeeaa", sum := "939ef1edef958f5d796d4a153bc0bd996cd3ee9b416308dc59b51f028387237f", func := "pushmill/pushlaw.SmallPacks", spec := "smallPacks", unfollowed := true, recurses := true, plainKeys := false, apart := false, narrowed := true }
def SmallPacksUptoSaid : Prop := smallPacksUptoRow.holds Try.pinned (OpenSpec.upto smallPacksSpec)

/-- 'pushlaw.PlacesRuns', WHERE WHAT IT READS IS OF BULK AT MOST 1048576: true; the input reads as it did. -/
def placesRunsUptoRow : OpenClaim := { program := "ytldapomcjfkeeaa", sum := "939ef1edef958f5d796d4a153bc0bd996cd3ee9b416308dc59b51f028387237f", func := "pushmill/pushlaw.PlacesRuns", spec := "placesRuns", unfollowed := true, recurses := true, plainKeys := false, apart := false, narrowed := true }
def PlacesRunsUptoSaid : Prop := placesRunsUptoRow.holds Try.pinned (OpenSpec.upto placesRunsSpec)

/-- 'pushlaw.DfaMakes', WHERE WHAT IT READS IS OF BULK AT MOST 1048576: true; the input reads as it did. -/
def dfaMakesUptoRow : OpenClaim := { program := "ytldapomcjfkeeaa", sum := "939ef1edef958f5d796d4a153bc0bd996cd3ee9b416308dc59b51f028387237f", func := "pushmill/pushlaw.DfaMakes", spec := "dfaMakes", unfollowed := true, recurses := true, plainKeys := false, apart := false, narrowed := true }
def DfaMakesUptoSaid : Prop := dfaMakesUptoRow.holds Try.pinned (OpenSpec.upto dfaMakesSpec)

/-- 'pushlaw.TreesSays', WHERE WHAT IT READS IS OF BULK AT MOST 1048576: true; the input reads as it did. -/
def treesSaysUptoRow : OpenClaim := { program := "ytldapomcjfkeeaa", sum := "939ef1edef958f5d796d4a153bc0bd996cd3ee9b416308dc59b51f028387237f", func := "pushmill/pushlaw.TreesSays", spec := "treesSays", unfollowed := true, recurses := true, loops := true, plainKeys := false, apart := false, narrowed := true }
def TreesSaysUptoSaid : Prop := treesSaysUptoRow.holds Try.pinned (OpenSpec.upto treesSaysSpec)

/-- 'pushlaw.FactsSays', WHERE WHAT IT READS IS OF BULK AT MOST 1048576: true; the input reads as it did. -/
def factsSaysUptoRow : OpenClaim := { program := "ytldapomcjfkeeaa", sum := "939ef1edef958f5d796d4a153bc0bd996cd3ee9b416308dc59b51f028387237f", func := "pushmill/pushlaw.FactsSays", spec := "factsSays", unfollowed := true, recurses := true, plainKeys := false, apart := false, narrowed := true }
def FactsSaysUptoSaid : Prop := factsSaysUptoRow.holds Try.pinned (OpenSpec.upto factsSaysSpec)

/-- 'pushlaw.TreesReads', WHERE WHAT IT READS IS OF BULK AT MOST 1048576: true; the input reads as it did. -/
def treesReadsUptoRow : OpenClaim := { program := "ytldapomcjfkeeaa", sum := "939ef1edef958f5d796d4a153bc0bd996cd3ee9b416308dc59b51f028387237f", func := "pushmill/pushlaw.TreesReads", spec := "treesReads", unfollowed := true, recurses := true, plainKeys := false, apart := false, narrowed := true }
def TreesReadsUptoSaid : Prop := treesReadsUptoRow.holds Try.pinned (OpenSpec.upto treesReadsSpec)

/-- 'pushlaw.BuildSays', WHERE WHAT IT READS IS OF BULK AT MOST 1048576: true; the input reads as it did. -/
def buildSaysUptoRow : OpenClaim := { program := "ytldapomcjfkeeaa", sum := "939ef1edef958f5d796d4a153bc0bd996cd3ee9b416308dc59b51f028387237f", func := "pushmill/pushlaw.BuildSays", spec := "buildSays", unfollowed := true, recurses := true, plainKeys := false, apart := false, narrowed := true }
def BuildSaysUptoSaid : Prop := buildSaysUptoRow.holds Try.pinned (OpenSpec.upto buildSaysSpec)

/-- 'pushlaw.ClimbSays', WHERE WHAT IT READS IS OF BULK AT MOST 1048576: true; the input reads as it did. -/
def climbSaysUptoRow : OpenClaim := { program := "ytldapomcjfkeeaa", sum := "939ef1edef958f5d796d4a153bc0bd996cd3ee9b416308dc59b51f028387237f", func := "pushmill/pushlaw.ClimbSays", spec := "climbSays", unfollowed := true, recurses := true, plainKeys := false, apart := false, narrowed := true }
def ClimbSaysUptoSaid : Prop := climbSaysUptoRow.holds Try.pinned (OpenSpec.upto climbSaysSpec)

/-- 'pushlaw.LlSays', WHERE WHAT IT READS IS OF BULK AT MOST 1048576: true; the input reads as it did. -/
def llSaysUptoRow : OpenClaim := { program := "ytldapomcjfkeeaa", sum := "939ef1edef958f5d796d4a153bc0bd996cd3ee9b416308dc59b51f028387237f", func := "pushmill/pushlaw.LlSays", spec := "llSays", unfollowed := true, recurses := true, plainKeys := false, apart := false, narrowed := true }
def LlSaysUptoSaid : Prop := llSaysUptoRow.holds Try.pinned (OpenSpec.upto llSaysSpec)

end Rows
end Go.Proofs.Ytldapomcjfkeeaa
