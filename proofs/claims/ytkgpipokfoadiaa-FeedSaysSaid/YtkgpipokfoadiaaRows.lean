/-
  NARROWER THAN 'FOR EVERY INPUT', by the rows' own cells (each row's printed sentence says how): TreesSays: loops.
  DERIVED. THE GIVEN ROWS OF THIS SEAT. 10 by the template 'for every input the law returns true; each argument reads behind the call as it read before'; 0 by the template 'total and deterministic' (their statements: YtkgpipokfoadiaaTotals.lean).
  GIVEN WITH THE SEED: the statements are not yours to turn. If you find one false, say at which input.
  Laid BY PROGRAM, IN A SANDBOX (cutbox-rows.mjs): the forced cells as the released guide's own fill.sh prints them over the translation faed7682ac69ff6f… (all of the seat's roots in one cut). By AI agents, Wed Nov 11 2026. No macro, syntax, notation, axiom, sorry.
-/
import Derived.Test.YtkgpipokfoadiaaChecked
import GoSem.Claim
import GoSem.ClaimJoined
import GoSem.ClaimMapViews
import Derived.JoinedTies
import Derived.KernelRfl
namespace Go.Proofs.Ytkgpipokfoadiaa
/- THE CELL 'sum', in the pinned program and in every row, IS THE sha256 OF THE DUMP (.gsa) THAT YtkgpipokfoadiaaProg.lean LOADS. Nothing in Lean hashes anything: it is a label: what it is worth is what the hold of that sum in a sandbox is worth. -/
noncomputable def Try.pinned : Pinned := { name := "ytkgpipokfoadiaa", sum := "faed7682ac69ff6f717190842af889e839d4edd67f7daca2165e6193b8c95787", checked := Try.checked }
namespace Rows
def none {H : Type} : Left H := { results := [], args := [] }

/-- 'pushlaw.LrChecks': WHATEVER THE INPUT: true; the input reads as it did. -/
def lrChecksSpec : ChangeSpec := { name := "lrChecks", fn := fun _ => fun
  | [d1, d2] => { results := [.lit (.bool true)], args := [d1, d2] }
  | _ => none }
def lrChecksRow : OpenClaim := { program := "ytkgpipokfoadiaa", sum := "faed7682ac69ff6f717190842af889e839d4edd67f7daca2165e6193b8c95787", func := "pushmill/pushlaw.LrChecks", spec := "lrChecks", unfollowed := true, recurses := true, plainKeys := false, apart := false }
def LrChecksSaid : Prop := lrChecksRow.holds Try.pinned (OpenSpec.ofChange lrChecksSpec)

/-- ITS FALSE NEIGHBOUR: 'it returns false'. Refute it at one input. -/
def lrChecksWrong : ChangeSpec := { name := "lrChecks", fn := fun _ => fun
  | [d1, d2] => { results := [.lit (.bool false)], args := [d1, d2] }
  | _ => none }
def LrChecksWrongFalsely : Prop := lrChecksRow.holds Try.pinned (OpenSpec.ofChange lrChecksWrong)

/-- 'pushlaw.GatePacks': WHATEVER THE INPUT: true; the input reads as it did. -/
def gatePacksSpec : ChangeSpec := { name := "gatePacks", fn := fun _ => fun
  | [d1, d2] => { results := [.lit (.bool true)], args := [d1, d2] }
  | _ => none }
def gatePacksRow : OpenClaim := { program := "ytkgpipokfoadiaa", sum := "faed7682ac69ff6f717190842af889e839d4edd67f7daca2165e6193b8c95787", func := "pushmill/pushlaw.GatePacks", spec := "gatePacks", unfollowed := true, recurses := true, plainKeys := false, apart := false }
def GatePacksSaid : Prop := gatePacksRow.holds Try.pinned (OpenSpec.ofChange gatePacksSpec)

/-- ITS FALSE NEIGHBOUR: 'it returns false'. Refute it at one input. -/
def gatePacksWrong : ChangeSpec := { name := "gatePacks", fn := fun _ => fun
  | [d1, d2] => { results := [.lit (.bool false)], args := [d1, d2] }
  | _ => none }
def GatePacksWrongFalsely : Prop := gatePacksRow.holds Try.pinned (OpenSpec.ofChange gatePacksWrong)

/-- 'pushlaw.GateSays': WHATEVER THE INPUT: true; the input reads as it did. -/
def gateSaysSpec : ChangeSpec := { name := "gateSays", fn := fun _ => fun
  | [d1, d2, d3, d4] => { results := [.lit (.bool true)], args := [d1, d2, d3, d4] }
  | _ => none }
def gateSaysRow : OpenClaim := { program := "ytkgpipokfoadiaa", sum := "faed7682ac69ff6f717190842af889e839d4edd67f7daca2165e6193b8c95787", func := "pushmill/pushlaw.GateSays", spec := "gateSays", unfollowed := true, recurses := true, plainKeys := false, apart := false }
def GateSaysSaid : Prop := gateSaysRow.holds Try.pinned (OpenSpec.ofChange gateSaysSpec)

/-- ITS FALSE NEIGHBOUR: 'it returns false'. Refute it at one input. -/
def gateSaysWrong : ChangeSpec := { name := "gateSays", fn := fun _ => fun
  | [d1, d2, d3, d4] => { results := [.lit (.bool false)], args := [d1, d2, d3, d4] }
  | _ => none }
def GateSaysWrongFalsely : Prop := gateSaysRow.holds Try.pinned (OpenSpec.ofChange gateSaysWrong)

/-- 'pushlaw.LexerSays': WHATEVER THE INPUT: true; the input reads as it did. -/
def lexerSaysSpec : ChangeSpec := { name := "lexerSays", fn := fun _ => fun
  | [d1, d2, d3] => { results := [.lit (.bool true)], args := [d1, d2, d3] }
  | _ => none }
def lexerSaysRow : OpenClaim := { program := "ytkgpipokfoadiaa", sum := "faed7682ac69ff6f717190842af889e839d4edd67f7daca2165e6193b8c95787", func := "pushmill/pushlaw.LexerSays", spec := "lexerSays", plainKeys := false, apart := false }
def LexerSaysSaid : Prop := lexerSaysRow.holds Try.pinned (OpenSpec.ofChange lexerSaysSpec)

/-- ITS FALSE NEIGHBOUR: 'it returns false'. Refute it at one input. -/
def lexerSaysWrong : ChangeSpec := { name := "lexerSays", fn := fun _ => fun
  | [d1, d2, d3] => { results := [.lit (.bool false)], args := [d1, d2, d3] }
  | _ => none }
def LexerSaysWrongFalsely : Prop := lexerSaysRow.holds Try.pinned (OpenSpec.ofChange lexerSaysWrong)

/-- 'pushlaw.CfgSays': WHATEVER THE INPUT: true; the input reads as it did. -/
def cfgSaysSpec : ChangeSpec := { name := "cfgSays", fn := fun _ => fun
  | [d1, d2] => { results := [.lit (.bool true)], args := [d1, d2] }
  | _ => none }
def cfgSaysRow : OpenClaim := { program := "ytkgpipokfoadiaa", sum := "faed7682ac69ff6f717190842af889e839d4edd67f7daca2165e6193b8c95787", func := "pushmill/pushlaw.CfgSays", spec := "cfgSays", unfollowed := true, recurses := true, plainKeys := false, apart := false }
def CfgSaysSaid : Prop := cfgSaysRow.holds Try.pinned (OpenSpec.ofChange cfgSaysSpec)

/-- ITS FALSE NEIGHBOUR: 'it returns false'. Refute it at one input. -/
def cfgSaysWrong : ChangeSpec := { name := "cfgSays", fn := fun _ => fun
  | [d1, d2] => { results := [.lit (.bool false)], args := [d1, d2] }
  | _ => none }
def CfgSaysWrongFalsely : Prop := cfgSaysRow.holds Try.pinned (OpenSpec.ofChange cfgSaysWrong)

/-- 'pushlaw.PackLists': WHATEVER THE INPUT: true; the input reads as it did. -/
def packListsSpec : ChangeSpec := { name := "packLists", fn := fun _ => fun
  | [d1, d2] => { results := [.lit (.bool true)], args := [d1, d2] }
  | _ => none }
def packListsRow : OpenClaim := { program := "ytkgpipokfoadiaa", sum := "faed7682ac69ff6f717190842af889e839d4edd67f7daca2165e6193b8c95787", func := "pushmill/pushlaw.PackLists", spec := "packLists", recurses := true, plainKeys := false, apart := false }
def PackListsSaid : Prop := packListsRow.holds Try.pinned (OpenSpec.ofChange packListsSpec)

/-- ITS FALSE NEIGHBOUR: 'it returns false'. Refute it at one input. -/
def packListsWrong : ChangeSpec := { name := "packLists", fn := fun _ => fun
  | [d1, d2] => { results := [.lit (.bool false)], args := [d1, d2] }
  | _ => none }
def PackListsWrongFalsely : Prop := packListsRow.holds Try.pinned (OpenSpec.ofChange packListsWrong)

/-- 'pushlaw.PlacesRuns': WHATEVER THE INPUT: true; the input reads as it did. -/
def placesRunsSpec : ChangeSpec := { name := "placesRuns", fn := fun _ => fun
  | [d1, d2] => { results := [.lit (.bool true)], args := [d1, d2] }
  | _ => none }
def placesRunsRow : OpenClaim := { program := "ytkgpipokfoadiaa", sum := "faed7682ac69ff6f717190842af889e839d4edd67f7daca2165e6193b8c95787", func := "pushmill/pushlaw.PlacesRuns", spec := "placesRuns", unfollowed := true, recurses := true, plainKeys := false, apart := false }
def PlacesRunsSaid : Prop := placesRunsRow.holds Try.pinned (OpenSpec.ofChange placesRunsSpec)

/-- ITS FALSE NEIGHBOUR: 'it returns false'. Refute it at one input. -/
def placesRunsWrong : ChangeSpec := { name := "placesRuns", fn := fun _ => fun
  | [d1, d2] => { results := [.lit (.bool false)], args := [d1, d2] }
  | _ => none }
def PlacesRunsWrongFalsely : Prop := placesRunsRow.holds Try.pinned (OpenSpec.ofChange placesRunsWrong)

/-- 'pushlaw.DfaMakes': WHATEVER THE INPUT: true; the input reads as it did. -/
def dfaMakesSpec : ChangeSpec := { name := "dfaMakes", fn := fun _ => fun
  | [d] => { results := [.lit (.bool true)], args := [d] }
  | _ => none }
def dfaMakesRow : OpenClaim := { program := "ytkgpipokfoadiaa", sum := "faed7682ac69ff6f717190842af889e839d4edd67f7daca2165e6193b8c95787", func := "pushmill/pushlaw.DfaMakes", spec := "dfaMakes", unfollowed := true, recurses := true, plainKeys := false, apart := false }
def DfaMakesSaid : Prop := dfaMakesRow.holds Try.pinned (OpenSpec.ofChange dfaMakesSpec)

/-- ITS FALSE NEIGHBOUR: 'it returns false'. Refute it at one input. -/
def dfaMakesWrong : ChangeSpec := { name := "dfaMakes", fn := fun _ => fun
  | [d] => { results := [.lit (.bool false)], args := [d] }
  | _ => none }
def DfaMakesWrongFalsely : Prop := dfaMakesRow.holds Try.pinned (OpenSpec.ofChange dfaMakesWrong)

/-- 'pushlaw.FeedSays': WHATEVER THE INPUT: true; the input reads as it did. -/
def feedSaysSpec : ChangeSpec := { name := "feedSays", fn := fun _ => fun
  | [d1, d2, d3] => { results := [.lit (.bool true)], args := [d1, d2, d3] }
  | _ => none }
def feedSaysRow : OpenClaim := { program := "ytkgpipokfoadiaa", sum := "faed7682ac69ff6f717190842af889e839d4edd67f7daca2165e6193b8c95787", func := "pushmill/pushlaw.FeedSays", spec := "feedSays", plainKeys := false, apart := false }
def FeedSaysSaid : Prop := feedSaysRow.holds Try.pinned (OpenSpec.ofChange feedSaysSpec)

/-- ITS FALSE NEIGHBOUR: 'it returns false'. Refute it at one input. -/
def feedSaysWrong : ChangeSpec := { name := "feedSays", fn := fun _ => fun
  | [d1, d2, d3] => { results := [.lit (.bool false)], args := [d1, d2, d3] }
  | _ => none }
def FeedSaysWrongFalsely : Prop := feedSaysRow.holds Try.pinned (OpenSpec.ofChange feedSaysWrong)

/-- 'pushlaw.TreesSays': WHATEVER THE INPUT: true; the input reads as it did. -/
def treesSaysSpec : ChangeSpec := { name := "treesSays", fn := fun _ => fun
  | [d1, d2] => { results := [.lit (.bool true)], args := [d1, d2] }
  | _ => none }
def treesSaysRow : OpenClaim := { program := "ytkgpipokfoadiaa", sum := "faed7682ac69ff6f717190842af889e839d4edd67f7daca2165e6193b8c95787", func := "pushmill/pushlaw.TreesSays", spec := "treesSays", unfollowed := true, recurses := true, loops := true, plainKeys := false, apart := false }
def TreesSaysSaid : Prop := treesSaysRow.holds Try.pinned (OpenSpec.ofChange treesSaysSpec)

/-- ITS FALSE NEIGHBOUR: 'it returns false'. Refute it at one input. -/
def treesSaysWrong : ChangeSpec := { name := "treesSays", fn := fun _ => fun
  | [d1, d2] => { results := [.lit (.bool false)], args := [d1, d2] }
  | _ => none }
def TreesSaysWrongFalsely : Prop := treesSaysRow.holds Try.pinned (OpenSpec.ofChange treesSaysWrong)

/- THE SECOND FORM. 'bulk': how many values and letters a reading holds, each counted each time it is reached (what is shared counts as often as it is met; a slice's spare places count too). A statement '..UptoSaid' is the law's where the arguments, and the package variables that the reading takes, are together of bulk at most 1048576: NARROWER than '..Said'. Prove '..Said' where nothing that the law and all that it calls make is longer than what came in: it says more and counts as full. Else prove '..UptoSaid'. A law counts once. -/
mutual
def uptoBulk {H : Type} : DataW H → Nat
  | .lit (.string bytes) => bytes.length + 1
  | .lit _ => 1
  | .nil => 1
  | .ptr d => uptoBulk d + 1
  | .slice elems spare => uptoBulkAll elems + uptoBulkAll spare + 1
  | .agg parts => uptoBulkAll parts + 1
  | .iface _ d => uptoBulk d + 1
  | .map entries => uptoBulkEntries entries + 1
  | .held _ => 1
def uptoBulkAll {H : Type} : List (DataW H) → Nat
  | [] => 0
  | d :: r => uptoBulk d + uptoBulkAll r
def uptoBulkEntries {H : Type} : List (Lit × DataW H) → Nat
  | [] => 0
  | x :: r => uptoBulkEntry x + uptoBulkEntries r
def uptoBulkEntry {H : Type} : Lit × DataW H → Nat
  | (.string bytes, d) => bytes.length + uptoBulk d + 1
  | (_, d) => uptoBulk d + 1
 end
def uptoSmall : (H : Type) → List (DataW H) → Bool := fun _ ds => decide (uptoBulkAll ds ≤ 1048576)
def OpenSpec.upto (s : _root_.Go.ChangeSpec) : _root_.Go.OpenSpec := { _root_.Go.OpenSpec.ofChange s with cond := some uptoSmall }

/-- 'pushlaw.LrChecks', WHERE WHAT IT READS IS OF BULK AT MOST 1048576: true; the input reads as it did. -/
def lrChecksUptoRow : OpenClaim := { program := "ytkgpipokfoadiaa", sum := "faed7682ac69ff6f717190842af889e839d4edd67f7daca2165e6193b8c95787", func := "pushmill/pushlaw.LrChecks", spec := "lrChecks", unfollowed := true, recurses := true, plainKeys := false, apart := false, narrowed := true }
def LrChecksUptoSaid : Prop := lrChecksUptoRow.holds Try.pinned (OpenSpec.upto lrChecksSpec)

/-- 'pushlaw.GatePacks', WHERE WHAT IT READS IS OF BULK AT MOST 1048576: true; the input reads as it did. -/
def gatePacksUptoRow : OpenClaim := { program := "ytkgpipokfoadiaa", sum := "faed7682ac69ff6f717190842af889e839d4edd67f7daca2165e6193b8c95787", func := "pushmill/pushlaw.GatePacks", spec := "gatePacks", unfollowed := true, recurses := true, plainKeys := false, apart := false, narrowed := true }
def GatePacksUptoSaid : Prop := gatePacksUptoRow.holds Try.pinned (OpenSpec.upto gatePacksSpec)

/-- 'pushlaw.GateSays', WHERE WHAT IT READS IS OF BULK AT MOST 1048576: true; the input reads as it did. -/
def gateSaysUptoRow : OpenClaim := { program := "ytkgpipokfoadiaa", sum := "faed7682ac69ff6f717190842af889e839d4edd67f7daca2165e6193b8c95787", func := "pushmill/pushlaw.GateSays", spec := "gateSays", unfollowed := true, recurses := true, plainKeys := false, apart := false, narrowed := true }
def GateSaysUptoSaid : Prop := gateSaysUptoRow.holds Try.pinned (OpenSpec.upto gateSaysSpec)

/-- 'pushlaw.LexerSays', WHERE WHAT IT READS IS OF BULK AT MOST 1048576: true; the input reads as it did. -/
def lexerSaysUptoRow : OpenClaim := { program := "ytkgpipokfoadiaa", sum := "faed7682ac69ff6f717190842af889e839d4edd67f7daca2165e6193b8c95787", func := "pushmill/pushlaw.LexerSays", spec := "lexerSays", plainKeys := false, apart := false, narrowed := true }
def LexerSaysUptoSaid : Prop := lexerSaysUptoRow.holds Try.pinned (OpenSpec.upto lexerSaysSpec)

/-- 'pushlaw.CfgSays', WHERE WHAT IT READS IS OF BULK AT MOST 1048576: true; the input reads as it did. -/
def cfgSaysUptoRow : OpenClaim := { program := "ytkgpipokfoadiaa", sum := "faed7682ac69ff6f717190842af889e839d4edd67f7daca2165e6193b8c95787", func := "pushmill/pushlaw.CfgSays", spec := "cfgSays", unfollowed := true, recurses := true, plainKeys := false, apart := false, narrowed := true }
def CfgSaysUptoSaid : Prop := cfgSaysUptoRow.holds Try.pinned (OpenSpec.upto cfgSaysSpec)

/-- 'pushlaw.PackLists', WHERE WHAT IT READS IS OF BULK AT MOST 1048576: true; the input reads as it did. -/
def packListsUptoRow : OpenClaim := { program := "ytkgpipokfoadiaa", sum := "faed7682ac69ff6f717190842af889e839d4edd67f7daca2165e6193b8c95787", func := "pushmill/pushlaw.PackLists", spec := "packLists", recurses := true, plainKeys := false, apart := false, narrowed := true }
def PackListsUptoSaid : Prop := packListsUptoRow.holds Try.pinned (OpenSpec.upto packListsSpec)

/-- 'pushlaw.PlacesRuns', WHERE WHAT IT READS IS OF BULK AT MOST 1048576: true; the input reads as it did. -/
def placesRunsUptoRow : OpenClaim := { program := "ytkgpipokfoadiaa", sum := "faed7682ac69ff6f717190842af889e839d4edd67f7daca2165e6193b8c95787", func := "pushmill/pushlaw.PlacesRuns", spec := "placesRuns", unfollowed := true, recurses := true, plainKeys := false, apart := false, narrowed := true }
def PlacesRunsUptoSaid : Prop := placesRunsUptoRow.holds Try.pinned (OpenSpec.upto placesRunsSpec)

/-- 'pushlaw.DfaMakes', WHERE WHAT IT READS IS OF BULK AT MOST 1048576: true; the input reads as it did. -/
def dfaMakesUptoRow : OpenClaim := { program := "ytkgpipokfoadiaa", sum := "faed7682ac69ff6f717190842af889e839d4edd67f7daca2165e6193b8c95787", func := "pushmill/pushlaw.DfaMakes", spec := "dfaMakes", unfollowed := true, recurses := true, plainKeys := false, apart := false, narrowed := true }
def DfaMakesUptoSaid : Prop := dfaMakesUptoRow.holds Try.pinned (OpenSpec.upto dfaMakesSpec)

/-- 'pushlaw.FeedSays', WHERE WHAT IT READS IS OF BULK AT MOST 1048576: true; the input reads as it did. -/
def feedSaysUptoRow : OpenClaim := { program := "ytkgpipokfoadiaa", sum := "faed7682ac69ff6f717190842af889e839d4edd67f7daca2165e6193b8c95787", func := "pushmill/pushlaw.FeedSays", spec := "feedSays", plainKeys := false, apart := false, narrowed := true }
def FeedSaysUptoSaid : Prop := feedSaysUptoRow.holds Try.pinned (OpenSpec.upto feedSaysSpec)

/-- 'pushlaw.TreesSays', WHERE WHAT IT READS IS OF BULK AT MOST 1048576: true; the input reads as it did. -/
def treesSaysUptoRow : OpenClaim := { program := "ytkgpipokfoadiaa", sum := "faed7682ac69ff6f717190842af889e839d4edd67f7daca2165e6193b8c95787", func := "pushmill/pushlaw.TreesSays", spec := "treesSays", unfollowed := true, recurses := true, loops := true, plainKeys := false, apart := false, narrowed := true }
def TreesSaysUptoSaid : Prop := treesSaysUptoRow.holds Try.pinned (OpenSpec.upto treesSaysSpec)

end Rows
end Go.Proofs.Ytkgpipokfoadiaa
