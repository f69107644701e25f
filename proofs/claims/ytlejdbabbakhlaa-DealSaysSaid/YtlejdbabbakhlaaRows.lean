/-
  No cell of these rows narrows 'for every input' (looked for: loops, veiled, ifaces, maps, wideKeys, modest, calm, conditions, laid).
  DERIVED. THE GIVEN ROWS OF THIS SEAT. 11 by the template 'for every input the law returns true; each argument reads behind the call as it read before'; 0 by the template 'total and deterministic' (their statements: YtlejdbabbakhlaaTotals.lean).
  GIVEN WITH THE SEED: the statements are not yours to turn. If you find one false, say at which input.
  Laid BY PROGRAM, IN A SANDBOX (cutbox-rows.mjs): the forced cells as the released guide's own fill.sh prints them over the translation f311fd6f3263dccd… (all of the seat's roots in one cut). By AI agents, Wed Nov 11 2026. No macro, syntax, notation, axiom, sorry.
-/
import Derived.Test.YtlejdbabbakhlaaChecked
import GoSem.Claim
import GoSem.ClaimJoined
import GoSem.ClaimMapViews
import Derived.JoinedTies
import Derived.KernelRfl
namespace Go.Proofs.Ytlejdbabbakhlaa
/- THE CELL 'sum', in the pinned program and in every row, IS THE sha256 OF THE DUMP (.gsa) THAT YtlejdbabbakhlaaProg.lean LOADS. Nothing in Lean hashes anything: it is a label: what it is worth is what the hold of that sum in a sandbox is worth. -/
noncomputable def Try.pinned : Pinned := { name := "ytlejdbabbakhlaa", sum := "f311fd6f3263dccd2e5d9c316eb5222491dd28632f846c1f039c19e9e4ad9e5d", checked := Try.checked }
namespace Rows
def none {H : Type} : Left H := { results := [], args := [] }

/-- 'pushlaw.Names': WHATEVER THE INPUT: true; the input reads as it did. -/
def namesSpec : ChangeSpec := { name := "names", fn := fun _ => fun
  | [] => { results := [.lit (.bool true)], args := [] }
  | _ => none }
def namesRow : OpenClaim := { program := "ytlejdbabbakhlaa", sum := "f311fd6f3263dccd2e5d9c316eb5222491dd28632f846c1f039c19e9e4ad9e5d", func := "pushmill/pushlaw.Names", spec := "names", plainKeys := false, apart := false }
def NamesSaid : Prop := namesRow.holds Try.pinned (OpenSpec.ofChange namesSpec)

/-- ITS FALSE NEIGHBOUR: 'it returns false'. Refute it at one input. -/
def namesWrong : ChangeSpec := { name := "names", fn := fun _ => fun
  | [] => { results := [.lit (.bool false)], args := [] }
  | _ => none }
def NamesWrongFalsely : Prop := namesRow.holds Try.pinned (OpenSpec.ofChange namesWrong)

/-- 'pushlaw.SumSays': WHATEVER THE INPUT: true; the input reads as it did. -/
def sumSaysSpec : ChangeSpec := { name := "sumSays", fn := fun _ => fun
  | [d1, d2] => { results := [.lit (.bool true)], args := [d1, d2] }
  | _ => none }
def sumSaysRow : OpenClaim := { program := "ytlejdbabbakhlaa", sum := "f311fd6f3263dccd2e5d9c316eb5222491dd28632f846c1f039c19e9e4ad9e5d", func := "pushmill/pushlaw.SumSays", spec := "sumSays", plainKeys := false, apart := false }
def SumSaysSaid : Prop := sumSaysRow.holds Try.pinned (OpenSpec.ofChange sumSaysSpec)

/-- ITS FALSE NEIGHBOUR: 'it returns false'. Refute it at one input. -/
def sumSaysWrong : ChangeSpec := { name := "sumSays", fn := fun _ => fun
  | [d1, d2] => { results := [.lit (.bool false)], args := [d1, d2] }
  | _ => none }
def SumSaysWrongFalsely : Prop := sumSaysRow.holds Try.pinned (OpenSpec.ofChange sumSaysWrong)

/-- 'pushlaw.PackNums': WHATEVER THE INPUT: true; the input reads as it did. -/
def packNumsSpec : ChangeSpec := { name := "packNums", fn := fun _ => fun
  | [d1, d2] => { results := [.lit (.bool true)], args := [d1, d2] }
  | _ => none }
def packNumsRow : OpenClaim := { program := "ytlejdbabbakhlaa", sum := "f311fd6f3263dccd2e5d9c316eb5222491dd28632f846c1f039c19e9e4ad9e5d", func := "pushmill/pushlaw.PackNums", spec := "packNums", recurses := true, plainKeys := false, apart := false }
def PackNumsSaid : Prop := packNumsRow.holds Try.pinned (OpenSpec.ofChange packNumsSpec)

/-- ITS FALSE NEIGHBOUR: 'it returns false'. Refute it at one input. -/
def packNumsWrong : ChangeSpec := { name := "packNums", fn := fun _ => fun
  | [d1, d2] => { results := [.lit (.bool false)], args := [d1, d2] }
  | _ => none }
def PackNumsWrongFalsely : Prop := packNumsRow.holds Try.pinned (OpenSpec.ofChange packNumsWrong)

/-- 'pushlaw.FrameSays': WHATEVER THE INPUT: true; the input reads as it did. -/
def frameSaysSpec : ChangeSpec := { name := "frameSays", fn := fun _ => fun
  | [d] => { results := [.lit (.bool true)], args := [d] }
  | _ => none }
def frameSaysRow : OpenClaim := { program := "ytlejdbabbakhlaa", sum := "f311fd6f3263dccd2e5d9c316eb5222491dd28632f846c1f039c19e9e4ad9e5d", func := "pushmill/pushlaw.FrameSays", spec := "frameSays", plainKeys := false, apart := false }
def FrameSaysSaid : Prop := frameSaysRow.holds Try.pinned (OpenSpec.ofChange frameSaysSpec)

/-- ITS FALSE NEIGHBOUR: 'it returns false'. Refute it at one input. -/
def frameSaysWrong : ChangeSpec := { name := "frameSays", fn := fun _ => fun
  | [d] => { results := [.lit (.bool false)], args := [d] }
  | _ => none }
def FrameSaysWrongFalsely : Prop := frameSaysRow.holds Try.pinned (OpenSpec.ofChange frameSaysWrong)

/-- 'pushlaw.DfaRuns': WHATEVER THE INPUT: true; the input reads as it did. -/
def dfaRunsSpec : ChangeSpec := { name := "dfaRuns", fn := fun _ => fun
  | [d1, d2] => { results := [.lit (.bool true)], args := [d1, d2] }
  | _ => none }
def dfaRunsRow : OpenClaim := { program := "ytlejdbabbakhlaa", sum := "f311fd6f3263dccd2e5d9c316eb5222491dd28632f846c1f039c19e9e4ad9e5d", func := "pushmill/pushlaw.DfaRuns", spec := "dfaRuns", plainKeys := false, apart := false }
def DfaRunsSaid : Prop := dfaRunsRow.holds Try.pinned (OpenSpec.ofChange dfaRunsSpec)

/-- ITS FALSE NEIGHBOUR: 'it returns false'. Refute it at one input. -/
def dfaRunsWrong : ChangeSpec := { name := "dfaRuns", fn := fun _ => fun
  | [d1, d2] => { results := [.lit (.bool false)], args := [d1, d2] }
  | _ => none }
def DfaRunsWrongFalsely : Prop := dfaRunsRow.holds Try.pinned (OpenSpec.ofChange dfaRunsWrong)

/-- 'pushlaw.PackTexts': WHATEVER THE INPUT: true; the input reads as it did. -/
def packTextsSpec : ChangeSpec := { name := "packTexts", fn := fun _ => fun
  | [d1, d2] => { results := [.lit (.bool true)], args := [d1, d2] }
  | _ => none }
def packTextsRow : OpenClaim := { program := "ytlejdbabbakhlaa", sum := "f311fd6f3263dccd2e5d9c316eb5222491dd28632f846c1f039c19e9e4ad9e5d", func := "pushmill/pushlaw.PackTexts", spec := "packTexts", recurses := true, plainKeys := false, apart := false }
def PackTextsSaid : Prop := packTextsRow.holds Try.pinned (OpenSpec.ofChange packTextsSpec)

/-- ITS FALSE NEIGHBOUR: 'it returns false'. Refute it at one input. -/
def packTextsWrong : ChangeSpec := { name := "packTexts", fn := fun _ => fun
  | [d1, d2] => { results := [.lit (.bool false)], args := [d1, d2] }
  | _ => none }
def PackTextsWrongFalsely : Prop := packTextsRow.holds Try.pinned (OpenSpec.ofChange packTextsWrong)

/-- 'pushlaw.FrameFeeds': WHATEVER THE INPUT: true; the input reads as it did. -/
def frameFeedsSpec : ChangeSpec := { name := "frameFeeds", fn := fun _ => fun
  | [d1, d2] => { results := [.lit (.bool true)], args := [d1, d2] }
  | _ => none }
def frameFeedsRow : OpenClaim := { program := "ytlejdbabbakhlaa", sum := "f311fd6f3263dccd2e5d9c316eb5222491dd28632f846c1f039c19e9e4ad9e5d", func := "pushmill/pushlaw.FrameFeeds", spec := "frameFeeds", plainKeys := false, apart := false }
def FrameFeedsSaid : Prop := frameFeedsRow.holds Try.pinned (OpenSpec.ofChange frameFeedsSpec)

/-- ITS FALSE NEIGHBOUR: 'it returns false'. Refute it at one input. -/
def frameFeedsWrong : ChangeSpec := { name := "frameFeeds", fn := fun _ => fun
  | [d1, d2] => { results := [.lit (.bool false)], args := [d1, d2] }
  | _ => none }
def FrameFeedsWrongFalsely : Prop := frameFeedsRow.holds Try.pinned (OpenSpec.ofChange frameFeedsWrong)

/-- 'pushlaw.SmallUnpacks': WHATEVER THE INPUT: true; the input reads as it did. -/
def smallUnpacksSpec : ChangeSpec := { name := "smallUnpacks", fn := fun _ => fun
  | [d] => { results := [.lit (.bool true)], args := [d] }
  | _ => none }
def smallUnpacksRow : OpenClaim := { program := "ytlejdbabbakhlaa", sum := "f311fd6f3263dccd2e5d9c316eb5222491dd28632f846c1f039c19e9e4ad9e5d", func := "pushmill/pushlaw.SmallUnpacks", spec := "smallUnpacks", plainKeys := false, apart := false }
def SmallUnpacksSaid : Prop := smallUnpacksRow.holds Try.pinned (OpenSpec.ofChange smallUnpacksSpec)

/-- ITS FALSE NEIGHBOUR: 'it returns false'. Refute it at one input. -/
def smallUnpacksWrong : ChangeSpec := { name := "smallUnpacks", fn := fun _ => fun
  | [d] => { results := [.lit (.bool false)], args := [d] }
  | _ => none }
def SmallUnpacksWrongFalsely : Prop := smallUnpacksRow.holds Try.pinned (OpenSpec.ofChange smallUnpacksWrong)

/-- 'pushlaw.DealSays': WHATEVER THE INPUT: true; the input reads as it did. -/
def dealSaysSpec : ChangeSpec := { name := "dealSays", fn := fun _ => fun
  | [d1, d2, d3, d4, d5] => { results := [.lit (.bool true)], args := [d1, d2, d3, d4, d5] }
  | _ => none }
def dealSaysRow : OpenClaim := { program := "ytlejdbabbakhlaa", sum := "f311fd6f3263dccd2e5d9c316eb5222491dd28632f846c1f039c19e9e4ad9e5d", func := "pushmill/pushlaw.DealSays", spec := "dealSays", unfollowed := true, recurses := true, plainKeys := false, apart := false }
def DealSaysSaid : Prop := dealSaysRow.holds Try.pinned (OpenSpec.ofChange dealSaysSpec)

/-- ITS FALSE NEIGHBOUR: 'it returns false'. Refute it at one input. -/
def dealSaysWrong : ChangeSpec := { name := "dealSays", fn := fun _ => fun
  | [d1, d2, d3, d4, d5] => { results := [.lit (.bool false)], args := [d1, d2, d3, d4, d5] }
  | _ => none }
def DealSaysWrongFalsely : Prop := dealSaysRow.holds Try.pinned (OpenSpec.ofChange dealSaysWrong)

/-- 'pushlaw.SmallApart': WHATEVER THE INPUT: true; the input reads as it did. -/
def smallApartSpec : ChangeSpec := { name := "smallApart", fn := fun _ => fun
  | [d1, d2] => { results := [.lit (.bool true)], args := [d1, d2] }
  | _ => none }
def smallApartRow : OpenClaim := { program := "ytlejdbabbakhlaa", sum := "f311fd6f3263dccd2e5d9c316eb5222491dd28632f846c1f039c19e9e4ad9e5d", func := "pushmill/pushlaw.SmallApart", spec := "smallApart", unfollowed := true, recurses := true, plainKeys := false, apart := false }
def SmallApartSaid : Prop := smallApartRow.holds Try.pinned (OpenSpec.ofChange smallApartSpec)

/-- ITS FALSE NEIGHBOUR: 'it returns false'. Refute it at one input. -/
def smallApartWrong : ChangeSpec := { name := "smallApart", fn := fun _ => fun
  | [d1, d2] => { results := [.lit (.bool false)], args := [d1, d2] }
  | _ => none }
def SmallApartWrongFalsely : Prop := smallApartRow.holds Try.pinned (OpenSpec.ofChange smallApartWrong)

/-- 'pushlaw.SmallPacks': WHATEVER THE INPUT: true; the input reads as it did. -/
def smallPacksSpec : ChangeSpec := { name := "smallPacks", fn := fun _ => fun
  | [d] => { results := [.lit (.bool true)], args := [d] }
  | _ => none }
def smallPacksRow : OpenClaim := { program := "ytlejdbabbakhlaa", sum := "f311fd6f3263dccd2e5d9c316eb5222491dd28632f846c1f039c19e9e4ad9e5d", func := "pushmill/pushlaw.SmallPacks", spec := "smallPacks", unfollowed := true, recurses := true, plainKeys := false, apart := false }
def SmallPacksSaid : Prop := smallPacksRow.holds Try.pinned (OpenSpec.ofChange smallPacksSpec)

/-- ITS FALSE NEIGHBOUR: 'it returns false'. Refute it at one input. -/
def smallPacksWrong : ChangeSpec := { name := "smallPacks", fn := fun _ => fun
  | [d] => { results := [.lit (.bool false)], args := [d] }
  | _ => none }
def SmallPacksWrongFalsely : Prop := smallPacksRow.holds Try.pinned (OpenSpec.ofChange smallPacksWrong)

/- THE SECOND FORM. 'bulk': how many values and letters a reading holds, each counted each time it is reached (what is shared counts as often as it is met; a slice's spare places count too). A statement '..UptoSaid' is the law's where the arguments, and the package variables that the reading takes, are together of bulk at most 1048576: NARROWER than '..Said'. Prove '..Said' where nothing that the law and all that it calls make is longer than what came in: it says more and counts as full. Else prove '..UptoSaid'. A law counts once. -/
mutual
def uptoBulk {H : Type} : DataW H → Nat
  | .lit (.string bytes) => bytes.length + 1
  | .lit _ => 1
  | .nil => 1
  | .ptr d => uptoBulk d + 1
  | .slice elems spare => uptoBulkAll elems + uptoBulkAll spare + 1
  | .agg parts => uptoBulkAll parts + 1
  | .iface _ d => uptoBulk d + 1
  | .map entries => uptoBulkEntries entries + 1
  | .held _ => 1
def uptoBulkAll {H : Type} : List (DataW H) → Nat
  | [] => 0
  | d :: r => uptoBulk d + uptoBulkAll r
def uptoBulkEntries {H : Type} : List (Lit × DataW H) → Nat
  | [] => 0
  | x :: r => uptoBulkEntry x + uptoBulkEntries r
def uptoBulkEntry {H : Type} : Lit × DataW H → Nat
  | (.string bytes, d) => bytes.length + uptoBulk d + 1
  | (_, d) => uptoBulk d + 1
 end
def uptoSmall : (H : Type) → List (DataW H) → Bool := fun _ ds => decide (uptoBulkAll ds ≤ 1048576)
def OpenSpec.upto (s : _root_.Go.ChangeSpec) : _root_.Go.OpenSpec := { _root_.Go.OpenSpec.ofChange s with cond := some uptoSmall }

/-- 'pushlaw.Names', WHERE WHAT IT READS IS OF BULK AT MOST 1048576: true; the input reads as it did. -/
def namesUptoRow : OpenClaim := { program := "ytlejdbabbakhlaa", sum := "f311fd6f3263dccd2e5d9c316eb5222491dd28632f846c1f039c19e9e4ad9e5d", func := "pushmill/pushlaw.Names", spec := "names", plainKeys := false, apart := false, narrowed := true }
def NamesUptoSaid : Prop := namesUptoRow.holds Try.pinned (OpenSpec.upto namesSpec)

/-- 'pushlaw.SumSays', WHERE WHAT IT READS IS OF BULK AT MOST 1048576: true; the input reads as it did. -/
def sumSaysUptoRow : OpenClaim := { program := "ytlejdbabbakhlaa", sum := "f311fd6f3263dccd2e5d9c316eb5222491dd28632f846c1f039c19e9e4ad9e5d", func := "pushmill/pushlaw.SumSays", spec := "sumSays", plainKeys := false, apart := false, narrowed := true }
def SumSaysUptoSaid : Prop := sumSaysUptoRow.holds Try.pinned (OpenSpec.upto sumSaysSpec)

/-- 'pushlaw.PackNums', WHERE WHAT IT READS IS OF BULK AT MOST 1048576: true; the input reads as it did. -/
def packNumsUptoRow : OpenClaim := { program := "ytlejdbabbakhlaa", sum := "f311fd6f3263dccd2e5d9c316eb5222491dd28632f846c1f039c19e9e4ad9e5d", func := "pushmill/pushlaw.PackNums", spec := "packNums", recurses := true, plainKeys := false, apart := false, narrowed := true }
def PackNumsUptoSaid : Prop := packNumsUptoRow.holds Try.pinned (OpenSpec.upto packNumsSpec)

/-- 'pushlaw.FrameSays', WHERE WHAT IT READS IS OF BULK AT MOST 1048576: true; the input reads as it did. -/
def frameSaysUptoRow : OpenClaim := { program := "ytlejdbabbakhlaa", sum := "f311fd6f3263dccd2e5d9c316eb5222491dd28632f846c1f039c19e9e4ad9e5d", func := "pushmill/pushlaw.FrameSays", spec := "frameSays", plainKeys := false, apart := false, narrowed := true }
def FrameSaysUptoSaid : Prop := frameSaysUptoRow.holds Try.pinned (OpenSpec.upto frameSaysSpec)

/-- 'pushlaw.DfaRuns', WHERE WHAT IT READS IS OF BULK AT MOST 1048576: true; the input reads as it did. -/
def dfaRunsUptoRow : OpenClaim := { program := "ytlejdbabbakhlaa", sum := "f311fd6f3263dccd2e5d9c316eb5222491dd28632f846c1f039c19e9e4ad9e5d", func := "pushmill/pushlaw.DfaRuns", spec := "dfaRuns", plainKeys := false, apart := false, narrowed := true }
def DfaRunsUptoSaid : Prop := dfaRunsUptoRow.holds Try.pinned (OpenSpec.upto dfaRunsSpec)

/-- 'pushlaw.PackTexts', WHERE WHAT IT READS IS OF BULK AT MOST 1048576: true; the input reads as it did. -/
def packTextsUptoRow : OpenClaim := { program := "ytlejdbabbakhlaa", sum := "f311fd6f3263dccd2e5d9c316eb5222491dd28632f846c1f039c19e9e4ad9e5d", func := "pushmill/pushlaw.PackTexts", spec := "packTexts", recurses := true, plainKeys := false, apart := false, narrowed := true }
def PackTextsUptoSaid : Prop := packTextsUptoRow.holds Try.pinned (OpenSpec.upto packTextsSpec)

/-- 'pushlaw.FrameFeeds', WHERE WHAT IT READS IS OF BULK AT MOST 1048576: true; the input reads as it did. -/
def frameFeedsUptoRow : OpenClaim := { program := "ytlejdbabbakhlaa", sum := "f311fd6f3263dccd2e5d9c316eb5222491dd28632f846c1f039c19e9e4ad9e5d", func := "pushmill/pushlaw.FrameFeeds", spec := "frameFeeds", plainKeys := false, apart := false, narrowed := true }
def FrameFeedsUptoSaid : Prop := frameFeedsUptoRow.holds Try.pinned (OpenSpec.upto frameFeedsSpec)

/-- 'pushlaw.SmallUnpacks', WHERE WHAT IT READS IS OF BULK AT MOST 1048576: true; the input reads as it did. -/
def smallUnpacksUptoRow : OpenClaim := { program := "ytlejdbabbakhlaa", sum := "f311fd6f3263dccd2e5d9c316eb5222491dd28632f846c1f039c19e9e4ad9e5d", func := "pushmill/pushlaw.SmallUnpacks", spec := "smallUnpacks", plainKeys := false, apart := false, narrowed := true }
def SmallUnpacksUptoSaid : Prop := smallUnpacksUptoRow.holds Try.pinned (OpenSpec.upto smallUnpacksSpec)

/-- 'pushlaw.DealSays', WHERE WHAT IT READS IS OF BULK AT MOST 1048576: true; the input reads as it did. -/
def dealSaysUptoRow : OpenClaim := { program := "ytlejdbabbakhlaa", sum := "f311fd6f3263dccd2e5d9c316eb5222491dd28632f846c1f039c19e9e4ad9e5d", func := "pushmill/pushlaw.DealSays", spec := "dealSays", unfollowed := true, recurses := true, plainKeys := false, apart := false, narrowed := true }
def DealSaysUptoSaid : Prop := dealSaysUptoRow.holds Try.pinned (OpenSpec.upto dealSaysSpec)

/-- 'pushlaw.SmallApart', WHERE WHAT IT READS IS OF BULK AT MOST 1048576: true; the input reads as it did. -/
def smallApartUptoRow : OpenClaim := { program := "ytlejdbabbakhlaa", sum := "f311fd6f3263dccd2e5d9c316eb5222491dd28632f846c1f039c19e9e4ad9e5d", func := "pushmill/pushlaw.SmallApart", spec := "smallApart", unfollowed := true, recurses := true, plainKeys := false, apart := false, narrowed := true }
def SmallApartUptoSaid : Prop := smallApartUptoRow.holds Try.pinned (OpenSpec.upto smallApartSpec)

/-- 'pushlaw.SmallPacks', WHERE WHAT IT READS IS OF BULK AT MOST 1048576: true; the input reads as it did. -/
def smallPacksUptoRow : OpenClaim := { program := "ytlejdbabbakhlaa", sum := "f311fd6f3263dccd2e5d9c316eb5222491dd28632f846c1f039c19e9e4ad9e5d", func := "pushmill/pushlaw.SmallPacks", spec := "smallPacks", unfollowed := true, recurses := true, plainKeys := false, apart := false, narrowed := true }
def SmallPacksUptoSaid : Prop := smallPacksUptoRow.holds Try.pinned (OpenSpec.upto smallPacksSpec)

end Rows
end Go.Proofs.Ytlejdbabbakhlaa
