/-
  NARROWER THAN 'FOR EVERY INPUT', by the rows' own cells (each row's printed sentence says how): PlacesMakes: loops.
  DERIVED. THE GIVEN ROWS OF THIS SEAT. 6 by the template 'for every input the law returns true; each argument reads behind the call as it read before'; 0 by the template 'total and deterministic' (their statements: YtbpjmdemmmdnbaaTotals.lean).
  GIVEN WITH THE SEED: the statements are not yours to turn. If you find one false, say at which input.
  Laid BY PROGRAM, IN A SANDBOX (cutbox-rows.mjs): the forced cells as the released guide's own fill.sh prints them over the translation ea935bb639336035… (all of the seat's roots in one cut). By AI agents, Wed Nov 11 2026. No macro, syntax, notation, axiom, sorry.
-/
import Derived.Test.YtbpjmdemmmdnbaaChecked
import GoSem.Claim
import GoSem.ClaimJoined
import GoSem.ClaimMapViews
import Derived.JoinedTies
import Derived.KernelRfl
namespace Go.Proofs.Ytbpjmdemmmdnbaa
/- THE CELL 'sum', in the pinned program and in every row, IS THE sha256 OF THE DUMP (.gsa) THAT YtbpjmdemmmdnbaaProg.lean LOADS. Nothing in Lean hashes anything: it is a label: what it is worth is what the hold of that sum in a sandbox is worth. -/
noncomputable def Try.pinned : Pinned := { name := "ytbpjmdemmmdnbaa", sum := "ea935bb63933603541633a0f8b625a14fd24ff4e40eb5c16a87d649a37b30728", checked := Try.checked }
namespace Rows
def none {H : Type} : Left H := { results := [], args := [] }

/-- 'pushlaw.SmallApart': WHATEVER THE INPUT: true; the input reads as it did. -/
def smallApartSpec : ChangeSpec := { name := "smallApart", fn := fun _ => fun
  | [d1, d2] => { results := [.lit (.bool true)], args := [d1, d2] }
  | _ => none }
def smallApartRow : OpenClaim := { program := "ytbpjmdemmmdnbaa", sum := "ea935bb63933603541633a0f8b625a14fd24ff4e40eb5c16a87d649a37b30728", func := "pushmill/pushlaw.SmallApart", spec := "smallApart", unfollowed := true, recurses := true, plainKeys := false, apart := false }
def SmallApartSaid : Prop := smallApartRow.holds Try.pinned (OpenSpec.ofChange smallApartSpec)

/-- ITS FALSE NEIGHBOUR: 'it returns false'. Refute it at one input. -/
def smallApartWrong : ChangeSpec := { name := "smallApart", fn := fun _ => fun
  | [d1, d2] => { results := [.lit (.bool false)], args := [d1, d2] }
  | _ => none }
def SmallApartWrongFalsely : Prop := smallApartRow.holds Try.pinned (OpenSpec.ofChange smallApartWrong)

/-- 'pushlaw.SmallPacks': WHATEVER THE INPUT: true; the input reads as it did. -/
def smallPacksSpec : ChangeSpec := { name := "smallPacks", fn := fun _ => fun
  | [d] => { results := [.lit (.bool true)], args := [d] }
  | _ => none }
def smallPacksRow : OpenClaim := { program := "ytbpjmdemmmdnbaa", sum := "ea935bb63933603541633a0f8b625a14fd24ff4e40eb5c16a87d649a37b30728", func := "pushmill/pushlaw.SmallPacks", spec := "smallPacks", unfollowed := true, recurses := true, plainKeys := false, apart := false }
def SmallPacksSaid : Prop := smallPacksRow.holds Try.pinned (OpenSpec.ofChange smallPacksSpec)

/-- ITS FALSE NEIGHBOUR: 'it returns false'. Refute it at one input. -/
def smallPacksWrong : ChangeSpec := { name := "smallPacks", fn := fun _ => fun
  | [d] => { results := [.lit (.bool false)], args := [d] }
  | _ => none }
def SmallPacksWrongFalsely : Prop := smallPacksRow.holds Try.pinned (OpenSpec.ofChange smallPacksWrong)

/-- 'pushlaw.DfaMakes': WHATEVER THE INPUT: true; the input reads as it did. -/
def dfaMakesSpec : ChangeSpec := { name := "dfaMakes", fn := fun _ => fun
  | [d] => { results := [.lit (.bool true)], args := [d] }
  | _ => none }
def dfaMakesRow : OpenClaim := { program := "ytbpjmdemmmdnbaa", sum := "ea935bb63933603541633a0f8b625a14fd24ff4e40eb5c16a87d649a37b30728", func := "pushmill/pushlaw.DfaMakes", spec := "dfaMakes", unfollowed := true, recurses := true, plainKeys := false, apart := false }
def DfaMakesSaid : Prop := dfaMakesRow.holds Try.pinned (OpenSpec.ofChange dfaMakesSpec)

/-- ITS FALSE NEIGHBOUR: 'it returns false'. Refute it at one input. -/
def dfaMakesWrong : ChangeSpec := { name := "dfaMakes", fn := fun _ => fun
  | [d] => { results := [.lit (.bool false)], args := [d] }
  | _ => none }
def DfaMakesWrongFalsely : Prop := dfaMakesRow.holds Try.pinned (OpenSpec.ofChange dfaMakesWrong)

/-- 'pushlaw.RexReads': WHATEVER THE INPUT: true; the input reads as it did. -/
def rexReadsSpec : ChangeSpec := { name := "rexReads", fn := fun _ => fun
  | [d] => { results := [.lit (.bool true)], args := [d] }
  | _ => none }
def rexReadsRow : OpenClaim := { program := "ytbpjmdemmmdnbaa", sum := "ea935bb63933603541633a0f8b625a14fd24ff4e40eb5c16a87d649a37b30728", func := "pushmill/pushlaw.RexReads", spec := "rexReads", inPlace := ["internal/bytealg.IndexByteString"], unfollowed := true, recurses := true, plainKeys := false, apart := false }
def RexReadsSaid : Prop := rexReadsRow.holds Try.pinned (OpenSpec.ofChange rexReadsSpec)

/-- ITS FALSE NEIGHBOUR: 'it returns false'. Refute it at one input. -/
def rexReadsWrong : ChangeSpec := { name := "rexReads", fn := fun _ => fun
  | [d] => { results := [.lit (.bool false)], args := [d] }
  | _ => none }
def RexReadsWrongFalsely : Prop := rexReadsRow.holds Try.pinned (OpenSpec.ofChange rexReadsWrong)

/-- 'pushlaw.PlacesMakes': WHATEVER THE INPUT: true; the input reads as it did. -/
def placesMakesSpec : ChangeSpec := { name := "placesMakes", fn := fun _ => fun
  | [d] => { results := [.lit (.bool true)], args := [d] }
  | _ => none }
def placesMakesRow : OpenClaim := { program := "ytbpjmdemmmdnbaa", sum := "ea935bb63933603541633a0f8b625a14fd24ff4e40eb5c16a87d649a37b30728", func := "pushmill/pushlaw.PlacesMakes", spec := "placesMakes", unfollowed := true, recurses := true, loops := true, plainKeys := false, apart := false }
def PlacesMakesSaid : Prop := placesMakesRow.holds Try.pinned (OpenSpec.ofChange placesMakesSpec)

/-- ITS FALSE NEIGHBOUR: 'it returns false'. Refute it at one input. -/
def placesMakesWrong : ChangeSpec := { name := "placesMakes", fn := fun _ => fun
  | [d] => { results := [.lit (.bool false)], args := [d] }
  | _ => none }
def PlacesMakesWrongFalsely : Prop := placesMakesRow.holds Try.pinned (OpenSpec.ofChange placesMakesWrong)

/-- 'pushlaw.CountSays': WHATEVER THE INPUT: true; the input reads as it did. -/
def countSaysSpec : ChangeSpec := { name := "countSays", fn := fun _ => fun
  | [d1, d2] => { results := [.lit (.bool true)], args := [d1, d2] }
  | _ => none }
def countSaysRow : OpenClaim := { program := "ytbpjmdemmmdnbaa", sum := "ea935bb63933603541633a0f8b625a14fd24ff4e40eb5c16a87d649a37b30728", func := "pushmill/pushlaw.CountSays", spec := "countSays", unfollowed := true, recurses := true, plainKeys := false, apart := false }
def CountSaysSaid : Prop := countSaysRow.holds Try.pinned (OpenSpec.ofChange countSaysSpec)

/-- ITS FALSE NEIGHBOUR: 'it returns false'. Refute it at one input. -/
def countSaysWrong : ChangeSpec := { name := "countSays", fn := fun _ => fun
  | [d1, d2] => { results := [.lit (.bool false)], args := [d1, d2] }
  | _ => none }
def CountSaysWrongFalsely : Prop := countSaysRow.holds Try.pinned (OpenSpec.ofChange countSaysWrong)

/- THE SECOND FORM. 'bulk': how many values and letters a reading holds, each counted each time it is reached (what is shared counts as often as it is met; a slice's spare places count too). A statement '..UptoSaid' is the law's where the arguments, and the package variables that the reading takes, are together of bulk at most 1048576: NARROWER than '..Said'. Prove '..Said' where nothing that the law and all that it calls make is longer than what came in: it says more and counts as full. Else prove '..UptoSaid'. A law counts once. -/
mutual
def uptoBulk {H : Type} : DataW H → Nat
  | .lit (.string bytes) => bytes.length + 1
  | .lit _ => 1
  | .nil => 1
  | .ptr d => uptoBulk d + 1
  | .slice elems spare => uptoBulkAll elems + uptoBulkAll spare + 1
  | .agg parts => uptoBulkAll parts + 1
  | .iface _ d => uptoBulk d + 1
  | .map entries => uptoBulkEntries entries + 1
  | .held _ => 1
def uptoBulkAll {H : Type} : List (DataW H) → Nat
  | [] => 0
  | d :: r => uptoBulk d + uptoBulkAll r
def uptoBulkEntries {H : Type} : List (Lit × DataW H) → Nat
  | [] => 0
  | x :: r => uptoBulkEntry x + uptoBulkEntries r
def uptoBulkEntry {H : Type} : Lit × DataW H → Nat
  | (.string bytes, d) => bytes.length + uptoBulk d + 1
  | (_, d) => uptoBulk d + 1
 end
def uptoSmall : (H : Type) → List (DataW H) → Bool := fun _ ds => decide (uptoBulkAll ds ≤ 1048576)
def OpenSpec.upto (s : _root_.Go.ChangeSpec) : _root_.Go.OpenSpec := { _root_.Go.OpenSpec.ofChange s with cond := some uptoSmall }

/-- 'pushlaw.SmallApart', WHERE WHAT IT READS IS OF BULK AT MOST 1048576: true; the input reads as it did. -/
def smallApartUptoRow : OpenClaim := { program := "ytbpjmdemmmdnbaa", sum := "ea935bb63933603541633a0f8b625a14fd24ff4e40eb5c16a87d649a37b30728", func := "pushmill/pushlaw.SmallApart", spec := "smallApart", unfollowed := true, recurses := true, plainKeys := false, apart := false, narrowed := true }
def SmallApartUptoSaid : Prop := smallApartUptoRow.holds Try.pinned (OpenSpec.upto smallApartSpec)

/-- 'pushlaw.SmallPacks', WHERE WHAT IT READS IS OF BULK AT MOST 1048576: true; the input reads as it did. -/
def smallPacksUptoRow : OpenClaim := { program := "ytbpjmdemmmdnbaa", sum := "ea935bb63933603541633a0f8b625a14fd24ff4e40eb5c16a87d649a37b30728", func := "pushmill/pushlaw.SmallPacks", spec := "smallPacks", unfollowed := true, recurses := true, plainKeys := false, apart := false, narrowed := true }
def SmallPacksUptoSaid : Prop := smallPacksUptoRow.holds Try.pinned (OpenSpec.upto smallPacksSpec)

/-- 'pushlaw.DfaMakes', WHERE WHAT IT READS IS OF BULK AT MOST 1048576: true; the input reads as it did. -/
def dfaMakesUptoRow : OpenClaim := { program := "ytbpjmdemmmdnbaa", sum := "ea935bb63933603541633a0f8b625a14fd24ff4e40eb5c16a87d649a37b30728", func := "pushmill/pushlaw.DfaMakes", spec := "dfaMakes", unfollowed := true, recurses := true, plainKeys := false, apart := false, narrowed := true }
def DfaMakesUptoSaid : Prop := dfaMakesUptoRow.holds Try.pinned (OpenSpec.upto dfaMakesSpec)

/-- 'pushlaw.RexReads', WHERE WHAT IT READS IS OF BULK AT MOST 1048576: true; the input reads as it did. -/
def rexReadsUptoRow : OpenClaim := { program := "ytbpjmdemmmdnbaa", sum := "ea935bb63933603541633a0f8b625a14fd24ff4e40eb5c16a87d649a37b30728", func := "pushmill/pushlaw.RexReads", spec := "rexReads", inPlace := ["internal/bytealg.IndexByteString"], unfollowed := true, recurses := true, plainKeys := false, apart := false, narrowed := true }
def RexReadsUptoSaid : Prop := rexReadsUptoRow.holds Try.pinned (OpenSpec.upto rexReadsSpec)

/-- 'pushlaw.PlacesMakes', WHERE WHAT IT READS IS OF BULK AT MOST 1048576: true; the input reads as it did. -/
def placesMakesUptoRow : OpenClaim := { program := "ytbpjmdemmmdnbaa", sum := "ea935bb63933603541633a0f8b625a14fd24ff4e40eb5c16a87d649a37b30728", func := "pushmill/pushlaw.PlacesMakes", spec := "placesMakes", unfollowed := true, recurses := true, loops := true, plainKeys := false, apart := false, narrowed := true }
def PlacesMakesUptoSaid : Prop := placesMakesUptoRow.holds Try.pinned (OpenSpec.upto placesMakesSpec)

/-- 'pushlaw.CountSays', WHERE WHAT IT READS IS OF BULK AT MOST 1048576: true; the input reads as it did. -/
def countSaysUptoRow : OpenClaim := { program := "ytbpjmdemmmdnbaa", sum := "ea935bb63933603541633a0f8b625a14fd24ff4e40eb5c16a87d649a37b30728", func := "pushmill/pushlaw.CountSays", spec := "countSays", unfollowed := true, recurses := true, plainKeys := false, apart := false, narrowed := true }
def CountSaysUptoSaid : Prop := countSaysUptoRow.holds Try.pinned (OpenSpec.upto countSaysSpec)

end Rows
end Go.Proofs.Ytbpjmdemmmdnbaa
