/-
  NARROWER THAN 'FOR EVERY INPUT', by the rows' own cells (each row's printed sentence says how): PlacesMakes: loops.
  DERIVED. THE GIVEN ROWS OF THIS SEAT. 6 by the template 'for every input the law returns true; each argument reads behind the call as it read before'; 0 by the template 'total and deterministic' (their statements: YtkhjncbjdldpbaaTotals.lean).
  GIVEN WITH THE SEED: the statements are not yours to turn. If you find one false, say at which input.
  Laid BY PROGRAM, IN A SANDBOX (cutbox-rows.mjs): the forced cells as the released guide's own fill.sh prints them over the translation 302a7c4ebf318bf9… (all of the seat's roots in one cut). By AI agents, Wed Nov 11 2026. No macro, syntax, notation, axiom, sorry.
-/
import Derived.Test.YtkhjncbjdldpbaaChecked
import GoSem.Claim
import GoSem.ClaimJoined
import GoSem.ClaimMapViews
import Derived.JoinedTies
import Derived.KernelRfl
namespace Go.Proofs.Ytkhjncbjdldpbaa
/- THE CELL 'sum', in the pinned program and in every row, IS THE sha256 OF THE DUMP (.gsa) THAT YtkhjncbjdldpbaaProg.lean LOADS. Nothing in Lean hashes anything: it is a label: what it is worth is what the hold of that sum in a sandbox is worth. -/
noncomputable def Try.pinned : Pinned := { name := "ytkhjncbjdldpbaa", sum := "302a7c4ebf318bf95ede9cfcae10b0cf19f34303350b3f715d496305f56d3cfb", checked := Try.checked }
namespace Rows
def none {H : Type} : Left H := { results := [], args := [] }

/-- 'pushlaw.CountSays': WHATEVER THE INPUT: true; the input reads as it did. -/
def countSaysSpec : ChangeSpec := { name := "countSays", fn := fun _ => fun
  | [d1, d2] => { results := [.lit (.bool true)], args := [d1, d2] }
  | _ => none }
def countSaysRow : OpenClaim := { program := "ytkhjncbjdldpbaa", sum := "302a7c4ebf318bf95ede9cfcae10b0cf19f34303350b3f715d496305f56d3cfb", func := "pushmill/pushlaw.CountSays", spec := "countSays", unfollowed := true, recurses := true, plainKeys := false, apart := false }
def CountSaysSaid : Prop := countSaysRow.holds Try.pinned (OpenSpec.ofChange countSaysSpec)

/-- ITS FALSE NEIGHBOUR: 'it returns false'. Refute it at one input. -/
def countSaysWrong : ChangeSpec := { name := "countSays", fn := fun _ => fun
  | [d1, d2] => { results := [.lit (.bool false)], args := [d1, d2] }
  | _ => none }
def CountSaysWrongFalsely : Prop := countSaysRow.holds Try.pinned (OpenSpec.ofChange countSaysWrong)

/-- 'pushlaw.SmallMakes': WHATEVER THE INPUT: true; the input reads as it did. -/
def smallMakesSpec : ChangeSpec := { name := "smallMakes", fn := fun _ => fun
  | [d] => { results := [.lit (.bool true)], args := [d] }
  | _ => none }
def smallMakesRow : OpenClaim := { program := "ytkhjncbjdldpbaa", sum := "302a7c4ebf318bf95ede9cfcae10b0cf19f34303350b3f715d496305f56d3cfb", func := "pushmill/pushlaw.SmallMakes", spec := "smallMakes", unfollowed := true, recurses := true, plainKeys := false, apart := false }
def SmallMakesSaid : Prop := smallMakesRow.holds Try.pinned (OpenSpec.ofChange smallMakesSpec)

/-- ITS FALSE NEIGHBOUR: 'it returns false'. Refute it at one input. -/
def smallMakesWrong : ChangeSpec := { name := "smallMakes", fn := fun _ => fun
  | [d] => { results := [.lit (.bool false)], args := [d] }
  | _ => none }
def SmallMakesWrongFalsely : Prop := smallMakesRow.holds Try.pinned (OpenSpec.ofChange smallMakesWrong)

/-- 'pushlaw.PlacesMakes': WHATEVER THE INPUT: true; the input reads as it did. -/
def placesMakesSpec : ChangeSpec := { name := "placesMakes", fn := fun _ => fun
  | [d] => { results := [.lit (.bool true)], args := [d] }
  | _ => none }
def placesMakesRow : OpenClaim := { program := "ytkhjncbjdldpbaa", sum := "302a7c4ebf318bf95ede9cfcae10b0cf19f34303350b3f715d496305f56d3cfb", func := "pushmill/pushlaw.PlacesMakes", spec := "placesMakes", unfollowed := true, recurses := true, loops := true, plainKeys := false, apart := false }
def PlacesMakesSaid : Prop := placesMakesRow.holds Try.pinned (OpenSpec.ofChange placesMakesSpec)

/-- ITS FALSE NEIGHBOUR: 'it returns false'. Refute it at one input. -/
def placesMakesWrong : ChangeSpec := { name := "placesMakes", fn := fun _ => fun
  | [d] => { results := [.lit (.bool false)], args := [d] }
  | _ => none }
def PlacesMakesWrongFalsely : Prop := placesMakesRow.holds Try.pinned (OpenSpec.ofChange placesMakesWrong)

/-- 'pushlaw.ItemsCloses': WHATEVER THE INPUT: true; the input reads as it did. -/
def itemsClosesSpec : ChangeSpec := { name := "itemsCloses", fn := fun _ => fun
  | [d1, d2, d3] => { results := [.lit (.bool true)], args := [d1, d2, d3] }
  | _ => none }
def itemsClosesRow : OpenClaim := { program := "ytkhjncbjdldpbaa", sum := "302a7c4ebf318bf95ede9cfcae10b0cf19f34303350b3f715d496305f56d3cfb", func := "pushmill/pushlaw.ItemsCloses", spec := "itemsCloses", unfollowed := true, recurses := true, plainKeys := false, apart := false }
def ItemsClosesSaid : Prop := itemsClosesRow.holds Try.pinned (OpenSpec.ofChange itemsClosesSpec)

/-- ITS FALSE NEIGHBOUR: 'it returns false'. Refute it at one input. -/
def itemsClosesWrong : ChangeSpec := { name := "itemsCloses", fn := fun _ => fun
  | [d1, d2, d3] => { results := [.lit (.bool false)], args := [d1, d2, d3] }
  | _ => none }
def ItemsClosesWrongFalsely : Prop := itemsClosesRow.holds Try.pinned (OpenSpec.ofChange itemsClosesWrong)

/-- 'pushlaw.ItemsAll': WHATEVER THE INPUT: true; the input reads as it did. -/
def itemsAllSpec : ChangeSpec := { name := "itemsAll", fn := fun _ => fun
  | [d] => { results := [.lit (.bool true)], args := [d] }
  | _ => none }
def itemsAllRow : OpenClaim := { program := "ytkhjncbjdldpbaa", sum := "302a7c4ebf318bf95ede9cfcae10b0cf19f34303350b3f715d496305f56d3cfb", func := "pushmill/pushlaw.ItemsAll", spec := "itemsAll", unfollowed := true, recurses := true, plainKeys := false, apart := false }
def ItemsAllSaid : Prop := itemsAllRow.holds Try.pinned (OpenSpec.ofChange itemsAllSpec)

/-- ITS FALSE NEIGHBOUR: 'it returns false'. Refute it at one input. -/
def itemsAllWrong : ChangeSpec := { name := "itemsAll", fn := fun _ => fun
  | [d] => { results := [.lit (.bool false)], args := [d] }
  | _ => none }
def ItemsAllWrongFalsely : Prop := itemsAllRow.holds Try.pinned (OpenSpec.ofChange itemsAllWrong)

/-- 'pushlaw.LrSays': WHATEVER THE INPUT: true; the input reads as it did. -/
def lrSaysSpec : ChangeSpec := { name := "lrSays", fn := fun _ => fun
  | [d] => { results := [.lit (.bool true)], args := [d] }
  | _ => none }
def lrSaysRow : OpenClaim := { program := "ytkhjncbjdldpbaa", sum := "302a7c4ebf318bf95ede9cfcae10b0cf19f34303350b3f715d496305f56d3cfb", func := "pushmill/pushlaw.LrSays", spec := "lrSays", unfollowed := true, recurses := true, plainKeys := false, apart := false }
def LrSaysSaid : Prop := lrSaysRow.holds Try.pinned (OpenSpec.ofChange lrSaysSpec)

/-- ITS FALSE NEIGHBOUR: 'it returns false'. Refute it at one input. -/
def lrSaysWrong : ChangeSpec := { name := "lrSays", fn := fun _ => fun
  | [d] => { results := [.lit (.bool false)], args := [d] }
  | _ => none }
def LrSaysWrongFalsely : Prop := lrSaysRow.holds Try.pinned (OpenSpec.ofChange lrSaysWrong)

/- THE SECOND FORM. 'bulk': how many values and letters a reading holds, each counted each time it is reached (what is shared counts as often as it is met; a slice's spare places count too). A statement '..UptoSaid' is the law's where the arguments, and the package variables that the reading takes, are together of bulk at most 1048576: NARROWER than '..Said'. Prove '..Said' where nothing that the law and all that it calls make is longer than what came in: it says more and counts as full. Else prove '..UptoSaid'. A law counts once. -/
mutual
def uptoBulk {H : Type} : DataW H → Nat
  | .lit (.string bytes) => bytes.length + 1
  | .lit _ => 1
  | .nil => 1
  | .ptr d => uptoBulk d + 1
  | .slice elems spare => uptoBulkAll elems + uptoBulkAll spare + 1
  | .agg parts => uptoBulkAll parts + 1
  | .iface _ d => uptoBulk d + 1
  | .map entries => uptoBulkEntries entries + 1
  | .held _ => 1
def uptoBulkAll {H : Type} : List (DataW H) → Nat
  | [] => 0
  | d :: r => uptoBulk d + uptoBulkAll r
def uptoBulkEntries {H : Type} : List (Lit × DataW H) → Nat
  | [] => 0
  | x :: r => uptoBulkEntry x + uptoBulkEntries r
def uptoBulkEntry {H : Type} : Lit × DataW H → Nat
  | (.string bytes, d) => bytes.length + uptoBulk d + 1
  | (_, d) => uptoBulk d + 1
 end
def uptoSmall : (H : Type) → List (DataW H) → Bool := fun _ ds => decide (uptoBulkAll ds ≤ 1048576)
def OpenSpec.upto (s : _root_.Go.ChangeSpec) : _root_.Go.OpenSpec := { _root_.Go.OpenSpec.ofChange s with cond := some uptoSmall }

/-- 'pushlaw.CountSays', WHERE WHAT IT READS IS OF BULK AT MOST 1048576: true; the input reads as it did. -/
def countSaysUptoRow : OpenClaim := { program := "ytkhjncbjdldpbaa", sum := "302a7c4ebf318bf95ede9cfcae10b0cf19f34303350b3f715d496305f56d3cfb", func := "pushmill/pushlaw.CountSays", spec := "countSays", unfollowed := true, recurses := true, plainKeys := false, apart := false, narrowed := true }
def CountSaysUptoSaid : Prop := countSaysUptoRow.holds Try.pinned (OpenSpec.upto countSaysSpec)

/-- 'pushlaw.SmallMakes', WHERE WHAT IT READS IS OF BULK AT MOST 1048576: true; the input reads as it did. -/
def smallMakesUptoRow : OpenClaim := { program := "ytkhjncbjdldpbaa", sum := "302a7c4ebf318bf95ede9cfcae10b0cf19f34303350b3f715d496305f56d3cfb", func := "pushmill/pushlaw.SmallMakes", spec := "smallMakes", unfollowed := true, recurses := true, plainKeys := false, apart := false, narrowed := true }
def SmallMakesUptoSaid : Prop := smallMakesUptoRow.holds Try.pinned (OpenSpec.upto smallMakesSpec)

/-- 'pushlaw.PlacesMakes', WHERE WHAT IT READS IS OF BULK AT MOST 1048576: true; the input reads as it did. -/
def placesMakesUptoRow : OpenClaim := { program := "ytkhjncbjdldpbaa", sum := "302a7c4ebf318bf95ede9cfcae10b0cf19f34303350b3f715d496305f56d3cfb", func := "pushmill/pushlaw.PlacesMakes", spec := "placesMakes", unfollowed := true, recurses := true, loops := true, plainKeys := false, apart := false, narrowed := true }
def PlacesMakesUptoSaid : Prop := placesMakesUptoRow.holds Try.pinned (OpenSpec.upto placesMakesSpec)

/-- 'pushlaw.ItemsCloses', WHERE WHAT IT READS IS OF BULK AT MOST 1048576: true; the input reads as it did. -/
def itemsClosesUptoRow : OpenClaim := { program := "ytkhjncbjdldpbaa", sum := "302a7c4ebf318bf95ede9cfcae10b0cf19f34303350b3f715d496305f56d3cfb", func := "pushmill/pushlaw.ItemsCloses", spec := "itemsCloses", unfollowed := true, recurses := true, plainKeys := false, apart := false, narrowed := true }
def ItemsClosesUptoSaid : Prop := itemsClosesUptoRow.holds Try.pinned (OpenSpec.upto itemsClosesSpec)

/-- 'pushlaw.ItemsAll', WHERE WHAT IT READS IS OF BULK AT MOST 1048576: true; the input reads as it did. -/
def itemsAllUptoRow : OpenClaim := { program := "ytkhjncbjdldpbaa", sum := "302a7c4ebf318bf95ede9cfcae10b0cf19f34303350b3f715d496305f56d3cfb", func := "pushmill/pushlaw.ItemsAll", spec := "itemsAll", unfollowed := true, recurses := true, plainKeys := false, apart := false, narrowed := true }
def ItemsAllUptoSaid : Prop := itemsAllUptoRow.holds Try.pinned (OpenSpec.upto itemsAllSpec)

/-- 'pushlaw.LrSays', WHERE WHAT IT READS IS OF BULK AT MOST 1048576: true; the input reads as it did. -/
def lrSaysUptoRow : OpenClaim := { program := "ytkhjncbjdldpbaa", sum := "302a7c4ebf318bf95ede9cfcae10b0cf19f34303350b3f715d496305f56d3cfb", func := "pushmill/pushlaw.LrSays", spec := "lrSays", unfollowed := true, recurses := true, plainKeys := false, apart := false, narrowed := true }
def LrSaysUptoSaid : Prop := lrSaysUptoRow.holds Try.pinned (OpenSpec.upto lrSaysSpec)

end Rows
end Go.Proofs.Ytkhjncbjdldpbaa
