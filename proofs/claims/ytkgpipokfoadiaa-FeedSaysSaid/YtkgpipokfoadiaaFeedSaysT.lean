/-
  The walk of the law FeedSays, for what is handed in.
-/
import Derived.Test.YtkgpipokfoadiaaFeedSaysW
namespace Go.Proofs.Ytkgpipokfoadiaa
set_option linter.unusedVariables false
open Go.ChangeShapes Go.WideShapes Go.ChangeAt Go.RowKit

def Enc.held : Enc (Int × ByteArray × Int) := Enc.prod (Enc.int .i64) (Enc.prod Enc.str (Enc.int .i64))
theorem opens_held : Opens Try.prog 105 Enc.held := by
  show Opens _ _ (Enc.prod (Enc.int .i64) (Enc.prod Enc.str (Enc.int .i64)))
  exact Opens.struct Try.underlying105 (by kernel_rfl) (OpensFrom.cons rfl rfl (by kernel_rfl) (Opens.int Try.underlying3) (OpensFrom.cons rfl rfl (by kernel_rfl) (Opens.str Try.underlying9) (OpensFrom.last rfl rfl (by kernel_rfl) (Opens.int Try.underlying29))))

theorem feedSays_walk (A : Array Value) (of : List Int) (next : List (List Int)) (tags : List Int) (vn vt : Value) (cs : Array Value) (h : Int × ByteArray × Int) (s : ByteArray) (hs : s.size ≤ 140737488355328) (w : World) (hp : PackedAt w A of next tags vn vt) (hh : Rd Enc.held (fun b => b < w.heap.size) w (.agg cs) h) (hcs : (Value.agg cs).cells.toList = cs.toList) :
    Calls Try.prog 11 #[.agg A, .agg cs, .string s] w fun e w' => e = .returned (.bool true) ∧ Below w.heap.size w w' := by
  unfold Rd at hh
  rw [hcs] at hh
  obtain ⟨at_, buf, over⟩ := h
  obtain ⟨x1, x2, e1, ⟨rfl, h1⟩, x3, x4, e2, ⟨rfl, h2⟩, ⟨rfl, h3⟩⟩ := hh
  subst e2
  obtain rfl : cs = #[.int .i64 at_, .string buf, .int .i64 over] := Array.toList_inj.1 e1
  by_cases he : Fd.err of next tags at_ buf.size over = 0
  · obtain rfl : over = 0 := (Fd.err_zero he).2.2.2.2.2
    by_cases hl : 2000 < s.size
    · exact feedSays_long A of next tags vn vt at_ buf s hs w hp he hl
    · exact feedSays_ok A of next tags vn vt at_ buf s hs w hp he hl
  · exact feedSays_bad A of next tags vn vt at_ buf over s hs w hp he
end Go.Proofs.Ytkgpipokfoadiaa
