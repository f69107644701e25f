/-
  A grammar and a table that come in.
-/
import Derived.Test.YtldapomcjfkeeaaGram
namespace Go.Proofs.Ytldapomcjfkeeaa
set_option linter.unusedVariables false
open Go.ChangeShapes Go.WideShapes Go.ChangeAt Go.RowKit

def Enc.gram : Enc (Int × Int × List (Int × List (Int × Int))) := Enc.prod (Enc.int .i64) (Enc.prod (Enc.int .i64) Enc.prods)
theorem gram_cells {F : Nat → Prop} {w : World} {cs : Array Value} {g : Int × Int × List (Int × List (Int × Int))} (h : Enc.gram.R F w cs.toList g) :
    ∃ vp, cs = #[.int .i64 g.1, .int .i64 g.2.1, vp] ∧ Enc.prods.R F w [vp] g.2.2 ∧ (-9223372036854775808 ≤ g.1 ∧ g.1 ≤ 9223372036854775807) ∧ (-9223372036854775808 ≤ g.2.1 ∧ g.2.1 ≤ 9223372036854775807) := by
  obtain ⟨c1, c2, e1, ⟨rfl, h1⟩, c3, c4, e2, ⟨rfl, h2⟩, h3⟩ := h
  have h4 := h3
  obtain ⟨ao, b, off, cap, rfl, _⟩ := h4
  subst e2
  exact ⟨_, Array.toList_inj.1 e1, h3, wf64 h1, wf64 h2⟩
theorem opens_gram : Opens Try.prog 68 Enc.gram := by
  have hp : Opens Try.prog 66 Enc.prods := opens_prods (sb := 0) Try.underlying66 Try.underlying186 Try.underlying84 Try.underlying96 (by kernel_rfl) (by kernel_rfl) rfl rfl (by kernel_rfl) (by kernel_rfl) Try.underlying3 (by kernel_rfl) (by kernel_rfl) rfl rfl (by kernel_rfl) (by kernel_rfl) Try.underlying3 Try.underlying3
  show Opens _ _ (Enc.prod (Enc.int .i64) (Enc.prod (Enc.int .i64) Enc.prods))
  exact Opens.struct Try.underlying68 (by kernel_rfl) (OpensFrom.cons rfl rfl (by kernel_rfl) (Opens.int Try.underlying3) (OpensFrom.cons rfl rfl (by kernel_rfl) (Opens.int Try.underlying3) (OpensFrom.last rfl rfl (by kernel_rfl) hp)))
end Go.Proofs.Ytldapomcjfkeeaa
