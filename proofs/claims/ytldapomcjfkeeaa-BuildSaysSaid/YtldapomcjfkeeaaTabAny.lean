/-
  Tables as they come in; the checks of tables as one.
-/
import Derived.Test.YtldapomcjfkeeaaRTable
import Derived.Test.YtldapomcjfkeeaaGramIn
namespace Go.Proofs.Ytldapomcjfkeeaa
set_option linter.unusedVariables false
open Go.ChangeShapes Go.WideShapes Go.ChangeAt Go.RowKit

def Enc.table : Enc (List (List (Int × Int)) × List (List Int)) := Enc.prod ((Enc.two.sl 16).sl 24) (((Enc.int .i64).sl 8).sl 24)
theorem table_cells {F : Nat → Prop} {w : World} {cs : Array Value} {g : List (List (Int × Int)) × List (List Int)} (h : Enc.table.R F w cs.toList g) :
    ∃ va vg, cs = #[va, vg] ∧ ((Enc.two.sl 16).sl 24).R F w [va] g.1 ∧ (((Enc.int .i64).sl 8).sl 24).R F w [vg] g.2 := by
  obtain ⟨c1, c2, e1, h1, h2⟩ := h
  have h3 := h1; have h4 := h2
  obtain ⟨_, _, _, _, rfl, _⟩ := h3
  obtain ⟨_, _, _, _, rfl, _⟩ := h4
  exact ⟨_, _, Array.toList_inj.1 e1, h1, h2⟩
theorem opens_table : Opens Try.prog 108 Enc.table := by
  have ha : Opens Try.prog 106 ((Enc.two.sl 16).sl 24) := Opens.sl Try.underlying106 (by kernel_rfl) (by decide) (by kernel_rfl) (Opens.sl Try.underlying247 (by kernel_rfl) (by decide) (by kernel_rfl) (opens_two Try.underlying248 (by kernel_rfl) rfl rfl (by kernel_rfl) (by kernel_rfl) Try.underlying3 Try.underlying3))
  have hg : Opens Try.prog 45 (((Enc.int .i64).sl 8).sl 24) := Opens.sl Try.underlying45 (by kernel_rfl) (by decide) (by kernel_rfl) (Opens.sl Try.underlying35 (by kernel_rfl) (by decide) (by kernel_rfl) (Opens.int Try.underlying3))
  show Opens _ _ (Enc.prod ((Enc.two.sl 16).sl 24) (((Enc.int .i64).sl 8).sl 24))
  exact Opens.struct Try.underlying108 (by kernel_rfl) (OpensFrom.cons rfl rfl (by kernel_rfl) ha (OpensFrom.last rfl rfl (by kernel_rfl) hg))

namespace Tb
noncomputable def all (t n : Int) (l : List (Int × List (Int × Int))) (acts : List (List (Int × Int))) (gts : List (List Int)) : Int := if Gr.err t n l ≠ 0 then Gr.err t n l else Tb.err t n l.length acts gts
end Tb
theorem lrCheck_any (t n : Int) (vp va vg : Value) (l : List (Int × List (Int × Int))) (acts : List (List (Int × Int))) (gts : List (List Int)) (w : World) (F : Nat → Prop) (hF : ∀ b, F b → b < w.heap.size) (h : Enc.prods.R F w [vp] l)
    (ha : ((Enc.two.sl 16).sl 24).R F w [va] acts) (hg : (((Enc.int .i64).sl 8).sl 24).R F w [vg] gts) :
    Calls Try.prog 151 #[.agg #[.int .i64 t, .int .i64 n, vp], .agg #[va, vg]] w fun e w' => e = .returned (.int .i64 (Tb.all t n l acts gts)) ∧ Below w.heap.size w w' := by
  by_cases he : Gr.err t n l = 0
  · rw [Tb.all, if_neg (by simp [he])]; exact lrCheck_ok t n vp va vg l acts gts w F hF h he ha hg
  · rw [Tb.all, if_pos he]; exact lrCheck_gram t n vp va vg l w F hF h he
theorem rtable_any (t n : Int) (vp va vg : Value) (l : List (Int × List (Int × Int))) (acts : List (List (Int × Int))) (gts : List (List Int)) (w : World) (F : Nat → Prop) (hF : ∀ b, F b → b < w.heap.size) (h : Enc.prods.R F w [vp] l)
    (ha : ((Enc.two.sl 16).sl 24).R F w [va] acts) (hg : (((Enc.int .i64).sl 8).sl 24).R F w [vg] gts) :
    Calls Try.prog 120 #[.agg #[.int .i64 t, .int .i64 n, vp], .agg #[va, vg]] w fun e w' => e = .returned (.int .i64 (Tb.all t n l acts gts)) ∧ Below w.heap.size w w' := by
  by_cases he : Gr.err t n l = 0
  · rw [Tb.all, if_neg (by simp [he])]; exact rtable_ok t n vp va vg l acts gts w F hF h he ha hg
  · rw [Tb.all, if_pos he]; exact rtable_gram t n vp va vg l w F hF h he
attribute [irreducible] Tb.all

end Go.Proofs.Ytldapomcjfkeeaa
