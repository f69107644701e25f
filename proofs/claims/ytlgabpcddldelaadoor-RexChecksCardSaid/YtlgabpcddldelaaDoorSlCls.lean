/-
  A slice of classes that comes in. (Split out of Posn.)
-/
import Derived.Test.YtlgabpcddldelaaDoorEncOps
namespace Go.Proofs.YtlgabpcddldelaaDoor
set_option linter.unusedVariables false
open Go.ChangeShapes Go.WideShapes Go.ChangeAt Go.RowKit

/-- A slice of classes: its cells. -/
theorem slCls {bytes : Nat} {F : Nat → Prop} {w : World} {v : Value} {l : List (List Int)} (h : ((Enc.row .u64 4).sl bytes).R F w [v] l) :
    ∃ (ao : Option Addr) (b off cap : Nat), v = .slice ao l.length cap ∧ (l.length : Int) * bytes ≤ 140737488355328 ∧ (0 < l.length → ao = some ⟨b, off, none⟩ ∧ b < w.heap.size ∧ F b) ∧
      ∀ i, i < l.length → (∀ j, j < 4 → w.cell? ⟨b, off + i * 4 + j, none⟩ = some (.int .u64 ((l.getD i []).getD j 0))) ∧ (l.getD i []).length = 4 ∧ ∀ x ∈ l.getD i [], 0 ≤ x ∧ x < 18446744073709551616 := by
  obtain ⟨ao, b, off, cap, h0, h1, h2, h3⟩ := Enc.slN [] h
  refine ⟨ao, b, off, cap, h0, h1, h2, fun i hi => ?_⟩
  obtain ⟨cs, _, g2, rfl, g4, g5⟩ := h3 i hi
  refine ⟨fun j hj => ?_, g4, fun x hx => ?_⟩
  · refine (g2 j hj).trans ?_
    generalize l.getD i [] = q at g4
    have hq : q.getD j 0 = q[j]'(by omega) := by simp [List.getD, List.getElem?_eq_getElem (by omega : j < q.length)]
    rw [List.getElem?_map, List.getElem?_eq_getElem (by omega), hq]; rfl
  · have := g5 x hx
    simp [Lit.wf, IntKind.min, IntKind.max, IntKind.signed, IntKind.bits] at this
    omega
end Go.Proofs.YtlgabpcddldelaaDoor
