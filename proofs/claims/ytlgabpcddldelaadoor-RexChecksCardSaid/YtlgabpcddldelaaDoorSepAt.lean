/-
  What the call owns, by its place in the list. (A helper text; it claims nothing of the program.)
-/
import Derived.Test.YtlgabpcddldelaaDoorSepRd
namespace Go.Proofs.YtlgabpcddldelaaDoor
set_option linter.unusedVariables false
open Go.ChangeShapes Go.WideShapes Go.ChangeAt Go.RowKit

section
variable {w0 w : World} {μ : List Asrt}
theorem St.cel2 {g : Nat} {T : TypeId} {v0 v1 : Value} (h : St w0 w (aCel g T #[v0, v1] :: μ)) : w.cell? ⟨g, 0, none⟩ = some v0 ∧ w.cell? ⟨g, 1, none⟩ = some v1 := ⟨h.celAt rfl, h.celAt rfl⟩
/-- The i-th assertion. -/
theorem St.nth {A : Asrt} (h : St w0 w μ) (i : Nat) (hA : μ[i]? = some A) : St w0 w [A] := h.one' (List.mem_of_getElem? hA)
theorem St.at3 {g : Nat} {T : TypeId} {v0 v1 v2 : Value} (h : St w0 w μ) (i : Nat) (hA : μ[i]? = some (aCel g T #[v0, v1, v2])) : w.cell? ⟨g, 0, none⟩ = some v0 ∧ w.cell? ⟨g, 1, none⟩ = some v1 ∧ w.cell? ⟨g, 2, none⟩ = some v2 := by
  have := (h.nth i hA).cel3
  exact ⟨this.1, this.2.1, this.2.2.1⟩
theorem St.at2 {g : Nat} {T : TypeId} {v0 v1 : Value} (h : St w0 w μ) (i : Nat) (hA : μ[i]? = some (aCel g T #[v0, v1])) : w.cell? ⟨g, 0, none⟩ = some v0 ∧ w.cell? ⟨g, 1, none⟩ = some v1 := (h.nth i hA).cel2
theorem St.heapAt {g : Nat} {T : TypeId} {cs : Array Value} (h : St w0 w μ) (i : Nat) (hA : μ[i]? = some (aCel g T cs)) : w.heap[g]? = some (.cells cs T (0, 0)) := (h.nth i hA).ok _ (.head _)
theorem St.ownAt {e : TypeId} {size : Nat} {v : Value} {xs : List Value} (h : St w0 w μ) (i : Nat) (hA : μ[i]? = some (aOwn e size v xs)) : Own w w0.heap.size e size v xs := (h.nth i hA).own
end
end Go.Proofs.YtlgabpcddldelaaDoor
