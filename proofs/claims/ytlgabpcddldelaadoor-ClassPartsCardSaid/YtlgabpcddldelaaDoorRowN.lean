/-
  A slice whose elements of several cells read as a list. (Split out of LlEq.)
-/
import Derived.Test.YtlgabpcddldelaaDoorSep
import Derived.Test.YtlgabpcddldelaaDoorMem
namespace Go.Proofs.YtlgabpcddldelaaDoor
set_option linter.unusedVariables false
open Go.ChangeShapes Go.WideShapes Go.ChangeAt Go.RowKit

/-- A slice whose elements of 'size' cells read as a list. -/
def RowN {α : Type} (f : α → Value) (size : Nat) (d : α) (w : World) (v : Value) (l : List α) : Prop :=
  ∃ (a : Option Addr) (b o c : Nat), v = .slice a l.length c ∧ (l.length : Int) ≤ 140737488355328 ∧ (0 < l.length → a = some ⟨b, o, none⟩) ∧ ∀ k, k < l.length → ∀ j, j < size → w.cell? ⟨b, o + k * size + j, none⟩ = (f (l.getD k d)).cells[j]?
theorem RowN.nil {α : Type} {f : α → Value} {size : Nat} {d : α} {w : World} : RowN f size d w (.slice none 0 0) [] := ⟨none, 0, 0, 0, rfl, by simp, fun h => by simp at h, fun k h => by simp at h⟩
theorem Own.rowN {α : Type} {f : α → Value} {size : Nat} (hf : ∀ a, (f a).cells.size = size) (d : α) {w : World} {B : Nat} {e : TypeId} {v : Value} {l : List α} (h : Own w B e size v (l.map f)) (hl : (l.length : Int) ≤ 140737488355328) : RowN f size d w v l := by
  have hsz : ∀ u ∈ l.map f, u.cells.size = size := by
    intro u hu
    obtain ⟨y, hy, rfl⟩ := List.mem_map.1 hu
    exact hf y
  rcases h.shape with ⟨h1, h2⟩ | ⟨g, cap, h1, _⟩
  · have : l = [] := by simpa using h2
    subst this; subst h1
    exact RowN.nil
  · rw [List.length_map] at h1
    subst h1
    refine ⟨_, g, 0, cap, rfl, hl, fun _ => rfl, fun k hk j hj => ?_⟩
    have hr := h
    unfold Own at hr
    rw [List.length_map] at hr
    have hlt : k * size + j < l.length * size := by
      have : (k + 1) * size ≤ l.length * size := Nat.mul_le_mul_right _ hk
      rw [Nat.add_mul] at this; omega
    have h2 := hr.cellAt (k * size + j) hlt
    have h3 := cellsOf_get hsz k (by rw [List.length_map]; exact hk) j hj
    rw [List.getElem_map] at h3
    rw [Nat.zero_add, h2, h3]
    simp [List.getD, List.getElem?_eq_getElem hk]
theorem RowN.below {α : Type} {f : α → Value} {size : Nat} {d : α} {w w' : World} {v : Value} {l : List α} (h : RowN f size d w v l) (hf : ∀ a, (f a).cells.size = size) (hb : Below w.heap.size w w') : RowN f size d w' v l := by
  obtain ⟨a, b, o, c, h1, h2, h3, h4⟩ := h
  refine ⟨a, b, o, c, h1, h2, h3, fun k hk j hj => ?_⟩
  have h5 := h4 k hk j hj
  rw [Array.getElem?_eq_getElem (by rw [hf]; exact hj)] at h5 ⊢
  exact bkeep hb h5
end Go.Proofs.YtlgabpcddldelaaDoor
