/-
  Where a column stands among the first ones. (Plain functions; nothing of the program is claimed.)
-/
import Derived.Test.YtbpjmdemmmdnbaaPkN
namespace Go.Proofs.Ytbpjmdemmmdnbaa
set_option linter.unusedVariables false

namespace Pk
/-- Are two columns alike as far as row i? -/
def same (rows : List (List Int)) (f b i : Nat) : Bool := (List.range i).all fun j => (rows.getD j []).getD f 0 == (rows.getD j []).getD b 0
theorem same_zero (rows : List (List Int)) (f b : Nat) : same rows f b 0 = true := rfl
theorem same_succ (rows : List (List Int)) (f b i : Nat) : same rows f b (i + 1) = (same rows f b i && ((rows.getD i []).getD f 0 == (rows.getD i []).getD b 0)) := by
  unfold same; rw [List.range_succ, List.all_append]; simp
theorem same_all (rows : List (List Int)) (f b : Nat) : same rows f b rows.length = decide (col rows f = col rows b) := by
  rw [Bool.eq_iff_iff, decide_eq_true_iff, col_eq]
  unfold same
  rw [List.all_eq_true]
  exact ⟨fun h i hi => by simpa using h i (List.mem_range.2 hi), fun h i hi => by simpa using h i (List.mem_range.1 hi)⟩
theorem same_no {rows : List (List Int)} {f b i : Nat} (h : same rows f b i = false) (hi : i ≤ rows.length) : col rows f ≠ col rows b := by
  intro he
  rw [col_eq] at he
  unfold same at h
  rw [List.all_eq_false] at h
  obtain ⟨j, hj, h2⟩ := h
  exact h2 (by simpa using he j (by have := List.mem_range.1 hj; omega))
theorem place_at {rows : List (List Int)} {fs : List Nat} {b a : Nat} (ha : a < fs.length) (h1 : ∀ j, j < a → col rows (fs.getD j 0) ≠ col rows b) (h2 : col rows (fs.getD a 0) = col rows b) : place rows fs b = a := by
  unfold place
  rw [List.findIdx_eq ha]
  refine ⟨by rw [show fs[a] = fs.getD a 0 by simp [List.getD, List.getElem?_eq_getElem ha]]; simpa using h2, fun j hj => ?_⟩
  have := h1 j hj
  rw [show fs.getD j 0 = fs[j]'(by omega) by simp [List.getD, List.getElem?_eq_getElem (show j < fs.length by omega)]] at this
  simpa using this
theorem place_none {rows : List (List Int)} {fs : List Nat} {b : Nat} (h1 : ∀ j, j < fs.length → col rows (fs.getD j 0) ≠ col rows b) : place rows fs b = fs.length := by
  unfold place
  rw [List.findIdx_eq_length]
  intro x hx
  obtain ⟨j, hj, rfl⟩ := List.getElem_of_mem hx
  have := h1 j hj
  rw [show fs.getD j 0 = fs[j] by simp [List.getD, List.getElem?_eq_getElem hj]] at this
  simpa using this
end Pk
end Go.Proofs.Ytbpjmdemmmdnbaa
