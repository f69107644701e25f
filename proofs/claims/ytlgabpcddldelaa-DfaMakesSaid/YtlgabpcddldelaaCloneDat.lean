/-
  slices.Clone of a slice of ints that reads as a list: a new slice of the same numbers. And what the call itself has made, read as a slice that came in.
-/
import Derived.Test.YtlgabpcddldelaaDfaDat
import Derived.Lib.BufferMore
namespace Go.Proofs.Ytlgabpcddldelaa
open Go.ChangeShapes Go.WideShapes Go.ChangeAt Go.RowKit

/-- What the call itself has made reads as the list. -/
theorem Own.sl {w : World} {B : Nat} {e : TypeId} {v : Value} {k : IntKind} {xs : List Int} (h : Own w B e 1 v (xs.map (Value.int k))) (hw : ∀ x ∈ xs, (Lit.int k x).wf = true) : Sl w 1 (RInt k) v xs := by
  have hr := h
  unfold Own at hr
  rw [cellsOf_ints, List.length_map] at hr
  rcases hr.2 with ⟨h1, h2⟩ | ⟨g, cap, cur, rfl, hB, hg, hn, hc, hcs, htk⟩
  · have : xs = [] := List.eq_nil_of_length_eq_zero h2
    subst this
    exact ⟨none, 0, 0, 0, h1, Nat.le_refl _, by decide, fun h => by simp at h, fun i hi => by simp at hi⟩
  · refine ⟨some ⟨g, 0, none⟩, g, 0, cap, rfl, hn, hc, fun _ => ⟨rfl, (Array.getElem?_eq_some_iff.1 hg).1⟩, fun i hi => ⟨[.int k xs[i]], rfl, fun j hj => ?_, rfl, hw _ (List.getElem_mem hi)⟩⟩
    obtain rfl : j = 0 := by omega
    have := hr.cellAt i (by omega)
    simp only [Nat.zero_add, Nat.mul_one, Nat.add_zero]
    rw [this]
    simp [hi]
end Go.Proofs.Ytlgabpcddldelaa
