/-
  A slice that the call made: one of its elements is stored anew.
-/
import Derived.Test.YtlgabpcddldelaaDoorMem
namespace Go.Proofs.YtlgabpcddldelaaDoor
set_option linter.unusedVariables false
open Go.ChangeShapes Go.WideShapes Go.ChangeAt Go.RowKit

theorem cellsOf_one {α : Type} (f : α → Value) (hf : ∀ a, (f a).cells = #[f a]) (l : List α) : cellsOf (l.map f) = l.map f := by
  induction l with
  | nil => rfl
  | cons a l ih => simpa [cellsOf, hf] using ih

theorem Own.set {α : Type} {f : α → Value} (hf : ∀ a, (f a).cells = #[f a]) {w : World} {B : Nat} {e : TypeId} {g n cap : Nat} {l : List α} (h : Own w B e 1 (.slice (some ⟨g, 0, none⟩) n cap) (l.map f)) (q : Nat) (a : α) :
    Own (w.setCell ⟨g, q, none⟩ (f a)) B e 1 (.slice (some ⟨g, 0, none⟩) n cap) ((l.set q a).map f) := by
  unfold Own at h ⊢
  rw [cellsOf_one f hf, List.length_map] at h ⊢
  rw [List.length_set]
  obtain ⟨h1, h2⟩ := h
  refine ⟨by simp, ?_⟩
  rcases h2 with ⟨h2, _⟩ | ⟨g', cap', cur, hv, hB, hg, hn, hc, hcs, htk⟩
  · cases h2
  · simp only [Value.slice.injEq, Option.some.injEq, Addr.mk.injEq] at hv
    obtain ⟨⟨rfl, _⟩, rfl, rfl⟩ := hv
    refine .inr ⟨g, cap, cur.setIfInBounds q (f a), rfl, hB, heap_setCell_same _ _ _ _ _ _ hg, hn, hc, by simpa using hcs, ?_⟩
    rw [Array.toList_setIfInBounds, List.take_set, htk, List.map_set]

theorem Own.cellAt {α : Type} {f : α → Value} (hf : ∀ a, (f a).cells = #[f a]) {w : World} {B : Nat} {e : TypeId} {g n cap : Nat} {l : List α} (h : Own w B e 1 (.slice (some ⟨g, 0, none⟩) n cap) (l.map f)) (i : Nat) (hi : i < l.length) (d : α) :
    w.cell? ⟨g, i, none⟩ = some (f (l.getD i d)) ∧ w.frozen? ⟨g, i, none⟩ = false ∧ B ≤ g ∧ g < w.heap.size := by
  have hr := h
  unfold Own at hr
  rw [cellsOf_one f hf, List.length_map] at hr
  have h1 := World.ownsRow.cellAt (g := g) (cap := cap) (n := l.length) (by
    rcases hr.2 with ⟨h2, _⟩ | ⟨g', cap', cur, hv, r⟩
    · cases h2
    · simp only [Value.slice.injEq, Option.some.injEq, Addr.mk.injEq] at hv
      obtain ⟨⟨rfl, _⟩, rfl, rfl⟩ := hv
      exact hr) i (by omega)
  refine ⟨by rw [h1]; simp [List.getD, List.getElem?_eq_getElem hi], ?_, ?_⟩
  · rcases hr.2 with ⟨h2, _⟩ | ⟨g', cap', cur, hv, hB, hg, _⟩
    · cases h2
    · simp only [Value.slice.injEq, Option.some.injEq, Addr.mk.injEq] at hv
      obtain ⟨⟨rfl, _⟩, rfl, rfl⟩ := hv
      exact frozen_of_row _ _ _ _ _ hg
  · exact h.lt g rfl
end Go.Proofs.YtlgabpcddldelaaDoor
