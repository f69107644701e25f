/-
  A class laid at a place of an own slice of classes.
-/
import Derived.Test.YtlgabpcddldelaaDoorClsMap
import Derived.Test.YtlgabpcddldelaaDoorOwnSet
namespace Go.Proofs.YtlgabpcddldelaaDoor
set_option linter.unusedVariables false
set_option linter.unusedSimpArgs false
open Go.ChangeShapes Go.WideShapes Go.ChangeAt Go.RowKit

namespace Cp
theorem set_flat {α β : Type} {f : α → List β} {a : α} {x0 x1 x2 x3 : β} (ha : f a = [x0, x1, x2, x3]) : ∀ (l : List α) (k : Nat), k < l.length → (∀ x ∈ l, (f x).length = 4) → ((((l.flatMap f).set (k * 4) x0).set (k * 4 + 1) x1).set (k * 4 + 2) x2).set (k * 4 + 3) x3 = (l.set k a).flatMap f
  | [], k, h, _ => absurd h (by simp)
  | y :: l, 0, _, h => by
    obtain ⟨y0, y1, y2, y3, hy⟩ : ∃ y0 y1 y2 y3, f y = [y0, y1, y2, y3] := by
      have := h y (.head _)
      match f y, this with
      | [y0, y1, y2, y3], _ => exact ⟨y0, y1, y2, y3, rfl⟩
    simp [hy, ha]
  | y :: l, k + 1, hk, h => by
    obtain ⟨y0, y1, y2, y3, hy⟩ : ∃ y0 y1 y2 y3, f y = [y0, y1, y2, y3] := by
      have := h y (.head _)
      match f y, this with
      | [y0, y1, y2, y3], _ => exact ⟨y0, y1, y2, y3, rfl⟩
    have ih := set_flat ha l k (by simpa using hk) (fun x hx => h x (.tail _ hx))
    rw [List.set_cons_succ, List.flatMap_cons, List.flatMap_cons, hy, ← ih]
    rw [show (k + 1) * 4 = k * 4 + 4 by omega]
    rfl
theorem own_set {w : World} {B : Nat} {e : TypeId} {g n cap : Nat} {l : List (List Nat)} (hl : ∀ p ∈ l, Dm.Ok4 p) (h : Own w B e 4 (.slice (some ⟨g, 0, none⟩) n cap) (l.map Cs.clV)) (k : Nat) (hk : k < l.length) (a0 a1 a2 a3 : Nat) :
    Own ((((w.setCell ⟨g, k * 4, none⟩ (.int .u64 a0)).setCell ⟨g, k * 4 + 1, none⟩ (.int .u64 a1)).setCell ⟨g, k * 4 + 2, none⟩ (.int .u64 a2)).setCell ⟨g, k * 4 + 3, none⟩ (.int .u64 a3)) B e 4 (.slice (some ⟨g, 0, none⟩) n cap) ((l.set k [a0, a1, a2, a3]).map Cs.clV) := by
  have e1 : ∀ m : List (List Nat), cellsOf (m.map Cs.clV) = m.flatMap fun p => p.map Cs.wV := fun m => by
    induction m with
    | nil => rfl
    | cons a m ih =>
      rw [List.flatMap_cons, ← ih]
      simp [cellsOf, Cs.clV, Cs.clA, Value.cells]
  have e2 := set_flat (f := fun p : List Nat => p.map Cs.wV) (a := [a0, a1, a2, a3]) rfl l k hk (fun x hx => by rw [List.length_map]; exact (hl x hx).len)
  unfold Own at h ⊢
  rw [e1, List.length_map] at h ⊢
  rw [List.length_set, ← e2]
  obtain ⟨h1, h2⟩ := h
  refine ⟨by simpa using h1, ?_⟩
  rcases h2 with ⟨h2, _⟩ | ⟨g', cap', cur, hv, hB, hg, hn, hc, hcs, htk⟩
  · cases h2
  · simp only [Value.slice.injEq, Option.some.injEq, Addr.mk.injEq] at hv
    obtain ⟨⟨rfl, _⟩, rfl, rfl⟩ := hv
    refine .inr ⟨g, cap, _, rfl, hB, heap_setCell_same _ _ _ _ _ _ (heap_setCell_same _ _ _ _ _ _ (heap_setCell_same _ _ _ _ _ _ (heap_setCell_same _ _ _ _ _ _ hg))), hn, hc, by simpa using hcs, ?_⟩
    simp only [Array.toList_setIfInBounds, List.take_set, htk]
    rfl
end Cp
theorem St.setOwn4 {w0 w : World} {μ : List Asrt} {e : TypeId} {g n cap : Nat} {l : List (List Nat)} (hl : ∀ p ∈ l, Dm.Ok4 p) (h : St w0 w (aOwn e 4 (.slice (some ⟨g, 0, none⟩) n cap) (l.map Cs.clV) :: μ)) (k : Nat) (hk : k < l.length) (a0 a1 a2 a3 : Nat) :
    St w0 ((((w.setCell ⟨g, k * 4, none⟩ (.int .u64 a0)).setCell ⟨g, k * 4 + 1, none⟩ (.int .u64 a1)).setCell ⟨g, k * 4 + 2, none⟩ (.int .u64 a2)).setCell ⟨g, k * 4 + 3, none⟩ (.int .u64 a3)) (aOwn e 4 (.slice (some ⟨g, 0, none⟩) n cap) ((l.set k [a0, a1, a2, a3]).map Cs.clV) :: μ) := by
  refine h.upd rfl rfl rfl (by simp) (fun b hb hm => ?_) (Cp.own_set hl (h.ok _ (.head _)) k hk a0 a1 a2 a3) (fun b hb => .inl hb) (by simp [aOwn, Value.ownBlock])
  have hne : ¬ b = g := fun e => hm (by simp [aOwn, Value.ownBlock, e])
  rw [heap_setCell_other _ _ _ _ hne, heap_setCell_other _ _ _ _ hne, heap_setCell_other _ _ _ _ hne, heap_setCell_other _ _ _ _ hne]
end Go.Proofs.YtlgabpcddldelaaDoor
