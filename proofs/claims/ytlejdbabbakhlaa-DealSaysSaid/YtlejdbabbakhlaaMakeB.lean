/-
  make([]bool, n): a slice that the call made.
-/
import Derived.Test.YtlejdbabbakhlaaOwnSet
import Derived.Deep.OwnRows
import Derived.Test.YtlejdbabbakhlaaRead
namespace Go.Proofs.Ytlejdbabbakhlaa
open Go.ChangeShapes Go.WideShapes Go.ChangeAt Go.RowKit

theorem own_made (w : World) (e : TypeId) (n : Nat) (hn : n ≤ maxLen) : Own (w.alloc (.cells (madeCells #[.bool false] n) e)) w.heap.size e 1 (.slice (some ⟨w.heap.size, 0, none⟩) n n) ((List.replicate n false).map Value.bool) := by
  unfold Own
  rw [cellsOf_one Value.bool (fun _ => rfl), List.length_map, List.length_replicate]
  refine ⟨by simp, .inr ⟨w.heap.size, n, madeCells #[.bool false] n, rfl, Nat.le_refl _, heap_alloc_new _ _, Nat.le_refl _, hn, ?_, ?_⟩⟩
  · simp [madeCells]
  · simp only [madeCells, Array.toList_map, Array.toList_range, Nat.mul_one]
    rw [List.take_of_length_le (by simp)]
    apply List.ext_getElem (by simp)
    intro i h1 h2
    simp [Nat.mod_one]

theorem makeBools {P : Program} {ops : Array Oper} {rest : List Oper} {o : Oper} {a : Act} {w : World} {Q : Exit → Act → World → Prop} {t e : TypeId} (hgd : o.guard = none) (l : Operand) (hop : o.op = Op.makeSlice t l l)
    (ht : P.underlying t = some (.slice e)) (hi : (P.info? e).map (fun i => (i.zero, i.size, i.bytes)) = some (some (.bool false), 1, 1)) (n : Nat) (hl : a.eval l = .int .i64 (n : Int)) (hn : (n : Int) ≤ 1048576)
    (hK : wpList P ops Q rest (a.put o.dst (.slice (some ⟨w.heap.size, 0, none⟩) n n)) (w.alloc (.cells (madeCells #[.bool false] n) e))) : wpList P ops Q (o :: rest) a w := by
  obtain ⟨i, h1, h2, h3, h4⟩ := info_parts hi
  exact wpList_make_row w hgd l l t hop e i (.bool false) ht h1 h2 h3 rfl .i64 .i64 n hl hl (by rw [h4]; omega) (by omega) hK

/-- A store into another block. -/
theorem Own.setOther {w : World} {B : Nat} {e : TypeId} {size : Nat} {v : Value} {xs : List Value} (h : Own w B e size v xs) {a : Addr} (ha : v.ownBlock ≠ some a.block) (u : Value) : Own (w.setCell a u) B e size v xs := by
  refine ⟨h.1, ?_⟩
  rcases h.2 with h2 | ⟨g, cap, cur, rfl, hB, hg, hn, hc, hcs, htk⟩
  · exact .inl h2
  · refine .inr ⟨g, cap, cur, rfl, hB, ?_, hn, hc, hcs, htk⟩
    rw [heap_setCell_other _ _ _ _ (fun e => ha (by rw [← e]; rfl))]
    exact hg

/-- What the call itself has made reads as the list. -/
theorem Own.slBool {w : World} {B : Nat} {e : TypeId} {v : Value} {l : List Bool} (h : Own w B e 1 v (l.map Value.bool)) : Sl w 1 RBool v l := by
  have hr := h
  unfold Own at hr
  rw [cellsOf_one Value.bool (fun _ => rfl), List.length_map] at hr
  rcases hr.2 with ⟨h1, h2⟩ | ⟨g, cap, cur, rfl, hB, hg, hn, hc, hcs, htk⟩
  · have : l = [] := List.eq_nil_of_length_eq_zero h2
    subst this
    exact ⟨none, 0, 0, 0, h1, Nat.le_refl _, by decide, fun h => by simp at h, fun i hi => by simp at hi⟩
  · refine ⟨some ⟨g, 0, none⟩, g, 0, cap, rfl, hn, hc, fun _ => ⟨rfl, (Array.getElem?_eq_some_iff.1 hg).1⟩, fun i hi => ⟨[.bool l[i]], rfl, fun j hj => ?_, rfl⟩⟩
    obtain rfl : j = 0 := by omega
    have := hr.cellAt i (by omega)
    simp only [Nat.zero_add, Nat.mul_one, Nat.add_zero]
    rw [this]
    simp [hi]
end Go.Proofs.Ytlejdbabbakhlaa
