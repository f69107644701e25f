/-
  Rows of an automaton: []T{x} of one array, a slice of rows as a list. (A helper text; it claims nothing of the program.)
-/
import Derived.Test.YtlgabpcddldelaaSepRow
import Derived.Great.BuildSlice
namespace Go.Proofs.Ytlgabpcddldelaa
set_option linter.unusedVariables false
open Go.ChangeShapes Go.WideShapes Go.ChangeAt Go.RowKit

theorem buildOne {P : Program} {ops : Array Oper} {rest : List Oper} {o : Oper} {a : Act} {w : World} {Q : Exit → Act → World → Prop} {t e : TypeId} {size bytes : Nat} (E : ET P t e size bytes) (hg : o.guard = none) (x : Operand) (ho : o.op = .buildSlice t 1 #[(0, x)])
    (A : Array Value) (hx : a.eval x = .agg A) (hA : A.size = size) (hsm : size ≤ 16777216)
    (h : wpList P ops Q rest (a.put o.dst (.slice (some ⟨w.heap.size, 0, none⟩) 1 1)) (w.alloc (.cells A e))) : wpList P ops Q (o :: rest) a w := by
  obtain ⟨ht, ⟨i, z, hi, hz, hsize, hby, hzs⟩, hp⟩ := E
  refine wpList_buildSlice hg t e 1 _ ho A i z ht hi hz (by rw [hsize]; omega) (by rw [hsize]; omega) ?_ h
  have := Great.fill_whole hp [Value.agg A] ((Array.range (1 * size)).map (z.cells[· % z.cells.size]!)) (fun v hv => by simp at hv; subst hv; exact hA) (by simp)
  rw [hsize]
  simp only [List.map_toArray, List.map_cons, List.map_nil, hx]
  simpa [Value.cells] using this

theorem Own.isSlice {w : World} {B : Nat} {e : TypeId} {size : Nat} {v : Value} {xs : List Value} (h : Own w B e size v xs) : ∃ ao n cap, v = .slice ao n cap := by
  rcases h.shape with ⟨h1, _⟩ | ⟨g, cap, h1, _⟩
  · exact ⟨_, _, _, h1⟩
  · exact ⟨_, _, _, h1⟩

theorem rowE : ET Try.prog 28 96 256 512 := ET.mk' Try.underlying28 (z := .agg Try.zeroCells96) (by kernel_rfl) (by kernel_rfl) (by decide)

theorem flat_get {α β : Type} (f : α → List β) (m : Nat) : ∀ (L : List α), (∀ a ∈ L, (f a).length = m) → ∀ (i : Nat) (h : i < L.length) (j : Nat), j < m → (L.flatMap f)[i * m + j]? = (f L[i])[j]?
  | [], _, i, h, _, _ => by simp at h
  | a :: L, hl, 0, _, j, hj => by
    have := hl a (by simp)
    rw [List.flatMap_cons, Nat.zero_mul, Nat.zero_add, List.getElem?_append_left (by omega)]
    rfl
  | a :: L, hl, i + 1, h, j, hj => by
    have h1 := hl a (by simp)
    have e : (i + 1) * m + j = m + (i * m + j) := by rw [Nat.succ_mul]; omega
    rw [List.flatMap_cons, e, List.getElem?_append_right (by omega), h1, Nat.add_sub_cancel_left]
    exact flat_get f m L (fun b hb => hl b (by simp [hb])) i (by simpa using h) j hj

theorem Sl.wf {w : World} {k : IntKind} {v : Value} {l : List Int} (h : Sl w 1 (RInt k) v l) : ∀ x ∈ l, (Lit.int k x).wf = true := by
  obtain ⟨ao, b, off, cap, _, _, _, _, h4⟩ := h
  intro x hx
  obtain ⟨i, hi, rfl⟩ := List.getElem_of_mem hx
  obtain ⟨cs, _, _, _, h7⟩ := h4 i hi
  exact h7

/-- The same at a step of a region that draws its order. -/
theorem stepOne {P : Program} {ops : Array Oper} {o : Oper} {a : Act} {w : World} {K : Act → World → Prop} {Q : Exit → Act → World → Prop} {EE : Prop} {t e : TypeId} {size bytes : Nat} (E : ET P t e size bytes) (hgd : o.guard = none) (x : Operand) (ho : o.op = .buildSlice t 1 #[(0, x)])
    (A : Array Value) (hx : a.eval x = .agg A) (hA : A.size = size) (hsm : size ≤ 16777216)
    (h : K (a.put o.dst (.slice (some ⟨w.heap.size, 0, none⟩) 1 1)) (w.alloc (.cells A e))) : if Region.wanted o (yielded ops a.tmps) = true then Oper.wp P o a w K Q else EE := by
  have hw : Region.wanted o (yielded ops a.tmps) = true := by simp [Region.wanted, hgd]
  rw [if_pos hw]
  obtain ⟨ht, ⟨i, z, hi, hz, hsize, hby, hzs⟩, hp⟩ := E
  refine wp_buildSlice t e 1 _ ho A i z ht hi hz (by rw [hsize]; omega) (by rw [hsize]; omega) ?_ h
  have := Great.fill_whole hp [Value.agg A] ((Array.range (1 * size)).map (z.cells[· % z.cells.size]!)) (fun v hv => by simp at hv; subst hv; exact hA) (by simp)
  rw [hsize]
  simp only [List.map_toArray, List.map_cons, List.map_nil, hx]
  simpa [Value.cells] using this

theorem Own.one {w : World} {g : Nat} {e : TypeId} {size : Nat} {u : Value} (h : w.heap[g]? = some (.cells u.cells e (0, 0))) (hs : u.cells.size = size) : Own w 0 e size (.slice (some ⟨g, 0, none⟩) 1 1) [u] := by
  refine ⟨by simp [cellsOf, hs], .inr ⟨g, 1, u.cells, rfl, Nat.zero_le _, h, Nat.le_refl _, by decide, by simp [hs], ?_⟩⟩
  simp [cellsOf]
  exact List.take_of_length_le (by rw [Array.length_toList]; omega)

namespace Wd
def rowV (r : List Int) : Value := .agg (r.map (Value.int .i16)).toArray
theorem flat (L : List (List Int)) : cellsOf (L.map rowV) = L.flatMap (fun r => r.map (Value.int .i16)) := by
  induction L with
  | nil => rfl
  | cons r L ih => simpa [cellsOf, Value.cells, rowV] using ih
theorem sl {w : World} {B : Nat} {e : TypeId} {v : Value} {L : List (List Int)} (h : Own w B e 256 v (L.map rowV)) (hw : ∀ r ∈ L, r.length = 256 ∧ ∀ x ∈ r, (Lit.int .i16 x).wf = true) : Sl w 256 (RRow .i16 256) v L := by
  have hr := h
  unfold Own at hr
  rw [flat, List.length_map] at hr
  have hf := flat_get (fun r : List Int => r.map (Value.int .i16)) 256 L (fun r hr => by simp [(hw r hr).1])
  have hlen := hr.1
  rcases hr.2 with ⟨h1, h2⟩ | ⟨g, cap, cur, rfl, hB, hg, hn, hc, hcs, htk⟩
  · have : L = [] := List.eq_nil_of_length_eq_zero h2
    subst this
    exact ⟨none, 0, 0, 0, h1, Nat.le_refl _, by decide, fun h => by simp at h, fun i hi => by simp at hi⟩
  · refine ⟨some ⟨g, 0, none⟩, g, 0, cap, rfl, hn, hc, fun _ => ⟨rfl, (Array.getElem?_eq_some_iff.1 hg).1⟩, fun i hi => ⟨L[i].map (Value.int .i16), by simp [(hw _ (List.getElem_mem hi)).1], fun j hj => ?_, rfl, hw _ (List.getElem_mem hi)⟩⟩
    have h5 : i * 256 + j < L.length * 256 := by omega
    have := hr.cellAt (i * 256 + j) h5
    rw [Nat.zero_add, this]
    exact hf i hi j hj
attribute [irreducible] rowV
end Wd
end Go.Proofs.Ytlgabpcddldelaa
