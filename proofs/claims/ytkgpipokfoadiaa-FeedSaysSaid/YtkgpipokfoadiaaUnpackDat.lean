/-
  Unpack of package small: what it computes.
-/
import Derived.Test.YtkgpipokfoadiaaPacked
import Derived.Test.YtkgpipokfoadiaaCloneDat
import Derived.Great.BuildSlice
namespace Go.Proofs.Ytkgpipokfoadiaa
open Go.ChangeShapes Go.WideShapes Go.ChangeAt Go.RowKit

theorem buildOne {P : Program} {ops : Array Oper} {rest : List Oper} {o : Oper} {a : Act} {w : World} {Q : Exit → Act → World → Prop} {t e : TypeId} {size bytes : Nat} (E : ET P t e size bytes) (hg : o.guard = none) (x : Operand) (ho : o.op = .buildSlice t 1 #[(0, x)])
    (A : Array Value) (hx : a.eval x = .agg A) (hA : A.size = size) (hsm : size ≤ 16777216)
    (h : wpList P ops Q rest (a.put o.dst (.slice (some ⟨w.heap.size, 0, none⟩) 1 1)) (w.alloc (.cells A e))) : wpList P ops Q (o :: rest) a w := by
  obtain ⟨ht, ⟨i, z, hi, hz, hsize, hby, hzs⟩, hp⟩ := E
  refine wpList_buildSlice hg t e 1 _ ho A i z ht hi hz (by rw [hsize]; omega) (by rw [hsize]; omega) ?_ h
  have := Great.fill_whole hp [Value.agg A] ((Array.range (1 * size)).map (z.cells[· % z.cells.size]!)) (fun v hv => by simp at hv; subst hv; exact hA) (by simp)
  rw [hsize]
  simp only [List.map_toArray, List.map_cons, List.map_nil, hx]
  simpa [Value.cells] using this

theorem Own.isSlice {w : World} {B : Nat} {e : TypeId} {size : Nat} {v : Value} {xs : List Value} (h : Own w B e size v xs) : ∃ ao n cap, v = .slice ao n cap := by
  rcases h.shape with ⟨h1, _⟩ | ⟨g, cap, h1, _⟩
  · exact ⟨_, _, _, h1⟩
  · exact ⟨_, _, _, h1⟩

theorem rowE : ET Try.prog 64 137 256 512 := ET.mk' Try.underlying64 (z := .agg Try.zeroCells137) (by kernel_rfl) (by kernel_rfl) (by decide)

theorem flat_get {α β : Type} (f : α → List β) (m : Nat) : ∀ (L : List α), (∀ a ∈ L, (f a).length = m) → ∀ (i : Nat) (h : i < L.length) (j : Nat), j < m → (L.flatMap f)[i * m + j]? = (f L[i])[j]?
  | [], _, i, h, _, _ => by simp at h
  | a :: L, hl, 0, _, j, hj => by
    have := hl a (by simp)
    rw [List.flatMap_cons, Nat.zero_mul, Nat.zero_add, List.getElem?_append_left (by omega)]
    rfl
  | a :: L, hl, i + 1, h, j, hj => by
    have h1 := hl a (by simp)
    have e : (i + 1) * m + j = m + (i * m + j) := by rw [Nat.succ_mul]; omega
    rw [List.flatMap_cons, e, List.getElem?_append_right (by omega), h1, Nat.add_sub_cancel_left]
    exact flat_get f m L (fun b hb => hl b (by simp [hb])) i (by simpa using h) j hj

theorem Sl.wf {w : World} {k : IntKind} {v : Value} {l : List Int} (h : Sl w 1 (RInt k) v l) : ∀ x ∈ l, (Lit.int k x).wf = true := by
  obtain ⟨ao, b, off, cap, _, _, _, _, h4⟩ := h
  intro x hx
  obtain ⟨i, hi, rfl⟩ := List.getElem_of_mem hx
  obtain ⟨cs, _, _, _, h7⟩ := h4 i hi
  exact h7

namespace Wd
def rowOf (of r : List Int) : List Int := (List.range 256).map fun b => r.getD (of.getD b 0).toNat 0
def rowV (r : List Int) : Value := .agg (r.map (Value.int .i16)).toArray
theorem rowOf_len (of r : List Int) : (rowOf of r).length = 256 := by simp [rowOf]
theorem rowOf_get (of r : List Int) (c : Nat) (hc : c < 256) : (rowOf of r)[c]'(by rw [rowOf_len]; exact hc) = r.getD (of.getD c 0).toNat 0 := by simp [rowOf]
/-- The row while it is filled: its first c numbers are there. -/
def part (of r : List Int) (c : Nat) : Array Value := (((rowOf of r).take c).map (Value.int .i16) ++ List.replicate (256 - c) (Value.int .i16 0)).toArray
theorem part_size (of r : List Int) (c : Nat) (hc : c ≤ 256) : (part of r c).size = 256 := by simp [part, rowOf_len]; omega
theorem part_get (of r : List Int) (c : Nat) (hc : c < 256) : (part of r c)[c]? = some (.int .i16 0) := by
  have hl : (((rowOf of r).take c).map (Value.int .i16)).length = c := by simp [rowOf_len]; omega
  simp only [part, List.getElem?_toArray]
  rw [List.getElem?_append_right (by omega), hl, Nat.sub_self, List.getElem?_replicate]
  simp; omega
theorem part_step (of r : List Int) (c : Nat) (hc : c < 256) : (part of r c).setIfInBounds c (.int .i16 (r.getD (of.getD c 0).toNat 0)) = part of r (c + 1) := by
  have hl : (((rowOf of r).take c).map (Value.int .i16)).length = c := by simp [rowOf_len]; omega
  have hcl : c < (rowOf of r).length := by rw [rowOf_len]; exact hc
  have e1 : List.replicate (256 - c) (Value.int .i16 0) = Value.int .i16 0 :: List.replicate (256 - (c + 1)) (Value.int .i16 0) := by
    rw [show 256 - c = (256 - (c + 1)) + 1 by omega, List.replicate_succ]
  simp only [part, List.setIfInBounds_toArray]
  rw [List.take_succ_eq_append_getElem hcl, List.map_append, e1, List.set_append_right _ _ (by omega), hl, Nat.sub_self, List.set_cons_zero, List.append_assoc, List.map_cons, List.map_nil, rowOf_get of r c hc]
  rfl
theorem part_one (of r : List Int) : ∀ q ∈ (Value.agg (part of r 256)).cells.toList, q.oneCell' = true := by
  intro q hq
  simp only [Value.cells, part, Nat.sub_self, List.replicate_zero, List.append_nil, List.mem_map] at hq
  obtain ⟨n, _, rfl⟩ := hq
  rfl
theorem part_end (of r : List Int) : part of r 256 = ((rowOf of r).map (Value.int .i16)).toArray := by
  simp only [part, Nat.sub_self, List.replicate_zero, List.append_nil]
  rw [List.take_of_length_le (by rw [rowOf_len]; exact Nat.le_refl _)]
def rows (of : List Int) (next : List (List Int)) (k : Nat) : List (List Int) := (List.range k).map fun i => rowOf of (next.getD i [])
theorem rows_succ (of : List Int) (next : List (List Int)) (k : Nat) : rows of next (k + 1) = rows of next k ++ [rowOf of (next.getD k [])] := by simp [rows, List.range_succ]
theorem rows_len (of : List Int) (next : List (List Int)) (k : Nat) : (rows of next k).length = k := by simp [rows]
theorem part_zero (of r : List Int) : part of r 0 = Try.zeroCells137 := by
  have h : (List.replicate 256 (Value.int .i16 0)).toArray = Try.zeroCells137 := by kernel_rfl
  rw [← h]; simp only [part, List.take_zero, List.map_nil, List.nil_append, Nat.sub_zero]
theorem rows_wf (of : List Int) (next : List (List Int)) (tags : List Int) (hg : Pkd.Good of next tags) (h200 : next.length ≤ 200) (hof : ∀ c, c < 256 → 0 ≤ of.getD c 0) : ∀ r ∈ rows of next next.length, r.length = 256 ∧ ∀ x ∈ r, (Lit.int .i16 x).wf = true := by
  intro r hr
  simp only [rows, List.mem_map, List.mem_range] at hr
  obtain ⟨k, hk, rfl⟩ := hr
  refine ⟨rowOf_len _ _, fun x hx => ?_⟩
  simp only [rowOf, List.mem_map, List.mem_range] at hx
  obtain ⟨c, hc, rfl⟩ := hx
  have h1 := (hg.rows k hk).2.2 (of.getD c 0).toNat (by have := hg.cols c hc; have := hof c hc; omega)
  generalize (next.getD k []).getD (of.getD c 0).toNat 0 = x at *
  simp [Lit.wf, IntKind.min, IntKind.max, IntKind.signed, IntKind.bits]
  omega
theorem flat (L : List (List Int)) : cellsOf (L.map rowV) = L.flatMap (fun r => r.map (Value.int .i16)) := by
  induction L with
  | nil => rfl
  | cons r L ih => simpa [cellsOf, Value.cells, rowV] using ih
theorem rows_zero (of : List Int) (next : List (List Int)) : rows of next 0 = [] := rfl
theorem sl {w : World} {B : Nat} {e : TypeId} {v : Value} {L : List (List Int)} (h : Own w B e 256 v (L.map rowV)) (hw : ∀ r ∈ L, r.length = 256 ∧ ∀ x ∈ r, (Lit.int .i16 x).wf = true) : Sl w 256 (RRow .i16 256) v L := by
  have hr := h
  unfold Own at hr
  rw [flat, List.length_map] at hr
  have hf := flat_get (fun r : List Int => r.map (Value.int .i16)) 256 L (fun r hr => by simp [(hw r hr).1])
  have hlen := hr.1
  rcases hr.2 with ⟨h1, h2⟩ | ⟨g, cap, cur, rfl, hB, hg, hn, hc, hcs, htk⟩
  · have : L = [] := List.eq_nil_of_length_eq_zero h2
    subst this
    exact ⟨none, 0, 0, 0, h1, Nat.le_refl _, by decide, fun h => by simp at h, fun i hi => by simp at hi⟩
  · refine ⟨some ⟨g, 0, none⟩, g, 0, cap, rfl, hn, hc, fun _ => ⟨rfl, (Array.getElem?_eq_some_iff.1 hg).1⟩, fun i hi => ⟨L[i].map (Value.int .i16), by simp [(hw _ (List.getElem_mem hi)).1], fun j hj => ?_, rfl, hw _ (List.getElem_mem hi)⟩⟩
    have h5 : i * 256 + j < L.length * 256 := by omega
    have := hr.cellAt (i * 256 + j) h5
    rw [Nat.zero_add, this]
    exact hf i hi j hj
attribute [irreducible] rowOf part rows rowV
end Wd
end Go.Proofs.Ytkgpipokfoadiaa
