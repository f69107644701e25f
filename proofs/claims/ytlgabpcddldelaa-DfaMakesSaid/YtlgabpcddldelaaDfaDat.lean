/-
  Check of package dfa and RightDfa of the reference: what they compute. An automaton that came in, opened.
-/
import Derived.Test.YtlgabpcddldelaaRead
namespace Go.Proofs.Ytlgabpcddldelaa
open Go.ChangeShapes Go.WideShapes Go.ChangeAt Go.RowKit Go.Joins

/-- A slice of numbers that came in. -/
theorem slInts {w : World} {k : IntKind} {v : Value} {l : List Int} (h : Sl w 1 (RInt k) v l) :
    ∃ (ao : Option Addr) (b off cap : Nat), v = .slice ao l.length cap ∧ l.length ≤ cap ∧ cap ≤ maxLen ∧ (0 < l.length → ao = some ⟨b, off, none⟩ ∧ b < w.heap.size) ∧
      (∀ i, i < l.length → w.cell? ⟨b, off + i, none⟩ = some (.int k (l.getD i 0))) ∧ ∀ i, i < l.length → (Lit.int k (l.getD i 0)).wf = true := by
  obtain ⟨ao, b, off, cap, h0, h1, h2, h3, h4⟩ := h
  refine ⟨ao, b, off, cap, h0, h1, h2, h3, fun i hi => ?_, fun i hi => ?_⟩
  · obtain ⟨cs, g1, g2, g3, _⟩ := h4 i hi
    have := g2 0 (by omega)
    rw [g3, Nat.mul_one, Nat.add_zero] at this
    rw [this]; simp [List.getD, List.getElem?_eq_getElem hi]
  · obtain ⟨cs, g1, g2, g3, g4⟩ := h4 i hi
    simpa [List.getD, List.getElem?_eq_getElem hi] using g4

/-- A slice of arrays of numbers that came in. -/
theorem slRows {w : World} {k : IntKind} {n : Nat} {v : Value} {l : List (List Int)} (h : Sl w n (RRow k n) v l) :
    ∃ (ao : Option Addr) (b off cap : Nat), v = .slice ao l.length cap ∧ l.length ≤ cap ∧ cap ≤ maxLen ∧ (0 < l.length → ao = some ⟨b, off, none⟩ ∧ b < w.heap.size) ∧
      (∀ i, i < l.length → w.rangeAt b (off + i * n) ((l.getD i []).map (Value.int k))) ∧ ∀ i, i < l.length → (l.getD i []).length = n ∧ ∀ x ∈ l.getD i [], (Lit.int k x).wf = true := by
  obtain ⟨ao, b, off, cap, h0, h1, h2, h3, h4⟩ := h
  refine ⟨ao, b, off, cap, h0, h1, h2, h3, fun i hi => ?_, fun i hi => ?_⟩
  · obtain ⟨cs, ⟨g1, _⟩, g2⟩ := Sl.range h4 i hi
    rw [g1] at g2
    simpa [List.getD, List.getElem?_eq_getElem hi] using g2
  · obtain ⟨cs, _, _, _, g4⟩ := h4 i hi
    simpa [List.getD, List.getElem?_eq_getElem hi] using g4

def DfaAt (w : World) (v : Value) (rows : List (List Int)) (tags : List Int) : Prop :=
  ∃ v0 v1, v = .agg #[v0, v1] ∧ Sl w 256 (RRow .i16 256) v0 rows ∧ Sl w 1 (RInt .i64) v1 tags

set_option maxRecDepth 100000 in
theorem open_Dfa {H : Type} {enc : TypeId × Value → H} {w : World} {base : Nat} {spare : Nat → Bool} {held : Bool} {r : Reach} {b0 : Nat} {v : Value} {d : DataW H} {p : List MemPlace}
    (hv : Value.okWide Try.prog w r b0 30 v) (h : DataW.Trod enc Try.prog w base spare held 30 v d p) : ∃ rows tags, DfaAt w v rows tags := by
  obtain ⟨v0, v1, y0, y1, n, rfl, _, _, h0, h1⟩ := open_agg2 Try.underlying30 (by kernel_rfl) (by kernel_rfl) hv h
  obtain ⟨u0, rows, e0, hr⟩ := open_sl (size := 256) Try.underlying28 (by kernel_rfl) (by decide) h0 (fun _ _ _ _ hh => rRow Try.underlying96 Try.underlying94 (by kernel_rfl) (by kernel_rfl) hh)
  obtain ⟨u1, tags, e1, ht⟩ := open_sl (size := 1) Try.underlying23 (by kernel_rfl) (by decide) h1 (fun _ _ _ _ hh => rInt Try.underlying3 hh)
  simp only [List.cons.injEq, and_true] at e0 e1
  subst e0 e1
  exact ⟨rows, tags, _, _, rfl, hr, ht⟩

namespace Aut
def tagGood (t : Int) : Prop := -1 ≤ t ∧ t ≤ 19
def rowGood (n : Nat) (row : List Int) : Prop := ∀ c, c < 256 → -1 ≤ row.getD c 0 ∧ row.getD c 0 < n
def Good (rows : List (List Int)) (tags : List Int) : Prop := ∀ i, i < rows.length → tagGood (tags.getD i 0) ∧ rowGood rows.length (rows.getD i [])
open Classical in
noncomputable def err (rows : List (List Int)) (tags : List Int) : Int :=
  if 200 < rows.length then 2 else if rows.length = 0 ∨ tags.length ≠ rows.length then 1 else if Good rows tags then 0 else 1
theorem err_large (rows tags) (h : 200 < rows.length) : err rows tags = 2 := by rw [err, if_pos h]
theorem err_arg (rows tags) (h : ¬ 200 < rows.length) (h1 : rows.length = 0 ∨ tags.length ≠ rows.length) : err rows tags = 1 := by rw [err, if_neg h, if_pos h1]
theorem err_bad (rows tags) (h : ¬ 200 < rows.length) (h1 : ¬ Good rows tags) : err rows tags = 1 := by
  rw [err, if_neg h]
  by_cases h2 : rows.length = 0 ∨ tags.length ≠ rows.length
  · rw [if_pos h2]
  · rw [if_neg h2, if_neg h1]
theorem i16_bounds (row : List Int) (c : Nat) (hc : c < row.length) (h : ∀ x ∈ row, (Lit.int .i16 x).wf = true) : -32768 ≤ row.getD c 0 ∧ row.getD c 0 ≤ 32767 := by
  have hm : row.getD c 0 ∈ row := by simp [List.getD, List.getElem?_eq_getElem hc]
  have := h _ hm
  simpa [Lit.wf, IntKind.min, IntKind.max, IntKind.signed, IntKind.bits] using this
theorem row_get (row : List Int) (c : Nat) (hc : c < row.length) : (row.map (Value.int .i16))[c]? = some (.int .i16 (row.getD c 0)) := by
  simp [List.getD, List.getElem?_eq_getElem hc]
theorem bad_tag (rows tags) (k : Nat) (hk : k < rows.length) (h : ¬ tagGood (tags.getD k 0)) : ¬ Good rows tags := fun g => h (g k hk).1
theorem bad_row (rows tags) (k c : Nat) (hk : k < rows.length) (hc : c < 256) (h : ¬ (-1 ≤ (rows.getD k []).getD c 0 ∧ (rows.getD k []).getD c 0 < rows.length)) : ¬ Good rows tags := fun g => h ((g k hk).2 c hc)
theorem err_ok (rows tags) (h : ¬ 200 < rows.length) (h1 : rows.length ≠ 0) (h2 : tags.length = rows.length) (h3 : Good rows tags) : err rows tags = 0 := by
  rw [err, if_neg h, if_neg (by omega), if_pos h3]
end Aut
end Go.Proofs.Ytlgabpcddldelaa
