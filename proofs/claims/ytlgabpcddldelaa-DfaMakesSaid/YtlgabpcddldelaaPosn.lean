/-
  An automaton of places as it comes in; what is wrong with it.
-/
import Derived.Test.YtlgabpcddldelaaRise
namespace Go.Proofs.Ytlgabpcddldelaa
set_option linter.unusedVariables false
open Go.ChangeShapes Go.WideShapes Go.ChangeAt Go.RowKit

theorem St.at6 {w0 w : World} {μ : List Asrt} {g : Nat} {T : TypeId} {v0 v1 v2 v3 v4 v5 : Value} (h : St w0 w μ) (i : Nat) (hA : μ[i]? = some (aCel g T #[v0, v1, v2, v3, v4, v5])) :
    w.cell? ⟨g, 0, none⟩ = some v0 ∧ w.cell? ⟨g, 1, none⟩ = some v1 ∧ w.cell? ⟨g, 2, none⟩ = some v2 ∧ w.cell? ⟨g, 3, none⟩ = some v3 ∧ w.cell? ⟨g, 4, none⟩ = some v4 ∧ w.cell? ⟨g, 5, none⟩ = some v5 :=
  ⟨(h.nth i hA).celAt rfl, (h.nth i hA).celAt rfl, (h.nth i hA).celAt rfl, (h.nth i hA).celAt rfl, (h.nth i hA).celAt rfl, (h.nth i hA).celAt rfl⟩
/-- A slice of truths: its cells. -/
theorem slBool {bytes : Nat} {F : Nat → Prop} {w : World} {v : Value} {l : List Bool} (h : (Enc.bool.sl bytes).R F w [v] l) :
    ∃ (ao : Option Addr) (b off cap : Nat), v = .slice ao l.length cap ∧ (l.length : Int) * bytes ≤ 140737488355328 ∧ (0 < l.length → ao = some ⟨b, off, none⟩ ∧ b < w.heap.size ∧ F b) ∧ ∀ i, i < l.length → w.cell? ⟨b, off + i, none⟩ = some (.bool (l.getD i false)) := by
  obtain ⟨ao, b, off, cap, h0, h1, h2, h3⟩ := Enc.sl1 (En := Enc.bool) Value.bool (fun _ _ _ h => h) rfl false h
  exact ⟨ao, b, off, cap, h0, h1, h2, fun i hi => (h3 i hi).1⟩
/-- A slice of classes: its cells. -/
theorem slCls {bytes : Nat} {F : Nat → Prop} {w : World} {v : Value} {l : List (List Int)} (h : ((Enc.row .u64 4).sl bytes).R F w [v] l) :
    ∃ (ao : Option Addr) (b off cap : Nat), v = .slice ao l.length cap ∧ (l.length : Int) * bytes ≤ 140737488355328 ∧ (0 < l.length → ao = some ⟨b, off, none⟩ ∧ b < w.heap.size ∧ F b) ∧
      ∀ i, i < l.length → (∀ j, j < 4 → w.cell? ⟨b, off + i * 4 + j, none⟩ = some (.int .u64 ((l.getD i []).getD j 0))) ∧ (l.getD i []).length = 4 ∧ ∀ x ∈ l.getD i [], 0 ≤ x ∧ x < 18446744073709551616 := by
  obtain ⟨ao, b, off, cap, h0, h1, h2, h3⟩ := Enc.slN [] h
  refine ⟨ao, b, off, cap, h0, h1, h2, fun i hi => ?_⟩
  obtain ⟨cs, _, g2, rfl, g4, g5⟩ := h3 i hi
  refine ⟨fun j hj => ?_, g4, fun x hx => ?_⟩
  · refine (g2 j hj).trans ?_
    generalize l.getD i [] = q at g4
    have hq : q.getD j 0 = q[j]'(by omega) := by simp [List.getD, List.getElem?_eq_getElem (by omega : j < q.length)]
    rw [List.getElem?_map, List.getElem?_eq_getElem (by omega), hq]; rfl
  · have := g5 x hx
    simp [Lit.wf, IntKind.min, IntKind.max, IntKind.signed, IntKind.bits] at this
    omega
/-- A slice of lists of numbers. -/
theorem slRowsI {b1 b2 : Nat} {F : Nat → Prop} {w : World} {v : Value} {l : List (List Int)} (h : (((Enc.int .i64).sl b1).sl b2).R F w [v] l) :
    ∃ (ao : Option Addr) (b off cap : Nat), v = .slice ao l.length cap ∧ (0 < l.length → ao = some ⟨b, off, none⟩ ∧ b < w.heap.size ∧ F b) ∧ ∀ i, i < l.length → ∃ ai ci, w.cell? ⟨b, off + i, none⟩ = some (.slice ai (l.getD i []).length ci) ∧ ((Enc.int .i64).sl b1).R F w [.slice ai (l.getD i []).length ci] (l.getD i []) := by
  obtain ⟨ao, b, off, cap, h0, h1, h2, h3⟩ := Enc.slN [] h
  refine ⟨ao, b, off, cap, h0, h2, fun i hi => ?_⟩
  obtain ⟨cs, _, g2, g3⟩ := h3 i hi
  have g4 := g3
  obtain ⟨ai, _, _, ci, rfl, _⟩ := g4
  have := g2 0 (show 0 < 1 by decide)
  exact ⟨ai, ci, by simpa [Enc.sl] using this, g3⟩

namespace Pl
def ok (nc : Nat) (ru : List Int) (fo : List (List Int)) (ne : Nat) (i : Nat) : Prop := 0 ≤ ru.getD i 0 ∧ ru.getD i 0 < ne ∧ rise nc (-1) (fo.getD i []) = true
def shape (nc : Nat) (ru fi : List Int) (fo : List (List Int)) (nl ne : Nat) : Prop := ru.length = nc ∧ fo.length = nc ∧ nl = nc ∧ 1 ≤ ne ∧ ne ≤ 20 ∧ rise nc (-1) fi = true
open Classical in
noncomputable def err (nc : Nat) (ru fi : List Int) (fo : List (List Int)) (nl ne : Nat) : Int :=
  if shape nc ru fi fo nl ne ∧ ∀ i, i < nc → ok nc ru fo ne i then (if 200 < nc then 2 else 0) else 1
section
variable {nc : Nat} {ru fi : List Int} {fo : List (List Int)} {nl ne : Nat}
theorem err_shape (h : ¬ shape nc ru fi fo nl ne) : err nc ru fi fo nl ne = 1 := by rw [err, if_neg (fun g => h g.1)]
theorem err_at {i : Nat} (hi : i < nc) (h : ¬ ok nc ru fo ne i) : err nc ru fi fo nl ne = 1 := by rw [err, if_neg (fun g => h (g.2 i hi))]
theorem err_large (h : shape nc ru fi fo nl ne) (h2 : ∀ i, i < nc → ok nc ru fo ne i) (h3 : 200 < nc) : err nc ru fi fo nl ne = 2 := by rw [err, if_pos ⟨h, h2⟩, if_pos h3]
theorem err_ok (h : shape nc ru fi fo nl ne) (h2 : ∀ i, i < nc → ok nc ru fo ne i) (h3 : ¬ 200 < nc) : err nc ru fi fo nl ne = 0 := by rw [err, if_pos ⟨h, h2⟩, if_neg h3]
theorem err_zero (h : err nc ru fi fo nl ne = 0) : shape nc ru fi fo nl ne ∧ (∀ i, i < nc → ok nc ru fo ne i) ∧ nc ≤ 200 := by
  rw [err] at h
  split at h
  · rename_i g
    split at h
    · omega
    · exact ⟨g.1, g.2, by omega⟩
  · omega
theorem alts (a b c d e : Nat) : a ≠ e ∨ (a = e ∧ b ≠ e) ∨ (a = e ∧ b = e ∧ c ≠ e) ∨ (a = e ∧ b = e ∧ c = e ∧ d = 0) ∨ (a = e ∧ b = e ∧ c = e ∧ 20 < d) ∨ (a = e ∧ b = e ∧ c = e ∧ 1 ≤ d ∧ d ≤ 20) := by omega
end
end Pl
attribute [irreducible] Pl.err
end Go.Proofs.Ytlgabpcddldelaa
