/-
  Slices of structs of two numbers. (A helper text; it claims nothing of the program.)
-/
import Derived.Test.YtlgabpcddldelaaEncOps
namespace Go.Proofs.Ytlgabpcddldelaa
set_option linter.unusedVariables false
open Go.ChangeShapes Go.WideShapes Go.ChangeAt Go.RowKit

def Enc.two : Enc (Int × Int) := Enc.prod (Enc.int .i64) (Enc.int .i64)
def pairV (p : Int × Int) : Value := .agg #[.int .i64 p.1, .int .i64 p.2]
theorem two_cells {F : Nat → Prop} {w : World} {cs : List Value} {p : Int × Int} (h : Enc.two.R F w cs p) : cs = [.int .i64 p.1, .int .i64 p.2] ∧ (-9223372036854775808 ≤ p.1 ∧ p.1 ≤ 9223372036854775807) ∧ (-9223372036854775808 ≤ p.2 ∧ p.2 ≤ 9223372036854775807) := by
  obtain ⟨c1, c2, rfl, ⟨rfl, h1⟩, ⟨rfl, h2⟩⟩ := h
  exact ⟨rfl, wf64 h1, wf64 h2⟩
theorem two_mk {F : Nat → Prop} {w : World} {p : Int × Int} (h1 : -9223372036854775808 ≤ p.1 ∧ p.1 ≤ 9223372036854775807) (h2 : -9223372036854775808 ≤ p.2 ∧ p.2 ≤ 9223372036854775807) : Enc.two.R F w (pairV p).cells.toList p :=
  ⟨[.int .i64 p.1], [.int .i64 p.2], rfl, ⟨rfl, WalkArith.wf_i64 h1⟩, ⟨rfl, WalkArith.wf_i64 h2⟩⟩
theorem slTwo {bytes : Nat} {F : Nat → Prop} {w : World} {v : Value} {l : List (Int × Int)} (h : (Enc.two.sl bytes).R F w [v] l) :
    ∃ (ao : Option Addr) (b off cap : Nat), v = .slice ao l.length cap ∧ (l.length : Int) * bytes ≤ 140737488355328 ∧ (0 < l.length → ao = some ⟨b, off, none⟩ ∧ b < w.heap.size ∧ F b) ∧
      ∀ i, i < l.length → w.cell? ⟨b, off + i * 2, none⟩ = some (.int .i64 (l.getD i (0, 0)).1) ∧ w.cell? ⟨b, off + i * 2 + 1, none⟩ = some (.int .i64 (l.getD i (0, 0)).2) ∧
        (-9223372036854775808 ≤ (l.getD i (0, 0)).1 ∧ (l.getD i (0, 0)).1 ≤ 9223372036854775807) ∧ (-9223372036854775808 ≤ (l.getD i (0, 0)).2 ∧ (l.getD i (0, 0)).2 ≤ 9223372036854775807) := by
  obtain ⟨ao, b, off, cap, h0, h1, h2, h3⟩ := Enc.slN (0, 0) h
  refine ⟨ao, b, off, cap, h0, h1, h2, fun i hi => ?_⟩
  obtain ⟨cs, _, g2, g3⟩ := h3 i hi
  obtain ⟨rfl, g4, g5⟩ := two_cells g3
  exact ⟨g2 0 (by decide), g2 1 (by decide), g4, g5⟩
theorem Own.two {w : World} {B : Nat} {e : TypeId} {v : Value} {l : List (Int × Int)} {F : Nat → Prop} (h : Own w B e 2 v (l.map pairV)) (hF : ∀ b ∈ v.ownBlock.toList, F b) (hb : (l.length : Int) * 16 ≤ 140737488355328)
    (hw : ∀ p ∈ l, (-9223372036854775808 ≤ p.1 ∧ p.1 ≤ 9223372036854775807) ∧ (-9223372036854775808 ≤ p.2 ∧ p.2 ≤ 9223372036854775807)) : (Enc.two.sl 16).R F w [v] l :=
  Own.enc (En := Enc.two) (bytes := 16) h rfl (fun a ha => two_mk (hw a ha).1 (hw a ha).2) hF hb
/-- A struct of two numbers. -/
theorem opens_two {P : Program} {t : TypeId} {f0 f1 : Field} (ht : P.underlying t = some (.struct #[f0, f1])) (hc : P.cellsOf t = 2) (o0 : f0.offset = 0) (o1 : f1.offset = 1) (c0 : P.cellsOf f0.type = 1) (c1 : P.cellsOf f1.type = 1)
    (k0 : P.underlying f0.type = some (.int .i64)) (k1 : P.underlying f1.type = some (.int .i64)) : Opens P t Enc.two := by
  have h1 : OpensFrom P #[f0, f1] 1 1 (Enc.int .i64) := OpensFrom.last (f := f1) rfl o1 c1 (Opens.int k1)
  have h0 : OpensFrom P #[f0, f1] 0 0 (Enc.prod (Enc.int .i64) (Enc.int .i64)) := OpensFrom.cons (f := f0) rfl o0 c0 (Opens.int k0) h1
  exact Opens.struct ht hc h0
end Go.Proofs.Ytlgabpcddldelaa
