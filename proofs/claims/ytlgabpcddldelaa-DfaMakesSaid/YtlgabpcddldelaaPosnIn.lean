/-
  An automaton of places as it comes in, opened. (A helper text; it claims nothing of the program.)
-/
import Derived.Test.YtlgabpcddldelaaEncOps
namespace Go.Proofs.Ytlgabpcddldelaa
set_option linter.unusedVariables false
open Go.ChangeShapes Go.WideShapes Go.ChangeAt Go.RowKit

def Enc.posn : Enc (List (List Int) × List Int × List Int × List (List Int) × List Bool × List Bool) := Enc.prod ((Enc.row .u64 4).sl 32) (Enc.prod ((Enc.int .i64).sl 8) (Enc.prod ((Enc.int .i64).sl 8) (Enc.prod (((Enc.int .i64).sl 8).sl 24) (Enc.prod (Enc.bool.sl 1) (Enc.bool.sl 1)))))
theorem posn_cells {F : Nat → Prop} {w : World} {cs : Array Value} {g : List (List Int) × List Int × List Int × List (List Int) × List Bool × List Bool} (h : Enc.posn.R F w cs.toList g) :
    ∃ vc vr vi vo vl ve, cs = #[vc, vr, vi, vo, vl, ve] ∧ ((Enc.row .u64 4).sl 32).R F w [vc] g.1 ∧ ((Enc.int .i64).sl 8).R F w [vr] g.2.1 ∧ ((Enc.int .i64).sl 8).R F w [vi] g.2.2.1 ∧ (((Enc.int .i64).sl 8).sl 24).R F w [vo] g.2.2.2.1 ∧ (Enc.bool.sl 1).R F w [vl] g.2.2.2.2.1 ∧ (Enc.bool.sl 1).R F w [ve] g.2.2.2.2.2 := by
  obtain ⟨c1, d1, e1, h1, c2, d2, e2, h2, c3, d3, e3, h3, c4, d4, e4, h4, c5, d5, e5, h5, h6⟩ := h
  have k1 := h1; have k2 := h2; have k3 := h3; have k4 := h4; have k5 := h5; have k6 := h6
  obtain ⟨_, _, _, _, rfl, _⟩ := k1
  obtain ⟨_, _, _, _, rfl, _⟩ := k2
  obtain ⟨_, _, _, _, rfl, _⟩ := k3
  obtain ⟨_, _, _, _, rfl, _⟩ := k4
  obtain ⟨_, _, _, _, rfl, _⟩ := k5
  obtain ⟨_, _, _, _, rfl, _⟩ := k6
  subst e5 e4 e3 e2
  exact ⟨_, _, _, _, _, _, Array.toList_inj.1 e1, h1, h2, h3, h4, h5, h6⟩
theorem opens_posn : Opens Try.prog 27 Enc.posn := by
  have hc : Opens Try.prog 39 (Enc.row .u64 4) := Opens.row Try.underlying39 Try.underlying37 (by kernel_rfl) (by kernel_rfl)
  have hcs : Opens Try.prog 22 ((Enc.row .u64 4).sl 32) := Opens.sl Try.underlying22 (by kernel_rfl) (by decide) (by kernel_rfl) hc
  have hi : Opens Try.prog 23 ((Enc.int .i64).sl 8) := Opens.sl Try.underlying23 (by kernel_rfl) (by decide) (by kernel_rfl) (Opens.int Try.underlying3)
  have hii : Opens Try.prog 24 (((Enc.int .i64).sl 8).sl 24) := Opens.sl Try.underlying24 (by kernel_rfl) (by decide) (by kernel_rfl) hi
  have hb : Opens Try.prog 25 (Enc.bool.sl 1) := Opens.sl Try.underlying25 (by kernel_rfl) (by decide) (by kernel_rfl) (Opens.bool Try.underlying4)
  show Opens _ _ (Enc.prod _ (Enc.prod _ (Enc.prod _ (Enc.prod _ (Enc.prod _ _)))))
  exact Opens.struct Try.underlying27 (by kernel_rfl) (OpensFrom.cons rfl rfl (by kernel_rfl) hcs (OpensFrom.cons rfl rfl (by kernel_rfl) hi (OpensFrom.cons rfl rfl (by kernel_rfl) hi (OpensFrom.cons rfl rfl (by kernel_rfl) hii (OpensFrom.cons rfl rfl (by kernel_rfl) hb (OpensFrom.last rfl rfl (by kernel_rfl) hb))))))
end Go.Proofs.Ytlgabpcddldelaa
