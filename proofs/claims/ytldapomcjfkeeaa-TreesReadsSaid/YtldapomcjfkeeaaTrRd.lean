/-
  Trees in memory. (A helper text; it claims nothing of the program.)
-/
import Derived.Test.YtldapomcjfkeeaaTrN
import Derived.Test.YtldapomcjfkeeaaSepPick
import Derived.Test.YtldapomcjfkeeaaSepAt4
namespace Go.Proofs.Ytldapomcjfkeeaa
set_option linter.unusedVariables false
open Go.ChangeShapes Go.WideShapes Go.ChangeAt Go.RowKit

namespace Tr
def nil : Tr := .mk 0 0 []
theorem opened {n : Nat} {F : Nat → Prop} {w : World} {cs : List Value} {t : Tr} (h : (enc n).R F w cs t) : ∃ m, n = m + 1 ∧ ∃ vk, cs = [.int .i64 t.prod, .int .i64 t.tok, vk] ∧ (-9223372036854775808 ≤ t.prod ∧ t.prod ≤ 9223372036854775807) ∧ (-9223372036854775808 ≤ t.tok ∧ t.tok ≤ 9223372036854775807) ∧ ((enc m).sl 40).R F w [vk] t.kids := by
  cases n with
  | zero => exact h.elim
  | succ m =>
    obtain ⟨c1, c2, rfl, ⟨rfl, h1⟩, c3, c4, rfl, ⟨rfl, h2⟩, h3⟩ := h
    have h4 := h3
    obtain ⟨ao, b, off, cap, rfl, _⟩ := h4
    exact ⟨m, rfl, _, rfl, wf64 h1, wf64 h2, h3⟩
theorem kidsAt {n : Nat} {F : Nat → Prop} {w : World} {v : Value} {ks : List Tr} (h : ((enc n).sl 40).R F w [v] ks) :
    ∃ (ao : Option Addr) (b off cap : Nat), v = .slice ao ks.length cap ∧ (ks.length : Int) * 40 ≤ 140737488355328 ∧ (0 < ks.length → ao = some ⟨b, off, none⟩ ∧ b < w.heap.size ∧ F b) ∧
      ∀ i, i < ks.length → ∃ a c, w.cell? ⟨b, off + i * 3, none⟩ = some (.int .i64 (ks.getD i nil).prod) ∧ w.cell? ⟨b, off + i * 3 + 1, none⟩ = some (.int .i64 (ks.getD i nil).tok) ∧ w.cell? ⟨b, off + i * 3 + 2, none⟩ = some (.slice a (ks.getD i nil).kids.length c) ∧ (enc n).R F w [.int .i64 (ks.getD i nil).prod, .int .i64 (ks.getD i nil).tok, .slice a (ks.getD i nil).kids.length c] (ks.getD i nil) := by
  obtain ⟨ao, b, off, cap, h0, h1, h2, h3⟩ := Enc.slN nil h
  refine ⟨ao, b, off, cap, h0, h1, h2, fun i hi => ?_⟩
  obtain ⟨cs, _, g2, g3⟩ := h3 i hi
  rw [enc_size] at g2
  obtain ⟨m, rfl, vk, rfl, q1, q2, q3⟩ := opened g3
  obtain ⟨ao, b, off, cap, e1, e2⟩ := q3
  simp only [List.cons.injEq, and_true] at e1
  subst e1
  exact ⟨_, _, g2 0 (by decide), g2 1 (by decide), g2 2 (by decide), g3⟩
end Tr
end Go.Proofs.Ytldapomcjfkeeaa
