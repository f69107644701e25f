/-
  slices.Equal on alike lists of events; events as they come in.
-/
import Derived.Test.YtldapomcjfkeeaaPairs
namespace Go.Proofs.Ytldapomcjfkeeaa
set_option linter.unusedVariables false
open Go.ChangeShapes Go.WideShapes Go.ChangeAt Go.RowKit

set_option maxRecDepth 100000 in
theorem eqEvts {v1 v2 : Value} {l : List (Int × Int)} (w : World) {F1 F2 : Nat → Prop} (h1 : (Enc.two.sl 16).R F1 w [v1] l) (h2 : (Enc.two.sl 16).R F2 w [v2] l) :
    Calls Try.prog 40 #[v1, v2] w fun e w' => e = .returned (.bool true) ∧ Below w.heap.size w w' := by
  obtain ⟨a1, b1, o1, c1, rfl, k1, k3, k4⟩ := slTwo h1
  obtain ⟨a2, b2, o2, c2, rfl, g1, g3, g4⟩ := slTwo h2
  have hll : (l.length : Int) ≤ 140737488355328 := by omega
  have K3 := Lib.hid k3; have K4 := Lib.hid k4; have G3 := Lib.hid g3; have G4 := Lib.hid g4
  clear k3 k4 g3 g4 h1 h2 k1 g1
  have hne : ((l.length : Int) != (l.length : Int)) = false := by rw [bne_eq_false_iff_eq]
  go_enter Try.func40, Try.ntmps40
  go_wp2
  go_loopw [5, 13] (fun _ i wr => ∃ k : Nat, k ≤ l.length ∧ i = .int .i64 k ∧ Below w.heap.size w wr) (fun _ i _ => l.length - (intOf i).toNat)
  case atStart => exact ⟨0, by omega, rfl, Below.refl _ _⟩
  case round =>
    obtain ⟨k, hk, rfl, hB⟩ := hrel
    by_cases hlt : k < l.length
    · obtain ⟨rfl, _⟩ := K3.out (by omega)
      obtain ⟨rfl, _⟩ := G3.out (by omega)
      have hc1 := bkeep hB (K4.out k hlt).1
      have hc2 := bkeep hB (K4.out k hlt).2.1
      have hc3 := bkeep hB (G4.out k hlt).1
      have hc4 := bkeep hB (G4.out k hlt).2.1
      generalize l.getD k (0, 0) = x at hc1 hc2 hc3 hc4
      obtain ⟨x1, x2⟩ := x
      simp only at hc1 hc2 hc3 hc4
      clear K3 K4 G3 G4
      go_wp2
      go_quiet (fail)
      go_wp2
      go_roundw
      case rel => exact ⟨k + 1, by omega, by go_num, below_drewN hB _⟩
      case measure => simp [intOf]; omega
    · clear K3 K4 G3 G4
      go_wp2
      go_ret
      exact ⟨rfl, hB⟩

theorem opens_evts : Opens Try.prog 75 (Enc.two.sl 16) :=
  Opens.sl Try.underlying75 (by kernel_rfl) (by decide) (by kernel_rfl) (opens_two Try.underlying81 (by kernel_rfl) rfl rfl (by kernel_rfl) (by kernel_rfl) Try.underlying3 Try.underlying3)
end Go.Proofs.Ytldapomcjfkeeaa
