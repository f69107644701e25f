/-
  ClassSays: from the arguments as they come in to the law's walk.
-/
import Derived.Test.YtlgabpcddldelaaDoorClassSaysW
namespace Go.Proofs.YtlgabpcddldelaaDoor
set_option linter.unusedVariables false
open Go.ChangeShapes Go.WideShapes Go.ChangeAt Go.RowKit
theorem okWide_array {P : Program} {w : World} {r : Reach} {base : Nat} {t e : TypeId} {v : Value} {n : Nat} (ht : P.underlying t = some (.array n e)) (h : Value.okWide P w r base t v) : ∃ cs, v = .agg cs ∧ cs.size = P.cellsOf t := by
  simp only [Value.okWide, ht] at h
  obtain ⟨cs, h1, h2, _⟩ := h
  exact ⟨cs, h1, h2⟩
theorem Cs.of_rd {F : Nat → Prop} {W : World} {A : Array Value} {c : List Int} (h : Rd (Enc.row .u64 4) F W (.agg A) c) : ∃ ws, Dm.Ok4 ws ∧ (Value.agg A) = Cs.clV ws := by
  obtain ⟨h1, h2, h3⟩ := h
  obtain ⟨ws, k1, k2, k3⟩ := Cs.of_row h1 h2 h3
  refine ⟨ws, k1, ?_⟩
  have k4 : A.toList = ws.map Cs.wV := k2
  have : A = Cs.clA ws := by unfold Cs.clA; rw [← k4]
  rw [this]; rfl
theorem classSays_law {F : Nat → Prop} {A B : Array Value} {c d : List Int} {b lo hi : Int} (W : World) (hT : Tz.Tab W) (hc : Rd (Enc.row .u64 4) F W (.agg A) c) (hd : Rd (Enc.row .u64 4) F W (.agg B) d) (hb : (Lit.int .u8 b).wf = true) (hlo : (Lit.int .i64 lo).wf = true) (hhi : (Lit.int .i64 hi).wf = true) :
    Calls Tryd.prog 3 #[.agg A, .agg B, .int .u8 b, .int .i64 lo, .int .i64 hi] W fun e w' => e = .returned (.bool true) ∧ Below W.heap.size W w' := by
  obtain ⟨ws, hw, e1⟩ := Cs.of_rd hc
  obtain ⟨vs, hv, e2⟩ := Cs.of_rd hd
  rw [e1, e2]
  have hb2 : 0 ≤ b ∧ b < 256 := by
    simp [Lit.wf, IntKind.min, IntKind.max, IntKind.signed, IntKind.bits] at hb
    omega
  obtain ⟨n, rfl⟩ : ∃ n : Nat, b = (n : Int) := ⟨b.toNat, by omega⟩
  obtain ⟨l1, l2⟩ := wf64 hlo
  obtain ⟨l3, l4⟩ := wf64 hhi
  exact classSays_walk ws vs hw hv n (by omega) lo hi l1 l2 l3 l4 W hT
end Go.Proofs.YtlgabpcddldelaaDoor
