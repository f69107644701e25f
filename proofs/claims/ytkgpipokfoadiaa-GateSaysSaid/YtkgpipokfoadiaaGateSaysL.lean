/-
  The walk of the law GateSays, for what is handed in.
-/
import Derived.Test.YtkgpipokfoadiaaGateSaysK
namespace Go.Proofs.Ytkgpipokfoadiaa
set_option linter.unusedVariables false
open Go.ChangeShapes Go.WideShapes Go.ChangeAt Go.RowKit

def Enc.gate : Enc (List (Int × Int) × Int × Int) := Enc.prod (Enc.two.sl 16) (Enc.prod (Enc.int .i64) (Enc.int .i64))
theorem gate_cells {F : Nat → Prop} {w : World} {cs : Array Value} {g : List (Int × Int) × Int × Int} (h : Enc.gate.R F w cs.toList g) :
    ∃ v, cs = #[v, .int .i64 g.2.1, .int .i64 g.2.2] ∧ (Enc.two.sl 16).R F w [v] g.1 := by
  obtain ⟨c1, c2, e1, h1, c3, c4, e2, ⟨rfl, h2⟩, ⟨rfl, h3⟩⟩ := h
  have h4 := h1
  obtain ⟨ao, b, off, cap, rfl, _⟩ := h4
  subst e2
  exact ⟨_, Array.toList_inj.1 e1, h1⟩
theorem opens_gate : Opens Try.prog 42 Enc.gate := by
  show Opens _ _ (Enc.prod (Enc.two.sl 16) (Enc.prod (Enc.int .i64) (Enc.int .i64)))
  exact Opens.struct Try.underlying42 (by kernel_rfl) (OpensFrom.cons rfl rfl (by kernel_rfl) opens_evts (OpensFrom.cons rfl rfl (by kernel_rfl) (Opens.int Try.underlying3) (OpensFrom.last rfl rfl (by kernel_rfl) (Opens.int Try.underlying3))))

theorem gateSays_top (cs : Array Value) (v2 : Value) (g : List (Int × Int) × Int × Int) (l2 : List (Int × Int)) (k m : Int) (hk : (Lit.int .i64 k).wf = true) (hm : (Lit.int .i64 m).wf = true) (w : World)
    (h : Rd Enc.gate (fun b => b < w.heap.size) w (.agg cs) g) (h2 : Rd (Enc.two.sl 16) (fun b => b < w.heap.size) w v2 l2) (hv2 : v2.cells.toList = [v2]) :
    Calls Try.prog 5 #[.agg cs, v2, .int .i64 k, .int .i64 m] w (fun e w' => e = .returned (.bool true) ∧ Below w.heap.size w w') := by
  obtain ⟨v, rfl, h1⟩ := gate_cells h
  unfold Rd at h2
  rw [hv2] at h2
  exact gateSays_walk _ _ _ _ (wf64 hk).1 (wf64 hk).2 (wf64 hm).1 (wf64 hm).2 w (fun b hb => hb) h1 h2
end Go.Proofs.Ytkgpipokfoadiaa
