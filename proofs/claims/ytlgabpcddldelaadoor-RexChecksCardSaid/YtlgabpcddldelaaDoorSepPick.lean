/-
  What the call owns, in another order, some of it left out. (A helper text; it claims nothing of the program.)
-/
import Derived.Test.YtlgabpcddldelaaDoorSepAll
namespace Go.Proofs.YtlgabpcddldelaaDoor
set_option linter.unusedVariables false
open Go.ChangeShapes Go.WideShapes Go.ChangeAt Go.RowKit

def picks (is : List Nat) (k : Nat) : Bool := is.all (· < k) && decide is.Nodup
/-- Those of the first k that 'is' names, in that order; and all behind them. -/
theorem St.pick {w0 w : World} {μ ρ : List Asrt} (h : St w0 w μ) (is : List Nat) (k : Nat) (hi : picks is k = true) (he : is.filterMap (fun i => μ[i]?) ++ μ.drop k = ρ) : St w0 w ρ := by
  unfold picks at hi
  rw [Bool.and_eq_true, List.all_eq_true, decide_eq_true_eq] at hi
  obtain ⟨hk, hnd⟩ := hi
  have hmem : ∀ A ∈ ρ, A ∈ μ := by
    intro A hA
    rw [← he, List.mem_append, List.mem_filterMap] at hA
    rcases hA with ⟨i, _, hi⟩ | hA
    · exact List.mem_of_getElem? hi
    · exact List.mem_of_mem_drop hA
  refine ⟨h.bel, fun A hA => h.ok A (hmem A hA), fun A hA => h.lo A (hmem A hA), ?_⟩
  have hs := h.sep
  unfold List.Nodup at hs hnd ⊢
  rw [List.pairwise_flatMap] at hs ⊢
  refine ⟨fun A hA => hs.1 A (hmem A hA), ?_⟩
  have hp := List.pairwise_iff_getElem.1 hs.2
  have hij : ∀ (i j : Nat) (A B : Asrt), i ≠ j → μ[i]? = some A → μ[j]? = some B → ∀ x ∈ A.fp, ∀ y ∈ B.fp, x ≠ y := by
    intro i j A B hne hA hB x hx y hy
    obtain ⟨h1, rfl⟩ := List.getElem?_eq_some_iff.1 hA
    obtain ⟨h2, rfl⟩ := List.getElem?_eq_some_iff.1 hB
    rcases Nat.lt_or_gt_of_ne hne with hlt | hlt
    · exact hp i j h1 h2 hlt x hx y hy
    · exact fun e => hp j i h2 h1 hlt y hy x hx e.symm
  rw [← he, List.pairwise_append]
  refine ⟨?_, hs.2.sublist (List.drop_sublist k μ), ?_⟩
  · rw [List.pairwise_filterMap]
    exact hnd.imp (fun {i j} hne A hA B hB => hij i j A B hne hA hB)
  · intro A hA B hB
    rw [List.mem_filterMap] at hA
    obtain ⟨i, hi, hA⟩ := hA
    obtain ⟨j, hj⟩ := List.mem_iff_getElem?.1 hB
    rw [List.getElem?_drop] at hj
    have := hk i hi
    rw [decide_eq_true_eq] at this
    exact hij i (k + j) A B (by omega) hA hj
end Go.Proofs.YtlgabpcddldelaaDoor
