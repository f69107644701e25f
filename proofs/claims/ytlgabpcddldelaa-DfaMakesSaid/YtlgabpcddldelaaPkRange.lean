/-
  A block's first cells. (A helper text; it claims nothing of the program.)
-/
import Derived.Test.YtlgabpcddldelaaRead
namespace Go.Proofs.Ytlgabpcddldelaa
set_option linter.unusedVariables false
open Go.ChangeShapes Go.WideShapes Go.ChangeAt Go.RowKit

theorem Pk.range {w : World} {b : Nat} {A : Array Value} {T : TypeId} {mid post : List Value} (h : w.heap[b]? = some (.cells A T (0, 0))) (hA : A.toList = mid ++ post) : w.rangeAt b 0 mid := by
  intro j x hx
  have hlt := (List.getElem?_eq_some_iff.1 hx).1
  have h2 : A[j]? = some x := by
    rw [← Array.getElem?_toList, hA, List.getElem?_append_left hlt]; exact hx
  simp [World.cell?, h, h2]
theorem Pk.at {w : World} {b : Nat} {A : Array Value} {T : TypeId} {mid : List Value} {v t : Value} (h : w.heap[b]? = some (.cells A T (0, 0))) (hA : A.toList = mid ++ [v, t]) (hm : mid.length = 256) : w.cell? ⟨b, 256, none⟩ = some v ∧ w.cell? ⟨b, 257, none⟩ = some t := by
  have h2 : A[256]? = some v := by
    rw [← Array.getElem?_toList, hA, List.getElem?_append_right (by omega), hm]; rfl
  have h3 : A[257]? = some t := by
    rw [← Array.getElem?_toList, hA, List.getElem?_append_right (by omega), hm]; rfl
  exact ⟨by simp [World.cell?, h, h2], by simp [World.cell?, h, h3]⟩

end Go.Proofs.Ytlgabpcddldelaa
