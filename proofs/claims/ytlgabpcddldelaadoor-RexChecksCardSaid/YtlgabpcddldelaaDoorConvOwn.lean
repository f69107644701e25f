/-
  string(b) of own bytes, nil or not. (A helper text; it claims nothing of the program.)
-/
import Derived.Test.YtlgabpcddldelaaDoorMem
namespace Go.Proofs.YtlgabpcddldelaaDoor
set_option linter.unusedVariables false
open Go.ChangeShapes Go.WideShapes Go.ChangeAt Go.RowKit

theorem convOwn {P : Program} {w : World} {src e dst : TypeId} {v : Value} (hs : P.underlying src = some (.slice e)) (he : P.underlying e = some (.int .u8)) (hd : P.underlying dst = some .string) (xs : List Int) (h : Own w 0 e 1 v (xs.map (Value.int .u8))) :
    (convert src dst v).run P w = .ok (.string (strOfNums xs)) w := by
  rcases h.shape with ⟨h1, h2⟩ | ⟨g, cap, h1, _⟩
  · have : xs = [] := by simpa using h2
    subst this; subst h1
    rw [run_convert_bytes_nil w src e hs he 0 0 dst hd]
    rfl
  · subst h1
    exact str_of_own hs he hd xs h
end Go.Proofs.YtlgabpcddldelaaDoor
