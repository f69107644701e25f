/-
  Bytes of a text as numbers. (A helper text; it claims nothing of the program.)
-/
import Derived.Test.YtldapomcjfkeeaaMem
namespace Go.Proofs.Ytldapomcjfkeeaa
open Go.ChangeShapes Go.WideShapes Go.ChangeAt Go.RowKit

namespace Pack
/-- Byte j of a text, 0 behind its end. -/
def bat (s : ByteArray) (j : Nat) : Int := ((s.data.toList[j]?).getD 0).toNat
theorem bat_get (s : ByteArray) (k : Nat) (h : k < s.size) : ((s[k]'h).toNat : Int) = bat s k := by
  have h' : k < s.data.toList.length := by simpa using h
  unfold bat
  rw [List.getElem?_eq_getElem h']
  rfl
theorem bat_nn (s : ByteArray) (k : Nat) : 0 ≤ bat s k := by unfold bat; omega
theorem bat_lt (s : ByteArray) (k : Nat) : bat s k < 256 := by unfold bat; have := ((s.data.toList[k]?).getD 0).toNat_lt; omega
end Pack
end Go.Proofs.Ytldapomcjfkeeaa
