/-
  strings.IndexByte: whatever the text and the byte.
-/
import Derived.Test.YtlgabpcddldelaaDoorMem
import Derived.Laws.Externs
import Derived.Lib.IndexBytes
import Derived.Lib.Hide
namespace Go.Proofs.YtlgabpcddldelaaDoor
set_option linter.unusedVariables false
set_option linter.unusedSimpArgs false
open Go.ChangeShapes Go.WideShapes Go.ChangeAt Go.RowKit

set_option maxRecDepth 100000 in
theorem strIndex_any (s : ByteArray) (c : Int) (w : World) : Calls Tryd.prog 88 #[.string s, .int .u8 c] w fun e w' => e = .returned (.int .i64 (Lib.indexByte s.data.toList c.toNat.toUInt8)) ∧ w' = w := by
  have hx : ∀ W, (callFunc 104 #[.string s, .int .u8 c]).run Tryd.prog W = .ok (.value (.int .i64 (Lib.indexByte s.data.toList c.toNat.toUInt8))) W := fun W => by
    rw [run_callFunc_extern (e := Extern.BytealgIndexByte.indexByte) Tryd.func104 (by kernel_rfl) (by kernel_rfl) (by kernel_rfl) (by kernel_rfl), Lib.run_indexByteString]
    rfl
  generalize Lib.indexByte s.data.toList c.toNat.toUInt8 = R at *
  have H96 : ∀ W, Calls Tryd.prog 96 #[.string s, .int .u8 c] W fun e w' => e = .returned (.int .i64 R) ∧ w' = W := by
    intro W
    go_enter Tryd.func96, Tryd.ntmps96
    go_wp2
    go_ret
    exact ⟨rfl, rfl⟩
  have HC := Lib.hid H96
  clear H96 hx
  go_enter Tryd.func88, Tryd.ntmps88
  go_wp2_with (fail)
  go_at_call 96
  refine (HC.out _).mono ?_
  rintro e w1 ⟨rfl, rfl⟩
  go_wp2
  go_ret
  exact ⟨rfl, rfl⟩
end Go.Proofs.YtlgabpcddldelaaDoor
