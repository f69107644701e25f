/-
  Sum of package sum, four of the reference: what they compute. (The same texts as in Frame, for seats without frame.Check.)
-/
import Derived.Test.YtldapomcjfkeeaaSumRef
namespace Go.Proofs.Ytldapomcjfkeeaa
open Go.ChangeShapes Go.WideShapes Go.ChangeAt Go.RowKit

namespace Frm
def four (c : Int) : List Int := [c % 256, c / 256 % 256, c / 65536 % 256, c / 16777216]
theorem zero_in : Crc.In 0 := ⟨by decide, by decide⟩
end Frm

theorem sum_any (s : ByteArray) (hs : s.size ≤ maxLen) (w : World) :
    Calls Try.prog 137 #[.string s] w fun e w' => e = .returned (.int .u32 (Crc.more 0 s.data.toList)) ∧ w = w' := by
  go_enter Try.func137, Try.ntmps137
  go_wp2_with (go_at_call 162; refine (more_any _ _ Frm.zero_in (by assumption) _).mono ?_; rintro e w' ⟨rfl, rfl⟩)
  go_ret
  exact ⟨rfl, rfl⟩


theorem four_any (c : Int) (hc : Crc.In c) (w : World) :
    Calls Try.prog 73 #[.int .u32 c] w fun e w' => e = .returned (.string (strOfNums (Frm.four c))) ∧ Below w.heap.size w w' := by
  obtain ⟨h0, h1⟩ := hc
  have hcv : ∀ W : World, (convert 155 9 (.slice (some ⟨W.heap.size, 0, none⟩) 4 4)).run Try.prog (W.alloc (.cells #[.int .u8 (c % 256), .int .u8 (c / 256 % 256), .int .u8 (c / 65536 % 256), .int .u8 (c / 16777216)] 5)) =
      .ok (.string (strOfNums (Frm.four c))) (W.alloc (.cells #[.int .u8 (c % 256), .int .u8 (c / 256 % 256), .int .u8 (c / 65536 % 256), .int .u8 (c / 16777216)] 5)) := fun W =>
    str_of_own (B := W.heap.size) Try.underlying155 Try.underlying5 Try.underlying9 (Frm.four c) (own_lit _ (Frm.four c) rfl rfl (Nat.le_refl _) (by decide))
  go_enter Try.func73, Try.ntmps73
  go_wp2
  go_ret
  exact ⟨rfl, (Below.refl _ _).alloc (Nat.le_refl _) _⟩
end Go.Proofs.Ytldapomcjfkeeaa
