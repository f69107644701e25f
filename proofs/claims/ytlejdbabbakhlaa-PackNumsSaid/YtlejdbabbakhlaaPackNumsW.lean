/-
  The walk of the law PackNums.
-/
import Derived.Test.YtlejdbabbakhlaaPackNum
import Derived.Test.YtlejdbabbakhlaaReadNum
namespace Go.Proofs.Ytlejdbabbakhlaa
open Go.ChangeShapes Go.WideShapes Go.ChangeAt Go.RowKit

set_option maxRecDepth 100000 in
theorem packNums_walk (n : Int) (s : ByteArray) (hs : s.size ≤ maxLen) (hn : (Lit.int .u64 n).wf = true) (w : World) :
    Calls Try.prog 5 #[.int .u64 n, .string s] w fun e w' => e = .returned (.bool true) ∧ Below w.heap.size w w' := by
  have hx0 : 0 ≤ n ∧ n ≤ 18446744073709551615 := by simpa [Lit.wf, IntKind.min, IntKind.max, IntKind.signed, IntKind.bits] using hn
  have h1 : n < 18446744073709551616 := by omega
  obtain ⟨h0, _⟩ := hx0
  have hp : n < 128 ^ (9 + 1) := by have : (128 : Int) ^ (9 + 1) = 1180591620717411303424 := by decide
                                    omega
  have Hp := Lib.hid hp; clear hp
  go_enter Try.func5, Try.ntmps5
  go_wp2_with (first
    | (go_at_call 17; refine (readNum_any s hs _).mono ?_; rintro e w' ⟨rfl, rfl⟩)
    | (go_at_call 18; refine (rreadNum_any s hs _).mono ?_; rintro e w' ⟨rfl, rfl⟩)
    | (go_at_call 19; refine (num_any n h0 h1 _).mono ?_; rintro e w1 ⟨rfl, hb1⟩)
    | (go_at_call 20; refine (rnum_any 9 (by decide) n h0 Hp.out h1 _).mono ?_; rintro e w2 ⟨rfl, hb2⟩))
  go_ret
  exact ⟨by simp [Pack.num], hb1.trans (hb2.mono hb1.size)⟩
end Go.Proofs.Ytlejdbabbakhlaa
