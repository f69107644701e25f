/-
  The walk of the law PackTexts.
-/
import Derived.Test.YtlejdbabbakhlaaPackText
namespace Go.Proofs.Ytlejdbabbakhlaa
open Go.ChangeShapes Go.WideShapes Go.ChangeAt Go.RowKit

set_option maxRecDepth 100000 in
theorem packTexts_walk (s t : ByteArray) (hs : s.size ≤ maxLen) (ht : t.size ≤ maxLen) (w : World) :
    Calls Try.prog 8 #[.string s, .string t] w fun e w' => e = .returned (.bool true) ∧ Below w.heap.size w w' := by
  have hs' := hs
  unfold maxLen at hs'
  by_cases hl : 4096 < s.size
  · have hne : (!ByteArray.empty.toList.isEmpty) = false := by rw [ByteArray.toList_empty]; rfl
    go_enter Try.func8, Try.ntmps8
    go_wp2_with (first
      | (go_at_call 31; refine (text_large s hs hl _).mono ?_; rintro e w' ⟨rfl, rfl⟩)
      | (go_at_call 32; refine (readText_any t ht _).mono ?_; rintro e w' ⟨rfl, rfl⟩)
      | (go_at_call 33; refine (rreadText_any t ht _).mono ?_; rintro e w' ⟨rfl, rfl⟩))
    go_ret
    exact ⟨by simp, Below.refl _ _⟩
  · have hln := Pack.numF_len 10 s.size
    have hadd := fun W => run_string_add_sum (P := Try.prog) W (strOfNums (Pack.num s.size)) s (by rw [strOfNums_size]; unfold Pack.num; omega)
    clear hln
    go_enter Try.func8, Try.ntmps8
    go_wp2_with (first
      | (go_at_call 31; refine (text_small s (by omega) _).mono ?_; rintro e w1 ⟨rfl, hb1⟩)
      | (go_at_call 20; refine (rnum10 _ (by omega) (by omega) _).mono ?_; rintro e w2 ⟨rfl, hb2⟩)
      | (go_at_call 32; refine (readText_any t ht _).mono ?_; rintro e w' ⟨rfl, rfl⟩)
      | (go_at_call 33; refine (rreadText_any t ht _).mono ?_; rintro e w' ⟨rfl, rfl⟩))
    go_ret
    exact ⟨by simp, hb1.trans (hb2.mono hb1.size)⟩
end Go.Proofs.Ytlejdbabbakhlaa
