/-
  The walk of the law FrameSays.
-/
import Derived.Test.YtlejdbabbakhlaaFrame
import Derived.Test.YtlejdbabbakhlaaOpenFrame
namespace Go.Proofs.Ytlejdbabbakhlaa
open Go.ChangeShapes Go.WideShapes Go.ChangeAt Go.RowKit

set_option maxRecDepth 100000 in
theorem frameSays_walk (k who : Int) (b : ByteArray) (hb : b.size ≤ maxLen) (w : World) :
    Calls Try.prog 6 #[.agg #[.int .i64 k, .int .i64 who, .string b]] w fun e w' => e = .returned (.bool true) ∧ Below w.heap.size w w' := by
  rcases Frm.err_cases k who b with ⟨h0, h2⟩ | ⟨he, h1, h2, h3, h4, h5⟩
  · have hne : ((Frm.err k who b) == 0) = false := by simp; omega
    go_enter Try.func6, Try.ntmps6
    go_wp2_with (first
      | (go_at_call 21; refine (rfrm_any k who b hb _).mono ?_; rintro e w1 ⟨rfl, hb1⟩; obtain ⟨hcl, hfr⟩ := bcell hb1; have hz : w.heap.size < w1.heap.size := by have := hb1.size; simp at this; omega)
      | (go_at_call 22; refine (frameWrite_bad k who b hb h0 _).mono ?_; rintro e w2 ⟨rfl, hb2⟩; obtain ⟨hcl2, hfr2⟩ := bcell hb2)
      | (go_at_call 24; refine (frmCheck_any k who b hb _).mono ?_; rintro e w3 ⟨rfl, hb3⟩))
    go_ret
    have b1 : Below w.heap.size w w1 := ((Below.refl _ _).alloc (Nat.le_refl _) _).trans (hb1.mono (by simp))
    exact ⟨rfl, (b1.trans (hb2.mono b1.size)).trans (hb3.mono (Nat.le_trans b1.size hb2.size))⟩
  · have HE := Lib.hid he; clear he
    go_enter Try.func6, Try.ntmps6
    go_wp2_with (first
      | (go_at_call 21; refine (rfrm_any k who b hb _).mono ?_; rintro e w1 ⟨rfl, hb1⟩; rw [HE.out]; obtain ⟨hcl, hfr⟩ := bcell hb1; have hz : w.heap.size < w1.heap.size := by have := hb1.size; simp at this; omega)
      | (go_at_call 22; refine (frameWrite_ok k who b h1 h2 h3 h4 h5 HE.out _).mono ?_; rintro e w2 ⟨rfl, hb2⟩; obtain ⟨hcl2, hfr2⟩ := bcell hb2; have hz2 : w.heap.size < w2.heap.size := by have := hb2.size; omega)
      | (go_at_call 23; refine (frameText_any k who b h1 h2 h3 h4 h5 _).mono ?_; rintro e w3 ⟨rfl, hb3⟩; obtain ⟨hcl3, hfr3⟩ := bcell hb3; have hz3 : w.heap.size < w3.heap.size := by have := hb3.size; omega)
      | (go_at_call 24; refine (frmCheck_any k who b hb _).mono ?_; rintro e w4 ⟨rfl, hb4⟩; rw [HE.out]))
    go_ret
    have b1 : Below w.heap.size w w1 := ((Below.refl _ _).alloc (Nat.le_refl _) _).trans (hb1.mono (by simp))
    have b2 := b1.trans (hb2.mono b1.size)
    have b3 := b2.trans (hb3.mono b2.size)
    exact ⟨rfl, b3.trans (hb4.mono b3.size)⟩
end Go.Proofs.Ytlejdbabbakhlaa
