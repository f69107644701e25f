/-
  A frame that came in, opened.
-/
import Derived.Test.YtlejdbabbakhlaaRead
namespace Go.Proofs.Ytlejdbabbakhlaa
open Go.ChangeShapes Go.WideShapes Go.ChangeAt Go.RowKit Go.Joins
section
variable {H : Type} {enc : TypeId × Value → H} {w : World} {base : Nat} {spare : Nat → Bool} {held : Bool}
set_option maxRecDepth 100000 in
theorem open_Frame {r : Reach} {b0 : Nat} {v : Value} {d : DataW H} {p : List MemPlace} (hv : Value.okWide Try.prog w r b0 37 v) (h : DataW.Trod enc Try.prog w base spare held 37 v d p) :
    ∃ k who b, v = .agg #[.int .i64 k, .int .i64 who, .string b] ∧ b.size ≤ maxLen := by
  obtain ⟨v0, v1, v2, y0, y1, y2, n, rfl, _, _, h0, h1, h2⟩ := open_agg3 Try.underlying37 (by kernel_rfl) (by kernel_rfl) hv h
  obtain ⟨k, hk, _⟩ := rInt Try.underlying3 h0
  obtain ⟨who, hw, _⟩ := rInt Try.underlying3 h1
  obtain ⟨b, hb, hs⟩ := rStr Try.underlying9 h2
  simp only [List.cons.injEq, and_true] at hk hw hb
  subst hk hw hb
  exact ⟨k, who, b, rfl, hs⟩
end
end Go.Proofs.Ytlejdbabbakhlaa
