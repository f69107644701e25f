/-
  An inbox and a text that came in, within the bound of the second form.
-/
import Derived.Test.YtldapomcjfkeeaaFrameFeedsW
import Derived.Deep.Slices
namespace Go.Proofs.Ytldapomcjfkeeaa
set_option linter.unusedVariables false
open Go.ChangeShapes Go.WideShapes Go.ChangeAt Go.RowKit Go.Joins

section
variable {H : Type} {enc : TypeId × Value → H} {w : World} {base : Nat} {spare : Nat → Bool} {held : Bool}
set_option maxRecDepth 100000 in
theorem open_Inbox {r : Reach} {b0 : Nat} {v : Value} {d : DataW H} {p : List MemPlace} (hv : Value.okWide Try.prog w r b0 24 v) (h : DataW.Trod enc Try.prog w base spare held 24 v d p) :
    ∃ t k, v = .agg #[.string t, .int .i64 k] ∧ t.size ≤ Rows.uptoBulk d := by
  obtain ⟨v0, v1, y0, y1, n, rfl, rfl, _, h0, h1⟩ := open_agg2 Try.underlying24 (by kernel_rfl) (by kernel_rfl) hv h
  obtain ⟨t, ht, hx, _⟩ := DataW.trod_string Try.underlying9 h0
  obtain ⟨k, hk, _⟩ := rInt Try.underlying22 h1
  simp only [List.cons.injEq, and_true] at ht hk
  subst ht hk
  refine ⟨t, k, rfl, ?_⟩
  rw [hx]
  simp only [Rows.uptoBulk, Rows.uptoBulkAll]
  have : t.data.toList.length = t.size := by simp
  omega
end
theorem inboxBound {H : Type} {d0 d1 : DataW H} {gs : List (DataW H)} {t s : ByteArray} (hk : Rows.uptoSmall H ([d0, d1] ++ gs) = true) (h0 : t.size ≤ Rows.uptoBulk d0) (h1 : d1 = .lit (.string s.data.toList)) : t.size + s.size ≤ 1048576 := by
  have h := of_decide_eq_true hk
  subst h1
  simp only [List.cons_append, List.nil_append, Rows.uptoBulkAll, Rows.uptoBulk] at h
  have : s.data.toList.length = s.size := by simp
  omega
end Go.Proofs.Ytldapomcjfkeeaa
