/-
  Clone of a list of numbers: what it computes.
-/
import Derived.Test.YtbpjmdemmmdnbaaCloneDat
namespace Go.Proofs.Ytbpjmdemmmdnbaa
set_option linter.unusedVariables false
open Go.ChangeShapes Go.WideShapes Go.ChangeAt Go.RowKit

set_option maxRecDepth 100000 in
theorem clone_any {v : Value} {l : List Int} (w : World) (h : Sl w 1 (RInt .i64) v l) (hroom : l.length * 8 ≤ 140737488355328) :
    Calls Try.prog 40 #[v] w fun e w' => ∃ v', e = .returned v' ∧ Own w' w.heap.size 3 1 v' (l.map (Value.int .i64)) ∧ Below w.heap.size w w' := by
  obtain ⟨ao, b, off, cap, rfl, h1, h2, h3, h4, _⟩ := slInts h
  unfold maxLen at h2
  have H3 := Lib.hid h3; have H4 := Lib.hid h4
  clear h3 h4 h
  cases ao with
  | none =>
    have hl : l.length = 0 := by
      rcases Nat.eq_zero_or_pos l.length with e | e
      · exact e
      · exact absurd (H3.out e).1 (by simp)
    have hl' := List.eq_nil_of_length_eq_zero hl
    subst hl'
    have hnil := fun W => Lib.run_eql_slice_nil_nil (P := Try.prog) W 0 cap Try.underlying23
    simp only [List.length_nil] at *
    go_enter Try.func40, Try.ntmps40
    go_wp2
    go_ret
    exact ⟨_, rfl, Own.nil _ _ _ _, Below.refl _ _⟩
  | some a =>
    have hnil := fun W => Lib.run_eql_slice_some_nil (P := Try.prog) W a l.length cap Try.underlying23
    have hu : Hid (∀ j q, (l.map (Value.int .i64))[j]? = some q → w.cell? (a.add j) = some q) := Lib.hid (fun j q hq => by
      have hj : j < l.length := by
        rcases Nat.lt_or_ge j l.length with e | e
        · exact e
        · rw [List.getElem?_eq_none (by simpa using e)] at hq; cases hq
      obtain ⟨e1, _⟩ := H3.out (by omega)
      simp only [Option.some.injEq] at e1
      subst e1
      rw [Addr.add_mid, H4.out j hj]
      rw [List.getElem?_map, List.getElem?_eq_getElem hj] at hq
      simpa [List.getD, List.getElem?_eq_getElem hj] using hq)
    clear H3 H4
    go_enter Try.func40, Try.ntmps40
    go_wp2_with (at_builtin; refine appNg intE rfl _ _ rfl w.heap.size (k := .i64) [] l rfl (own_lit #[] [] rfl rfl (Nat.le_refl _) (by decide)) a _ _ rfl rfl (fun j q hq => bkeep ((Below.refl _ _).alloc (Nat.le_refl _) _) (hu.out j q hq)) (by simp; omega) (by unfold maxLen; simp; omega) (by simp) ?_; intro v' w1 hown1 hgr1)
    go_ret
    have hgr2 : (w.alloc (.cells #[] 3)).grownBy w1 (some w.heap.size) := hgr1
    exact ⟨v', rfl, by simpa using hown1, ((Below.refl _ _).alloc (Nat.le_refl _) _).grown hgr2 (by simp) (fun q hq => by cases hq; exact Nat.le_refl _)⟩
end Go.Proofs.Ytbpjmdemmmdnbaa
