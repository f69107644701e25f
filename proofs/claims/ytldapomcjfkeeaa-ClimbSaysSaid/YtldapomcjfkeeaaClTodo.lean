/-
  RightTodo of the reference: what it computes.
-/
import Derived.Test.YtldapomcjfkeeaaClRight
namespace Go.Proofs.Ytldapomcjfkeeaa
set_option linter.unusedVariables false
open Go.ChangeShapes Go.WideShapes Go.ChangeAt Go.RowKit

set_option maxRecDepth 100000 in
set_option maxHeartbeats 8000000 in
theorem clTodo_any (t n : Int) (np : Nat) (aop : Option Addr) (cp : Nat) (cl : Bool) (m k s : Int) (w : World) :
    Calls Try.prog 126 #[.agg #[.int .i64 t, .int .i64 n, .slice aop np cp], .agg #[.bool cl, .int .i64 m, .int .i64 k, .int .i64 s]] w fun e w' => e = .returned (.bool (Cl.good t n np (cl, m, k, s))) ∧ Below w.heap.size w w' := by
  have HB : Hid (∀ o o', Below w.heap.size w ((w.alloc o).alloc o')) := Lib.hid (fun o o' => ((Below.refl _ _).alloc (Nat.le_refl _) _).alloc (by simp) _)
  cases cl
  · by_cases hm : m = 0
    · subst hm
      have HR : Hid (Cl.good t n np (false, 0, k, s) = Gr.right t n (k, s)) := Lib.hid (by rw [Cl.good_sym]; simp)
      go_enter Try.func126, Try.ntmps126
      go_wp2_with (fail)
      go_at_call 48
      refine (rightSym_any t n _ k s _).mono ?_
      rintro e w5 ⟨rfl, hb5⟩
      rw [← HR.out]
      go_wp2
      go_ret
      exact ⟨rfl, (HB.out _ _).trans (hb5.mono (HB.out _ _).size)⟩
    · have HR : Hid (Cl.good t n np (false, m, k, s) = false) := Lib.hid (Cl.sym_no (by omega))
      have mb : (m == 0) = false := by rw [beq_eq_false_iff_ne]; exact hm
      clear hm
      go_enter Try.func126, Try.ntmps126
      go_wp2
      go_ret
      exact ⟨by rw [HR.out]; rfl, HB.out _ _⟩
  · rcases (by omega : k ≠ 0 ∨ (k = 0 ∧ s ≠ 0) ∨ (k = 0 ∧ s = 0 ∧ m < 0) ∨ (k = 0 ∧ s = 0 ∧ 0 ≤ m)) with p1 | ⟨rfl, p2⟩ | ⟨rfl, rfl, p3⟩ | ⟨rfl, rfl, p3⟩
    · have HR : Hid (Cl.good t n np (true, m, k, s) = false) := Lib.hid (by rw [Cl.good_close]; exact decide_eq_false (by omega))
      have k0 : (k == 0) = false := by rw [beq_eq_false_iff_ne]; exact p1
      clear p1
      go_enter Try.func126, Try.ntmps126
      go_wp2
      go_ret
      exact ⟨by rw [HR.out]; rfl, HB.out _ _⟩
    · have HR : Hid (Cl.good t n np (true, m, 0, s) = false) := Lib.hid (by rw [Cl.good_close]; exact decide_eq_false (by omega))
      have k0 : (s == 0) = false := by rw [beq_eq_false_iff_ne]; exact p2
      clear p2
      go_enter Try.func126, Try.ntmps126
      go_wp2
      go_ret
      exact ⟨by rw [HR.out]; rfl, HB.out _ _⟩
    · have HR : Hid (Cl.good t n np (true, m, 0, 0) = false) := Lib.hid (by rw [Cl.good_close]; exact decide_eq_false (by omega))
      have hmd : decide (0 ≤ m) = false := decide_eq_false (by omega)
      go_enter Try.func126, Try.ntmps126
      go_wp2
      go_ret
      refine ⟨?_, HB.out _ _⟩
      rw [HR.out]
      first | rfl | exact congrArg (fun b => Ending.returned (.bool b)) (decide_eq_false (by omega))
    · have HR : Hid (Cl.good t n np (true, m, 0, 0) = decide (m < (np : Int))) := Lib.hid (by rw [Cl.good_close]; simp [p3])
      go_enter Try.func126, Try.ntmps126
      go_wp2
      go_ret
      exact ⟨by rw [HR.out]; rfl, HB.out _ _⟩
end Go.Proofs.Ytldapomcjfkeeaa
