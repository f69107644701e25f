/-
  right of package climb, RightTodo of the reference: what they compute.
-/
import Derived.Test.YtldapomcjfkeeaaCl
import Derived.Test.YtldapomcjfkeeaaSepAt
namespace Go.Proofs.Ytldapomcjfkeeaa
set_option linter.unusedVariables false
open Go.ChangeShapes Go.WideShapes Go.ChangeAt Go.RowKit

namespace Cl
theorem good_close {t n : Int} {np : Nat} {m k s : Int} : good t n np (true, m, k, s) = decide (0 ≤ m ∧ m < np ∧ k = 0 ∧ s = 0) := by simp [good]
theorem good_sym {t n : Int} {np : Nat} {m k s : Int} : good t n np (false, m, k, s) = (decide (m = 0) && Gr.right t n (k, s)) := by simp [good]
theorem sym_yes {t n : Int} {np : Nat} {m k s : Int} (h0 : m = 0) (h : (k = 1 ∧ 0 ≤ s ∧ s < t) ∨ (k = 2 ∧ 0 ≤ s ∧ s < n)) : good t n np (false, m, k, s) = true := by
  rw [good_sym, Gr.right_yes h]; simp [h0]
theorem sym_no {t n : Int} {np : Nat} {m k s : Int} (h : ¬ (m = 0 ∧ ((k = 1 ∧ 0 ≤ s ∧ s < t) ∨ (k = 2 ∧ 0 ≤ s ∧ s < n)))) : good t n np (false, m, k, s) = false := by
  rw [good_sym]
  by_cases h0 : m = 0
  · rw [Gr.right_no (fun g => h ⟨h0, g⟩), Bool.and_false]
  · simp [h0]
end Cl

set_option maxRecDepth 100000 in
set_option maxHeartbeats 8000000 in
theorem clRight_any (t n : Int) (np : Nat) (aop : Option Addr) (cp : Nat) (cl : Bool) (m k s : Int) (w : World) :
    Calls Try.prog 158 #[.agg #[.int .i64 t, .int .i64 n, .slice aop np cp], .agg #[.bool cl, .int .i64 m, .int .i64 k, .int .i64 s]] w fun e w' => e = .returned (.bool (Cl.good t n np (cl, m, k, s))) ∧ Below w.heap.size w w' := by
  have HB : Hid (∀ o o', Below w.heap.size w ((w.alloc o).alloc o')) := Lib.hid (fun o o' => ((Below.refl _ _).alloc (Nat.le_refl _) _).alloc (by simp) _)
  cases cl
  · rcases (by omega : (k = 1 ∧ m ≠ 0) ∨ (k = 1 ∧ m = 0 ∧ s < 0) ∨ (k = 1 ∧ m = 0 ∧ 0 ≤ s ∧ t ≤ s) ∨ (k = 1 ∧ m = 0 ∧ 0 ≤ s ∧ s < t) ∨ (k = 2 ∧ m ≠ 0) ∨ (k = 2 ∧ m = 0 ∧ s < 0) ∨ (k = 2 ∧ m = 0 ∧ 0 ≤ s ∧ n ≤ s) ∨ (k = 2 ∧ m = 0 ∧ 0 ≤ s ∧ s < n) ∨ (k ≠ 1 ∧ k ≠ 2)) with ⟨rfl, p1⟩ | ⟨rfl, rfl, p2⟩ | ⟨rfl, rfl, p2, p3⟩ | ⟨rfl, rfl, p2, p3⟩ | ⟨rfl, p1⟩ | ⟨rfl, rfl, p2⟩ | ⟨rfl, rfl, p2, p3⟩ | ⟨rfl, rfl, p2, p3⟩ | ⟨p1, p2⟩
    · have HR : Hid (Cl.good t n np (false, m, 1, s) = false) := Lib.hid (by exact Cl.sym_no (by omega))
      have mb : (m == 0) = false := by rw [beq_eq_false_iff_ne]; exact p1
      clear p1
      go_enter Try.func158, Try.ntmps158
      go_wp2
      go_ret
      refine ⟨?_, HB.out _ _⟩
      rw [HR.out]
      first | rfl | exact congrArg (fun b => Ending.returned (.bool b)) (decide_eq_false (by omega)) | exact congrArg (fun b => Ending.returned (.bool b)) (decide_eq_true (by omega))
    · have HR : Hid (Cl.good t n np (false, 0, 1, s) = false) := Lib.hid (by exact Cl.sym_no (by omega))
      go_enter Try.func158, Try.ntmps158
      go_wp2
      go_ret
      refine ⟨?_, HB.out _ _⟩
      rw [HR.out]
      first | rfl | exact congrArg (fun b => Ending.returned (.bool b)) (decide_eq_false (by omega)) | exact congrArg (fun b => Ending.returned (.bool b)) (decide_eq_true (by omega))
    · have HR : Hid (Cl.good t n np (false, 0, 1, s) = false) := Lib.hid (by exact Cl.sym_no (by omega))
      go_enter Try.func158, Try.ntmps158
      go_wp2
      go_ret
      refine ⟨?_, HB.out _ _⟩
      rw [HR.out]
      first | rfl | exact congrArg (fun b => Ending.returned (.bool b)) (decide_eq_false (by omega)) | exact congrArg (fun b => Ending.returned (.bool b)) (decide_eq_true (by omega))
    · have HR : Hid (Cl.good t n np (false, 0, 1, s) = true) := Lib.hid (by exact Cl.sym_yes rfl (by omega))
      go_enter Try.func158, Try.ntmps158
      go_wp2
      go_ret
      refine ⟨?_, HB.out _ _⟩
      rw [HR.out]
      first | rfl | exact congrArg (fun b => Ending.returned (.bool b)) (decide_eq_false (by omega)) | exact congrArg (fun b => Ending.returned (.bool b)) (decide_eq_true (by omega))
    · have HR : Hid (Cl.good t n np (false, m, 2, s) = false) := Lib.hid (by exact Cl.sym_no (by omega))
      have mb : (m == 0) = false := by rw [beq_eq_false_iff_ne]; exact p1
      clear p1
      go_enter Try.func158, Try.ntmps158
      go_wp2
      go_ret
      refine ⟨?_, HB.out _ _⟩
      rw [HR.out]
      first | rfl | exact congrArg (fun b => Ending.returned (.bool b)) (decide_eq_false (by omega)) | exact congrArg (fun b => Ending.returned (.bool b)) (decide_eq_true (by omega))
    · have HR : Hid (Cl.good t n np (false, 0, 2, s) = false) := Lib.hid (by exact Cl.sym_no (by omega))
      go_enter Try.func158, Try.ntmps158
      go_wp2
      go_ret
      refine ⟨?_, HB.out _ _⟩
      rw [HR.out]
      first | rfl | exact congrArg (fun b => Ending.returned (.bool b)) (decide_eq_false (by omega)) | exact congrArg (fun b => Ending.returned (.bool b)) (decide_eq_true (by omega))
    · have HR : Hid (Cl.good t n np (false, 0, 2, s) = false) := Lib.hid (by exact Cl.sym_no (by omega))
      go_enter Try.func158, Try.ntmps158
      go_wp2
      go_ret
      refine ⟨?_, HB.out _ _⟩
      rw [HR.out]
      first | rfl | exact congrArg (fun b => Ending.returned (.bool b)) (decide_eq_false (by omega)) | exact congrArg (fun b => Ending.returned (.bool b)) (decide_eq_true (by omega))
    · have HR : Hid (Cl.good t n np (false, 0, 2, s) = true) := Lib.hid (by exact Cl.sym_yes rfl (by omega))
      go_enter Try.func158, Try.ntmps158
      go_wp2
      go_ret
      refine ⟨?_, HB.out _ _⟩
      rw [HR.out]
      first | rfl | exact congrArg (fun b => Ending.returned (.bool b)) (decide_eq_false (by omega)) | exact congrArg (fun b => Ending.returned (.bool b)) (decide_eq_true (by omega))
    · have HR : Hid (Cl.good t n np (false, m, k, s) = false) := Lib.hid (by exact Cl.sym_no (by omega))
      have k1 : (k == 1) = false := by rw [beq_eq_false_iff_ne]; exact p1
      have k2 : (k == 2) = false := by rw [beq_eq_false_iff_ne]; exact p2
      clear p1 p2
      go_enter Try.func158, Try.ntmps158
      go_wp2
      go_ret
      refine ⟨?_, HB.out _ _⟩
      rw [HR.out]
      first | rfl | exact congrArg (fun b => Ending.returned (.bool b)) (decide_eq_false (by omega)) | exact congrArg (fun b => Ending.returned (.bool b)) (decide_eq_true (by omega))
  · rcases (by omega : m < 0 ∨ (0 ≤ m ∧ (np : Int) ≤ m) ∨ (0 ≤ m ∧ m < (np : Int) ∧ k ≠ 0) ∨ (0 ≤ m ∧ m < (np : Int) ∧ k = 0 ∧ s ≠ 0) ∨ (0 ≤ m ∧ m < (np : Int) ∧ k = 0 ∧ s = 0)) with p1 | ⟨p1, p2⟩ | ⟨p1, p2, p3⟩ | ⟨p1, p2, rfl, p4⟩ | ⟨p1, p2, rfl, rfl⟩
    · have HR : Hid (Cl.good t n np (true, m, k, s) = false) := Lib.hid (by rw [Cl.good_close]; exact decide_eq_false (by omega))
      go_enter Try.func158, Try.ntmps158
      go_wp2
      go_ret
      refine ⟨?_, HB.out _ _⟩
      rw [HR.out]
      first | rfl | exact congrArg (fun b => Ending.returned (.bool b)) (decide_eq_false (by omega)) | exact congrArg (fun b => Ending.returned (.bool b)) (decide_eq_true (by omega))
    · have HR : Hid (Cl.good t n np (true, m, k, s) = false) := Lib.hid (by rw [Cl.good_close]; exact decide_eq_false (by omega))
      go_enter Try.func158, Try.ntmps158
      go_wp2
      go_ret
      refine ⟨?_, HB.out _ _⟩
      rw [HR.out]
      first | rfl | exact congrArg (fun b => Ending.returned (.bool b)) (decide_eq_false (by omega)) | exact congrArg (fun b => Ending.returned (.bool b)) (decide_eq_true (by omega))
    · have HR : Hid (Cl.good t n np (true, m, k, s) = false) := Lib.hid (by rw [Cl.good_close]; exact decide_eq_false (by omega))
      have k0 : (k == 0) = false := by rw [beq_eq_false_iff_ne]; exact p3
      clear p3
      go_enter Try.func158, Try.ntmps158
      go_wp2
      go_ret
      refine ⟨?_, HB.out _ _⟩
      rw [HR.out]
      first | rfl | exact congrArg (fun b => Ending.returned (.bool b)) (decide_eq_false (by omega)) | exact congrArg (fun b => Ending.returned (.bool b)) (decide_eq_true (by omega))
    · have HR : Hid (Cl.good t n np (true, m, 0, s) = false) := Lib.hid (by rw [Cl.good_close]; exact decide_eq_false (by omega))
      have s0 : (s == 0) = false := by rw [beq_eq_false_iff_ne]; exact p4
      clear p4
      go_enter Try.func158, Try.ntmps158
      go_wp2
      go_ret
      refine ⟨?_, HB.out _ _⟩
      rw [HR.out]
      first | rfl | exact congrArg (fun b => Ending.returned (.bool b)) (decide_eq_false (by omega)) | exact congrArg (fun b => Ending.returned (.bool b)) (decide_eq_true (by omega))
    · have HR : Hid (Cl.good t n np (true, m, 0, 0) = true) := Lib.hid (by rw [Cl.good_close]; exact decide_eq_true ⟨p1, p2, rfl, rfl⟩)
      go_enter Try.func158, Try.ntmps158
      go_wp2
      go_ret
      refine ⟨?_, HB.out _ _⟩
      rw [HR.out]
      first | rfl | exact congrArg (fun b => Ending.returned (.bool b)) (decide_eq_false (by omega)) | exact congrArg (fun b => Ending.returned (.bool b)) (decide_eq_true (by omega))
end Go.Proofs.Ytldapomcjfkeeaa
