/-
  A table as data; what is wrong with it: lr.Check and RightTable of the reference.
-/
import Derived.Test.YtldapomcjfkeeaaGramChk
namespace Go.Proofs.Ytldapomcjfkeeaa
set_option linter.unusedVariables false
open Go.ChangeShapes Go.WideShapes Go.ChangeAt Go.RowKit

/-- A slice of slices. -/
theorem slSl {α : Type} {E : Enc α} {b1 b2 : Nat} {F : Nat → Prop} {w : World} {v : Value} {l : List (List α)} (h : ((E.sl b1).sl b2).R F w [v] l) :
    ∃ (ao : Option Addr) (b off cap : Nat), v = .slice ao l.length cap ∧ (l.length : Int) * b2 ≤ 140737488355328 ∧ (0 < l.length → ao = some ⟨b, off, none⟩ ∧ b < w.heap.size ∧ F b) ∧
      ∀ i, i < l.length → ∃ ai ci, w.cell? ⟨b, off + i, none⟩ = some (.slice ai (l.getD i []).length ci) ∧ (E.sl b1).R F w [.slice ai (l.getD i []).length ci] (l.getD i []) := by
  obtain ⟨ao, b, off, cap, h0, h1, h2, h3⟩ := Enc.slN [] h
  refine ⟨ao, b, off, cap, h0, h1, h2, fun i hi => ?_⟩
  obtain ⟨cs, _, g2, g3⟩ := h3 i hi
  have g4 := g3
  obtain ⟨ai, _, _, ci, rfl, _⟩ := g4
  refine ⟨ai, ci, ?_, g3⟩
  have := g2 0 (by show 0 < 1; decide)
  simpa [Enc.sl] using this

namespace Tb
def right (t : Int) (np m : Nat) (x : Int × Int) (c : Int) : Bool :=
  decide (x.1 = 0 ∧ x.2 = 0) || decide (x.1 = 1 ∧ c < t ∧ 0 ≤ x.2 ∧ x.2 < m) || decide (x.1 = 2 ∧ 0 ≤ x.2 ∧ x.2 < np) || decide (x.1 = 3 ∧ x.2 = 0 ∧ c = t)
theorem right_iff {t : Int} {np m : Nat} {x : Int × Int} {c : Int} : right t np m x c = true ↔ (x.1 = 0 ∧ x.2 = 0) ∨ (x.1 = 1 ∧ c < t ∧ 0 ≤ x.2 ∧ x.2 < m) ∨ (x.1 = 2 ∧ 0 ≤ x.2 ∧ x.2 < np) ∨ (x.1 = 3 ∧ x.2 = 0 ∧ c = t) := by
  simp only [right, Bool.or_eq_true, decide_eq_true_eq, or_assoc]
theorem right_no {t : Int} {np m : Nat} {x : Int × Int} {c : Int} (h : ¬ ((x.1 = 0 ∧ x.2 = 0) ∨ (x.1 = 1 ∧ c < t ∧ 0 ≤ x.2 ∧ x.2 < m) ∨ (x.1 = 2 ∧ 0 ≤ x.2 ∧ x.2 < np) ∨ (x.1 = 3 ∧ x.2 = 0 ∧ c = t))) : right t np m x c = false := by
  cases hr : right t np m x c
  · rfl
  · exact absurd (right_iff.1 hr) h
def rowGood (t : Int) (np m : Nat) (row : List (Int × Int)) : Prop := ∀ c, c < row.length → right t np m (row.getD c (0, 0)) c = true
def goGood (m : Nat) (row : List Int) : Prop := ∀ c, c < row.length → -1 ≤ row.getD c 0 ∧ row.getD c 0 < m
def At (t n : Int) (np m : Nat) (a : List (Int × Int)) (g : List Int) : Prop := (a.length : Int) = t + 1 ∧ (g.length : Int) = n ∧ rowGood t np m a ∧ goGood m g
def Good (t n : Int) (np : Nat) (acts : List (List (Int × Int))) (gts : List (List Int)) : Prop := ∀ i, i < acts.length → At t n np acts.length (acts.getD i []) (gts.getD i [])
open Classical in
noncomputable def err (t n : Int) (np : Nat) (acts : List (List (Int × Int))) (gts : List (List Int)) : Int :=
  if 200 < acts.length then 2 else if acts.length = 0 ∨ gts.length ≠ acts.length then 1 else if Good t n np acts gts then 0 else 1
theorem err_large {t n np acts gts} (h : 200 < acts.length) : err t n np acts gts = 2 := by rw [err, if_pos h]
theorem err_arg {t n np acts gts} (h : ¬ 200 < acts.length) (h1 : acts.length = 0 ∨ gts.length ≠ acts.length) : err t n np acts gts = 1 := by rw [err, if_neg h, if_pos h1]
theorem err_bad {t n np acts gts} (h : ¬ 200 < acts.length) (h1 : ¬ Good t n np acts gts) : err t n np acts gts = 1 := by
  rw [err, if_neg h]
  by_cases h2 : acts.length = 0 ∨ gts.length ≠ acts.length
  · rw [if_pos h2]
  · rw [if_neg h2, if_neg h1]
theorem err_ok {t n np acts gts} (h : ¬ 200 < acts.length) (h1 : ¬ (acts.length = 0 ∨ gts.length ≠ acts.length)) (h2 : Good t n np acts gts) : err t n np acts gts = 0 := by rw [err, if_neg h, if_neg h1, if_pos h2]
end Tb
attribute [irreducible] Tb.right Tb.err

set_option maxRecDepth 100000 in
set_option maxHeartbeats 8000000 in
theorem lrRight_any (t n : Int) (np m : Nat) (aop aoa : Option Addr) (cp ca : Nat) (vg : Value) (x1 x2 c : Int) (w : World) (ht0 : 0 ≤ t) (ht1 : t ≤ 30) (hnp : np ≤ 40) (hm : m ≤ 200) :
    Calls Try.prog 163 #[.agg #[.int .i64 t, .int .i64 n, .slice aop np cp], .agg #[.slice aoa m ca, vg], .agg #[.int .i64 x1, .int .i64 x2], .int .i64 c] w fun e w' => e = .returned (.bool (Tb.right t np m (x1, x2) c)) ∧ Below w.heap.size w w' := by
  rcases (by omega : (x1 = 0 ∧ x2 = 0) ∨ (x1 = 0 ∧ x2 ≠ 0) ∨ (x1 = 1 ∧ t ≤ c) ∨ (x1 = 1 ∧ c < t ∧ x2 < 0) ∨ (x1 = 1 ∧ c < t ∧ 0 ≤ x2 ∧ (m : Int) ≤ x2) ∨ (x1 = 1 ∧ c < t ∧ 0 ≤ x2 ∧ x2 < (m : Int)) ∨ (x1 = 2 ∧ x2 < 0) ∨ (x1 = 2 ∧ 0 ≤ x2 ∧ (np : Int) ≤ x2) ∨ (x1 = 2 ∧ 0 ≤ x2 ∧ x2 < (np : Int)) ∨ (x1 = 3 ∧ x2 ≠ 0) ∨ (x1 = 3 ∧ x2 = 0 ∧ c ≠ t) ∨ (x1 = 3 ∧ x2 = 0 ∧ c = t) ∨ (x1 ≠ 0 ∧ x1 ≠ 1 ∧ x1 ≠ 2 ∧ x1 ≠ 3)) with ⟨p0, p1⟩ | ⟨p0, p1⟩ | ⟨p0, p1⟩ | ⟨p0, p1, p2⟩ | ⟨p0, p1, p2, p3⟩ | ⟨p0, p1, p2, p3⟩ | ⟨p0, p1⟩ | ⟨p0, p1, p2⟩ | ⟨p0, p1, p2⟩ | ⟨p0, p1⟩ | ⟨p0, p1, p2⟩ | ⟨p0, p1, p2⟩ | ⟨p0, p1, p2, p3⟩
  · have HR : Hid (Tb.right t np m (x1, x2) c = true) := Lib.hid (by rw [Tb.right_iff]; simp only []; omega)
    have e0 : ((x1 : Int) == 0) = true := by rw [beq_iff_eq]; omega
    have e1 : ((x1 : Int) == 1) = false := by rw [beq_eq_false_iff_ne]; omega
    have e2 : ((x1 : Int) == 2) = false := by rw [beq_eq_false_iff_ne]; omega
    have e3 : ((x1 : Int) == 3) = false := by rw [beq_eq_false_iff_ne]; omega
    have n0 : ((x2 : Int) == 0) = true := by rw [beq_iff_eq]; omega
    clear p0 p1
    go_enter Try.func163, Try.ntmps163
    go_wp2
    go_ret
    exact ⟨by rw [HR.out]; rfl, (((Below.refl _ _).alloc (Nat.le_refl _) _).alloc (by simp) _).alloc (by simp; omega) _⟩
  · have HR : Hid (Tb.right t np m (x1, x2) c = false) := Lib.hid (by refine Tb.right_no ?_; simp only []; omega)
    have e0 : ((x1 : Int) == 0) = true := by rw [beq_iff_eq]; omega
    have e1 : ((x1 : Int) == 1) = false := by rw [beq_eq_false_iff_ne]; omega
    have e2 : ((x1 : Int) == 2) = false := by rw [beq_eq_false_iff_ne]; omega
    have e3 : ((x1 : Int) == 3) = false := by rw [beq_eq_false_iff_ne]; omega
    have n0 : ((x2 : Int) == 0) = false := by rw [beq_eq_false_iff_ne]; omega
    clear p0 p1
    go_enter Try.func163, Try.ntmps163
    go_wp2
    go_ret
    exact ⟨by rw [HR.out]; rfl, (((Below.refl _ _).alloc (Nat.le_refl _) _).alloc (by simp) _).alloc (by simp; omega) _⟩
  · have HR : Hid (Tb.right t np m (x1, x2) c = false) := Lib.hid (by refine Tb.right_no ?_; simp only []; omega)
    have e0 : ((x1 : Int) == 0) = false := by rw [beq_eq_false_iff_ne]; omega
    have e1 : ((x1 : Int) == 1) = true := by rw [beq_iff_eq]; omega
    have e2 : ((x1 : Int) == 2) = false := by rw [beq_eq_false_iff_ne]; omega
    have e3 : ((x1 : Int) == 3) = false := by rw [beq_eq_false_iff_ne]; omega
    clear p0
    go_enter Try.func163, Try.ntmps163
    go_wp2
    go_ret
    exact ⟨by rw [HR.out]; rfl, (((Below.refl _ _).alloc (Nat.le_refl _) _).alloc (by simp) _).alloc (by simp; omega) _⟩
  · have HR : Hid (Tb.right t np m (x1, x2) c = false) := Lib.hid (by refine Tb.right_no ?_; simp only []; omega)
    have e0 : ((x1 : Int) == 0) = false := by rw [beq_eq_false_iff_ne]; omega
    have e1 : ((x1 : Int) == 1) = true := by rw [beq_iff_eq]; omega
    have e2 : ((x1 : Int) == 2) = false := by rw [beq_eq_false_iff_ne]; omega
    have e3 : ((x1 : Int) == 3) = false := by rw [beq_eq_false_iff_ne]; omega
    clear p0
    go_enter Try.func163, Try.ntmps163
    go_wp2
    go_ret
    exact ⟨by rw [HR.out]; rfl, (((Below.refl _ _).alloc (Nat.le_refl _) _).alloc (by simp) _).alloc (by simp; omega) _⟩
  · have HR : Hid (Tb.right t np m (x1, x2) c = false) := Lib.hid (by refine Tb.right_no ?_; simp only []; omega)
    have e0 : ((x1 : Int) == 0) = false := by rw [beq_eq_false_iff_ne]; omega
    have e1 : ((x1 : Int) == 1) = true := by rw [beq_iff_eq]; omega
    have e2 : ((x1 : Int) == 2) = false := by rw [beq_eq_false_iff_ne]; omega
    have e3 : ((x1 : Int) == 3) = false := by rw [beq_eq_false_iff_ne]; omega
    have dm : decide (x2 < (m : Int)) = false := by rw [decide_eq_false_iff_not]; omega
    clear p0
    go_enter Try.func163, Try.ntmps163
    go_wp2
    go_ret
    exact ⟨by rw [HR.out]; rfl, (((Below.refl _ _).alloc (Nat.le_refl _) _).alloc (by simp) _).alloc (by simp; omega) _⟩
  · have HR : Hid (Tb.right t np m (x1, x2) c = true) := Lib.hid (by rw [Tb.right_iff]; simp only []; omega)
    have e0 : ((x1 : Int) == 0) = false := by rw [beq_eq_false_iff_ne]; omega
    have e1 : ((x1 : Int) == 1) = true := by rw [beq_iff_eq]; omega
    have e2 : ((x1 : Int) == 2) = false := by rw [beq_eq_false_iff_ne]; omega
    have e3 : ((x1 : Int) == 3) = false := by rw [beq_eq_false_iff_ne]; omega
    clear p0
    go_enter Try.func163, Try.ntmps163
    go_wp2
    go_ret
    exact ⟨by rw [HR.out]; rfl, (((Below.refl _ _).alloc (Nat.le_refl _) _).alloc (by simp) _).alloc (by simp; omega) _⟩
  · have HR : Hid (Tb.right t np m (x1, x2) c = false) := Lib.hid (by refine Tb.right_no ?_; simp only []; omega)
    have e0 : ((x1 : Int) == 0) = false := by rw [beq_eq_false_iff_ne]; omega
    have e1 : ((x1 : Int) == 1) = false := by rw [beq_eq_false_iff_ne]; omega
    have e2 : ((x1 : Int) == 2) = true := by rw [beq_iff_eq]; omega
    have e3 : ((x1 : Int) == 3) = false := by rw [beq_eq_false_iff_ne]; omega
    clear p0
    go_enter Try.func163, Try.ntmps163
    go_wp2
    go_ret
    exact ⟨by rw [HR.out]; rfl, (((Below.refl _ _).alloc (Nat.le_refl _) _).alloc (by simp) _).alloc (by simp; omega) _⟩
  · have HR : Hid (Tb.right t np m (x1, x2) c = false) := Lib.hid (by refine Tb.right_no ?_; simp only []; omega)
    have e0 : ((x1 : Int) == 0) = false := by rw [beq_eq_false_iff_ne]; omega
    have e1 : ((x1 : Int) == 1) = false := by rw [beq_eq_false_iff_ne]; omega
    have e2 : ((x1 : Int) == 2) = true := by rw [beq_iff_eq]; omega
    have e3 : ((x1 : Int) == 3) = false := by rw [beq_eq_false_iff_ne]; omega
    have dm : decide (x2 < (np : Int)) = false := by rw [decide_eq_false_iff_not]; omega
    clear p0
    go_enter Try.func163, Try.ntmps163
    go_wp2
    go_ret
    exact ⟨by rw [HR.out]; rfl, (((Below.refl _ _).alloc (Nat.le_refl _) _).alloc (by simp) _).alloc (by simp; omega) _⟩
  · have HR : Hid (Tb.right t np m (x1, x2) c = true) := Lib.hid (by rw [Tb.right_iff]; simp only []; omega)
    have e0 : ((x1 : Int) == 0) = false := by rw [beq_eq_false_iff_ne]; omega
    have e1 : ((x1 : Int) == 1) = false := by rw [beq_eq_false_iff_ne]; omega
    have e2 : ((x1 : Int) == 2) = true := by rw [beq_iff_eq]; omega
    have e3 : ((x1 : Int) == 3) = false := by rw [beq_eq_false_iff_ne]; omega
    clear p0
    go_enter Try.func163, Try.ntmps163
    go_wp2
    go_ret
    exact ⟨by rw [HR.out]; rfl, (((Below.refl _ _).alloc (Nat.le_refl _) _).alloc (by simp) _).alloc (by simp; omega) _⟩
  · have HR : Hid (Tb.right t np m (x1, x2) c = false) := Lib.hid (by refine Tb.right_no ?_; simp only []; omega)
    have e0 : ((x1 : Int) == 0) = false := by rw [beq_eq_false_iff_ne]; omega
    have e1 : ((x1 : Int) == 1) = false := by rw [beq_eq_false_iff_ne]; omega
    have e2 : ((x1 : Int) == 2) = false := by rw [beq_eq_false_iff_ne]; omega
    have e3 : ((x1 : Int) == 3) = true := by rw [beq_iff_eq]; omega
    have n0 : ((x2 : Int) == 0) = false := by rw [beq_eq_false_iff_ne]; omega
    clear p0 p1
    go_enter Try.func163, Try.ntmps163
    go_wp2
    go_ret
    exact ⟨by rw [HR.out]; rfl, (((Below.refl _ _).alloc (Nat.le_refl _) _).alloc (by simp) _).alloc (by simp; omega) _⟩
  · have HR : Hid (Tb.right t np m (x1, x2) c = false) := Lib.hid (by refine Tb.right_no ?_; simp only []; omega)
    have e0 : ((x1 : Int) == 0) = false := by rw [beq_eq_false_iff_ne]; omega
    have e1 : ((x1 : Int) == 1) = false := by rw [beq_eq_false_iff_ne]; omega
    have e2 : ((x1 : Int) == 2) = false := by rw [beq_eq_false_iff_ne]; omega
    have e3 : ((x1 : Int) == 3) = true := by rw [beq_iff_eq]; omega
    have n0 : ((x2 : Int) == 0) = true := by rw [beq_iff_eq]; omega
    have ct : ((c : Int) == t) = false := by rw [beq_eq_false_iff_ne]; omega
    clear p0 p1 p2
    go_enter Try.func163, Try.ntmps163
    go_wp2
    go_ret
    exact ⟨by rw [HR.out]; rfl, (((Below.refl _ _).alloc (Nat.le_refl _) _).alloc (by simp) _).alloc (by simp; omega) _⟩
  · have HR : Hid (Tb.right t np m (x1, x2) c = true) := Lib.hid (by rw [Tb.right_iff]; simp only []; omega)
    have e0 : ((x1 : Int) == 0) = false := by rw [beq_eq_false_iff_ne]; omega
    have e1 : ((x1 : Int) == 1) = false := by rw [beq_eq_false_iff_ne]; omega
    have e2 : ((x1 : Int) == 2) = false := by rw [beq_eq_false_iff_ne]; omega
    have e3 : ((x1 : Int) == 3) = true := by rw [beq_iff_eq]; omega
    have n0 : ((x2 : Int) == 0) = true := by rw [beq_iff_eq]; omega
    have ct : ((c : Int) == t) = true := by rw [beq_iff_eq]; omega
    clear p0 p1 p2
    go_enter Try.func163, Try.ntmps163
    go_wp2
    go_ret
    exact ⟨by rw [HR.out]; rfl, (((Below.refl _ _).alloc (Nat.le_refl _) _).alloc (by simp) _).alloc (by simp; omega) _⟩
  · have HR : Hid (Tb.right t np m (x1, x2) c = false) := Lib.hid (by refine Tb.right_no ?_; simp only []; omega)
    have e0 : ((x1 : Int) == 0) = false := by rw [beq_eq_false_iff_ne]; omega
    have e1 : ((x1 : Int) == 1) = false := by rw [beq_eq_false_iff_ne]; omega
    have e2 : ((x1 : Int) == 2) = false := by rw [beq_eq_false_iff_ne]; omega
    have e3 : ((x1 : Int) == 3) = false := by rw [beq_eq_false_iff_ne]; omega
    clear p0 p1 p2 p3
    go_enter Try.func163, Try.ntmps163
    go_wp2
    go_ret
    exact ⟨by rw [HR.out]; rfl, (((Below.refl _ _).alloc (Nat.le_refl _) _).alloc (by simp) _).alloc (by simp; omega) _⟩

end Go.Proofs.Ytldapomcjfkeeaa
