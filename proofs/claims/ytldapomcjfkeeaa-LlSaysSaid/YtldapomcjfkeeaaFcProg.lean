/-
  What a round reports: whether something is new. (Plain functions; nothing of the program is claimed.)
-/
import Derived.Test.YtldapomcjfkeeaaFcRd
namespace Go.Proofs.Ytldapomcjfkeeaa
set_option linter.unusedVariables false

namespace Fc
abbrev S3 := List Bool × List Bool × List Bool
def cnt3 (s : S3) : Nat := cnt s.1 + cnt s.2.1 + cnt s.2.2
/-- From s0 to s: is something new? -/
def Prog (s0 s : S3) (m : Bool) : Prop := (m = false → s = s0) ∧ (m = true → cnt3 s0 < cnt3 s)
theorem Prog.refl (s : S3) : Prog s s false := ⟨fun _ => rfl, fun h => by cases h⟩
theorem Prog.e {s0 : S3} {E M R : List Bool} {m : Bool} (h : Prog s0 (E, M, R) m) {i : Nat} {b : Bool} (hi : i < E.length) : Prog s0 (set1 E i b, M, R) ((b && !E.getD i false) || m) := by
  have hc := cnt_set1 (b := b) hi
  cases hn : (b && !E.getD i false)
  · have hs : set1 E i b = E := set1_same hi (fun hb => by rw [hb] at hn; simpa using hn)
    rw [hs, Bool.false_or]; exact h
  · rw [hn] at hc
    refine ⟨(fun g => by simp at g), fun _ => ?_⟩
    cases m
    · have := h.1 rfl
      rw [← this]; unfold cnt3; simp only [if_true] at hc; simp only; omega
    · have := h.2 rfl
      unfold cnt3 at *; simp only [if_true] at hc; simp only at this ⊢; omega
theorem Prog.m {s0 : S3} {E M R : List Bool} {m : Bool} (h : Prog s0 (E, M, R) m) {i : Nat} {b : Bool} (hi : i < M.length) : Prog s0 (E, set1 M i b, R) ((b && !M.getD i false) || m) := by
  have hc := cnt_set1 (b := b) hi
  cases hn : (b && !M.getD i false)
  · have hs : set1 M i b = M := set1_same hi (fun hb => by rw [hb] at hn; simpa using hn)
    rw [hs, Bool.false_or]; exact h
  · rw [hn] at hc
    refine ⟨(fun g => by simp at g), fun _ => ?_⟩
    cases m
    · have := h.1 rfl
      rw [← this]; unfold cnt3; simp only [if_true] at hc; simp only; omega
    · have := h.2 rfl
      unfold cnt3 at *; simp only [if_true] at hc; simp only at this ⊢; omega
theorem Prog.r {s0 : S3} {E M R : List Bool} {m : Bool} (h : Prog s0 (E, M, R) m) {i : Nat} {b : Bool} (hi : i < R.length) : Prog s0 (E, M, set1 R i b) ((b && !R.getD i false) || m) := by
  have hc := cnt_set1 (b := b) hi
  cases hn : (b && !R.getD i false)
  · have hs : set1 R i b = R := set1_same hi (fun hb => by rw [hb] at hn; simpa using hn)
    rw [hs, Bool.false_or]; exact h
  · rw [hn] at hc
    refine ⟨(fun g => by simp at g), fun _ => ?_⟩
    cases m
    · have := h.1 rfl
      rw [← this]; unfold cnt3; simp only [if_true] at hc; simp only; omega
    · have := h.2 rfl
      unfold cnt3 at *; simp only [if_true] at hc; simp only at this ⊢; omega
theorem rdA_step {terms : Bool} {l : List Pr} {X : List Bool} {k : Nat} (h : k < l.length) : rdA terms (l.take (k + 1)) X = set1 (rdA terms (l.take k) X) (l.getD k (0, [])).1.toNat (all (rdA terms (l.take k) X) terms (l.getD k (0, [])).2) := by
  unfold rdA
  rw [List.take_succ_eq_append_getElem h, List.foldl_append]
  simp [List.getD, List.getElem?_eq_getElem h]
theorem rdR_step {l : List Pr} {X : List Bool} {k : Nat} (h : k < l.length) : rdR (l.take (k + 1)) X = rR (l.getD k (0, [])).1.toNat (l.getD k (0, [])).2 (rdR (l.take k) X) := by
  unfold rdR
  rw [List.take_succ_eq_append_getElem h, List.foldl_append]
  simp [List.getD, List.getElem?_eq_getElem h]
theorem rR_append {h : Nat} {x : Int × Int} {b : List (Int × Int)} : ∀ {R : List Bool}, rR h (b ++ [x]) R = if x.1 = 2 then set1 (rR h b R) x.2.toNat ((rR h b R).getD h false) else rR h b R := by
  induction b with
  | nil => intro R; rfl
  | cons y r ih => intro R; rw [List.cons_append, rR, ih, rR]
theorem rR_step {h : Nat} {b : List (Int × Int)} {R : List Bool} {k : Nat} (hk : k < b.length) : rR h (b.take (k + 1)) R = if (b.getD k (0, 0)).1 = 2 then set1 (rR h (b.take k) R) (b.getD k (0, 0)).2.toNat ((rR h (b.take k) R).getD h false) else rR h (b.take k) R := by
  rw [List.take_succ_eq_append_getElem hk, rR_append]
  simp [List.getD, List.getElem?_eq_getElem hk]
theorem cnt3_le {s : S3} {n : Nat} (h1 : s.1.length = n) (h2 : s.2.1.length = n) (h3 : s.2.2.length = n) : cnt3 s ≤ 3 * n := by
  have := cnt_le s.1; have := cnt_le s.2.1; have := cnt_le s.2.2
  unfold cnt3; omega
end Fc
end Go.Proofs.Ytldapomcjfkeeaa
