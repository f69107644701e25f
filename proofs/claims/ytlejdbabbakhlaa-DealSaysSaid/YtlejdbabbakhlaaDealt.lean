/-
  Who gets how much: the plain law of the two programs.
-/
import Derived.Test.YtlejdbabbakhlaaRefTurn
namespace Go.Proofs.Ytlejdbabbakhlaa
set_option linter.unusedVariables false

theorem least {P : Nat → Prop} (h : ∃ i, P i) : ∃ i, P i ∧ ∀ j, j < i → ¬ P j := by
  obtain ⟨n, hn⟩ := h
  induction n using Nat.strongRecOn with
  | ind n ih =>
    by_cases h : ∃ j, j < n ∧ P j
    · obtain ⟨j, hj, hp⟩ := h
      exact ih j hj hp
    · exact ⟨n, hn, fun j hj hp => h ⟨j, hj, hp⟩⟩

namespace Trn
structure St where
  left : List Int
  last : Int
  budget : Int
  out : List (Int × Int)
def ready (l : List Int) : List Bool := l.map fun n => decide (0 < n)
theorem ready_len (l : List Int) : (ready l).length = l.length := by simp [ready]
noncomputable def who (s : St) : Int := turn (start s.last s.left.length) (ready s.left)
noncomputable def size (sl : Int) (s : St) : Int := min (min (s.left.getD (who s).toNat 0) sl) s.budget
noncomputable def next (sl : Int) (s : St) : St :=
  ⟨s.left.set (who s).toNat (s.left.getD (who s).toNat 0 - size sl s), who s, s.budget - size sl s, s.out ++ [(who s, size sl s)]⟩
noncomputable def run (sl : Int) (s : St) : Nat → St
  | 0 => s
  | k + 1 => next sl (run sl s k)
def Stops (s : St) : Prop := s.budget ≤ 0 ∨ who s < 0
/-- The state where it stops first. -/
def Ends (sl : Int) (s e : St) : Prop := ∃ k, e = run sl s k ∧ Stops e ∧ ∀ j, j < k → ¬ Stops (run sl s j)
theorem Ends.uniq {sl : Int} {s e e' : St} (h : Ends sl s e) (h' : Ends sl s e') : e = e' := by
  obtain ⟨k, rfl, hs, hl⟩ := h
  obtain ⟨k', rfl, hs', hl'⟩ := h'
  rcases Nat.lt_trichotomy k k' with h | rfl | h
  · exact absurd hs (hl' k h)
  · rfl
  · exact absurd hs' (hl k' h)
/-- A turn is no place at all, or a place that is ready. -/
theorem turn_in (s : Nat) (bs : List Bool) : turn s bs = -1 ∨ ∃ k : Nat, k < bs.length ∧ turn s bs = k ∧ bs.getD k false = true := by
  by_cases h : ∃ i, i < bs.length ∧ bs.getD ((s + i) % bs.length) false = true
  · obtain ⟨i, ⟨hi, hb⟩, hl⟩ : ∃ i, (i < bs.length ∧ bs.getD ((s + i) % bs.length) false = true) ∧ ∀ j, j < i → ¬ (j < bs.length ∧ bs.getD ((s + j) % bs.length) false = true) := least h
    right
    refine ⟨(s + i) % bs.length, Nat.mod_lt _ (by omega), turn_eq (.inl ⟨i, hi, rfl, hb, fun j hj => ?_⟩), hb⟩
    have := hl j hj
    simp only [not_and, Bool.not_eq_true] at this
    exact this (by omega)
  · left
    refine turn_eq (.inr ⟨rfl, fun j hj => ?_⟩)
    simp only [not_exists, not_and, Bool.not_eq_true] at h
    exact h j hj
end Trn
namespace Trn
structure Good (n : Nat) (sl : Int) (s : St) : Prop where
  len : s.left.length = n
  left : ∀ x ∈ s.left, 0 ≤ x ∧ x ≤ 1073741824
  bud0 : 0 ≤ s.budget
  bud1 : s.budget + s.out.length ≤ 10000
  last0 : -9223372036854775808 ≤ s.last
  last1 : s.last ≤ 9223372036854775807
theorem ready_get (l : List Int) (k : Nat) (h : (ready l).getD k false = true) : k < l.length ∧ 0 < l.getD k 0 := by
  by_cases hk : k < l.length
  · refine ⟨hk, ?_⟩
    simpa [ready, List.getD, hk] using h
  · rw [List.getD_eq_getElem?_getD, List.getElem?_eq_none (by rw [ready_len]; omega)] at h
    simp at h
/-- Where it does not stop there is one who is ready. -/
theorem who_in {n : Nat} {sl : Int} {s : St} (hn : n ≤ 100) (h : Good n sl s) : who s = -1 ∨ ∃ k : Nat, k < s.left.length ∧ who s = k ∧ 0 < s.left.getD k 0 := by
  rcases turn_in (start s.last s.left.length) (ready s.left) with h1 | ⟨k, h1, h2, h3⟩
  · exact .inl h1
  · obtain ⟨h4, h5⟩ := ready_get _ _ h3
    exact .inr ⟨k, h4, h2, h5⟩
theorem size_in {n : Nat} {sl : Int} {s : St} (h : Good n sl s) (hs : 1 ≤ sl) (hb : 0 < s.budget) (k : Nat) (hk : k < s.left.length) (hw : who s = k) (hx : 0 < s.left.getD k 0) :
    1 ≤ size sl s ∧ size sl s ≤ s.left.getD k 0 ∧ size sl s ≤ s.budget := by
  have : size sl s = min (min (s.left.getD k 0) sl) s.budget := by rw [size, hw, Int.toNat_natCast]
  omega
theorem next_eq {sl : Int} {s : St} (k : Nat) (hw : who s = k) : next sl s = ⟨s.left.set k (s.left.getD k 0 - size sl s), k, s.budget - size sl s, s.out ++ [((k : Int), size sl s)]⟩ := by
  rw [next, hw, Int.toNat_natCast]
theorem next_good {n : Nat} {sl : Int} {s : St} (hn : n ≤ 100) (h : Good n sl s) (hs : 1 ≤ sl) (hb : 0 < s.budget) (k : Nat) (hk : k < s.left.length) (hw : who s = k) (hx : 0 < s.left.getD k 0) : Good n sl (next sl s) := by
  obtain ⟨h1, h2, h3⟩ := size_in h hs hb k hk hw hx
  have hm : s.left.getD k 0 ∈ s.left := by simp [List.getD, hk]
  have h4 := h.left _ hm
  have h5 := h.len
  have h6 := h.bud1
  rw [next_eq k hw]
  refine ⟨by simpa using h.len, fun x hx => ?_, by simp only []; omega, by simp only [List.length_append, List.length_singleton]; omega, by simp only []; omega, by simp only []; omega⟩
  rcases List.mem_or_eq_of_mem_set hx with h7 | h7
  · exact h.left x h7
  · omega
theorem ready_set (l : List Int) (k : Nat) (x : Int) : ready (l.set k x) = (ready l).set k (decide (0 < x)) := by simp [ready, List.map_set]
theorem who_def (s : St) : who s = turn (start s.last s.left.length) (ready s.left) := rfl
theorem size_def (sl : Int) {s : St} (k : Nat) (hw : who s = k) : size sl s = min (min (s.left.getD k 0) sl) s.budget := by rw [size, hw, Int.toNat_natCast]
theorem run_zero (sl : Int) (s : St) : run sl s 0 = s := rfl
theorem run_succ (sl : Int) (s : St) (k : Nat) : run sl s (k + 1) = next sl (run sl s k) := rfl
end Trn
attribute [irreducible] Trn.who Trn.size Trn.next Trn.run Trn.ready
end Go.Proofs.Ytlejdbabbakhlaa
