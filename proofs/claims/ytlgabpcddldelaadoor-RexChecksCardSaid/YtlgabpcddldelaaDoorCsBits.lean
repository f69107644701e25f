/-
  The bits of a word, from the least on. (Plain; nothing of the program is claimed.)
-/
import Derived.Test.YtlgabpcddldelaaDoorCs
import Derived.Lib.TrailingZeros
namespace Go.Proofs.YtlgabpcddldelaaDoor
set_option linter.unusedVariables false
set_option linter.unusedSimpArgs false

namespace Cs
def bitsL (x : Nat) : List Nat := (List.range 64).filter x.testBit
theorem bits_zero : bitsL 0 = [] := by simp [bitsL]
/-- The least bit, and the word without it. -/
theorem low_bit {x : Nat} (h0 : x ≠ 0) (hx : x < 18446744073709551616) : Lib.ctz 64 x < 64 ∧ x.testBit (Lib.ctz 64 x) = true ∧ (∀ j, j < Lib.ctz 64 x → x.testBit j = false) ∧ ∀ j, (x &&& (x - 1)).testBit j = (x.testBit j && decide (j ≠ Lib.ctz 64 x)) := by
  obtain ⟨m, hm, hk⟩ := Lib.ctzFrom_spec 64 x (by omega) hx
  have hc : Lib.ctz 64 x = Lib.ctzFrom 64 x := by unfold Lib.ctz; rw [if_neg h0]
  rw [hc]
  generalize Lib.ctzFrom 64 x = k at *
  have hp : 0 < 2 ^ k := Nat.two_pow_pos k
  have e1 : ∀ j, x.testBit j = if j < k then false else (2 * m + 1).testBit (j - k) := fun j => by
    rw [hm, Nat.mul_comm, Nat.testBit_mul_two_pow]
    by_cases h : k ≤ j
    · rw [decide_eq_true h, Bool.true_and, if_neg (by omega)]
    · rw [decide_eq_false h, Bool.false_and, if_pos (by omega)]
  have hx1 : x - 1 = 2 ^ k * (2 * m) + (2 ^ k - 1) := by
    rw [hm, Nat.mul_add, Nat.mul_one]; omega
  have e2 : ∀ j, (x - 1).testBit j = if j < k then true else (2 * m).testBit (j - k) := fun j => by
    rw [hx1, Nat.testBit_two_pow_mul_add _ (by omega)]
    split
    · rename_i h
      rw [Nat.testBit_two_pow_sub_one]; simp [h]
    · rfl
  refine ⟨hk, ?_, fun j hj => ?_, fun j => ?_⟩
  · rw [e1, if_neg (by omega), Nat.sub_self, Nat.testBit_zero]; simp
  · rw [e1, if_pos hj]
  · rw [Nat.testBit_and, e1, e2]
    by_cases h : j < k
    · simp [h]
    · rw [if_neg h, if_neg h]
      by_cases he : j = k
      · subst he; simp
      · obtain ⟨d, hd⟩ : ∃ d, j - k = d + 1 := ⟨j - k - 1, by omega⟩
        rw [hd, Nat.testBit_succ, Nat.testBit_succ, show (2 * m + 1) / 2 = m by omega, show 2 * m / 2 = m by omega]
        simp [he]
theorem bits_step {x : Nat} (h0 : x ≠ 0) (hx : x < 18446744073709551616) : bitsL x = Lib.ctz 64 x :: bitsL (x &&& (x - 1)) := by
  obtain ⟨h1, h2, h3, h4⟩ := low_bit h0 hx
  generalize Lib.ctz 64 x = k at *
  unfold bitsL
  have e : (List.range 64) = List.range k ++ (k :: (List.range (63 - k)).map (· + (k + 1))) := by
    have : 64 = k + (1 + (63 - k)) := by omega
    conv => lhs; rw [this]
    rw [List.range_add, Nat.add_comm 1, List.range_succ_eq_map]
    simp [Function.comp_def, Nat.add_comm, Nat.add_left_comm]
  rw [e, List.filter_append, List.filter_append, List.filter_cons_of_pos h2, List.filter_cons_of_neg (by rw [h4]; simp)]
  have e1 : (List.range k).filter x.testBit = [] := by
    rw [List.filter_eq_nil_iff]
    intro j hj
    rw [h3 j (List.mem_range.1 hj)]; simp
  have e2 : (List.range k).filter (x &&& (x - 1)).testBit = [] := by
    rw [List.filter_eq_nil_iff]
    intro j hj
    rw [h4, h3 j (List.mem_range.1 hj)]; simp
  have e3 : ((List.range (63 - k)).map (· + (k + 1))).filter x.testBit = ((List.range (63 - k)).map (· + (k + 1))).filter (x &&& (x - 1)).testBit := by
    apply List.filter_congr
    intro j hj
    obtain ⟨d, _, rfl⟩ := List.mem_map.1 hj
    rw [h4, decide_eq_true (by omega), Bool.and_true]
  rw [e1, e2, e3, List.nil_append, List.nil_append]
theorem and_pred_lt {x : Nat} (h0 : x ≠ 0) : x &&& (x - 1) < x := by
  have := @Nat.and_le_right x (x - 1)
  omega
/-- The bytes of a class, in order. -/
def bytesL (ws : List Nat) (i : Nat) : List Nat := (List.range i).flatMap fun j => (bitsL (ws.getD j 0)).map fun k => 64 * j + k
theorem bytes_zero (ws : List Nat) : bytesL ws 0 = [] := rfl
theorem bytes_succ (ws : List Nat) (i : Nat) : bytesL ws (i + 1) = bytesL ws i ++ (bitsL (ws.getD i 0)).map fun k => 64 * i + k := by
  unfold bytesL; rw [List.range_succ, List.flatMap_append]; simp
theorem bytes_mem (ws : List Nat) : ∀ i, bytesL ws i = (List.range (64 * i)).filter (Dm.mem ws) := by
  intro i
  induction i with
  | zero => rfl
  | succ i ih =>
    rw [bytes_succ, ih, Nat.mul_add, Nat.mul_one, List.range_add, List.filter_append, List.filter_map]
    congr 1
    unfold bitsL
    congr 1
    apply List.filter_congr
    intro k hk
    have := List.mem_range.1 hk
    unfold Dm.mem
    simp only [Function.comp]
    rw [show (64 * i + k) / 64 = i by omega, show (64 * i + k) % 64 = k by omega]
theorem bytes_all (ws : List Nat) : bytesL ws 4 = (List.range 256).filter (Dm.mem ws) := bytes_mem ws 4
theorem bytes_len (ws : List Nat) (i : Nat) : (bytesL ws i).length ≤ 64 * i := by
  rw [bytes_mem]
  have := List.length_filter_le (Dm.mem ws) (List.range (64 * i))
  rw [List.length_range] at this; exact this
theorem bits_len (x : Nat) : (bitsL x).length ≤ 64 := by
  unfold bitsL
  have := List.length_filter_le x.testBit (List.range 64)
  rw [List.length_range] at this; exact this
theorem bits_lt {x k : Nat} (h : k ∈ bitsL x) : k < 64 := List.mem_range.1 (List.mem_filter.1 h).1
end Cs
end Go.Proofs.YtlgabpcddldelaaDoor
