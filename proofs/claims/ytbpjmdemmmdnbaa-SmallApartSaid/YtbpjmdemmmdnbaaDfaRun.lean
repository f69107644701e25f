/-
  Run and Tag of package dfa, Goes and TagOf of the reference: what they compute.
-/
import Derived.Test.YtbpjmdemmmdnbaaDfa
import Derived.Test.YtbpjmdemmmdnbaaDfaTag
namespace Go.Proofs.Ytbpjmdemmmdnbaa
open Go.ChangeShapes Go.WideShapes Go.ChangeAt Go.RowKit

namespace Aut
/-- One byte more. -/
def stepB (rows : List (List Int)) (st : Int) (c : UInt8) : Int := if st < 0 then st else (rows.getD st.toNat []).getD c.toNat 0
def goes (rows : List (List Int)) (l : List UInt8) : Int := l.foldl (stepB rows) 0
theorem stepB_neg (rows) (st : Int) (c : UInt8) (h : st < 0) : stepB rows st c = st := by rw [stepB, if_pos h]
theorem stepB_pos (rows) (st : Int) (c : UInt8) (h : ¬ st < 0) : stepB rows st c = (rows.getD st.toNat []).getD c.toNat 0 := by rw [stepB, if_neg h]
theorem fold_neg (rows) (l : List UInt8) (st : Int) (h : st < 0) : l.foldl (stepB rows) st = st := by
  induction l with
  | nil => rfl
  | cons c l ih => rw [List.foldl_cons, stepB_neg rows st c h]; exact ih
theorem fold_in (rows) (tags : List Int) (hg : Good rows tags) (l : List UInt8) (st : Int) (h0 : -1 ≤ st) (h1 : st < rows.length) : -1 ≤ l.foldl (stepB rows) st ∧ l.foldl (stepB rows) st < rows.length := by
  induction l generalizing st with
  | nil => exact ⟨h0, h1⟩
  | cons c l ih =>
    rw [List.foldl_cons]
    by_cases h : st < 0
    · rw [stepB_neg rows st c h]; exact ih st h0 h1
    · rw [stepB_pos rows st c h]
      have := (hg st.toNat (by omega)).2 c.toNat (by have := c.toNat_lt; omega)
      exact ih _ this.1 this.2
theorem take_snoc (s : ByteArray) (k : Nat) (h : k < s.size) : s.data.toList.take (k + 1) = s.data.toList.take k ++ [s[k]] := by
  rw [List.take_succ_eq_append_getElem (by simpa using h)]; rfl
theorem fold_next (rows) (s : ByteArray) (k : Nat) (h : k < s.size) (st : Int) (hs : (s.data.toList.take k).foldl (stepB rows) 0 = st) :
    (s.data.toList.take (k + 1)).foldl (stepB rows) 0 = stepB rows st s[k] := by
  rw [take_snoc s k h, List.foldl_append, hs]; rfl
theorem fold_stop (rows) (s : ByteArray) (k : Nat) (st : Int) (hs : (s.data.toList.take k).foldl (stepB rows) 0 = st) (h : st < 0 ∨ s.size ≤ k) : goes rows s.data.toList = st := by
  unfold goes
  rw [← List.take_append_drop k s.data.toList, List.foldl_append, hs]
  rcases h with h | h
  · exact fold_neg rows _ st h
  · rw [List.drop_of_length_le (by simpa using h)]; rfl
theorem err_good (rows tags) (h : err rows tags = 0) : rows.length ≤ 200 ∧ 0 < rows.length ∧ tags.length = rows.length ∧ Good rows tags := by
  unfold err at h
  by_cases h1 : 200 < rows.length
  · rw [if_pos h1] at h; omega
  rw [if_neg h1] at h
  by_cases h2 : rows.length = 0 ∨ tags.length ≠ rows.length
  · rw [if_pos h2] at h; omega
  rw [if_neg h2] at h
  by_cases h3 : Good rows tags
  · exact ⟨by omega, by omega, by omega, h3⟩
  · rw [if_neg h3] at h; omega
theorem err_range (rows tags) : 0 ≤ err rows tags ∧ err rows tags ≤ 2 := by
  unfold err
  by_cases h1 : 200 < rows.length
  · rw [if_pos h1]; omega
  rw [if_neg h1]
  by_cases h2 : rows.length = 0 ∨ tags.length ≠ rows.length
  · rw [if_pos h2]; omega
  rw [if_neg h2]
  by_cases h3 : Good rows tags
  · rw [if_pos h3]; omega
  · rw [if_neg h3]; omega
end Aut
attribute [local irreducible] Aut.goes Aut.stepB






end Go.Proofs.Ytbpjmdemmmdnbaa
