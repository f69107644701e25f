/-
  Rows and clashes of an LL table, as plain data. (Plain functions; nothing of the program is claimed.)
-/
import Derived.Test.YtldapomcjfkeeaaLlEq
import Derived.Test.YtldapomcjfkeeaaFcPlain
namespace Go.Proofs.Ytldapomcjfkeeaa
set_option linter.unusedVariables false

namespace Ll
/-- What each production may begin with. -/
def mays (E : List Bool) (F W : List Nat) (l : List Fc.Pr) : List Nat := l.map (fun p => Fc.beg E F (W.getD p.1.toNat 0) p.2)
theorem mays_len {E F W l} : (mays E F W l).length = l.length := by simp [mays]
theorem mays_get {E F W} {l : List Fc.Pr} {k : Nat} (h : k < l.length) : (mays E F W l).getD k 0 = Fc.beg E F (W.getD (l.getD k (0, [])).1.toNat 0) (l.getD k (0, [])).2 := by
  unfold mays
  simp [List.getD, List.getElem?_eq_getElem h]
theorem mays_lt {E M R : List Bool} {F W : List Nat} {l : List Fc.Pr} {N : Nat} (hg : Fc.Good l N E F W R M) (hok : ∀ p ∈ l, Fc.okP N p) : ∀ i, (mays E F W l).getD i 0 < 2 ^ 64 := by
  intro i
  by_cases hi : i < l.length
  · rw [mays_get hi]
    have hm : l.getD i (0, []) ∈ l := by rw [show l.getD i (0, []) = l[i] by simp [List.getD, List.getElem?_eq_getElem hi]]; exact List.getElem_mem hi
    exact Fc.beg_lt hg.fb (hg.wb _) (Fc.okP_lt (hok _ hm))
  · rw [List.getD_eq_getElem?_getD, List.getElem?_eq_none (by rw [mays_len]; omega)]
    exact Nat.two_pow_pos 64
def colbit (t col : Nat) : Nat := if col = t then 63 else col
/-- Is production i one of them? -/
def isC (l : List Fc.Pr) (m : List Nat) (t n col i : Nat) : Bool := decide ((l.getD i (0, [])).1 = (n : Int)) && (m.getD i 0).testBit (colbit t col)
theorem isC_def {l m t n col i} : isC l m t n col i = (decide ((l.getD i (0, [])).1 = (n : Int)) && (m.getD i 0).testBit (colbit t col)) := rfl
def candK (l : List Fc.Pr) (m : List Nat) (t n col k : Nat) : List Nat := (List.range k).filter (isC l m t n col)
theorem candK_zero {l m t n col} : candK l m t n col 0 = [] := rfl
theorem candK_yes {l m t n col k} (h : isC l m t n col k = true) : candK l m t n col (k + 1) = candK l m t n col k ++ [k] := by
  unfold candK; rw [List.range_succ, List.filter_append]; simp [h]
theorem candK_no {l m t n col k} (h : isC l m t n col k = false) : candK l m t n col (k + 1) = candK l m t n col k := by
  unfold candK; rw [List.range_succ, List.filter_append]; simp [h]
theorem candK_len {l m t n col k} : (candK l m t n col k).length ≤ k := by
  unfold candK
  have := List.length_filter_le (isC l m t n col) (List.range k)
  simpa using this
def atOf : List Nat → Int
  | [] => -1
  | a :: _ => (a : Int)
def clOf (n col : Nat) : List Nat → List C4
  | [] => []
  | a :: r => r.map (fun b : Nat => ((n : Int), (col : Int), (a : Int), (b : Int)))
theorem clOf_len {n col} {c : List Nat} : (clOf n col c).length ≤ c.length := by cases c <;> simp [clOf]
theorem clOf_snoc {n col a b : Nat} {r : List Nat} : clOf n col (a :: r ++ [b]) = clOf n col (a :: r) ++ [((n : Int), (col : Int), (a : Int), (b : Int))] := by simp [clOf]
def cand (l : List Fc.Pr) (m : List Nat) (t n col : Nat) : List Nat := candK l m t n col l.length
theorem cand_def {l m t n col} : cand l m t n col = candK l m t n col l.length := rfl
def rowK (l : List Fc.Pr) (m : List Nat) (t n k : Nat) : List Int := (List.range k).map (fun col => atOf (cand l m t n col))
theorem rowK_len {l m t n k} : (rowK l m t n k).length = k := by simp [rowK]
theorem rowK_succ {l m t n k} : rowK l m t n (k + 1) = rowK l m t n k ++ [atOf (cand l m t n k)] := by simp [rowK, List.range_succ]
def clK (l : List Fc.Pr) (m : List Nat) (t n k : Nat) : List C4 := (List.range k).flatMap (fun col => clOf n col (cand l m t n col))
theorem clK_succ {l m t n k} : clK l m t n (k + 1) = clK l m t n k ++ clOf n k (cand l m t n k) := by simp [clK, List.range_succ]
theorem clK_len {l m t n k} : (clK l m t n k).length ≤ k * l.length := by
  induction k with
  | zero => simp [clK]
  | succ k ih =>
    rw [clK_succ, List.length_append, Nat.add_mul]
    have := clOf_len (n := n) (col := k) (c := cand l m t n k)
    have h2 := candK_len (l := l) (m := m) (t := t) (n := n) (col := k) (k := l.length)
    unfold cand at this ⊢
    omega
def rowsK (l : List Fc.Pr) (m : List Nat) (t k : Nat) : List (List Int) := (List.range k).map (fun n => rowK l m t n (t + 1))
theorem rowsK_len {l m t k} : (rowsK l m t k).length = k := by simp [rowsK]
theorem rowsK_succ {l m t k} : rowsK l m t (k + 1) = rowsK l m t k ++ [rowK l m t k (t + 1)] := by simp [rowsK, List.range_succ]
def allK (l : List Fc.Pr) (m : List Nat) (t k : Nat) : List C4 := (List.range k).flatMap (fun n => clK l m t n (t + 1))
theorem allK_succ {l m t k} : allK l m t (k + 1) = allK l m t k ++ clK l m t k (t + 1) := by simp [allK, List.range_succ]
theorem allK_len {l m t k} : (allK l m t k).length ≤ k * ((t + 1) * l.length) := by
  induction k with
  | zero => simp [allK]
  | succ k ih =>
    rw [allK_succ, List.length_append, Nat.add_mul]
    have := clK_len (l := l) (m := m) (t := t) (n := k) (k := t + 1)
    omega
/-- All lengths that occur are small. -/
theorem out_small {l : List Fc.Pr} {m : List Nat} {t n col k N : Nat} (hl : l.length ≤ 40) (ht : t ≤ 30) (hN : N ≤ 20) (hn : n < N) (hc : col ≤ t) (hk : k ≤ l.length) : (allK l m t n ++ clK l m t n col ++ clOf n col (candK l m t n col k)).length ≤ 30000 := by
  rw [List.length_append, List.length_append]
  have h1 := allK_len (l := l) (m := m) (t := t) (k := n)
  have h2 := clK_len (l := l) (m := m) (t := t) (n := n) (k := col)
  have h3 := clOf_len (n := n) (col := col) (c := candK l m t n col k)
  have h4 := candK_len (l := l) (m := m) (t := t) (n := n) (col := col) (k := k)
  have e1 : (t + 1) * l.length ≤ 31 * 40 := Nat.mul_le_mul (by omega) hl
  have e2 : n * ((t + 1) * l.length) ≤ 20 * (31 * 40) := Nat.mul_le_mul (by omega) e1
  have e3 : col * l.length ≤ 30 * 40 := Nat.mul_le_mul (by omega) hl
  omega
theorem rowK_zero {l m t n} : rowK l m t n 0 = [] := rfl
theorem clK_zero {l m t n} : clK l m t n 0 = [] := rfl
theorem rowsK_zero {l m t} : rowsK l m t 0 = [] := rfl
theorem allK_zero {l m t} : allK l m t 0 = [] := rfl
/-! Bits. -/
theorem and_bit {m k : Nat} : decide (m &&& 2 ^ k = 0) = !m.testBit k := by
  cases h : m.testBit k
  · rw [Bool.not_false, decide_eq_true_eq]
    apply Nat.eq_of_testBit_eq
    intro i
    rw [Nat.testBit_and, Nat.testBit_two_pow, Nat.zero_testBit]
    by_cases e : k = i
    · subst e; rw [h]; rfl
    · simp [e]
  · rw [Bool.not_true, decide_eq_false_iff_not]
    intro e
    have h2 : (m &&& 2 ^ k).testBit k = true := by rw [Nat.testBit_and, h, Nat.testBit_two_pow]; simp
    rw [e, Nat.zero_testBit] at h2
    cases h2
theorem shr_bit {m k : Nat} : m / 2 ^ k % 2 = if m.testBit k = true then 1 else 0 := by
  rw [← Nat.shiftRight_eq_div_pow]
  unfold Nat.testBit
  rw [Nat.one_and_eq_mod_two]
  rcases Nat.mod_two_eq_zero_or_one (m >>> k) with h | h <;> simp [h]
theorem shr63 {m : Nat} (h : m < 2 ^ 64) : m / 2 ^ 63 = if m.testBit 63 = true then 1 else 0 := by
  have h1 := shr_bit (m := m) (k := 63)
  have h2 : m / 2 ^ 63 < 2 := by
    rw [Nat.div_lt_iff_lt_mul (Nat.two_pow_pos 63)]
    exact h
  rw [Nat.mod_eq_of_lt h2] at h1
  exact h1
end Ll
attribute [irreducible] Ll.isC Ll.candK Ll.cand Ll.rowK Ll.clK Ll.rowsK Ll.allK
end Go.Proofs.Ytldapomcjfkeeaa
