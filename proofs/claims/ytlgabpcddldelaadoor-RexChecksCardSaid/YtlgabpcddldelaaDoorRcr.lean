/-
  The runs of a class, from below and along its list. (Plain functions; nothing of the program is claimed.)
-/
import Derived.Test.YtlgabpcddldelaaDoorRct
namespace Go.Proofs.YtlgabpcddldelaaDoor
set_option linter.unusedVariables false

namespace Rct
def endK (p : Nat → Bool) : Nat → Nat → Nat
  | 0, b => b
  | n + 1, b => if p (b + 1) = true then endK p n (b + 1) else b
/-- Where the run ends that b is in. -/
def fin (p : Nat → Bool) (b : Nat) : Nat := endK p (255 - b) b
def addR (out : ByteArray) (b e : Nat) : ByteArray :=
  if b < e then (if b + 1 < e then out ++ ct b ++ ⟨#[45]⟩ else out ++ ct b) ++ ct e else out ++ ct b
def start (p : Nat → Bool) (b : Nat) : Bool := p b && !(decide (0 < b) && p (b - 1))
def runsK (p : Nat → Bool) : Nat → ByteArray
  | 0 => ⟨#[]⟩
  | n + 1 => if start p n = true then addR (runsK p n) n (fin p n) else runsK p n
def runs (p : Nat → Bool) : ByteArray := runsK p 256
variable {p : Nat → Bool}
theorem fin_next {b : Nat} (hb : b < 255) : fin p b = if p (b + 1) = true then fin p (b + 1) else b := by
  unfold fin
  rw [show 255 - b = (255 - (b + 1)) + 1 by omega, endK]
theorem fin_last {b : Nat} (hb : ¬ b < 255) : fin p b = b := by
  unfold fin
  rw [show 255 - b = 0 by omega, endK]
theorem endK_le : ∀ (n b : Nat), b ≤ endK p n b ∧ endK p n b ≤ b + n ∧ ∀ y, b < y → y ≤ endK p n b → p y = true := by
  intro n
  induction n with
  | zero => intro b; exact ⟨Nat.le_refl _, Nat.le_refl _, fun y h1 h2 => by simp only [endK] at h2; omega⟩
  | succ n ih =>
    intro b
    rw [endK]
    split
    · rename_i h
      obtain ⟨h1, h2, h3⟩ := ih (b + 1)
      refine ⟨by omega, by omega, fun y g1 g2 => ?_⟩
      by_cases e : y = b + 1
      · rw [e]; exact h
      · exact h3 y (by omega) g2
    · exact ⟨Nat.le_refl _, by omega, fun y g1 g2 => by omega⟩
theorem fin_le {b : Nat} (hb : b < 256) : b ≤ fin p b ∧ fin p b < 256 ∧ ∀ y, b < y → y ≤ fin p b → p y = true := by
  obtain ⟨h1, h2, h3⟩ := endK_le (p := p) (255 - b) b
  exact ⟨h1, by show endK p (255 - b) b < 256; omega, h3⟩
theorem addR_size {out : ByteArray} {b e : Nat} (hb : b < 256) (he : e < 256) : (addR out b e).size ≤ out.size + 9 := by
  have h1 := ct_size b hb
  have h2 := ct_size e he
  have h3 : (⟨#[45]⟩ : ByteArray).size = 1 := rfl
  unfold addR
  split
  · split
    · rw [ByteArray.size_append, ByteArray.size_append, ByteArray.size_append]; omega
    · rw [ByteArray.size_append, ByteArray.size_append]; omega
  · rw [ByteArray.size_append]; omega
theorem runsK_size : ∀ {n : Nat}, n ≤ 256 → (runsK p n).size ≤ 9 * n := by
  intro n
  induction n with
  | zero => intro _; exact Nat.le_refl _
  | succ n ih =>
    intro h
    have h1 := ih (by omega)
    rw [runsK]
    split
    · have := addR_size (out := runsK p n) (show n < 256 by omega) (fin_le (p := p) (show n < 256 by omega)).2.1
      omega
    · omega
theorem runs_skip {a : Nat} : ∀ {b : Nat}, a ≤ b → (∀ y, a ≤ y → y < b → start p y = false) → runsK p b = runsK p a := by
  intro b
  induction b with
  | zero => intro h _; rw [show a = 0 by omega]
  | succ b ih =>
    intro h hn
    by_cases e : a = b + 1
    · rw [e]
    · rw [runsK, if_neg (by rw [hn b (by omega) (by omega)]; decide)]
      exact ih (by omega) fun y h1 h2 => hn y h1 (by omega)

/-! Along the list. -/
def lst (p : Nat → Bool) : List Nat := (List.range 256).filter p
def nth (p : Nat → Bool) (i : Nat) : Nat := (lst p).getD i 256
theorem nth_in {i : Nat} (h : i < (lst p).length) : nth p i < 256 ∧ p (nth p i) = true := by
  have e : nth p i = (lst p)[i] := by unfold nth; simp [List.getD, List.getElem?_eq_getElem h]
  have hm : nth p i ∈ lst p := by rw [e]; exact List.getElem_mem h
  obtain ⟨h1, h2⟩ := List.mem_filter.1 hm
  exact ⟨List.mem_range.1 h1, h2⟩
theorem nth_le (i : Nat) : nth p i ≤ 256 := by
  by_cases h : i < (lst p).length
  · exact Nat.le_of_lt (nth_in h).1
  · unfold nth; rw [List.getD_eq_getElem?_getD, List.getElem?_eq_none (by omega)]; exact Nat.le_refl _
theorem nth_end {i : Nat} (h : ¬ i < (lst p).length) : nth p i = 256 := by
  unfold nth; rw [List.getD_eq_getElem?_getD, List.getElem?_eq_none (by omega)]; rfl
theorem nth_lt {i j : Nat} (h : i < j) (hj : j < (lst p).length) : nth p i < nth p j := by
  have hp := List.pairwise_iff_getElem.1 ((List.pairwise_lt_range (n := 256)).filter p) i j (by have : i < (lst p).length := by omega
                                                                                                exact this) hj h
  unfold nth lst
  unfold lst at hj
  rw [List.getD_eq_getElem?_getD, List.getD_eq_getElem?_getD, List.getElem?_eq_getElem (by omega), List.getElem?_eq_getElem hj]
  exact hp
theorem nth_of {y : Nat} (hy : y < 256) (hp : p y = true) : ∃ j, j < (lst p).length ∧ nth p j = y := by
  obtain ⟨j, hj, e⟩ := List.getElem_of_mem (List.mem_filter.2 ⟨List.mem_range.2 hy, hp⟩ : y ∈ lst p)
  exact ⟨j, hj, by unfold nth lst; rw [List.getD_eq_getElem?_getD, List.getElem?_eq_getElem hj]; exact e⟩
theorem gap0 {y : Nat} (h : y < nth p 0) : p y = false := by
  cases e : p y
  · rfl
  · have := nth_le (p := p) 0
    obtain ⟨j, hj, hj2⟩ := nth_of (show y < 256 by omega) e
    by_cases j0 : j = 0
    · subst j0; omega
    · have := nth_lt (show 0 < j by omega) hj
      omega
theorem gap {i y : Nat} (hi : i < (lst p).length) (h1 : nth p i < y) (h2 : y < nth p (i + 1)) : p y = false := by
  cases e : p y
  · rfl
  · have := nth_le (p := p) (i + 1)
    obtain ⟨j, hj, hj2⟩ := nth_of (show y < 256 by omega) e
    by_cases hji : j ≤ i
    · by_cases hje : j = i
      · subst hje; omega
      · have := nth_lt (show j < i by omega) hi
        omega
    · by_cases hje : j = i + 1
      · subst hje; omega
      · have := nth_lt (show i + 1 < j by omega) hj
        omega
theorem nth_up {i : Nat} (hi : i < (lst p).length) : nth p i < nth p (i + 1) := by
  by_cases h : i + 1 < (lst p).length
  · exact nth_lt (by omega) h
  · rw [nth_end h]; exact (nth_in hi).1
/-- Does the run go on? -/
theorem goes_on {k : Nat} (hk : k < (lst p).length) : (k + 1 < (lst p).length ∧ nth p (k + 1) = nth p k + 1) ↔ (nth p k < 255 ∧ p (nth p k + 1) = true) := by
  constructor
  · intro ⟨h1, h2⟩
    have := nth_in h1
    rw [h2] at this
    exact ⟨by omega, this.2⟩
  · intro ⟨h1, h2⟩
    have hu := nth_up hk
    have h3 : nth p (k + 1) = nth p k + 1 := by
      by_cases e : nth p (k + 1) = nth p k + 1
      · exact e
      · have := gap hk (show nth p k < nth p k + 1 by omega) (by omega)
        rw [h2] at this; cases this
    refine ⟨?_, h3⟩
    by_cases h : k + 1 < (lst p).length
    · exact h
    · rw [nth_end h] at h3; omega
theorem fin_on {k : Nat} (hk : k < (lst p).length) (h : k + 1 < (lst p).length ∧ nth p (k + 1) = nth p k + 1) : fin p (nth p k) = fin p (nth p (k + 1)) := by
  obtain ⟨h1, h2⟩ := (goes_on hk).1 h
  rw [fin_next h1, if_pos h2, h.2]
theorem fin_off {k : Nat} (hk : k < (lst p).length) (h : ¬ (k + 1 < (lst p).length ∧ nth p (k + 1) = nth p k + 1)) : fin p (nth p k) = nth p k := by
  by_cases h1 : nth p k < 255
  · rw [fin_next h1, if_neg fun h2 => h ((goes_on hk).2 ⟨h1, h2⟩)]
  · exact fin_last h1
/-- What has been written when place i of the list is at hand. -/
def At (p : Nat → Bool) (i : Nat) (out : ByteArray) : Prop := out = runsK p (nth p i) ∧ (i < (lst p).length → start p (nth p i) = true)
theorem at_zero : At p 0 ⟨#[]⟩ := by
  refine ⟨(runs_skip (a := 0) (Nat.zero_le _) fun y _ h => ?_).symm, fun h => ?_⟩
  · unfold start; rw [gap0 h]; rfl
  · unfold start
    rw [(nth_in h).2]
    by_cases h0 : 0 < nth p 0
    · rw [gap0 (show nth p 0 - 1 < nth p 0 by omega)]; simp
    · simp [h0]
theorem at_next {i k : Nat} {out : ByteArray} (hi : i ≤ k) (hk : k < (lst p).length) (h : At p i out) (hf : fin p (nth p i) = nth p k) (hoff : ¬ (k + 1 < (lst p).length ∧ nth p (k + 1) = nth p k + 1)) : At p (k + 1) (addR out (nth p i) (nth p k)) := by
  have hik : i < (lst p).length := by omega
  have hu := nth_up hk
  have hin := nth_in hik
  obtain ⟨f1, f2, f3⟩ := fin_le (p := p) hin.1
  rw [hf] at f1 f2 f3
  have hno : ∀ y, nth p i + 1 ≤ y → y < nth p (k + 1) → start p y = false := fun y h1 h2 => by
    by_cases hy : y ≤ nth p k
    · unfold start
      by_cases e : y - 1 = nth p i
      · rw [e, hin.2]; simp; omega
      · rw [f3 (y - 1) (by omega) (by omega)]; simp; omega
    · unfold start; rw [gap hk (by omega) h2]; rfl
  refine ⟨?_, fun h1 => ?_⟩
  · rw [runs_skip (a := nth p i + 1) (by omega) hno, runsK, if_pos (h.2 hik), hf, h.1]
  · unfold start
    rw [(nth_in h1).2]
    have hne : nth p (k + 1) ≠ nth p k + 1 := fun e => hoff ⟨h1, e⟩
    rw [gap hk (show nth p k < nth p (k + 1) - 1 by omega) (by omega)]
    simp
theorem at_end {i : Nat} {out : ByteArray} (hi : ¬ i < (lst p).length) (h : At p i out) : out = runs p := by
  rw [h.1, nth_end hi]; rfl
theorem lst_len : (lst p).length ≤ 256 := Nat.le_trans (List.length_filter_le _ _) (by simp)
/-- A class as text. -/
def cls (p : Nat → Bool) : ByteArray :=
  if (lst p).length = 1 then runs p
  else if (lst p).length = 255 ∧ p 10 = false then ⟨#[46]⟩
  else if 128 < (lst p).length then ⟨#[91, 94]⟩ ++ runs (fun b => !p b) ++ ⟨#[93]⟩
  else ⟨#[91]⟩ ++ runs p ++ ⟨#[93]⟩
theorem runs_size : (runs p).size ≤ 2304 := runsK_size (Nat.le_refl _)
theorem cls_size : (cls p).size ≤ 2307 := by
  have h1 := runs_size (p := p)
  have h2 := runs_size (p := fun b => !p b)
  unfold cls
  split
  · omega
  · split
    · show 1 ≤ 2307; decide
    · split
      · rw [ByteArray.size_append, ByteArray.size_append]
        show 2 + _ + 1 ≤ 2307
        omega
      · rw [ByteArray.size_append, ByteArray.size_append]
        show 1 + _ + 1 ≤ 2307
        omega
/-- One byte: no run. -/
theorem runs_one (h : (lst p).length = 1) : runs p = ct (nth p 0) := by
  have h0 := at_zero (p := p)
  have hoff : ¬ (0 + 1 < (lst p).length ∧ nth p (0 + 1) = nth p 0 + 1) := by rw [h]; simp
  have h1 := at_next (Nat.le_refl 0) (by omega) h0 (fin_off (by omega) hoff) hoff
  rw [← at_end (by omega) h1]
  unfold addR
  rw [if_neg (by omega)]
  exact ByteArray.empty_append
theorem runsK_congr {q : Nat → Bool} (h : ∀ x, x < 256 → p x = q x) : ∀ {n : Nat}, n ≤ 256 → runsK p n = runsK q n := by
  have he : ∀ n b, b + n ≤ 255 → endK p n b = endK q n b := by
    intro n
    induction n with
    | zero => intro b _; rfl
    | succ n ih => intro b hb; rw [endK, endK, h (b + 1) (by omega), ih (b + 1) (by omega)]
  intro n
  induction n with
  | zero => intro _; rfl
  | succ n ih =>
    intro hn
    have hs : start p n = start q n := by unfold start; rw [h n (by omega), h (n - 1) (by omega)]
    have hf : fin p n = fin q n := by unfold fin; exact he _ _ (by omega)
    rw [runsK, runsK, hs, hf, ih (by omega)]
theorem runs_congr {q : Nat → Bool} (h : ∀ x, x < 256 → p x = q x) : runs p = runs q := runsK_congr h (Nat.le_refl _)
end Rct
end Go.Proofs.YtlgabpcddldelaaDoor
