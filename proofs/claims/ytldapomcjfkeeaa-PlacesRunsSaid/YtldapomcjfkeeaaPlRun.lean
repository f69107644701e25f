/-
  Run of package places: what it computes; a step in the reference's words.
-/
import Derived.Test.YtldapomcjfkeeaaPlStep
namespace Go.Proofs.Ytldapomcjfkeeaa
set_option linter.unusedVariables false
open Go.ChangeShapes Go.WideShapes Go.ChangeAt Go.RowKit

namespace Pl
def may (fo : List (List Int)) (fi now : List Int) (first : Bool) (y : Nat) : Bool := (first && fi.contains (y : Int)) || now.any (fun k => (fo.getD k.toNat []).contains (y : Int))
def refStep (cl fo : List (List Int)) (fi now : List Int) (first : Bool) (b : Nat) : List Int := idx ((List.range cl.length).map (fun y => may fo fi now first y && has (cl.getD y []) b)) cl.length
theorem rep_get (n y : Nat) : (List.replicate n false).getD y false = false := by
  rw [List.getD_eq_getElem?_getD, List.getElem?_replicate]; split <;> rfl
theorem marks_get {cl fo : List (List Int)} {b : Nat} {n : Nat} (hfo : ∀ i : Nat, i < n → ∀ x : Int, x ∈ fo.getD i [] → 0 ≤ x ∧ x < n) {now : List Int} (hn : ∀ x : Int, x ∈ now → 0 ≤ x ∧ x < n) : ∀ {I : List Bool} (y : Nat), n ≤ I.length →
    (marks cl fo b I now).getD y false = (I.getD y false || (now.any (fun k => (fo.getD k.toNat []).contains (y : Int)) && has (cl.getD y []) b)) := by
  induction now with
  | nil => intro I y _; rw [marks_nil]; simp
  | cons x r ih =>
    intro I y h
    have hx := hn x (.head _)
    have e : marks cl fo b I (x :: r) = marks cl fo b (markL cl b I (fo.getD x.toNat [])) r := by unfold marks; rfl
    rw [e, ih (fun z hz => hn z (.tail _ hz)) y (by rw [markL_len]; exact h), markL_get y (fun z hz => by have := hfo x.toNat (by omega) z hz; omega), List.any_cons]
    cases I.getD y false <;> cases (fo.getD x.toNat []).contains (y : Int) <;> cases has (cl.getD y []) b <;> simp
theorem idx_congr {I I' : List Bool} {k : Nat} (h : ∀ i, i < k → I.getD i false = I'.getD i false) : idx I k = idx I' k := by
  induction k with
  | zero => rw [idx_nil, idx_nil]
  | succ k ih => rw [idx_step, idx_step, ih (fun i hi => h i (by omega)), h k (by omega)]
theorem idx_cut {I : List Bool} {n : Nat} (d : Nat) (h : ∀ i, n ≤ i → I.getD i false = false) : idx I (n + d) = idx I n := by
  induction d with
  | zero => rfl
  | succ d ih => rw [← Nat.add_assoc, idx_step, ih, h (n + d) (by omega)]; simp
theorem idx_mem {I : List Bool} {k : Nat} : ∀ x ∈ idx I k, 0 ≤ x ∧ x < k := by
  induction k with
  | zero => rw [idx_nil]; intro x hx; cases hx
  | succ k ih =>
    intro x hx
    rw [idx_step] at hx
    rcases List.mem_append.1 hx with h | h
    · have := ih x h; omega
    · split at h
      · rw [List.mem_singleton.1 h]; omega
      · cases h
theorem contains_out {l : List Int} {n y : Nat} (h : ∀ x ∈ l, 0 ≤ x ∧ x < n) (hy : n ≤ y) : l.contains (y : Int) = false := by
  cases hc : l.contains (y : Int)
  · rfl
  · have := h _ (List.contains_iff_mem.1 hc); omega
theorem step_ref {cl fo : List (List Int)} {fi now : List Int} {first : Bool} {b : Nat} (hcl : cl.length ≤ 200) (hfi : ∀ x ∈ fi, 0 ≤ x ∧ x < cl.length) (hfo : ∀ i, i < cl.length → ∀ x ∈ fo.getD i [], 0 ≤ x ∧ x < cl.length) (hn : ∀ x ∈ now, 0 ≤ x ∧ x < cl.length) :
    step cl fo fi now first b = refStep cl fo fi now first b := by
  have hz : zeros.length = 200 := by unfold zeros; exact List.length_replicate
  have hz0 : ∀ y, zeros.getD y false = false := fun y => by unfold zeros; exact rep_get 200 y
  obtain ⟨J, hJ⟩ : ∃ J, (if first = true then markL cl b zeros fi else zeros) = J := ⟨_, rfl⟩
  have hJl : J.length = 200 := by rw [← hJ]; cases first <;> simp [markL_len, hz]
  have hJg : ∀ y, J.getD y false = (first && fi.contains (y : Int) && has (cl.getD y []) b) := by
    intro y
    rw [← hJ]
    cases first
    · rw [if_neg (by simp), hz0]; rfl
    · rw [if_pos rfl, markL_get y (fun z hz2 => by have := hfi z hz2; rw [hz]; omega), hz0]; simp
  have hg : ∀ y, (marks cl fo b J now).getD y false = (may fo fi now first y && has (cl.getD y []) b) := by
    intro y
    rw [marks_get hfo hn y (by omega), hJg]
    unfold may
    cases (first && fi.contains (y : Int)) <;> cases has (cl.getD y []) b <;> simp
  unfold step refStep
  rw [hJ]
  obtain ⟨d, hd⟩ : ∃ d, 200 = cl.length + d := ⟨200 - cl.length, by omega⟩
  rw [hd, idx_cut d (fun i hi => ?_)]
  · refine idx_congr (fun i hi => ?_)
    rw [hg i]
    simp [List.getD, hi]
  · rw [hg i]
    unfold may
    rw [contains_out hfi hi]
    have hany : (now.any fun k => (fo.getD k.toNat []).contains (i : Int)) = false := by
      rw [List.any_eq_false]
      intro x hx
      have := hn x hx
      rw [contains_out (hfo x.toNat (by omega)) hi]; simp
    rw [hany]; simp
theorem refStep_mem {cl fo : List (List Int)} {fi now : List Int} {first : Bool} {b : Nat} : ∀ x ∈ refStep cl fo fi now first b, 0 ≤ x ∧ x < cl.length := by
  unfold refStep; exact idx_mem
/-- The places behind k bytes. -/
def run (cl fo : List (List Int)) (fi : List Int) (s : ByteArray) : Nat → List Int
  | 0 => []
  | k + 1 => refStep cl fo fi (run cl fo fi s k) (decide (k = 0)) (s.data.toList.getD k 0).toNat
theorem run_zero {cl fo : List (List Int)} {fi : List Int} {s : ByteArray} : run cl fo fi s 0 = [] := rfl
theorem run_succ {cl fo : List (List Int)} {fi : List Int} {s : ByteArray} {k : Nat} : run cl fo fi s (k + 1) = refStep cl fo fi (run cl fo fi s k) (decide (k = 0)) (s.data.toList.getD k 0).toNat := rfl
theorem run_mem {cl fo : List (List Int)} {fi : List Int} {s : ByteArray} {k : Nat} : ∀ x ∈ run cl fo fi s k, 0 ≤ x ∧ x < cl.length := by
  cases k with
  | zero => intro x hx; cases hx
  | succ k => exact refStep_mem
theorem refStep_len {cl fo : List (List Int)} {fi now : List Int} {first : Bool} {b : Nat} : (refStep cl fo fi now first b).length ≤ cl.length := by unfold refStep; exact idx_len
theorem run_len {cl fo : List (List Int)} {fi : List Int} {s : ByteArray} {k : Nat} : (run cl fo fi s k).length ≤ cl.length := by
  cases k with
  | zero => exact Nat.zero_le _
  | succ k => exact refStep_len
end Pl
attribute [irreducible] Pl.run
end Go.Proofs.Ytldapomcjfkeeaa
