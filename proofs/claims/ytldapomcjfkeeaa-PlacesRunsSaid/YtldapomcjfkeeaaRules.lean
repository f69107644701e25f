/-
  Rules of package places: plain; the walk.
-/
import Derived.Test.YtldapomcjfkeeaaPlRunW
import Derived.Laws.CopyOwn
import Derived.Deep.RegionLaw
namespace Go.Proofs.Ytldapomcjfkeeaa
set_option linter.unusedVariables false
open Go.ChangeShapes Go.WideShapes Go.ChangeAt Go.RowKit

namespace Pl
def done1 (ru : List Int) (la : List Bool) (J : List Bool) (x : Int) : List Bool := J.set (ru.getD x.toNat 0).toNat (J.getD (ru.getD x.toNat 0).toNat false || la.getD x.toNat false)
def doneL (ru : List Int) (la : List Bool) (J : List Bool) (now : List Int) : List Bool := now.foldl (done1 ru la) J
theorem done1_len {ru la J x} : (done1 ru la J x).length = J.length := by simp [done1]
theorem doneL_len {ru la} {now : List Int} : ∀ {J}, (doneL ru la J now).length = J.length := by
  induction now with
  | nil => intro J; rfl
  | cons x r ih => intro J; show (doneL ru la (done1 ru la J x) r).length = _; rw [ih, done1_len]
theorem doneL_step {ru la J} {now : List Int} {k : Nat} (h : k < now.length) : doneL ru la J (now.take (k + 1)) = done1 ru la (doneL ru la J (now.take k)) (now.getD k 0) := by
  unfold doneL
  rw [List.take_succ_eq_append_getElem h, List.foldl_append]
  simp [List.getD, List.getElem?_eq_getElem h]
theorem doneL_nil {ru la J} : doneL ru la J [] = J := rfl
theorem doneL_get {ru : List Int} {la : List Bool} {now : List Int} (n : Nat) : ∀ {J : List Bool} (i : Nat), n ≤ J.length → (∀ x : Int, x ∈ now → 0 ≤ ru.getD x.toNat 0 ∧ ru.getD x.toNat 0 < n) →
    (doneL ru la J now).getD i false = (J.getD i false || now.any (fun x => decide (ru.getD x.toNat 0 = (i : Int)) && la.getD x.toNat false)) := by
  induction now with
  | nil => intro J i _ _; rw [doneL_nil]; simp
  | cons x r ih =>
    intro J i hJ h
    have hx := h x (.head _)
    show (doneL ru la (done1 ru la J x) r).getD i false = _
    rw [ih i (by rw [done1_len]; exact hJ) (fun z hz => h z (.tail _ hz)), List.any_cons, ← Bool.or_assoc]
    congr 1
    unfold done1
    obtain ⟨q, hq⟩ : ∃ q : Nat, ru.getD x.toNat 0 = q := Int.eq_ofNat_of_zero_le hx.1
    rw [hq] at hx ⊢
    rw [Int.toNat_natCast]
    by_cases h2 : q = i
    · subst h2
      have hl : q < J.length := by omega
      simp [List.getD, hl]
    · have h3 : ¬ ((q : Int) = (i : Int)) := by omega
      simp [List.getD, List.getElem?_set_ne h2, h3]
/-- What is done behind a text, rule by rule. -/
def tellD (ru : List Int) (la em : List Bool) (now : List Int) (e : Bool) : List Bool := (List.range em.length).map (fun i => (e && em.getD i false) || now.any (fun x => decide (ru.getD x.toNat 0 = (i : Int)) && la.getD x.toNat false))
def rules (ru : List Int) (la em : List Bool) (now : List Int) (e : Bool) : List Int := idx (tellD ru la em now e) em.length
def start (em : List Bool) (e : Bool) : List Bool := if e = true then em ++ List.replicate (20 - em.length) false else List.replicate 20 false
theorem start_len {em e} (h : em.length ≤ 20) : (start em e).length = 20 := by
  unfold start; split
  · rw [List.length_append, List.length_replicate]; omega
  · exact List.length_replicate
theorem start_get {em : List Bool} {e : Bool} (i : Nat) : (start em e).getD i false = (e && em.getD i false) := by
  cases e
  · unfold start; rw [if_neg (by simp), rep_get]; rfl
  · unfold start
    rw [if_pos rfl, Bool.true_and]
    by_cases h : i < em.length
    · simp [List.getD, List.getElem?_append_left h]
    · have h2 := rep_get (20 - em.length) (i - em.length)
      rw [List.getD_eq_getElem?_getD] at h2 ⊢
      rw [List.getElem?_append_right (by omega), h2, List.getD_eq_getElem?_getD, List.getElem?_eq_none (by omega)]; rfl
theorem rules_eq {ru : List Int} {la em : List Bool} {now : List Int} {e : Bool} (hne : em.length ≤ 20) (hr : ∀ x : Int, x ∈ now → 0 ≤ ru.getD x.toNat 0 ∧ ru.getD x.toNat 0 < em.length) :
    idx (doneL ru la (start em e) now) 20 = rules ru la em now e := by
  have hg : ∀ i, (doneL ru la (start em e) now).getD i false = ((e && em.getD i false) || now.any (fun x => decide (ru.getD x.toNat 0 = (i : Int)) && la.getD x.toNat false)) := fun i => by
    rw [doneL_get em.length i (by rw [start_len hne]; exact hne) hr, start_get]
  unfold rules tellD
  obtain ⟨d, hd⟩ : ∃ d, 20 = em.length + d := ⟨20 - em.length, by omega⟩
  rw [hd, idx_cut d (fun i hi => ?_)]
  · refine idx_congr (fun i hi => ?_)
    rw [hg i, List.getD_eq_getElem?_getD, List.getD_eq_getElem?_getD, List.getElem?_map, List.getElem?_range hi]
    rfl
  · rw [hg i]
    have h1 : em.getD i false = false := by rw [List.getD_eq_getElem?_getD, List.getElem?_eq_none hi]; rfl
    have h2 : (now.any fun x => decide (ru.getD x.toNat 0 = (i : Int)) && la.getD x.toNat false) = false := by
      rw [List.any_eq_false]
      intro x hx
      have := hr x hx
      have h3 : ¬ (ru.getD x.toNat 0 = (i : Int)) := by omega
      rw [decide_eq_false h3, Bool.false_and]; exact Bool.false_ne_true
    rw [h1, h2]; simp
end Pl
attribute [irreducible] Pl.done1 Pl.doneL Pl.tellD Pl.start
theorem start_none {em : List Bool} : List.replicate 20 false = Pl.start em false := by unfold Pl.start; rfl
end Go.Proofs.Ytldapomcjfkeeaa
