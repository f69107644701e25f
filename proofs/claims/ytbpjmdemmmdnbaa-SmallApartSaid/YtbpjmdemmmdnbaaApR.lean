/-
  The queue of Apart, level by level; what was seen, as a list of truths. (Plain functions; nothing of the program is claimed.)
-/
import Derived.Test.YtbpjmdemmmdnbaaApD
namespace Go.Proofs.Ytbpjmdemmmdnbaa
set_option linter.unusedVariables false

namespace Ap
def pairs (S : List It) (m : Nat) : List Pr := (S.drop m).map (·.1)
def texts (S : List It) (m : Nat) : List ByteArray := (List.range (S.length - m)).map fun i => strOfNums (txt S (m + i))
theorem pairs_len (S : List It) (m : Nat) : (pairs S m).length = S.length - m := by simp [pairs]
theorem texts_len (S : List It) (m : Nat) : (texts S m).length = S.length - m := by simp [texts]
theorem pairs_at {S : List It} {m i : Nat} (h : m + i < S.length) : (pairs S m).getD i (0, 0) = (at' S (m + i)).1 := by
  simp [pairs, at', List.getD, List.getElem?_eq_getElem h]
theorem texts_at {S : List It} {m i : Nat} (h : m + i < S.length) : (texts S m).getD i ByteArray.empty = strOfNums (txt S (m + i)) := by
  simp [texts, List.getD, List.getElem?_range (show i < S.length - m by omega)]
theorem pairs_end (S : List It) : pairs S S.length = [] := by simp [pairs]
theorem texts_end (S : List It) : texts S S.length = [] := by simp [texts]
theorem pairs_snoc {S : List It} {m : Nat} (i : It) (h : m ≤ S.length) : pairs (S ++ [i]) m = pairs S m ++ [i.1] := by
  unfold pairs
  rw [List.drop_append_of_le_length h, List.map_append]
  rfl
theorem texts_snoc {D : Two} {S : List It} {m : Nat} {i : It} (h : m ≤ S.length) (hS : Ok D S) (hS2 : Ok D (S ++ [i])) {u : Nat} (hu : i.2.1 = (u : Int)) (hul : u < S.length) : texts (S ++ [i]) m = texts S m ++ [strOfNums (txt S u ++ [i.2.2])] := by
  unfold texts
  rw [List.length_append, List.length_singleton, show S.length + 1 - m = (S.length - m) + 1 by omega, List.range_succ, List.map_append, List.map_singleton]
  congr 1
  · apply List.map_congr_left
    intro j hj
    rw [txt_append hS (by have := List.mem_range.1 hj; omega)]
  · rw [show m + (S.length - m) = S.length by omega, txt_step hS2 hS.ne (by simp), at_snoc, hu, Int.toNat_natCast, txt_append hS hul]
theorem Q_prefix (D : Two) (m k : Nat) : ∃ T, Q D (m + k) = Q D m ++ T := by
  induction k with
  | zero => exact ⟨[], by simp⟩
  | succ k ih =>
    obtain ⟨T, hT⟩ := ih
    rw [← Nat.add_assoc, Q]
    split
    · unfold grow
      obtain ⟨T2, h2⟩ := growK_prefix D (at' (Q D (m + k)) (m + k)).1 (m + k) (Q D (m + k)) 256
      exact ⟨T ++ T2, by rw [h2, hT, List.append_assoc]⟩
    · exact ⟨T, hT⟩
theorem Q_len_le (D : Two) (m k : Nat) : (Q D m).length ≤ (Q D (m + k)).length := by
  obtain ⟨T, h⟩ := Q_prefix D m k
  rw [h]; simp
/-- Where a pair is ticked off. -/
def spot (x : Pr) : Nat := ((x.1 + 1) * 201 + x.2 + 1).toNat
def In (x : Pr) : Prop := -1 ≤ x.1 ∧ x.1 < 200 ∧ -1 ≤ x.2 ∧ x.2 < 200
theorem spot_lt {x : Pr} (h : In x) : spot x < 40602 := by unfold spot; obtain ⟨a, b, c, d⟩ := h; omega
theorem spot_eq {x : Pr} (h : In x) : ((spot x : Nat) : Int) = (x.1 + 1) * 201 + x.2 + 1 := by unfold spot; obtain ⟨a, b, c, d⟩ := h; omega
theorem spot_inj {x y : Pr} (hx : In x) (hy : In y) (h : spot x = spot y) : x = y := by
  unfold spot at h
  obtain ⟨a, b, c, d⟩ := hx
  obtain ⟨a', b', c', d'⟩ := hy
  apply Prod.ext <;> omega
/-- The list ticks off those of the queue. -/
structure Tick (bs : List Bool) (S : List It) : Prop where
  len : bs.length = 40602
  at_ : ∀ x, In x → bs.getD (spot x) false = has S x
theorem Tick.add {bs : List Bool} {S : List It} (h : Tick bs S) {i : It} (hi : In i.1) : Tick (bs.set (spot i.1) true) (S ++ [i]) := by
  refine ⟨by rw [List.length_set]; exact h.len, fun x hx => ?_⟩
  rw [has_snoc]
  by_cases e : i.1 = x
  · subst e
    rw [List.getD_eq_getElem?_getD, List.getElem?_set_self (by rw [h.len]; exact spot_lt hi)]
    simp
  · rw [List.getD_eq_getElem?_getD, List.getElem?_set_ne (fun e2 => e (spot_inj hi hx e2)), ← List.getD_eq_getElem?_getD, h.at_ x hx]
    simp [e]
theorem getD_rep (n i : Nat) : (List.replicate n false).getD i false = false := by
  rw [List.getD_eq_getElem?_getD, List.getElem?_replicate]
  split <;> rfl
theorem Tick.init : Tick ((List.replicate 40602 false).set (spot (0, 0)) true) [z0] := by
  have h0 : Tick (List.replicate 40602 false) [] := ⟨List.length_replicate, fun x hx => by rw [getD_rep]; rfl⟩
  exact h0.add (i := z0) (by unfold In z0; simp)
end Ap
end Go.Proofs.Ytbpjmdemmmdnbaa
