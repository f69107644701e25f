/-
  Whose turn it is: the plain law of the two programs.
-/
import Derived.Test.YtlejdbabbakhlaaRead
namespace Go.Proofs.Ytlejdbabbakhlaa

namespace Trn
/-- From place s on, round a ring of all places: the first that is ready. -/
def Is (s : Nat) (bs : List Bool) (r : Int) : Prop :=
  (∃ i, i < bs.length ∧ r = (((s + i) % bs.length : Nat) : Int) ∧ bs.getD ((s + i) % bs.length) false = true ∧ ∀ j, j < i → bs.getD ((s + j) % bs.length) false = false) ∨
  (r = -1 ∧ ∀ j, j < bs.length → bs.getD ((s + j) % bs.length) false = false)
theorem Is.uniq {s : Nat} {bs : List Bool} {r r' : Int} (h : Is s bs r) (h' : Is s bs r') : r = r' := by
  rcases h with ⟨i, hi, rfl, hb, hl⟩ | ⟨rfl, hl⟩ <;> rcases h' with ⟨i', hi', rfl, hb', hl'⟩ | ⟨rfl, hl'⟩
  · rcases Nat.lt_trichotomy i i' with h | rfl | h
    · rw [hl' i h] at hb; cases hb
    · rfl
    · rw [hl i' h] at hb'; cases hb'
  · rw [hl' i hi] at hb; cases hb
  · rw [hl i' hi'] at hb'; cases hb'
  · rfl
open Classical in
noncomputable def turn (s : Nat) (bs : List Bool) : Int := if h : ∃ r, Is s bs r then Classical.choose h else -1
theorem turn_eq {s : Nat} {bs : List Bool} {r : Int} (h : Is s bs r) : turn s bs = r := by
  have hx : ∃ r, Is s bs r := ⟨r, h⟩
  rw [turn, dif_pos hx]
  exact (Classical.choose_spec hx).uniq h
/-- Where the ring starts. -/
def start (last : Int) (n : Nat) : Nat := if last < 0 ∨ (n : Int) ≤ last then 0 else last.toNat + 1

/-- The reference's two rounds: above, a place that is found. -/
theorem up {s : Nat} {bs : List Bool} {k : Nat} (hs : s ≤ k) (hk : k < bs.length) (hb : bs.getD k false = true) (hl : ∀ j, s ≤ j → j < k → bs.getD j false = false) : Is s bs k := by
  refine .inl ⟨k - s, by omega, ?_, ?_, fun j hj => ?_⟩
  · rw [show s + (k - s) = k by omega, Nat.mod_eq_of_lt hk]
  · rw [show s + (k - s) = k by omega, Nat.mod_eq_of_lt hk]; exact hb
  · rw [Nat.mod_eq_of_lt (show s + j < bs.length by omega)]; exact hl _ (by omega) (by omega)
/-- Below: none above. -/
theorem down {s : Nat} {bs : List Bool} {k : Nat} (hs : s ≤ bs.length) (hk : k < s) (hb : bs.getD k false = true) (hu : ∀ j, s ≤ j → j < bs.length → bs.getD j false = false) (hl : ∀ j, j < k → bs.getD j false = false) : Is s bs k := by
  have e : (s + (bs.length - s + k)) % bs.length = k := by
    rw [show s + (bs.length - s + k) = k + bs.length by omega, Nat.add_mod_right, Nat.mod_eq_of_lt (by omega)]
  refine .inl ⟨bs.length - s + k, by omega, by rw [e], by rw [e]; exact hb, fun j hj => ?_⟩
  by_cases h : s + j < bs.length
  · rw [Nat.mod_eq_of_lt h]; exact hu _ (by omega) h
  · rw [show s + j = (s + j - bs.length) + bs.length by omega, Nat.add_mod_right, Nat.mod_eq_of_lt (by omega)]
    exact hl _ (by omega)
/-- None at all. -/
theorem none {s : Nat} {bs : List Bool} (h : ∀ j, j < bs.length → bs.getD j false = false) : Is s bs (-1) := by
  refine .inr ⟨rfl, fun j hj => h _ (Nat.mod_lt _ (by omega))⟩
end Trn
end Go.Proofs.Ytlejdbabbakhlaa
