/-
  What a pass over numbers reports: whether something is new. (Plain functions; nothing of the program is claimed.)
-/
import Derived.Test.YtldapomcjfkeeaaFcNum
namespace Go.Proofs.Ytldapomcjfkeeaa
set_option linter.unusedVariables false

namespace Fc
/-- From W0 to W: is something new? -/
def ProgN (K : Nat) (W0 W : List Nat) (m : Bool) : Prop := (m = false → W = W0) ∧ (m = true → room K W < room K W0)
theorem ProgN.refl (K : Nat) (W : List Nat) : ProgN K W W false := ⟨fun _ => rfl, fun h => by cases h⟩
theorem up_eq {W : List Nat} {i b : Nat} (hi : i < W.length) (h : W.getD i 0 ||| b = W.getD i 0) : up W i b = W := by
  unfold up
  rw [h]
  apply List.ext_getElem (by simp)
  intro j h1 h2
  rw [List.getElem_set]
  split
  · next h3 => subst h3; simp [List.getD, List.getElem?_eq_getElem hi]
  · rfl
theorem ProgN.up {K : Nat} {W0 W : List Nat} {m : Bool} (h : ProgN K W0 W m) {i b : Nat} (hi : i < W.length) (hK : W.getD i 0 ||| b < K) : ProgN K W0 (Fc.up W i b) (decide (W.getD i 0 ||| b ≠ W.getD i 0) || m) := by
  obtain ⟨r1, r2⟩ := room_up hi hK
  by_cases hn : W.getD i 0 ||| b = W.getD i 0
  · rw [up_eq hi hn, decide_eq_false (by simpa using hn), Bool.false_or]; exact h
  · rw [decide_eq_true hn, Bool.true_or]
    refine ⟨(fun g => by cases g), fun _ => ?_⟩
    have h3 := r2 hn
    cases m
    · rw [← h.1 rfl]; exact h3
    · have := h.2 rfl; omega
theorem rdF_step {E M : List Bool} {l : List Pr} {X : List Nat} {k : Nat} (h : k < l.length) : rdF E M (l.take (k + 1)) X = if all M true (l.getD k (0, [])).2 = true then Fc.up (rdF E M (l.take k) X) (l.getD k (0, [])).1.toNat (beg E (rdF E M (l.take k) X) 0 (l.getD k (0, [])).2) else rdF E M (l.take k) X := by
  unfold rdF
  rw [List.take_succ_eq_append_getElem h, List.foldl_append]
  simp [List.getD, List.getElem?_eq_getElem h]
theorem fol_step {E : List Bool} {F : List Nat} {l : List Pr} {X : List Nat} {k : Nat} (h : k < l.length) : fol E F (l.take (k + 1)) X = folB E F (l.getD k (0, [])).1.toNat (l.getD k (0, [])).2 (fol E F (l.take k) X) := by
  unfold fol
  rw [List.take_succ_eq_append_getElem h, List.foldl_append]
  simp [List.getD, List.getElem?_eq_getElem h]
theorem folB_cons {E : List Bool} {F : List Nat} {h : Nat} {x : Int × Int} {r : List (Int × Int)} {W : List Nat} : folB E F h (x :: r) W = folB E F h r (if x.1 = 2 then Fc.up W x.2.toNat (beg E F (W.getD h 0) r) else W) := rfl
theorem folB_len {E : List Bool} {F : List Nat} {h : Nat} {r : List (Int × Int)} : ∀ {W : List Nat}, (folB E F h r W).length = W.length := by
  induction r with
  | nil => intro W; rfl
  | cons x r ih => intro W; rw [folB_cons, ih]; split <;> simp [up_len]
theorem fol_len {E : List Bool} {F : List Nat} {l : List Pr} : ∀ {W : List Nat}, (fol E F l W).length = W.length := by
  induction l with
  | nil => intro W; rfl
  | cons p l ih => intro W; show (fol E F l (folB E F p.1.toNat p.2 W)).length = _; rw [ih, folB_len]
theorem up_lt {k : Nat} {W : List Nat} {i b : Nat} (hW : ∀ j, W.getD j 0 < 2 ^ k) (hb : b < 2 ^ k) : ∀ j, (Fc.up W i b).getD j 0 < 2 ^ k := by
  intro j
  by_cases hi : i < W.length
  · rw [up_get j hi]
    split
    · exact Nat.or_lt_two_pow (hW i) hb
    · exact hW j
  · unfold Fc.up; rw [List.set_eq_of_length_le (by omega)]; exact hW j
end Fc
end Go.Proofs.Ytldapomcjfkeeaa
