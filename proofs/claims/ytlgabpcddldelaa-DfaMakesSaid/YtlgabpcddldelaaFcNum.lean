/-
  Rounds over sets of columns, as numbers: First. (Plain functions; nothing of the program is claimed.)
-/
import Derived.Test.YtlgabpcddldelaaFcRd
namespace Go.Proofs.Ytlgabpcddldelaa
set_option linter.unusedVariables false

namespace Fc
def up (W : List Nat) (i : Nat) (b : Nat) : List Nat := W.set i (W.getD i 0 ||| b)
theorem up_len {W i b} : (up W i b).length = W.length := by simp [up]
theorem up_get {W : List Nat} {i b : Nat} (j : Nat) (hi : i < W.length) : (up W i b).getD j 0 = if i = j then W.getD i 0 ||| b else W.getD j 0 := by
  unfold up
  by_cases h : i = j
  · subst h; rw [if_pos rfl]; simp [List.getD, hi]
  · rw [if_neg h, List.getD_eq_getElem?_getD, List.getElem?_set_ne h, ← List.getD_eq_getElem?_getD]
def leN (F G : List Nat) : Prop := ∀ i t, (F.getD i 0).testBit t = true → (G.getD i 0).testBit t = true
theorem leN_refl (F : List Nat) : leN F F := fun _ _ h => h
theorem leN_trans {F G H : List Nat} (h : leN F G) (h2 : leN G H) : leN F H := fun i t g => h2 i t (h i t g)
theorem leN_anti {F G : List Nat} (hl : F.length = G.length) (h : leN F G) (h2 : leN G F) : F = G := by
  apply List.ext_getElem hl
  intro i h3 h4
  have e1 : F.getD i 0 = F[i] := by simp [List.getD, List.getElem?_eq_getElem h3]
  have e2 : G.getD i 0 = G[i] := by simp [List.getD, List.getElem?_eq_getElem h4]
  apply Nat.eq_of_testBit_eq
  intro t
  have a := h i t; have b := h2 i t
  rw [e1, e2] at a b
  cases hx : F[i].testBit t <;> cases hy : G[i].testBit t <;> simp_all
theorem up_ge {W : List Nat} {i b : Nat} : leN W (up W i b) := by
  intro j t h
  by_cases hi : i < W.length
  · rw [up_get j hi]
    split
    · rename_i e; subst e; rw [Nat.testBit_or, h]; rfl
    · exact h
  · have : up W i b = W := by unfold up; exact List.set_eq_of_length_le (by omega)
    rw [this]; exact h
theorem up_same {W : List Nat} {i b : Nat} (hi : i < W.length) (h : up W i b = W) : W.getD i 0 ||| b = W.getD i 0 := by
  have := up_get (b := b) i hi
  rw [h, if_pos rfl] at this
  exact this.symm
/-- How much may still come. -/
def room (K : Nat) (W : List Nat) : Nat := (W.map (fun x => K - x)).sum
theorem room_set {K : Nat} {W : List Nat} {i v : Nat} (hi : i < W.length) : room K (W.set i v) + (K - W.getD i 0) = room K W + (K - v) := by
  induction W generalizing i with
  | nil => simp at hi
  | cons a r ih =>
    cases i with
    | zero => simp [room, List.getD]; omega
    | succ i =>
      have hi' : i < r.length := by simpa using hi
      have := ih hi'
      unfold room at *
      simp only [List.set_cons_succ, List.map_cons, List.sum_cons]
      have e : (a :: r).getD (i + 1) 0 = r.getD i 0 := by simp [List.getD]
      rw [e]; omega
theorem room_up {K : Nat} {W : List Nat} {i b : Nat} (hi : i < W.length) (hK : W.getD i 0 ||| b < K) : room K (up W i b) ≤ room K W ∧ (W.getD i 0 ||| b ≠ W.getD i 0 → room K (up W i b) < room K W) := by
  have h := room_set (K := K) (v := W.getD i 0 ||| b) hi
  have h2 : W.getD i 0 ≤ W.getD i 0 ||| b := Nat.left_le_or
  unfold up
  exact ⟨by omega, fun hne => by omega⟩

/-! First. -/
def rdF (E M : List Bool) (l : List Pr) (F : List Nat) : List Nat := l.foldl (fun F p => if all M true p.2 = true then up F p.1.toNat (beg E F 0 p.2) else F) F
theorem rdF_cons {E M : List Bool} {p : Pr} {l : List Pr} {F : List Nat} : rdF E M (p :: l) F = rdF E M l (if all M true p.2 = true then up F p.1.toNat (beg E F 0 p.2) else F) := rfl
theorem stF_len {E M : List Bool} {p : Pr} {F : List Nat} : (if all M true p.2 = true then up F p.1.toNat (beg E F 0 p.2) else F).length = F.length := by split <;> simp [up_len]
theorem stF_ge {E M : List Bool} {p : Pr} {F : List Nat} : leN F (if all M true p.2 = true then up F p.1.toNat (beg E F 0 p.2) else F) := by
  split
  · exact up_ge
  · exact leN_refl F
theorem rdF_len {E M : List Bool} {l : List Pr} : ∀ {F : List Nat}, (rdF E M l F).length = F.length := by
  induction l with
  | nil => intro F; rfl
  | cons p l ih => intro F; rw [rdF_cons, ih, stF_len]
theorem rdF_ge {E M : List Bool} {l : List Pr} : ∀ {F : List Nat}, leN F (rdF E M l F) := by
  induction l with
  | nil => intro F; exact leN_refl F
  | cons p l ih => intro F; rw [rdF_cons]; exact leN_trans stF_ge ih
theorem rdF_le {E M : List Bool} {l l' : List Pr} {t : Nat} {S : Nat → Bool} (hS : clF l' E M t S) : ∀ {F : List Nat}, (∀ p ∈ l, p ∈ l') → (∀ p ∈ l, p.1.toNat < F.length) → (∀ i, (F.getD i 0).testBit t = true → S i = true) → ∀ i, ((rdF E M l F).getD i 0).testBit t = true → S i = true := by
  induction l with
  | nil => intro F _ _ h; exact h
  | cons p l ih =>
    intro F hm hl h
    rw [rdF_cons]
    refine ih (fun q hq => hm q (.tail _ hq)) (fun q hq => by rw [stF_len]; exact hl q (.tail _ hq)) (fun i hi => ?_)
    split at hi
    · rename_i ha
      rw [up_get i (hl p (.head _))] at hi
      split at hi
      · rename_i e
        subst e
        rw [Nat.testBit_or, Bool.or_eq_true] at hi
        rcases hi with hi | hi
        · exact h _ hi
        · rw [beg_bit] at hi
          exact hS p (hm p (.head _)) ha (begB_mono h hi)
      · exact h i hi
    · exact h i hi
theorem rdF_cl {E M : List Bool} {l : List Pr} : ∀ {F : List Nat}, (∀ p ∈ l, p.1.toNat < F.length) → rdF E M l F = F → ∀ t, clF l E M t (fun i => (F.getD i 0).testBit t) := by
  induction l with
  | nil => intro F _ _ t p hp; cases hp
  | cons p l ih =>
    intro F hl h t
    rw [rdF_cons] at h
    have h1 := rdF_ge (E := E) (M := M) (l := l) (F := if all M true p.2 = true then up F p.1.toNat (beg E F 0 p.2) else F)
    rw [h] at h1
    have h2 := leN_anti stF_len h1 stF_ge
    rw [h2] at h
    intro q hq ha hb
    rcases List.mem_cons.1 hq with rfl | hq
    · rw [if_pos ha] at h2
      have h3 := up_same (hl _ (.head _)) h2
      show (F.getD q.1.toNat 0).testBit t = true
      rw [← h3, Nat.testBit_or, beg_bit, hb, Bool.or_true]
    · exact ih (fun z hz => hl z (.tail _ hz)) h t q hq ha hb
theorem LF_of {E M : List Bool} {l : List Pr} {n : Nat} {F : List Nat} (hl : F.length = n) (hb : ∀ p ∈ l, p.1.toNat < n) (hle : ∀ t S, clF l E M t S → ∀ i, (F.getD i 0).testBit t = true → S i = true) (h : rdF E M l F = F) : LF l n E M F :=
  ⟨hl, fun t => ⟨rdF_cl (by rw [hl]; exact hb) h t, hle t⟩⟩
/-- What is begun with is a set of terminals, and of what stands in the sets already. -/
theorem beg_lt {E : List Bool} {F : List Nat} {k b : Nat} {body : List (Int × Int)} (hF : ∀ i, F.getD i 0 < 2 ^ k) (hb : b < 2 ^ k) (hx : ∀ x ∈ body, x.1 = 1 → x.2.toNat < k) : beg E F b body < 2 ^ k := by
  induction body with
  | nil => exact hb
  | cons x r ih =>
    rw [beg]
    split
    · exact Nat.pow_lt_pow_right (by decide) (hx x (.head _) ‹_›)
    · split
      · exact Nat.or_lt_two_pow (hF _) (ih (fun z hz => hx z (.tail _ hz)))
      · exact hF _
end Fc
end Go.Proofs.Ytlgabpcddldelaa
