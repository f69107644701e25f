/-
  What a grammar's words begin with, as plain data: truths and sets of nonterminals, each the least that its rules ask; two that are least are the same. (Plain functions; nothing of the program is claimed.)
-/
import Derived.Test.YtlgabpcddldelaaGram
namespace Go.Proofs.Ytlgabpcddldelaa
set_option linter.unusedVariables false

namespace Fc
abbrev Pr := Int × List (Int × Int)
/-- All of a body's nonterminals are so (and its terminals, if they may be). -/
def all (E : List Bool) (terms : Bool) : List (Int × Int) → Bool
  | [] => true
  | x :: r => if (x.1 = 1 ∧ terms = false) ∨ (x.1 = 2 ∧ E.getD x.2.toNat false = false) then false else all E terms r
def le (X Y : List Bool) : Prop := ∀ i, X.getD i false = true → Y.getD i false = true
theorem le_refl (X : List Bool) : le X X := fun _ h => h
theorem le_trans {X Y Z : List Bool} (h : le X Y) (h2 : le Y Z) : le X Z := fun i hi => h2 i (h i hi)
theorem le_anti {X Y : List Bool} (hl : X.length = Y.length) (h : le X Y) (h2 : le Y X) : X = Y := by
  apply List.ext_getElem hl
  intro i h3 h4
  have e1 : X.getD i false = X[i] := by simp [List.getD, List.getElem?_eq_getElem h3]
  have e2 : Y.getD i false = Y[i] := by simp [List.getD, List.getElem?_eq_getElem h4]
  have a := h i; have b := h2 i
  rw [e1, e2] at a b
  cases hx : X[i] <;> cases hy : Y[i] <;> simp_all
theorem all_mono {X Y : List Bool} (h : le X Y) {terms : Bool} {b : List (Int × Int)} (ha : all X terms b = true) : all Y terms b = true := by
  induction b with
  | nil => rfl
  | cons x r ih =>
    rw [all] at ha ⊢
    split at ha
    · cases ha
    · rename_i hn
      rw [if_neg]
      · exact ih ha
      · rintro (h1 | ⟨h1, h2⟩)
        · exact hn (.inl h1)
        · refine hn (.inr ⟨h1, ?_⟩)
          cases hx : X.getD x.2.toNat false
          · rfl
          · rw [h _ hx] at h2; cases h2
def set1 (X : List Bool) (i : Nat) (b : Bool) : List Bool := if b = true then X.set i true else X
theorem set1_len {X i b} : (set1 X i b).length = X.length := by unfold set1; split <;> simp
theorem set1_get {X : List Bool} {i : Nat} {b : Bool} (j : Nat) (hi : i < X.length) : (set1 X i b).getD j false = (X.getD j false || (b && decide (i = j))) := by
  unfold set1
  cases b
  · simp
  · rw [if_pos rfl]
    by_cases h : i = j
    · subst h; simp [List.getD, hi]
    · simp [List.getD, List.getElem?_set_ne h, h]
theorem set1_ge {X : List Bool} {i : Nat} {b : Bool} : le X (set1 X i b) := by
  intro j hj
  unfold set1
  split
  · by_cases h : i = j
    · subst h
      have : i < X.length := by
        apply Classical.byContradiction; intro hn
        rw [List.getD_eq_getElem?_getD, List.getElem?_eq_none (by omega)] at hj; cases hj
      simp [List.getD, this]
    · rw [List.getD_eq_getElem?_getD, List.getElem?_set_ne h, ← List.getD_eq_getElem?_getD]; exact hj
  · exact hj
theorem set1_le {X Y : List Bool} {i : Nat} {b : Bool} (h : le X Y) (hb : b = true → Y.getD i false = true) : le (set1 X i b) Y := by
  intro j hj
  unfold set1 at hj
  split at hj
  · rename_i hbt
    by_cases h2 : i = j
    · subst h2; exact hb hbt
    · rw [List.getD_eq_getElem?_getD, List.getElem?_set_ne h2, ← List.getD_eq_getElem?_getD] at hj
      exact h j hj
  · exact h j hj
/-- Nothing new: it stays. -/
theorem set1_same {X : List Bool} {i : Nat} {b : Bool} (hi : i < X.length) (h : b = true → X.getD i false = true) : set1 X i b = X := by
  unfold set1
  split
  · rename_i hb
    have h2 := h hb
    apply List.ext_getElem (by simp)
    intro j h3 h4
    by_cases h5 : i = j
    · subst h5
      have e1 : X.getD i false = X[i] := by simp [List.getD, List.getElem?_eq_getElem h4]
      rw [e1] at h2
      simp [h2]
    · simp [List.getElem_set_ne h5]
  · rfl

/-! Empty (terms = false), Makes (terms = true). -/
def clA (l : List Pr) (terms : Bool) (Y : List Bool) : Prop := ∀ p ∈ l, all Y terms p.2 = true → Y.getD p.1.toNat false = true
def LA (l : List Pr) (n : Nat) (terms : Bool) (X : List Bool) : Prop := X.length = n ∧ clA l terms X ∧ ∀ Y, clA l terms Y → le X Y
theorem LA_one {l : List Pr} {n : Nat} {terms : Bool} {X Y : List Bool} (h : LA l n terms X) (h2 : LA l n terms Y) : X = Y :=
  le_anti (by rw [h.1, h2.1]) (h.2.2 Y h2.2.1) (h2.2.2 X h.2.1)
/-! Reach. -/
def clR (l : List Pr) (Y : List Bool) : Prop := Y.getD 0 false = true ∧ ∀ p ∈ l, Y.getD p.1.toNat false = true → ∀ x ∈ p.2, x.1 = 2 → Y.getD x.2.toNat false = true
def LR (l : List Pr) (n : Nat) (X : List Bool) : Prop := X.length = n ∧ clR l X ∧ ∀ Y, clR l Y → le X Y
theorem LR_one {l : List Pr} {n : Nat} {X Y : List Bool} (h : LR l n X) (h2 : LR l n Y) : X = Y :=
  le_anti (by rw [h.1, h2.1]) (h.2.2 Y h2.2.1) (h2.2.2 X h.2.1)

/-! First. -/
/-- What some symbols begin with, something being behind. -/
def beg (E : List Bool) (F : List Nat) (behind : Nat) : List (Int × Int) → Nat
  | [] => behind
  | x :: r => if x.1 = 1 then 2 ^ x.2.toNat else if E.getD x.2.toNat false = true then F.getD x.2.toNat 0 ||| beg E F behind r else F.getD x.2.toNat 0
/-- Do they begin with t? -/
def begB (E : List Bool) (S : Nat → Bool) (t : Nat) : List (Int × Int) → Bool
  | [] => false
  | x :: r => if x.1 = 1 then decide (x.2.toNat = t) else if S x.2.toNat = true then true else if E.getD x.2.toNat false = true then begB E S t r else false
theorem beg_bit {E : List Bool} {F : List Nat} {t : Nat} {b : List (Int × Int)} : (beg E F 0 b).testBit t = begB E (fun i => (F.getD i 0).testBit t) t b := by
  induction b with
  | nil => simp [beg, begB]
  | cons x r ih =>
    rw [beg, begB]
    split
    · rw [Nat.testBit_two_pow]
    · split
      · rw [Nat.testBit_or, ih]
        cases h : (F.getD x.2.toNat 0).testBit t <;> simp
      · cases h : (F.getD x.2.toNat 0).testBit t <;> simp
theorem begB_mono {E : List Bool} {S S' : Nat → Bool} {t : Nat} (h : ∀ i, S i = true → S' i = true) {b : List (Int × Int)} (hb : begB E S t b = true) : begB E S' t b = true := by
  induction b with
  | nil => cases hb
  | cons x r ih =>
    rw [begB] at hb ⊢
    split at hb
    · rename_i h1; rw [if_pos h1]; exact hb
    · rename_i h1
      rw [if_neg h1]
      split at hb
      · rename_i h2; rw [if_pos (h _ h2)]
      · split at hb
        · rename_i h2 h3
          split
          · rfl
          · exact ih hb
        · cases hb
def clF (l : List Pr) (E M : List Bool) (t : Nat) (S : Nat → Bool) : Prop := ∀ p ∈ l, all M true p.2 = true → begB E S t p.2 = true → S p.1.toNat = true
def LF (l : List Pr) (n : Nat) (E M : List Bool) (F : List Nat) : Prop := F.length = n ∧ ∀ t, clF l E M t (fun i => (F.getD i 0).testBit t) ∧ ∀ S, clF l E M t S → ∀ i, (F.getD i 0).testBit t = true → S i = true
theorem LF_one {l : List Pr} {n : Nat} {E M : List Bool} {F G : List Nat} (h : LF l n E M F) (h2 : LF l n E M G) : F = G := by
  apply List.ext_getElem (by rw [h.1, h2.1])
  intro i h3 h4
  have e1 : F.getD i 0 = F[i] := by simp [List.getD, List.getElem?_eq_getElem h3]
  have e2 : G.getD i 0 = G[i] := by simp [List.getD, List.getElem?_eq_getElem h4]
  apply Nat.eq_of_testBit_eq
  intro t
  have a := (h.2 t).2 _ (h2.2 t).1 i
  have b := (h2.2 t).2 _ (h.2 t).1 i
  simp only [e1, e2] at a b
  cases hx : F[i].testBit t <;> cases hy : G[i].testBit t <;> simp_all

/-! Follow: the same rounds in both texts. -/
/-- One production's symbols: what comes behind each of its nonterminals. -/
def folB (E : List Bool) (F : List Nat) (h : Nat) : List (Int × Int) → List Nat → List Nat
  | [], W => W
  | x :: r, W => folB E F h r (if x.1 = 2 then W.set x.2.toNat (W.getD x.2.toNat 0 ||| beg E F (W.getD h 0) r) else W)
def fol (E : List Bool) (F : List Nat) (l : List Pr) (W : List Nat) : List Nat := l.foldl (fun W p => folB E F p.1.toNat p.2 W) W
def iter (f : List Nat → List Nat) : Nat → List Nat → List Nat
  | 0, W => W
  | k + 1, W => iter f k (f W)
theorem iter_fix {f : List Nat → List Nat} {W : List Nat} (h : f W = W) (k : Nat) : iter f k W = W := by
  induction k with
  | zero => rfl
  | succ k ih => rw [iter, h, ih]
theorem iter_add {f : List Nat → List Nat} (a b : Nat) : ∀ W, iter f (a + b) W = iter f b (iter f a W) := by
  induction a with
  | zero => intro W; rw [Nat.zero_add]; rfl
  | succ a ih => intro W; rw [show a + 1 + b = (a + b) + 1 by omega, iter, iter, ih]
def LW (f : List Nat → List Nat) (W0 W : List Nat) : Prop := (∃ k, W = iter f k W0) ∧ f W = W
theorem LW_one {f : List Nat → List Nat} {W0 W V : List Nat} (h : LW f W0 W) (h2 : LW f W0 V) : W = V := by
  obtain ⟨⟨a, ha⟩, hf⟩ := h
  obtain ⟨⟨b, hb⟩, hg⟩ := h2
  rcases Nat.le_total a b with hab | hab
  · obtain ⟨d, rfl⟩ : ∃ d, b = a + d := ⟨b - a, by omega⟩
    rw [hb, iter_add, ← ha, iter_fix hf]
  · obtain ⟨d, rfl⟩ : ∃ d, a = b + d := ⟨a - b, by omega⟩
    rw [ha, iter_add, ← hb, iter_fix hg]
/-- All the facts of a grammar. -/
structure Spec (l : List Pr) (n : Nat) (E : List Bool) (F W : List Nat) (R M : List Bool) : Prop where
  e : LA l n false E
  m : LA l n true M
  r : LR l n R
  f : LF l n E M F
  w : LW (fol E F l) ((List.replicate n 0).set 0 9223372036854775808) W
theorem Spec.one {l : List Pr} {n : Nat} {E E' : List Bool} {F F' W W' : List Nat} {R R' M M' : List Bool} (h : Spec l n E F W R M) (h2 : Spec l n E' F' W' R' M') : E = E' ∧ F = F' ∧ W = W' ∧ R = R' ∧ M = M' := by
  have e1 := LA_one h.e h2.e
  have e2 := LA_one h.m h2.m
  have e3 := LR_one h.r h2.r
  subst e1 e2
  have e4 := LF_one h.f h2.f
  subst e4
  exact ⟨rfl, rfl, LW_one h.w h2.w, e3, rfl⟩
end Fc
end Go.Proofs.Ytlgabpcddldelaa
