/-
  The rounds that find the least facts: each raises what there is, none beyond what is least; one that changes nothing has found all. (Plain functions; nothing of the program is claimed.)
-/
import Derived.Test.YtlgabpcddldelaaFc
namespace Go.Proofs.Ytlgabpcddldelaa
set_option linter.unusedVariables false

namespace Fc
def cnt (X : List Bool) : Nat := (X.filter id).length
theorem cnt_le (X : List Bool) : cnt X ≤ X.length := by unfold cnt; exact List.length_filter_le _ _
theorem cnt_set {X : List Bool} {i : Nat} (hi : i < X.length) (h : X.getD i false = false) : cnt (X.set i true) = cnt X + 1 := by
  induction X generalizing i with
  | nil => simp at hi
  | cons a r ih =>
    cases i with
    | zero =>
      have : a = false := by simpa [List.getD] using h
      subst this
      simp [cnt]
    | succ i =>
      have hi' : i < r.length := by simpa using hi
      have h' : r.getD i false = false := by simpa [List.getD] using h
      have := ih hi' h'
      unfold cnt at *
      simp only [List.set_cons_succ, List.filter_cons]
      cases a <;> simp <;> omega
/-- Something new: one more. -/
theorem cnt_set1 {X : List Bool} {i : Nat} {b : Bool} (hi : i < X.length) : cnt (set1 X i b) = cnt X + (if (b && !X.getD i false) = true then 1 else 0) := by
  cases b
  · simp [set1]
  · cases h : X.getD i false
    · rw [show set1 X i true = X.set i true by simp [set1], cnt_set hi h]; rfl
    · rw [set1_same hi (fun _ => h)]; simp
theorem set1_eq_iff {X : List Bool} {i : Nat} {b : Bool} (hi : i < X.length) (h : set1 X i b = X) : b = true → X.getD i false = true := by
  intro hb
  have := cnt_set1 (b := b) hi
  rw [h] at this
  cases hx : X.getD i false
  · rw [hb, hx] at this; simp at this
  · rfl

/-! A round over the productions, by one rule for heads. -/
def rdA (terms : Bool) (l : List Pr) (X : List Bool) : List Bool := l.foldl (fun X p => set1 X p.1.toNat (all X terms p.2)) X
theorem rdA_cons {terms : Bool} {p : Pr} {l : List Pr} {X : List Bool} : rdA terms (p :: l) X = rdA terms l (set1 X p.1.toNat (all X terms p.2)) := rfl
theorem rdA_len {terms : Bool} {l : List Pr} : ∀ {X : List Bool}, (rdA terms l X).length = X.length := by
  induction l with
  | nil => intro X; rfl
  | cons p l ih => intro X; rw [rdA_cons, ih, set1_len]
theorem rdA_ge {terms : Bool} {l : List Pr} : ∀ {X : List Bool}, le X (rdA terms l X) := by
  induction l with
  | nil => intro X; exact le_refl X
  | cons p l ih => intro X; rw [rdA_cons]; exact le_trans set1_ge ih
theorem rdA_le {terms : Bool} {l l' : List Pr} {Y : List Bool} (hY : clA l' terms Y) : ∀ {X : List Bool}, (∀ p ∈ l, p ∈ l') → le X Y → le (rdA terms l X) Y := by
  induction l with
  | nil => intro X _ h; exact h
  | cons p l ih =>
    intro X hm h
    rw [rdA_cons]
    exact ih (fun q hq => hm q (.tail _ hq)) (set1_le h (fun hb => hY p (hm p (.head _)) (all_mono h hb)))
/-- A round that changes nothing: closed. -/
theorem rdA_cl {terms : Bool} {l : List Pr} : ∀ {X : List Bool}, (∀ p ∈ l, p.1.toNat < X.length) → rdA terms l X = X → clA l terms X := by
  induction l with
  | nil => intro X _ _ p hp; cases hp
  | cons p l ih =>
    intro X hl h
    rw [rdA_cons] at h
    have h1 : le (set1 X p.1.toNat (all X terms p.2)) X := by rw [← h]; rw [h]; have := rdA_ge (terms := terms) (l := l) (X := set1 X p.1.toNat (all X terms p.2)); rw [h] at this; exact this
    have h2 : set1 X p.1.toNat (all X terms p.2) = X := le_anti set1_len h1 set1_ge
    rw [h2] at h
    intro q hq
    rcases List.mem_cons.1 hq with rfl | hq
    · exact set1_eq_iff (hl _ (.head _)) h2
    · exact ih (fun z hz => hl z (.tail _ hz)) h q hq
theorem LA_of {l : List Pr} {n : Nat} {terms : Bool} {X : List Bool} (hl : X.length = n) (hb : ∀ p ∈ l, p.1.toNat < n) (hle : ∀ Y, clA l terms Y → le X Y) (h : rdA terms l X = X) : LA l n terms X :=
  ⟨hl, rdA_cl (by rw [hl]; exact hb) h, hle⟩

/-! Reach. -/
def rR (h : Nat) : List (Int × Int) → List Bool → List Bool
  | [], R => R
  | x :: r, R => rR h r (if x.1 = 2 then set1 R x.2.toNat (R.getD h false) else R)
def rdR (l : List Pr) (X : List Bool) : List Bool := l.foldl (fun X p => rR p.1.toNat p.2 X) X
theorem rdR_cons {p : Pr} {l : List Pr} {X : List Bool} : rdR (p :: l) X = rdR l (rR p.1.toNat p.2 X) := rfl
theorem rR_len {h : Nat} {b : List (Int × Int)} : ∀ {R : List Bool}, (rR h b R).length = R.length := by
  induction b with
  | nil => intro R; rfl
  | cons x r ih => intro R; rw [rR, ih]; split <;> simp [set1_len]
theorem rR_ge {h : Nat} {b : List (Int × Int)} : ∀ {R : List Bool}, le R (rR h b R) := by
  induction b with
  | nil => intro R; exact le_refl R
  | cons x r ih =>
    intro R
    rw [rR]
    split
    · exact le_trans set1_ge ih
    · exact ih
theorem rR_le {h : Nat} {b : List (Int × Int)} {Y : List Bool} : ∀ {R : List Bool}, (Y.getD h false = true → ∀ x ∈ b, x.1 = 2 → Y.getD x.2.toNat false = true) → le R Y → le (rR h b R) Y := by
  induction b with
  | nil => intro R _ h; exact h
  | cons x r ih =>
    intro R hY hle
    rw [rR]
    refine ih (fun g z hz => hY g z (.tail _ hz)) ?_
    split
    · rename_i hx
      exact set1_le hle (fun hb => hY (hle _ hb) x (.head _) hx)
    · exact hle
theorem rR_fix {h : Nat} {b : List (Int × Int)} : ∀ {R : List Bool}, (∀ x ∈ b, x.1 = 2 → x.2.toNat < R.length) → rR h b R = R → R.getD h false = true → ∀ x ∈ b, x.1 = 2 → R.getD x.2.toNat false = true := by
  induction b with
  | nil => intro R _ _ _ x hx; cases hx
  | cons y r ih =>
    intro R hl hf hh x hx hx2
    rw [rR] at hf
    obtain ⟨R', hR⟩ : ∃ R', (if y.1 = 2 then set1 R y.2.toNat (R.getD h false) else R) = R' := ⟨_, rfl⟩
    rw [hR] at hf
    have hge : le R R' := by rw [← hR]; split; exact set1_ge; exact le_refl R
    have hlen : R'.length = R.length := by rw [← hR]; split <;> simp [set1_len]
    have h1 : le R' R := by have := rR_ge (h := h) (b := r) (R := R'); rw [hf] at this; exact this
    have h2 : R' = R := le_anti hlen h1 hge
    rw [h2] at hf hR
    rcases List.mem_cons.1 hx with rfl | hx
    · rw [if_pos hx2] at hR
      exact set1_eq_iff (hl _ (.head _) hx2) hR hh
    · exact ih (fun z hz => hl z (.tail _ hz)) hf hh x hx hx2
theorem rdR_len {l : List Pr} : ∀ {X : List Bool}, (rdR l X).length = X.length := by
  induction l with
  | nil => intro X; rfl
  | cons p l ih => intro X; rw [rdR_cons, ih, rR_len]
theorem rdR_ge {l : List Pr} : ∀ {X : List Bool}, le X (rdR l X) := by
  induction l with
  | nil => intro X; exact le_refl X
  | cons p l ih => intro X; rw [rdR_cons]; exact le_trans rR_ge ih
theorem rdR_le {l l' : List Pr} {Y : List Bool} (hY : clR l' Y) : ∀ {X : List Bool}, (∀ p ∈ l, p ∈ l') → le X Y → le (rdR l X) Y := by
  induction l with
  | nil => intro X _ h; exact h
  | cons p l ih =>
    intro X hm h
    rw [rdR_cons]
    exact ih (fun q hq => hm q (.tail _ hq)) (rR_le (fun g x hx hx2 => hY.2 p (hm p (.head _)) g x hx hx2) h)
theorem rdR_cl {l : List Pr} : ∀ {X : List Bool}, (∀ p ∈ l, ∀ x ∈ p.2, x.1 = 2 → x.2.toNat < X.length) → rdR l X = X → ∀ p ∈ l, X.getD p.1.toNat false = true → ∀ x ∈ p.2, x.1 = 2 → X.getD x.2.toNat false = true := by
  induction l with
  | nil => intro X _ _ p hp; cases hp
  | cons p l ih =>
    intro X hl h
    rw [rdR_cons] at h
    have h1 : le (rR p.1.toNat p.2 X) X := by have := rdR_ge (l := l) (X := rR p.1.toNat p.2 X); rw [h] at this; exact this
    have h2 : rR p.1.toNat p.2 X = X := le_anti rR_len h1 rR_ge
    rw [h2] at h
    intro q hq
    rcases List.mem_cons.1 hq with rfl | hq
    · exact fun g => rR_fix (hl _ (.head _)) h2 g
    · exact ih (fun z hz => hl z (.tail _ hz)) h q hq
theorem LR_of {l : List Pr} {n : Nat} {X : List Bool} (hl : X.length = n) (h0 : X.getD 0 false = true) (hb : ∀ p ∈ l, ∀ x ∈ p.2, x.1 = 2 → x.2.toNat < n) (hle : ∀ Y, clR l Y → le X Y) (h : rdR l X = X) : LR l n X :=
  ⟨hl, ⟨h0, rdR_cl (by rw [hl]; exact hb) h⟩, hle⟩
end Fc
end Go.Proofs.Ytlgabpcddldelaa
