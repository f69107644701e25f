/-
  What the reference's rounds over a grammar give. (Plain functions; nothing of the program is claimed.)
-/
import Derived.Test.YtldapomcjfkeeaaFcFix
import Derived.Test.YtldapomcjfkeeaaFcClo3
namespace Go.Proofs.Ytldapomcjfkeeaa
set_option linter.unusedVariables false

namespace Fc
/-! fix: what holds is least. -/
def holdA (terms : Bool) (Y : List Bool) (p : Pr) : Bool := all Y terms p.2
theorem rdH_A {terms : Bool} {l : List Pr} {X : List Bool} : rdH (holdA terms) l X = rdA terms l X := rfl
theorem LA_fix {terms : Bool} {l : List Pr} {N : Nat} {X' : List Bool} (hok : ∀ p ∈ l, okP N p) (hl : X'.length = N) (hf : rdH (holdA terms) l X' = X') (hq : ∀ Q : List Bool → Prop, (∀ Y, Y.length = N → Q Y → Q (rdH (holdA terms) l Y)) → Q (List.replicate N false) → Q X') : LA l N terms X' :=
  LA_of hl (okP_head hok) (fun Z hZ => hq (fun Y => le Y Z) (fun Y _ hY => rdA_le hZ (fun p hp => hp) hY) (le_rep Z)) hf
def holdF (E M : List Bool) (t : Nat) (Y : List Bool) (p : Pr) : Bool := all M true p.2 && begB E (fun i => Y.getD i false) t p.2
theorem rdH_ge {hold : List Bool → Pr → Bool} {l : List Pr} : ∀ {X : List Bool}, le X (rdH hold l X) := by
  induction l with
  | nil => intro X; exact le_refl X
  | cons p l ih => intro X; exact le_trans set1_ge (ih (X := set1 X p.1.toNat (hold X p)))
theorem rdF_leB {E M : List Bool} {t : Nat} {S : Nat → Bool} {l l' : List Pr} (hS : clF l' E M t S) : ∀ {X : List Bool}, (∀ p ∈ l, p ∈ l') → (∀ i, X.getD i false = true → S i = true) → ∀ i, (rdH (holdF E M t) l X).getD i false = true → S i = true := by
  induction l with
  | nil => intro X _ h; exact h
  | cons p l ih =>
    intro X hm h
    refine ih (X := set1 X p.1.toNat (holdF E M t X p)) (fun q hq => hm q (.tail _ hq)) (fun i hi => ?_)
    unfold set1 at hi
    split at hi
    · rename_i hb
      unfold holdF at hb
      rw [Bool.and_eq_true] at hb
      by_cases e : p.1.toNat = i
      · rw [← e]
        exact hS p (hm p (.head _)) hb.1 (begB_mono h hb.2)
      · rw [List.getD_eq_getElem?_getD, List.getElem?_set_ne e, ← List.getD_eq_getElem?_getD] at hi
        exact h i hi
    · exact h i hi
theorem rdF_clB {E M : List Bool} {t : Nat} {l : List Pr} : ∀ {X : List Bool}, (∀ p ∈ l, p.1.toNat < X.length) → rdH (holdF E M t) l X = X → clF l E M t (fun i => X.getD i false) := by
  induction l with
  | nil => intro X _ _ p hp; cases hp
  | cons p l ih =>
    intro X hl h
    have h0 : rdH (holdF E M t) l (set1 X p.1.toNat (holdF E M t X p)) = X := h
    have h1 := rdH_ge (hold := holdF E M t) (l := l) (X := set1 X p.1.toNat (holdF E M t X p))
    rw [h0] at h1
    have h2 : set1 X p.1.toNat (holdF E M t X p) = X := le_anti set1_len h1 set1_ge
    rw [h2] at h0
    intro q hq ha hb
    rcases List.mem_cons.1 hq with rfl | hq
    · exact set1_eq_iff (hl _ (.head _)) h2 (by unfold holdF; rw [ha, hb]; rfl)
    · exact ih (fun z hz => hl z (.tail _ hz)) h0 q hq ha hb
/-- What begins with t: least. -/
def LT (l : List Pr) (E M : List Bool) (t : Nat) (S : Nat → Bool) : Prop := clF l E M t S ∧ ∀ S', clF l E M t S' → ∀ i, S i = true → S' i = true
theorem LT_fix {E M : List Bool} {t : Nat} {l : List Pr} {N : Nat} {X' : List Bool} (hok : ∀ p ∈ l, okP N p) (hl : X'.length = N) (hf : rdH (holdF E M t) l X' = X') (hq : ∀ Q : List Bool → Prop, (∀ Y, Y.length = N → Q Y → Q (rdH (holdF E M t) l Y)) → Q (List.replicate N false) → Q X') : LT l E M t (fun i => X'.getD i false) :=
  ⟨rdF_clB (by rw [hl]; exact okP_head hok) hf, fun S' hS' => hq (fun Y => ∀ i, Y.getD i false = true → S' i = true) (fun Y _ hY => rdF_leB hS' (fun p hp => hp) hY) (fun i hi => by rw [getD_rep] at hi; cases hi)⟩

/-! First: bit by bit. -/
def orK (b : Nat) (S : List Bool) (F : List Nat) : Nat → List Nat
  | 0 => F
  | k + 1 => if S.getD k false = true then up (orK b S F k) k b else orK b S F k
theorem orK_len {b : Nat} {S : List Bool} {F : List Nat} : ∀ {k : Nat}, (orK b S F k).length = F.length := by
  intro k
  induction k with
  | zero => rfl
  | succ k ih => rw [orK]; split; · rw [up_len, ih]
                 · exact ih
theorem orK_get {b : Nat} {S : List Bool} {F : List Nat} : ∀ {k : Nat}, k ≤ F.length → ∀ j, (orK b S F k).getD j 0 = if j < k ∧ S.getD j false = true then F.getD j 0 ||| b else F.getD j 0 := by
  intro k
  induction k with
  | zero => intro _ j; rw [if_neg (by omega)]; rfl
  | succ k ih =>
    intro hk j
    have ih := ih (by omega)
    rw [orK]
    split
    · rename_i hs
      rw [up_get j (by rw [orK_len]; omega)]
      by_cases e : k = j
      · subst e
        rw [if_pos rfl, ih k, if_neg (by omega), if_pos ⟨by omega, hs⟩]
      · rw [if_neg e, ih j]
        by_cases h1 : j < k ∧ S.getD j false = true
        · rw [if_pos h1, if_pos ⟨by omega, h1.2⟩]
        · rw [if_neg h1, if_neg (fun h => h1 ⟨by omega, h.2⟩)]
    · rename_i hs
      rw [ih j]
      by_cases h1 : j < k ∧ S.getD j false = true
      · rw [if_pos h1, if_pos ⟨by omega, h1.2⟩]
      · rw [if_neg h1, if_neg (fun h => h1 ⟨by
          have : j ≠ k := fun e => by subst e; exact hs h.2
          omega, h.2⟩)]
/-- Up to the terminal t. -/
structure Upt (l : List Pr) (N : Nat) (E M : List Bool) (t : Nat) (F : List Nat) : Prop where
  len : F.length = N
  lo : ∀ u, u < t → LT l E M u (fun i => (F.getD i 0).testBit u)
  hi : ∀ u, t ≤ u → ∀ i, (F.getD i 0).testBit u = false
  lt : ∀ i, F.getD i 0 < 2 ^ t
theorem Upt.init {l : List Pr} {N : Nat} {E M : List Bool} : Upt l N E M 0 (List.replicate N 0) :=
  ⟨by simp, fun u h => by omega, fun u _ i => by rw [getD_rep]; simp, fun i => by rw [getD_rep]; simp⟩
theorem Upt.next {l : List Pr} {N : Nat} {E M : List Bool} {t : Nat} {F : List Nat} {S : List Bool} (h : Upt l N E M t F) (hS : S.length = N) (hl : LT l E M t (fun i => S.getD i false)) : Upt l N E M (t + 1) (orK (2 ^ t) S F N) := by
  have hget := orK_get (b := 2 ^ t) (S := S) (F := F) (k := N) (by rw [h.len]; exact Nat.le_refl _)
  have hbit : ∀ u i, ((orK (2 ^ t) S F N).getD i 0).testBit u = ((F.getD i 0).testBit u || (decide (u = t) && S.getD i false)) := by
    intro u i
    rw [hget i]
    by_cases h1 : i < N ∧ S.getD i false = true
    · rw [if_pos h1, Nat.testBit_or, Nat.testBit_two_pow, h1.2, Bool.and_true]
      congr 1
      rw [decide_eq_decide]; exact ⟨fun h => h.symm, fun h => h.symm⟩
    · rw [if_neg h1]
      have : S.getD i false = false := by
        cases hs : S.getD i false
        · rfl
        · exfalso
          apply h1
          refine ⟨?_, hs⟩
          apply Classical.byContradiction
          intro hn
          rw [List.getD_eq_getElem?_getD, List.getElem?_eq_none (by omega)] at hs
          cases hs
      rw [this]; simp
  refine ⟨by rw [orK_len]; exact h.len, fun u hu => ?_, fun u hu i => ?_, fun i => ?_⟩
  · by_cases e : u = t
    · subst e
      have : (fun i => ((orK (2 ^ u) S F N).getD i 0).testBit u) = fun i => S.getD i false := by
        funext i
        rw [hbit, h.hi u (Nat.le_refl _) i]; simp
      rw [this]; exact hl
    · have : (fun i => ((orK (2 ^ t) S F N).getD i 0).testBit u) = fun i => (F.getD i 0).testBit u := by
        funext i
        rw [hbit]; simp [e]
      rw [this]; exact h.lo u (by omega)
  · rw [hbit, h.hi u (by omega) i]
    simp; omega
  · rw [hget i]
    have h1 := h.lt i
    have h2 : (2 : Nat) ^ t < 2 ^ (t + 1) := Nat.pow_lt_pow_right (by decide) (by omega)
    split
    · exact Nat.or_lt_two_pow (by omega) h2
    · omega
/-- No symbol begins with what is no terminal. -/
theorem LT_none {l : List Pr} {E M : List Bool} {t : Nat} (h : ∀ p ∈ l, ∀ x ∈ p.2, x.1 = 1 → x.2.toNat ≠ t) : LT l E M t (fun _ => false) := by
  refine ⟨fun p hp _ hb => ?_, fun S' _ i hi => by cases hi⟩
  have : ∀ b : List (Int × Int), (∀ x ∈ b, x.1 = 1 → x.2.toNat ≠ t) → begB E (fun _ => false) t b = false := by
    intro b
    induction b with
    | nil => intro _; rfl
    | cons x r ih =>
      intro hx
      rw [begB]
      split
      · exact decide_eq_false (hx x (.head _) ‹_›)
      · rw [if_neg (by simp)]
        split
        · exact ih (fun y hy => hx y (.tail _ hy))
        · rfl
  rw [this p.2 (h p hp)] at hb
  cases hb
theorem Upt.done {l : List Pr} {N : Nat} {E M : List Bool} {t : Nat} {F : List Nat} (h : Upt l N E M t F) (ht : ∀ p ∈ l, ∀ x ∈ p.2, x.1 = 1 → x.2.toNat < t) : LF l N E M F := by
  refine ⟨h.len, fun u => ?_⟩
  by_cases hu : u < t
  · exact h.lo u hu
  · have : (fun i => (F.getD i 0).testBit u) = fun _ => false := by funext i; exact h.hi u (by omega) i
    have h2 := LT_none (l := l) (E := E) (M := M) (t := u) (fun p hp x hx h1 => by have := ht p hp x hx h1; omega)
    rw [this]
    refine ⟨h2.1, fun S _ i hi => ?_⟩
    rw [h.hi u (by omega) i] at hi; cases hi

/-! Reach: as many rounds as there are nonterminals. -/
theorem cnt_le_of {X Y : List Bool} (hl : X.length = Y.length) (h : le X Y) : cnt X ≤ cnt Y ∧ (X ≠ Y → cnt X < cnt Y) := by
  induction X generalizing Y with
  | nil => cases Y with
    | nil => exact ⟨Nat.le_refl _, fun h => absurd rfl h⟩
    | cons => simp at hl
  | cons a r ih =>
    cases Y with
    | nil => simp at hl
    | cons b s =>
      have h1 := ih (Y := s) (by simpa using hl) (fun i hi => by have := h (i + 1); simpa using this (by simpa using hi))
      have h0 : a = true → b = true := fun ha => by have := h 0; simpa using this (by simpa using ha)
      have e1 : cnt (a :: r) = (if a = true then 1 else 0) + cnt r := by unfold cnt; cases a <;> simp; omega
      have e2 : cnt (b :: s) = (if b = true then 1 else 0) + cnt s := by unfold cnt; cases b <;> simp; omega
      rw [e1, e2]
      refine ⟨?_, fun hne => ?_⟩
      · cases a <;> cases b <;> simp at h0 ⊢ <;> omega
      · cases a <;> cases b <;> simp at h0 ⊢ hne <;> first | omega | (have := h1.2 hne; omega)
structure Rch (l : List Pr) (N k : Nat) (R : List Bool) : Prop where
  len : R.length = N
  r0 : R.getD 0 false = true
  le : ∀ Y, clR l Y → le R Y
  go : rdR l R = R ∨ k + 1 ≤ cnt R
theorem Rch.init {l : List Pr} {N : Nat} (hN : 0 < N) : Rch l N 0 ((List.replicate N false).set 0 true) := by
  refine ⟨by simp, by rw [getD_rep0 hN]; rfl, le_rep0 hN, .inr ?_⟩
  rw [cnt_set (by simpa using hN) getD_rep]; omega
theorem Rch.next {l : List Pr} {N k : Nat} {R : List Bool} (h : Rch l N k R) : Rch l N (k + 1) (rdR l R) := by
  refine ⟨by rw [rdR_len]; exact h.len, rdR_ge 0 h.r0, fun Y hY => rdR_le hY (fun p hp => hp) (h.le Y hY), ?_⟩
  by_cases e : rdR l R = R
  · left; rw [e, e]
  · right
    have h1 := (cnt_le_of (X := R) (Y := rdR l R) rdR_len.symm rdR_ge).2 (fun e2 => e e2.symm)
    rcases h.go with h2 | h2
    · exact absurd h2 e
    · omega
theorem Rch.done {l : List Pr} {N : Nat} {R : List Bool} (h : Rch l N N R) : rdR l R = R := by
  rcases h.go with h1 | h1
  · exact h1
  · have := cnt_le R; have := h.len; omega

/-! Follow: a pass. -/
theorem folB_prog {E : List Bool} {F : List Nat} {h : Nat} (hF : ∀ i, F.getD i 0 < 2 ^ 64) {r : List (Int × Int)} : ∀ {W0 W : List Nat} {m : Bool}, (∀ x ∈ r, (x.1 = 1 → x.2.toNat < 64) ∧ (x.1 = 2 → x.2.toNat < W.length)) → (∀ i, W.getD i 0 < 2 ^ 64) → ProgN (2 ^ 64) W0 W m → ∃ m', ProgN (2 ^ 64) W0 (folB E F h r W) m' := by
  induction r with
  | nil => intro W0 W m _ _ hp; exact ⟨m, hp⟩
  | cons x r ih =>
    intro W0 W m hx hW hp
    rw [folB_cons]
    split
    · rename_i h2
      have hb := beg_lt (k := 64) (E := E) (F := F) (b := W.getD h 0) (body := r) hF (hW h) (fun y hy => (hx y (.tail _ hy)).1)
      exact ih (fun y hy => by rw [up_len]; exact hx y (.tail _ hy)) (up_lt hW hb) (hp.up ((hx x (.head _)).2 h2) (Nat.or_lt_two_pow (hW _) hb))
    · exact ih (fun y hy => hx y (.tail _ hy)) hW hp
theorem fol_prog {E : List Bool} {F : List Nat} (hF : ∀ i, F.getD i 0 < 2 ^ 64) {l : List Pr} : ∀ {W0 W : List Nat} {m : Bool}, (∀ p ∈ l, ∀ x ∈ p.2, (x.1 = 1 → x.2.toNat < 64) ∧ (x.1 = 2 → x.2.toNat < W.length)) → (∀ i, W.getD i 0 < 2 ^ 64) → ProgN (2 ^ 64) W0 W m → ∃ m', ProgN (2 ^ 64) W0 (fol E F l W) m' := by
  induction l with
  | nil => intro W0 W m _ _ hp; exact ⟨m, hp⟩
  | cons p l ih =>
    intro W0 W m hx hW hp
    obtain ⟨m1, h1⟩ := folB_prog (E := E) (h := p.1.toNat) hF (hx p (.head _)) hW hp
    exact ih (W := folB E F p.1.toNat p.2 W) (fun q hq x hxx => by rw [folB_len]; exact hx q (.tail _ hq) x hxx) (folB_lt hF (fun x hxx => (hx p (.head _) x hxx).1) hW) h1
theorem fol_room {E : List Bool} {F : List Nat} (hF : ∀ i, F.getD i 0 < 2 ^ 64) {l : List Pr} {N : Nat} (hok : ∀ p ∈ l, okP N p) {W : List Nat} (hl : W.length = N) (hW : ∀ i, W.getD i 0 < 2 ^ 64) : room (2 ^ 64) (fol E F l W) ≤ room (2 ^ 64) W ∧ (fol E F l W ≠ W → room (2 ^ 64) (fol E F l W) < room (2 ^ 64) W) := by
  obtain ⟨m, h1, h2⟩ := fol_prog (E := E) hF (l := l) (W0 := W) (W := W) (m := false) (fun p hp x hx => ⟨okP_lt (hok p hp) x hx, fun h => by rw [hl]; exact okP_body hok p hp x hx h⟩) hW (ProgN.refl _ _)
  cases m
  · rw [h1 rfl]; exact ⟨Nat.le_refl _, fun h => absurd rfl h⟩
  · have := h2 rfl; exact ⟨by omega, fun _ => this⟩
end Fc
end Go.Proofs.Ytldapomcjfkeeaa
