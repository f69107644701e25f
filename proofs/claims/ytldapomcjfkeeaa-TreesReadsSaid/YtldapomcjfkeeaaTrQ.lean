/-
  Trees out of their events. (Plain functions; nothing of the program is claimed.)
-/
import Derived.Test.YtldapomcjfkeeaaTrP
namespace Go.Proofs.Ytldapomcjfkeeaa
set_option linter.unusedVariables false

namespace Tr
abbrev Ev := Int × Int
abbrev Gm := List (Int × List (Int × Int))
abbrev R3 := Tr × List Ev × Nat
def cnt : List Ev → Nat
  | [] => 0
  | e :: s => (if e.1 = 2 then 1 else 0) + cnt s
/-- Are the tokens numbered from c on? -/
def ord : List Ev → Nat → Bool
  | [], _ => true
  | e :: s, c => if e.1 = 2 then decide (e.2 = (c : Int)) && ord s (c + 1) else ord s c
theorem cnt_append (a b : List Ev) : cnt (a ++ b) = cnt a + cnt b := by
  induction a with
  | nil => simp [cnt]
  | cons e a ih => simp only [List.cons_append, cnt, ih]; omega
theorem ord_append (a b : List Ev) : ∀ c, ord (a ++ b) c = (ord a c && ord b (c + cnt a)) := by
  induction a with
  | nil => intro c; simp [ord, cnt]
  | cons e a ih =>
    intro c
    simp only [List.cons_append, ord, cnt]
    split
    · rw [ih, Bool.and_assoc, show c + 1 + cnt a = c + (1 + cnt a) by omega]
    · rw [ih, show c + (0 + cnt a) = c + cnt a by omega]
theorem cnt_le (a : List Ev) : cnt a ≤ a.length := by
  induction a with
  | nil => simp [cnt]
  | cons e a ih => simp only [cnt, List.length_cons]; split <;> omega

/-- The kids one behind the other. -/
def dnK (g : (Int × Int) → List Ev → Nat → Option R3) : List (Int × Int) → List Ev → Nat → Option (List Tr × List Ev × Nat)
  | [], s, c => some ([], s, c)
  | y :: b, s, c => match g y s c with
    | none => none
    | some q => match dnK g b q.2.1 q.2.2 with
      | none => none
      | some r => some (q.1 :: r.1, r.2.1, r.2.2)
/-- The node at a symbol, from the top; chk: are the tokens' numbers looked at? -/
def dn (chk : Bool) (G : Gm) : Nat → (Int × Int) → List Ev → Nat → Option R3
  | 0, _, _, _ => none
  | _ + 1, _, [], _ => none
  | f + 1, x, e :: s, c =>
    if x.1 = 1 then (if e.1 = 2 ∧ (chk = true → e.2 = (c : Int)) then some (.mk (-1) e.2 [], s, c + 1) else none)
    else if e.1 = 1 ∧ 0 ≤ e.2 ∧ e.2 < G.length ∧ (G.getD e.2.toNat (0, [])).1 = x.2 then
      match dnK (dn chk G f) (G.getD e.2.toNat (0, [])).2 s c with
      | none => none
      | some r => match r.2.1 with
        | [] => none
        | e' :: s' => if e'.1 = 3 ∧ e'.2 = e.2 then some (.mk e.2 0 r.1, s', r.2.2) else none
    else none
def Dn (g h : (Int × Int) → List Ev → Nat → Option R3) : Prop :=
  ∀ x s c, (g x s c = none → h x s c = none) ∧ ∀ q, g x s c = some q → ∃ a, s = a ++ q.2.1 ∧ a ≠ [] ∧ q.2.2 = c + cnt a ∧ h x s c = if ord a c then some q else none
theorem dnK_ord {g h : (Int × Int) → List Ev → Nat → Option R3} (hg : Dn g h) : ∀ (b : List (Int × Int)) (s : List Ev) (c : Nat), (dnK g b s c = none → dnK h b s c = none) ∧ ∀ q, dnK g b s c = some q → ∃ a, s = a ++ q.2.1 ∧ q.2.2 = c + cnt a ∧ dnK h b s c = if ord a c then some q else none := by
  intro b
  induction b with
  | nil =>
    intro s c
    refine ⟨fun h => (by cases h), fun q h => ?_⟩
    cases h
    exact ⟨[], rfl, rfl, rfl⟩
  | cons y b ih =>
    intro s c
    obtain ⟨h1, h2⟩ := hg y s c
    refine ⟨fun hn => ?_, fun q hq => ?_⟩
    · rw [dnK] at hn ⊢
      cases hgy : g y s c with
      | none => rw [h1 hgy]
      | some r =>
        rw [hgy] at hn
        obtain ⟨a, _, _, _, ha⟩ := h2 r hgy
        rw [ha]
        split
        · rfl
        · rename_i q hq
          split at hq
          · cases hq
            simp only at hn
            cases hk : dnK g b r.2.1 r.2.2 with
            | none => rw [(ih _ _).1 hk]
            | some z => rw [hk] at hn; cases hn
          · cases hq
    · rw [dnK] at hq ⊢
      cases hgy : g y s c with
      | none => rw [hgy] at hq; cases hq
      | some r =>
        rw [hgy] at hq
        simp only at hq
        obtain ⟨a, ha1, ha2, ha3, ha4⟩ := h2 r hgy
        cases hk : dnK g b r.2.1 r.2.2 with
        | none => rw [hk] at hq; cases hq
        | some z =>
          rw [hk] at hq
          cases hq
          obtain ⟨a', hb1, hb2, hb3⟩ := (ih _ _).2 z hk
          refine ⟨a ++ a', by rw [ha1, hb1, List.append_assoc], by simp only; rw [hb2, ha3, cnt_append]; omega, ?_⟩
          rw [ord_append, ha4]
          cases ho : ord a c
          · simp
          · simp only [if_true, Bool.true_and]
            rw [hb3, ha3]
            cases ho2 : ord a' (c + cnt a) <;> simp
theorem dn_ord {chk : Bool} {G : Gm} : ∀ f, Dn (dn false G f) (dn true G f) := by
  intro f
  induction f with
  | zero => intro x s c; exact ⟨fun _ => rfl, fun q h => by cases h⟩
  | succ f ih =>
    intro x s c
    cases s with
    | nil => exact ⟨fun _ => rfl, fun q h => by cases h⟩
    | cons e s =>
      rw [dn, dn]
      by_cases hx : x.1 = 1
      · simp only [hx, if_true]
        by_cases he : e.1 = 2
        · simp only [he, true_and, Bool.false_eq_true, false_implies, if_true, forall_const]
          refine ⟨fun h => (by cases h), fun q hq => ?_⟩
          cases hq
          refine ⟨[e], rfl, by simp, by simp [cnt, he], ?_⟩
          simp only [ord, he, if_true, Bool.and_true, decide_eq_true_eq]
        · simp only [he, false_and, if_false]
          exact ⟨fun _ => trivial, fun q h => by cases h⟩
      · simp only [hx, if_false]
        by_cases hc : e.1 = 1 ∧ 0 ≤ e.2 ∧ e.2 < G.length ∧ (G.getD e.2.toNat (0, [])).1 = x.2
        · simp only [hc, and_self, if_true]
          have he2 : ¬ e.1 = 2 := by omega
          obtain ⟨k1, k2⟩ := dnK_ord ih (G.getD e.2.toNat (0, [])).2 s c
          cases hk : dnK (dn false G f) (G.getD e.2.toNat (0, [])).2 s c with
          | none =>
            rw [k1 hk]
            exact ⟨fun _ => rfl, fun q h => by cases h⟩
          | some r =>
            obtain ⟨a, ha1, ha2, ha3⟩ := k2 r hk
            rw [ha3]
            obtain ⟨ts, r2, c2⟩ := r
            simp only at ha1 ha2 ⊢
            cases r2 with
            | nil =>
              refine ⟨fun _ => ?_, fun q h => by cases h⟩
              cases ord a c <;> simp
            | cons e' s' =>
              simp only
              by_cases hm : e'.1 = 3 ∧ e'.2 = e.2
              · simp only [hm, and_self, if_true]
                refine ⟨fun h => (by cases h), fun q hq => ?_⟩
                cases hq
                have he3 : ¬ e'.1 = 2 := by omega
                refine ⟨e :: (a ++ [e']), by rw [ha1]; simp, by simp, by simp only [cnt, he2, if_false, cnt_append, he3]; omega, ?_⟩
                simp only [ord, he2, if_false, ord_append, he3, Bool.and_true]
                cases ord a c <;> simp [hm]
              · simp only [hm, if_false]
                refine ⟨fun _ => ?_, fun q h => by cases h⟩
                cases ord a c <;> simp [hm]
        · simp only [hc, if_false]
          exact ⟨fun _ => trivial, fun q h => by cases h⟩
/-- What a whole text gives, from the top. -/
theorem dn_whole {G : Gm} {f : Nat} {E : List Ev} {x : Int × Int} (t : Tr) : (∃ c, dn true G f x E 0 = some (t, [], c)) ↔ (ord E 0 = true ∧ ∃ c, dn false G f x E 0 = some (t, [], c)) := by
  obtain ⟨h1, h2⟩ := dn_ord (chk := true) (G := G) f x E 0
  constructor
  · rintro ⟨c, h⟩
    cases hf : dn false G f x E 0 with
    | none => rw [h1 hf] at h; cases h
    | some q =>
      obtain ⟨a, ha1, ha2, ha3, ha4⟩ := h2 q hf
      rw [h] at ha4
      split at ha4
      · rename_i ho
        cases ha4
        simp only [List.append_nil] at ha1
        rw [ha1]
        exact ⟨ho, c, rfl⟩
      · cases ha4
  · rintro ⟨ho, c, h⟩
    obtain ⟨a, ha1, ha2, ha3, ha4⟩ := h2 _ h
    simp only [List.append_nil] at ha1
    rw [← ha1, ho] at ha4
    exact ⟨c, by simpa using ha4⟩
theorem dnK_self {g : (Int × Int) → List Ev → Nat → Option R3} (hg : ∀ x s c q, g x s c = some q → ∃ a, s = a ++ q.2.1 ∧ a ≠ [] ∧ q.2.2 = c + cnt a) : ∀ (b : List (Int × Int)) (s : List Ev) (c : Nat) q, dnK g b s c = some q → ∃ a, s = a ++ q.2.1 ∧ q.2.2 = c + cnt a := by
  intro b
  induction b with
  | nil => intro s c q h; cases h; exact ⟨[], rfl, rfl⟩
  | cons y b ih =>
    intro s c q hq
    rw [dnK] at hq
    split at hq
    · cases hq
    rename_i r hr
    split at hq
    · cases hq
    rename_i z hz
    cases hq
    obtain ⟨a, h1, _, h2⟩ := hg _ _ _ _ hr
    obtain ⟨a', h3, h4⟩ := ih _ _ _ hz
    exact ⟨a ++ a', by rw [h1, h3, List.append_assoc], by simp only; rw [h4, h2, cnt_append]; omega⟩
theorem dn_self {chk : Bool} {G : Gm} : ∀ f x s c q, dn chk G f x s c = some q → ∃ a, s = a ++ q.2.1 ∧ a ≠ [] ∧ q.2.2 = c + cnt a := by
  intro f
  induction f with
  | zero => intro x s c q h; cases h
  | succ f ih =>
    intro x s c q h
    cases s with
    | nil => cases h
    | cons e s =>
      rw [dn] at h
      split at h
      · split at h
        · rename_i h1
          cases h
          exact ⟨[e], rfl, by simp, by simp [cnt, h1.1]⟩
        · cases h
      · split at h
        · rename_i hc
          split at h
          · cases h
          rename_i r hr
          obtain ⟨a, h1, h2⟩ := dnK_self ih _ _ _ _ hr
          split at h
          · cases h
          rename_i e' s' hs
          split at h
          · rename_i hm
            cases h
            have he2 : ¬ e.1 = 2 := by omega
            have he3 : ¬ e'.1 = 2 := by omega
            exact ⟨e :: (a ++ [e']), by rw [h1, hs]; simp, by simp, by simp only [cnt, he2, if_false, cnt_append, he3]; omega⟩
          · cases h
        · cases h
end Tr
end Go.Proofs.Ytldapomcjfkeeaa
