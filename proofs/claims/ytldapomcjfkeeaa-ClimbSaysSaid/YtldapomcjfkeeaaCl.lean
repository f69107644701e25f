/-
  What one who climbs has ahead, as plain data; what a column does to it. (Plain functions; nothing of the program is claimed.)
-/
import Derived.Test.YtldapomcjfkeeaaLlChk
namespace Go.Proofs.Ytldapomcjfkeeaa
set_option linter.unusedVariables false

namespace Cl
/-- Close, N, the symbol's kind and number. -/
abbrev T := Bool × Int × Int × Int
def good (t n : Int) (np : Nat) (x : T) : Bool := if x.1 = true then decide (0 ≤ x.2.1 ∧ x.2.1 < np ∧ x.2.2.1 = 0 ∧ x.2.2.2 = 0) else decide (x.2.1 = 0) && Gr.right t n x.2.2
/-- The ends that are next go (the next one first); none: too many acts. -/
def clo : List T → List (Int × Int) → Option (List T × List (Int × Int))
  | [], o => some ([], o)
  | x :: r, o => if x.1 = true then (if 2000 ≤ o.length then none else clo r (o ++ [(3, x.2.1)])) else some (x :: r, o)
/-- A production in the place of what is next. -/
def put (ps : List (Int × List (Int × Int))) (p : Nat) (r : List T) : List T := ((ps.getD p (0, [])).2.map fun s => (false, 0, s.1, s.2)) ++ (true, (p : Int), 0, 0) :: r
/-- On till a terminal, or nothing, is ahead: error, what is ahead, events. -/
def dn (ps : List (Int × List (Int × Int))) (rows : List (List Int)) (c : Nat) : Nat → List T → List (Int × Int) → Int × List T × List (Int × Int)
  | 0, _, _ => (14, [], [])
  | f + 1, a, o => match clo a o with
    | none => (14, [], [])
    | some ([], o') => (0, [], o')
    | some (x :: r, o') =>
      if x.2.2.1 = 1 then (0, x :: r, o')
      else if (rows.getD x.2.2.2.toNat []).getD c 0 < 0 then (13, [], [])
      else if 2000 ≤ o'.length ∨ 60 < (put ps ((rows.getD x.2.2.2.toNat []).getD c 0).toNat r).length then (14, [], [])
      else dn ps rows c f (put ps ((rows.getD x.2.2.2.toNat []).getD c 0).toNat r) (o' ++ [(1, (rows.getD x.2.2.2.toNat []).getD c 0)])
/-- Behind the way down: a token; the end. -/
def tok (c : Nat) (seen : Int) : List T → List (Int × Int) → Int × List T × List (Int × Int)
  | [], _ => (13, [], [])
  | x :: r, o => if x.2.2.2 ≠ c then (13, [], []) else if 2000 ≤ o.length then (14, [], []) else match clo r (o ++ [(2, seen)]) with
    | none => (14, [], [])
    | some y => (0, y.1, y.2)
def push (ps : List (Int × List (Int × Int))) (rows : List (List Int)) (c : Nat) (seen : Int) (a : List T) : Int × List T × List (Int × Int) :=
  if (dn ps rows c 2001 a []).1 ≠ 0 then ((dn ps rows c 2001 a []).1, [], []) else tok c seen (dn ps rows c 2001 a []).2.1 (dn ps rows c 2001 a []).2.2
def ending (ps : List (Int × List (Int × Int))) (rows : List (List Int)) (c : Nat) (a : List T) : Int × List T × List (Int × Int) :=
  if (dn ps rows c 2001 a []).1 ≠ 0 then ((dn ps rows c 2001 a []).1, [], []) else if (dn ps rows c 2001 a []).2.1 ≠ [] then (13, [], []) else (0, [], (dn ps rows c 2001 a []).2.2)
/-- The reference's loop, an act a step. -/
def go (ps : List (Int × List (Int × Int))) (rows : List (List Int)) (c : Nat) (last : Bool) (seen : Int) : Nat → Bool → List T → List (Int × Int) → Int × List T × List (Int × Int)
  | 0, _, _, _ => (14, [], [])
  | f + 1, had, a, o =>
    if 2000 < o.length ∨ 60 < a.length then (14, [], [])
    else match a with
    | [] => if had = true then (0, [], o) else if last = true then (0, [], o) else (13, [], [])
    | x :: r =>
      if x.1 = true then go ps rows c last seen f had r (o ++ [(3, x.2.1)])
      else if had = true then (0, x :: r, o)
      else if x.2.2.1 = 1 then (if x.2.2.2 ≠ c then (13, [], []) else go ps rows c last seen f true r (o ++ [(2, seen)]))
      else if (rows.getD x.2.2.2.toNat []).getD c 0 < 0 then (13, [], [])
      else go ps rows c last seen f had (put ps ((rows.getD x.2.2.2.toNat []).getD c 0).toNat r) (o ++ [(1, (rows.getD x.2.2.2.toNat []).getD c 0)])
section
variable {ps : List (Int × List (Int × Int))} {rows : List (List Int)} {c : Nat} {last : Bool} {seen : Int}
theorem go_over {f had a o} (h : 2000 < o.length ∨ 60 < a.length) : go ps rows c last seen f had a o = (14, [], []) := by
  cases f with
  | zero => rfl
  | succ f => cases a <;> rw [go, if_pos h]
theorem clo_len (a : List T) : ∀ (o a' : _) (o' : List (Int × Int)), clo a o = some (a', o') → o.length ≤ o'.length := by
  induction a with
  | nil => intro o a' o' h; cases h; exact Nat.le_refl _
  | cons x r ih =>
    intro o a' o' h
    rw [clo] at h
    split at h
    · split at h
      · cases h
      · have := ih _ _ _ h
        rw [List.length_append, List.length_singleton] at this
        omega
    · cases h; exact Nat.le_refl _
theorem clo_go (a : List T) : ∀ (o : List (Int × Int)) (f : Nat) (had : Bool), a.length ≤ 60 → o.length ≤ 2000 → 2002 ≤ f + o.length →
    (clo a o = none → go ps rows c last seen f had a o = (14, [], [])) ∧
    ∀ a' o', clo a o = some (a', o') → ∃ f', 2002 ≤ f' + o'.length ∧ o'.length ≤ 2000 ∧ a'.length ≤ a.length ∧ go ps rows c last seen f had a o = go ps rows c last seen f' had a' o' ∧ (∀ x r, a' = x :: r → x.1 = false) := by
  induction a with
  | nil =>
    intro o f had h1 h2 h3
    refine ⟨(fun h => by cases h), fun a' o' h => ?_⟩
    cases h
    exact ⟨f, h3, h2, Nat.le_refl _, rfl, (fun x r h => by cases h)⟩
  | cons x r ih =>
    intro o f had h1 h2 h3
    rw [List.length_cons] at h1
    cases hx : x.1
    · rw [clo, if_neg (by simp [hx])]
      refine ⟨(fun h => by cases h), fun a' o' h => ?_⟩
      cases h
      exact ⟨f, h3, h2, Nat.le_refl _, rfl, fun y q h => by cases h; exact hx⟩
    · obtain ⟨f, rfl⟩ : ∃ g, f = g + 1 := ⟨f - 1, by omega⟩
      have hgo : go ps rows c last seen (f + 1) had (x :: r) o = go ps rows c last seen f had r (o ++ [(3, x.2.1)]) := by
        rw [go, if_neg (by rw [List.length_cons]; omega)]
        simp only [hx, if_true]
      rw [clo, if_pos hx, hgo]
      by_cases h4 : 2000 ≤ o.length
      · rw [if_pos h4]
        exact ⟨fun _ => go_over (.inl (by rw [List.length_append, List.length_singleton]; omega)), fun a' o' h => by cases h⟩
      · rw [if_neg h4]
        obtain ⟨i1, i2⟩ := ih (o ++ [(3, x.2.1)]) f had (by omega) (by rw [List.length_append, List.length_singleton]; omega) (by rw [List.length_append, List.length_singleton]; omega)
        refine ⟨i1, fun a' o' h => ?_⟩
        obtain ⟨f', j1, j2, j3, j4, j5⟩ := i2 a' o' h
        exact ⟨f', j1, j2, by rw [List.length_cons]; omega, j4, j5⟩
/-- A step of the loop at something that is no end. -/
theorem go_kid {f : Nat} {x : T} {r : List T} {o : List (Int × Int)} (h1 : ¬ (2000 < o.length ∨ 60 < (x :: r).length)) (hx : x.1 = false) (hk : x.2.2.1 ≠ 1) :
    go ps rows c last seen (f + 1) false (x :: r) o = if (rows.getD x.2.2.2.toNat []).getD c 0 < 0 then (13, [], []) else go ps rows c last seen f false (put ps ((rows.getD x.2.2.2.toNat []).getD c 0).toNat r) (o ++ [(1, (rows.getD x.2.2.2.toNat []).getD c 0)]) := by
  rw [go, if_neg h1]
  simp only [hx, Bool.false_eq_true, if_false, hk]
theorem dn_go (fd : Nat) : ∀ (a : List T) (o : List (Int × Int)) (f : Nat), a.length ≤ 60 → o.length ≤ 2000 → 2002 ≤ f + o.length → 2001 ≤ fd + o.length →
    ((dn ps rows c fd a o).1 ≠ 0 → go ps rows c last seen f false a o = ((dn ps rows c fd a o).1, [], [])) ∧
    ((dn ps rows c fd a o).1 = 0 → ∃ f', 2002 ≤ f' + (dn ps rows c fd a o).2.2.length ∧ (dn ps rows c fd a o).2.2.length ≤ 2000 ∧ (dn ps rows c fd a o).2.1.length ≤ 60 ∧ go ps rows c last seen f false a o = go ps rows c last seen f' false (dn ps rows c fd a o).2.1 (dn ps rows c fd a o).2.2 ∧ (∀ x r, (dn ps rows c fd a o).2.1 = x :: r → x.1 = false ∧ x.2.2.1 = 1)) := by
  induction fd with
  | zero => intro a o f h1 h2 h3 h4; omega
  | succ fd ih =>
    intro a o f h1 h2 h3 h4
    obtain ⟨k1, k2⟩ := clo_go (ps := ps) (rows := rows) (c := c) (last := last) (seen := seen) a o f false h1 h2 h3
    rw [dn]
    cases hc : clo a o with
    | none => exact ⟨fun _ => k1 hc, fun h => by cases h⟩
    | some y =>
      obtain ⟨a', o'⟩ := y
      obtain ⟨f', j1, j2, j3, j4, j5⟩ := k2 a' o' hc
      have hlen := clo_len _ _ _ _ hc
      cases a' with
      | nil => exact ⟨fun h => absurd rfl h, fun _ => ⟨f', j1, j2, Nat.zero_le _, j4, (fun x r h => by cases h)⟩⟩
      | cons x r =>
        have hx := j5 x r rfl
        simp only []
        by_cases hk : x.2.2.1 = 1
        · rw [if_pos hk]
          exact ⟨fun h => absurd rfl h, fun _ => ⟨f', j1, j2, by simp only; omega, j4, (fun y q h => by cases h; exact ⟨hx, hk⟩)⟩⟩
        · rw [if_neg hk]
          obtain ⟨g, rfl⟩ : ∃ g, f' = g + 1 := ⟨f' - 1, by omega⟩
          have hs := go_kid (ps := ps) (rows := rows) (c := c) (last := last) (seen := seen) (f := g) (x := x) (r := r) (o := o') (by omega) hx hk
          by_cases hp : (rows.getD x.2.2.2.toNat []).getD c 0 < 0
          · rw [if_pos hp]
            rw [if_pos hp] at hs
            exact ⟨fun _ => by rw [j4, hs], fun h => by cases h⟩
          · rw [if_neg hp]
            rw [if_neg hp] at hs
            by_cases hd : 2000 ≤ o'.length ∨ 60 < (put ps ((rows.getD x.2.2.2.toNat []).getD c 0).toNat r).length
            · rw [if_pos hd]
              refine ⟨fun _ => ?_, fun h => by cases h⟩
              rw [j4, hs]
              exact go_over (by rw [List.length_append, List.length_singleton]; omega)
            · rw [if_neg hd, j4, hs]
              exact ih _ _ _ (by omega) (by rw [List.length_append, List.length_singleton]; omega) (by rw [List.length_append, List.length_singleton]; omega) (by rw [List.length_append, List.length_singleton]; omega)
theorem push_go (a : List T) (ha : a.length ≤ 60) : go ps rows c false seen 2002 false a [] = push ps rows c seen a := by
  obtain ⟨k1, k2⟩ := dn_go (ps := ps) (rows := rows) (c := c) (last := false) (seen := seen) 2001 a [] 2002 ha (by simp) (by simp) (by simp)
  rw [push]
  generalize dn ps rows c 2001 a [] = y at *
  by_cases h : y.1 = 0
  · rw [if_neg (by simp [h])]
    obtain ⟨f', j1, j2, j3, j4, j5⟩ := k2 h
    rw [j4]
    obtain ⟨g, rfl⟩ : ∃ g, f' = g + 1 := ⟨f' - 1, by omega⟩
    cases hy : y.2.1 with
    | nil => rw [go, if_neg (by rw [List.length_nil]; omega)]; rfl
    | cons x r =>
      obtain ⟨hx, hk⟩ := j5 x r hy
      rw [hy] at j3
      rw [go, if_neg (by omega), tok]
      simp only [hx, Bool.false_eq_true, if_false, hk, if_true]
      by_cases hc : x.2.2.2 ≠ c
      · rw [if_pos hc, if_pos hc]
      · rw [if_neg hc, if_neg hc]
        by_cases h4 : 2000 ≤ y.2.2.length
        · rw [if_pos h4]
          exact go_over (.inl (by rw [List.length_append, List.length_singleton]; omega))
        · rw [if_neg h4]
          rw [List.length_cons] at j3
          obtain ⟨i1, i2⟩ := clo_go (ps := ps) (rows := rows) (c := c) (last := false) (seen := seen) r (y.2.2 ++ [(2, seen)]) g true (by omega) (by rw [List.length_append, List.length_singleton]; omega) (by rw [List.length_append, List.length_singleton]; omega)
          cases hcl : clo r (y.2.2 ++ [(2, seen)]) with
          | none => exact i1 hcl
          | some z =>
            obtain ⟨a', o'⟩ := z
            obtain ⟨f2, l1, l2, l3, l4, l5⟩ := i2 a' o' hcl
            rw [l4]
            obtain ⟨g2, rfl⟩ : ∃ g, f2 = g + 1 := ⟨f2 - 1, by omega⟩
            cases a' with
            | nil => rw [go, if_neg (by rw [List.length_nil]; omega)]; rfl
            | cons z q =>
              rw [go, if_neg (by omega)]
              simp only [l5 z q rfl, Bool.false_eq_true, if_false, if_true]
  · rw [if_pos h]
    exact k1 h
theorem ending_go (a : List T) (ha : a.length ≤ 60) (hT : ∀ x r, (dn ps rows c 2001 a []).2.1 = x :: r → x.2.2.2 ≠ c) : go ps rows c true seen 2002 false a [] = ending ps rows c a := by
  obtain ⟨k1, k2⟩ := dn_go (ps := ps) (rows := rows) (c := c) (last := true) (seen := seen) 2001 a [] 2002 ha (by simp) (by simp) (by simp)
  rw [ending]
  generalize dn ps rows c 2001 a [] = y at *
  by_cases h : y.1 = 0
  · rw [if_neg (by simp [h])]
    obtain ⟨f', j1, j2, j3, j4, j5⟩ := k2 h
    rw [j4]
    obtain ⟨g, rfl⟩ : ∃ g, f' = g + 1 := ⟨f' - 1, by omega⟩
    cases hy : y.2.1 with
    | nil => rw [go, if_neg (by rw [List.length_nil]; omega), if_neg (by simp)]; rfl
    | cons x r =>
      obtain ⟨hx, hk⟩ := j5 x r hy
      rw [hy] at j3
      have hcons : x :: r ≠ [] := by simp
      rw [if_pos hcons, go, if_neg (by omega)]
      simp only [hx, Bool.false_eq_true, if_false, hk, if_true]
      rw [if_pos (hT x r hy)]
  · rw [if_pos h]
    exact k1 h
end
end Cl
attribute [irreducible] Cl.good
end Go.Proofs.Ytldapomcjfkeeaa
