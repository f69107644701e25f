/-
  Is a tree one of a grammar? (Plain functions; nothing of the program is claimed.)
-/
import Derived.Test.YtldapomcjfkeeaaTrOpen
import Derived.Test.YtldapomcjfkeeaaGramChk
namespace Go.Proofs.Ytldapomcjfkeeaa
set_option linter.unusedVariables false

namespace Tr
abbrev S2 := Int × Int
/-- The kids one behind the other, until one is wrong. -/
def lookK (f : Tr → (Int × Int) → S2 → Int × S2) : List Tr → List (Int × Int) → S2 → Int × S2
  | [], _, s => (0, s)
  | k :: ks, b, s => if (f k (b.headD (0, 0)) s).1 = 0 then lookK f ks b.tail (f k (b.headD (0, 0)) s).2 else f k (b.headD (0, 0)) s
/-- Is it wrong as a node of production p at a symbol? -/
def badN (l : List (Int × List (Int × Int))) (t : Tr) (x : Int × Int) : Prop := t.prod < 0 ∨ (l.length : Int) ≤ t.prod ∨ (l.getD t.prod.toNat (0, [])).1 ≠ x.2 ∨ t.tok ≠ 0 ∨ t.kids.length ≠ (l.getD t.prod.toNat (0, [])).2.length
instance {l t x} : Decidable (badN l t x) := by unfold badN; exact inferInstance
/-- Is it wrong as a leaf? -/
def badT (t : Tr) (leaves : Int) : Prop := t.prod ≠ -1 ∨ t.tok ≠ leaves ∨ t.kids.length ≠ 0
instance {t leaves} : Decidable (badT t leaves) := by unfold badT; exact inferInstance
def look (l : List (Int × List (Int × Int))) : Nat → Tr → (Int × Int) → Int → S2 → Int × S2
  | 0, _, _, _, s => (4, s)
  | n + 1, t, x, deep, s =>
    if 1000 < s.1 + 1 then (2, (s.1 + 1, s.2))
    else if 100 < deep then (7, (s.1 + 1, s.2))
    else if x.1 = 1 then (if badT t s.2 then (4, (s.1 + 1, s.2)) else (0, (s.1 + 1, s.2 + 1)))
    else if badN l t x then (4, (s.1 + 1, s.2))
    else lookK (fun k y s => look l n k y (deep + 1) s) t.kids (l.getD t.prod.toNat (0, [])).2 (s.1 + 1, s.2)
/-- The counters stay small. -/
def In (s : S2) : Prop := 0 ≤ s.1 ∧ s.1 ≤ 1000 ∧ 0 ≤ s.2 ∧ s.2 ≤ s.1
def Out (r : Int × S2) : Prop := 0 ≤ r.2.1 ∧ r.2.1 ≤ 1001 ∧ 0 ≤ r.2.2 ∧ r.2.2 ≤ r.2.1 ∧ (r.1 = 0 → r.2.1 ≤ 1000) ∧ (r.1 = 0 ∨ r.1 = 2 ∨ r.1 = 4 ∨ r.1 = 7)
theorem lookK_out {f : Tr → (Int × Int) → S2 → Int × S2} (hf : ∀ k y s, In s → Out (f k y s)) : ∀ {ks : List Tr} {b : List (Int × Int)} {s : S2}, In s → Out (lookK f ks b s) := by
  intro ks
  induction ks with
  | nil => intro b s h; exact ⟨h.1, by have := h.2.1; show s.1 ≤ 1001; omega, h.2.2.1, h.2.2.2, fun _ => h.2.1, .inl rfl⟩
  | cons k ks ih =>
    intro b s h
    have h1 := hf k (b.headD (0, 0)) s h
    rw [lookK]
    split
    · rename_i h0
      exact ih ⟨h1.1, h1.2.2.2.2.1 h0, h1.2.2.1, h1.2.2.2.1⟩
    · exact h1
theorem look_out {l : List (Int × List (Int × Int))} : ∀ {n : Nat} {t : Tr} {x : Int × Int} {deep : Int} {s : S2}, In s → Out (look l n t x deep s) := by
  intro n
  induction n with
  | zero => intro t x deep s h; exact ⟨h.1, by have := h.2.1; show s.1 ≤ 1001; omega, h.2.2.1, h.2.2.2, (fun h => by cases h), .inr (.inr (.inl rfl))⟩
  | succ n ih =>
    intro t x deep s h
    obtain ⟨h1, h2, h3, h4⟩ := h
    rw [look]
    split
    · exact ⟨by show 0 ≤ s.1 + 1; omega, by show s.1 + 1 ≤ 1001; omega, h3, by show s.2 ≤ s.1 + 1; omega, (fun h => by cases h), .inr (.inl rfl)⟩
    · split
      · exact ⟨by show 0 ≤ s.1 + 1; omega, by show s.1 + 1 ≤ 1001; omega, h3, by show s.2 ≤ s.1 + 1; omega, (fun h => by cases h), .inr (.inr (.inr rfl))⟩
      · split
        · split
          · exact ⟨by show 0 ≤ s.1 + 1; omega, by show s.1 + 1 ≤ 1001; omega, h3, by show s.2 ≤ s.1 + 1; omega, (fun h => by cases h), .inr (.inr (.inl rfl))⟩
          · exact ⟨by show 0 ≤ s.1 + 1; omega, by show s.1 + 1 ≤ 1001; omega, by show 0 ≤ s.2 + 1; omega, by show s.2 + 1 ≤ s.1 + 1; omega, (fun _ => by show s.1 + 1 ≤ 1000; omega), .inl rfl⟩
        · split
          · exact ⟨by show 0 ≤ s.1 + 1; omega, by show s.1 + 1 ≤ 1001; omega, h3, by show s.2 ≤ s.1 + 1; omega, (fun h => by cases h), .inr (.inr (.inl rfl))⟩
          · exact lookK_out (fun k y s hs => ih hs) ⟨by show 0 ≤ s.1 + 1; omega, by show s.1 + 1 ≤ 1000; omega, h3, by show s.2 ≤ s.1 + 1; omega⟩
/-- A right node, no taller than n. -/
def Ok (l : List (Int × List (Int × Int))) : Nat → Tr → Prop
  | 0, _ => False
  | n + 1, t => 0 ≤ t.prod ∧ t.prod < l.length ∧ t.kids.length = (l.getD t.prod.toNat (0, [])).2.length ∧ ∀ k ∈ t.kids, k.prod < 0 ∨ Ok l n k
/-- The number of nodes. -/
def size : Nat → Tr → Nat
  | 0, _ => 1
  | n + 1, t => 1 + (t.kids.map (size n)).sum
theorem lookK_zero {f : Tr → (Int × Int) → S2 → Int × S2} {sz : Tr → Nat} {Q : Tr → Prop} (hf : ∀ k y s, (f k y s).1 = 0 → (f k y s).2.1 = s.1 + sz k ∧ Q k) : ∀ {ks : List Tr} {b : List (Int × Int)} {s : S2}, (lookK f ks b s).1 = 0 → (lookK f ks b s).2.1 = s.1 + (ks.map sz).sum ∧ ∀ k ∈ ks, Q k := by
  intro ks
  induction ks with
  | nil => intro b s _; exact ⟨by simp [lookK], fun k h => by cases h⟩
  | cons k ks ih =>
    intro b s h
    rw [lookK] at h ⊢
    split at h
    · rename_i h0
      rw [if_pos h0]
      obtain ⟨i1, i2⟩ := ih h
      obtain ⟨j1, j2⟩ := hf k (b.headD (0, 0)) s h0
      refine ⟨by rw [i1, j1, List.map_cons, List.sum_cons]; push_cast; omega, fun q hq => ?_⟩
      rcases List.mem_cons.1 hq with rfl | hq
      · exact j2
      · exact i2 q hq
    · rename_i h0; exact absurd h h0
theorem look_zero {l : List (Int × List (Int × Int))} : ∀ {n : Nat} {t : Tr} {x : Int × Int} {deep : Int} {s : S2}, (look l n t x deep s).1 = 0 → (look l n t x deep s).2.1 = s.1 + size n t ∧ ((x.1 = 1 ∧ t.prod < 0) ∨ (x.1 ≠ 1 ∧ Ok l n t)) := by
  intro n
  induction n with
  | zero => intro t x deep s h; cases h
  | succ n ih =>
    intro t x deep s h
    rw [look] at h ⊢
    split at h
    · cases h
    rename_i c1
    rw [if_neg c1]
    split at h
    · cases h
    rename_i c2
    rw [if_neg c2]
    split at h
    · rename_i c3
      rw [if_pos c3]
      split at h
      · cases h
      · rename_i c4
        rw [if_neg c4]
        unfold badT at c4
        have h1 : t.prod = -1 := by omega
        have h2 : t.kids = [] := by apply List.eq_nil_of_length_eq_zero; omega
        refine ⟨by simp [size, h2], .inl ⟨c3, by omega⟩⟩
    · rename_i c3
      rw [if_neg c3]
      split at h
      · cases h
      · rename_i c4
        rw [if_neg c4]
        unfold badN at c4
        have h1 : (lookK (fun k y s => look l n k y (deep + 1) s) t.kids (l.getD t.prod.toNat (0, [])).2 (s.1 + 1, s.2)).2.1 = s.1 + 1 + (t.kids.map (size n)).sum ∧ ∀ k ∈ t.kids, k.prod < 0 ∨ Ok l n k :=
          lookK_zero (sz := size n) (Q := fun k => k.prod < 0 ∨ Ok l n k) (fun k y s hs => ⟨(ih hs).1, (ih hs).2.elim (fun h => .inl h.2) (fun h => .inr h.2)⟩) h
        refine ⟨by rw [h1.1, size]; push_cast; omega, .inr ⟨c3, by omega, by omega, by omega, h1.2⟩⟩
section
variable {β : Type}
/-- What comes of a right node: ahead of its kids, of them, behind them. -/
def eachL (fA fB : Int → List β) (fL : Int → Int → List β) (l : List (Int × List (Int × Int))) : Nat → Tr → List β
  | 0, _ => []
  | n + 1, t => fA t.prod ++ ((t.kids.zip (l.getD t.prod.toNat (0, [])).2).flatMap (fun q => if q.1.prod < 0 then fL q.2.2 q.1.tok else eachL fA fB fL l n q.1)) ++ fB t.prod
theorem zip_take {α γ : Type} {ks : List α} {bs : List γ} {i : Nat} (h1 : i < ks.length) (h2 : i < bs.length) (d : α) (e : γ) (f : α × γ → List β) : ((ks.zip bs).take (i + 1)).flatMap f = ((ks.zip bs).take i).flatMap f ++ f (ks.getD i d, bs.getD i e) := by
  rw [List.take_succ_eq_append_getElem (by rw [List.length_zip]; omega), List.flatMap_append, List.flatMap_singleton, List.getElem_zip]
  simp [List.getD, List.getElem?_eq_getElem h1, List.getElem?_eq_getElem h2]
theorem zip_all {α γ : Type} {ks : List α} {bs : List γ} (h : ks.length = bs.length) (f : α × γ → List β) : ((ks.zip bs).take ks.length).flatMap f = (ks.zip bs).flatMap f := by
  rw [List.take_of_length_le (by rw [List.length_zip]; omega)]
theorem flat_len {α γ : Type} {f : α × γ → List β} {sz : α → Nat} : ∀ (ks : List α) (bs : List γ), (∀ k ∈ ks, ∀ b, (f (k, b)).length ≤ 2 * sz k) → ∀ i, (((ks.zip bs).take i).flatMap f).length ≤ 2 * (ks.map sz).sum := by
  intro ks
  induction ks with
  | nil => intro bs _ i; simp
  | cons k ks ih =>
    intro bs h i
    cases bs with
    | nil => simp
    | cons b bs =>
      cases i with
      | zero => simp
      | succ i =>
        have h1 := ih bs (fun k hk b => h k (.tail _ hk) b) i
        have h2 := h k (.head _) b
        simp only [List.zip_cons_cons, List.take_succ_cons, List.flatMap_cons, List.length_append, List.map_cons, List.sum_cons]
        omega
end
/-- The events of a tree (or of a leaf). -/
def evs (d : Bool) : Nat → Tr → List (Int × Int)
  | 0, _ => []
  | n + 1, t => if t.prod < 0 then [(2, t.tok)] else (if d then [(1, t.prod)] else []) ++ t.kids.flatMap (evs d n) ++ [(if d then (3, t.prod) else (4, t.prod))]
end Tr
end Go.Proofs.Ytldapomcjfkeeaa
