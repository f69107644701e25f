/-
  Right trees: how much comes of them; their events. (Plain functions; nothing of the program is claimed.)
-/
import Derived.Test.YtldapomcjfkeeaaTrN
namespace Go.Proofs.Ytldapomcjfkeeaa
set_option linter.unusedVariables false

namespace Tr
theorem size_pos (n : Nat) (t : Tr) : 1 ≤ size n t := by cases n <;> simp [size]
section
variable {β : Type} {fA fB : Int → List β} {fL : Int → Int → List β} {l : List (Int × List (Int × Int))}
theorem eachL_len (hA : ∀ p, (fA p).length ≤ 1) (hB : ∀ p, (fB p).length ≤ 1) (hL : ∀ p q, (fL p q).length ≤ 1) : ∀ {n : Nat} {t : Tr}, Ok l n t → (eachL fA fB fL l n t).length ≤ 2 * size n t := by
  intro n
  induction n with
  | zero => intro t h; exact h.elim
  | succ n ih =>
    intro t h
    obtain ⟨_, _, _, hk⟩ := h
    have h1 := flat_len (f := fun q : Tr × (Int × Int) => if q.1.prod < 0 then fL q.2.2 q.1.tok else eachL fA fB fL l n q.1) (sz := size n) t.kids (l.getD t.prod.toNat (0, [])).2 (fun k hkm b => by
      simp only
      split
      · have := hL b.2 k.tok; have := size_pos n k; omega
      · rename_i h0
        exact ih ((hk k hkm).resolve_left h0)) (t.kids.zip (l.getD t.prod.toNat (0, [])).2).length
    rw [List.take_length] at h1
    have h2 := hA t.prod
    have h3 := hB t.prod
    rw [eachL, size, List.length_append, List.length_append]
    omega
end
/-- The events of a tree (or of a leaf). -/
def ev (d : Bool) : Nat → Tr → List (Int × Int)
  | 0, t => if t.prod < 0 then [(2, t.tok)] else []
  | n + 1, t => if t.prod < 0 then [(2, t.tok)] else (if d then [(1, t.prod)] else []) ++ t.kids.flatMap (ev d n) ++ [if d then (3, t.prod) else (4, t.prod)]
theorem ev_leaf {d : Bool} {n : Nat} {t : Tr} (h : t.prod < 0) : ev d n t = [(2, t.tok)] := by cases n <;> simp [ev, h]
theorem zip_flat {α γ β : Type} {f : α × γ → List β} {g : α → List β} : ∀ {ks : List α} {bs : List γ}, ks.length = bs.length → (∀ k ∈ ks, ∀ b, f (k, b) = g k) → (ks.zip bs).flatMap f = ks.flatMap g := by
  intro ks
  induction ks with
  | nil => intro bs _ _; simp
  | cons k ks ih =>
    intro bs h hf
    cases bs with
    | nil => simp at h
    | cons b bs =>
      rw [List.zip_cons_cons, List.flatMap_cons, List.flatMap_cons, hf k (.head _) b, ih (by simpa using h) (fun k hk b => hf k (.tail _ hk) b)]
theorem ev_each {l : List (Int × List (Int × Int))} (d : Bool) : ∀ {n : Nat} {t : Tr}, Ok l n t → eachL (fun p => if d then [(1, p)] else []) (fun p => [if d then (3, p) else (4, p)]) (fun _ n => [(2, n)]) l n t = ev d n t := by
  intro n
  induction n with
  | zero => intro t h; exact h.elim
  | succ n ih =>
    intro t h
    obtain ⟨h0, _, hl, hk⟩ := h
    have hn : ¬ t.prod < 0 := by omega
    rw [eachL, ev, if_neg hn, zip_flat (g := ev d n) hl]
    intro k hkm b
    simp only
    split
    · rename_i h1; exact (ev_leaf h1).symm
    · rename_i h1; exact ih ((hk k hkm).resolve_left h1)
theorem ok_look {l : List (Int × List (Int × Int))} {n : Nat} {t : Tr} (h : (look l n t (2, 0) 1 (0, 0)).1 = 0) : Ok l n t ∧ size n t ≤ 1000 := by
  obtain ⟨h1, h2⟩ := look_zero h
  have h3 := (look_out (l := l) (n := n) (t := t) (x := (2, 0)) (deep := 1) (s := (0, 0)) ⟨by decide, by decide, by decide, by decide⟩).2.2.2.2.1 h
  refine ⟨?_, by rw [h1] at h3; simp only at h3; omega⟩
  rcases h2 with ⟨h4, _⟩ | ⟨_, h4⟩
  · exact absurd h4 (by decide)
  · exact h4
end Tr
end Go.Proofs.Ytldapomcjfkeeaa
