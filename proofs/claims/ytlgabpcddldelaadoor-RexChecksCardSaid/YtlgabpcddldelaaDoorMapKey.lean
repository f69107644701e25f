/-
  Arrays of numbers as keys of a map. (A helper text; it claims nothing of the program.)
-/
import Derived.Test.YtlgabpcddldelaaDoorSepMap
import Derived.WideKeyArr
namespace Go.Proofs.YtlgabpcddldelaaDoor
set_option linter.unusedVariables false
open Go.ChangeShapes Go.WideShapes Go.ChangeAt Go.RowKit

theorem mapM_some {α β : Type} {f : α → Option β} : ∀ (l : List α), (∀ a ∈ l, ∃ b, f a = some b) → ∃ bs, l.mapM f = some bs := by
  intro l
  induction l with
  | nil => intro _; exact ⟨[], rfl⟩
  | cons a l ih =>
    intro h
    obtain ⟨b, hb⟩ := h a (.head _)
    obtain ⟨bs, hbs⟩ := ih (fun x hx => h x (.tail _ hx))
    exact ⟨b :: bs, by rw [List.mapM_cons, hb, hbs]; rfl⟩
/-- An array of numbers reads as a key. -/
theorem arr_key {P : Program} {k e : TypeId} {n : Nat} {q : IntKind} (A : WideMaps.ArrKey P k e n) (he : P.underlying e = some (.int q)) (hsz : ∃ m, P.types.size = m + 1) (xs : List Int) (hn : xs.length = n) (hw : ∀ x ∈ xs, (Lit.int q x).wf = true) :
    ∃ kl, keyOf P k (.agg (xs.map (Value.int q)).toArray) = some kl := by
  have hkt := A.keyType hsz
  obtain ⟨m, hm⟩ := hsz
  unfold keyOf
  simp only [A.hu]
  rw [if_pos (by simp [hkt, Value.formed, A.hu, A.size, hn]), hm]
  unfold Program.keyLits
  simp only [A.hu, Value.cells]
  rw [if_pos (by rw [A.size]; simp [hn])]
  obtain ⟨bs, hbs⟩ := mapM_some (f := fun i => P.keyLits (m + 1) e (((xs.map (Value.int q)).toArray.toList.drop (i * P.cellsOf e)).take (P.cellsOf e))) (List.range n) (fun i hi => by
    have hi2 : i < xs.length := by rw [hn]; exact List.mem_range.1 hi
    refine ⟨[.int q xs[i]], ?_⟩
    rw [A.one, Nat.mul_one, List.drop_eq_getElem_cons (by simpa using hi2)]
    simp only [List.take_succ_cons, List.take_zero]
    unfold Program.keyLits
    simp [he, hw xs[i] (List.getElem_mem hi2)])
  rw [hbs]
  exact ⟨_, rfl⟩
end Go.Proofs.YtlgabpcddldelaaDoor
