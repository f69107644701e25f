/-
  One of many assertions taken out, and laid back. (A helper text; it claims nothing of the program.)
-/
import Derived.Test.YtbpjmdemmmdnbaaSepPick
namespace Go.Proofs.Ytbpjmdemmmdnbaa
set_option linter.unusedVariables false
open Go.ChangeShapes Go.WideShapes Go.ChangeAt Go.RowKit

theorem St.re {w0 w : World} {μ ν : List Asrt} (h : St w0 w μ) (hok : ∀ A ∈ ν, A.ok w) (hp : (μ.flatMap (·.fp)).Perm (ν.flatMap (·.fp))) : St w0 w ν := by
  refine ⟨h.bel, hok, fun A hA b hb => ?_, (hp.nodup_iff).1 h.sep⟩
  have h1 : b ∈ μ.flatMap (·.fp) := hp.mem_iff.2 (List.mem_flatMap.2 ⟨A, hA, hb⟩)
  obtain ⟨B, hB, hb2⟩ := List.mem_flatMap.1 h1
  exact h.lo B hB b hb2
section
variable {w0 w : World} {μ : List Asrt} {A : Asrt} {l1 l2 : List Asrt}
theorem St.allTake (h : St w0 w (aAll (l1 ++ A :: l2) :: μ)) : St w0 w (A :: aAll (l1 ++ l2) :: μ) := by
  refine h.re (fun B hB => ?_) ?_
  · rcases List.mem_cons.1 hB with rfl | hB
    · exact h.allAt B (by simp)
    · rcases List.mem_cons.1 hB with rfl | hB
      · intro C hC
        exact h.allAt C (by simp only [List.mem_append, List.mem_cons] at hC ⊢; rcases hC with h | h <;> simp [h])
      · exact h.ok B (.tail _ hB)
  · simp only [List.flatMap_cons, aAll, List.flatMap_append, ← List.append_assoc]
    exact ((List.perm_append_comm).append_right _).append_right _
theorem St.allPut (h : St w0 w (A :: aAll (l1 ++ l2) :: μ)) : St w0 w (aAll (l1 ++ A :: l2) :: μ) := by
  refine h.re (fun B hB => ?_) ?_
  · rcases List.mem_cons.1 hB with rfl | hB
    · intro C hC
      have h2 : ∀ D ∈ l1 ++ l2, D.ok w := h.ok _ (.tail _ (.head _))
      simp only [List.mem_append, List.mem_cons] at hC
      rcases hC with h1 | rfl | h1
      · exact h2 C (by simp [h1])
      · exact h.ok _ (.head _)
      · exact h2 C (by simp [h1])
    · exact h.ok B (.tail _ (.tail _ hB))
  · simp only [List.flatMap_cons, aAll, List.flatMap_append, ← List.append_assoc]
    exact ((List.perm_append_comm).append_right _).append_right _
theorem St.allTakeAt {β : Type} {f : β → Asrt} {q : List β} (h : St w0 w (aAll (q.map f) :: μ)) (k : Nat) (hk : k < q.length) (d : β) : St w0 w (f (q.getD k d) :: aAll ((q.eraseIdx k).map f) :: μ) := by
  have e : q.map f = (q.take k).map f ++ f (q.getD k d) :: (q.drop (k + 1)).map f := by
    have e2 : q = q.take k ++ q.getD k d :: q.drop (k + 1) := by
      rw [show q.getD k d = q[k] by simp [List.getD, List.getElem?_eq_getElem hk], ← List.drop_eq_getElem_cons hk, List.take_append_drop]
    have e3 := congrArg (List.map f) e2
    rw [List.map_append, List.map_cons] at e3
    exact e3
  rw [e] at h
  have h2 := h.allTake
  rw [← List.map_append, ← List.eraseIdx_eq_take_drop_succ] at h2
  exact h2
theorem St.allPutAt {β : Type} {f : β → Asrt} {q : List β} {x : β} {k : Nat} (h : St w0 w (f x :: aAll ((q.eraseIdx k).map f) :: μ)) (hk : k < q.length) : St w0 w (aAll ((q.set k x).map f) :: μ) := by
  rw [List.eraseIdx_eq_take_drop_succ, List.map_append] at h
  have h2 := h.allPut
  rw [← List.map_cons, ← List.map_append] at h2
  rw [List.set_eq_take_append_cons_drop, if_pos hk]
  exact h2
end
end Go.Proofs.Ytbpjmdemmmdnbaa
