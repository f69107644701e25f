/-
  Many assertions as one; a result whose parts lie in several blocks, all made by the call. (A helper text; it claims nothing of the program.)
-/
import Derived.Test.YtlgabpcddldelaaDoorSepAt
import Derived.Test.YtlgabpcddldelaaDoorSliced
namespace Go.Proofs.YtlgabpcddldelaaDoor
set_option linter.unusedVariables false
open Go.ChangeShapes Go.WideShapes Go.ChangeAt Go.RowKit

/-- All of them. -/
def aAll (As : List Asrt) : Asrt where
  fp := As.flatMap (·.fp)
  ok := fun w => ∀ A ∈ As, A.ok w
  loc := fun w w' h hw A hA => A.loc w w' (fun b hb => h b (List.mem_flatMap.2 ⟨A, hA, hb⟩)) (hw A hA)
/-- The values vs read as l, all of it in the blocks fp. -/
def aEnc {α : Type} (E : Enc α) (fp : List Nat) (vs : List Value) (l : α) : Asrt where
  fp := fp
  ok := fun w => E.R (fun b => b ∈ fp) w vs l
  loc := fun w w' h hw => E.mono hw (fun _ h => h) h

section
variable {w0 w w' : World} {μ : List Asrt} {A : Asrt} {As : List Asrt}
theorem St.nilAll (h : St w0 w μ) : St w0 w (aAll [] :: μ) := h.push (Below.refl _ _) (fun _ h => by cases h) (fun b hb => by simp [aAll] at hb) (by simp [aAll])
theorem St.snoc (h : St w0 w (A :: aAll As :: μ)) : St w0 w (aAll (As ++ [A]) :: μ) := by
  refine ⟨h.bel, fun B hB => ?_, fun B hB b hb => ?_, ?_⟩
  · rcases List.mem_cons.1 hB with rfl | hB
    · intro C hC
      rcases List.mem_append.1 hC with h1 | h1
      · exact h.ok _ (.tail _ (.head _)) C h1
      · rw [List.mem_singleton.1 h1]; exact h.ok _ (.head _)
    · exact h.ok B (.tail _ (.tail _ hB))
  · rcases List.mem_cons.1 hB with rfl | hB
    · simp only [aAll, List.flatMap_append, List.mem_append, List.flatMap_cons, List.flatMap_nil, List.append_nil] at hb
      rcases hb with h1 | h1
      · exact h.lo _ (.tail _ (.head _)) b h1
      · exact h.lo _ (.head _) b h1
    · exact h.lo B (.tail _ (.tail _ hB)) b hb
  · have := h.sep
    simp only [aAll, List.flatMap_cons, List.flatMap_append, List.flatMap_nil, List.append_nil] at this ⊢
    refine (List.Perm.nodup_iff ?_).1 this
    rw [← List.append_assoc]
    exact (List.perm_append_comm).append_right _
theorem St.allAt (h : St w0 w (aAll As :: μ)) (B : Asrt) (hB : B ∈ As) : B.ok w := h.ok _ (.head _) B hB
/-- Two assertions as one. -/
theorem St.merge {B C : Asrt} (h : St w0 w (A :: B :: μ)) (hfp : C.fp = A.fp ++ B.fp) (hok : A.ok w → B.ok w → C.ok w) : St w0 w (C :: μ) := by
  refine ⟨h.bel, fun D hD => ?_, fun D hD b hb => ?_, ?_⟩
  · rcases List.mem_cons.1 hD with rfl | hD
    · exact hok (h.ok _ (.head _)) (h.ok _ (.tail _ (.head _)))
    · exact h.ok D (.tail _ (.tail _ hD))
  · rcases List.mem_cons.1 hD with rfl | hD
    · rw [hfp] at hb
      rcases List.mem_append.1 hb with h1 | h1
      · exact h.lo _ (.head _) b h1
      · exact h.lo _ (.tail _ (.head _)) b h1
    · exact h.lo D (.tail _ (.tail _ hD)) b hb
  · have := h.sep
    simp only [List.flatMap_cons] at this ⊢
    rw [hfp, List.append_assoc]
    exact this
theorem St.encR {α : Type} {E : Enc α} {fp : List Nat} {vs : List Value} {l : α} (h : St w0 w (aEnc E fp vs l :: μ)) : E.R (fun b => b < w.heap.size) w vs l :=
  E.mono (h.ok _ (.head _)) (fun b hb => (h.lo _ (.head _) b hb).2) (fun _ _ => rfl)
theorem St.encAt {α : Type} {E : Enc α} {fp : List Nat} {vs : List Value} {l : α} (h : St w0 w μ) (i : Nat) (hA : μ[i]? = some (aEnc E fp vs l)) : E.R (fun b => b < w.heap.size) w vs l := (h.nth i hA).encR
end

/-- Seen through g. -/
def Enc.via {α β : Type} (En : Enc α) (g : β → α) : Enc β where
  size := En.size
  R := fun F w cs q => En.R F w cs (g q)
  len := fun h => En.len h
  mono := fun h => En.mono h
theorem Enc.viaSl {α β : Type} {En : Enc α} {g : β → α} {bytes : Nat} {F : Nat → Prop} {w : World} {vs : List Value} {L : List β} (h : ((En.via g).sl bytes).R F w vs L) : (En.sl bytes).R F w vs (L.map g) := by
  obtain ⟨ao, b, off, cap, h0, h1, h2, h3, h4, h5, h6⟩ := h
  refine ⟨ao, b, off, cap, by rw [List.length_map]; exact h0, by rw [List.length_map]; exact h1, h2, by rw [List.length_map]; exact h3, h4, by rw [List.length_map]; exact h5, fun i hi => ?_⟩
  rw [List.length_map] at hi
  obtain ⟨cs, g1, g2, g3⟩ := h6 i hi
  exact ⟨cs, g1, g2, by rw [List.getElem_map]; exact g3⟩
theorem Own.encVia {α β : Type} {En : Enc α} {w : World} {B : Nat} {e : TypeId} {size bytes : Nat} {v : Value} {L : List β} {f : β → Value} {g : β → α} {F : Nat → Prop} (h : Own w B e size v (L.map f)) (hes : En.size = size) (hR : ∀ q ∈ L, En.R F w (f q).cells.toList (g q)) (hF : ∀ b ∈ v.ownBlock.toList, F b)
    (hb : (L.length : Int) * bytes ≤ 140737488355328) : (En.sl bytes).R F w [v] (L.map g) :=
  Enc.viaSl (Own.enc (En := En.via g) (f := f) h hes hR hF hb)

/-- A slice of things that have parts of their own: as one. -/
theorem St.sealed {α β : Type} {En : Enc α} {w0 w : World} {μ : List Asrt} {e : TypeId} {size bytes : Nat} {v : Value} {L : List β} {f : β → Value} {g : β → α} {A : β → Asrt} (h : St w0 w (aOwn e size v (L.map f) :: aAll (L.map A) :: μ)) (hes : En.size = size)
    (hR : ∀ q ∈ L, (A q).ok w → En.R (fun b => b ∈ (A q).fp) w (f q).cells.toList (g q)) (hb : (L.length : Int) * bytes ≤ 140737488355328) :
    ∃ fp, St w0 w (aEnc (En.sl bytes) fp [v] (L.map g) :: μ) := by
  refine ⟨v.ownBlock.toList ++ (aAll (L.map A)).fp, h.merge rfl (fun h1 h2 => ?_)⟩
  refine Own.encVia (f := f) h1 hes (fun q hq => ?_) (fun b hb => List.mem_append.2 (.inl hb)) hb
  exact En.mono (hR q hq (h2 _ (List.mem_map.2 ⟨q, hq, rfl⟩))) (fun b hb => List.mem_append.2 (.inr (List.mem_flatMap.2 ⟨_, List.mem_map.2 ⟨q, hq, rfl⟩, hb⟩))) (fun _ _ => rfl)
theorem St.ownEnc {α : Type} {En : Enc α} {w0 w : World} {μ : List Asrt} {e : TypeId} {size bytes : Nat} {v : Value} {l : List α} {f : α → Value} (h : St w0 w (aOwn e size v (l.map f) :: μ)) (hes : En.size = size) (hR : ∀ F W, ∀ a ∈ l, En.R F W (f a).cells.toList a) (hb : (l.length : Int) * bytes ≤ 140737488355328) :
    St w0 w (aEnc (En.sl bytes) v.ownBlock.toList [v] l :: μ) :=
  h.turn rfl (Own.enc (f := f) (h.ok _ (.head _)) hes (fun a ha => hR _ _ a ha) (fun b hb => hb) hb)
/-- A callee's results. -/
theorem St.joined {w0 w w' : World} {μ ν : List Asrt} (h : St w0 w μ) (h2 : St w w' ν) : St w0 w' (ν ++ μ) := h.join h2
end Go.Proofs.YtlgabpcddldelaaDoor
