/-
  What reads as plain data, in memory that the call made (the blocks fp) or that was there before it (world w0). (A helper text; it claims nothing of the program.)
-/
import Derived.Test.YtlgabpcddldelaaDoorEncOps
import Derived.Deep.DeepCutAuto
namespace Go.Proofs.YtlgabpcddldelaaDoor
set_option linter.unusedVariables false
open Go.ChangeShapes Go.WideShapes Go.ChangeAt Go.RowKit

/-- The values vs read as l, looking into blocks of fp and into what was there in w0. -/
def aRd {α : Type} (E : Enc α) (w0 : World) (fp : List Nat) (vs : List Value) (l : α) : Asrt where
  fp := fp
  ok := fun w => ∀ w', (∀ b, b < w0.heap.size → w'.heap[b]? = w0.heap[b]?) → (∀ b ∈ fp, w'.heap[b]? = w.heap[b]?) → E.R (fun b => b < w0.heap.size ∨ b ∈ fp) w' vs l
  loc := fun w w' h hw w2 h0 h1 => hw w2 h0 fun b hb => (h1 b hb).trans (h b hb)

section
variable {α : Type} {E : Enc α} {w0 w w' : World} {μ : List Asrt} {fp : List Nat} {vs : List Value} {l : α}
theorem St.rd (h : St w0 w (aRd E w0 fp vs l :: μ)) : E.R (fun b => b < w0.heap.size ∨ b ∈ fp) w vs l := h.ok _ (.head _) w (fun b hb => h.bel.block b hb) (fun _ _ => rfl)
theorem St.rdLt (h : St w0 w (aRd E w0 fp vs l :: μ)) : E.R (fun b => b < w.heap.size) w vs l :=
  E.mono h.rd (fun b hb => hb.elim (fun h1 => Nat.lt_of_lt_of_le h1 h.bel.size) (fun h1 => (h.lo _ (.head _) b h1).2)) (fun _ _ => rfl)
/-- What was there before. -/
theorem St.pushOld {F : Nat → Prop} (h : St w0 w μ) (hr : E.R F w0 vs l) (hF : ∀ b, F b → b < w0.heap.size) : St w0 w (aRd E w0 [] vs l :: μ) :=
  h.push (Below.refl _ _) (fun w' h0 _ => E.mono hr (fun b hb => .inl (hF b hb)) (fun b hb => h0 b (hF b hb))) (fun b hb => by cases hb) (by simp [aRd])
end

/-- One assertion for another one with the same or fewer blocks. -/
theorem St.turn {w0 w : World} {A A' : Asrt} {μ : List Asrt} (h : St w0 w (A :: μ)) (hfp : A'.fp = A.fp) (hok : A'.ok w) : St w0 w (A' :: μ) := by
  refine h.upd rfl rfl rfl (Nat.le_refl _) (fun _ _ _ => rfl) hok (fun b hb => .inl (by rw [← hfp]; exact hb)) ?_
  rw [hfp]
  have := h.sep
  simp only [List.flatMap_cons] at this
  exact (List.nodup_append.1 this).1

theorem St.one' {w0 w : World} {μ : List Asrt} {A : Asrt} (h : St w0 w μ) (hA : A ∈ μ) : St w0 w [A] := by
  refine ⟨h.bel, fun X hX => ?_, fun X hX => ?_, ?_⟩
  · rw [List.mem_singleton.1 hX]; exact h.ok A hA
  · rw [List.mem_singleton.1 hX]; exact h.lo A hA
  · simp only [List.flatMap_cons, List.flatMap_nil, List.append_nil]
    obtain ⟨s, t, rfl⟩ := List.append_of_mem hA
    have h3 := h.sep
    rw [List.flatMap_append, List.flatMap_cons] at h3
    exact (List.nodup_append.1 (List.nodup_append.1 h3).2.1).1

/-- What the call owns, read. -/
theorem St.ownRd {α : Type} {En : Enc α} {w0 w : World} {μ : List Asrt} {e : TypeId} {size bytes : Nat} {v : Value} {l : List α} {f : α → Value} (h : St w0 w (aOwn e size v (l.map f) :: μ)) (hes : En.size = size) (hR : ∀ F W, ∀ a ∈ l, En.R F W (f a).cells.toList a) (hb : (l.length : Int) * bytes ≤ 140737488355328) :
    St w0 w (aRd (En.sl bytes) w0 v.ownBlock.toList [v] l :: μ) := by
  refine h.turn rfl (fun w' h0 h1 => ?_)
  have ho := (aOwn e size v (l.map f)).loc w w' h1 (h.ok _ (.head _))
  exact Own.enc (f := f) ho hes (fun a ha => hR _ _ a ha) (fun b hb => .inr hb) hb

theorem Own.isLen {w : World} {B : Nat} {e : TypeId} {size : Nat} {v : Value} {xs : List Value} (h : Own w B e size v xs) : ∃ ao cap, v = .slice ao xs.length cap := by
  rcases h.shape with ⟨h1, h2⟩ | ⟨g, cap, h1, _⟩
  · exact ⟨none, 0, by rw [h1, h2]; rfl⟩
  · exact ⟨_, _, h1⟩

theorem St.cel3 {w0 w : World} {μ : List Asrt} {g : Nat} {T : TypeId} {v0 v1 v2 : Value} (h : St w0 w (aCel g T #[v0, v1, v2] :: μ)) :
    w.cell? ⟨g, 0, none⟩ = some v0 ∧ w.cell? ⟨g, 1, none⟩ = some v1 ∧ w.cell? ⟨g, 2, none⟩ = some v2 ∧ w.frozen? ⟨g, 0, none⟩ = false ∧ w.frozen? ⟨g, 1, none⟩ = false ∧ w.frozen? ⟨g, 2, none⟩ = false :=
  ⟨h.celAt rfl, h.celAt rfl, h.celAt rfl, h.celFree 0, h.celFree 1, h.celFree 2⟩
end Go.Proofs.YtlgabpcddldelaaDoor
