/-
  A map that the call made, among what the call owns. (A helper text; it claims nothing of the program.)
-/
import Derived.Test.YtlgabpcddldelaaDoorSepPick
import Derived.Maps.OwnSet
namespace Go.Proofs.YtlgabpcddldelaaDoor
set_option linter.unusedVariables false
open Go.ChangeShapes Go.WideShapes Go.ChangeAt Go.RowKit

/-- Block b is a map of at most n entries that reads as D; its elements are of the plain type e. -/
def aMap (k e : TypeId) (b n : Nat) (D : DataW Unit) : Asrt where
  fp := [b]
  ok := fun w => w.ownsMap Tryd.prog k (plainElem Tryd.prog e) b n D
  loc := fun w w' hb h => by
    obtain ⟨es, clock, h1, h2⟩ := h
    exact ⟨es, clock, (hb b (by simp)).trans h1, h2⟩
section
variable {w0 w w' : World} {μ : List Asrt} {k e : TypeId} {b n : Nat} {D D' : DataW Unit}
theorem St.mapOwn (h : St w0 w (aMap k e b n D :: μ)) : w.ownsMap Tryd.prog k (plainElem Tryd.prog e) b n D := h.ok _ (.head _)
/-- make(map[K]E). -/
theorem St.makeMap (h : St w0 w μ) (k e : TypeId) : St w0 (w.alloc (.map #[] 0)) (aMap k e w.heap.size 0 (.map []) :: μ) :=
  h.push ((Below.refl _ _).alloc (Nat.le_refl _) _) (World.ownsMap_made w Tryd.prog k _) (fun x hx => by simp [aMap] at hx; subst hx; simp) (by simp [aMap])
/-- m[k] = v, behind the kit's law. -/
theorem St.mapPut (h : St w0 w (aMap k e b n D :: μ)) (ho : w'.ownsMap Tryd.prog k (plainElem Tryd.prog e) b (n + 1) D') (hg : w.grownBy w' (some b)) : St w0 w' (aMap k e b (n + 1) D' :: μ) := by
  refine h.upd hg.os hg.tape hg.output hg.size (fun x hx hm => ?_) ho (fun x hx => .inl hx) (by simp [aMap])
  exact hg.block x hx (fun he => hm (by simp [aMap]; exact (Option.some.inj he)))
theorem St.mapMono (h : St w0 w (aMap k e b n D :: μ)) {m : Nat} (hm : n ≤ m) : St w0 w (aMap k e b m D :: μ) := h.turn rfl (h.mapOwn.mono hm)
end
end Go.Proofs.YtlgabpcddldelaaDoor
