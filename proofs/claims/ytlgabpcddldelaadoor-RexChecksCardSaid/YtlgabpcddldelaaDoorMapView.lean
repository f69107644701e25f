/-
  A map that the call made, as a list of keys with their numbers, the newest first. (A helper text; it claims nothing of the program.)
-/
import Derived.Test.YtlgabpcddldelaaDoorMapKey
namespace Go.Proofs.YtlgabpcddldelaaDoor
set_option linter.unusedVariables false
open Go.ChangeShapes Go.WideShapes Go.ChangeAt Go.RowKit

/-- The number at a key, 0 where there is none. -/
def numAt {κ : Type} [DecidableEq κ] (L : List (κ × Int)) (c : κ) : Int := match L.find? (fun p => decide (p.1 = c)) with
  | some p => p.2
  | none => 0
def hasAt {κ : Type} [DecidableEq κ] (L : List (κ × Int)) (c : κ) : Bool := L.any (fun p => decide (p.1 = c))
/-- D tells of L. -/
def Tells {κ : Type} [DecidableEq κ] (k : TypeId) (kv : κ → Value) (D : DataW Unit) (L : List (κ × Int)) : Prop :=
  Maps.Tidy D ∧ ∀ c kl, keyOf Tryd.prog k (kv c) = some kl → Maps.has D kl = hasAt L c ∧ D.atKey kl (.lit (.int .i64 0)) = .lit (.int .i64 (numAt L c))
section
variable {κ : Type} [DecidableEq κ] {k : TypeId} {kv : κ → Value} {D : DataW Unit} {L : List (κ × Int)}
theorem Tells.nil : Tells k kv (.map [] : DataW Unit) ([] : List (κ × Int)) := ⟨Maps.tidy_empty, fun _ _ _ => ⟨rfl, rfl⟩⟩
theorem Tells.put (h : Tells k kv D L) (K : Maps.Keyed Tryd.prog k) (hinj : ∀ a b, kv a = kv b → a = b) {c : κ} {kl : Lit} (hc : keyOf Tryd.prog k (kv c) = some kl) (x : Int) : Tells k kv (D.put kl (.lit (.int .i64 x))) ((c, x) :: L) := by
  refine ⟨h.1.put (K.key hc) _, fun c' kl' hc' => ?_⟩
  by_cases he : c = c'
  · subst he
    rw [hc] at hc'
    cases hc'
    refine ⟨?_, ?_⟩
    · rw [Maps.has_put_same h.1.isMap (K.key hc)]; simp [hasAt]
    · rw [Maps.atKey_put_same h.1.isMap (K.key hc)]; simp [numAt]
  · have hne : kl' ≠ kl := by
      rintro rfl
      exact he (hinj _ _ (K.inj hc hc'))
    obtain ⟨h1, h2⟩ := h.2 c' kl' hc'
    refine ⟨?_, ?_⟩
    · rw [Maps.has_put_other hne, h1]; simp [hasAt, he]
    · rw [Maps.atKey_put_other hne, h2]; simp [numAt, he]
theorem Tells.size_new (h : Tells k kv D L) {c : κ} {kl : Lit} (hc : keyOf Tryd.prog k (kv c) = some kl) (hn : hasAt L c = false) (x : Int) : Maps.size (D.put kl (.lit (.int .i64 x))) = Maps.size D + 1 := by
  rw [Maps.size_put h.1, (h.2 c kl hc).1, hn]; simp
end
end Go.Proofs.YtlgabpcddldelaaDoor
