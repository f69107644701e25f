/-
  SameDfa of the law: two that read alike are the same.
-/
import Derived.Test.YtlgabpcddldelaaSlEq
import Derived.WalkKit
namespace Go.Proofs.Ytlgabpcddldelaa
set_option linter.unusedVariables false
open Go.ChangeShapes Go.WideShapes Go.ChangeAt Go.RowKit

theorem Sl.nil {α : Type} (w : World) (size : Nat) (R : List Value → α → Prop) : Sl w size R (.slice none 0 0) ([] : List α) :=
  ⟨none, 0, 0, 0, rfl, Nat.le_refl _, by decide, fun h => by simp at h, fun i hi => by simp at hi⟩

set_option maxRecDepth 100000 in
theorem sameDfa_any {a0 a1 b0 b1 : Value} {rows : List (List Int)} {tags : List Int} (w : World) (h0 : Sl w 256 (RRow .i16 256) a0 rows) (h1 : Sl w 1 (RInt .i64) a1 tags) (k0 : Sl w 256 (RRow .i16 256) b0 rows) (k1 : Sl w 1 (RInt .i64) b1 tags) :
    Calls Try.prog 11 #[.agg #[a0, a1], .agg #[b0, b1]] w fun e w' => e = .returned (.bool true) ∧ Below w.heap.size w w' := by
  have hB : Below w.heap.size w ((w.alloc (.cells #[a0, a1] 30)).alloc (.cells #[b0, b1] 30)) := ((Below.refl _ _).alloc (Nat.le_refl _) _).alloc (by simp) _
  have hx0 : ((w.alloc (.cells #[a0, a1] 30)).alloc (.cells #[b0, b1] 30)).cell? ⟨w.heap.size, 1, none⟩ = some a1 := by
    rw [World.cell?_alloc_past _ _ _ (by simp), World.cell?_alloc_new]; rfl
  have hx1 : ((w.alloc (.cells #[a0, a1] 30)).alloc (.cells #[b0, b1] 30)).cell? ⟨w.heap.size + 1, 1, none⟩ = some b1 := by
    rw [World.cell?_alloc_at _ _ _ _ (by simp)]; rfl
  go_enter Try.func11, Try.ntmps11
  go_wp2_with (first
    | (go_at_call 41; refine (eqRows (l := rows) _ (h0.call hB (fun _ _ h => h)) (k0.call hB (fun _ _ h => h))).mono ?_; rintro e w1 ⟨rfl, hb1⟩; replace hx0 := bkeep hb1 hx0; replace hx1 := bkeep hb1 hx1; replace hB := hB.trans (hb1.mono hB.size); clear hb1)
    | (go_at_call 42; refine (eqInts (l := tags) _ (h1.call hB (fun _ _ h => h)) (k1.call hB (fun _ _ h => h))).mono ?_; rintro e w2 ⟨rfl, hb1⟩; replace hB := hB.trans (hb1.mono hB.size); clear hb1))
  go_ret
  exact ⟨rfl, hB⟩

end Go.Proofs.Ytlgabpcddldelaa
