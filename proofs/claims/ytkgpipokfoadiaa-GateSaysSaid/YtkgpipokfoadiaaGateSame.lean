/-
  same of package gate; SameGate of the reference.
-/
import Derived.Test.YtkgpipokfoadiaaGate
namespace Go.Proofs.Ytkgpipokfoadiaa
set_option linter.unusedVariables false
open Go.ChangeShapes Go.WideShapes Go.ChangeAt Go.RowKit

theorem Own.isLen {w : World} {B : Nat} {e : TypeId} {size : Nat} {v : Value} {xs : List Value} (h : Own w B e size v xs) : ∃ ao cap, v = .slice ao xs.length cap := by
  rcases h.shape with ⟨h1, h2⟩ | ⟨g, cap, h1, _⟩
  · exact ⟨none, 0, by rw [h1, h2]; rfl⟩
  · exact ⟨_, _, h1⟩

theorem St.cel3 {w0 w : World} {μ : List Asrt} {g : Nat} {T : TypeId} {v0 v1 v2 : Value} (h : St w0 w (aCel g T #[v0, v1, v2] :: μ)) :
    w.cell? ⟨g, 0, none⟩ = some v0 ∧ w.cell? ⟨g, 1, none⟩ = some v1 ∧ w.cell? ⟨g, 2, none⟩ = some v2 ∧ w.frozen? ⟨g, 0, none⟩ = false ∧ w.frozen? ⟨g, 1, none⟩ = false ∧ w.frozen? ⟨g, 2, none⟩ = false :=
  ⟨h.celAt rfl, h.celAt rfl, h.celAt rfl, h.celFree 0, h.celFree 1, h.celFree 2⟩

set_option maxRecDepth 100000 in
set_option maxHeartbeats 4000000 in
theorem same_any {v : Value} {l : List (Int × Int)} (c n : Int) (w : World) {F : Nat → Prop} (hF : ∀ b, F b → b < w.heap.size) (h : (Enc.two.sl 16).R F w [v] l) :
    Calls Try.prog 74 #[.agg #[v, .int .i64 c, .int .i64 n]] w fun e w' => ∃ v', e = .returned (.agg #[v', .int .i64 c, .int .i64 n]) ∧ Own w' w.heap.size 39 2 v' (l.map pairV) ∧ Below w.heap.size w w' := by
  have H := Lib.hid h; have HF := Lib.hid hF; clear hF
  obtain ⟨ao, b, off, cap, rfl, hl, hx, _⟩ := slTwo h
  clear h hx hl
  have hst0 := ((St.init w).alloc #[.slice ao l.length cap, .int .i64 c, .int .i64 n] 42).alloc #[.slice none 0 0, .int .i64 0, .int .i64 0] 42
  simp only [World.size_alloc] at hst0
  go_enter Try.func74, Try.ntmps74
  go_wp2_with (go_at_call 75; refine (cloneEvt_any _ (fun b hb => Nat.lt_of_lt_of_le (HF.out b hb) hst0.bel.size) (Enc.mono _ H.out (fun _ h => h) (fun b hb => hst0.bel.block b (HF.out b hb)))).mono ?_; rintro e w1 ⟨v', rfl, ho, hb1⟩; obtain ⟨a2, c2, rfl⟩ := ho.isLen; rw [List.length_map] at ho ⊢; have hst := hst0.pushOwn hb1 ho; obtain ⟨x0, x1, x2, xf0, xf1, xf2⟩ := hst.get3.cel3; obtain ⟨y0, y1, y2, yf0, yf1, yf2⟩ := hst.get2.cel3; have hstA := ((((hst.get3.setCel 0 (.slice a2 l.length c2)).get3.setCel 0 (.slice a2 l.length c2)).setCel 1 (.int .i64 c)).setCel 2 (.int .i64 n)); clear hst0 ho hb1)
  have z0 := hstA.celAt (i := 0) (v := .slice a2 l.length c2) rfl
  have z1 := hstA.celAt (i := 1) (v := .int .i64 c) rfl
  have z2 := hstA.celAt (i := 2) (v := .int .i64 n) rfl
  exact bodyPost_ret (v := .agg #[.slice a2 l.length c2, .int .i64 c, .int .i64 n]) (by simp [results, Try.results74, go_sem, z0, z1, z2]) rfl ⟨_, rfl, hstA.get3.own, hstA.bel⟩
end Go.Proofs.Ytkgpipokfoadiaa
