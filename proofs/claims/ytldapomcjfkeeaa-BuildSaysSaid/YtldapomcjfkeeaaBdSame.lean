/-
  same of package build; SameStacker of the reference on alike stacks.
-/
import Derived.Test.YtldapomcjfkeeaaBdChk
import Derived.Test.YtldapomcjfkeeaaClone
import Derived.Test.YtldapomcjfkeeaaSlEq
import Derived.Test.YtldapomcjfkeeaaPairSet
namespace Go.Proofs.Ytldapomcjfkeeaa
set_option linter.unusedVariables false
open Go.ChangeShapes Go.WideShapes Go.ChangeAt Go.RowKit

theorem St.cel4 {w0 w : World} {μ : List Asrt} {g : Nat} {T : TypeId} {v0 v1 v2 v3 : Value} (h : St w0 w (aCel g T #[v0, v1, v2, v3] :: μ)) :
    w.cell? ⟨g, 0, none⟩ = some v0 ∧ w.cell? ⟨g, 1, none⟩ = some v1 ∧ w.cell? ⟨g, 2, none⟩ = some v2 ∧ w.cell? ⟨g, 3, none⟩ = some v3 ∧ w.frozen? ⟨g, 0, none⟩ = false ∧ w.frozen? ⟨g, 1, none⟩ = false ∧ w.frozen? ⟨g, 2, none⟩ = false ∧ w.frozen? ⟨g, 3, none⟩ = false :=
  ⟨h.celAt rfl, h.celAt rfl, h.celAt rfl, h.celAt rfl, h.celFree 0, h.celFree 1, h.celFree 2, h.celFree 3⟩

set_option maxRecDepth 100000 in
set_option maxHeartbeats 4000000 in
theorem bdSame_any {v : Value} {l : List Int} (a b : Int) (d : Bool) (w : World) {F : Nat → Prop} (hF : ∀ b, F b → b < w.heap.size) (h : ((Enc.int .i64).sl 8).R F w [v] l) :
    Calls Try.prog 122 #[.agg #[v, .int .i64 a, .int .i64 b, .bool d]] w fun e w' => ∃ v', e = .returned (.agg #[v', .int .i64 a, .int .i64 b, .bool d]) ∧ Own w' w.heap.size 3 1 v' (l.map (Value.int .i64)) ∧ Below w.heap.size w w' := by
  obtain ⟨ao, -, -, cap, rfl, hroom, -⟩ := Enc.sl1 (En := Enc.int .i64) (Value.int .i64) (fun _ _ _ h => h.1) rfl 0 h
  have hst := ((St.init w).alloc #[.slice ao l.length cap, .int .i64 a, .int .i64 b, .bool d] 110).alloc #[.slice none 0 0, .int .i64 0, .int .i64 0, .bool false] 110
  simp only [World.size_alloc] at hst
  have HCL := Lib.hid (clone_any (l := l) _ (Enc.toSl (Enc.mono _ h (fun _ h => h) (fun b hb => hst.bel.block b (hF b hb)))) (by omega))
  clear h hF hroom
  go_enter Try.func122, Try.ntmps122
  go_wp2_with (fail)
  go_at_call 82
  refine HCL.out.mono ?_
  rintro e w1 ⟨v', rfl, ho, hb1⟩
  obtain ⟨a2, c2, rfl⟩ := ho.isLen
  rw [List.length_map] at ho ⊢
  replace hst := hst.pushOwn hb1 ho
  obtain ⟨x0, x1, x2, x3, xf0, xf1, xf2, xf3⟩ := hst.get3.cel4
  obtain ⟨y0, y1, y2, y3, yf0, yf1, yf2, yf3⟩ := hst.get2.cel4
  have hstA := (((((hst.get3.setCel 0 (.slice a2 l.length c2)).get3.setCel 0 (.slice a2 l.length c2)).setCel 1 (.int .i64 a)).setCel 2 (.int .i64 b)).setCel 3 (.bool d))
  clear hst ho hb1
  go_wp2
  obtain ⟨z0, z1, z2, z3⟩ := hstA.at4 0 rfl
  exact bodyPost_ret (v := .agg #[.slice a2 l.length c2, .int .i64 a, .int .i64 b, .bool d]) (by simp [results, Try.results122, go_sem, z0, z1, z2, z3]) rfl ⟨_, rfl, hstA.get3.own, hstA.bel⟩

set_option maxRecDepth 100000 in
set_option maxHeartbeats 4000000 in
theorem sameStk_any {v1 v2 : Value} {l : List Int} (a b : Int) (d : Bool) (w : World) {F1 F2 : Nat → Prop} (hF1 : ∀ b, F1 b → b < w.heap.size) (hF2 : ∀ b, F2 b → b < w.heap.size) (h1 : ((Enc.int .i64).sl 8).R F1 w [v1] l) (h2 : ((Enc.int .i64).sl 8).R F2 w [v2] l) :
    Calls Try.prog 54 #[.agg #[v1, .int .i64 a, .int .i64 b, .bool d], .agg #[v2, .int .i64 a, .int .i64 b, .bool d]] w fun e w' => e = .returned (.bool true) ∧ Below w.heap.size w w' := by
  have hst := ((St.init w).alloc #[v1, .int .i64 a, .int .i64 b, .bool d] 110).alloc #[v2, .int .i64 a, .int .i64 b, .bool d] 110
  simp only [World.size_alloc] at hst
  have HEQ := Lib.hid (eqInts (v1 := v1) (v2 := v2) (l := l) _ (Enc.toSl (Enc.mono _ h1 (fun _ h => h) (fun b hb => hst.bel.block b (hF1 b hb)))) (Enc.toSl (Enc.mono _ h2 (fun _ h => h) (fun b hb => hst.bel.block b (hF2 b hb)))))
  clear h1 h2 hF1 hF2
  go_enter Try.func54, Try.ntmps54
  go_wp2_with (fail)
  go_at_call 27
  refine HEQ.out.mono ?_
  rintro e w1 ⟨rfl, hb1⟩
  replace hst := hst.call hb1
  obtain ⟨x0, x1, x2, x3⟩ := hst.at4 0 rfl
  obtain ⟨y0, y1, y2, y3⟩ := hst.at4 1 rfl
  clear hb1
  go_wp2
  go_ret
  exact ⟨rfl, hst.bel⟩
end Go.Proofs.Ytldapomcjfkeeaa
