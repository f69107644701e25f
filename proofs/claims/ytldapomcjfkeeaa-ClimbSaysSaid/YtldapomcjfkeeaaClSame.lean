/-
  same and begun of package climb; SameClimber of the reference on alike climbers.
-/
import Derived.Test.YtldapomcjfkeeaaClChk
import Derived.Test.YtldapomcjfkeeaaEvtEq
import Derived.Lib.BufferMore
namespace Go.Proofs.Ytldapomcjfkeeaa
set_option linter.unusedVariables false
open Go.ChangeShapes Go.WideShapes Go.ChangeAt Go.RowKit

theorem todo_cells {F : Nat → Prop} {w : World} {cs : List Value} {x : Cl.T} (h : Enc.todo.R F w cs x) : cs = (todoV x).cells.toList := by
  obtain ⟨c1, c2, rfl, hb, c3, c4, rfl, ⟨rfl, _⟩, h5⟩ := h
  have hb' : c1 = [.bool x.1] := hb
  subst hb'
  obtain ⟨rfl, _, _⟩ := two_cells h5
  rfl
theorem St.emptyT {w0 w : World} {μ : List Asrt} (h : St w0 w μ) (T : TypeId) (size : Nat) : St w0 (w.alloc (.cells #[] T)) (aOwn T size (.slice (some ⟨w.heap.size, 0, none⟩) 0 0) [] :: μ) := by
  refine h.push ((Below.refl _ _).alloc (Nat.le_refl _) _) ⟨by simp [cellsOf], .inr ⟨w.heap.size, 0, #[], rfl, Nat.zero_le _, heap_alloc_new _ _, Nat.le_refl _, Nat.zero_le _, by simp, by simp [cellsOf]⟩⟩ (fun b hb => ?_) (by simp [aOwn, Value.ownBlock])
  simp [aOwn, Value.ownBlock] at hb
  subst hb
  simp

set_option maxRecDepth 100000 in
theorem cloneTodo_any {v : Value} {l : List Cl.T} (w : World) {F : Nat → Prop} (hF : ∀ b, F b → b < w.heap.size) (h : (Enc.todo.sl 32).R F w [v] l) :
    Calls Try.prog 159 #[v] w fun e w' => ∃ v', e = .returned v' ∧ Own w' w.heap.size 125 4 v' (l.map todoV) ∧ Below w.heap.size w w' := by
  have H := Lib.hid h; have HF := Lib.hid hF; clear hF
  obtain ⟨ao, b, off, cap, hv, c1, c2, c3, c4, c5, _⟩ := h
  simp only [List.cons.injEq, and_true] at hv
  subst hv
  cases ao with
  | none =>
    have hl : l = [] := by
      rcases l with _ | ⟨x, r⟩
      · rfl
      · have := (c5 (by simp)).1; cases this
    subst hl
    have hnil := fun W => Lib.run_eql_slice_nil_nil (P := Try.prog) W 0 cap Try.underlying119
    simp only [List.length_nil] at *
    clear c1 c2 c3 c4 c5
    go_enter Try.func159, Try.ntmps159
    go_wp2
    go_ret
    exact ⟨_, rfl, Own.nil _ _ _ _, Below.refl _ _⟩
  | some a =>
    have hnil := fun W => Lib.run_eql_slice_some_nil (P := Try.prog) W a l.length cap Try.underlying119
    have C3 := Lib.hid c3
    clear c1 c2 c3 c4 c5
    go_enter Try.func159, Try.ntmps159
    go_wp2_with (at_builtin; refine St.appSl todoE rfl _ _ rfl rfl ((St.init w).emptyT 125 4) rfl (Enc.mono _ H.out (fun _ h => h) (fun b hb => Below.heap_alloc _ _ _ (HF.out b hb))) rfl todoV (fun w cs a h => todo_cells h) (fun a q hq => todo_one a q hq) (by have := C3.out; simp; omega) (by have := C3.out; simp; omega) ?_; intro v' w1 hst1)
    go_ret
    exact ⟨v', rfl, by simpa using hst1.own, hst1.bel⟩

set_option maxRecDepth 100000 in
theorem eqTodos {v1 v2 : Value} {l : List Cl.T} (w : World) {F1 F2 : Nat → Prop} (h1 : (Enc.todo.sl 32).R F1 w [v1] l) (h2 : (Enc.todo.sl 32).R F2 w [v2] l) :
    Calls Try.prog 125 #[v1, v2] w fun e w' => e = .returned (.bool true) ∧ Below w.heap.size w w' := by
  obtain ⟨a1, b1, o1, c1, rfl, k1, k3, k4⟩ := slTodo h1
  obtain ⟨a2, b2, o2, c2, rfl, g1, g3, g4⟩ := slTodo h2
  have hll : (l.length : Int) ≤ 140737488355328 := by omega
  have K3 := Lib.hid k3; have K4 := Lib.hid k4; have G3 := Lib.hid g3; have G4 := Lib.hid g4
  clear k3 k4 g3 g4 h1 h2 k1 g1
  have hne : ((l.length : Int) != (l.length : Int)) = false := by rw [bne_eq_false_iff_eq]
  go_enter Try.func125, Try.ntmps125
  go_wp2
  go_loopw [5, 13] (fun _ i wr => ∃ k : Nat, k ≤ l.length ∧ i = .int .i64 k ∧ Below w.heap.size w wr) (fun _ i _ => l.length - (intOf i).toNat)
  case atStart => exact ⟨0, by omega, rfl, Below.refl _ _⟩
  case round =>
    obtain ⟨k, hk, rfl, hB⟩ := hrel
    by_cases hlt : k < l.length
    · obtain ⟨rfl, _⟩ := K3.out (by omega)
      obtain ⟨rfl, _⟩ := G3.out (by omega)
      obtain ⟨j1, j2, j3, j4, -⟩ := K4.out k hlt
      obtain ⟨i1, i2, i3, i4, -⟩ := G4.out k hlt
      have hc1 := bkeep hB j1
      have hc2 := bkeep hB j2
      have hc3 := bkeep hB j3
      have hc4 := bkeep hB j4
      have hd1 := bkeep hB i1
      have hd2 := bkeep hB i2
      have hd3 := bkeep hB i3
      have hd4 := bkeep hB i4
      generalize l.getD k Cl.z = x at hc1 hc2 hc3 hc4 hd1 hd2 hd3 hd4
      obtain ⟨x1, x2, x3, x4⟩ := x
      simp only at hc1 hc2 hc3 hc4 hd1 hd2 hd3 hd4
      clear K3 K4 G3 G4 j1 j2 j3 j4 i1 i2 i3 i4
      go_wp2
      go_quiet (fail)
      go_wp2
      go_roundw
      case rel => exact ⟨k + 1, by omega, by go_num, below_drewN hB _⟩
      case measure => simp [intOf]; omega
    · clear K3 K4 G3 G4
      go_wp2
      go_ret
      exact ⟨rfl, hB⟩

set_option maxRecDepth 100000 in
set_option maxHeartbeats 4000000 in
theorem clSame_any {v : Value} {l : List Cl.T} (a b : Int) (d : Bool) (w : World) {F : Nat → Prop} (hF : ∀ b, F b → b < w.heap.size) (h : (Enc.todo.sl 32).R F w [v] l) :
    Calls Try.prog 128 #[.agg #[v, .int .i64 a, .int .i64 b, .bool d]] w fun e w' => ∃ v', e = .returned (.agg #[v', .int .i64 a, .int .i64 b, .bool d]) ∧ Own w' w.heap.size 125 4 v' (l.map (todoV)) ∧ Below w.heap.size w w' := by
  obtain ⟨ao, -, -, cap, rfl, hroom, -⟩ := slTodo h
  have hst := ((St.init w).alloc #[.slice ao l.length cap, .int .i64 a, .int .i64 b, .bool d] 121).alloc #[.slice none 0 0, .int .i64 0, .int .i64 0, .bool false] 121
  simp only [World.size_alloc] at hst
  have HCL := Lib.hid (cloneTodo_any (l := l) _ (fun b hb => Nat.lt_of_lt_of_le (hF b hb) hst.bel.size) (Enc.mono _ h (fun _ h => h) (fun b hb => hst.bel.block b (hF b hb))))
  clear h hF hroom
  go_enter Try.func128, Try.ntmps128
  go_wp2_with (fail)
  go_at_call 159
  refine HCL.out.mono ?_
  rintro e w1 ⟨v', rfl, ho, hb1⟩
  obtain ⟨a2, c2, rfl⟩ := ho.isLen
  rw [List.length_map] at ho ⊢
  replace hst := hst.pushOwn hb1 ho
  obtain ⟨x0, x1, x2, x3, xf0, xf1, xf2, xf3⟩ := hst.get3.cel4
  obtain ⟨y0, y1, y2, y3, yf0, yf1, yf2, yf3⟩ := hst.get2.cel4
  have hstA := (((((hst.get3.setCel 0 (.slice a2 l.length c2)).get3.setCel 0 (.slice a2 l.length c2)).setCel 1 (.int .i64 a)).setCel 2 (.int .i64 b)).setCel 3 (.bool d))
  clear hst ho hb1
  go_wp2
  obtain ⟨z0, z1, z2, z3⟩ := hstA.at4 0 rfl
  exact bodyPost_ret (v := .agg #[.slice a2 l.length c2, .int .i64 a, .int .i64 b, .bool d]) (by simp [results, Try.results128, go_sem, z0, z1, z2, z3]) rfl ⟨_, rfl, hstA.get3.own, hstA.bel⟩

set_option maxRecDepth 100000 in
set_option maxHeartbeats 4000000 in
theorem sameCli_any {v1 v2 : Value} {l : List Cl.T} (a b : Int) (d : Bool) (w : World) {F1 F2 : Nat → Prop} (hF1 : ∀ b, F1 b → b < w.heap.size) (hF2 : ∀ b, F2 b → b < w.heap.size) (h1 : (Enc.todo.sl 32).R F1 w [v1] l) (h2 : (Enc.todo.sl 32).R F2 w [v2] l) :
    Calls Try.prog 60 #[.agg #[v1, .int .i64 a, .int .i64 b, .bool d], .agg #[v2, .int .i64 a, .int .i64 b, .bool d]] w fun e w' => e = .returned (.bool true) ∧ Below w.heap.size w w' := by
  have hst := ((St.init w).alloc #[v1, .int .i64 a, .int .i64 b, .bool d] 121).alloc #[v2, .int .i64 a, .int .i64 b, .bool d] 121
  simp only [World.size_alloc] at hst
  have HEQ := Lib.hid (eqTodos (v1 := v1) (v2 := v2) (l := l) _ (Enc.mono _ h1 (fun _ h => h) (fun b hb => hst.bel.block b (hF1 b hb))) (Enc.mono _ h2 (fun _ h => h) (fun b hb => hst.bel.block b (hF2 b hb))))
  clear h1 h2 hF1 hF2
  go_enter Try.func60, Try.ntmps60
  go_wp2_with (fail)
  go_at_call 125
  refine HEQ.out.mono ?_
  rintro e w1 ⟨rfl, hb1⟩
  replace hst := hst.call hb1
  obtain ⟨x0, x1, x2, x3⟩ := hst.at4 0 rfl
  obtain ⟨y0, y1, y2, y3⟩ := hst.at4 1 rfl
  clear hb1
  go_wp2
  go_ret
  exact ⟨rfl, hst.bel⟩

theorem alloc_keep' {w : World} {b o : Nat} {v : Value} (x : Obj) (h : w.cell? ⟨b, o, none⟩ = some v) : (w.alloc x).cell? ⟨b, o, none⟩ = some v := (World.cell?_alloc_lt _ _ _ (World.block_lt_of_cell? w _ h)).trans h

set_option maxRecDepth 100000 in
set_option maxHeartbeats 4000000 in
theorem clBegun_any {vs : Value} {td : List Cl.T} (t n seen ov : Int) (ap : Option Addr) (np cp : Nat) (dn : Bool) (w : World) {F : Nat → Prop} (hF : ∀ b, F b → b < w.heap.size) (h : (Enc.todo.sl 32).R F w [vs] td) :
    Calls Try.prog 129 #[.agg #[.int .i64 t, .int .i64 n, .slice ap np cp], .agg #[vs, .int .i64 seen, .int .i64 ov, .bool dn]] w fun e w' => ∃ W, e = .returned (.pointer (some ⟨W, 0, none⟩)) ∧ Cl.Wk w w' W t n (.slice ap np cp) td [] [] := by
  obtain ⟨ao, -, -, cap, rfl, hroom, -⟩ := slTodo h
  have hst := ((St.init w).alloc #[.int .i64 t, .int .i64 n, (.slice ap np cp)] 68).alloc #[.slice ao td.length cap, .int .i64 seen, .int .i64 ov, .bool dn] 121
  simp only [World.size_alloc] at hst
  have HCL := Lib.hid (fun (W : World) (hW : Below w.heap.size w W) => cloneTodo_any (l := td) (v := .slice ao td.length cap) W (fun b hb => Nat.lt_of_lt_of_le (hF b hb) hW.size) (Enc.mono _ h (fun _ h => h) (fun b hb => hW.block b (hF b hb))))
  clear h hF hroom
  have HST := Lib.hid hst.drew
  clear hst
  go_enter Try.func129, Try.ntmps129
  go_wp2
  obtain ⟨g0, g1, g2⟩ := HST.out.at3 1 rfl
  obtain ⟨s0, -, -, -⟩ := HST.out.at4 0 rfl
  go_region_held3 (fun w' => w'.cell? ⟨w.heap.size, 0, none⟩ = some (.int .i64 t) ∧ w'.cell? ⟨w.heap.size, 1, none⟩ = some (.int .i64 n) ∧ w'.cell? ⟨w.heap.size, 2, none⟩ = some (.slice ap np cp) ∧ w'.cell? ⟨w.heap.size + 1, 0, none⟩ = some (.slice ao td.length cap)) (first | exact ⟨g0, g1, g2, s0⟩ | exact ⟨alloc_keep' _ g0, alloc_keep' _ g1, alloc_keep' _ g2, alloc_keep' _ s0⟩)
    ((go_at_call 159; refine (HCL.out _ HST.out.bel).mono ?_; rintro e w1 ⟨v', rfl, ho, hb1⟩; obtain ⟨a2, c2, rfl⟩ := ho.isLen; have hst := HST.out.pushOwn hb1 ho; obtain ⟨g0, g1, g2⟩ := hst.at3 2 rfl; obtain ⟨s0, -, -, -⟩ := hst.at4 1 rfl))
  all_goals
    have hfin := (hst.alloc #[.int .i64 t, .int .i64 n, .slice ap np cp, .slice a2 td.length c2, .slice none 0 0, .int .i64 0] 228).nilOwn 81 2
    go_wp2
    go_ret
    rw [List.length_map] at hfin
    exact ⟨w1.heap.size, rfl, .slice a2 td.length c2, .slice none 0 0, hfin.get3.get3.get5.drop.get4.drop⟩
end Go.Proofs.Ytldapomcjfkeeaa
