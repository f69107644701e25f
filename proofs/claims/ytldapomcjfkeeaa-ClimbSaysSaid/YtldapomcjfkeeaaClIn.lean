/-
  What is ahead, checked: the closure of climb.check, slices.ContainsFunc over it.
-/
import Derived.Test.YtldapomcjfkeeaaClTodo
namespace Go.Proofs.Ytldapomcjfkeeaa
set_option linter.unusedVariables false
open Go.ChangeShapes Go.WideShapes Go.ChangeAt Go.RowKit

def Enc.todo : Enc Cl.T := Enc.prod Enc.bool (Enc.prod (Enc.int .i64) Enc.two)
def todoV (x : Cl.T) : Value := .agg #[.bool x.1, .int .i64 x.2.1, .int .i64 x.2.2.1, .int .i64 x.2.2.2]
abbrev Cl.z : Cl.T := (false, 0, 0, 0)
theorem slTodo {bytes : Nat} {F : Nat → Prop} {w : World} {v : Value} {l : List Cl.T} (h : (Enc.todo.sl bytes).R F w [v] l) :
    ∃ (ao : Option Addr) (b off cap : Nat), v = .slice ao l.length cap ∧ (l.length : Int) * bytes ≤ 140737488355328 ∧ (0 < l.length → ao = some ⟨b, off, none⟩ ∧ b < w.heap.size ∧ F b) ∧
      ∀ i, i < l.length → w.cell? ⟨b, off + i * 4, none⟩ = some (.bool (l.getD i Cl.z).1) ∧ w.cell? ⟨b, off + i * 4 + 1, none⟩ = some (.int .i64 (l.getD i Cl.z).2.1) ∧ w.cell? ⟨b, off + i * 4 + 2, none⟩ = some (.int .i64 (l.getD i Cl.z).2.2.1) ∧ w.cell? ⟨b, off + i * 4 + 3, none⟩ = some (.int .i64 (l.getD i Cl.z).2.2.2) ∧
        Enc.todo.R F w (todoV (l.getD i Cl.z)).cells.toList (l.getD i Cl.z) := by
  obtain ⟨ao, b, off, cap, h0, h1, h2, h3⟩ := Enc.slN Cl.z h
  refine ⟨ao, b, off, cap, h0, h1, h2, fun i hi => ?_⟩
  obtain ⟨cs, _, g2, g3⟩ := h3 i hi
  have g4 := g3
  obtain ⟨c1, c2, rfl, hb, c3, c4, rfl, ⟨rfl, _⟩, h5⟩ := g3
  have hb' : c1 = [.bool (l.getD i Cl.z).1] := hb
  subst hb'
  obtain ⟨rfl, _, _⟩ := two_cells h5
  exact ⟨g2 0 (by decide), g2 1 (by decide), g2 2 (by decide), g2 3 (by decide), g4⟩

set_option maxRecDepth 100000 in
theorem clBad_any (t n : Int) (np : Nat) (aop : Option Addr) (cp : Nat) (G : Nat) (x : Cl.T) (w : World) (hG : GrBox w G t n (.slice aop np cp)) :
    Calls Try.prog 157 #[todoV x, .pointer (some ⟨G, 0, none⟩)] w fun e w' => e = .returned (.bool (!Cl.good t n np x)) ∧ Below w.heap.size w w' := by
  obtain ⟨cl, m, k, s⟩ := x
  have hlt := hG.lt
  obtain ⟨g0, g1, g2⟩ := hG
  have HB : Hid (∀ o, Below w.heap.size w (w.alloc o)) := Lib.hid (fun o => (Below.refl _ _).alloc (Nat.le_refl _) _)
  unfold todoV
  go_enter Try.func157, Try.ntmps157
  go_wp2_with (fail)
  go_at_call 158
  refine (clRight_any t n np aop cp cl m k s _).mono ?_
  rintro e w5 ⟨rfl, hb5⟩
  go_wp2
  go_ret
  exact ⟨rfl, (HB.out _).trans (hb5.mono (HB.out _).size)⟩

set_option maxRecDepth 100000 in
theorem clIndex_any (t n : Int) (np : Nat) (aop : Option Addr) (cp : Nat) (G : Nat) (l : List Cl.T) (v : Value) (w : World) (F : Nat → Prop) (h : (Enc.todo.sl 32).R F w [v] l) (hG : GrBox w G t n (.slice aop np cp)) :
    Calls Try.prog 165 #[v, .func (.func 157) #[] #[.pointer (some ⟨G, 0, none⟩)]] w fun e w' => (∃ r : Int, e = .returned (.int .i64 r) ∧ decide (0 ≤ r) = l.any (fun x => !Cl.good t n np x)) ∧ Below w.heap.size w w' := by
  obtain ⟨ao, b, off, cap, rfl, hl, n3, n4⟩ := slTodo h
  clear h
  have hl2 : (l.length : Int) ≤ 140737488355328 := by omega
  have N3 := Lib.hid n3; have N4 := Lib.hid n4; have HT := Lib.hid hG
  have hTl := hG.lt
  clear n3 n4 hl hG
  go_enter Try.func165, Try.ntmps165
  go_wp2
  go_loopw [5, 8] (fun _ i wr => ∃ k : Nat, k ≤ l.length ∧ i = .int .i64 k ∧ Below w.heap.size w wr ∧ Hid (∀ j, j < k → (!Cl.good t n np (l.getD j Cl.z)) = false)) (fun _ i _ => l.length - (intOf i).toNat)
  case atStart => exact ⟨0, by omega, rfl, Below.refl _ _, Lib.hid (fun j hj => absurd hj (by omega))⟩
  case round =>
    obtain ⟨k, hk, rfl, hB, hq⟩ := hrel
    by_cases hlt : k < l.length
    · obtain ⟨rfl, _, _⟩ := N3.out (by omega)
      have hc1 := bkeep hB (N4.out k hlt).1
      have hc2 := bkeep hB (N4.out k hlt).2.1
      have hc3 := bkeep hB (N4.out k hlt).2.2.1
      have hc4 := bkeep hB (N4.out k hlt).2.2.2.1
      obtain ⟨x, hx⟩ : ∃ x, x = l.getD k Cl.z := ⟨_, rfl⟩
      rw [← hx] at hc1 hc2 hc3 hc4
      have HXE := Lib.hid hx; clear hx
      have HGH := Lib.hid (HT.out.below hB hTl)
      have HCL := Lib.hid (fun W (hW : GrBox W G t n (.slice aop np cp)) => clBad_any t n np aop cp G x W hW)
      unfold todoV at HCL
      cases hbk : (!Cl.good t n np x)
      · have HBK := Lib.hid hbk; clear hbk
        go_wp2_with (go_at_call 157; refine (HCL.out _ HGH.out).mono ?_; rintro e w9 ⟨rfl, hb9⟩; rw [HBK.out])
        go_roundw
        case rel =>
          refine ⟨k + 1, by omega, by go_num, hB.trans (hb9.mono hB.size), Lib.hid (fun j hj => ?_)⟩
          rcases Nat.lt_succ_iff_lt_or_eq.1 hj with hj | rfl
          · exact hq.out j hj
          · rw [← HXE.out, HBK.out]
        case measure => simp [intOf]; omega
      · have HBK := Lib.hid hbk; clear hbk
        go_wp2_with (go_at_call 157; refine (HCL.out _ HGH.out).mono ?_; rintro e w9 ⟨rfl, hb9⟩; rw [HBK.out])
        go_ret
        exact ⟨⟨k, rfl, by rw [any_some' (d := Cl.z) hlt (by rw [← HXE.out, HBK.out])]; simp⟩, hB.trans (hb9.mono hB.size)⟩
    · obtain rfl : k = l.length := by omega
      go_wp2
      go_ret
      exact ⟨⟨-1, rfl, by rw [any_none' (d := Cl.z) hq.out]; rfl⟩, hB⟩

set_option maxRecDepth 100000 in
theorem clIn_any (t n : Int) (np : Nat) (aop : Option Addr) (cp : Nat) (G : Nat) (l : List Cl.T) (v : Value) (w : World) (F : Nat → Prop) (h : (Enc.todo.sl 32).R F w [v] l) (hG : GrBox w G t n (.slice aop np cp)) :
    Calls Try.prog 156 #[v, .func (.func 157) #[] #[.pointer (some ⟨G, 0, none⟩)]] w fun e w' => e = .returned (.bool (l.any (fun x => !Cl.good t n np x))) ∧ Below w.heap.size w w' := by
  go_enter Try.func156, Try.ntmps156
  go_wp2_with (go_at_call 165; refine (clIndex_any t n np aop cp G l v w _ h hG).mono ?_; rintro e w9 ⟨⟨r, rfl, hr⟩, hb9⟩)
  go_ret
  exact ⟨by rw [← hr]; simp, hb9⟩
end Go.Proofs.Ytldapomcjfkeeaa
