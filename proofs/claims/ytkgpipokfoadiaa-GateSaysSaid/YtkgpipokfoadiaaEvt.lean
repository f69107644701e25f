/-
  Events: which are none; slices.ContainsFunc and EventsOf over them; slices.Equal.
-/
import Derived.Test.YtkgpipokfoadiaaPairs
namespace Go.Proofs.Ytkgpipokfoadiaa
set_option linter.unusedVariables false
open Go.ChangeShapes Go.WideShapes Go.ChangeAt Go.RowKit

namespace Evt
def odd (x : Int × Int) : Bool := decide (x.1 < 1) || decide (4 < x.1) || decide (x.2 < 0) || decide (1099511627776 < x.2)
theorem odd_no {x : Int × Int} (h : odd x = false) : 1 ≤ x.1 ∧ x.1 ≤ 4 ∧ 0 ≤ x.2 ∧ x.2 ≤ 1099511627776 := by
  simp only [odd, Bool.or_eq_false_iff, decide_eq_false_iff_not] at h; omega
theorem odd_mk {x : Int × Int} (h : 1 ≤ x.1 ∧ x.1 ≤ 4 ∧ 0 ≤ x.2 ∧ x.2 ≤ 1099511627776) : odd x = false := by
  simp only [odd, Bool.or_eq_false_iff, decide_eq_false_iff_not]; omega
theorem odd_yes {x : Int × Int} (h : ¬ (1 ≤ x.1 ∧ x.1 ≤ 4 ∧ 0 ≤ x.2 ∧ x.2 ≤ 1099511627776)) : odd x = true := by
  cases hx : odd x
  · exact absurd (odd_no hx) h
  · rfl
end Evt

set_option maxRecDepth 100000 in
theorem odd_any (x : Int × Int) (w : World) : Calls Try.prog 69 #[.agg #[.int .i64 x.1, .int .i64 x.2]] w fun e w' => e = .returned (.bool (Evt.odd x)) ∧ Below w.heap.size w w' := by
  obtain ⟨a, b⟩ := x
  by_cases h1 : a < 1
  · have HE := Lib.hid (Evt.odd_yes (x := (a, b)) (by simp only []; omega))
    go_enter Try.func69, Try.ntmps69
    go_wp2
    go_ret
    exact ⟨by rw [HE.out]; rfl, (Below.refl _ _).alloc (Nat.le_refl _) _⟩
  by_cases h2 : 4 < a
  · have HE := Lib.hid (Evt.odd_yes (x := (a, b)) (by simp only []; omega))
    go_enter Try.func69, Try.ntmps69
    go_wp2
    go_ret
    exact ⟨by rw [HE.out]; rfl, (Below.refl _ _).alloc (Nat.le_refl _) _⟩
  by_cases h3 : b < 0
  · have HE := Lib.hid (Evt.odd_yes (x := (a, b)) (by simp only []; omega))
    go_enter Try.func69, Try.ntmps69
    go_wp2
    go_ret
    exact ⟨by rw [HE.out]; rfl, (Below.refl _ _).alloc (Nat.le_refl _) _⟩
  by_cases h4 : 1099511627776 < b
  · have HE := Lib.hid (Evt.odd_yes (x := (a, b)) (by simp only []; omega))
    go_enter Try.func69, Try.ntmps69
    go_wp2
    go_ret
    exact ⟨by rw [HE.out]; rfl, (Below.refl _ _).alloc (Nat.le_refl _) _⟩
  · have HE := Lib.hid (Evt.odd_mk (x := (a, b)) (by simp only []; omega))
    go_enter Try.func69, Try.ntmps69
    go_wp2
    go_ret
    exact ⟨by rw [HE.out]; rfl, (Below.refl _ _).alloc (Nat.le_refl _) _⟩

set_option maxRecDepth 100000 in
theorem event_any (x : Int × Int) (w : World) : Calls Try.prog 76 #[.agg #[.int .i64 x.1, .int .i64 x.2]] w fun e w' => e = .returned (.bool (!Evt.odd x)) ∧ Below w.heap.size w w' := by
  obtain ⟨a, b⟩ := x
  by_cases h1 : a < 1
  · have HE := Lib.hid (Evt.odd_yes (x := (a, b)) (by simp only []; omega))
    go_enter Try.func76, Try.ntmps76
    go_wp2
    go_ret
    exact ⟨by rw [HE.out]; rfl, (Below.refl _ _).alloc (Nat.le_refl _) _⟩
  by_cases h2 : 4 < a
  · have HE := Lib.hid (Evt.odd_yes (x := (a, b)) (by simp only []; omega))
    go_enter Try.func76, Try.ntmps76
    go_wp2
    go_ret
    exact ⟨by rw [HE.out]; rfl, (Below.refl _ _).alloc (Nat.le_refl _) _⟩
  by_cases h3 : b < 0
  · have HE := Lib.hid (Evt.odd_yes (x := (a, b)) (by simp only []; omega))
    go_enter Try.func76, Try.ntmps76
    go_wp2
    go_ret
    exact ⟨by rw [HE.out]; rfl, (Below.refl _ _).alloc (Nat.le_refl _) _⟩
  by_cases h4 : 1099511627776 < b
  · have HE := Lib.hid (Evt.odd_yes (x := (a, b)) (by simp only []; omega))
    have hd : decide (b ≤ 1099511627776) = false := decide_eq_false (by omega)
    go_enter Try.func76, Try.ntmps76
    go_wp2
    go_ret
    exact ⟨by rw [HE.out]; rfl, (Below.refl _ _).alloc (Nat.le_refl _) _⟩
  · have HE := Lib.hid (Evt.odd_mk (x := (a, b)) (by simp only []; omega))
    go_enter Try.func76, Try.ntmps76
    go_wp2
    go_ret
    exact ⟨by rw [HE.out]; rfl, (Below.refl _ _).alloc (Nat.le_refl _) _⟩

theorem any_none {α : Type} {p : α → Bool} {l : List α} {d : α} (h : ∀ j, j < l.length → p (l.getD j d) = false) : l.any p = false := by
  rw [List.any_eq_false]
  intro x hx
  obtain ⟨j, hj, rfl⟩ := List.getElem_of_mem hx
  have := h j hj
  rw [List.getD, List.getElem?_eq_getElem hj] at this
  simpa using this
theorem any_some {α : Type} {p : α → Bool} {l : List α} {d : α} {k : Nat} (hk : k < l.length) (h : p (l.getD k d) = true) : l.any p = true :=
  List.any_eq_true.2 ⟨l.getD k d, by simp [List.getD, List.getElem?_eq_getElem hk], h⟩

set_option maxRecDepth 100000 in
theorem oddIndex_any (l : List (Int × Int)) (v : Value) (w : World) (F : Nat → Prop) (h : (Enc.two.sl 16).R F w [v] l) :
    Calls Try.prog 114 #[v, .func (.func 69) #[] #[]] w fun e w' => (∃ r : Int, e = .returned (.int .i64 r) ∧ decide (0 ≤ r) = l.any Evt.odd) ∧ Below w.heap.size w w' := by
  obtain ⟨ao, b, off, cap, rfl, hl, n3, n4⟩ := slTwo h
  clear h
  have hl2 : (l.length : Int) ≤ 140737488355328 := by omega
  have N3 := Lib.hid n3; have N4 := Lib.hid n4
  clear n3 n4 hl
  go_enter Try.func114, Try.ntmps114
  go_wp2
  go_loopw [5, 8] (fun _ i wr => ∃ k : Nat, k ≤ l.length ∧ i = .int .i64 k ∧ Below w.heap.size w wr ∧ Hid (∀ j, j < k → Evt.odd (l.getD j (0, 0)) = false)) (fun _ i _ => l.length - (intOf i).toNat)
  case atStart => exact ⟨0, by omega, rfl, Below.refl _ _, Lib.hid (fun j hj => absurd hj (by omega))⟩
  case round =>
    obtain ⟨k, hk, rfl, hB, hq⟩ := hrel
    by_cases hlt : k < l.length
    · obtain ⟨rfl, _, _⟩ := N3.out (by omega)
      have hc1 := bkeep hB (N4.out k hlt).1
      have hc2 := bkeep hB (N4.out k hlt).2.1
      obtain ⟨x, hx⟩ : ∃ x, x = l.getD k (0, 0) := ⟨_, rfl⟩
      rw [← hx] at hc1 hc2
      have HXE := Lib.hid hx; clear hx
      cases hbk : Evt.odd x
      · have HBK := Lib.hid hbk; clear hbk
        go_wp2_with (go_at_call 69; refine (odd_any x _).mono ?_; rintro e w9 ⟨rfl, hb9⟩; rw [HBK.out])
        go_roundw
        case rel =>
          refine ⟨k + 1, by omega, by go_num, hB.trans (hb9.mono hB.size), Lib.hid (fun j hj => ?_)⟩
          rcases Nat.lt_succ_iff_lt_or_eq.1 hj with hj | rfl
          · exact hq.out j hj
          · rw [← HXE.out]; exact HBK.out
        case measure => simp [intOf]; omega
      · have HBK := Lib.hid hbk; clear hbk
        go_wp2_with (go_at_call 69; refine (odd_any x _).mono ?_; rintro e w9 ⟨rfl, hb9⟩; rw [HBK.out])
        go_ret
        exact ⟨⟨k, rfl, by rw [any_some hlt (by rw [← HXE.out]; exact HBK.out)]; simp⟩, hB.trans (hb9.mono hB.size)⟩
    · obtain rfl : k = l.length := by omega
      go_wp2
      go_ret
      exact ⟨⟨-1, rfl, by rw [any_none hq.out]; rfl⟩, hB⟩

set_option maxRecDepth 100000 in
theorem oddIn_any (l : List (Int × Int)) (v : Value) (w : World) (F : Nat → Prop) (h : (Enc.two.sl 16).R F w [v] l) :
    Calls Try.prog 68 #[v, .func (.func 69) #[] #[]] w fun e w' => e = .returned (.bool (l.any Evt.odd)) ∧ Below w.heap.size w w' := by
  go_enter Try.func68, Try.ntmps68
  go_wp2_with (go_at_call 114; refine (oddIndex_any l v _ F h).mono ?_; rintro e w9 ⟨⟨r, rfl, hr⟩, hb9⟩)
  go_ret
  exact ⟨by rw [← hr]; simp, hb9⟩

set_option maxRecDepth 100000 in
theorem eventsOf_any (l : List (Int × Int)) (v : Value) (w : World) (F : Nat → Prop) (h : (Enc.two.sl 16).R F w [v] l) :
    Calls Try.prog 26 #[v] w fun e w' => e = .returned (.bool (!l.any Evt.odd)) ∧ Below w.heap.size w w' := by
  obtain ⟨ao, b, off, cap, rfl, hl, n3, n4⟩ := slTwo h
  clear h
  have hl2 : (l.length : Int) ≤ 140737488355328 := by omega
  have N3 := Lib.hid n3; have N4 := Lib.hid n4
  clear n3 n4 hl
  go_enter Try.func26, Try.ntmps26
  go_wp2
  go_loopw [3] (fun i wr => ∃ k : Nat, k ≤ l.length ∧ i = .int .i64 k ∧ Below w.heap.size w wr ∧ Hid (∀ j, j < k → Evt.odd (l.getD j (0, 0)) = false)) (fun i _ => l.length - (intOf i).toNat)
  case atStart => exact ⟨0, by omega, rfl, Below.refl _ _, Lib.hid (fun j hj => absurd hj (by omega))⟩
  case round =>
    obtain ⟨k, hk, rfl, hB, hq⟩ := hrel
    by_cases hlt : k < l.length
    · obtain ⟨rfl, _, _⟩ := N3.out (by omega)
      have hc1 := bkeep hB (N4.out k hlt).1
      have hc2 := bkeep hB (N4.out k hlt).2.1
      obtain ⟨x, hx⟩ : ∃ x, x = l.getD k (0, 0) := ⟨_, rfl⟩
      rw [← hx] at hc1 hc2
      have HXE := Lib.hid hx; clear hx
      cases hbk : Evt.odd x
      · have HBK := Lib.hid hbk; clear hbk
        go_wp2_with (go_at_call 76; refine (event_any x _).mono ?_; rintro e w9 ⟨rfl, hb9⟩; rw [HBK.out])
        go_roundw
        case rel =>
          refine ⟨k + 1, by omega, by go_num, hB.trans (hb9.mono hB.size), Lib.hid (fun j hj => ?_)⟩
          rcases Nat.lt_succ_iff_lt_or_eq.1 hj with hj | rfl
          · exact hq.out j hj
          · rw [← HXE.out]; exact HBK.out
        case measure => simp [intOf]; omega
      · have HBK := Lib.hid hbk; clear hbk
        go_wp2_with (go_at_call 76; refine (event_any x _).mono ?_; rintro e w9 ⟨rfl, hb9⟩; rw [HBK.out])
        go_ret
        exact ⟨by rw [any_some hlt (by rw [← HXE.out]; exact HBK.out)]; simp, hB.trans (hb9.mono hB.size)⟩
    · obtain rfl : k = l.length := by omega
      go_wp2
      go_ret
      exact ⟨by rw [any_none hq.out]; simp, hB⟩

set_option maxRecDepth 100000 in
theorem eqEvts {v1 v2 : Value} {l : List (Int × Int)} (w : World) {F1 F2 : Nat → Prop} (h1 : (Enc.two.sl 16).R F1 w [v1] l) (h2 : (Enc.two.sl 16).R F2 w [v2] l) :
    Calls Try.prog 19 #[v1, v2] w fun e w' => e = .returned (.bool true) ∧ Below w.heap.size w w' := by
  obtain ⟨a1, b1, o1, c1, rfl, k1, k3, k4⟩ := slTwo h1
  obtain ⟨a2, b2, o2, c2, rfl, g1, g3, g4⟩ := slTwo h2
  have hll : (l.length : Int) ≤ 140737488355328 := by omega
  have K3 := Lib.hid k3; have K4 := Lib.hid k4; have G3 := Lib.hid g3; have G4 := Lib.hid g4
  clear k3 k4 g3 g4 h1 h2 k1 g1
  have hne : ((l.length : Int) != (l.length : Int)) = false := by rw [bne_eq_false_iff_eq]
  go_enter Try.func19, Try.ntmps19
  go_wp2
  go_loopw [5, 13] (fun _ i wr => ∃ k : Nat, k ≤ l.length ∧ i = .int .i64 k ∧ Below w.heap.size w wr) (fun _ i _ => l.length - (intOf i).toNat)
  case atStart => exact ⟨0, by omega, rfl, Below.refl _ _⟩
  case round =>
    obtain ⟨k, hk, rfl, hB⟩ := hrel
    by_cases hlt : k < l.length
    · obtain ⟨rfl, _⟩ := K3.out (by omega)
      obtain ⟨rfl, _⟩ := G3.out (by omega)
      have hc1 := bkeep hB (K4.out k hlt).1
      have hc2 := bkeep hB (K4.out k hlt).2.1
      have hc3 := bkeep hB (G4.out k hlt).1
      have hc4 := bkeep hB (G4.out k hlt).2.1
      generalize l.getD k (0, 0) = x at hc1 hc2 hc3 hc4
      obtain ⟨x1, x2⟩ := x
      simp only at hc1 hc2 hc3 hc4
      clear K3 K4 G3 G4
      go_wp2
      go_quiet (fail)
      go_wp2
      go_roundw
      case rel => exact ⟨k + 1, by omega, by go_num, below_drewN hB _⟩
      case measure => simp [intOf]; omega
    · clear K3 K4 G3 G4
      go_wp2
      go_ret
      exact ⟨rfl, hB⟩

theorem opens_evts : Opens Try.prog 32 (Enc.two.sl 16) :=
  Opens.sl Try.underlying32 (by kernel_rfl) (by decide) (by kernel_rfl) (opens_two Try.underlying39 (by kernel_rfl) rfl rfl (by kernel_rfl) (by kernel_rfl) Try.underlying3 Try.underlying3)
end Go.Proofs.Ytkgpipokfoadiaa
