/-
  The states of a stack within a table: the closure of build.check, slices.ContainsFunc over it.
-/
import Derived.Test.YtldapomcjfkeeaaLlChk
import Derived.Test.YtldapomcjfkeeaaLrChk
namespace Go.Proofs.Ytldapomcjfkeeaa
set_option linter.unusedVariables false
open Go.ChangeShapes Go.WideShapes Go.ChangeAt Go.RowKit

namespace Bd
/-- A state that is none of the m. -/
def out (m : Nat) (x : Int) : Bool := decide (x < 0) || decide ((m : Int) ≤ x)
theorem out_yes {m : Nat} {x : Int} (h : x < 0 ∨ (m : Int) ≤ x) : out m x = true := by
  rcases h with h | h <;> simp [out, h]
theorem out_no {m : Nat} {x : Int} (h : 0 ≤ x ∧ x < m) : out m x = false := by
  simp only [out, Bool.or_eq_false_iff, decide_eq_false_iff_not]; omega
theorem out_iff {m : Nat} {x : Int} : out m x = false ↔ 0 ≤ x ∧ x < m := by
  simp only [out, Bool.or_eq_false_iff, decide_eq_false_iff_not]; omega
end Bd
attribute [irreducible] Bd.out

set_option maxRecDepth 100000 in
theorem bdOut_any (m : Nat) (aoa : Option Addr) (ca : Nat) (vg : Value) (T : Nat) (x : Int) (w : World) (hT : TbBox w T (.slice aoa m ca) vg) :
    Calls Try.prog 153 #[.int .i64 x, .pointer (some ⟨T, 0, none⟩)] w fun e w' => e = .returned (.bool (Bd.out m x)) ∧ Below w.heap.size w w' := by
  have hlt := hT.lt
  obtain ⟨g0, g1⟩ := hT
  by_cases h0 : x < 0
  · have HE := Lib.hid (Bd.out_yes (m := m) (.inl h0))
    go_enter Try.func153, Try.ntmps153
    go_wp2
    go_ret
    exact ⟨by rw [HE.out]; rfl, Below.refl _ _⟩
  by_cases h1 : (m : Int) ≤ x
  · have HE := Lib.hid (Bd.out_yes (m := m) (.inr h1))
    go_enter Try.func153, Try.ntmps153
    go_wp2
    go_ret
    exact ⟨by rw [HE.out]; rfl, Below.refl _ _⟩
  have HE := Lib.hid (Bd.out_no (m := m) (x := x) (by omega))
  go_enter Try.func153, Try.ntmps153
  go_wp2
  go_ret
  exact ⟨by rw [HE.out]; rfl, Below.refl _ _⟩

set_option maxRecDepth 100000 in
theorem bdIndex_any (m : Nat) (aoa : Option Addr) (ca : Nat) (vg : Value) (T : Nat) (l : List Int) (v : Value) (w : World) (F : Nat → Prop) (h : ((Enc.int .i64).sl 8).R F w [v] l) (hT : TbBox w T (.slice aoa m ca) vg) :
    Calls Try.prog 164 #[v, .func (.func 153) #[] #[.pointer (some ⟨T, 0, none⟩)]] w fun e w' => (∃ r : Int, e = .returned (.int .i64 r) ∧ decide (0 ≤ r) = l.any (Bd.out m)) ∧ Below w.heap.size w w' := by
  obtain ⟨ao, b, off, cap, rfl, hl, n3, n4⟩ := Enc.sl1 (En := Enc.int .i64) (Value.int .i64) (fun _ _ _ h => h.1) rfl 0 h
  clear h
  have hl2 : (l.length : Int) ≤ 140737488355328 := by omega
  have N3 := Lib.hid n3; have N4 := Lib.hid n4; have HT := Lib.hid hT
  have hTl := hT.lt
  clear n3 n4 hl hT
  go_enter Try.func164, Try.ntmps164
  go_wp2
  go_loopw [5, 8] (fun _ i wr => ∃ k : Nat, k ≤ l.length ∧ i = .int .i64 k ∧ Below w.heap.size w wr ∧ Hid (∀ j, j < k → Bd.out m (l.getD j 0) = false)) (fun _ i _ => l.length - (intOf i).toNat)
  case atStart => exact ⟨0, by omega, rfl, Below.refl _ _, Lib.hid (fun j hj => absurd hj (by omega))⟩
  case round =>
    obtain ⟨k, hk, rfl, hB, hq⟩ := hrel
    by_cases hlt : k < l.length
    · obtain ⟨rfl, _, _⟩ := N3.out (by omega)
      have hc1 := bkeep hB (N4.out k hlt).1
      obtain ⟨x, hx⟩ : ∃ x, x = l.getD k 0 := ⟨_, rfl⟩
      rw [← hx] at hc1
      have HXE := Lib.hid hx; clear hx
      have HGH := Lib.hid (HT.out.below hB hTl)
      cases hbk : Bd.out m x
      · have HBK := Lib.hid hbk; clear hbk
        go_wp2_with (go_at_call 153; refine (bdOut_any m aoa ca vg T x _ HGH.out).mono ?_; rintro e w9 ⟨rfl, hb9⟩; rw [HBK.out])
        go_roundw
        case rel =>
          refine ⟨k + 1, by omega, by go_num, hB.trans (hb9.mono hB.size), Lib.hid (fun j hj => ?_)⟩
          rcases Nat.lt_succ_iff_lt_or_eq.1 hj with hj | rfl
          · exact hq.out j hj
          · rw [← HXE.out, HBK.out]
        case measure => simp [intOf]; omega
      · have HBK := Lib.hid hbk; clear hbk
        go_wp2_with (go_at_call 153; refine (bdOut_any m aoa ca vg T x _ HGH.out).mono ?_; rintro e w9 ⟨rfl, hb9⟩; rw [HBK.out])
        go_ret
        exact ⟨⟨k, rfl, by rw [any_some' (d := 0) hlt (by rw [← HXE.out, HBK.out])]; simp⟩, hB.trans (hb9.mono hB.size)⟩
    · obtain rfl : k = l.length := by omega
      go_wp2
      go_ret
      exact ⟨⟨-1, rfl, by rw [any_none' (d := 0) hq.out]; rfl⟩, hB⟩

set_option maxRecDepth 100000 in
theorem bdIn_any (m : Nat) (aoa : Option Addr) (ca : Nat) (vg : Value) (T : Nat) (l : List Int) (v : Value) (w : World) (F : Nat → Prop) (h : ((Enc.int .i64).sl 8).R F w [v] l) (hT : TbBox w T (.slice aoa m ca) vg) :
    Calls Try.prog 152 #[v, .func (.func 153) #[] #[.pointer (some ⟨T, 0, none⟩)]] w fun e w' => e = .returned (.bool (l.any (Bd.out m))) ∧ Below w.heap.size w w' := by
  go_enter Try.func152, Try.ntmps152
  go_wp2_with (go_at_call 164; refine (bdIndex_any m aoa ca vg T l v _ F h hT).mono ?_; rintro e w9 ⟨⟨r, rfl, hr⟩, hb9⟩)
  go_ret
  exact ⟨by rw [← hr]; simp, hb9⟩
end Go.Proofs.Ytldapomcjfkeeaa
