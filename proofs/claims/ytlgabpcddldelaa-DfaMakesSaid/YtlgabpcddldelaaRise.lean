/-
  rises of package places, rising of the reference: does a list of places rise, and stay below n?
-/
import Derived.Test.YtlgabpcddldelaaHas
namespace Go.Proofs.Ytlgabpcddldelaa
set_option linter.unusedVariables false
open Go.ChangeShapes Go.WideShapes Go.ChangeAt Go.RowKit

namespace Pl
def rise (n : Int) : Int → List Int → Bool
  | _, [] => true
  | p, x :: r => decide (p < x ∧ x < n) && rise n x r
theorem rise_at {n p : Int} {l : List Int} {k : Nat} (h : k < l.length) : rise n p (l.drop k) = (decide (p < l.getD k 0 ∧ l.getD k 0 < n) && rise n (l.getD k 0) (l.drop (k + 1))) := by
  rw [List.drop_eq_getElem_cons h, rise]
  simp [List.getD, List.getElem?_eq_getElem h]
theorem rise_no {n p : Int} {l : List Int} {k : Nat} (h : k < l.length) (h2 : ¬ (p < l.getD k 0 ∧ l.getD k 0 < n)) : rise n p (l.drop k) = false := by
  rw [rise_at h, decide_eq_false h2]; rfl
theorem rise_yes {n p : Int} {l : List Int} {k : Nat} (h : k < l.length) (h2 : p < l.getD k 0 ∧ l.getD k 0 < n) : rise n p (l.drop k) = rise n (l.getD k 0) (l.drop (k + 1)) := by
  rw [rise_at h, decide_eq_true h2]; rfl
theorem rise_end {n p : Int} {l : List Int} : rise n p (l.drop l.length) = true := by rw [List.drop_length]; rfl
theorem rise_mem {n : Int} {l : List Int} : ∀ {p : Int}, rise n p l = true → ∀ x ∈ l, p < x ∧ x < n := by
  induction l with
  | nil => intro p _ x hx; cases hx
  | cons y r ih =>
    intro p h x hx
    rw [rise, Bool.and_eq_true, decide_eq_true_iff] at h
    rcases List.mem_cons.1 hx with rfl | hx
    · exact h.1
    · have := ih h.2 x hx; omega
end Pl
attribute [irreducible] Pl.rise
/-- A slice of numbers: its cells. -/
theorem slInt {bytes : Nat} {F : Nat → Prop} {w : World} {v : Value} {l : List Int} (h : ((Enc.int .i64).sl bytes).R F w [v] l) :
    ∃ (ao : Option Addr) (b off cap : Nat), v = .slice ao l.length cap ∧ (l.length : Int) * bytes ≤ 140737488355328 ∧ (0 < l.length → ao = some ⟨b, off, none⟩ ∧ b < w.heap.size ∧ F b) ∧ ∀ i, i < l.length → w.cell? ⟨b, off + i, none⟩ = some (.int .i64 (l.getD i 0)) ∧ (-9223372036854775808 ≤ l.getD i 0 ∧ l.getD i 0 ≤ 9223372036854775807) := by
  obtain ⟨ao, b, off, cap, h0, h1, h2, h3⟩ := Enc.sl1 (En := Enc.int .i64) (Value.int .i64) (fun _ _ _ h => h.1) rfl 0 h
  exact ⟨ao, b, off, cap, h0, h1, h2, fun i hi => ⟨(h3 i hi).1, wf64 (h3 i hi).2.2⟩⟩

set_option maxRecDepth 100000 in
set_option maxHeartbeats 2000000 in
theorem rises_any (n : Int) (l : List Int) (v : Value) (w : World) (F : Nat → Prop) (h : ((Enc.int .i64).sl 8).R F w [v] l) :
    Calls Try.prog 92 #[v, .int .i64 n] w fun e w' => e = .returned (.bool (Pl.rise n (-1) l)) ∧ w' = w := by
  obtain ⟨ao, b, off, cap, rfl, hl, n3, n4⟩ := slInt h
  have N3 := Lib.hid n3; have N4 := Lib.hid n4
  have hll : (l.length : Int) ≤ 140737488355328 := by omega
  clear h n3 n4 hl
  obtain ⟨R, hR⟩ : ∃ R, Pl.rise n (-1) l = R := ⟨_, rfl⟩
  rw [hR]
  have HR : Hid (Pl.rise n (-1) (l.drop 0) = R) := Lib.hid hR
  clear hR
  go_enter Try.func92, Try.ntmps92
  go_wp2
  go_loopw [5, 6, 9] (fun _ _ i wr => ∃ (k : Nat) (p : Int), k ≤ l.length ∧ i = .int .i64 k ∧ wr = w ∧ ((k = 0 ∧ p = -1) ∨ (0 < k ∧ p = l.getD (k - 1) 0 ∧ 0 ≤ p)) ∧ Hid (Pl.rise n p (l.drop k) = R)) (fun _ _ i _ => l.length - (intOf i).toNat)
  case atStart => exact ⟨0, -1, by omega, rfl, rfl, .inl ⟨rfl, rfl⟩, HR⟩
  case round =>
    clear HR
    obtain ⟨k, p, hk, rfl, rfl, hp, HR⟩ := hrel
    by_cases hlt : k < l.length
    · obtain ⟨rfl, _, _⟩ := N3.out (by omega)
      have hc1 := (N4.out k hlt).1
      have hlt2 : (k : Int) < l.length := by omega
      by_cases hx0 : l.getD k 0 < 0
      · have hE := HR.out
        rw [Pl.rise_no hlt (by rcases hp with ⟨_, h⟩ | ⟨_, _, h⟩ <;> omega)] at hE
        subst hE
        generalize l.getD k 0 = x at *
        clear HR hp
        go_wp2
        go_ret
        exact ⟨rfl, rfl⟩
      by_cases hxn : n ≤ l.getD k 0
      · have hE := HR.out
        rw [Pl.rise_no hlt (by omega)] at hE
        subst hE
        have hx0' : 0 ≤ l.getD k 0 := by omega
        generalize l.getD k 0 = x at *
        clear HR hp hx0
        go_wp2
        go_ret
        exact ⟨rfl, rfl⟩
      have hx0' : 0 ≤ l.getD k 0 := by omega
      have hxn' : l.getD k 0 < n := by omega
      rcases hp with ⟨rfl, rfl⟩ | ⟨h0, hpe, hp0⟩
      · have hE := HR.out
        rw [Pl.rise_yes hlt (by omega)] at hE
        have HE := Lib.hid hE
        rw [Nat.add_zero] at hc1
        clear HR hx0 hxn hE
        generalize hxx : l.getD 0 0 = x at *
        have HXX := Lib.hid hxx
        clear hxx
        go_wp2
        go_roundw
        case rel => exact ⟨1, x, by omega, rfl, trivial, .inr ⟨by omega, HXX.out.symm, hx0'⟩, HE⟩
        case measure => simp [intOf]; omega
      · have hc0 := (N4.out (k - 1) (by omega)).1
        rw [← hpe] at hc0
        obtain ⟨j, rfl⟩ : ∃ j, k = j + 1 := ⟨k - 1, by omega⟩
        rw [Nat.add_sub_cancel] at hpe hc0
        by_cases hle : l.getD (j + 1) 0 ≤ p
        · have hE := HR.out
          rw [Pl.rise_no hlt (by omega)] at hE
          subst hE
          generalize l.getD (j + 1) 0 = x at *
          clear HR hpe hx0 hxn
          go_wp2
          go_ret
          exact ⟨rfl, rfl⟩
        · have hE := HR.out
          rw [Pl.rise_yes hlt (by omega)] at hE
          have HE := Lib.hid hE
          have hle' : p < l.getD (j + 1) 0 := by omega
          clear HR hx0 hxn hE hle hpe
          obtain ⟨x, hxx⟩ : ∃ x, l.getD (j + 1) 0 = x := ⟨_, rfl⟩
          rw [hxx] at hc1 hx0' hxn' hle' HE
          have HXX := Lib.hid hxx
          clear hxx
          go_wp2
          go_roundw
          case rel => exact ⟨j + 1 + 1, x, by omega, by go_num, trivial, .inr ⟨by omega, HXX.out.symm, hx0'⟩, HE⟩
          case measure => simp [intOf]; omega
    · obtain rfl : k = l.length := by omega
      have hE := HR.out
      rw [Pl.rise_end] at hE
      subst hE
      clear HR hp
      go_wp2
      go_ret
      exact ⟨rfl, rfl⟩

set_option maxRecDepth 100000 in
set_option maxHeartbeats 2000000 in
theorem rising_any (n : Int) (l : List Int) (v : Value) (w : World) (F : Nat → Prop) (h : ((Enc.int .i64).sl 8).R F w [v] l) :
    Calls Try.prog 40 #[v, .int .i64 n] w fun e w' => e = .returned (.bool (Pl.rise n (-1) l)) ∧ w' = w := by
  obtain ⟨ao, b, off, cap, rfl, hl, n3, n4⟩ := slInt h
  have N3 := Lib.hid n3; have N4 := Lib.hid n4
  have hll : (l.length : Int) ≤ 140737488355328 := by omega
  clear h n3 n4 hl
  obtain ⟨R, hR⟩ : ∃ R, Pl.rise n (-1) l = R := ⟨_, rfl⟩
  rw [hR]
  have HR : Hid (Pl.rise n (-1) (l.drop 0) = R) := Lib.hid hR
  clear hR
  go_enter Try.func40, Try.ntmps40
  go_wp2
  go_loopw [5, 6] (fun pv i wr => ∃ (k : Nat) (p : Int), k ≤ l.length ∧ i = .int .i64 k ∧ pv = .int .i64 p ∧ wr = w ∧ Hid (Pl.rise n p (l.drop k) = R)) (fun _ i _ => l.length - (intOf i).toNat)
  case atStart => exact ⟨0, -1, by omega, rfl, rfl, rfl, HR⟩
  case round =>
    clear HR
    obtain ⟨k, p, hk, rfl, rfl, rfl, HR⟩ := hrel
    by_cases hlt : k < l.length
    · obtain ⟨rfl, _, _⟩ := N3.out (by omega)
      have hc1 := (N4.out k hlt).1
      have hlt2 : (k : Int) < l.length := by omega
      by_cases hx0 : l.getD k 0 ≤ p
      · have hE := HR.out
        rw [Pl.rise_no hlt (by omega)] at hE
        subst hE
        generalize l.getD k 0 = x at *
        clear HR
        go_wp2
        go_ret
        exact ⟨rfl, rfl⟩
      by_cases hxn : n ≤ l.getD k 0
      · have hE := HR.out
        rw [Pl.rise_no hlt (by omega)] at hE
        subst hE
        have hx0' : p < l.getD k 0 := by omega
        generalize l.getD k 0 = x at *
        clear HR hx0
        go_wp2
        go_ret
        exact ⟨rfl, rfl⟩
      have hx0' : p < l.getD k 0 := by omega
      have hxn' : l.getD k 0 < n := by omega
      have hE := HR.out
      rw [Pl.rise_yes hlt (by omega)] at hE
      have HE := Lib.hid hE
      clear HR hx0 hxn hE
      generalize l.getD k 0 = x at *
      go_wp2
      go_roundw
      case rel => exact ⟨k + 1, x, by omega, by go_num, rfl, trivial, HE⟩
      case measure => simp [intOf]; omega
    · obtain rfl : k = l.length := by omega
      have hE := HR.out
      rw [Pl.rise_end] at hE
      subst hE
      clear HR
      go_wp2
      go_ret
      exact ⟨rfl, rfl⟩
end Go.Proofs.Ytlgabpcddldelaa
