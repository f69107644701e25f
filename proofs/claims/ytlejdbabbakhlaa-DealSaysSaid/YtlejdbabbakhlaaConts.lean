/-
  The bound of the needs: two closures, and slices.ContainsFunc over them.
-/
import Derived.Test.YtlejdbabbakhlaaDfa
namespace Go.Proofs.Ytlejdbabbakhlaa
open Go.ChangeShapes Go.WideShapes Go.ChangeAt Go.RowKit

def Trn.bad (n : Int) : Bool := decide (n < 0) || decide (1073741824 < n)
theorem Trn.bad_no {l : List Int} (h : l.any Trn.bad = false) (x : Int) (hx : x ∈ l) : 0 ≤ x ∧ x ≤ 1073741824 := by
  have h1 := List.any_eq_false.1 h x hx
  simp only [Trn.bad, Bool.or_eq_true, decide_eq_true_eq, not_or] at h1
  omega

set_option maxRecDepth 100000 in
theorem badA_any (n : Int) (w : World) : Calls Try.prog 59 #[.int .i64 n] w fun e w' => e = .returned (.bool (Trn.bad n)) ∧ w = w' := by
  cases h : decide (n < 0)
  · go_enter Try.func59, Try.ntmps59
    go_wp2
    go_ret
    exact ⟨by simp [Trn.bad, h], rfl⟩
  · go_enter Try.func59, Try.ntmps59
    go_wp2
    go_ret
    exact ⟨by simp [Trn.bad, h], rfl⟩

set_option maxRecDepth 100000 in
theorem indexA_any (l : List Int) (v : Value) (w : World) (h : Sl w 1 (RInt .i64) v l) (hl : (l.length : Int) ≤ 100) :
    Calls Try.prog 60 #[v, .func (.func 59) #[] #[]] w fun e w' => (∃ r : Int, e = .returned (.int .i64 r) ∧ decide (0 ≤ r) = l.any Trn.bad) ∧ w = w' := by
  obtain ⟨ao, b, off, cap, rfl, _, _, n3, n4, _⟩ := slInts h
  clear h
  have N3 := Lib.hid n3; have N4 := Lib.hid n4
  clear n3 n4
  go_enter Try.func60, Try.ntmps60
  go_wp2
  go_loopw [5, 8] (fun _ i wr => ∃ k : Nat, k ≤ l.length ∧ i = .int .i64 k ∧ w = wr ∧ Hid (∀ j, j < k → Trn.bad (l.getD j 0) = false)) (fun _ i _ => l.length - (intOf i).toNat)
  case atStart => exact ⟨0, by omega, rfl, rfl, Lib.hid (fun j hj => absurd hj (by omega))⟩
  case round =>
    obtain ⟨k, hk, rfl, rfl, hq⟩ := hrel
    by_cases hlt : k < l.length
    · obtain ⟨rfl, _⟩ := N3.out (by omega)
      have hcell := N4.out k hlt
      have HX : Hid (l.getD k 0 ∈ l) := Lib.hid (by simp [List.getD, List.getElem?_eq_getElem hlt])
      obtain ⟨x, hx⟩ : ∃ x, x = l.getD k 0 := ⟨_, rfl⟩
      rw [← hx] at hcell HX
      have HXE := Lib.hid hx; clear hx
      cases hbk : Trn.bad x
      · have HBK := Lib.hid hbk; clear hbk
        go_wp2_with (go_at_call 59; refine (badA_any _ _).mono ?_; rintro e w9 ⟨rfl, rfl⟩; rw [HBK.out])
        go_roundw
        case rel =>
          refine ⟨k + 1, by omega, by go_num, by trivial, Lib.hid (fun j hj => ?_)⟩
          rcases Nat.lt_succ_iff_lt_or_eq.1 hj with hj | rfl
          · exact hq.out j hj
          · rw [← HXE.out]; exact HBK.out
        case measure => simp [intOf]; omega
      · have HBK := Lib.hid hbk; clear hbk
        go_wp2_with (go_at_call 59; refine (badA_any _ _).mono ?_; rintro e w9 ⟨rfl, rfl⟩; rw [HBK.out])
        go_ret
        exact ⟨⟨k, rfl, by rw [List.any_eq_true.2 ⟨x, HX.out, HBK.out⟩]; simp⟩, rfl⟩
    · obtain rfl : k = l.length := by omega
      go_wp2
      go_ret
      have h0 : l.any Trn.bad = false := by
        rw [List.any_eq_false]
        intro x hx
        obtain ⟨j, hj, rfl⟩ := List.getElem_of_mem hx
        have := hq.out j hj
        rw [List.getD, List.getElem?_eq_getElem hj] at this
        simpa using this
      exact ⟨⟨-1, rfl, by rw [h0]; rfl⟩, rfl⟩

set_option maxRecDepth 100000 in
theorem contA_any (l : List Int) (v : Value) (w : World) (h : Sl w 1 (RInt .i64) v l) (hl : (l.length : Int) ≤ 100) :
    Calls Try.prog 45 #[v, .func (.func 59) #[] #[]] w fun e w' => e = .returned (.bool (l.any Trn.bad)) ∧ w = w' := by
  go_enter Try.func45, Try.ntmps45
  go_wp2_with (go_at_call 60; refine (indexA_any l v _ h hl).mono ?_; rintro e w9 ⟨⟨r, rfl, hr⟩, rfl⟩)
  go_ret
  exact ⟨by rw [← hr]; simp, rfl⟩
set_option maxRecDepth 100000 in
theorem badB_any (n : Int) (w : World) : Calls Try.prog 46 #[.int .i64 n] w fun e w' => e = .returned (.bool (Trn.bad n)) ∧ w = w' := by
  cases h : decide (n < 0)
  · go_enter Try.func46, Try.ntmps46
    go_wp2
    go_ret
    exact ⟨by simp [Trn.bad, h], rfl⟩
  · go_enter Try.func46, Try.ntmps46
    go_wp2
    go_ret
    exact ⟨by simp [Trn.bad, h], rfl⟩

set_option maxRecDepth 100000 in
theorem indexB_any (l : List Int) (v : Value) (w : World) (h : Sl w 1 (RInt .i64) v l) (hl : (l.length : Int) ≤ 100) :
    Calls Try.prog 60 #[v, .func (.func 46) #[] #[]] w fun e w' => (∃ r : Int, e = .returned (.int .i64 r) ∧ decide (0 ≤ r) = l.any Trn.bad) ∧ w = w' := by
  obtain ⟨ao, b, off, cap, rfl, _, _, n3, n4, _⟩ := slInts h
  clear h
  have N3 := Lib.hid n3; have N4 := Lib.hid n4
  clear n3 n4
  go_enter Try.func60, Try.ntmps60
  go_wp2
  go_loopw [5, 8] (fun _ i wr => ∃ k : Nat, k ≤ l.length ∧ i = .int .i64 k ∧ w = wr ∧ Hid (∀ j, j < k → Trn.bad (l.getD j 0) = false)) (fun _ i _ => l.length - (intOf i).toNat)
  case atStart => exact ⟨0, by omega, rfl, rfl, Lib.hid (fun j hj => absurd hj (by omega))⟩
  case round =>
    obtain ⟨k, hk, rfl, rfl, hq⟩ := hrel
    by_cases hlt : k < l.length
    · obtain ⟨rfl, _⟩ := N3.out (by omega)
      have hcell := N4.out k hlt
      have HX : Hid (l.getD k 0 ∈ l) := Lib.hid (by simp [List.getD, List.getElem?_eq_getElem hlt])
      obtain ⟨x, hx⟩ : ∃ x, x = l.getD k 0 := ⟨_, rfl⟩
      rw [← hx] at hcell HX
      have HXE := Lib.hid hx; clear hx
      cases hbk : Trn.bad x
      · have HBK := Lib.hid hbk; clear hbk
        go_wp2_with (go_at_call 46; refine (badB_any _ _).mono ?_; rintro e w9 ⟨rfl, rfl⟩; rw [HBK.out])
        go_roundw
        case rel =>
          refine ⟨k + 1, by omega, by go_num, by trivial, Lib.hid (fun j hj => ?_)⟩
          rcases Nat.lt_succ_iff_lt_or_eq.1 hj with hj | rfl
          · exact hq.out j hj
          · rw [← HXE.out]; exact HBK.out
        case measure => simp [intOf]; omega
      · have HBK := Lib.hid hbk; clear hbk
        go_wp2_with (go_at_call 46; refine (badB_any _ _).mono ?_; rintro e w9 ⟨rfl, rfl⟩; rw [HBK.out])
        go_ret
        exact ⟨⟨k, rfl, by rw [List.any_eq_true.2 ⟨x, HX.out, HBK.out⟩]; simp⟩, rfl⟩
    · obtain rfl : k = l.length := by omega
      go_wp2
      go_ret
      have h0 : l.any Trn.bad = false := by
        rw [List.any_eq_false]
        intro x hx
        obtain ⟨j, hj, rfl⟩ := List.getElem_of_mem hx
        have := hq.out j hj
        rw [List.getD, List.getElem?_eq_getElem hj] at this
        simpa using this
      exact ⟨⟨-1, rfl, by rw [h0]; rfl⟩, rfl⟩

set_option maxRecDepth 100000 in
theorem contB_any (l : List Int) (v : Value) (w : World) (h : Sl w 1 (RInt .i64) v l) (hl : (l.length : Int) ≤ 100) :
    Calls Try.prog 45 #[v, .func (.func 46) #[] #[]] w fun e w' => e = .returned (.bool (l.any Trn.bad)) ∧ w = w' := by
  go_enter Try.func45, Try.ntmps45
  go_wp2_with (go_at_call 60; refine (indexB_any l v _ h hl).mono ?_; rintro e w9 ⟨⟨r, rfl, hr⟩, rfl⟩)
  go_ret
  exact ⟨by rw [← hr]; simp, rfl⟩
end Go.Proofs.Ytlejdbabbakhlaa
