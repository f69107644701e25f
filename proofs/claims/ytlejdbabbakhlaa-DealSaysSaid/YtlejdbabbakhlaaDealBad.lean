/-
  Deal where it refuses.
-/
import Derived.Test.YtlejdbabbakhlaaConts
namespace Go.Proofs.Ytlejdbabbakhlaa
open Go.ChangeShapes Go.WideShapes Go.ChangeAt Go.RowKit

set_option maxRecDepth 100000 in
set_option maxHeartbeats 8000000 in
theorem deal_large (last sl bud : Int) (l : List Int) (v : Value) (w : World) (h : Sl w 1 (RInt .i64) v l) (hb : (100 < (l.length : Int)) ∨ 10000 < bud) :
    Calls Try.prog 44 #[.int .i64 last, v, .int .i64 sl, .int .i64 bud] w fun e w' => e = .returned (.tuple #[.slice none 0 0, .int .i64 0, .int .i64 2]) ∧ w = w' := by
  obtain ⟨ao, b, off, cap, rfl, _⟩ := slInts h
  cases h1 : decide ((100 : Int) < l.length)
  · have h2 : decide (10000 < bud) = true := by
      rw [decide_eq_true_iff]; rw [decide_eq_false_iff_not] at h1; omega
    clear h hb
    go_enter Try.func44, Try.ntmps44
    go_wp2
    exact bodyPost_ret (v := .tuple #[.slice none 0 0, .int .i64 0, .int .i64 2]) (by simp [results, Try.results44, go_sem]) rfl ⟨rfl, rfl⟩
  · clear h hb
    go_enter Try.func44, Try.ntmps44
    go_wp2
    exact bodyPost_ret (v := .tuple #[.slice none 0 0, .int .i64 0, .int .i64 2]) (by simp [results, Try.results44, go_sem]) rfl ⟨rfl, rfl⟩

set_option maxRecDepth 100000 in
set_option maxHeartbeats 8000000 in
theorem deal_arg (last sl bud : Int) (l : List Int) (v : Value) (w : World) (h : Sl w 1 (RInt .i64) v l) (hl : (l.length : Int) ≤ 100) (hb : bud ≤ 10000) (hx : l.any Trn.bad = true ∨ sl < 1 ∨ bud < 0) :
    Calls Try.prog 44 #[.int .i64 last, v, .int .i64 sl, .int .i64 bud] w fun e w' => e = .returned (.tuple #[.slice none 0 0, .int .i64 0, .int .i64 1]) ∧ w = w' := by
  have H := Lib.hid h
  obtain ⟨ao, b, off, cap, rfl, _⟩ := slInts h
  have h1 : decide ((100 : Int) < l.length) = false := by rw [decide_eq_false_iff_not]; omega
  have h2 : decide (10000 < bud) = false := by rw [decide_eq_false_iff_not]; omega
  have HX := Lib.hid hx
  clear h hx
  cases ha : l.any Trn.bad
  · cases h3 : decide (sl < 1)
    · have h4 : decide (bud < 0) = true := by
        rw [decide_eq_true_iff]; rw [decide_eq_false_iff_not] at h3
        have := HX.out
        rw [ha] at this
        simp only [Bool.false_eq_true, false_or] at this
        omega
      have HA := Lib.hid ha; clear ha
      go_enter Try.func44, Try.ntmps44
      go_wp2_with (go_at_call 45; refine (contA_any l _ _ H.out hl).mono ?_; rintro e w9 ⟨rfl, rfl⟩; rw [HA.out])
      exact bodyPost_ret (v := .tuple #[.slice none 0 0, .int .i64 0, .int .i64 1]) (by simp [results, Try.results44, go_sem]) rfl ⟨rfl, rfl⟩
    · have HA := Lib.hid ha; clear ha
      go_enter Try.func44, Try.ntmps44
      go_wp2_with (go_at_call 45; refine (contA_any l _ _ H.out hl).mono ?_; rintro e w9 ⟨rfl, rfl⟩; rw [HA.out])
      exact bodyPost_ret (v := .tuple #[.slice none 0 0, .int .i64 0, .int .i64 1]) (by simp [results, Try.results44, go_sem]) rfl ⟨rfl, rfl⟩
  · have HA := Lib.hid ha; clear ha
    go_enter Try.func44, Try.ntmps44
    go_wp2_with (go_at_call 45; refine (contA_any l _ _ H.out hl).mono ?_; rintro e w9 ⟨rfl, rfl⟩; rw [HA.out])
    exact bodyPost_ret (v := .tuple #[.slice none 0 0, .int .i64 0, .int .i64 1]) (by simp [results, Try.results44, go_sem]) rfl ⟨rfl, rfl⟩
end Go.Proofs.Ytlejdbabbakhlaa
