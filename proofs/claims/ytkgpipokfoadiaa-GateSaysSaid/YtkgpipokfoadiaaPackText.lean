/-
  Text, ReadText of package pack and ReadText of the reference: what they compute.
-/
import Derived.Test.YtkgpipokfoadiaaPackNum
import Derived.Test.YtkgpipokfoadiaaReadNum
namespace Go.Proofs.Ytkgpipokfoadiaa
open Go.ChangeShapes Go.WideShapes Go.ChangeAt Go.RowKit

namespace Pack
theorem readNum_bounds (s : ByteArray) (a b c : Int) (h : readNum s = (a, b, c)) :
    0 ≤ a ∧ a < 18446744073709551616 ∧ 0 ≤ b ∧ b ≤ s.size ∧ 0 ≤ c ∧ c ≤ 4 := by
  unfold readNum at h
  by_cases h1 : lead s 10 = 10
  · rw [if_pos h1] at h; simp only [Prod.mk.injEq] at h; omega
  rw [if_neg h1] at h
  by_cases h2 : lead s 10 = s.size
  · rw [if_pos h2] at h; simp only [Prod.mk.injEq] at h; omega
  rw [if_neg h2] at h
  by_cases h3 : (bat s (lead s 10) = 0 ∧ 0 < lead s 10) ∨ (lead s 10 = 9 ∧ 1 < bat s 9)
  · rw [if_pos h3] at h; simp only [Prod.mk.injEq] at h; omega
  rw [if_neg h3] at h
  simp only [Prod.mk.injEq] at h
  obtain ⟨rfl, rfl, rfl⟩ := h
  have hl := lead_le s 10
  have hr := val_room s (lead s 10) (by omega)
  have h0 := val_nn s (lead s 10 + 1)
  omega
/-- What ReadText answers. -/
def readText (s : ByteArray) : ByteArray × Int × Int :=
  if (readNum s).2.2 ≠ 0 then (ByteArray.empty, 0, (readNum s).2.2)
  else if 4096 < (readNum s).1 then (ByteArray.empty, 0, 2)
  else if (s.size : Int) - (readNum s).2.1 < (readNum s).1 then (ByteArray.empty, 0, 3)
  else (s.extract (readNum s).2.1.toNat ((readNum s).2.1 + (readNum s).1).toNat, (readNum s).2.1 + (readNum s).1, 0)
theorem readText_err (s : ByteArray) (a b c : Int) (h : readNum s = (a, b, c)) (hc : c ≠ 0) : readText s = (ByteArray.empty, 0, c) := by
  rw [readText, h, if_pos hc]
theorem readText_large (s : ByteArray) (a b : Int) (h : readNum s = (a, b, 0)) (ha : 4096 < a) : readText s = (ByteArray.empty, 0, 2) := by
  rw [readText, h, if_neg (by simp), if_pos ha]
theorem readText_short (s : ByteArray) (a b : Int) (h : readNum s = (a, b, 0)) (ha : a ≤ 4096) (hb : (s.size : Int) - b < a) : readText s = (ByteArray.empty, 0, 3) := by
  rw [readText, h, if_neg (by simp), if_neg (by simp; omega), if_pos hb]
theorem readText_ok (s : ByteArray) (a b : Int) (h : readNum s = (a, b, 0)) (ha : a ≤ 4096) (hb : a ≤ (s.size : Int) - b) :
    readText s = (s.extract b.toNat (b + a).toNat, b + a, 0) := by
  rw [readText, h, if_neg (by simp), if_neg (by simp; omega), if_neg (by simp; omega)]
end Pack
attribute [irreducible] Pack.readText

def RetS3 (r : ByteArray × Int × Int) (w : World) (e : Ending) (w' : World) : Prop := e = .returned (.tuple #[.string r.1, .int .i64 r.2.1, .int .i64 r.2.2]) ∧ w = w'

set_option maxRecDepth 100000 in
theorem readText_any (s : ByteArray) (hs : s.size ≤ maxLen) (w : World) :
    Calls Try.prog 88 #[.string s] w (RetS3 (Pack.readText s) w) := by
  obtain ⟨a, b, c, hr⟩ : ∃ a b c, Pack.readNum s = (a, b, c) := ⟨_, _, _, rfl⟩
  unfold maxLen at hs
  obtain ⟨a0, a1, b0, b1, c0, c1⟩ := Pack.readNum_bounds s a b c hr
  have HR := Lib.hid hr; clear hr
  by_cases hc : 0 < c
  · have Hf := Lib.hid (Pack.readText_err s a b c HR.out (by omega))
    go_enter Try.func88, Try.ntmps88
    go_wp2_with (go_at_call 72; refine (readNum_any s hs _).mono ?_; rintro e w' ⟨rfl, rfl⟩; rw [HR.out])
    go_ret3
    exact ⟨by rw [Hf.out]; rfl, rfl⟩
  · obtain rfl : c = 0 := by omega
    by_cases ha : 4096 < a
    · have Hf := Lib.hid (Pack.readText_large s a b HR.out ha)
      go_enter Try.func88, Try.ntmps88
      go_wp2_with (go_at_call 72; refine (readNum_any s hs _).mono ?_; rintro e w' ⟨rfl, rfl⟩; rw [HR.out])
      go_ret3
      exact ⟨by rw [Hf.out]; rfl, rfl⟩
    · by_cases hb : (s.size : Int) - b < a
      · have Hf := Lib.hid (Pack.readText_short s a b HR.out (by omega) hb)
        go_enter Try.func88, Try.ntmps88
        go_wp2_with (go_at_call 72; refine (readNum_any s hs _).mono ?_; rintro e w' ⟨rfl, rfl⟩; rw [HR.out])
        go_ret3
        exact ⟨by rw [Hf.out]; rfl, rfl⟩
      · have Hf := Lib.hid (Pack.readText_ok s a b HR.out (by omega) (by omega))
        go_enter Try.func88, Try.ntmps88
        go_wp2_with (go_at_call 72; refine (readNum_any s hs _).mono ?_; rintro e w' ⟨rfl, rfl⟩; rw [HR.out])
        go_ret3
        exact ⟨by rw [Hf.out]; rfl, rfl⟩

set_option maxRecDepth 100000 in
theorem rreadText_any (s : ByteArray) (hs : s.size ≤ maxLen) (w : World) :
    Calls Try.prog 89 #[.string s] w (RetS3 (Pack.readText s) w) := by
  obtain ⟨a, b, c, hr⟩ : ∃ a b c, Pack.readNum s = (a, b, c) := ⟨_, _, _, rfl⟩
  unfold maxLen at hs
  obtain ⟨a0, a1, b0, b1, c0, c1⟩ := Pack.readNum_bounds s a b c hr
  have HR := Lib.hid hr; clear hr
  by_cases hc : 0 < c
  · have Hf := Lib.hid (Pack.readText_err s a b c HR.out (by omega))
    go_enter Try.func89, Try.ntmps89
    go_wp2_with (go_at_call 73; refine (rreadNum_any s hs _).mono ?_; rintro e w' ⟨rfl, rfl⟩; rw [HR.out])
    go_ret3
    exact ⟨by rw [Hf.out]; rfl, rfl⟩
  · obtain rfl : c = 0 := by omega
    by_cases ha : 4096 < a
    · have Hf := Lib.hid (Pack.readText_large s a b HR.out ha)
      go_enter Try.func89, Try.ntmps89
      go_wp2_with (go_at_call 73; refine (rreadNum_any s hs _).mono ?_; rintro e w' ⟨rfl, rfl⟩; rw [HR.out])
      go_ret3
      exact ⟨by rw [Hf.out]; rfl, rfl⟩
    · by_cases hb : (s.size : Int) - b < a
      · have Hf := Lib.hid (Pack.readText_short s a b HR.out (by omega) hb)
        go_enter Try.func89, Try.ntmps89
        go_wp2_with (go_at_call 73; refine (rreadNum_any s hs _).mono ?_; rintro e w' ⟨rfl, rfl⟩; rw [HR.out])
        go_ret3
        exact ⟨by rw [Hf.out]; rfl, rfl⟩
      · have Hf := Lib.hid (Pack.readText_ok s a b HR.out (by omega) (by omega))
        go_enter Try.func89, Try.ntmps89
        go_wp2_with (go_at_call 73; refine (rreadNum_any s hs _).mono ?_; rintro e w' ⟨rfl, rfl⟩; rw [HR.out])
        go_ret3
        exact ⟨by rw [Hf.out]; rfl, rfl⟩

theorem text_large (s : ByteArray) (hs : s.size ≤ maxLen) (hl : 4096 < s.size) (w : World) :
    Calls Try.prog 87 #[.string s] w fun e w' => e = .returned (.tuple #[.string ByteArray.empty, .int .i64 2]) ∧ w = w' := by
  unfold maxLen at hs
  go_enter Try.func87, Try.ntmps87
  go_wp2
  go_ret2
  exact ⟨rfl, rfl⟩

theorem text_small (s : ByteArray) (hl : s.size ≤ 4096) (w : World) :
    Calls Try.prog 87 #[.string s] w fun e w' => e = .returned (.tuple #[.string (strOfNums (Pack.num s.size) ++ s), .int .i64 0]) ∧ Below w.heap.size w w' := by
  have hln := Pack.numF_len 10 s.size
  have hadd := fun W => run_string_add_sum (P := Try.prog) W (strOfNums (Pack.num s.size)) s (by rw [strOfNums_size]; unfold Pack.num; omega)
  clear hln
  go_enter Try.func87, Try.ntmps87
  go_wp2_with (go_at_call 70; refine (num_any _ (by omega) (by omega) _).mono ?_; rintro e w1 ⟨rfl, hb1⟩)
  go_ret2
  exact ⟨rfl, hb1⟩
end Go.Proofs.Ytkgpipokfoadiaa
