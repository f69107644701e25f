/-
  check and cut of package feed, RightHeld of the reference: what they compute.
-/
import Derived.Test.YtkgpipokfoadiaaLexLex
import Derived.Test.YtkgpipokfoadiaaPackedRef
import Derived.Test.YtkgpipokfoadiaaSepAt
import Derived.BigRegion
namespace Go.Proofs.Ytkgpipokfoadiaa
set_option linter.unusedVariables false
open Go.ChangeShapes Go.WideShapes Go.ChangeAt Go.RowKit

namespace Fd
noncomputable def err (of : List Int) (next : List (List Int)) (tags : List Int) (at_ : Int) (n : Nat) (over : Int) : Int :=
  if Pkd.err of next tags = 0 then (if at_ < 0 ∨ 1099511627776 < at_ ∨ 64 < n then 1 else if over ≠ 0 then 15 else 0) else Pkd.err of next tags
section
variable {of : List Int} {next : List (List Int)} {tags : List Int} {at_ : Int} {n : Nat} {over : Int}
theorem err_bad (h : Pkd.err of next tags ≠ 0) : err of next tags at_ n over = Pkd.err of next tags := by rw [err, if_neg h]
theorem err_arg (h : Pkd.err of next tags = 0) (h1 : at_ < 0 ∨ 1099511627776 < at_ ∨ 64 < n) : err of next tags at_ n over = 1 := by rw [err, if_pos h, if_pos h1]
theorem err_over (h : Pkd.err of next tags = 0) (h1 : ¬ (at_ < 0 ∨ 1099511627776 < at_ ∨ 64 < n)) (h2 : over ≠ 0) : err of next tags at_ n over = 15 := by rw [err, if_pos h, if_neg h1, if_pos h2]
theorem err_ok (h : Pkd.err of next tags = 0) (h1 : ¬ (at_ < 0 ∨ 1099511627776 < at_ ∨ 64 < n)) (h2 : over = 0) : err of next tags at_ n over = 0 := by rw [err, if_pos h, if_neg h1, if_neg (by simp [h2])]
theorem err_zero (h : err of next tags at_ n over = 0) : next.length ≤ 200 ∧ Pkd.Good of next tags ∧ 0 ≤ at_ ∧ at_ ≤ 1099511627776 ∧ n ≤ 64 ∧ over = 0 := by
  unfold err at h
  rcases Pkd.err_cases of next tags with h1 | ⟨h1, h2, h3⟩
  · rw [if_neg (by omega)] at h; omega
  · rw [if_pos h1] at h
    by_cases h4 : at_ < 0 ∨ 1099511627776 < at_ ∨ 64 < n
    · rw [if_pos h4] at h; omega
    · rw [if_neg h4] at h
      by_cases h5 : over = 0
      · exact ⟨h2, h3, by omega, by omega, by omega, h5⟩
      · rw [if_pos h5] at h; omega
end
end Fd
attribute [irreducible] Fd.err

set_option maxRecDepth 100000 in
set_option maxHeartbeats 4000000 in
theorem feedCheck_any (A : Array Value) (of : List Int) (next : List (List Int)) (tags : List Int) (vn vt : Value) (at_ : Int) (buf : ByteArray) (over : Int) (w : World) (hp : PackedAt w A of next tags vn vt) :
    Calls Try.prog 99 #[.agg A, .agg #[.int .i64 at_, .string buf, .int .i64 over]] w fun e w' => e = .returned (.int .i64 (Fd.err of next tags at_ buf.size over)) ∧ Below w.heap.size w w' := by
  have hsz : (Try.prog.info? 55).map (·.size) = some A.size := by rw [hp.size]; kernel_rfl
  have HS := Lib.hid hsz; clear hsz
  have hst := ((St.init w).alloc A 55).alloc #[.int .i64 at_, .string buf, .int .i64 over] 105
  simp only [World.size_alloc] at hst
  have HP := Lib.hid hp; clear hp
  have HA := Lib.hid hst.get2.celHeap
  have HST := Lib.hid hst; clear hst
  have hck := fun w' h => smallCheck_any A of next tags vn vt w' h
  by_cases he : Pkd.err of next tags = 0
  case neg =>
    have HE := Lib.hid (Fd.err_bad (at_ := at_) (n := buf.size) (over := over) he)
    generalize Pkd.err of next tags = E at *
    have hne : (E != 0) = true := by rw [bne_iff_ne]; exact he
    have HCK := Lib.hid hck
    clear he hck
    go_enter Try.func99, Try.ntmps99
    go_wp2_with (first
      | (refine wpList_load_row rfl 55 (.tmp 2) rfl w.heap.size rfl 55 A (0, 0) _ HA.out Try.underlying55 rfl HS.out ?_)
      | fail)
    go_at_call 115
    refine (HCK.out _ (HP.out.below HST.out.bel)).mono ?_
    rintro e w1 ⟨rfl, hb1⟩
    have hst := HST.out.call hb1
    obtain ⟨x0, x1, x2, _, _, _⟩ := hst.cel3
    go_wp2
    go_ret
    exact ⟨by rw [HE.out]; rfl, hst.bel⟩
  have HP0 := Lib.hid he
  rw [he] at hck
  have HCK := Lib.hid hck
  clear he hck
  by_cases h1 : at_ < 0
  · have HE := Lib.hid (Fd.err_arg (at_ := at_) (n := buf.size) (over := over) HP0.out (.inl h1))
    go_enter Try.func99, Try.ntmps99
    go_wp2_with (first
      | (refine wpList_load_row rfl 55 (.tmp 2) rfl w.heap.size rfl 55 A (0, 0) _ HA.out Try.underlying55 rfl HS.out ?_)
      | fail)
    go_at_call 115
    refine (HCK.out _ (HP.out.below HST.out.bel)).mono ?_
    rintro e w1 ⟨rfl, hb1⟩
    have hst := HST.out.call hb1
    obtain ⟨x0, x1, x2, _, _, _⟩ := hst.cel3
    go_wp2
    go_ret
    exact ⟨by rw [HE.out]; rfl, hst.bel⟩
  by_cases h2 : 1099511627776 < at_
  · have HE := Lib.hid (Fd.err_arg (at_ := at_) (n := buf.size) (over := over) HP0.out (.inr (.inl h2)))
    go_enter Try.func99, Try.ntmps99
    go_wp2_with (first
      | (refine wpList_load_row rfl 55 (.tmp 2) rfl w.heap.size rfl 55 A (0, 0) _ HA.out Try.underlying55 rfl HS.out ?_)
      | fail)
    go_at_call 115
    refine (HCK.out _ (HP.out.below HST.out.bel)).mono ?_
    rintro e w1 ⟨rfl, hb1⟩
    have hst := HST.out.call hb1
    obtain ⟨x0, x1, x2, _, _, _⟩ := hst.cel3
    go_wp2
    go_ret
    exact ⟨by rw [HE.out]; rfl, hst.bel⟩
  by_cases h3 : 64 < buf.size
  · have HE := Lib.hid (Fd.err_arg (at_ := at_) (n := buf.size) (over := over) HP0.out (.inr (.inr h3)))
    go_enter Try.func99, Try.ntmps99
    go_wp2_with (first
      | (refine wpList_load_row rfl 55 (.tmp 2) rfl w.heap.size rfl 55 A (0, 0) _ HA.out Try.underlying55 rfl HS.out ?_)
      | fail)
    go_at_call 115
    refine (HCK.out _ (HP.out.below HST.out.bel)).mono ?_
    rintro e w1 ⟨rfl, hb1⟩
    have hst := HST.out.call hb1
    obtain ⟨x0, x1, x2, _, _, _⟩ := hst.cel3
    go_wp2
    go_ret
    exact ⟨by rw [HE.out]; rfl, hst.bel⟩
  by_cases h4 : over = 0
  · have HE := Lib.hid (Fd.err_ok (at_ := at_) (n := buf.size) (over := over) HP0.out (by omega) h4)
    subst h4
    go_enter Try.func99, Try.ntmps99
    go_wp2_with (first
      | (refine wpList_load_row rfl 55 (.tmp 2) rfl w.heap.size rfl 55 A (0, 0) _ HA.out Try.underlying55 rfl HS.out ?_)
      | fail)
    go_at_call 115
    refine (HCK.out _ (HP.out.below HST.out.bel)).mono ?_
    rintro e w1 ⟨rfl, hb1⟩
    have hst := HST.out.call hb1
    obtain ⟨x0, x1, x2, _, _, _⟩ := hst.cel3
    go_wp2
    go_ret
    exact ⟨by rw [HE.out]; rfl, hst.bel⟩
  · have HE := Lib.hid (Fd.err_over (at_ := at_) (n := buf.size) (over := over) HP0.out (by omega) h4)
    have hne : (over != 0) = true := by rw [bne_iff_ne]; exact h4
    clear h4
    go_enter Try.func99, Try.ntmps99
    go_wp2_with (first
      | (refine wpList_load_row rfl 55 (.tmp 2) rfl w.heap.size rfl 55 A (0, 0) _ HA.out Try.underlying55 rfl HS.out ?_)
      | fail)
    go_at_call 115
    refine (HCK.out _ (HP.out.below HST.out.bel)).mono ?_
    rintro e w1 ⟨rfl, hb1⟩
    have hst := HST.out.call hb1
    obtain ⟨x0, x1, x2, _, _, _⟩ := hst.cel3
    go_wp2
    go_ret
    exact ⟨by rw [HE.out]; rfl, hst.bel⟩

set_option maxRecDepth 100000 in
set_option maxHeartbeats 4000000 in
theorem rheld_any (A : Array Value) (of : List Int) (next : List (List Int)) (tags : List Int) (vn vt : Value) (at_ : Int) (buf : ByteArray) (over : Int) (w : World) (hp : PackedAt w A of next tags vn vt) :
    Calls Try.prog 55 #[.agg A, .agg #[.int .i64 at_, .string buf, .int .i64 over]] w fun e w' => e = .returned (.int .i64 (Fd.err of next tags at_ buf.size over)) ∧ Below w.heap.size w w' := by
  have hsz : (Try.prog.info? 55).map (·.size) = some A.size := by rw [hp.size]; kernel_rfl
  have HS := Lib.hid hsz; clear hsz
  have hst := ((St.init w).alloc A 55).alloc #[.int .i64 at_, .string buf, .int .i64 over] 105
  simp only [World.size_alloc] at hst
  have HP := Lib.hid hp; clear hp
  have HA := Lib.hid hst.get2.celHeap
  have HST := Lib.hid hst; clear hst
  have hck := fun w' h => rpacked_any A of next tags vn vt w' h
  by_cases he : Pkd.err of next tags = 0
  case neg =>
    have HE := Lib.hid (Fd.err_bad (at_ := at_) (n := buf.size) (over := over) he)
    generalize Pkd.err of next tags = E at *
    have hne : (E != 0) = true := by rw [bne_iff_ne]; exact he
    have HCK := Lib.hid hck
    clear he hck
    go_enter Try.func55, Try.ntmps55
    go_wp2_with (first
      | (refine wpList_load_row rfl 55 (.tmp 2) rfl w.heap.size rfl 55 A (0, 0) _ HA.out Try.underlying55 rfl HS.out ?_)
      | fail)
    go_at_call 27
    refine (HCK.out _ (HP.out.below HST.out.bel)).mono ?_
    rintro e w1 ⟨rfl, hb1⟩
    have hst := HST.out.call hb1
    obtain ⟨x0, x1, x2, _, _, _⟩ := hst.cel3
    go_wp2
    go_ret
    exact ⟨by rw [HE.out]; rfl, hst.bel⟩
  have HP0 := Lib.hid he
  rw [he] at hck
  have HCK := Lib.hid hck
  clear he hck
  by_cases h1 : at_ < 0
  · have HE := Lib.hid (Fd.err_arg (at_ := at_) (n := buf.size) (over := over) HP0.out (.inl h1))
    go_enter Try.func55, Try.ntmps55
    go_wp2_with (first
      | (refine wpList_load_row rfl 55 (.tmp 2) rfl w.heap.size rfl 55 A (0, 0) _ HA.out Try.underlying55 rfl HS.out ?_)
      | fail)
    go_at_call 27
    refine (HCK.out _ (HP.out.below HST.out.bel)).mono ?_
    rintro e w1 ⟨rfl, hb1⟩
    have hst := HST.out.call hb1
    obtain ⟨x0, x1, x2, _, _, _⟩ := hst.cel3
    go_wp2
    go_ret
    exact ⟨by rw [HE.out]; rfl, hst.bel⟩
  by_cases h2 : 1099511627776 < at_
  · have HE := Lib.hid (Fd.err_arg (at_ := at_) (n := buf.size) (over := over) HP0.out (.inr (.inl h2)))
    go_enter Try.func55, Try.ntmps55
    go_wp2_with (first
      | (refine wpList_load_row rfl 55 (.tmp 2) rfl w.heap.size rfl 55 A (0, 0) _ HA.out Try.underlying55 rfl HS.out ?_)
      | fail)
    go_at_call 27
    refine (HCK.out _ (HP.out.below HST.out.bel)).mono ?_
    rintro e w1 ⟨rfl, hb1⟩
    have hst := HST.out.call hb1
    obtain ⟨x0, x1, x2, _, _, _⟩ := hst.cel3
    go_wp2
    go_ret
    exact ⟨by rw [HE.out]; rfl, hst.bel⟩
  by_cases h3 : 64 < buf.size
  · have HE := Lib.hid (Fd.err_arg (at_ := at_) (n := buf.size) (over := over) HP0.out (.inr (.inr h3)))
    go_enter Try.func55, Try.ntmps55
    go_wp2_with (first
      | (refine wpList_load_row rfl 55 (.tmp 2) rfl w.heap.size rfl 55 A (0, 0) _ HA.out Try.underlying55 rfl HS.out ?_)
      | fail)
    go_at_call 27
    refine (HCK.out _ (HP.out.below HST.out.bel)).mono ?_
    rintro e w1 ⟨rfl, hb1⟩
    have hst := HST.out.call hb1
    obtain ⟨x0, x1, x2, _, _, _⟩ := hst.cel3
    go_wp2
    go_ret
    exact ⟨by rw [HE.out]; rfl, hst.bel⟩
  by_cases h4 : over = 0
  · have HE := Lib.hid (Fd.err_ok (at_ := at_) (n := buf.size) (over := over) HP0.out (by omega) h4)
    subst h4
    go_enter Try.func55, Try.ntmps55
    go_wp2_with (first
      | (refine wpList_load_row rfl 55 (.tmp 2) rfl w.heap.size rfl 55 A (0, 0) _ HA.out Try.underlying55 rfl HS.out ?_)
      | fail)
    go_at_call 27
    refine (HCK.out _ (HP.out.below HST.out.bel)).mono ?_
    rintro e w1 ⟨rfl, hb1⟩
    have hst := HST.out.call hb1
    obtain ⟨x0, x1, x2, _, _, _⟩ := hst.cel3
    go_wp2
    go_ret
    exact ⟨by rw [HE.out]; rfl, hst.bel⟩
  · have HE := Lib.hid (Fd.err_over (at_ := at_) (n := buf.size) (over := over) HP0.out (by omega) h4)
    have hne : (over != 0) = true := by rw [bne_iff_ne]; exact h4
    clear h4
    go_enter Try.func55, Try.ntmps55
    go_wp2_with (first
      | (refine wpList_load_row rfl 55 (.tmp 2) rfl w.heap.size rfl 55 A (0, 0) _ HA.out Try.underlying55 rfl HS.out ?_)
      | fail)
    go_at_call 27
    refine (HCK.out _ (HP.out.below HST.out.bel)).mono ?_
    rintro e w1 ⟨rfl, hb1⟩
    have hst := HST.out.call hb1
    obtain ⟨x0, x1, x2, _, _, _⟩ := hst.cel3
    go_wp2
    go_ret
    exact ⟨by rw [HE.out]; rfl, hst.bel⟩

set_option maxRecDepth 100000 in
set_option maxHeartbeats 4000000 in
theorem cut_any (at_ : Int) (buf : ByteArray) (over rule : Int) (z : Nat) (h0 : 0 ≤ at_) (h1 : at_ ≤ 2000000000000) (hz : z ≤ buf.size) (hb : buf.size ≤ 1000000) (w : World) :
    Calls Try.prog 101 #[.agg #[.int .i64 at_, .string buf, .int .i64 over], .int .i64 rule, .int .i64 z] w fun e w' => e = .returned (.tuple #[.agg #[.int .i64 (at_ + z), .string (buf.extract z buf.size), .int .i64 0], .agg #[.int .i64 rule, .int .i64 at_, .int .i64 (at_ + z)]]) ∧ Below w.heap.size w w' := by
  have hst := ((((St.init w).alloc #[.int .i64 at_, .string buf, .int .i64 over] 105).alloc #[.int .i64 0, .string ⟨#[]⟩, .int .i64 0] 105).alloc #[.int .i64 0, .int .i64 0, .int .i64 0] 61).alloc #[.int .i64 rule, .int .i64 at_, .int .i64 (at_ + z)] 61
  simp only [World.size_alloc] at hst
  go_enter Try.func101, Try.ntmps101
  go_wp2
  generalize (((w.alloc (.cells #[.int .i64 at_, .string buf, .int .i64 over] 105)).alloc (.cells #[.int .i64 0, .string ⟨#[]⟩, .int .i64 0] 105)).alloc (.cells #[.int .i64 0, .int .i64 0, .int .i64 0] 61)).alloc (.cells #[.int .i64 rule, .int .i64 at_, .int .i64 (at_ + z)] 61) = W at hst ⊢
  generalize w.heap.size = S at *
  obtain ⟨t0, t1, t2⟩ := hst.at3 0 rfl
  obtain ⟨u0, u1, u2, uf0, uf1, uf2⟩ := (hst.nth 1 rfl).cel3
  obtain ⟨r0, r1, r2, rf0, rf1, rf2⟩ := (hst.nth 2 rfl).cel3
  obtain ⟨p0, p1, p2⟩ := hst.at3 3 rfl
  have h9 := (((hst.get3.setCel 0 (.int .i64 (at_ + z))).setCel 1 (.string (buf.extract z buf.size))).setCel 2 (.int .i64 0))
  have h10 := (((h9.get3.setCel 0 (.int .i64 rule)).setCel 1 (.int .i64 at_)).setCel 2 (.int .i64 (at_ + z))).drew
  have H10 := Lib.hid h10
  clear h9 h10 hst
  go_region
  all_goals
    go_wp2
    obtain ⟨k0, k1, k2⟩ := H10.out.at3 1 rfl
    obtain ⟨k3, k4, k5⟩ := H10.out.at3 0 rfl
    exact bodyPost_ret (v := .tuple #[.agg #[.int .i64 (at_ + z), .string (buf.extract z buf.size), .int .i64 0], .agg #[.int .i64 rule, .int .i64 at_, .int .i64 (at_ + z)]]) (by simp [results, Try.results101, go_sem, k0, k1, k2, k3, k4, k5]) rfl ⟨rfl, H10.out.bel⟩
end Go.Proofs.Ytkgpipokfoadiaa
