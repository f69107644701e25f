/-
  Feed and End of package feed, where something is wrong ahead of all.
-/
import Derived.Test.YtkgpipokfoadiaaFeedFeed
namespace Go.Proofs.Ytkgpipokfoadiaa
set_option linter.unusedVariables false
open Go.ChangeShapes Go.WideShapes Go.ChangeAt Go.RowKit

set_option maxRecDepth 100000 in
set_option maxHeartbeats 4000000 in
theorem feed_bad (A : Array Value) (of : List Int) (next : List (List Int)) (tags : List Int) (vn vt : Value) (at_ : Int) (buf : ByteArray) (over : Int) (s : ByteArray) (w : World) (hp : PackedAt w A of next tags vn vt) (he : Fd.err of next tags at_ buf.size over ≠ 0) :
    Calls Try.prog 56 #[.agg A, .agg #[.int .i64 at_, .string buf, .int .i64 over], .string s] w fun e w' => e = .returned (.tuple #[.agg #[.int .i64 at_, .string buf, .int .i64 over], .slice none 0 0, .int .i64 (Fd.err of next tags at_ buf.size over)]) ∧ Below w.heap.size w w' := by
  have hsz : (Try.prog.info? 55).map (·.size) = some A.size := by rw [hp.size]; kernel_rfl
  have HS := Lib.hid hsz; clear hsz
  have hst := (((St.init w).alloc A 55).alloc #[.int .i64 at_, .string buf, .int .i64 over] 105).alloc #[.int .i64 0, .string ⟨#[]⟩, .int .i64 0] 105
  simp only [World.size_alloc] at hst
  have HP := Lib.hid hp; clear hp
  have HCK := fun w' h => feedCheck_any A of next tags vn vt at_ buf over w' h
  have HA := Lib.hid (hst.heapAt 2 rfl)
  generalize Fd.err of next tags at_ buf.size over = E at *
  replace HCK := Lib.hid HCK
  have hne : (E != 0) = true := by rw [bne_iff_ne]; exact he
  clear he
  go_enter Try.func56, Try.ntmps56
  go_wp2_with (first
    | (refine wpList_load_row rfl 55 (.tmp 3) rfl w.heap.size rfl 55 A (0, 0) _ HA.out Try.underlying55 rfl HS.out ?_)
    | fail)
  go_at_call 99
  refine (HCK.out _ (HP.out.below hst.bel)).mono ?_
  rintro e w1 ⟨rfl, hb1⟩
  replace hst := hst.call hb1
  clear hb1 HA
  obtain ⟨h0, h1, h2⟩ := hst.at3 1 rfl
  obtain ⟨r0, r1, r2, rf0, rf1, rf2⟩ := hst.cel3
  have hst9 := ((hst.setCel 0 (.int .i64 at_)).setCel 1 (.string buf)).setCel 2 (.int .i64 over)
  have H9 := Lib.hid hst9
  clear hst hst9
  go_wp2
  obtain ⟨k0, k1, k2⟩ := H9.out.at3 0 rfl
  exact bodyPost_ret (v := .tuple #[.agg #[.int .i64 at_, .string buf, .int .i64 over], .slice none 0 0, .int .i64 E]) (by simp [results, Try.results56, go_sem, k0, k1, k2]) rfl ⟨rfl, H9.out.bel⟩

set_option maxRecDepth 100000 in
set_option maxHeartbeats 4000000 in
theorem end_bad (A : Array Value) (of : List Int) (next : List (List Int)) (tags : List Int) (vn vt : Value) (at_ : Int) (buf : ByteArray) (over : Int) (w : World) (hp : PackedAt w A of next tags vn vt) (he : Fd.err of next tags at_ buf.size over ≠ 0) :
    Calls Try.prog 57 #[.agg A, .agg #[.int .i64 at_, .string buf, .int .i64 over]] w fun e w' => e = .returned (.tuple #[.agg #[.int .i64 at_, .string buf, .int .i64 over], .slice none 0 0, .int .i64 (Fd.err of next tags at_ buf.size over)]) ∧ Below w.heap.size w w' := by
  have hsz : (Try.prog.info? 55).map (·.size) = some A.size := by rw [hp.size]; kernel_rfl
  have HS := Lib.hid hsz; clear hsz
  have hst := (((St.init w).alloc A 55).alloc #[.int .i64 at_, .string buf, .int .i64 over] 105).alloc #[.int .i64 0, .string ⟨#[]⟩, .int .i64 0] 105
  simp only [World.size_alloc] at hst
  have HP := Lib.hid hp; clear hp
  have HCK := fun w' h => feedCheck_any A of next tags vn vt at_ buf over w' h
  have HA := Lib.hid (hst.heapAt 2 rfl)
  generalize Fd.err of next tags at_ buf.size over = E at *
  replace HCK := Lib.hid HCK
  have hne : (E != 0) = true := by rw [bne_iff_ne]; exact he
  clear he
  go_enter Try.func57, Try.ntmps57
  go_wp2_with (first
    | (refine wpList_load_row rfl 55 (.tmp 2) rfl w.heap.size rfl 55 A (0, 0) _ HA.out Try.underlying55 rfl HS.out ?_)
    | fail)
  go_at_call 99
  refine (HCK.out _ (HP.out.below hst.bel)).mono ?_
  rintro e w1 ⟨rfl, hb1⟩
  replace hst := hst.call hb1
  clear hb1 HA
  obtain ⟨h0, h1, h2⟩ := hst.at3 1 rfl
  obtain ⟨r0, r1, r2, rf0, rf1, rf2⟩ := hst.cel3
  have hst9 := ((hst.setCel 0 (.int .i64 at_)).setCel 1 (.string buf)).setCel 2 (.int .i64 over)
  have H9 := Lib.hid hst9
  clear hst hst9
  go_wp2
  obtain ⟨k0, k1, k2⟩ := H9.out.at3 0 rfl
  exact bodyPost_ret (v := .tuple #[.agg #[.int .i64 at_, .string buf, .int .i64 over], .slice none 0 0, .int .i64 E]) (by simp [results, Try.results57, go_sem, k0, k1, k2]) rfl ⟨rfl, H9.out.bel⟩

set_option maxRecDepth 100000 in
set_option maxHeartbeats 4000000 in
theorem feed_long (A : Array Value) (of : List Int) (next : List (List Int)) (tags : List Int) (vn vt : Value) (at_ : Int) (buf : ByteArray) (over : Int) (s : ByteArray) (w : World) (hp : PackedAt w A of next tags vn vt) (he : Fd.err of next tags at_ buf.size over = 0) (hl : 2000 < s.size) :
    Calls Try.prog 56 #[.agg A, .agg #[.int .i64 at_, .string buf, .int .i64 over], .string s] w fun e w' => e = .returned (.tuple #[.agg #[.int .i64 at_, .string buf, .int .i64 over], .slice none 0 0, .int .i64 2]) ∧ Below w.heap.size w w' := by
  have hsz : (Try.prog.info? 55).map (·.size) = some A.size := by rw [hp.size]; kernel_rfl
  have HS := Lib.hid hsz; clear hsz
  have hst := (((St.init w).alloc A 55).alloc #[.int .i64 at_, .string buf, .int .i64 over] 105).alloc #[.int .i64 0, .string ⟨#[]⟩, .int .i64 0] 105
  simp only [World.size_alloc] at hst
  have HP := Lib.hid hp; clear hp
  have HCK := fun w' h => feedCheck_any A of next tags vn vt at_ buf over w' h
  have HA := Lib.hid (hst.heapAt 2 rfl)
  rw [he] at HCK
  replace HCK := Lib.hid HCK
  clear he
  go_enter Try.func56, Try.ntmps56
  go_wp2_with (first
    | (refine wpList_load_row rfl 55 (.tmp 3) rfl w.heap.size rfl 55 A (0, 0) _ HA.out Try.underlying55 rfl HS.out ?_)
    | fail)
  go_at_call 99
  refine (HCK.out _ (HP.out.below hst.bel)).mono ?_
  rintro e w1 ⟨rfl, hb1⟩
  replace hst := hst.call hb1
  clear hb1 HA
  obtain ⟨h0, h1, h2⟩ := hst.at3 1 rfl
  obtain ⟨r0, r1, r2, rf0, rf1, rf2⟩ := hst.cel3
  have hst9 := ((hst.setCel 0 (.int .i64 at_)).setCel 1 (.string buf)).setCel 2 (.int .i64 over)
  have H9 := Lib.hid hst9
  clear hst hst9
  go_wp2
  obtain ⟨k0, k1, k2⟩ := H9.out.at3 0 rfl
  exact bodyPost_ret (v := .tuple #[.agg #[.int .i64 at_, .string buf, .int .i64 over], .slice none 0 0, .int .i64 2]) (by simp [results, Try.results56, go_sem, k0, k1, k2]) rfl ⟨rfl, H9.out.bel⟩

end Go.Proofs.Ytkgpipokfoadiaa
