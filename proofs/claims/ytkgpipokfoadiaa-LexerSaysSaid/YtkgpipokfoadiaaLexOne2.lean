/-
  One of package lexer: what it computes.
-/
import Derived.Test.YtkgpipokfoadiaaLexLex2
namespace Go.Proofs.Ytkgpipokfoadiaa
set_option linter.unusedVariables false
open Go.ChangeShapes Go.WideShapes Go.ChangeAt Go.RowKit

set_option maxRecDepth 100000 in
theorem lexOne_bad (A : Array Value) (of : List Int) (next : List (List Int)) (tags : List Int) (vn vt : Value) (s : ByteArray) (hs : s.size ≤ 140737488355328) (w : World) (hp : PackedAt w A of next tags vn vt) (f : Int) (he : Lx.err of next tags s.size ≠ 0) :
    Calls Try.prog 29 #[.agg A, .string s, .int .i64 f] w fun e w' => e = .returned (.tuple #[.agg #[.int .i64 0, .int .i64 0, .int .i64 0], .bool false, .int .i64 (Lx.err of next tags s.size)]) ∧ Below w.heap.size w w' := by
  have hsz : (Try.prog.info? 55).map (·.size) = some A.size := by rw [hp.size]; kernel_rfl
  have HS := Lib.hid hsz; clear hsz
  have hst := ((St.init w).alloc A 55).alloc #[.int .i64 0, .int .i64 0, .int .i64 0] 61
  simp only [World.size_alloc] at hst
  have HP := Lib.hid hp; clear hp
  have HA := Lib.hid hst.get2.celHeap
  obtain ⟨z0, z1, z2, zf0, zf1, zf2⟩ := hst.cel3
  have HST := Lib.hid hst; clear hst
  have HCK := Lib.hid (fun w' h => lexCheck_any A of next tags vn vt s hs w' h)
  generalize Lx.err of next tags s.size = E at *
  have H0 : (E != 0) = true := by rw [bne_iff_ne]; exact he
  clear he
  go_enter Try.func29, Try.ntmps29
  go_wp2_with (first
    | (refine wpList_load_row rfl 55 (.tmp 3) rfl w.heap.size rfl 55 A (0, 0) _ HA.out Try.underlying55 rfl HS.out ?_)
    | fail)
  go_at_call 77
  refine (HCK.out _ (HP.out.below HST.out.bel)).mono ?_
  rintro e w1 ⟨rfl, hb1⟩
  have hst := HST.out.call hb1
  obtain ⟨z0, z1, z2, zf0, zf1, zf2⟩ := hst.cel3
  clear hb1
  have hst9 := ((hst.setCel 0 (.int .i64 0)).setCel 1 (.int .i64 0)).setCel 2 (.int .i64 0)
  go_wp2
  have k0 := hst9.celAt (i := 0) (v := .int .i64 0) rfl
  have k1 := hst9.celAt (i := 1) (v := .int .i64 0) rfl
  have k2 := hst9.celAt (i := 2) (v := .int .i64 0) rfl
  exact bodyPost_ret (v := .tuple #[.agg #[.int .i64 0, .int .i64 0, .int .i64 0], .bool false, .int .i64 E]) (by simp [results, Try.results29, go_sem, k0, k1, k2]) rfl ⟨rfl, hst9.bel⟩

set_option maxRecDepth 100000 in
theorem lexOne_arg (A : Array Value) (of : List Int) (next : List (List Int)) (tags : List Int) (vn vt : Value) (s : ByteArray) (hs : s.size ≤ 140737488355328) (w : World) (hp : PackedAt w A of next tags vn vt) (f : Int) (he : Lx.err of next tags s.size = 0) (hf : f < 0 ∨ (¬ f < 0 ∧ (s.size : Int) < f)) :
    Calls Try.prog 29 #[.agg A, .string s, .int .i64 f] w fun e w' => e = .returned (.tuple #[.agg #[.int .i64 0, .int .i64 0, .int .i64 0], .bool false, .int .i64 1]) ∧ Below w.heap.size w w' := by
  have hsz : (Try.prog.info? 55).map (·.size) = some A.size := by rw [hp.size]; kernel_rfl
  have HS := Lib.hid hsz; clear hsz
  have hst := ((St.init w).alloc A 55).alloc #[.int .i64 0, .int .i64 0, .int .i64 0] 61
  simp only [World.size_alloc] at hst
  have HP := Lib.hid hp; clear hp
  have HA := Lib.hid hst.get2.celHeap
  obtain ⟨z0, z1, z2, zf0, zf1, zf2⟩ := hst.cel3
  have HST := Lib.hid hst; clear hst
  have HCK := Lib.hid (fun w' h => lexCheck_any A of next tags vn vt s hs w' h)
  rw [he] at HCK
  clear he
  rcases hf with hf | ⟨hf0, hf⟩
  all_goals
    go_enter Try.func29, Try.ntmps29
    go_wp2_with (first
      | (refine wpList_load_row rfl 55 (.tmp 3) rfl w.heap.size rfl 55 A (0, 0) _ HA.out Try.underlying55 rfl HS.out ?_)
      | fail)
    go_at_call 77
    refine (HCK.out _ (HP.out.below HST.out.bel)).mono ?_
    rintro e w1 ⟨rfl, hb1⟩
    have hst := HST.out.call hb1
    obtain ⟨z0, z1, z2, zf0, zf1, zf2⟩ := hst.cel3
    clear hb1
    have hst9 := ((hst.setCel 0 (.int .i64 0)).setCel 1 (.int .i64 0)).setCel 2 (.int .i64 0)
    go_wp2
    have k0 := hst9.celAt (i := 0) (v := .int .i64 0) rfl
    have k1 := hst9.celAt (i := 1) (v := .int .i64 0) rfl
    have k2 := hst9.celAt (i := 2) (v := .int .i64 0) rfl
    exact bodyPost_ret (v := .tuple #[.agg #[.int .i64 0, .int .i64 0, .int .i64 0], .bool false, .int .i64 1]) (by simp [results, Try.results29, go_sem, k0, k1, k2]) rfl ⟨rfl, hst9.bel⟩

set_option maxRecDepth 100000 in
theorem lexOne_ok (A : Array Value) (of : List Int) (next : List (List Int)) (tags : List Int) (vn vt : Value) (s : ByteArray) (hs : s.size ≤ 140737488355328) (w : World) (hp : PackedAt w A of next tags vn vt) (f : Nat) (hf : f ≤ s.size) (he : Lx.err of next tags s.size = 0) (x : Int × Int) (hx : Lx.longest of next tags (s.data.toList.drop f) = x) :
    Calls Try.prog 29 #[.agg A, .string s, .int .i64 f] w fun e w' => e = .returned (.tuple (if x.2 = 0 then #[.agg #[.int .i64 0, .int .i64 0, .int .i64 0], .bool false, .int .i64 0] else #[.agg #[.int .i64 x.1, .int .i64 f, .int .i64 (f + x.2)], .bool true, .int .i64 0])) ∧ Below w.heap.size w w' := by
  have hsz : (Try.prog.info? 55).map (·.size) = some A.size := by rw [hp.size]; kernel_rfl
  have HS := Lib.hid hsz; clear hsz
  have hst := ((St.init w).alloc A 55).alloc #[.int .i64 0, .int .i64 0, .int .i64 0] 61
  simp only [World.size_alloc] at hst
  have HP := Lib.hid hp; clear hp
  have HA := Lib.hid hst.get2.celHeap
  obtain ⟨z0, z1, z2, zf0, zf1, zf2⟩ := hst.cel3
  have HST := Lib.hid hst; clear hst
  have HCK := Lib.hid (fun w' h => lexCheck_any A of next tags vn vt s hs w' h)
  have HON := Lib.hid (fun w' h => one_any A of next tags vn vt s hs f hf w' h (Lx.err_zero he).2.2)
  rw [hx] at HON
  rw [he] at HCK
  clear he hx
  have hf0 : ¬ (f : Int) < 0 := by omega
  have hf1 : ¬ (s.size : Int) < f := by omega
  go_enter Try.func29, Try.ntmps29
  go_wp2_with (first
    | (refine wpList_load_row rfl 55 (.tmp 3) rfl w.heap.size rfl 55 A (0, 0) _ HA.out Try.underlying55 rfl HS.out ?_)
    | fail)
  go_at_call 77
  refine (HCK.out _ (HP.out.below HST.out.bel)).mono ?_
  rintro e w1 ⟨rfl, hb1⟩
  have hst := HST.out.call hb1
  obtain ⟨z0, z1, z2, zf0, zf1, zf2⟩ := hst.cel3
  clear hb1
  have HB := Lib.hid hst.get2.celHeap
  go_wp2_with (first
    | (refine wpList_load_row rfl 55 (.tmp 3) rfl w.heap.size rfl 55 A (0, 0) _ HB.out Try.underlying55 rfl HS.out ?_)
    | fail)
  go_at_call 78
  refine (HON.out _ (HP.out.below hst.bel)).mono ?_
  rintro e w2 ⟨rfl, hb2⟩
  replace hst := hst.call hb2
  clear hb2
  by_cases hz : x.2 = 0
  · rw [Lx.oneV_no hz]
    have HZ := Lib.hid hz; clear hz
    have hlt := hst.lo _ (.head _) _ (.head _) |>.2
    obtain ⟨z0, z1, z2, zf0, zf1, zf2⟩ := hst.cel3
    have hst9 := (((hst.setCel 0 (.int .i64 0)).setCel 1 (.int .i64 0)).setCel 2 (.int .i64 0)).skip (.cells #[.int .i64 0, .int .i64 0, .int .i64 0] 61)
    go_wp2
    have k0 := hst9.celAt (i := 0) (v := .int .i64 0) rfl
    have k1 := hst9.celAt (i := 1) (v := .int .i64 0) rfl
    have k2 := hst9.celAt (i := 2) (v := .int .i64 0) rfl
    exact bodyPost_ret (v := .tuple #[.agg #[.int .i64 0, .int .i64 0, .int .i64 0], .bool false, .int .i64 0]) (by simp [results, Try.results29, go_sem, k0, k1, k2]) rfl ⟨by first | rfl | rw [if_pos HZ.out], hst9.bel⟩
  · rw [Lx.oneV_yes hz]
    have HZ := Lib.hid hz; clear hz
    have hlt := hst.lo _ (.head _) _ (.head _) |>.2
    obtain ⟨z0, z1, z2, zf0, zf1, zf2⟩ := hst.cel3
    have hst9 := (((hst.setCel 0 (.int .i64 x.1)).setCel 1 (.int .i64 f)).setCel 2 (.int .i64 (f + x.2))).skip (.cells #[.int .i64 x.1, .int .i64 f, .int .i64 (f + x.2)] 61)
    go_wp2
    have k0 := hst9.celAt (i := 0) (v := .int .i64 x.1) rfl
    have k1 := hst9.celAt (i := 1) (v := .int .i64 f) rfl
    have k2 := hst9.celAt (i := 2) (v := .int .i64 (f + x.2)) rfl
    exact bodyPost_ret (v := .tuple #[.agg #[.int .i64 x.1, .int .i64 f, .int .i64 (f + x.2)], .bool true, .int .i64 0]) (by simp [results, Try.results29, go_sem, k0, k1, k2]) rfl ⟨by first | rfl | rw [if_neg HZ.out], hst9.bel⟩
end Go.Proofs.Ytkgpipokfoadiaa
