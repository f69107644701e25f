/-
  The walk of the law LexerSays.
-/
import Derived.Test.YtkgpipokfoadiaaLexOne2
import Derived.Test.YtkgpipokfoadiaaTokEq
import Derived.Test.YtkgpipokfoadiaaPackedRef
namespace Go.Proofs.Ytkgpipokfoadiaa
set_option linter.unusedVariables false
open Go.ChangeShapes Go.WideShapes Go.ChangeAt Go.RowKit

set_option maxRecDepth 100000 in
set_option maxHeartbeats 4000000 in
theorem lexerSays_bad (A : Array Value) (of : List Int) (next : List (List Int)) (tags : List Int) (vn vt : Value) (s : ByteArray) (hs : s.size ≤ 140737488355328) (f : Int) (w : World) (hp : PackedAt w A of next tags vn vt) (he : Pkd.err of next tags ≠ 0) :
    Calls Try.prog 6 #[.agg A, .string s, .int .i64 f] w fun e w' => e = .returned (.bool true) ∧ Below w.heap.size w w' := by
  have hsz : (Try.prog.info? 55).map (·.size) = some A.size := by rw [hp.size]; kernel_rfl
  have HS := Lib.hid hsz; clear hsz
  have HP := Lib.hid hp; clear hp
  have hle := Lx.err_bad (n := s.size) he
  have HR := fun w' h => rpacked_any A of next tags vn vt w' h
  have HL := fun w' h => lex_any A of next tags vn vt s hs w' h
  have HO := fun w' h => lexOne_bad A of next tags vn vt s hs w' h f (by rw [hle]; exact he)
  rw [hle] at HL HO
  generalize Pkd.err of next tags = E at *
  have hE1 : (E == 0) = false := by rw [beq_eq_false_iff_ne]; exact he
  have hE2 : (E != 0) = true := by rw [bne_iff_ne]; exact he
  replace HR := Lib.hid HR; replace HL := Lib.hid HL; replace HO := Lib.hid HO
  have HE := Lib.hid he
  clear he hle
  have hst := (St.init w).alloc A 55
  have HA := Lib.hid hst.celHeap
  go_enter Try.func6, Try.ntmps6
  go_wp2_with (first
    | (refine wpList_load_row rfl 55 (.tmp 3) rfl w.heap.size rfl 55 A (0, 0) _ HA.out Try.underlying55 rfl HS.out ?_)
    | fail)
  go_at_call 27
  refine (HR.out _ (HP.out.below hst.bel)).mono ?_
  rintro e w1 ⟨rfl, hb1⟩
  replace hst := hst.call hb1
  have HB := Lib.hid hst.celHeap
  clear hb1 HA
  go_wp2_with (first
    | (refine wpList_load_row rfl 55 (.tmp 3) rfl w.heap.size rfl 55 A (0, 0) _ HB.out Try.underlying55 rfl HS.out ?_)
    | fail)
  go_at_call 28
  refine (HL.out _ (HP.out.below hst.bel)).mono ?_
  rintro e w2 ⟨v2, rfl, ho2, hb2⟩
  rw [if_neg HE.out] at ho2
  rw [if_neg (fun h => HE.out h.1), if_neg HE.out]
  obtain ⟨a2, c2, rfl⟩ := ho2.isLen
  replace hst := hst.call hb2
  have HC := Lib.hid hst.celHeap
  clear hb2 HB ho2
  go_wp2_with (first
    | (refine wpList_load_row rfl 55 (.tmp 3) rfl w.heap.size rfl 55 A (0, 0) _ HC.out Try.underlying55 rfl HS.out ?_)
    | fail)
  go_at_call 29
  refine (HO.out _ (HP.out.below hst.bel)).mono ?_
  rintro e w3 ⟨rfl, hb3⟩
  replace hst := hst.call hb3
  have hst2 := hst.alloc #[.int .i64 0, .int .i64 0, .int .i64 0] 61
  clear hb3 HC hst
  go_wp2_with (fail)
  go_ret
  exact ⟨by simp, hst2.bel⟩

set_option maxRecDepth 100000 in
set_option maxHeartbeats 4000000 in
theorem lexerSays_long (A : Array Value) (of : List Int) (next : List (List Int)) (tags : List Int) (vn vt : Value) (s : ByteArray) (hs : s.size ≤ 140737488355328) (f : Int) (w : World) (hp : PackedAt w A of next tags vn vt) (he : Pkd.err of next tags = 0) (hlong : 2000 < s.size) :
    Calls Try.prog 6 #[.agg A, .string s, .int .i64 f] w fun e w' => e = .returned (.bool true) ∧ Below w.heap.size w w' := by
  have hsz : (Try.prog.info? 55).map (·.size) = some A.size := by rw [hp.size]; kernel_rfl
  have HS := Lib.hid hsz; clear hsz
  have HP := Lib.hid hp; clear hp
  have hle := Lx.err_large (n := s.size) he hlong
  have HR := fun w' h => rpacked_any A of next tags vn vt w' h
  have HL := fun w' h => lex_any A of next tags vn vt s hs w' h
  have HO := fun w' h => lexOne_bad A of next tags vn vt s hs w' h f (by rw [hle]; decide)
  rw [hle] at HL HO
  rw [he] at HR
  replace HR := Lib.hid HR; replace HL := Lib.hid HL; replace HO := Lib.hid HO
  have HE : Hid ((2 : Int) ≠ 0) := Lib.hid (by decide)
  clear he hle
  have hst := (St.init w).alloc A 55
  have HA := Lib.hid hst.celHeap
  go_enter Try.func6, Try.ntmps6
  go_wp2_with (first
    | (refine wpList_load_row rfl 55 (.tmp 3) rfl w.heap.size rfl 55 A (0, 0) _ HA.out Try.underlying55 rfl HS.out ?_)
    | fail)
  go_at_call 27
  refine (HR.out _ (HP.out.below hst.bel)).mono ?_
  rintro e w1 ⟨rfl, hb1⟩
  replace hst := hst.call hb1
  have HB := Lib.hid hst.celHeap
  clear hb1 HA
  go_wp2_with (first
    | (refine wpList_load_row rfl 55 (.tmp 3) rfl w.heap.size rfl 55 A (0, 0) _ HB.out Try.underlying55 rfl HS.out ?_)
    | fail)
  go_at_call 28
  refine (HL.out _ (HP.out.below hst.bel)).mono ?_
  rintro e w2 ⟨v2, rfl, ho2, hb2⟩
  rw [if_neg HE.out] at ho2
  rw [if_neg (fun h => HE.out h.1), if_neg HE.out]
  obtain ⟨a2, c2, rfl⟩ := ho2.isLen
  replace hst := hst.call hb2
  have HC := Lib.hid hst.celHeap
  clear hb2 HB ho2
  go_wp2_with (first
    | (refine wpList_load_row rfl 55 (.tmp 3) rfl w.heap.size rfl 55 A (0, 0) _ HC.out Try.underlying55 rfl HS.out ?_)
    | fail)
  go_at_call 29
  refine (HO.out _ (HP.out.below hst.bel)).mono ?_
  rintro e w3 ⟨rfl, hb3⟩
  replace hst := hst.call hb3
  have hst2 := hst.alloc #[.int .i64 0, .int .i64 0, .int .i64 0] 61
  clear hb3 HC hst
  go_wp2_with (fail)
  go_ret
  exact ⟨by simp, hst2.bel⟩

end Go.Proofs.Ytkgpipokfoadiaa
