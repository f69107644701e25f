/-
  The walk of the law FeedSays.
-/
import Derived.Test.YtkgpipokfoadiaaFeedBad
import Derived.Test.YtkgpipokfoadiaaFeedRend
import Derived.Test.YtkgpipokfoadiaaFeedText
import Derived.Test.YtkgpipokfoadiaaTokEq
namespace Go.Proofs.Ytkgpipokfoadiaa
set_option linter.unusedVariables false
open Go.ChangeShapes Go.WideShapes Go.ChangeAt Go.RowKit

namespace Fd
theorem endR_len (of next tags) (buf : ByteArray) (at_ : Int) : (endR (Lx.toks of next tags buf.size buf.data.toList at_ []) (at_ + buf.size)).out.length ≤ buf.size := by
  have h := Lx.toks_ln (of := of) (next := next) (tags := tags) buf.size buf.data.toList at_ []
  simp only [Array.length_toList, ByteArray.size_data, List.length_nil, Nat.zero_add] at h
  unfold endR
  split <;> exact h
theorem cut_len (of next tags) (n : Nat) (a : Int) (b : ByteArray) (out) : (Lx.cutGo of next tags n a b out).2.2.2.length + (Lx.cutGo of next tags n a b out).2.2.1.size ≤ out.length + b.size := by
  induction n generalizing a b out with
  | zero => unfold Lx.cutGo; simp
  | succ n ih =>
    unfold Lx.cutGo
    split
    · simp
    split
    · simp
    · have h1 := Lx.longest_in of next tags b.data.toList
      simp only [Array.length_toList, ByteArray.size_data] at h1
      have h2 := ih (a + (Lx.longest of next tags b.data.toList).2) (b.extract (Lx.longest of next tags b.data.toList).2.toNat b.size) (out ++ [((Lx.longest of next tags b.data.toList).1, a, a + (Lx.longest of next tags b.data.toList).2)])
      rw [ByteArray.size_extract, List.length_append, List.length_singleton] at h2
      omega
theorem feed_len (of next tags) (s : ByteArray) (n i : Nat) (a : Int) (b : ByteArray) (out) : (Lx.feedGo of next tags s n i a b out).out.length ≤ out.length + b.size + n := by
  induction n generalizing i a b out with
  | zero => simp [Lx.feedGo]
  | succ n ih =>
    have h1 := cut_len of next tags ((b ++ s.extract i (i + 1)).size + 1) a (b ++ s.extract i (i + 1)) out
    have h3 : (b ++ s.extract i (i + 1)).size ≤ b.size + 1 := by rw [ByteArray.size_append, ByteArray.size_extract]; omega
    generalize hY : Lx.cutGo of next tags ((b ++ s.extract i (i + 1)).size + 1) a (b ++ s.extract i (i + 1)) out = Y at h1
    cases h2 : Y.1
    · rw [feed_bad hY h2]; simp only; omega
    · by_cases h4 : 64 < Y.2.2.1.size
      · rw [feed_hold hY h2 h4]; simp only; omega
      · rw [feed_next hY h2 h4]
        have := ih (i + 1) Y.2.1 Y.2.2.1 Y.2.2.2
        omega
end Fd

set_option maxRecDepth 100000 in
set_option maxHeartbeats 8000000 in
theorem feedSays_bad (A : Array Value) (of : List Int) (next : List (List Int)) (tags : List Int) (vn vt : Value) (at_ : Int) (buf : ByteArray) (over : Int) (s : ByteArray) (hs : s.size ≤ 140737488355328) (w : World) (hp : PackedAt w A of next tags vn vt) (he : Fd.err of next tags at_ buf.size over ≠ 0) :
    Calls Try.prog 11 #[.agg A, .agg #[.int .i64 at_, .string buf, .int .i64 over], .string s] w fun e w' => e = .returned (.bool true) ∧ Below w.heap.size w w' := by
  have hsz : (Try.prog.info? 55).map (·.size) = some A.size := by rw [hp.size]; kernel_rfl
  have HS := Lib.hid hsz; clear hsz
  have hst := ((St.init w).alloc A 55).alloc #[.int .i64 at_, .string buf, .int .i64 over] 105
  simp only [World.size_alloc] at hst
  have HP := Lib.hid hp; clear hp
  have HR := fun w' h => rheld_any A of next tags vn vt at_ buf over w' h
  have HF := fun w' h => feed_bad A of next tags vn vt at_ buf over s w' h he
  have HE := fun w' h => end_bad A of next tags vn vt at_ buf over w' h he
  generalize Fd.err of next tags at_ buf.size over = E at *
  have hE1 : (E != 0) = true := by rw [bne_iff_ne]; exact he
  clear he
  replace HR := Lib.hid HR; replace HF := Lib.hid HF; replace HE := Lib.hid HE
  have HA := Lib.hid (hst.heapAt 1 rfl)
  go_enter Try.func11, Try.ntmps11
  go_wp2_with (first
    | (refine wpList_load_row rfl 55 (.tmp 3) rfl w.heap.size rfl 55 A (0, 0) _ HA.out Try.underlying55 rfl HS.out ?_)
    | fail)
  go_at_call 55
  refine (HR.out _ (HP.out.below hst.bel)).mono ?_
  rintro e w1 ⟨rfl, hb1⟩
  replace hst := hst.call hb1
  clear hb1 HA
  have HA := Lib.hid (hst.heapAt 1 rfl)
  obtain ⟨h0, h1, h2⟩ := hst.at3 0 rfl
  go_wp2_with (first
    | (refine wpList_load_row rfl 55 (.tmp 3) rfl w.heap.size rfl 55 A (0, 0) _ HA.out Try.underlying55 rfl HS.out ?_)
    | fail)
  go_at_call 56
  refine (HF.out _ (HP.out.below hst.bel)).mono ?_
  rintro e w2 ⟨rfl, hb2⟩
  have hst2 := (hst.call hb2).alloc #[.int .i64 at_, .string buf, .int .i64 over] 105
  clear hb2 HA hst h0 h1 h2
  have HA := Lib.hid (hst2.heapAt 2 rfl)
  obtain ⟨h0, h1, h2⟩ := hst2.at3 1 rfl
  go_wp2_with (first
    | (refine wpList_load_row rfl 55 (.tmp 3) rfl w.heap.size rfl 55 A (0, 0) _ HA.out Try.underlying55 rfl HS.out ?_)
    | fail)
  go_at_call 57
  refine (HE.out _ (HP.out.below hst2.bel)).mono ?_
  rintro e w3 ⟨rfl, hb3⟩
  have hst3 := (hst2.call hb3).alloc #[.int .i64 at_, .string buf, .int .i64 over] 105
  clear hb3 HA hst2 h0 h1 h2
  obtain ⟨h0, h1, h2⟩ := hst3.at3 2 rfl
  obtain ⟨k0, k1, k2⟩ := hst3.at3 1 rfl
  obtain ⟨m0, m1, m2⟩ := hst3.at3 0 rfl
  have hlt := World.block_lt_of_cell? _ _ h0
  go_wp2_with (fail)
  go_ret
  exact ⟨by simp, hst3.bel⟩

set_option maxRecDepth 100000 in
set_option maxHeartbeats 8000000 in
theorem feedSays_long (A : Array Value) (of : List Int) (next : List (List Int)) (tags : List Int) (vn vt : Value) (at_ : Int) (buf : ByteArray) (s : ByteArray) (hs : s.size ≤ 140737488355328) (w : World) (hp : PackedAt w A of next tags vn vt) (he : Fd.err of next tags at_ buf.size 0 = 0) (hl : 2000 < s.size) :
    Calls Try.prog 11 #[.agg A, .agg #[.int .i64 at_, .string buf, .int .i64 0], .string s] w fun e w' => e = .returned (.bool true) ∧ Below w.heap.size w w' := by
  have hsz : (Try.prog.info? 55).map (·.size) = some A.size := by rw [hp.size]; kernel_rfl
  have HS := Lib.hid hsz; clear hsz
  have hst := ((St.init w).alloc A 55).alloc #[.int .i64 at_, .string buf, .int .i64 0] 105
  simp only [World.size_alloc] at hst
  have HP := Lib.hid hp; clear hp
  have HR := fun w' h => rheld_any A of next tags vn vt at_ buf 0 w' h
  have HE := fun w' h => end_ok A of next tags vn vt at_ buf w' h he
  have HQ := fun w' h => rend_ok A of next tags vn vt at_ buf w' h he
  have HF := fun w' h => feed_long A of next tags vn vt at_ buf 0 s w' h he hl
  have hzl := Fd.endR_len of next tags buf at_
  generalize Fd.endR (Lx.toks of next tags buf.size buf.data.toList at_ []) (at_ + buf.size) = Z at *
  obtain ⟨za, zb, zo, zl, ze⟩ := Z
  simp only at hzl
  have hb64 := (Fd.err_zero he).2.2.2.2.1
  have HZL : Hid ((zl.length : Int) * 24 ≤ 140737488355328) := Lib.hid (by omega)
  clear hzl
  rw [he] at HR
  replace HQ := Lib.hid HQ
  clear he
  replace HR := Lib.hid HR; replace HF := Lib.hid HF; replace HE := Lib.hid HE
  have HA := Lib.hid (hst.heapAt 1 rfl)
  go_enter Try.func11, Try.ntmps11
  go_wp2_with (first
    | (refine wpList_load_row rfl 55 (.tmp 3) rfl w.heap.size rfl 55 A (0, 0) _ HA.out Try.underlying55 rfl HS.out ?_)
    | fail)
  go_at_call 55
  refine (HR.out _ (HP.out.below hst.bel)).mono ?_
  rintro e w1 ⟨rfl, hb1⟩
  replace hst := hst.call hb1
  clear hb1 HA
  have HA := Lib.hid (hst.heapAt 1 rfl)
  obtain ⟨h0, h1, h2⟩ := hst.at3 0 rfl
  go_wp2_with (first
    | (refine wpList_load_row rfl 55 (.tmp 3) rfl w.heap.size rfl 55 A (0, 0) _ HA.out Try.underlying55 rfl HS.out ?_)
    | fail)
  go_at_call 56
  refine (HF.out _ (HP.out.below hst.bel)).mono ?_
  rintro e w2 ⟨rfl, hb2⟩
  have hst2 := (hst.call hb2).alloc #[.int .i64 at_, .string buf, .int .i64 0] 105
  clear hb2 HA hst h0 h1 h2
  have HA := Lib.hid (hst2.heapAt 2 rfl)
  obtain ⟨h0, h1, h2⟩ := hst2.at3 1 rfl
  go_wp2_with (first
    | (refine wpList_load_row rfl 55 (.tmp 3) rfl w.heap.size rfl 55 A (0, 0) _ HA.out Try.underlying55 rfl HS.out ?_)
    | fail)
  go_at_call 57
  refine (HE.out _ (HP.out.below hst2.bel)).mono ?_
  rintro e w3 ⟨v3, rfl, ho3, hb3⟩
  obtain ⟨a3, c3, rfl⟩ := ho3.isLen
  rw [List.length_map] at ho3 ⊢
  have hst3 := (hst2.pushOwn hb3 ho3).alloc #[.int .i64 za, .string zb, .int .i64 zo] 105
  clear hb3 HA hst2 h0 h1 h2 ho3
  have HA := Lib.hid (hst3.heapAt 4 rfl)
  obtain ⟨h0, h1, h2⟩ := hst3.at3 3 rfl
  have hlt3 := World.block_lt_of_cell? _ _ h0
  go_wp2_with (first
    | (refine wpList_load_row rfl 55 (.tmp 3) rfl w.heap.size rfl 55 A (0, 0) _ HA.out Try.underlying55 rfl HS.out ?_)
    | fail)
  go_at_call 58
  refine (HQ.out _ (HP.out.below hst3.bel)).mono ?_
  rintro e w4 ⟨v4, rfl, ho4, hb4⟩
  obtain ⟨a4, c4, rfl⟩ := ho4.isLen
  rw [List.length_map] at ho4 ⊢
  have hst4 := (hst3.pushOwn hb4 ho4).alloc #[.int .i64 za, .string zb, .int .i64 zo] 105
  clear hb4 HA hst3 h0 h1 h2 ho4 hlt3
  have k3 := hst4.nth 3 rfl
  have k4 := hst4.nth 1 rfl
  have E3 := Lib.hid (k3.own.tok (F := fun b => b < (w4.alloc (.cells #[.int .i64 za, .string zb, .int .i64 zo] 105)).heap.size) (fun b hb => (k3.fpOwn b hb).2) HZL.out)
  have E4 := Lib.hid (k4.own.tok (F := fun b => b < (w4.alloc (.cells #[.int .i64 za, .string zb, .int .i64 zo] 105)).heap.size) (fun b hb => (k4.fpOwn b hb).2) HZL.out)
  clear k3 k4
  obtain ⟨k0, k1, k2⟩ := hst4.at3 2 rfl
  have hlt4 := World.block_lt_of_cell? _ _ k0
  go_wp2_with (fail)
  go_at_call 32
  refine (eqToks _ E3.out E4.out).mono ?_
  rintro e w5 ⟨rfl, hb5⟩
  have hst5 := hst4.call hb5
  clear hb5 hst4 E3 E4 k0 k1 k2 hlt4
  obtain ⟨k0, k1, k2⟩ := hst5.at3 4 rfl
  obtain ⟨h0, h1, h2⟩ := hst5.at3 5 rfl
  go_wp2_with (fail)
  go_ret
  exact ⟨by simp, hst5.bel⟩

set_option maxRecDepth 100000 in
set_option maxHeartbeats 8000000 in
theorem feedSays_ok (A : Array Value) (of : List Int) (next : List (List Int)) (tags : List Int) (vn vt : Value) (at_ : Int) (buf : ByteArray) (s : ByteArray) (hs : s.size ≤ 140737488355328) (w : World) (hp : PackedAt w A of next tags vn vt) (he : Fd.err of next tags at_ buf.size 0 = 0) (hl : ¬ 2000 < s.size) :
    Calls Try.prog 11 #[.agg A, .agg #[.int .i64 at_, .string buf, .int .i64 0], .string s] w fun e w' => e = .returned (.bool true) ∧ Below w.heap.size w w' := by
  have hsz : (Try.prog.info? 55).map (·.size) = some A.size := by rw [hp.size]; kernel_rfl
  have HS := Lib.hid hsz; clear hsz
  have hst := ((St.init w).alloc A 55).alloc #[.int .i64 at_, .string buf, .int .i64 0] 105
  simp only [World.size_alloc] at hst
  have HP := Lib.hid hp; clear hp
  have HR := fun w' h => rheld_any A of next tags vn vt at_ buf 0 w' h
  have HE := fun w' h => end_ok A of next tags vn vt at_ buf w' h he
  have HQ := fun w' h => rend_ok A of next tags vn vt at_ buf w' h he
  have HF := fun w' h => feed_ok A of next tags vn vt at_ buf s (by omega) w' h he
  have HT := fun w' h => ftext_ok A of next tags vn vt at_ buf s (by omega) w' h he
  have hxl := Fd.feed_len of next tags s s.size 0 at_ buf []
  generalize Lx.feedGo of next tags s s.size 0 at_ buf [] = X at *
  replace HT := Lib.hid HT
  obtain ⟨xa, xb, xo, xl, xe⟩ := X
  simp only [List.length_nil] at hxl
  have hb65 := (Fd.err_zero he).2.2.2.2.1
  have HXL : Hid ((xl.length : Int) * 24 ≤ 140737488355328) := Lib.hid (by omega)
  clear hxl
  have hzl := Fd.endR_len of next tags buf at_
  generalize Fd.endR (Lx.toks of next tags buf.size buf.data.toList at_ []) (at_ + buf.size) = Z at *
  obtain ⟨za, zb, zo, zl, ze⟩ := Z
  simp only at hzl
  have hb64 := (Fd.err_zero he).2.2.2.2.1
  have HZL : Hid ((zl.length : Int) * 24 ≤ 140737488355328) := Lib.hid (by omega)
  clear hzl
  rw [he] at HR
  replace HQ := Lib.hid HQ
  clear he
  replace HR := Lib.hid HR; replace HF := Lib.hid HF; replace HE := Lib.hid HE
  have HA := Lib.hid (hst.heapAt 1 rfl)
  go_enter Try.func11, Try.ntmps11
  go_wp2_with (first
    | (refine wpList_load_row rfl 55 (.tmp 3) rfl w.heap.size rfl 55 A (0, 0) _ HA.out Try.underlying55 rfl HS.out ?_)
    | fail)
  go_at_call 55
  refine (HR.out _ (HP.out.below hst.bel)).mono ?_
  rintro e w1 ⟨rfl, hb1⟩
  replace hst := hst.call hb1
  clear hb1 HA
  have HA := Lib.hid (hst.heapAt 1 rfl)
  obtain ⟨h0, h1, h2⟩ := hst.at3 0 rfl
  go_wp2_with (first
    | (refine wpList_load_row rfl 55 (.tmp 3) rfl w.heap.size rfl 55 A (0, 0) _ HA.out Try.underlying55 rfl HS.out ?_)
    | fail)
  go_at_call 56
  refine (HF.out _ (HP.out.below hst.bel)).mono ?_
  rintro e w2 ⟨v2, rfl, ho2, hb2⟩
  obtain ⟨a2, c2, rfl⟩ := ho2.isLen
  rw [List.length_map] at ho2 ⊢
  have hst2 := (hst.pushOwn hb2 ho2).alloc #[.int .i64 xa, .string xb, .int .i64 xo] 105
  clear hb2 HA hst h0 h1 h2 ho2
  have HA := Lib.hid (hst2.heapAt 3 rfl)
  obtain ⟨h0, h1, h2⟩ := hst2.at3 2 rfl
  go_wp2_with (first
    | (refine wpList_load_row rfl 55 (.tmp 3) rfl w.heap.size rfl 55 A (0, 0) _ HA.out Try.underlying55 rfl HS.out ?_)
    | fail)
  go_at_call 57
  refine (HE.out _ (HP.out.below hst2.bel)).mono ?_
  rintro e w3 ⟨v3, rfl, ho3, hb3⟩
  obtain ⟨a3, c3, rfl⟩ := ho3.isLen
  rw [List.length_map] at ho3 ⊢
  have hst3 := (hst2.pushOwn hb3 ho3).alloc #[.int .i64 za, .string zb, .int .i64 zo] 105
  clear hb3 HA hst2 h0 h1 h2 ho3
  have HA := Lib.hid (hst3.heapAt 5 rfl)
  obtain ⟨h0, h1, h2⟩ := hst3.at3 4 rfl
  have hlt3 := World.block_lt_of_cell? _ _ h0
  go_wp2_with (first
    | (refine wpList_load_row rfl 55 (.tmp 3) rfl w.heap.size rfl 55 A (0, 0) _ HA.out Try.underlying55 rfl HS.out ?_)
    | fail)
  go_at_call 58
  refine (HQ.out _ (HP.out.below hst3.bel)).mono ?_
  rintro e w4 ⟨v4, rfl, ho4, hb4⟩
  obtain ⟨a4, c4, rfl⟩ := ho4.isLen
  rw [List.length_map] at ho4 ⊢
  have hst4 := (hst3.pushOwn hb4 ho4).alloc #[.int .i64 za, .string zb, .int .i64 zo] 105
  clear hb4 HA hst3 h0 h1 h2 ho4 hlt3
  have k3 := hst4.nth 3 rfl
  have k4 := hst4.nth 1 rfl
  have E3 := Lib.hid (k3.own.tok (F := fun b => b < (w4.alloc (.cells #[.int .i64 za, .string zb, .int .i64 zo] 105)).heap.size) (fun b hb => (k3.fpOwn b hb).2) HZL.out)
  have E4 := Lib.hid (k4.own.tok (F := fun b => b < (w4.alloc (.cells #[.int .i64 za, .string zb, .int .i64 zo] 105)).heap.size) (fun b hb => (k4.fpOwn b hb).2) HZL.out)
  clear k3 k4
  obtain ⟨k0, k1, k2⟩ := hst4.at3 2 rfl
  have hlt4 := World.block_lt_of_cell? _ _ k0
  go_wp2_with (fail)
  go_at_call 32
  refine (eqToks _ E3.out E4.out).mono ?_
  rintro e w5 ⟨rfl, hb5⟩
  have hst5 := hst4.call hb5
  clear hb5 hst4 E3 E4 k0 k1 k2 hlt4
  obtain ⟨k0, k1, k2⟩ := hst5.at3 4 rfl
  obtain ⟨h0, h1, h2⟩ := hst5.at3 6 rfl
  have HA := Lib.hid (hst5.heapAt 7 rfl)
  go_wp2_with (first
    | (refine wpList_load_row rfl 55 (.tmp 3) rfl w.heap.size rfl 55 A (0, 0) _ HA.out Try.underlying55 rfl HS.out ?_)
    | fail)
  go_at_call 59
  refine (HT.out _ (HP.out.below hst5.bel)).mono ?_
  rintro e w6 ⟨v6, rfl, ho6, hb6⟩
  obtain ⟨a6, c6, rfl⟩ := ho6.isLen
  rw [List.length_map] at ho6 ⊢
  have hst6 := (hst5.pushOwn hb6 ho6).get2
  clear hb6 HA hst5 h0 h1 h2 ho6 k0 k1 k2
  obtain ⟨r0, r1, r2, rf0, rf1, rf2⟩ := hst6.cel3
  have hst7 := ((hst6.setCel 0 (.int .i64 xa)).setCel 1 (.string xb)).setCel 2 (.int .i64 xo)
  obtain ⟨k0, k1, k2⟩ := hst7.at3 5 rfl
  have k3 := hst7.nth 6 rfl
  have k4 := hst7.nth 1 rfl
  have E3 := Lib.hid (k3.own.tok (fun b hb => (k3.fpOwn b hb).2) HXL.out)
  have E4 := Lib.hid (k4.own.tok (fun b hb => (k4.fpOwn b hb).2) HXL.out)
  clear k3 k4
  have H7 := Lib.hid hst7
  clear hst6 hst7
  go_wp2_with (fail)
  go_at_call 32
  refine (eqToks _ E3.out E4.out).mono ?_
  rintro e w8 ⟨rfl, hb8⟩
  have hst8 := H7.out.call hb8
  go_wp2_with (fail)
  go_ret
  exact ⟨by simp, hst8.bel⟩

end Go.Proofs.Ytkgpipokfoadiaa
