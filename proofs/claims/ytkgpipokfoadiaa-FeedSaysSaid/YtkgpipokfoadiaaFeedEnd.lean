/-
  End of package feed: what it computes.
-/
import Derived.Test.YtkgpipokfoadiaaFeedFeed
namespace Go.Proofs.Ytkgpipokfoadiaa
set_option linter.unusedVariables false
open Go.ChangeShapes Go.WideShapes Go.ChangeAt Go.RowKit

namespace Fd
/-- What End tells. -/
def endR (x : List (Int × Int × Int) × Int) (t : Int) : Lx.Fed := if x.2 = -1 then ⟨t, ⟨#[]⟩, 15, x.1, 0⟩ else ⟨x.2, ⟨#[]⟩, 9, x.1, 9⟩
theorem endR_ok {x : List (Int × Int × Int) × Int} {t : Int} (h : x.2 = -1) : endR x t = ⟨t, ⟨#[]⟩, 15, x.1, 0⟩ := by rw [endR, if_pos h]
theorem endR_bad {x : List (Int × Int × Int) × Int} {t : Int} (h : x.2 ≠ -1) : endR x t = ⟨x.2, ⟨#[]⟩, 9, x.1, 9⟩ := by rw [endR, if_neg h]
def EndRel (of : List Int) (next : List (List Int)) (tags : List Int) (T : Int) (B : Nat) (X : List (Int × Int × Int) × Int) (w : World) (A : Array Value) (o : Value) (wr : World) : Prop :=
  ∃ (n : Nat) (a : Int) (b : ByteArray) (out : List (Int × Int × Int)), b.size ≤ n ∧ 0 ≤ a ∧ a + b.size = T ∧ out.length + b.size ≤ B ∧ St w wr [aOwn 61 3 o (out.map tokV), aCel (w.heap.size + 1) 105 #[.int .i64 a, .string b, .int .i64 0], aCel (w.heap.size + 1 + 1) 105 #[.int .i64 0, .string ⟨#[]⟩, .int .i64 0], aCel w.heap.size 55 A] ∧ Hid (Lx.toks of next tags n b.data.toList a out = X)
end Fd

set_option maxRecDepth 100000 in
set_option maxHeartbeats 8000000 in
theorem end_ok (A : Array Value) (of : List Int) (next : List (List Int)) (tags : List Int) (vn vt : Value) (at_ : Int) (buf : ByteArray) (w : World) (hp : PackedAt w A of next tags vn vt) (he : Fd.err of next tags at_ buf.size 0 = 0) :
    Calls Try.prog 57 #[.agg A, .agg #[.int .i64 at_, .string buf, .int .i64 0]] w (Fd.RetFed (Fd.endR (Lx.toks of next tags buf.size buf.data.toList at_ []) (at_ + buf.size)) w) := by
  have hsz : (Try.prog.info? 55).map (·.size) = some A.size := by rw [hp.size]; kernel_rfl
  have HS := Lib.hid hsz; clear hsz
  obtain ⟨h200, hg, ha0, ha1, hb64, _⟩ := Fd.err_zero he
  have hst := (((St.init w).alloc A 55).alloc #[.int .i64 at_, .string buf, .int .i64 0] 105).alloc #[.int .i64 0, .string ⟨#[]⟩, .int .i64 0] 105
  simp only [World.size_alloc] at hst
  have HP := Lib.hid hp; clear hp
  have HG := Lib.hid hg; clear hg
  have HCK := fun w' h => feedCheck_any A of next tags vn vt at_ buf 0 w' h
  rw [he] at HCK
  replace HCK := Lib.hid HCK
  clear he
  have HA := Lib.hid (hst.heapAt 2 rfl)
  generalize hX : Lx.toks of next tags buf.size buf.data.toList at_ [] = X
  have HX := Lib.hid hX
  clear hX
  generalize hT : at_ + (buf.size : Int) = T
  have hT1 : T ≤ 1099511627840 := by omega
  generalize hR : Fd.endR X T = R
  have HR := Lib.hid hR
  clear hR
  go_enter Try.func57, Try.ntmps57
  go_wp2_with (first
    | (refine wpList_load_row rfl 55 (.tmp 2) rfl w.heap.size rfl 55 A (0, 0) _ HA.out Try.underlying55 rfl HS.out ?_)
    | fail)
  go_at_call 99
  refine (HCK.out _ (HP.out.below hst.bel)).mono ?_
  rintro e w1 ⟨rfl, hb1⟩
  replace hst := hst.call hb1
  clear hb1 HA
  go_wp2
  have hst2 := (hst.get2).nilOwn 61 3
  clear hst
  go_loopw [8, 9, 10, 11, 12] (fun o _ _ _ _ ww => Fd.EndRel of next tags T buf.size X w A o ww) (fun _ _ _ _ _ ww => Fd.bufLen (w.heap.size + 1) ww)
  case atStart => exact ⟨buf.size, at_, buf, [], by omega, ha0, hT, by simp, hst2, HX⟩
  case round =>
    clear hst2 HX ha0 ha1 hT
    obtain ⟨n, a, b, out, hbn, ha0, hT, hol, hst, htk⟩ := hrel
    obtain ⟨h0, h1, h2, hf0, hf1, hf2⟩ := (hst.nth 1 rfl).cel3
    obtain ⟨r0, r1, r2, rf0, rf1, rf2⟩ := (hst.nth 2 rfl).cel3
    have HPH := Lib.hid (hst.heapAt 3 rfl)
    have HLK := Lib.hid (fun w' h => look_all A of next tags vn vt b (by omega) w' h HG.out)
    have hlin := Lx.longest_in of next tags b.data.toList
    simp only [Array.length_toList, ByteArray.size_data] at hlin
    have htk2 := htk.out
    have hBL := Fd.bufLen_of h1
    have HBL := Lib.hid hBL
    clear htk hBL
    by_cases hbe : b.data.toList = []
    · have hb0 : b.size = 0 := by have := congrArg List.length hbe; simpa using this
      rw [hbe, Lx.toks_end] at htk2
      have hemp : (!b.toList.isEmpty) = false := by rw [ByteArray.toList_eq, hbe]; rfl
      have hr := HR.out
      rw [Fd.endR_ok (by rw [← htk2]), ← htk2, show T = a by omega] at hr
      subst hr
      clear htk2 HLK HBL hbe
      obtain ⟨av, nv, cv, hv⟩ : ∃ x n c, u8 = .slice x n c := by obtain ⟨x, c, h⟩ := hst.own.isLen; exact ⟨_, _, _, h⟩
      subst hv
      have hst9 := ((hst.get3.setCel 0 (.int .i64 a)).setCel 1 (.string ⟨#[]⟩)).setCel 2 (.int .i64 15)
      have H9 := Lib.hid hst9
      clear hst9 hst
      go_wp2
      obtain ⟨k0, k1, k2⟩ := H9.out.at3 0 rfl
      exact bodyPost_ret (v := .tuple #[.agg #[.int .i64 a, .string ⟨#[]⟩, .int .i64 15], .slice av nv cv, .int .i64 0]) (by simp [results, Try.results57, go_sem, k0, k1, k2]) rfl ⟨_, rfl, H9.out.get2.own, H9.out.bel⟩
    have hbsz : b.size ≠ 0 := by intro h; apply hbe; exact List.eq_nil_of_length_eq_zero (by simpa using h)
    have hemp := nonempty' hbsz
    obtain ⟨n', rfl⟩ : ∃ n', n = n' + 1 := ⟨n - 1, by omega⟩
    generalize hy : Lx.longest of next tags b.data.toList = y at *
    obtain ⟨y1, y2⟩ := y
    obtain ⟨hl0, hl1⟩ := hlin
    simp only at hl0 hl1 HLK
    have HY := Lib.hid hy; clear hy
    by_cases hz : y2 = 0
    · rw [Lx.toks_bad hbe (by rw [HY.out]; exact hz)] at htk2
      have hr := HR.out
      rw [Fd.endR_bad (by rw [← htk2]; simp only; omega), ← htk2] at hr
      subst hr hz
      clear htk2 hbe hbsz
      go_wp2_with (first
        | (refine wpList_load_row rfl 55 (.tmp 2) rfl w.heap.size rfl 55 A (0, 0) _ HPH.out Try.underlying55 rfl HS.out ?_)
        | fail)
      go_at_call 100
      refine (HLK.out _ (HP.out.below hst.bel)).mono ?_
      rintro e w3 ⟨rfl, hb3⟩
      replace hst := hst.call hb3
      clear hb3 h0 h1 h2 hf0 hf1 hf2 r0 r1 r2 rf0 rf1 rf2 HPH
      obtain ⟨h0, h1, h2, hf0, hf1, hf2⟩ := (hst.nth 1 rfl).cel3
      obtain ⟨r0, r1, r2, rf0, rf1, rf2⟩ := (hst.nth 2 rfl).cel3
      obtain ⟨av, nv, cv, hv⟩ : ∃ x n c, u8 = .slice x n c := by obtain ⟨x, c, h⟩ := hst.own.isLen; exact ⟨_, _, _, h⟩
      subst hv
      have hst9 := ((hst.get3.setCel 0 (.int .i64 a)).setCel 1 (.string ⟨#[]⟩)).setCel 2 (.int .i64 9)
      have H9 := Lib.hid hst9
      clear hst9 hst
      go_wp2
      obtain ⟨k0, k1, k2⟩ := H9.out.at3 0 rfl
      exact bodyPost_ret (v := .tuple #[.agg #[.int .i64 a, .string ⟨#[]⟩, .int .i64 9], .slice av nv cv, .int .i64 9]) (by simp [results, Try.results57, go_sem, k0, k1, k2]) rfl ⟨_, rfl, H9.out.get2.own, H9.out.bel⟩
    · rw [Lx.toks_step hbe (by rw [HY.out]; exact hz), HY.out] at htk2
      simp only at htk2
      have hyz : (y2 == 0) = false := by rw [beq_eq_false_iff_ne]; exact hz
      obtain ⟨y2, rfl⟩ := Int.eq_ofNat_of_zero_le hl0
      rw [Int.toNat_natCast] at htk2
      have HCG : Hid (Lx.toks of next tags n' (b.extract y2 b.size).data.toList (a + y2) (out ++ [(y1, a, a + y2)]) = X) := Lib.hid (by rw [Lib.extract_to_end]; exact htk2)
      have hpos : 0 < y2 := by omega
      clear htk2 hz hbe hbsz
      go_wp2_with (first
        | (refine wpList_load_row rfl 55 (.tmp 2) rfl w.heap.size rfl 55 A (0, 0) _ HPH.out Try.underlying55 rfl HS.out ?_)
        | fail)
      go_at_call 100
      refine (HLK.out _ (HP.out.below hst.bel)).mono ?_
      rintro e w3 ⟨rfl, hb3⟩
      replace hst := hst.call hb3
      clear hb3 h0 h1 h2 hf0 hf1 hf2 r0 r1 r2 rf0 rf1 rf2 HPH
      obtain ⟨h0, h1, h2, hf0, hf1, hf2⟩ := (hst.nth 1 rfl).cel3
      obtain ⟨r0, r1, r2, rf0, rf1, rf2⟩ := (hst.nth 2 rfl).cel3
      have hlt3 := World.block_lt_of_cell? _ _ h0
      have hst4 := hst.alloc #[.int .i64 0, .int .i64 0, .int .i64 0] 61
      go_wp2_with (fail)
      go_at_call 101
      refine (cut_any a b 0 y1 y2 ha0 (by omega) (by omega) (by omega) _).mono ?_
      rintro e w4 ⟨rfl, hb4⟩
      have hst5 := hst4.call hb4
      clear hb4 hst4 hst h0 h1 h2 hf0 hf1 hf2 hlt3
      obtain ⟨z0, z1, z2, zf0, zf1, zf2⟩ := hst5.cel3
      obtain ⟨h0, h1, h2, hf0, hf1, hf2⟩ := (hst5.nth 2 rfl).cel3
      have hne : w3.heap.size ≠ w.heap.size + 1 := by
        have := hst5.sep
        intro e
        simp [aCel, e, aOwn] at this
      have hst6 := ((hst5.get3.setCel 0 (.int .i64 (a + y2))).setCel 1 (.string (b.extract y2 b.size))).setCel 2 (.int .i64 0)
      have hst7 := (((hst6.get2.setCel 0 (.int .i64 y1)).setCel 1 (.int .i64 a)).setCel 2 (.int .i64 (a + y2))).get3
      have H7 := Lib.hid hst7
      clear hst5 hst6 hst7
      go_wp2_with (at_builtin; refine St.app1n tokE rfl (.tmp 44) (.tmp 46) rfl rfl H7.out (tokV (y1, a, a + y2)) rfl _ 1 rfl (by simp) rfl (tok_one _) (by rw [List.length_map]; unfold maxLen; omega) (by rw [List.length_map]; omega) ?_; intro g9 n9 cap9 w9 hst9)
      go_roundw
      case rel =>
        refine ⟨n', a + y2, b.extract y2 b.size, out ++ [(y1, a, a + y2)], ?_, by omega, ?_, ?_, ?_, HCG⟩
        · rw [ByteArray.size_extract]; omega
        · rw [ByteArray.size_extract]; omega
        · rw [ByteArray.size_extract, List.length_append, List.length_singleton]; omega
        · rw [List.map_append]; exact hst9.get2.drop
      case measure =>
        rw [HBL.out, Fd.bufLen_of (b := b.extract y2 b.size) ((hst9.nth 2 rfl).celAt rfl), ByteArray.size_extract]; omega
end Go.Proofs.Ytkgpipokfoadiaa
