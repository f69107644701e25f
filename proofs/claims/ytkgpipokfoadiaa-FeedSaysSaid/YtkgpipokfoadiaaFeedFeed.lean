/-
  Feed of package feed: what it computes.
-/
import Derived.Test.YtkgpipokfoadiaaFeedLook
import Derived.Test.YtkgpipokfoadiaaFeedChk
import Derived.Test.YtkgpipokfoadiaaLexTok
import Derived.Deep.RegionLaw
namespace Go.Proofs.Ytkgpipokfoadiaa
set_option linter.unusedVariables false
open Go.ChangeShapes Go.WideShapes Go.ChangeAt Go.RowKit

set_option maxRecDepth 100000 in
theorem look_nil (A : Array Value) (of : List Int) (next : List (List Int)) (tags : List Int) (vn vt : Value) (w : World) (hp : PackedAt w A of next tags vn vt) :
    Calls Try.prog 100 #[.agg A, .string ⟨#[]⟩] w fun e w' => e = .returned (.tuple #[.int .i64 0, .int .i64 0, .bool false]) ∧ Below w.heap.size w w' := by
  have hst := (St.init w).alloc A 55
  have HST := Lib.hid hst; clear hst hp
  go_enter Try.func100, Try.ntmps100
  go_wp2
  generalize w.alloc (.cells A 55) = W at HST ⊢
  go_loopw [4, 5, 7, 8, 13] (fun r t now _ i wr => wr = W ∧ i = .int .i64 0 ∧ r = .int .i64 0 ∧ t = .int .i64 0) (fun _ _ _ _ _ _ => 0)
  case atStart => exact ⟨rfl, rfl, rfl, rfl⟩
  case round =>
    obtain ⟨rfl, rfl, rfl, rfl⟩ := hrel
    go_wp2
    refine bodyPost_ret (v := .tuple #[.int .i64 0, .int .i64 0, .bool false]) (by simp [results, Try.results100, go_sem]) rfl ⟨rfl, HST.out.bel⟩

theorem longest_nil (of next tags) : Lx.longest of next tags [] = (0, 0) := by unfold Lx.longest; rw [Lx.go_nil]
theorem look_all (A : Array Value) (of : List Int) (next : List (List Int)) (tags : List Int) (vn vt : Value) (s : ByteArray) (hs : s.size ≤ 140737488355328) (w : World) (hp : PackedAt w A of next tags vn vt) (hg : Pkd.Good of next tags) :
    Calls Try.prog 100 #[.agg A, .string s] w fun e w' => e = .returned (.tuple #[.int .i64 (Lx.longest of next tags s.data.toList).1, .int .i64 (Lx.longest of next tags s.data.toList).2, .bool (Lx.sure of next s.data.toList)]) ∧ Below w.heap.size w w' := by
  by_cases h : s.data.toList = []
  · have he : s = ⟨#[]⟩ := by apply ByteArray.ext; exact Array.toList_eq_nil_iff.1 h
    subst he
    have e1 : Lx.longest of next tags (⟨#[]⟩ : ByteArray).data.toList = (0, 0) := longest_nil of next tags
    have e2 : Lx.sure of next (⟨#[]⟩ : ByteArray).data.toList = false := Lx.sure_nil
    rw [e1, e2]
    exact look_nil A of next tags vn vt w hp
  · rw [Lx.sure_cons h]
    exact look_any A of next tags vn vt s hs h w hp hg

namespace Fd
def bufLen (H : Nat) (wr : World) : Nat := match wr.cell? ⟨H, 1, none⟩ with | some (.string b) => b.size | _ => 0
theorem bufLen_of {H : Nat} {wr : World} {b : ByteArray} (h : wr.cell? ⟨H, 1, none⟩ = some (.string b)) : bufLen H wr = b.size := by unfold bufLen; rw [h]
section
variable {of : List Int} {next : List (List Int)} {tags : List Int} {s : ByteArray} {n i : Nat} {a : Int} {b : ByteArray} {out : List (Int × Int × Int)} {Y : Bool × Int × ByteArray × List (Int × Int × Int)}
theorem feed_bad (h : Lx.cutGo of next tags ((b ++ s.extract i (i + 1)).size + 1) a (b ++ s.extract i (i + 1)) out = Y) (hY : Y.1 = false) : Lx.feedGo of next tags s (n + 1) i a b out = ⟨Y.2.1, ⟨#[]⟩, 9, Y.2.2.2, 9⟩ := by
  rw [Lx.feedGo]; simp only [h]; rw [if_pos hY]
theorem feed_hold (h : Lx.cutGo of next tags ((b ++ s.extract i (i + 1)).size + 1) a (b ++ s.extract i (i + 1)) out = Y) (hY : Y.1 = true) (h1 : 64 < Y.2.2.1.size) : Lx.feedGo of next tags s (n + 1) i a b out = ⟨Y.2.1, ⟨#[]⟩, 10, Y.2.2.2, 10⟩ := by
  rw [Lx.feedGo]; simp only [h]; rw [if_neg (by simp [hY]), if_pos h1]
theorem feed_next (h : Lx.cutGo of next tags ((b ++ s.extract i (i + 1)).size + 1) a (b ++ s.extract i (i + 1)) out = Y) (hY : Y.1 = true) (h1 : ¬ 64 < Y.2.2.1.size) : Lx.feedGo of next tags s (n + 1) i a b out = Lx.feedGo of next tags s n (i + 1) Y.2.1 Y.2.2.1 Y.2.2.2 := by
  rw [Lx.feedGo]; simp only [h]; rw [if_neg (by simp [hY]), if_neg h1]
theorem feed_end : Lx.feedGo of next tags s 0 i a b out = ⟨a, b, 0, out, 0⟩ := rfl
end
attribute [irreducible] bufLen
def RetFed (x : Lx.Fed) (w : World) (e : Ending) (w' : World) : Prop :=
  ∃ v, e = .returned (.tuple #[.agg #[.int .i64 x.at_, .string x.buf, .int .i64 x.over], v, .int .i64 x.err]) ∧ Own w' w.heap.size 61 3 v (x.out.map tokV) ∧ Below w.heap.size w w'
def FeedRel (of : List Int) (next : List (List Int)) (tags : List Int) (s : ByteArray) (X : Lx.Fed) (w : World) (A : Array Value) (o i : Value) (wr : World) : Prop :=
  ∃ (k : Nat) (a : Int) (b : ByteArray) (out : List (Int × Int × Int)), k ≤ s.size ∧ i = .int .i64 k ∧ 0 ≤ a ∧ a + b.size ≤ 1099511627840 + k ∧ b.size ≤ 64 ∧ out.length + b.size ≤ 64 + k ∧
    St w wr [aOwn 61 3 o (out.map tokV), aCel (w.heap.size + 1) 105 #[.int .i64 a, .string b, .int .i64 0], aCel (w.heap.size + 1 + 1) 105 #[.int .i64 0, .string ⟨#[]⟩, .int .i64 0], aCel w.heap.size 55 A] ∧ Hid (Lx.feedGo of next tags s (s.size - k) k a b out = X)
def CutRel (of : List Int) (next : List (List Int)) (tags : List Int) (k : Nat) (Y : Bool × Int × ByteArray × List (Int × Int × Int)) (w : World) (A : Array Value) (o : Value) (wr : World) : Prop :=
  ∃ (n : Nat) (a : Int) (b : ByteArray) (out : List (Int × Int × Int)), b.size < n ∧ 0 ≤ a ∧ a + b.size ≤ 1099511627840 + k + 1 ∧ b.size ≤ 65 ∧ out.length + b.size ≤ 64 + k + 1 ∧
    St w wr [aOwn 61 3 o (out.map tokV), aCel (w.heap.size + 1) 105 #[.int .i64 a, .string b, .int .i64 0], aCel (w.heap.size + 1 + 1) 105 #[.int .i64 0, .string ⟨#[]⟩, .int .i64 0], aCel w.heap.size 55 A] ∧ Hid (Lx.cutGo of next tags n a b out = Y)
end Fd

set_option maxRecDepth 100000 in
set_option maxHeartbeats 8000000 in
theorem feed_ok (A : Array Value) (of : List Int) (next : List (List Int)) (tags : List Int) (vn vt : Value) (at_ : Int) (buf s : ByteArray) (hs : s.size ≤ 2000) (w : World) (hp : PackedAt w A of next tags vn vt) (he : Fd.err of next tags at_ buf.size 0 = 0) :
    Calls Try.prog 56 #[.agg A, .agg #[.int .i64 at_, .string buf, .int .i64 0], .string s] w (Fd.RetFed (Lx.feedGo of next tags s s.size 0 at_ buf []) w) := by
  have hsz : (Try.prog.info? 55).map (·.size) = some A.size := by rw [hp.size]; kernel_rfl
  have HS := Lib.hid hsz; clear hsz
  obtain ⟨h200, hg, ha0, ha1, hb64, _⟩ := Fd.err_zero he
  have hst := (((St.init w).alloc A 55).alloc #[.int .i64 at_, .string buf, .int .i64 0] 105).alloc #[.int .i64 0, .string ⟨#[]⟩, .int .i64 0] 105
  simp only [World.size_alloc] at hst
  have HP := Lib.hid hp; clear hp
  have HG := Lib.hid hg; clear hg
  have HCK := fun w' h => feedCheck_any A of next tags vn vt at_ buf 0 w' h
  rw [he] at HCK
  replace HCK := Lib.hid HCK
  clear he
  have HA := Lib.hid (hst.heapAt 2 rfl)
  generalize hX : Lx.feedGo of next tags s s.size 0 at_ buf [] = X
  have HX : Hid (Lx.feedGo of next tags s (s.size - 0) 0 at_ buf [] = X) := Lib.hid (by rw [← hX]; rfl)
  clear hX
  go_enter Try.func56, Try.ntmps56
  go_wp2_with (first
    | (refine wpList_load_row rfl 55 (.tmp 3) rfl w.heap.size rfl 55 A (0, 0) _ HA.out Try.underlying55 rfl HS.out ?_)
    | fail)
  go_at_call 99
  refine (HCK.out _ (HP.out.below hst.bel)).mono ?_
  rintro e w1 ⟨rfl, hb1⟩
  replace hst := hst.call hb1
  clear hb1 HA
  go_wp2
  have hst2 := (hst.get2).nilOwn 61 3
  clear hst
  go_loopw [10, 11, 12, 13, 14, 15, 29] (fun o _ _ _ _ _ i wr => Fd.FeedRel of next tags s X w A o i wr) (fun _ _ _ _ _ _ i _ => s.size - (intOf i).toNat)
  case atStart => exact ⟨0, at_, buf, [], by omega, rfl, ha0, by omega, hb64, by simp; omega, hst2, HX⟩
  case round =>
    clear hst2 HX ha0 ha1 hb64
    obtain ⟨k, a, b, out, hk, rfl, ha0, ha1, hb64, hol, hst, hgo⟩ := hrel
    by_cases hlt : k < s.size
    · obtain ⟨h0, h1, h2, hf0, hf1, hf2⟩ := (hst.nth 1 rfl).cel3
      have HST := Lib.hid hst.drew
      have HGO := Lib.hid hgo.out
      clear hst hgo
      go_wp2
      have hlt2 : (k : Int) + 1 ≤ s.size := by omega
      have hpos : (0 : Int) ≤ (k : Int) + 1 := by omega
      have hle2 : (k : Int) ≤ (k : Int) + 1 := by omega
      have htn : ((k : Int) + 1).toNat = k + 1 := by omega
      have hc1 : (s.extract k (k + 1)).size = 1 := by rw [ByteArray.size_extract]; omega
      have hadd : ∀ W, (Op.stringOp .add b (s.extract k (k + 1))).run Try.prog W = .ok (.string (b ++ s.extract k (k + 1))) W := fun W => run_string_add_sum W _ _ (by omega)
      have hbs : (b ++ s.extract k (k + 1)).size = b.size + 1 := by rw [ByteArray.size_append, hc1]
      have HBS := Lib.hid hbs
      clear hc1 hbs
      have hwr : IntKind.i64.wrap ((k : Int) + 1) = (k : Int) + 1 := IntWalk.i64_in _ ⟨by omega, by omega⟩
      go_still_tail 9, (by kernel_rfl)
      change wpList _ _ _ _ _ wr.drew
      have h1' : wr.drew.cell? ⟨w.heap.size + 1, 1, none⟩ = _ := h1
      have hf1' : wr.drew.frozen? ⟨w.heap.size + 1, 1, none⟩ = false := hf1
      generalize wr.drew = wd at *
      clear h0 h1 h2 hf0 hf1 hf2 hlt2 hpos hle2 htn hwr hadd
      go_wp2
      obtain ⟨mm, hmm⟩ : ∃ mm, s.size - k = mm + 1 := ⟨s.size - k - 1, by omega⟩
      generalize hb1 : b ++ s.extract k (k + 1) = b1 at *
      generalize hY : Lx.cutGo of next tags (b1.size + 1) a b1 out = Y
      have HY : Hid (Lx.cutGo of next tags ((b ++ s.extract k (k + 1)).size + 1) a (b ++ s.extract k (k + 1)) out = Y) := Lib.hid (by rw [hb1]; exact hY)
      have HYC := Lib.hid hY
      have hgo := HGO.out
      rw [hmm] at hgo
      have HGO2 := Lib.hid hgo
      have hstI := (HST.out.get2.setCel 1 (.string b1)).get2
      have HMM := Lib.hid hmm
      have hb1s := HBS.out
      clear hb1 hY hgo hmm HST HGO h1' hf1'
      generalize wd.setCell ⟨w.heap.size + 1, 1, none⟩ (.string b1) = W2 at hstI ⊢
      clear wd wr
      go_loopw [10, 12, 13, 14, 15] (fun o _ _ _ _ ww => Fd.CutRel of next tags k Y w A o ww) (fun _ _ _ _ _ ww => Fd.bufLen (w.heap.size + 1) ww)
      case atStart => exact ⟨b1.size + 1, a, b1, out, by omega, ha0, by omega, by omega, by omega, hstI, HYC⟩
      case round =>
        have HKEEP : Hid (∃ (a : Int) (b : ByteArray) (out : List (Int × Int × Int)), Lx.feedGo of next tags s (mm + 1) k a b out = X ∧ Lx.cutGo of next tags ((b ++ s.extract k (k + 1)).size + 1) a (b ++ s.extract k (k + 1)) out = Y) := Lib.hid ⟨a, b, out, HGO2.out, HY.out⟩
        clear hstI HYC HY HGO2 hb1s HBS ha0 ha1 hb64 hol
        obtain ⟨n, a, b, out, hbn, ha0, ha1, hb64, hol, hst, hcg⟩ := hrel
        obtain ⟨h0, h1, h2, hf0, hf1, hf2⟩ := (hst.nth 1 rfl).cel3
        obtain ⟨r0, r1, r2, rf0, rf1, rf2⟩ := (hst.nth 2 rfl).cel3
        have HPH := Lib.hid (hst.heapAt 3 rfl)
        have HLK := fun w' h => look_all A of next tags vn vt b (by omega) w' h HG.out
        have hlin := Lx.longest_in of next tags b.data.toList
        simp only [Array.length_toList, ByteArray.size_data] at hlin
        have hcg2 := hcg.out
        have hBL := Fd.bufLen_of h1
        have HBL := Lib.hid hBL
        clear hcg hBL
        generalize hy : Lx.longest of next tags b.data.toList = y at *
        obtain ⟨y1, y2⟩ := y
        obtain ⟨hl0, hl1⟩ := hlin
        simp only at hl0 hl1 HLK
        have HY := Lib.hid hy; clear hy
        cases hsu : Lx.sure of next b.data.toList
        · rw [hsu] at HLK
          replace HLK := Lib.hid HLK
          rw [Lx.cut_open hsu] at hcg2
          subst hcg2
          clear hsu
          go_wp2_with (first
            | (refine wpList_load_row rfl 55 (.tmp 3) rfl w.heap.size rfl 55 A (0, 0) _ HPH.out Try.underlying55 rfl HS.out ?_)
            | fail)
          go_at_call 100
          refine (HLK.out _ (HP.out.below hst.bel)).mono ?_
          rintro e w3 ⟨rfl, hb3⟩
          replace hst := hst.call hb3
          clear hb3 h0 h1 h2 hf0 hf1 hf2 r0 r1 r2 rf0 rf1 rf2 HPH
          obtain ⟨h0, h1, h2, hf0, hf1, hf2⟩ := (hst.nth 1 rfl).cel3
          obtain ⟨r0, r1, r2, rf0, rf1, rf2⟩ := (hst.nth 2 rfl).cel3
          obtain ⟨a8, b8, o8, hfe, hcu⟩ := HKEEP.out
          by_cases h64 : 64 < b.size
          · rw [Fd.feed_hold hcu rfl h64] at hfe
            subst hfe
            clear hcu
            obtain ⟨av, nv, cv, hv⟩ : ∃ x n c, u10 = .slice x n c := by obtain ⟨x, c, h⟩ := hst.own.isLen; exact ⟨_, _, _, h⟩
            subst hv
            have hst9 := ((hst.get3.setCel 0 (.int .i64 a)).setCel 1 (.string ⟨#[]⟩)).setCel 2 (.int .i64 10)
            have H9 := Lib.hid hst9
            clear hst9 hst
            go_wp2
            obtain ⟨k0, k1, k2⟩ := H9.out.at3 0 rfl
            exact bodyPost_ret (v := .tuple #[.agg #[.int .i64 a, .string ⟨#[]⟩, .int .i64 10], .slice av nv cv, .int .i64 10]) (by simp [results, Try.results56, go_sem, k0, k1, k2]) rfl ⟨_, rfl, H9.out.get2.own, H9.out.bel⟩
          · rw [Fd.feed_next hcu rfl h64] at hfe
            have HFE := Lib.hid hfe
            clear hcu hfe
            go_wp2
            go_roundw
            case rel => exact ⟨k + 1, a, b, out, by omega, by go_num, ha0, by omega, by omega, by omega, hst, Lib.hid (by rw [show s.size - (k + 1) = mm by have := HMM.out; omega]; exact HFE.out)⟩
            case measure => simp [intOf]; omega
        · rw [hsu] at HLK
          replace HLK := Lib.hid HLK
          obtain ⟨n', rfl⟩ : ∃ n', n = n' + 1 := ⟨n - 1, by omega⟩
          by_cases hz : y2 = 0
          · rw [Lx.cut_bad hsu (by rw [HY.out]; exact hz)] at hcg2
            subst hcg2 hz
            clear hsu
            go_wp2_with (first
              | (refine wpList_load_row rfl 55 (.tmp 3) rfl w.heap.size rfl 55 A (0, 0) _ HPH.out Try.underlying55 rfl HS.out ?_)
              | fail)
            go_at_call 100
            refine (HLK.out _ (HP.out.below hst.bel)).mono ?_
            rintro e w3 ⟨rfl, hb3⟩
            replace hst := hst.call hb3
            clear hb3 h0 h1 h2 hf0 hf1 hf2 r0 r1 r2 rf0 rf1 rf2 HPH
            obtain ⟨h0, h1, h2, hf0, hf1, hf2⟩ := (hst.nth 1 rfl).cel3
            obtain ⟨r0, r1, r2, rf0, rf1, rf2⟩ := (hst.nth 2 rfl).cel3
            obtain ⟨a8, b8, o8, hfe, hcu⟩ := HKEEP.out
            rw [Fd.feed_bad hcu rfl] at hfe
            subst hfe
            clear hcu
            obtain ⟨av, nv, cv, hv⟩ : ∃ x n c, u10 = .slice x n c := by obtain ⟨x, c, h⟩ := hst.own.isLen; exact ⟨_, _, _, h⟩
            subst hv
            have hst9 := ((hst.get3.setCel 0 (.int .i64 a)).setCel 1 (.string ⟨#[]⟩)).setCel 2 (.int .i64 9)
            have H9 := Lib.hid hst9
            clear hst9 hst
            go_wp2
            obtain ⟨k0, k1, k2⟩ := H9.out.at3 0 rfl
            exact bodyPost_ret (v := .tuple #[.agg #[.int .i64 a, .string ⟨#[]⟩, .int .i64 9], .slice av nv cv, .int .i64 9]) (by simp [results, Try.results56, go_sem, k0, k1, k2]) rfl ⟨_, rfl, H9.out.get2.own, H9.out.bel⟩
          · rw [Lx.cut_step hsu (by rw [HY.out]; exact hz), HY.out] at hcg2
            simp only at hcg2
            have hyz : (y2 == 0) = false := by rw [beq_eq_false_iff_ne]; exact hz
            obtain ⟨y2, rfl⟩ := Int.eq_ofNat_of_zero_le hl0
            rw [Int.toNat_natCast] at hcg2
            have HCG := Lib.hid hcg2
            have hpos : 0 < y2 := by omega
            clear hsu hcg2 hz
            go_wp2_with (first
              | (refine wpList_load_row rfl 55 (.tmp 3) rfl w.heap.size rfl 55 A (0, 0) _ HPH.out Try.underlying55 rfl HS.out ?_)
              | fail)
            go_at_call 100
            refine (HLK.out _ (HP.out.below hst.bel)).mono ?_
            rintro e w3 ⟨rfl, hb3⟩
            replace hst := hst.call hb3
            clear hb3 h0 h1 h2 hf0 hf1 hf2 r0 r1 r2 rf0 rf1 rf2 HPH
            obtain ⟨h0, h1, h2, hf0, hf1, hf2⟩ := (hst.nth 1 rfl).cel3
            obtain ⟨r0, r1, r2, rf0, rf1, rf2⟩ := (hst.nth 2 rfl).cel3
            have hlt3 := World.block_lt_of_cell? _ _ h0
            have hst4 := hst.alloc #[.int .i64 0, .int .i64 0, .int .i64 0] 61
            go_wp2_with (fail)
            go_at_call 101
            refine (cut_any a b 0 y1 y2 ha0 (by omega) (by omega) (by omega) _).mono ?_
            rintro e w4 ⟨rfl, hb4⟩
            have hst5 := hst4.call hb4
            clear hb4 hst4 hst h0 h1 h2 hf0 hf1 hf2 hlt3
            obtain ⟨z0, z1, z2, zf0, zf1, zf2⟩ := hst5.cel3
            obtain ⟨h0, h1, h2, hf0, hf1, hf2⟩ := (hst5.nth 2 rfl).cel3
            have hne : w3.heap.size ≠ w.heap.size + 1 := by
              have := hst5.sep
              intro e
              simp [aCel, e, aOwn] at this
            have hst6 := ((hst5.get3.setCel 0 (.int .i64 (a + y2))).setCel 1 (.string (b.extract y2 b.size))).setCel 2 (.int .i64 0)
            have hst7 := (((hst6.get2.setCel 0 (.int .i64 y1)).setCel 1 (.int .i64 a)).setCel 2 (.int .i64 (a + y2))).get3
            have H7 := Lib.hid hst7
            clear hst5 hst6 hst7
            go_wp2_with (at_builtin; refine St.app1n tokE rfl (.tmp 64) (.tmp 66) rfl rfl H7.out (tokV (y1, a, a + y2)) rfl _ 1 rfl (by simp) rfl (tok_one _) (by rw [List.length_map]; unfold maxLen; omega) (by rw [List.length_map]; omega) ?_; intro g9 n9 cap9 w9 hst9)
            go_roundw
            case rel =>
              refine ⟨n', a + y2, b.extract y2 b.size, out ++ [(y1, a, a + y2)], ?_, by omega, ?_, ?_, ?_, ?_, HCG⟩
              · rw [ByteArray.size_extract]; omega
              · rw [ByteArray.size_extract]; omega
              · rw [ByteArray.size_extract]; omega
              · rw [ByteArray.size_extract, List.length_append, List.length_singleton]; omega
              · rw [List.map_append]; exact hst9.get2.drop
            case measure =>
              rw [HBL.out, Fd.bufLen_of (b := b.extract y2 b.size) ((hst9.nth 2 rfl).celAt rfl), ByteArray.size_extract]; omega
    · have he := hgo.out
      rw [show s.size - k = 0 by omega, Fd.feed_end] at he
      subst he
      clear hgo
      obtain ⟨av, nv, cv, hv⟩ : ∃ x n c, u10 = .slice x n c := by obtain ⟨x, c, h⟩ := hst.own.isLen; exact ⟨_, _, _, h⟩
      subst hv
      obtain ⟨h0, h1, h2⟩ := hst.at3 1 rfl
      obtain ⟨r0, r1, r2, rf0, rf1, rf2⟩ := (hst.nth 2 rfl).cel3
      have hst9 := ((hst.get3.setCel 0 (.int .i64 a)).setCel 1 (.string b)).setCel 2 (.int .i64 0)
      have H9 := Lib.hid hst9
      clear hst9 hst
      go_wp2
      obtain ⟨k0, k1, k2⟩ := H9.out.at3 0 rfl
      exact bodyPost_ret (v := .tuple #[.agg #[.int .i64 a, .string b, .int .i64 0], .slice av nv cv, .int .i64 0]) (by simp [results, Try.results56, go_sem, k0, k1, k2]) rfl ⟨_, rfl, H9.out.get2.own, H9.out.bel⟩
end Go.Proofs.Ytkgpipokfoadiaa
