/-
  FeedText of the reference: what it computes.
-/
import Derived.Test.YtkgpipokfoadiaaFeedFeed
namespace Go.Proofs.Ytkgpipokfoadiaa
set_option linter.unusedVariables false
open Go.ChangeShapes Go.WideShapes Go.ChangeAt Go.RowKit

theorem St.rot6 {w0 w : World} {a b c d e f : Asrt} (h : St w0 w [a, b, c, d, e, f]) : St w0 w [a, e, d, f, b, c] :=
  h.perm (((List.perm_append_comm (l₁ := [b, c]) (l₂ := [d, e, f])).trans (List.Perm.swap _ _ _)).cons _)
namespace Fd
def TextRel (of : List Int) (next : List (List Int)) (tags : List Int) (s : ByteArray) (X : Lx.Fed) (w : World) (A : Array Value) (D : Nat) (v0 v1 : Value) (o i : Value) (wr : World) : Prop :=
  ∃ (k : Nat) (a : Int) (b : ByteArray) (out : List (Int × Int × Int)), k ≤ s.size ∧ i = .int .i64 k ∧ 0 ≤ a ∧ a + b.size ≤ 1099511627840 + k ∧ b.size ≤ 64 ∧ out.length + b.size ≤ 64 + k ∧
    St w wr [aOwn 61 3 o (out.map tokV), aCel (w.heap.size + 1) 105 #[.int .i64 a, .string b, .int .i64 0], aCel (w.heap.size + 1 + 1) 105 #[.int .i64 0, .string ⟨#[]⟩, .int .i64 0], aCel w.heap.size 55 A, aCel D 66 #[v0, v1], aOwn 137 256 v0 ((Wd.rows of next next.length).map Wd.rowV)] ∧ Hid (Lx.feedGo of next tags s (s.size - k) k a b out = X)
def TcutRel (of : List Int) (next : List (List Int)) (tags : List Int) (k : Nat) (Y : Bool × Int × ByteArray × List (Int × Int × Int)) (w : World) (A : Array Value) (D : Nat) (v0 v1 : Value) (o : Value) (wr : World) : Prop :=
  ∃ (n : Nat) (a : Int) (b : ByteArray) (out : List (Int × Int × Int)), b.size < n ∧ 0 ≤ a ∧ a + b.size ≤ 1099511627840 + k + 1 ∧ b.size ≤ 65 ∧ out.length + b.size ≤ 64 + k + 1 ∧
    St w wr [aOwn 61 3 o (out.map tokV), aCel (w.heap.size + 1) 105 #[.int .i64 a, .string b, .int .i64 0], aCel (w.heap.size + 1 + 1) 105 #[.int .i64 0, .string ⟨#[]⟩, .int .i64 0], aCel w.heap.size 55 A, aCel D 66 #[v0, v1], aOwn 137 256 v0 ((Wd.rows of next next.length).map Wd.rowV)] ∧ Hid (Lx.cutGo of next tags n a b out = Y)
end Fd

set_option maxRecDepth 100000 in
set_option maxHeartbeats 16000000 in
theorem ftext_ok (A : Array Value) (of : List Int) (next : List (List Int)) (tags : List Int) (vn vt : Value) (at_ : Int) (buf s : ByteArray) (hs : s.size ≤ 2000) (w : World) (hp : PackedAt w A of next tags vn vt) (he : Fd.err of next tags at_ buf.size 0 = 0) :
    Calls Try.prog 59 #[.agg A, .agg #[.int .i64 at_, .string buf, .int .i64 0], .string s] w (Fd.RetFed (Lx.feedGo of next tags s s.size 0 at_ buf []) w) := by
  have hsz : (Try.prog.info? 55).map (·.size) = some A.size := by rw [hp.size]; kernel_rfl
  have HS := Lib.hid hsz; clear hsz
  obtain ⟨h200, hg, ha0, ha1, hb64, _⟩ := Fd.err_zero he
  obtain ⟨at1, n1, c1, rfl⟩ : ∃ a n c, vt = .slice a n c := by obtain ⟨ao, _, _, cap, h1, _⟩ := hp.tagss; exact ⟨_, _, _, h1⟩
  have hst := (((St.init w).alloc A 55).alloc #[.int .i64 at_, .string buf, .int .i64 0] 105).alloc #[.int .i64 0, .string ⟨#[]⟩, .int .i64 0] 105
  simp only [World.size_alloc] at hst
  have HP := Lib.hid hp; clear hp
  have HG := Lib.hid hg
  have HW := Lib.hid (fun w' h => wide_ok A of next tags vn (.slice at1 n1 c1) w' h h200 hg)
  have HDF : Hid (∀ (v0 : Value) (w' : World) B, Own w' B 137 256 v0 ((Wd.rows of next next.length).map Wd.rowV) → Below w.heap.size w w' → DfaAt w' (.agg #[v0, .slice at1 n1 c1]) (Wd.rows of next next.length) tags) :=
    Lib.hid (fun v0 w' B ho hb => ⟨v0, _, rfl, Wd.sl ho (Wd.rows_wf of next tags hg h200 (fun c hc => (HP.out.of_wf c hc).1)), HP.out.tagss.call hb (fun _ _ h => h)⟩)
  clear he hg
  have HA := Lib.hid (hst.heapAt 2 rfl)
  generalize hX : Lx.feedGo of next tags s s.size 0 at_ buf [] = X
  have HX : Hid (Lx.feedGo of next tags s (s.size - 0) 0 at_ buf [] = X) := Lib.hid (by rw [← hX]; rfl)
  clear hX
  go_enter Try.func59, Try.ntmps59
  go_wp2_with (first
    | (refine wpList_load_row rfl 55 (.tmp 3) rfl w.heap.size rfl 55 A (0, 0) _ HA.out Try.underlying55 rfl HS.out ?_)
    | fail)
  go_at_call 30
  refine (HW.out _ (HP.out.below hst.bel)).mono ?_
  rintro e w1 ⟨v0, rfl, ho1, hb1⟩
  obtain ⟨x0, y0, z0, rfl⟩ := ho1.isSlice
  have hst1 := (hst.pushOwn hb1 ho1).alloc #[.slice x0 y0 z0, .slice at1 n1 c1] 66
  clear hb1 HA ho1 hst
  go_wp2
  have hst2 := (hst1.nilOwn 61 3).rot6
  clear hst1
  generalize w1.alloc (.cells #[.slice x0 y0 z0, .slice at1 n1 c1] 66) = W1 at hst2 ⊢
  generalize w1.heap.size = D at *
  go_loopw [10, 11, 12, 13] (fun o i _ _ wr => Fd.TextRel of next tags s X w A D (.slice x0 y0 z0) (.slice at1 n1 c1) o i wr) (fun _ i _ _ _ => s.size - (intOf i).toNat)
  case atStart => exact ⟨0, at_, buf, [], by omega, rfl, ha0, by omega, hb64, by simp; omega, hst2, HX⟩
  case round =>
    clear hst2 HX ha0 ha1 hb64
    obtain ⟨k, a, b, out, hk, rfl, ha0, ha1, hb64, hol, hst, hgo⟩ := hrel
    by_cases hlt : k < s.size
    · obtain ⟨h0, h1, h2, hf0, hf1, hf2⟩ := (hst.nth 1 rfl).cel3
      have HST := Lib.hid hst.drew
      have HGO := Lib.hid hgo.out
      clear hst hgo
      go_wp2
      have hlt2 : (k : Int) + 1 ≤ s.size := by omega
      have hpos : (0 : Int) ≤ (k : Int) + 1 := by omega
      have hle2 : (k : Int) ≤ (k : Int) + 1 := by omega
      have htn : ((k : Int) + 1).toNat = k + 1 := by omega
      have hc1 : (s.extract k (k + 1)).size = 1 := by rw [ByteArray.size_extract]; omega
      have hadd : ∀ W, (Op.stringOp .add b (s.extract k (k + 1))).run Try.prog W = .ok (.string (b ++ s.extract k (k + 1))) W := fun W => run_string_add_sum W _ _ (by omega)
      have hbs : (b ++ s.extract k (k + 1)).size = b.size + 1 := by rw [ByteArray.size_append, hc1]
      have HBS := Lib.hid hbs
      clear hc1 hbs
      have hwr : IntKind.i64.wrap ((k : Int) + 1) = (k : Int) + 1 := IntWalk.i64_in _ ⟨by omega, by omega⟩
      go_still_tail 9, (by kernel_rfl)
      change wpList _ _ _ _ _ wr.drew
      have h1' : wr.drew.cell? ⟨w.heap.size + 1, 1, none⟩ = _ := h1
      have hf1' : wr.drew.frozen? ⟨w.heap.size + 1, 1, none⟩ = false := hf1
      generalize wr.drew = wd at *
      clear h0 h1 h2 hf0 hf1 hf2 hlt2 hpos hle2 htn hwr hadd
      go_wp2
      obtain ⟨mm, hmm⟩ : ∃ mm, s.size - k = mm + 1 := ⟨s.size - k - 1, by omega⟩
      generalize hb1 : b ++ s.extract k (k + 1) = b1 at *
      generalize hY : Lx.cutGo of next tags (b1.size + 1) a b1 out = Y
      have HY : Hid (Lx.cutGo of next tags ((b ++ s.extract k (k + 1)).size + 1) a (b ++ s.extract k (k + 1)) out = Y) := Lib.hid (by rw [hb1]; exact hY)
      have HYC := Lib.hid hY
      have hgo := HGO.out
      rw [hmm] at hgo
      have HGO2 := Lib.hid hgo
      have hstI := (HST.out.get2.setCel 1 (.string b1)).get2
      have HMM := Lib.hid hmm
      have hb1s := HBS.out
      clear hb1 hY hgo hmm HST HGO h1' hf1'
      generalize wd.setCell ⟨w.heap.size + 1, 1, none⟩ (.string b1) = W2 at hstI ⊢
      clear wd wr
      go_loopw [10, 12, 13] (fun o _ _ ww => Fd.TcutRel of next tags k Y w A D (.slice x0 y0 z0) (.slice at1 n1 c1) o ww) (fun _ _ _ ww => Fd.bufLen (w.heap.size + 1) ww)
      case atStart => exact ⟨b1.size + 1, a, b1, out, by omega, ha0, by omega, by omega, by omega, hstI, HYC⟩
      case round =>
        have HKEEP : Hid (∃ (a : Int) (b : ByteArray) (out : List (Int × Int × Int)), Lx.feedGo of next tags s (mm + 1) k a b out = X ∧ Lx.cutGo of next tags ((b ++ s.extract k (k + 1)).size + 1) a (b ++ s.extract k (k + 1)) out = Y) := Lib.hid ⟨a, b, out, HGO2.out, HY.out⟩
        clear hstI HYC HY HGO2 hb1s HBS ha0 ha1 hb64 hol
        obtain ⟨n, a, b, out, hbn, ha0, ha1, hb64, hol, hst, hcg⟩ := hrel
        obtain ⟨h0, h1, h2, hf0, hf1, hf2⟩ := (hst.nth 1 rfl).cel3
        obtain ⟨r0, r1, r2, rf0, rf1, rf2⟩ := (hst.nth 2 rfl).cel3
        have HPH := Lib.hid (hst.heapAt 3 rfl)
        have HSK := fun w' h => stuck_any A of next tags vn (.slice at1 n1 c1) b (by omega) w' h HG.out
        have HLO := fun v w' h => longest_any v of next tags b (by omega) w' h HG.out h200
        have hlin := Lx.longest_in of next tags b.data.toList
        simp only [Array.length_toList, ByteArray.size_data] at hlin
        have hcg2 := hcg.out
        have hBL := Fd.bufLen_of h1
        have HBL := Lib.hid hBL
        clear hcg hBL
        by_cases hbe : b.data.toList = []
        · have hb0 : b.size = 0 := by have := congrArg List.length hbe; simpa using this
          have hsu : Lx.sure of next b.data.toList = false := by rw [hbe]; exact Lx.sure_nil
          rw [Lx.cut_open hsu] at hcg2
          subst hcg2
          have hemp : (!b.toList.isEmpty) = false := by rw [ByteArray.toList_eq, hbe]; rfl
          clear hsu hbe HSK HLO HBL
          obtain ⟨a8, b8, o8, hfe, hcu⟩ := HKEEP.out
          rw [Fd.feed_next hcu rfl (by simp only; omega)] at hfe
          have HFE := Lib.hid hfe
          clear hcu hfe
          go_wp2
          go_roundw
          case rel => exact ⟨k + 1, a, b, out, by omega, by go_num, ha0, by omega, by omega, by omega, hst, Lib.hid (by rw [show s.size - (k + 1) = mm by have := HMM.out; omega]; exact HFE.out)⟩
          case measure => simp [intOf]; omega
        have hbsz : b.size ≠ 0 := by intro h; apply hbe; exact List.eq_nil_of_length_eq_zero (by simpa using h)
        have hemp := nonempty' hbsz
        generalize hy : Lx.longest of next tags b.data.toList = y at *
        obtain ⟨y1, y2⟩ := y
        obtain ⟨hl0, hl1⟩ := hlin
        simp only at hl0 hl1 HLO
        have HY := Lib.hid hy; clear hy
        replace HLO := Lib.hid HLO
        have hsc := Lx.sure_cons (of := of) (next := next) hbe
        cases hsu : Lx.sure of next b.data.toList
        · rw [hsu] at hsc
          rw [← hsc] at HSK
          replace HSK := Lib.hid HSK
          rw [Lx.cut_open hsu] at hcg2
          subst hcg2
          clear hsu hsc hbe hbsz
          go_wp2_with (fail)
          refine wp_load_row 55 (.tmp 3) rfl w.heap.size rfl 55 A (0, 0) _ HPH.out Try.underlying55 rfl HS.out ?_
          go_wp2_with (fail)
          go_at_call 102
          refine (HSK.out _ (HP.out.below hst.bel)).mono ?_
          rintro e w3 ⟨rfl, hb3⟩
          replace hst := hst.call hb3
          clear hb3 h0 h1 h2 hf0 hf1 hf2 r0 r1 r2 rf0 rf1 rf2 HPH
          obtain ⟨h0, h1, h2, hf0, hf1, hf2⟩ := (hst.nth 1 rfl).cel3
          obtain ⟨r0, r1, r2, rf0, rf1, rf2⟩ := (hst.nth 2 rfl).cel3
          obtain ⟨a8, b8, o8, hfe, hcu⟩ := HKEEP.out
          by_cases h64 : 64 < b.size
          · rw [Fd.feed_hold hcu rfl h64] at hfe
            subst hfe
            clear hcu
            obtain ⟨av, nv, cv, hv⟩ : ∃ x n c, u10 = .slice x n c := by obtain ⟨x, c, h⟩ := hst.own.isLen; exact ⟨_, _, _, h⟩
            subst hv
            have hst9 := ((hst.get3.setCel 0 (.int .i64 a)).setCel 1 (.string ⟨#[]⟩)).setCel 2 (.int .i64 10)
            have H9 := Lib.hid hst9
            clear hst9 hst
            go_wp2
            obtain ⟨k0, k1, k2⟩ := H9.out.at3 0 rfl
            exact bodyPost_ret (v := .tuple #[.agg #[.int .i64 a, .string ⟨#[]⟩, .int .i64 10], .slice av nv cv, .int .i64 10]) (by simp [results, Try.results59, go_sem, k0, k1, k2]) rfl ⟨_, rfl, H9.out.get2.own, H9.out.bel⟩
          · rw [Fd.feed_next hcu rfl h64] at hfe
            have HFE := Lib.hid hfe
            clear hcu hfe
            go_wp2
            go_roundw
            case rel => exact ⟨k + 1, a, b, out, by omega, by go_num, ha0, by omega, by omega, by omega, hst, Lib.hid (by rw [show s.size - (k + 1) = mm by have := HMM.out; omega]; exact HFE.out)⟩
            case measure => simp [intOf]; omega
        · rw [hsu] at hsc
          rw [← hsc] at HSK
          replace HSK := Lib.hid HSK
          obtain ⟨n', rfl⟩ : ∃ n', n = n' + 1 := ⟨n - 1, by omega⟩
          by_cases hz : y2 = 0
          · rw [Lx.cut_bad hsu (by rw [HY.out]; exact hz)] at hcg2
            subst hcg2 hz
            clear hsu hsc hbe hbsz
            go_wp2_with (fail)
            refine wp_load_row 55 (.tmp 3) rfl w.heap.size rfl 55 A (0, 0) _ HPH.out Try.underlying55 rfl HS.out ?_
            go_wp2_with (fail)
            go_at_call 102
            refine (HSK.out _ (HP.out.below hst.bel)).mono ?_
            rintro e w3 ⟨rfl, hb3⟩
            replace hst := hst.call hb3
            clear hb3 h0 h1 h2 hf0 hf1 hf2 r0 r1 r2 rf0 rf1 rf2 HPH
            obtain ⟨h0, h1, h2, hf0, hf1, hf2⟩ := (hst.nth 1 rfl).cel3
            obtain ⟨r0, r1, r2, rf0, rf1, rf2⟩ := (hst.nth 2 rfl).cel3
            obtain ⟨d0, d1⟩ := hst.at2 4 rfl
            go_wp2_with (fail)
            go_at_call 33
            refine (HLO.out _ _ (HDF.out _ _ _ (hst.ownAt 5 rfl) hst.bel)).mono ?_
            rintro e w4 ⟨rfl, hb4⟩
            replace hst := hst.call hb4
            clear hb4 h0 h1 h2 hf0 hf1 hf2 r0 r1 r2 rf0 rf1 rf2 d0 d1
            obtain ⟨h0, h1, h2, hf0, hf1, hf2⟩ := (hst.nth 1 rfl).cel3
            obtain ⟨r0, r1, r2, rf0, rf1, rf2⟩ := (hst.nth 2 rfl).cel3
            obtain ⟨a8, b8, o8, hfe, hcu⟩ := HKEEP.out
            rw [Fd.feed_bad hcu rfl] at hfe
            subst hfe
            clear hcu
            obtain ⟨av, nv, cv, hv⟩ : ∃ x n c, u10 = .slice x n c := by obtain ⟨x, c, h⟩ := hst.own.isLen; exact ⟨_, _, _, h⟩
            subst hv
            have hst9 := ((hst.get3.setCel 0 (.int .i64 a)).setCel 1 (.string ⟨#[]⟩)).setCel 2 (.int .i64 9)
            have H9 := Lib.hid hst9
            clear hst9 hst
            go_wp2
            obtain ⟨k0, k1, k2⟩ := H9.out.at3 0 rfl
            exact bodyPost_ret (v := .tuple #[.agg #[.int .i64 a, .string ⟨#[]⟩, .int .i64 9], .slice av nv cv, .int .i64 9]) (by simp [results, Try.results59, go_sem, k0, k1, k2]) rfl ⟨_, rfl, H9.out.get2.own, H9.out.bel⟩
          · rw [Lx.cut_step hsu (by rw [HY.out]; exact hz), HY.out] at hcg2
            simp only at hcg2
            have hyz : (y2 == 0) = false := by rw [beq_eq_false_iff_ne]; exact hz
            obtain ⟨y2, rfl⟩ := Int.eq_ofNat_of_zero_le hl0
            rw [Int.toNat_natCast] at hcg2
            have HCG := Lib.hid hcg2
            have hpos : 0 < y2 := by omega
            clear hsu hcg2 hz hsc hbe hbsz
            go_wp2_with (fail)
            refine wp_load_row 55 (.tmp 3) rfl w.heap.size rfl 55 A (0, 0) _ HPH.out Try.underlying55 rfl HS.out ?_
            go_wp2_with (fail)
            go_at_call 102
            refine (HSK.out _ (HP.out.below hst.bel)).mono ?_
            rintro e w3 ⟨rfl, hb3⟩
            replace hst := hst.call hb3
            clear hb3 h0 h1 h2 hf0 hf1 hf2 r0 r1 r2 rf0 rf1 rf2 HPH
            obtain ⟨h0, h1, h2, hf0, hf1, hf2⟩ := (hst.nth 1 rfl).cel3
            obtain ⟨r0, r1, r2, rf0, rf1, rf2⟩ := (hst.nth 2 rfl).cel3
            obtain ⟨d0, d1⟩ := hst.at2 4 rfl
            go_wp2_with (fail)
            go_at_call 33
            refine (HLO.out _ _ (HDF.out _ _ _ (hst.ownAt 5 rfl) hst.bel)).mono ?_
            rintro e w4 ⟨rfl, hb4⟩
            replace hst := hst.call hb4
            clear hb4 h0 h1 h2 hf0 hf1 hf2 r0 r1 r2 rf0 rf1 rf2 d0 d1
            obtain ⟨h0, h1, h2, hf0, hf1, hf2⟩ := (hst.nth 1 rfl).cel3
            obtain ⟨r0, r1, r2, rf0, rf1, rf2⟩ := (hst.nth 2 rfl).cel3
            go_wp2_with (at_builtin; refine St.app1n tokE rfl (.tmp 53) (.tmp 62) rfl rfl hst (tokV (y1, a, a + y2)) rfl _ 1 rfl (by simp) rfl (tok_one _) (by rw [List.length_map]; unfold maxLen; omega) (by rw [List.length_map]; omega) ?_; intro g9 n9 cap9 w9 hst9)
            obtain ⟨h0, h1, h2, hf0, hf1, hf2⟩ := (hst9.nth 1 rfl).cel3
            have hst10 := (((hst9.drew.get2.setCel 0 (.int .i64 (a + y2))).setCel 1 (.string (b.extract y2 b.size))).setCel 2 (.int .i64 0)).get2
            have H10 := Lib.hid hst10
            clear hst10 hst9 hst
            go_wp2
            have hy2b : (y2 : Int) ≤ b.size := by omega
            have hwr : IntKind.i64.wrap (a + y2) = a + y2 := IntWalk.i64_in _ ⟨by omega, by omega⟩
            go_still_tail 9, (by kernel_rfl)
            change wpList _ _ _ _ _ w9.drew
            have h0' : w9.drew.cell? ⟨w.heap.size + 1, 0, none⟩ = _ := h0
            have h1' : w9.drew.cell? ⟨w.heap.size + 1, 1, none⟩ = _ := h1
            have h2' : w9.drew.cell? ⟨w.heap.size + 1, 2, none⟩ = _ := h2
            have hf0' : w9.drew.frozen? ⟨w.heap.size + 1, 0, none⟩ = false := hf0
            have hf1' : w9.drew.frozen? ⟨w.heap.size + 1, 1, none⟩ = false := hf1
            have hf2' : w9.drew.frozen? ⟨w.heap.size + 1, 2, none⟩ = false := hf2
            generalize w9.drew = wd at *
            clear h0 h1 h2 hf0 hf1 hf2 hwr hy2b
            go_wp2
            go_roundw
            case rel =>
              refine ⟨n', a + y2, b.extract y2 b.size, out ++ [(y1, a, a + y2)], ?_, by omega, ?_, ?_, ?_, ?_, HCG⟩
              · rw [ByteArray.size_extract]; omega
              · rw [ByteArray.size_extract]; omega
              · rw [ByteArray.size_extract]; omega
              · rw [ByteArray.size_extract, List.length_append, List.length_singleton]; omega
              · rw [List.map_append]; exact H10.out
            case measure =>
              rw [HBL.out, Fd.bufLen_of (b := b.extract y2 b.size) ((H10.out.nth 1 rfl).celAt rfl), ByteArray.size_extract]; omega
    · have he := hgo.out
      rw [show s.size - k = 0 by omega, Fd.feed_end] at he
      subst he
      clear hgo
      obtain ⟨h0, h1, h2⟩ := hst.at3 1 rfl
      obtain ⟨r0, r1, r2, rf0, rf1, rf2⟩ := (hst.nth 2 rfl).cel3
      obtain ⟨av, nv, cv, hv⟩ : ∃ x n c, u10 = .slice x n c := by obtain ⟨x, c, h⟩ := hst.own.isLen; exact ⟨_, _, _, h⟩
      subst hv
      have hst9 := ((hst.get3.setCel 0 (.int .i64 a)).setCel 1 (.string b)).setCel 2 (.int .i64 0)
      have H9 := Lib.hid hst9
      clear hst9 hst
      go_wp2
      obtain ⟨k0, k1, k2⟩ := H9.out.at3 0 rfl
      exact bodyPost_ret (v := .tuple #[.agg #[.int .i64 a, .string b, .int .i64 0], .slice av nv cv, .int .i64 0]) (by simp [results, Try.results59, go_sem, k0, k1, k2]) rfl ⟨_, rfl, H9.out.get2.own, H9.out.bel⟩

end Go.Proofs.Ytkgpipokfoadiaa
