/-
  RightPacked of the reference: what it computes.
-/
import Derived.Test.YtanoagnfgncnkaaPacked
namespace Go.Proofs.Ytanoagnfgncnkaa
open Go.ChangeShapes Go.WideShapes Go.ChangeAt Go.RowKit

set_option maxRecDepth 100000 in
set_option maxHeartbeats 8000000 in
theorem rpacked_any (A : Array Value) (of : List Int) (next : List (List Int)) (tags : List Int) (vn vt : Value) (w : World) (hp : PackedAt w A of next tags vn vt) :
    Calls Try.prog 62 #[.agg A] w fun e w' => e = .returned (.int .i64 (Pkd.err of next tags)) ∧ Below w.heap.size w w' := by
  have c256 := hp.c256; have c257 := hp.c257
  have HP := Lib.hid hp
  obtain ⟨ao, b, off, cap, rfl, n1, n2, n3, n4⟩ := slSls hp.nexts
  obtain ⟨at0, bt, ot, capt, rfl, t1, t2, t3, t4, t5⟩ := slInts hp.tagss
  clear hp t5
  unfold maxLen at n2 t2
  have N3 := Lib.hid n3; have N4 := Lib.hid n4; have T3 := Lib.hid t3; have T4 := Lib.hid t4
  clear n3 n4 t3 t4
  have hB0 : Below w.heap.size w (w.alloc (.cells A 26)) := (Below.refl _ _).alloc (Nat.le_refl _) _
  by_cases h200 : 200 < next.length
  · have He := Lib.hid (Pkd.err_large of next tags h200)
    go_enter Try.func62, Try.ntmps62
    go_wp2
    go_ret
    exact ⟨by rw [He.out]; rfl, hB0⟩
  by_cases h0 : next.length = 0
  · have He := Lib.hid (Pkd.err_bad of next tags h200 (fun g => g.n0 h0))
    have h00 : ((next.length : Int) == 0) = true := by rw [beq_iff_eq]; omega
    clear h0
    go_enter Try.func62, Try.ntmps62
    go_wp2
    go_ret
    exact ⟨by rw [He.out]; rfl, hB0⟩
  have hn0 : ((next.length : Int) == 0) = false := by rw [beq_eq_false_iff_ne]; omega
  by_cases h1 : tags.length = next.length
  case neg =>
    have He := Lib.hid (Pkd.err_bad of next tags h200 (fun g => h1 g.tl))
    have hne : ((tags.length : Int) != (next.length : Int)) = true := by rw [bne_iff_ne]; omega
    go_enter Try.func62, Try.ntmps62
    go_wp2
    go_ret
    exact ⟨by rw [He.out]; rfl, hB0⟩
  have Hl := Lib.hid h1; clear h1
  obtain ⟨rfl, hb⟩ := N3.out (by omega)
  obtain ⟨rfl, hbt⟩ := T3.out (by have := Hl.out; omega)
  have hne : ((tags.length : Int) != (next.length : Int)) = false := by have := Hl.out; rw [bne_eq_false_iff_eq]; omega
  obtain ⟨v0, hv0, hs0⟩ := N4.out 0 (by omega)
  rw [Nat.add_zero] at hv0
  obtain ⟨a0, b0, o0, cap0, rfl, w1, w2, _, _, _⟩ := slInts hs0
  unfold maxLen at w2
  have hwd : (next.getD 0 []).length = Pkd.wide next := rfl
  rw [hwd] at hv0 w1
  clear hwd hs0
  by_cases hw0 : Pkd.wide next = 0
  · have He := Lib.hid (Pkd.err_bad of next tags h200 (fun g => g.w0 hw0))
    have h00 : ((Pkd.wide next : Int) == 0) = true := by rw [beq_iff_eq]; omega
    clear hw0
    go_enter Try.func62, Try.ntmps62
    go_wp2
    go_ret
    exact ⟨by rw [He.out]; rfl, hB0⟩
  have hwn0 : ((Pkd.wide next : Int) == 0) = false := by rw [beq_eq_false_iff_ne]; omega
  by_cases hw1 : 256 < Pkd.wide next
  · have He := Lib.hid (Pkd.err_bad of next tags h200 (fun g => by have := g.w1; omega))
    go_enter Try.func62, Try.ntmps62
    go_wp2
    go_ret
    exact ⟨by rw [He.out]; rfl, hB0⟩
  generalize hwd : Pkd.wide next = wd at *
  have Hwd := Lib.hid hwd; clear hwd
  go_enter Try.func62, Try.ntmps62
  go_wp2
  obtain ⟨W, hW⟩ : ∃ W, W = w.alloc (.cells A 26) := ⟨_, rfl⟩
  rw [← hW] at hB0 ⊢
  have hb1 : W.cell? ⟨w.heap.size, 256, none⟩ = some (.slice (some ⟨b, off, none⟩) next.length cap) := by rw [hW, World.cell?_alloc_new]; exact c256
  have hb2 : W.cell? ⟨w.heap.size, 257, none⟩ = some (.slice (some ⟨bt, ot, none⟩) tags.length capt) := by rw [hW, World.cell?_alloc_new]; exact c257
  have hofs : Hid (W.rangeAt w.heap.size 0 (of.map (Value.int .u8))) := Lib.hid (fun j q hq => by
    have hj : j < of.length := by
      rcases Nat.lt_or_ge j of.length with e | e
      · exact e
      · rw [List.getElem?_eq_none (by simpa using e)] at hq; cases hq
    have hl := HP.out.ofs.2.1
    rw [hW, World.cell?_alloc_new, Nat.zero_add, HP.out.of_at j (by omega), ← hq, List.getElem?_map, List.getElem?_eq_getElem hj]
    simp [List.getD, List.getElem?_eq_getElem hj])
  clear hW c256 c257
  have Hv0 := Lib.hid hv0; clear hv0
  have HBX := Lib.hid hb1
  go_loopw [3, 4] (fun i _ wr => ∃ k : Nat, k ≤ next.length ∧ i = .int .i64 k ∧ Below W.heap.size W wr ∧ Hid (∀ j, j < k → Aut.tagGood (tags.getD j 0) ∧ Pkd.rowGood next.length wd (next.getD j []))) (fun i _ _ => next.length - (intOf i).toNat)
  case atStart => exact ⟨0, by omega, rfl, Below.refl _ _, Lib.hid (fun j hj => by omega)⟩
  case round =>
    obtain ⟨k, hk, rfl, hBr, hgood⟩ := hrel
    have hB := hB0.trans (hBr.mono hB0.size)
    have hb1 := bkeep hBr hb1
    have hb2 := bkeep hBr hb2
    have hcell0 := bkeep hB Hv0.out
    by_cases hlt : k < next.length
    · have hkt : k < tags.length := by have := Hl.out; omega
      have htag : wr.cell? ⟨bt, ot + k, none⟩ = some (.int .i64 (tags.getD k 0)) := bkeep hB (T4.out k hkt)
      obtain ⟨vk, hvk, hsk⟩ := N4.out k hlt
      obtain ⟨ak, bk, ok, capk, rfl, r1, r2, r3, r4, r5⟩ := slInts hsk
      have hnk := bkeep hB hvk
      have HNK0 := Lib.hid hvk
      clear hvk hsk r5
      unfold maxLen at r2
      have R3 := Lib.hid r3; have R4 := Lib.hid r4; clear r3 r4
      generalize htg : tags.getD k 0 = tg at htag
      have Htg := Lib.hid htg; clear htg
      generalize hrw : next.getD k [] = row at *
      have Hrw := Lib.hid hrw; clear hrw
      have hbad : Hid (¬ (Aut.tagGood tg ∧ Pkd.rowGood next.length wd row) → Pkd.err of next tags = 1) := Lib.hid (fun h => Pkd.err_bad of next tags h200 (fun g => h (by
        have := g.rows k hlt
        rw [Htg.out, Hrw.out, Hwd.out] at this
        exact this)))
      by_cases g0 : row.length = wd
      case neg =>
        have He := Lib.hid (hbad.out (fun h => g0 h.2.1))
        have hnw : ((row.length : Int) != (wd : Int)) = true := by rw [bne_iff_ne]; omega
        go_wp2
        go_quiet (fail)
        go_wp2
        go_ret
        exact ⟨by rw [He.out]; rfl, below_drewN hB _⟩
      have hnw : ((row.length : Int) != (wd : Int)) = false := by rw [bne_eq_false_iff_eq]; omega
      by_cases g1 : tg < -1
      · have He := Lib.hid (hbad.out (fun h => by have := h.1; unfold Aut.tagGood at this; omega))
        clear g0
        go_wp2
        go_quiet (fail)
        go_wp2
        go_ret
        exact ⟨by rw [He.out]; rfl, below_drewN hB _⟩
      have d1 : decide (tg < -1) = false := by rw [decide_eq_false_iff_not]; omega
      by_cases g2 : 19 < tg
      · have He := Lib.hid (hbad.out (fun h => by have := h.1; unfold Aut.tagGood at this; omega))
        clear g0
        go_wp2
        go_quiet (fail)
        go_wp2
        go_ret
        exact ⟨by rw [He.out]; rfl, below_drewN hB _⟩
      have d2 : decide (19 < tg) = false := by rw [decide_eq_false_iff_not]; omega
      obtain ⟨rfl, hbk⟩ := R3.out (by omega)
      have G0 := Lib.hid g0; clear g0
      go_wp2
      go_quiet (fail)
      go_wp2
      clear htag hcell0
      have HG := Lib.hid hgood.out; clear hgood
      have HB1 := Lib.hid hb1; clear hb1
      have HBr := Lib.hid hBr; clear hBr hb2 hB hnk
      have HN2 := HNK0
      go_loopw [4] (fun i wr => ∃ c : Nat, c ≤ row.length ∧ i = .int .i64 c ∧ Below W.heap.size W wr ∧ Hid (∀ j, j < c → -1 ≤ row.getD j 0 ∧ row.getD j 0 < next.length)) (fun i _ => row.length - (intOf i).toNat)
      case atStart => exact ⟨0, by omega, rfl, below_drewN HBr.out _, Lib.hid (fun j hj => by omega)⟩
      case round =>
        obtain ⟨c, hc, rfl, hBr, hcols⟩ := hrel
        have hB := hB0.trans (hBr.mono hB0.size)
        have hb1 := bkeep hBr HBX.out
        have hnk := bkeep hB HN2.out
        have HBr2 := Lib.hid hBr; clear hBr
        have HBB := Lib.hid hB; clear hB
        by_cases hcl : c < row.length
        · have hcell : wr.cell? ⟨bk, ok + c, none⟩ = some (.int .i64 (row.getD c 0)) := bkeep HBB.out (R4.out c hcl)
          generalize hxe : row.getD c 0 = x at hcell
          have Hx := Lib.hid hxe; clear hxe
          by_cases g3 : x < -1
          · have He := Lib.hid (hbad.out (fun h => by have := h.2.2 c (by have := G0.out; omega); rw [Hx.out] at this; omega))
            have d3 : decide (x < -1) = true := by rw [decide_eq_true_iff]; exact g3
            go_wp2
            go_quiet (fail)
            go_wp2
            go_ret
            exact ⟨by rw [He.out]; rfl, below_drewN HBB.out _⟩
          have d3 : decide (x < -1) = false := by rw [decide_eq_false_iff_not]; exact g3
          by_cases g4 : (next.length : Int) ≤ x
          · have He := Lib.hid (hbad.out (fun h => by have := h.2.2 c (by have := G0.out; omega); rw [Hx.out] at this; omega))
            have d4 : decide ((next.length : Int) ≤ x) = true := by rw [decide_eq_true_iff]; exact g4
            go_wp2
            go_quiet (fail)
            go_wp2
            go_ret
            exact ⟨by rw [He.out]; rfl, below_drewN HBB.out _⟩
          have d4 : decide ((next.length : Int) ≤ x) = false := by rw [decide_eq_false_iff_not]; exact g4
          go_wp2
          go_quiet (fail)
          go_wp2
          go_roundw
          case rel => exact ⟨c + 1, by omega, by go_num, below_drewN HBr2.out _, Lib.hid (fun j hj => by
            by_cases e : j = c
            · rw [e, Hx.out]; omega
            · exact hcols.out j (by omega))⟩
          case measure => simp [intOf]; omega
        · go_wp2
          go_roundw
          case rel => exact ⟨k + 1, by omega, by go_num, HBr2.out, Lib.hid (fun j hj => by
            by_cases e : j = k
            · rw [e, Htg.out, Hrw.out]; exact ⟨by unfold Aut.tagGood; omega, G0.out, fun c' hc' => hcols.out c' (by have := G0.out; omega)⟩
            · exact HG.out j (by omega))⟩
          case measure => simp [intOf]; omega
    · clear hb2
      have HBr := Lib.hid hBr; clear hBr hcell0 hB
      go_wp2
      clear hb1
      go_loopw [5] (fun i wr => ∃ c : Nat, c ≤ 256 ∧ i = .int .i64 c ∧ Below W.heap.size W wr ∧ Hid (∀ j, j < c → of.getD j 0 < wd)) (fun i _ => 256 - (intOf i).toNat)
      case atStart => exact ⟨0, by omega, rfl, HBr.out, Lib.hid (fun j hj => by omega)⟩
      case round =>
        obtain ⟨c, hc, rfl, hBr, hcols⟩ := hrel
        have hB := hB0.trans (hBr.mono hB0.size)
        have hb1 := bkeep hBr HBX.out
        have hcell0 := bkeep hB Hv0.out
        have HBr2 := Lib.hid hBr; clear hBr
        have HBB := Lib.hid hB; clear hB
        by_cases hcl : c < 256
        · have hcell : wr.cell? ⟨w.heap.size, c, none⟩ = some (.int .u8 (of.getD c 0)) := bkeep HBr2.out (by
            have := hofs.out c (.int .u8 (of.getD c 0)) (by
              have hl := HP.out.ofs.2.1
              rw [List.getElem?_map, List.getElem?_eq_getElem (by omega)]
              simp [List.getD, List.getElem?_eq_getElem (show c < of.length by omega)])
            rwa [Nat.zero_add] at this)
          obtain ⟨hx0, hx1⟩ := HP.out.of_wf c hcl
          generalize hxe : of.getD c 0 = x at hcell hx0 hx1
          have Hx := Lib.hid hxe; clear hxe
          by_cases g3 : (wd : Int) ≤ x
          · have He := Lib.hid (Pkd.err_bad of next tags h200 (fun g => by have := g.cols c hcl; rw [Hx.out, Hwd.out] at this; omega))
            have d3 : decide ((wd : Int) ≤ x) = true := by rw [decide_eq_true_iff]; exact g3
            go_wp2
            go_quiet (fail)
            go_wp2
            go_ret
            exact ⟨by rw [He.out]; rfl, below_drewN HBB.out _⟩
          have d3 : decide ((wd : Int) ≤ x) = false := by rw [decide_eq_false_iff_not]; exact g3
          go_wp2
          go_quiet (fail)
          go_wp2
          go_roundw
          case rel => exact ⟨c + 1, by omega, by go_num, below_drewN HBr2.out _, Lib.hid (fun j hj => by
            by_cases e : j = c
            · rw [e, Hx.out]; omega
            · exact hcols.out j (by omega))⟩
          case measure => simp [intOf]; omega
        · have He := Lib.hid (Pkd.err_ok of next tags h200 ⟨h0, Hl.out, by rw [Hwd.out]; exact hw0, by rw [Hwd.out]; omega, by rw [Hwd.out]; exact fun i hi => hgood.out i (by omega), by rw [Hwd.out]; exact fun c' hc' => hcols.out c' (by omega)⟩)
          go_wp2
          go_ret
          exact ⟨by rw [He.out]; rfl, HBB.out⟩
end Go.Proofs.Ytanoagnfgncnkaa
