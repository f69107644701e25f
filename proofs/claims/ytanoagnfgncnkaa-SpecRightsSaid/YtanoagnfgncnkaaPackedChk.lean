/-
  Check of package small: what it computes.
-/
import Derived.Test.YtanoagnfgncnkaaPacked
namespace Go.Proofs.Ytanoagnfgncnkaa
open Go.ChangeShapes Go.WideShapes Go.ChangeAt Go.RowKit

set_option maxRecDepth 100000 in
theorem smallCheck_any (A : Array Value) (of : List Int) (next : List (List Int)) (tags : List Int) (vn vt : Value) (w : World) (hp : PackedAt w A of next tags vn vt) :
    Calls Try.prog 59 #[.agg A] w fun e w' => e = .returned (.int .i64 (Pkd.err of next tags)) ∧ Below w.heap.size w w' := by
  have c256 := hp.c256; have c257 := hp.c257
  have HP := Lib.hid hp
  obtain ⟨ao, b, off, cap, rfl, n1, n2, n3, n4⟩ := slSls hp.nexts
  obtain ⟨at0, bt, ot, capt, rfl, t1, t2, t3, t4, t5⟩ := slInts hp.tagss
  clear hp t5
  unfold maxLen at n2 t2
  have N3 := Lib.hid n3; have N4 := Lib.hid n4; have T3 := Lib.hid t3; have T4 := Lib.hid t4
  clear n3 n4 t3 t4
  have hB0 : Below w.heap.size w (w.alloc (.cells A 26)) := (Below.refl _ _).alloc (Nat.le_refl _) _
  by_cases h200 : 200 < next.length
  · have He := Lib.hid (Pkd.err_large of next tags h200)
    go_enter Try.func59, Try.ntmps59
    go_wp2
    go_ret
    exact ⟨by rw [He.out]; rfl, hB0⟩
  by_cases h0 : next.length = 0
  · have He := Lib.hid (Pkd.err_bad of next tags h200 (fun g => g.n0 h0))
    have h00 : ((next.length : Int) == 0) = true := by rw [beq_iff_eq]; omega
    clear h0
    go_enter Try.func59, Try.ntmps59
    go_wp2
    go_ret
    exact ⟨by rw [He.out]; rfl, hB0⟩
  have hn0 : ((next.length : Int) == 0) = false := by rw [beq_eq_false_iff_ne]; omega
  by_cases h1 : tags.length = next.length
  case neg =>
    have He := Lib.hid (Pkd.err_bad of next tags h200 (fun g => h1 g.tl))
    have hne : ((tags.length : Int) != (next.length : Int)) = true := by rw [bne_iff_ne]; omega
    go_enter Try.func59, Try.ntmps59
    go_wp2
    go_ret
    exact ⟨by rw [He.out]; rfl, hB0⟩
  have Hl := Lib.hid h1; clear h1
  obtain ⟨rfl, hb⟩ := N3.out (by omega)
  obtain ⟨rfl, hbt⟩ := T3.out (by have := Hl.out; omega)
  have hne : ((tags.length : Int) != (next.length : Int)) = false := by have := Hl.out; rw [bne_eq_false_iff_eq]; omega
  obtain ⟨v0, hv0, hs0⟩ := N4.out 0 (by omega)
  rw [Nat.add_zero] at hv0
  obtain ⟨a0, b0, o0, cap0, rfl, w1, w2, _, _, _⟩ := slInts hs0
  unfold maxLen at w2
  have hwd : (next.getD 0 []).length = Pkd.wide next := rfl
  rw [hwd] at hv0 w1
  clear hwd hs0
  by_cases hw0 : Pkd.wide next = 0
  · have He := Lib.hid (Pkd.err_bad of next tags h200 (fun g => g.w0 hw0))
    have h00 : ((Pkd.wide next : Int) == 0) = true := by rw [beq_iff_eq]; omega
    clear hw0
    go_enter Try.func59, Try.ntmps59
    go_wp2
    go_ret
    exact ⟨by rw [He.out]; rfl, hB0⟩
  have hwn0 : ((Pkd.wide next : Int) == 0) = false := by rw [beq_eq_false_iff_ne]; omega
  by_cases hw1 : 256 < Pkd.wide next
  · have He := Lib.hid (Pkd.err_bad of next tags h200 (fun g => by have := g.w1; omega))
    go_enter Try.func59, Try.ntmps59
    go_wp2
    go_ret
    exact ⟨by rw [He.out]; rfl, hB0⟩
  generalize hwd : Pkd.wide next = wd at *
  have Hwd := Lib.hid hwd; clear hwd
  go_enter Try.func59, Try.ntmps59
  go_wp2
  obtain ⟨W, hW⟩ : ∃ W, W = w.alloc (.cells A 26) := ⟨_, rfl⟩
  rw [← hW] at hB0 ⊢
  have hb1 : W.cell? ⟨w.heap.size, 256, none⟩ = some (.slice (some ⟨b, off, none⟩) next.length cap) := by rw [hW, World.cell?_alloc_new]; exact c256
  have hb2 : W.cell? ⟨w.heap.size, 257, none⟩ = some (.slice (some ⟨bt, ot, none⟩) tags.length capt) := by rw [hW, World.cell?_alloc_new]; exact c257
  have hofs : Hid (W.rangeAt w.heap.size 0 (of.map (Value.int .u8))) := Lib.hid (fun j q hq => by
    have hj : j < of.length := by
      rcases Nat.lt_or_ge j of.length with e | e
      · exact e
      · rw [List.getElem?_eq_none (by simpa using e)] at hq; cases hq
    have hl := HP.out.ofs.2.1
    rw [hW, World.cell?_alloc_new, Nat.zero_add, HP.out.of_at j (by omega), ← hq, List.getElem?_map, List.getElem?_eq_getElem hj]
    simp [List.getD, List.getElem?_eq_getElem hj])
  clear hW c256 c257 hv0
  go_loop [5, 7, 36] (fun _ _ i => ∃ k : Nat, k ≤ next.length ∧ i = .int .i64 k ∧ Hid (∀ j, j < k → Aut.tagGood (tags.getD j 0) ∧ Pkd.rowGood next.length wd (next.getD j []))) (fun _ _ i => next.length - (intOf i).toNat)
  case atStart => exact ⟨0, by omega, rfl, Lib.hid (fun j hj => by omega)⟩
  case round =>
    obtain ⟨k, hk, rfl, hgood⟩ := hrel
    by_cases hlt : k < next.length
    · have hkt : k < tags.length := by have := Hl.out; omega
      have htag : W.cell? ⟨bt, ot + k, none⟩ = some (.int .i64 (tags.getD k 0)) := bkeep hB0 (T4.out k hkt)
      obtain ⟨vk, hvk, hsk⟩ := N4.out k hlt
      obtain ⟨ak, bk, ok, capk, rfl, r1, r2, r3, r4, r5⟩ := slInts hsk
      have hnk := bkeep hB0 hvk
      clear hvk hsk r5
      unfold maxLen at r2
      have R3 := Lib.hid r3; have R4 := Lib.hid r4; clear r3 r4
      generalize htg : tags.getD k 0 = tg at htag
      have Htg := Lib.hid htg; clear htg
      generalize hrw : next.getD k [] = row at *
      have Hrw := Lib.hid hrw; clear hrw
      have hbad : Hid (¬ (Aut.tagGood tg ∧ Pkd.rowGood next.length wd row) → Pkd.err of next tags = 1) := Lib.hid (fun h => Pkd.err_bad of next tags h200 (fun g => h (by
        have := g.rows k hlt
        rw [Htg.out, Hrw.out, Hwd.out] at this
        exact this)))
      by_cases g0 : row.length = wd
      case neg =>
        have He := Lib.hid (hbad.out (fun h => g0 h.2.1))
        have hnw : ((row.length : Int) != (wd : Int)) = true := by rw [bne_iff_ne]; omega
        go_wp2
        go_ret
        exact ⟨by rw [He.out]; rfl, hB0⟩
      have hnw : ((row.length : Int) != (wd : Int)) = false := by rw [bne_eq_false_iff_eq]; omega
      by_cases g1 : tg < -1
      · have He := Lib.hid (hbad.out (fun h => by have := h.1; unfold Aut.tagGood at this; omega))
        clear g0
        go_wp2
        go_ret
        exact ⟨by rw [He.out]; rfl, hB0⟩
      by_cases g2 : 20 ≤ tg
      · have He := Lib.hid (hbad.out (fun h => by have := h.1; unfold Aut.tagGood at this; omega))
        clear g0
        go_wp2
        go_ret
        exact ⟨by rw [He.out]; rfl, hB0⟩
      obtain ⟨rfl, hbk⟩ := R3.out (by omega)
      have G0 := Lib.hid g0; clear g0
      go_wp2
      clear htag hnk
      go_loop [7, 69] (fun _ i => ∃ c : Nat, c ≤ row.length ∧ i = .int .i64 c ∧ Hid (∀ j, j < c → -1 ≤ row.getD j 0 ∧ row.getD j 0 < next.length)) (fun _ i => row.length - (intOf i).toNat)
      case atStart => exact ⟨0, by omega, rfl, Lib.hid (fun j hj => by omega)⟩
      case round =>
        obtain ⟨c, hc, rfl, hcols⟩ := hrel
        by_cases hcl : c < row.length
        · have hcell : W.cell? ⟨bk, ok + c, none⟩ = some (.int .i64 (row.getD c 0)) := bkeep hB0 (R4.out c hcl)
          generalize hxe : row.getD c 0 = x at hcell
          have Hx := Lib.hid hxe; clear hxe
          by_cases g3 : x < -1
          · have He := Lib.hid (hbad.out (fun h => by have := h.2.2 c (by have := G0.out; omega); rw [Hx.out] at this; omega))
            go_wp2
            go_ret
            exact ⟨by rw [He.out]; rfl, hB0⟩
          by_cases g4 : (next.length : Int) ≤ x
          · have He := Lib.hid (hbad.out (fun h => by have := h.2.2 c (by have := G0.out; omega); rw [Hx.out] at this; omega))
            go_wp2
            go_ret
            exact ⟨by rw [He.out]; rfl, hB0⟩
          go_wp2
          go_round
          case rel => exact ⟨c + 1, by omega, by go_num, Lib.hid (fun j hj => by
            by_cases e : j = c
            · rw [e, Hx.out]; omega
            · exact hcols.out j (by omega))⟩
          case measure => simp [intOf]; omega
        · go_wp2
          go_round
          case rel => exact ⟨k + 1, by omega, by go_num, Lib.hid (fun j hj => by
            by_cases e : j = k
            · rw [e, Htg.out, Hrw.out]; exact ⟨by unfold Aut.tagGood; omega, G0.out, fun c' hc' => hcols.out c' (by have := G0.out; omega)⟩
            · exact hgood.out j (by omega))⟩
          case measure => simp [intOf]; omega
    · go_wp2_with (refine wpList_load_mid rfl 23 (.tmp 82) rfl w.heap.size 0 rfl (of.map (Value.int .u8)) _ hofs.out Try.underlying23 rfl (by rw [List.length_map, HP.out.ofs.2.1]; kernel_rfl) ?_)
      clear hb1 hb2
      go_loop [9, 84] (fun _ i => ∃ c : Nat, c ≤ 256 ∧ i = .int .i64 c ∧ Hid (∀ j, j < c → of.getD j 0 < wd)) (fun _ i => 256 - (intOf i).toNat)
      case atStart => exact ⟨0, by omega, rfl, Lib.hid (fun j hj => by omega)⟩
      case round =>
        obtain ⟨c, hc, rfl, hcols⟩ := hrel
        by_cases hcl : c < 256
        · have hidx := fun W => run_index_arr (P := Try.prog) (k := .u8) Try.underlying23 Try.underlying5 (by kernel_rfl) of HP.out.ofs.2.1 c hcl W
          obtain ⟨hx0, hx1⟩ := HP.out.of_wf c hcl
          generalize hxe : of.getD c 0 = x at hidx hx0 hx1
          have Hx := Lib.hid hxe; clear hxe
          by_cases g3 : (wd : Int) ≤ x
          · have He := Lib.hid (Pkd.err_bad of next tags h200 (fun g => by have := g.cols c hcl; rw [Hx.out, Hwd.out] at this; omega))
            go_wp2
            go_ret
            exact ⟨by rw [He.out]; rfl, hB0⟩
          go_wp2
          go_round
          case rel => exact ⟨c + 1, by omega, by go_num, Lib.hid (fun j hj => by
            by_cases e : j = c
            · rw [e, Hx.out]; omega
            · exact hcols.out j (by omega))⟩
          case measure => simp [intOf]; omega
        · have He := Lib.hid (Pkd.err_ok of next tags h200 ⟨h0, Hl.out, by rw [Hwd.out]; exact hw0, by rw [Hwd.out]; omega, by rw [Hwd.out]; exact fun i hi => hgood.out i (by omega), by rw [Hwd.out]; exact fun c' hc' => hcols.out c' (by omega)⟩)
          go_wp2
          go_ret
          exact ⟨by rw [He.out]; rfl, hB0⟩
end Go.Proofs.Ytanoagnfgncnkaa
