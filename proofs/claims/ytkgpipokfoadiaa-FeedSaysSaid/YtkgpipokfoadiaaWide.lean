/-
  Wide of the reference: what it computes.
-/
import Derived.Test.YtkgpipokfoadiaaUnpackDat
namespace Go.Proofs.Ytkgpipokfoadiaa
open Go.ChangeShapes Go.WideShapes Go.ChangeAt Go.RowKit

theorem Own.mono {w : World} {B B2 : Nat} {e : TypeId} {size : Nat} {v : Value} {xs : List Value} (h : Own w B e size v xs) (hb : B2 ≤ B) : Own w B2 e size v xs := by
  refine ⟨h.1, ?_⟩
  rcases h.2 with h2 | ⟨g, cap, cur, h1, h2, h3⟩
  · exact .inl h2
  · exact .inr ⟨g, cap, cur, h1, Nat.le_trans hb h2, h3⟩

set_option maxRecDepth 100000 in
set_option maxHeartbeats 8000000 in
theorem wide_ok (A : Array Value) (of : List Int) (next : List (List Int)) (tags : List Int) (vn vt : Value) (w : World) (hp : PackedAt w A of next tags vn vt) (h200 : next.length ≤ 200) (hg : Pkd.Good of next tags) :
    Calls Try.prog 30 #[.agg A] w fun e w' => ∃ v0, e = .returned (.agg #[v0, vt]) ∧ Own w' w.heap.size 137 256 v0 ((Wd.rows of next next.length).map Wd.rowV) ∧ Below w.heap.size w w' := by
  have hsz : (Try.prog.info? 55).map (·.size) = some A.size := by rw [hp.size]; kernel_rfl
  have HS := Lib.hid hsz; clear hsz
  have c256 := hp.c256; have c257 := hp.c257
  have HG := Lib.hid hg; clear hg
  have HP := Lib.hid hp
  obtain ⟨ao, b, off, cap, rfl, n1, n2, n3, n4⟩ := slSls hp.nexts
  unfold maxLen at n2
  clear n2
  obtain ⟨rfl, hb⟩ := n3 (by have := HG.out.n0; omega)
  have N4 := Lib.hid n4; clear n4 n3
  obtain ⟨ao2, _, _, cp2, rfl, _⟩ := slInts hp.tagss
  obtain ⟨m2, hm2⟩ : ∃ m2, m2 = tags.length := ⟨_, rfl⟩
  rw [← hm2] at hp HP c257 ⊢
  clear hm2
  go_enter Try.func30, Try.ntmps30
  go_wp2
  have hB2 : Below w.heap.size w ((w.alloc (.cells A 55)).alloc (.cells #[.slice none 0 0, .slice none 0 0] 66)) := ((Below.refl _ _).alloc (Nat.le_refl _) _).alloc (by simp) _
  obtain ⟨S, hS⟩ : ∃ S, S = w.heap.size := ⟨_, rfl⟩
  obtain ⟨w2, hw2⟩ : ∃ w2, w2 = (w.alloc (.cells A 55)).alloc (.cells #[.slice none 0 0, .slice none 0 0] 66) := ⟨_, rfl⟩
  have hz2 : S + 1 < w2.heap.size := by rw [hw2, hS]; simp
  have hy2 : S < w2.heap.size := by omega
  have hxn : w2.cell? ⟨S, 256, none⟩ = some (.slice (some ⟨b, off, none⟩) next.length cap) := by
    rw [hS, hw2, World.cell?_alloc_past _ _ _ (by simp), World.cell?_alloc_new]; exact c256
  have hxo : Hid (∀ c, c < 256 → w2.cell? ⟨S, c, none⟩ = some (.int .u8 (of.getD c 0))) := Lib.hid (fun c hc => by
    rw [hS, hw2, World.cell?_alloc_past _ _ _ (by simp), World.cell?_alloc_new]; exact HP.out.of_at c hc)
  have hxr : Hid (w2.cell? ⟨S + 1, 0, none⟩ = some (.slice none 0 0) ∧ w2.cell? ⟨S + 1, 1, none⟩ = some (.slice none 0 0) ∧ w2.frozen? ⟨S + 1, 0, none⟩ = false ∧ w2.frozen? ⟨S + 1, 1, none⟩ = false) := Lib.hid (by
    refine ⟨?_, ?_, ?_, ?_⟩
    · rw [hS, hw2, World.cell?_alloc_at _ _ _ _ (by simp)]; rfl
    · rw [hS, hw2, World.cell?_alloc_at _ _ _ _ (by simp)]; rfl
    · rw [hS, hw2, World.frozen?_alloc_at _ _ _ _ (by simp)]
    · rw [hS, hw2, World.frozen?_alloc_at _ _ _ _ (by simp)])
  rw [← hw2] at hB2
  have hO2 : w.heap.size + 1 + 1 = w2.heap.size := by rw [hw2]; simp
  have HB2 := Lib.hid hB2; clear hB2
  obtain ⟨O, hO⟩ : ∃ O, O = w2.heap.size := ⟨_, rfl⟩
  rw [← hO] at hz2 hy2 hO2
  have hB3 : Below O w2 (w2.alloc (.cells #[.slice none 0 0, .slice ao2 m2 cp2] 66)) := by rw [hO]; exact (Below.refl _ _).alloc (Nat.le_refl _) _
  have hO0 : (w2.alloc (.cells #[.slice none 0 0, .slice ao2 m2 cp2] 66)).heap[O]? = some (.cells #[.slice none 0 0, .slice ao2 m2 cp2] 66 (0, 0)) := by rw [hO]; exact heap_alloc_new _ _
  rw [← hw2, hO2, ← hS]
  clear hw2 hO2
  obtain ⟨W3, hW3⟩ : ∃ W3, W3 = w2.alloc (.cells #[.slice none 0 0, .slice ao2 m2 cp2] 66) := ⟨_, rfl⟩
  rw [← hW3] at hB3 hO0 ⊢
  have hsz3 : W3.heap.size = O + 1 := by rw [hW3, hO]; simp
  have Hsz3 := Lib.hid hsz3
  clear hsz3 hW3
  have HS3 := Lib.hid hS; clear hS
  have HO3 := Lib.hid hO; clear hO
  go_loopw [4, 5, 6] (fun i _ _ wr => ∃ (k : Nat) (v : Value), k ≤ next.length ∧ i = .int .i64 k ∧ Below O w2 wr ∧ O < wr.heap.size ∧ wr.heap[O]? = some (.cells #[v, .slice ao2 m2 cp2] 66 (0, 0)) ∧ Own wr (O + 1) 137 256 v ((Wd.rows of next k).map Wd.rowV)) (fun i _ _ _ => next.length - (intOf i).toNat)
  case atStart => exact ⟨0, _, by omega, rfl, hB3, by rw [Hsz3.out]; omega, hO0, by rw [Wd.rows_zero]; exact Own.nil _ _ _ _⟩
  case round =>
    clear hB3 hO0
    obtain ⟨k, v, hk, rfl, hBr, hOs, hOb, hown⟩ := hrel
    have hxw : wr.cell? ⟨S, 256, none⟩ = some (.slice (some ⟨b, off, none⟩) next.length cap) := by rw [hBr.cell (p := ⟨S, 256, none⟩) hy2]; exact hxn
    by_cases hlt : k < next.length
    · obtain ⟨vk, hvk, hsk⟩ := N4.out k hlt
      obtain ⟨ak, bk, ok, capk, rfl, r1, r2, r3, r4, r5⟩ := slInts hsk
      have hrg := HG.out.rows k hlt
      have hwd := HG.out.w0
      obtain ⟨rfl, hbk⟩ := r3 (by have := hrg.2.1; omega)
      have hbS : b < O := by have := HS3.out; omega
      have hbkS : bk < O := by have := HS3.out; omega
      have hnk : wr.cell? ⟨b, off + k, none⟩ = some (.slice (some ⟨bk, ok, none⟩) (next.getD k []).length capk) := (hBr.cell (p := ⟨b, off + k, none⟩) hbS).trans (bkeep HB2.out hvk)
      have HR4 : Hid (∀ c, c < (next.getD k []).length → w2.cell? ⟨bk, ok + c, none⟩ = some (.int .i64 ((next.getD k []).getD c 0))) := Lib.hid (fun c hc => bkeep HB2.out (r4 c hc))
      clear r2
      have HRG := Lib.hid hrg; clear hrg hwd
      clear hvk hsk r3 r4 r5
      generalize hrw : next.getD k [] = row at *
      have Hrw := Lib.hid hrw; clear hrw
      have HBr := Lib.hid hBr; clear hBr
      have HOb := Lib.hid hOb; clear hOb
      have HOwn := Lib.hid hown; clear hown
      go_wp2
      obtain ⟨g, hg⟩ : ∃ g, g = wr.heap.size := ⟨_, rfl⟩
      have hg0 : (wr.alloc (.cells Try.zeroCells137 137)).heap[g]? = some (.cells (Wd.part of row 0) 137 (0, 0)) := by
        rw [hg, heap_alloc_new, Wd.part_zero]
      have hgB : Below g wr (wr.alloc (.cells Try.zeroCells137 137)) := by rw [hg]; exact (Below.refl _ _).alloc (Nat.le_refl _) _
      have hgs : (wr.alloc (.cells Try.zeroCells137 137)).heap.size = g + 1 := by rw [hg]; simp
      rw [← hg]
      obtain ⟨W5, hW5⟩ : ∃ W5, W5 = wr.alloc (.cells Try.zeroCells137 137) := ⟨_, rfl⟩
      rw [← hW5] at hg0 hgB hgs ⊢
      have hOg : O < g := by omega
      have HNK := Lib.hid hnk
      have HXW := Lib.hid hxw
      clear hW5 hnk hxw
      have HGG := Lib.hid hg; clear hg
      obtain ⟨wo, rfl⟩ : ∃ wo : World, wo = wr := ⟨_, rfl⟩
      go_loopw [6] (fun i ww => ∃ c : Nat, c ≤ 256 ∧ i = .int .i64 c ∧ Below g wo ww ∧ Hid (ww.heap.size = g + 1) ∧ Hid (ww.heap[g]? = some (.cells (Wd.part of row c) 137 (0, 0)))) (fun i _ => 256 - (intOf i).toNat)
      case atStart => exact ⟨0, by omega, rfl, hgB, Lib.hid hgs, Lib.hid hg0⟩
      case round =>
        clear hgB hgs hg0
        obtain ⟨c, hc, rfl, hBg, hsg, hbg⟩ := hrel
        have HBg := Lib.hid hBg; clear hBg
        by_cases hcl : c < 256
        · obtain ⟨m, hm⟩ := Int.eq_ofNat_of_zero_le (HP.out.of_wf c hcl).1
          have hmw : m < row.length := by
            have h1 := HG.out.cols c hcl
            have h2 := HRG.out.2.1
            omega
          have hx1 : wr.cell? ⟨S, c, none⟩ = some (.int .u8 (m : Int)) := by
            rw [HBg.out.cell (p := ⟨S, c, none⟩) (show S < g by omega), HBr.out.cell (p := ⟨S, c, none⟩) hy2, hxo.out c hcl, hm]
          have hx2 : wr.cell? ⟨bk, ok + m, none⟩ = some (.int .i64 (row.getD m 0)) := by
            rw [HBg.out.cell (p := ⟨bk, ok + m, none⟩) (show bk < g by omega), HBr.out.cell (p := ⟨bk, ok + m, none⟩) hbkS, HR4.out m hmw]
          have hxb := HRG.out.2.2 m (by have := HRG.out.2.1; omega)
          have hst := Lib.hid (Wd.part_step of row c hcl)
          rw [hm, Int.toNat_natCast] at hst
          have Hm := Lib.hid hm; clear hm
          generalize row.getD m 0 = x at *
          obtain ⟨hxb0, hxb1⟩ := hxb
          have hnk : wr.cell? ⟨b, off + k, none⟩ = some (.slice (some ⟨bk, ok, none⟩) row.length capk) := by rw [HBg.out.cell (p := ⟨b, off + k, none⟩) (show b < g by omega)]; exact HNK.out
          have hxw : wr.cell? ⟨S, 256, none⟩ = some (.slice (some ⟨b, off, none⟩) next.length cap) := by rw [HBg.out.cell (p := ⟨S, 256, none⟩) (show S < g by omega)]; exact HXW.out
          have hd1 : wr.cell? ⟨g, c, none⟩ = some (.int .i16 0) := by rw [cell_of_row wr g c _ _ _ hbg.out]; exact Wd.part_get of row c hcl
          have hd2 : wr.frozen? ⟨g, c, none⟩ = false := frozen_of_row wr g c _ _ hbg.out
          go_wp2
          go_still_tail 14, (by kernel_rfl)
          change wpList _ _ _ _ _ wr.drew
          have hbgD : wr.drew.heap[g]? = some (.cells (Wd.part of row c) 137 (0, 0)) := hbg.out
          have hBD : Below g wo wr.drew := HBg.out.drew
          have hsD : wr.drew.heap.size = g + 1 := hsg.out
          have hd1D : wr.drew.cell? ⟨g, c, none⟩ = some (.int .i16 0) := hd1
          have hd2D : wr.drew.frozen? ⟨g, c, none⟩ = false := hd2
          generalize wr.drew = wd at *
          have HbgD := Lib.hid hbgD; have HBD := Lib.hid hBD; have HsD := Lib.hid hsD
          clear hbgD hBD hsD
          go_wp2
          go_roundw
          case rel => exact ⟨c + 1, by omega, by go_num, HBD.out.setCell (Nat.le_refl _) _, Lib.hid (by rw [World.size_setCell]; exact HsD.out), Lib.hid (by rw [heap_setCell_same _ _ _ _ _ _ HbgD.out, hst.out])⟩
          case measure => simp [intOf]; omega
        · obtain rfl : c = 256 := by omega
          have hgw : wr.heap[g]? = some (.cells (Wd.part of row 256) 137 (0, 0)) := hbg.out
          have hOw : wr.heap[O]? = some (.cells #[v, .slice ao2 m2 cp2] 66 (0, 0)) := by rw [HBg.out.block O hOg]; exact HOb.out
          have hOwnW : Own wr (O + 1) 137 256 v ((Wd.rows of next k).map Wd.rowV) := HOwn.out.below HBg.out (fun q hq => by have := (HOwn.out.lt q hq).2; have := HGG.out; omega)
          have hv0 : wr.cell? ⟨O, 0, none⟩ = some v := by rw [cell_of_row wr O 0 _ _ _ hOw]; rfl
          have hpsz := Wd.part_size of row 256 (Nat.le_refl _)
          have hpi : Hid ((Try.prog.info? 137).map (·.size) = some (Wd.part of row 256).size) := Lib.hid (by rw [hpsz]; kernel_rfl)
          have HGW := Lib.hid hgw; clear hgw
          have HOW2 := Lib.hid hOw; clear hOw
          have hWs : O + 1 ≤ wr.heap.size := by have := hsg.out; omega
          have HPS := Lib.hid hpsz; clear hpsz
          have HBX := Lib.hid (HBr.out.trans (HBg.out.mono (Nat.le_of_lt hOg)))
          have hOl : O ≤ wr.heap.size := by omega
          have hOl2 : O ≤ (wr.alloc (.cells (Wd.part of row 256) 137)).heap.size := by rw [World.size_alloc]; omega
          have hOo : ∀ q, v.ownBlock = some q → O ≤ q := fun q hq => by have := (HOwn.out.lt q hq).1; omega
          go_wp2_with (first
            | (refine wpList_load_row rfl 137 (.tmp 5) rfl g rfl 137 (Wd.part of row 256) (0, 0) _ HGW.out Try.underlying137 rfl hpi.out ?_)
            | (refine buildOne rowE rfl (.tmp 37) rfl (Wd.part of row 256) rfl HPS.out (by decide) ?_)
            | (at_builtin; refine app1 (v := v) rowE rfl (.tmp 36) (.tmp 38) rfl (O + 1) ((Wd.rows of next k).map Wd.rowV) rfl (hOwnW.alloc _) (.agg (Wd.part of row 256)) _ 1 rfl (fun j q hq => cells_lit _ _ j q hq) (by rw [← Array.length_toList] at HPS; exact HPS.out) (Wd.part_one of row) (by simp [Wd.rows_len]; omega) (by simp [Wd.rows_len]; unfold maxLen; omega) (by simp; omega) ?_; intro g7 n7 c7 w7 hown7 hgr7 hg7 hg7'; have hgr8 : World.grownBy _ w7 v.ownBlock := hgr7; have hO7 : w7.heap[O]? = some (.cells #[v, .slice ao2 m2 cp2] 66 (0, 0)) := (by rw [hgr8.block O (by simp; omega) (fun e => by have := (HOwn.out.lt O e.symm).1; omega), Below.heap_alloc _ _ O (by omega)]; exact HOW2.out); have hc7 : w7.cell? ⟨O, 0, none⟩ = some v := (by rw [cell_of_row w7 O 0 _ _ _ hO7]; rfl); have hf7 : w7.frozen? ⟨O, 0, none⟩ = false := frozen_of_row w7 O 0 _ _ hO7; have hB7 : Below O w2 w7 := ((HBX.out.alloc hOl (.cells (Wd.part of row 256) 137)).grown hgr8 hOl2 hOo); have HO7 := Lib.hid hO7; have HB7 := Lib.hid hB7; have HW7 := Lib.hid hown7; clear hgr8 hgr7 hO7 hB7 hown7))
          go_roundw
          case rel =>
            refine ⟨k + 1, .slice (some ⟨g7, 0, none⟩) n7 c7, by omega, by go_num, HB7.out.setCell (Nat.le_refl _) _, by rw [World.size_setCell]; omega, by rw [heap_setCell_same _ _ _ _ _ _ HO7.out]; rfl, ?_⟩
            rw [Wd.rows_succ, Hrw.out, List.map_append, List.map_cons, List.map_nil, Wd.rowV, ← Wd.part_end]
            exact ownsRow_setCell_below HW7.out (Nat.lt_succ_self _) _
          case measure => simp [intOf]; omega
    · obtain rfl : k = next.length := by omega
      obtain ⟨av, nv, cv, rfl⟩ := hown.isSlice
      have hc0 : wr.cell? ⟨O, 0, none⟩ = some (.slice av nv cv) := by rw [cell_of_row wr O 0 _ _ _ hOb]; rfl
      have hc1 : wr.cell? ⟨O, 1, none⟩ = some (.slice ao2 m2 cp2) := by rw [cell_of_row wr O 1 _ _ _ hOb]; rfl
      have hr0 : wr.cell? ⟨S + 1, 0, none⟩ = some (.slice none 0 0) := by rw [hBr.cell (p := ⟨S + 1, 0, none⟩) hz2]; exact hxr.out.1
      have hr1 : wr.cell? ⟨S + 1, 1, none⟩ = some (.slice none 0 0) := by rw [hBr.cell (p := ⟨S + 1, 1, none⟩) hz2]; exact hxr.out.2.1
      have hf0 : wr.frozen? ⟨S + 1, 0, none⟩ = false := by rw [World.frozen?_of_block (w := w2) (hBr.block (S + 1) hz2)]; exact hxr.out.2.2.1
      have hf1 : wr.frozen? ⟨S + 1, 1, none⟩ = false := by rw [World.frozen?_of_block (w := w2) (hBr.block (S + 1) hz2)]; exact hxr.out.2.2.2
      have HBr := Lib.hid hBr
      have HOb := Lib.hid hOb
      have HOwn := Lib.hid hown
      clear hBr hOb hown
      go_wp2

      refine bodyPost_ret (v := .agg #[.slice av nv cv, .slice ao2 m2 cp2]) (by simp [results, Try.results30, go_sem, hr0, hr1]) rfl ⟨.slice av nv cv, rfl, ?_, ?_⟩
      · refine Own.mono (B := O + 1) ?_ (by have := HS3.out; omega)
        exact ownsRow_setCell_below (ownsRow_setCell_below HOwn.out (by show S + 1 < O + 1; omega) _) (by show S + 1 < O + 1; omega) _
      · have h9 : Below w.heap.size w wr := HB2.out.trans (HBr.out.mono (by have := HS3.out; omega))
        exact (h9.setCell (by show w.heap.size ≤ S + 1; have := HS3.out; omega) _).setCell (by show w.heap.size ≤ S + 1; have := HS3.out; omega) _
end Go.Proofs.Ytkgpipokfoadiaa
