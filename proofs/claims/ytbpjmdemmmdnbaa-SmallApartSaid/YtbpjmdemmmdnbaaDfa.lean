/-
  Check of package dfa and RightDfa of the reference: what they compute.
-/
import Derived.Test.YtbpjmdemmmdnbaaDfaDat
namespace Go.Proofs.Ytbpjmdemmmdnbaa
open Go.ChangeShapes Go.WideShapes Go.ChangeAt Go.RowKit Go.Joins

set_option maxRecDepth 100000 in
theorem dfaCheck_any (v : Value) (rows : List (List Int)) (tags : List Int) (w : World) (hd : DfaAt w v rows tags) :
    Calls Try.prog 33 #[v] w fun e w' => e = .returned (.int .i64 (Aut.err rows tags)) ∧ Below w.heap.size w w' := by
  obtain ⟨v0, v1, rfl, hr, ht⟩ := hd
  obtain ⟨ao, b, off, cap, rfl, c1, c2, c3, c4, c5⟩ := slRows hr
  obtain ⟨at0, bt, ot, capt, rfl, t1, t2, t3, t4, t5⟩ := slInts ht
  unfold maxLen at c2 t2
  have C3 := Lib.hid c3; have C4 := Lib.hid c4; have C5 := Lib.hid c5; have T3 := Lib.hid t3; have T4 := Lib.hid t4; have T5 := Lib.hid t5
  clear c3 c4 c5 t3 t4 t5
  by_cases h200 : 200 < rows.length
  · have He := Lib.hid (Aut.err_large rows tags h200)
    go_enter Try.func33, Try.ntmps33
    go_wp2
    go_ret
    exact ⟨by rw [He.out]; rfl, (Below.refl _ _).alloc (Nat.le_refl _) _⟩
  by_cases h0 : rows.length = 0
  · have He := Lib.hid (Aut.err_arg rows tags h200 (.inl h0))
    have h00 : ((rows.length : Int) == 0) = true := by rw [beq_iff_eq]; omega
    clear h0
    go_enter Try.func33, Try.ntmps33
    go_wp2
    all_goals go_ret
    all_goals exact ⟨by rw [He.out]; rfl, (Below.refl _ _).alloc (Nat.le_refl _) _⟩
  have hn0 : ((rows.length : Int) == 0) = false := by rw [beq_eq_false_iff_ne]; omega
  by_cases h1 : tags.length = rows.length
  · have Hl := Lib.hid h1; clear h1
    obtain ⟨rfl, hb⟩ := C3.out (by omega)
    obtain ⟨rfl, hbt⟩ := T3.out (by have := Hl.out; omega)
    have hne : ((tags.length : Int) != (rows.length : Int)) = false := by have := Hl.out; rw [bne_eq_false_iff_eq]; omega
    go_enter Try.func33, Try.ntmps33
    go_wp2
    obtain ⟨W, hW⟩ : ∃ W, W = w.alloc (.cells #[.slice (some ⟨b, off, none⟩) rows.length cap, .slice (some ⟨bt, ot, none⟩) tags.length capt] 25) := ⟨_, rfl⟩
    have hB : Below w.heap.size w W := by rw [hW]; exact (Below.refl _ _).alloc (Nat.le_refl _) _
    have hb0 : W.cell? ⟨w.heap.size, 0, none⟩ = some (.slice (some ⟨b, off, none⟩) rows.length cap) := by rw [hW, World.cell?_alloc_new]; rfl
    have hb1 : W.cell? ⟨w.heap.size, 1, none⟩ = some (.slice (some ⟨bt, ot, none⟩) tags.length capt) := by rw [hW, World.cell?_alloc_new]; rfl
    rw [← hW]
    clear hW
    go_loop [4, 6, 22] (fun _ _ i => ∃ k : Nat, k ≤ rows.length ∧ i = .int .i64 k ∧ Hid (∀ j, j < k → Aut.tagGood (tags.getD j 0) ∧ Aut.rowGood rows.length (rows.getD j []))) (fun _ _ i => rows.length - (intOf i).toNat)
    case atStart => exact ⟨0, by omega, rfl, Lib.hid (fun j hj => by omega)⟩
    case round =>
      obtain ⟨k, hk, rfl, hgood⟩ := hrel
      by_cases hlt : k < rows.length
      · have htag : W.cell? ⟨bt, ot + k, none⟩ = some (.int .i64 (tags.getD k 0)) := bkeep hB (T4.out k (by have := Hl.out; omega))
        have hkt : k < tags.length := by have := Hl.out; omega
        have hrow := Lib.hid (rangeAt_below hB (C4.out k hlt))
        have hlen := Lib.hid (C5.out k hlt)
        generalize htg : tags.getD k 0 = tg at htag
        have Htg := Lib.hid htg; clear htg
        generalize hrw : rows.getD k [] = row at hrow hlen
        have Hrw := Lib.hid hrw; clear hrw
        by_cases g1 : tg < -1
        · have He := Lib.hid (Aut.err_bad rows tags h200 (Aut.bad_tag rows tags k hlt (by rw [Htg.out]; unfold Aut.tagGood; omega)))
          go_wp2
          go_ret
          exact ⟨by rw [He.out]; rfl, hB⟩
        by_cases g2 : 20 ≤ tg
        · have He := Lib.hid (Aut.err_bad rows tags h200 (Aut.bad_tag rows tags k hlt (by rw [Htg.out]; unfold Aut.tagGood; omega)))
          go_wp2
          go_ret
          exact ⟨by rw [He.out]; rfl, hB⟩
        go_wp2_with (refine wpList_load_mid rfl 92 (.tmp 42) rfl b _ rfl (row.map (Value.int .i16)) _ hrow.out Try.underlying92 rfl (by rw [List.length_map, hlen.out.1]; kernel_rfl) ?_)
        clear htag
        go_loop [6, 44] (fun _ i => ∃ c : Nat, c ≤ 256 ∧ i = .int .i64 c ∧ Hid (∀ j, j < c → -1 ≤ row.getD j 0 ∧ row.getD j 0 < rows.length)) (fun _ i => 256 - (intOf i).toNat)
        case atStart => exact ⟨0, by omega, rfl, Lib.hid (fun j hj => by omega)⟩
        case round =>
          obtain ⟨c, hc, rfl, hcols⟩ := hrel
          by_cases hcl : c < 256
          · have hidx := fun W => run_index_arr (P := Try.prog) (k := .i16) Try.underlying92 Try.underlying90 (by kernel_rfl) row hlen.out.1 c hcl W
            have hx := Aut.i16_bounds row c (by rw [hlen.out.1]; exact hcl) hlen.out.2
            generalize hxe : row.getD c 0 = x at hidx hx
            have Hx := Lib.hid hxe; clear hxe
            obtain ⟨hx0, hx1⟩ := hx
            by_cases g3 : x < -1
            · have He := Lib.hid (Aut.err_bad rows tags h200 (Aut.bad_row rows tags k c hlt hcl (by rw [Hrw.out, Hx.out]; omega)))
              go_wp2
              go_ret
              exact ⟨by rw [He.out]; rfl, hB⟩
            by_cases g4 : (rows.length : Int) ≤ x
            · have He := Lib.hid (Aut.err_bad rows tags h200 (Aut.bad_row rows tags k c hlt hcl (by rw [Hrw.out, Hx.out]; omega)))
              go_wp2
              go_ret
              exact ⟨by rw [He.out]; rfl, hB⟩
            go_wp2
            go_round
            case rel => exact ⟨c + 1, by omega, by go_num, Lib.hid (fun j hj => by
              by_cases e : j = c
              · rw [e, Hx.out]; omega
              · exact hcols.out j (by omega))⟩
            case measure => simp [intOf]; omega
          · have hc256 : c = 256 := by omega
            subst hc256
            go_wp2
            go_round
            case rel => exact ⟨k + 1, by omega, by go_num, Lib.hid (fun j hj => by
              by_cases e : j = k
              · rw [e, Htg.out, Hrw.out]; exact ⟨by unfold Aut.tagGood; omega, hcols.out⟩
              · exact hgood.out j (by omega))⟩
            case measure => simp [intOf]; omega
      · have hke : k = rows.length := by omega
        have He := Lib.hid (Aut.err_ok rows tags h200 h0 Hl.out (fun j hj => hgood.out j (by omega)))
        go_wp2
        go_ret
        exact ⟨by rw [He.out]; rfl, hB⟩
  · have He := Lib.hid (Aut.err_arg rows tags h200 (.inr h1))
    have hne : ((tags.length : Int) != (rows.length : Int)) = true := by rw [bne_iff_ne]; omega
    go_enter Try.func33, Try.ntmps33
    go_wp2
    go_ret
    exact ⟨by rw [He.out]; rfl, (Below.refl _ _).alloc (Nat.le_refl _) _⟩

set_option maxRecDepth 100000 in
theorem rdfa_any (v : Value) (rows : List (List Int)) (tags : List Int) (w : World) (hd : DfaAt w v rows tags) :
    Calls Try.prog 10 #[v] w fun e w' => e = .returned (.int .i64 (Aut.err rows tags)) ∧ Below w.heap.size w w' := by
  obtain ⟨v0, v1, rfl, hr, ht⟩ := hd
  obtain ⟨ao, b, off, cap, rfl, c1, c2, c3, c4, c5⟩ := slRows hr
  obtain ⟨at0, bt, ot, capt, rfl, t1, t2, t3, t4, t5⟩ := slInts ht
  unfold maxLen at c2 t2
  have C3 := Lib.hid c3; have C4 := Lib.hid c4; have C5 := Lib.hid c5; have T3 := Lib.hid t3; have T4 := Lib.hid t4; have T5 := Lib.hid t5
  clear c3 c4 c5 t3 t4 t5
  by_cases h200 : 200 < rows.length
  · have He := Lib.hid (Aut.err_large rows tags h200)
    go_enter Try.func10, Try.ntmps10
    go_wp2
    go_ret
    exact ⟨by rw [He.out]; rfl, (Below.refl _ _).alloc (Nat.le_refl _) _⟩
  by_cases h0 : rows.length = 0
  · have He := Lib.hid (Aut.err_arg rows tags h200 (.inl h0))
    have h00 : ((rows.length : Int) == 0) = true := by rw [beq_iff_eq]; omega
    clear h0
    go_enter Try.func10, Try.ntmps10
    go_wp2
    all_goals go_ret
    all_goals exact ⟨by rw [He.out]; rfl, (Below.refl _ _).alloc (Nat.le_refl _) _⟩
  have hn0 : ((rows.length : Int) == 0) = false := by rw [beq_eq_false_iff_ne]; omega
  by_cases h1 : tags.length = rows.length
  · have Hl := Lib.hid h1; clear h1
    obtain ⟨rfl, hb⟩ := C3.out (by omega)
    obtain ⟨rfl, hbt⟩ := T3.out (by have := Hl.out; omega)
    have hne : ((rows.length : Int) != (tags.length : Int)) = false := by have := Hl.out; rw [bne_eq_false_iff_eq]; omega
    go_enter Try.func10, Try.ntmps10
    go_wp2
    obtain ⟨W, hW⟩ : ∃ W, W = w.alloc (.cells #[.slice (some ⟨b, off, none⟩) rows.length cap, .slice (some ⟨bt, ot, none⟩) tags.length capt] 25) := ⟨_, rfl⟩
    have hB : Below w.heap.size w W := by rw [hW]; exact (Below.refl _ _).alloc (Nat.le_refl _) _
    have hb0 : W.cell? ⟨w.heap.size, 0, none⟩ = some (.slice (some ⟨b, off, none⟩) rows.length cap) := by rw [hW, World.cell?_alloc_new]; rfl
    have hb1 : W.cell? ⟨w.heap.size, 1, none⟩ = some (.slice (some ⟨bt, ot, none⟩) tags.length capt) := by rw [hW, World.cell?_alloc_new]; rfl
    rw [← hW]
    clear hW
    go_loop [4, 5] (fun i _ => ∃ k : Nat, k ≤ rows.length ∧ i = .int .i64 k ∧ Hid (∀ j, j < k → Aut.tagGood (tags.getD j 0) ∧ Aut.rowGood rows.length (rows.getD j []))) (fun i _ => rows.length - (intOf i).toNat)
    case atStart => exact ⟨0, by omega, rfl, Lib.hid (fun j hj => by omega)⟩
    case round =>
      obtain ⟨k, hk, rfl, hgood⟩ := hrel
      by_cases hlt : k < rows.length
      · have htag : W.cell? ⟨bt, ot + k, none⟩ = some (.int .i64 (tags.getD k 0)) := bkeep hB (T4.out k (by have := Hl.out; omega))
        have hkt : k < tags.length := by have := Hl.out; omega
        have hrow := Lib.hid (rangeAt_below hB (C4.out k hlt))
        have hlen := Lib.hid (C5.out k hlt)
        generalize htg : tags.getD k 0 = tg at htag
        have Htg := Lib.hid htg; clear htg
        generalize hrw : rows.getD k [] = row at hrow hlen
        have Hrw := Lib.hid hrw; clear hrw
        by_cases g1 : tg < -1
        · have He := Lib.hid (Aut.err_bad rows tags h200 (Aut.bad_tag rows tags k hlt (by rw [Htg.out]; unfold Aut.tagGood; omega)))
          go_wp2
          go_ret
          exact ⟨by rw [He.out]; rfl, hB⟩
        by_cases g2 : 20 ≤ tg
        · have He := Lib.hid (Aut.err_bad rows tags h200 (Aut.bad_tag rows tags k hlt (by rw [Htg.out]; unfold Aut.tagGood; omega)))
          go_wp2
          go_ret
          exact ⟨by rw [He.out]; rfl, hB⟩
        go_wp2
        clear htag
        go_loop [5] (fun i => ∃ c : Nat, c ≤ 256 ∧ i = .int .i64 c ∧ Hid (∀ j, j < c → -1 ≤ row.getD j 0 ∧ row.getD j 0 < rows.length)) (fun i => 256 - (intOf i).toNat)
        case atStart => exact ⟨0, by omega, rfl, Lib.hid (fun j hj => by omega)⟩
        case round =>
          obtain ⟨c, hc, rfl, hcols⟩ := hrel
          by_cases hcl : c < 256
          · have hcell : W.cell? ⟨b, off + k * 256 + c, none⟩ = some (.int .i16 (row.getD c 0)) := hrow.out c _ (Aut.row_get row c (by rw [hlen.out.1]; exact hcl))
            have hx := Aut.i16_bounds row c (by rw [hlen.out.1]; exact hcl) hlen.out.2
            generalize hxe : row.getD c 0 = x at hcell hx
            have Hx := Lib.hid hxe; clear hxe
            obtain ⟨hx0, hx1⟩ := hx
            by_cases g3 : x < -1
            · have He := Lib.hid (Aut.err_bad rows tags h200 (Aut.bad_row rows tags k c hlt hcl (by rw [Hrw.out, Hx.out]; omega)))
              go_wp2
              go_ret
              exact ⟨by rw [He.out]; rfl, hB⟩
            by_cases g4 : (rows.length : Int) ≤ x
            · have He := Lib.hid (Aut.err_bad rows tags h200 (Aut.bad_row rows tags k c hlt hcl (by rw [Hrw.out, Hx.out]; omega)))
              go_wp2
              go_ret
              exact ⟨by rw [He.out]; rfl, hB⟩
            go_wp2
            go_round
            case rel => exact ⟨c + 1, by omega, by go_num, Lib.hid (fun j hj => by
              by_cases e : j = c
              · rw [e, Hx.out]; omega
              · exact hcols.out j (by omega))⟩
            case measure => simp [intOf]; omega
          · have hc256 : c = 256 := by omega
            subst hc256
            go_wp2
            go_round
            case rel => exact ⟨k + 1, by omega, by go_num, Lib.hid (fun j hj => by
              by_cases e : j = k
              · rw [e, Htg.out, Hrw.out]; exact ⟨by unfold Aut.tagGood; omega, hcols.out⟩
              · exact hgood.out j (by omega))⟩
            case measure => simp [intOf]; omega
      · have hke : k = rows.length := by omega
        have He := Lib.hid (Aut.err_ok rows tags h200 h0 Hl.out (fun j hj => hgood.out j (by omega)))
        go_wp2
        go_ret
        exact ⟨by rw [He.out]; rfl, hB⟩
  · have He := Lib.hid (Aut.err_arg rows tags h200 (.inr h1))
    have hne : ((rows.length : Int) != (tags.length : Int)) = true := by rw [bne_iff_ne]; omega
    go_enter Try.func10, Try.ntmps10
    go_wp2
    go_ret
    exact ⟨by rw [He.out]; rfl, (Below.refl _ _).alloc (Nat.le_refl _) _⟩
end Go.Proofs.Ytbpjmdemmmdnbaa
