/-
  The walk of the law SmallUnpacks.
-/
import Derived.Test.YtlejdbabbakhlaaWide
import Derived.Test.YtlejdbabbakhlaaPackedRef
import Derived.Test.YtlejdbabbakhlaaSlEq
import Derived.Test.YtlejdbabbakhlaaDfaRun
namespace Go.Proofs.Ytlejdbabbakhlaa
open Go.ChangeShapes Go.WideShapes Go.ChangeAt Go.RowKit

theorem Sl.isSlice {α : Type} {w : World} {size : Nat} {R : List Value → α → Prop} {v : Value} {l : List α} (h : Sl w size R v l) : ∃ ao n cap, v = .slice ao n cap := by
  obtain ⟨ao, _, _, cap, h1, _⟩ := h
  exact ⟨_, _, _, h1⟩

theorem Sl.nil {α : Type} (w : World) (size : Nat) (R : List Value → α → Prop) : Sl w size R (.slice none 0 0) ([] : List α) :=
  ⟨none, 0, 0, 0, rfl, Nat.le_refl _, by decide, fun h => by simp at h, fun i hi => by simp at hi⟩

set_option maxRecDepth 100000 in
theorem sameDfa_any {a0 a1 b0 b1 : Value} {rows : List (List Int)} {tags : List Int} (w : World) (h0 : Sl w 256 (RRow .i16 256) a0 rows) (h1 : Sl w 1 (RInt .i64) a1 tags) (k0 : Sl w 256 (RRow .i16 256) b0 rows) (k1 : Sl w 1 (RInt .i64) b1 tags) :
    Calls Try.prog 41 #[.agg #[a0, a1], .agg #[b0, b1]] w fun e w' => e = .returned (.bool true) ∧ Below w.heap.size w w' := by
  have hB : Below w.heap.size w ((w.alloc (.cells #[a0, a1] 45)).alloc (.cells #[b0, b1] 45)) := ((Below.refl _ _).alloc (Nat.le_refl _) _).alloc (by simp) _
  have hx0 : ((w.alloc (.cells #[a0, a1] 45)).alloc (.cells #[b0, b1] 45)).cell? ⟨w.heap.size, 1, none⟩ = some a1 := by
    rw [World.cell?_alloc_past _ _ _ (by simp), World.cell?_alloc_new]; rfl
  have hx1 : ((w.alloc (.cells #[a0, a1] 45)).alloc (.cells #[b0, b1] 45)).cell? ⟨w.heap.size + 1, 1, none⟩ = some b1 := by
    rw [World.cell?_alloc_at _ _ _ _ (by simp)]; rfl
  go_enter Try.func41, Try.ntmps41
  go_wp2_with (first
    | (go_at_call 57; refine (eqRows (l := rows) _ (h0.call hB (fun _ _ h => h)) (k0.call hB (fun _ _ h => h))).mono ?_; rintro e w1 ⟨rfl, hb1⟩; replace hx0 := bkeep hb1 hx0; replace hx1 := bkeep hb1 hx1; replace hB := hB.trans (hb1.mono hB.size); clear hb1)
    | (go_at_call 58; refine (eqInts (l := tags) _ (h1.call hB (fun _ _ h => h)) (k1.call hB (fun _ _ h => h))).mono ?_; rintro e w2 ⟨rfl, hb1⟩; replace hB := hB.trans (hb1.mono hB.size); clear hb1))
  go_ret
  exact ⟨rfl, hB⟩

set_option maxRecDepth 100000 in
set_option maxHeartbeats 8000000 in
theorem smallUnpacks_walk (A : Array Value) (of : List Int) (next : List (List Int)) (tags : List Int) (vn vt : Value) (w : World) (hp : PackedAt w A of next tags vn vt) :
    Calls Try.prog 10 #[.agg A] w fun e w' => e = .returned (.bool true) ∧ Below w.heap.size w w' := by
  have hsz : (Try.prog.info? 67).map (·.size) = some A.size := by rw [hp.size]; kernel_rfl
  have HS := Lib.hid hsz; clear hsz
  have HP := Lib.hid hp; clear hp
  rcases Pkd.err_cases of next tags with he | ⟨he, h200, hg⟩
  · obtain ⟨E, hE⟩ : ∃ E, E = Pkd.err of next tags := ⟨_, rfl⟩
    have HX := Lib.hid he.1
    rw [← hE] at he
    have hE1 : ((E : Int) == 0) = false := by rw [beq_eq_false_iff_ne]; omega
    have hE2 : ((E : Int) == E) = true := beq_self_eq_true _
    have HE := Lib.hid hE; clear hE he
    go_enter Try.func10, Try.ntmps10
    go_wp2_with (first
      | (refine wpList_load_row rfl 67 (.tmp 1) rfl w.heap.size rfl 67 A (0, 0) _ (by first | exact heap_alloc_new _ _ | exact hA1 | exact hA4 _ _ | exact hA6 _ _) Try.underlying67 rfl HS.out ?_)
      | (go_at_call 37; refine (rpacked_any A of next tags vn vt _ (HP.out.below ((Below.refl _ _).alloc (Nat.le_refl _) _))).mono ?_; rintro e w1 ⟨rfl, hb1⟩; rw [← HE.out]; have hB1 : Below w.heap.size w w1 := ((Below.refl _ _).alloc (Nat.le_refl _) _).trans (hb1.mono (by simp)); have hz1 : w.heap.size < w1.heap.size := (by have := hb1.size; simp at this; omega); have hA1 : w1.heap[w.heap.size]? = some (.cells A 67 (0, 0)) := ((hb1.block w.heap.size (by simp)).trans (heap_alloc_new w _)))
      | (go_at_call 38; refine (unpack_bad A of next tags vn vt _ (HP.out.below hB1) HX.out).mono ?_; rintro e w2 ⟨rfl, hb2⟩; rw [← HE.out]; have hB2 : Below w.heap.size w w2 := hB1.trans (hb2.mono hB1.size); have hz2 : w.heap.size < w2.heap.size := (by have := hb2.size; omega); have hA2 : w2.heap[w.heap.size]? = some (.cells A 67 (0, 0)) := ((hb2.block w.heap.size hz1).trans hA1); have hA4 : ∀ o1 o2, ((w2.alloc o1).alloc o2).heap[w.heap.size]? = some (.cells A 67 (0, 0)) := (fun o1 o2 => (by rw [Below.heap_alloc _ _ _ (by simp; omega), Below.heap_alloc _ _ _ hz2]; exact hA2)); have hB4 : ∀ o1 o2, Below w.heap.size w ((w2.alloc o1).alloc o2) := (fun o1 o2 => ((hB2.alloc (by omega) o1).alloc (by simp; omega) o2)))
      | (go_at_call 40; refine (smallCheck_any A of next tags vn vt _ (HP.out.below (hB4 _ _))).mono ?_; rintro e w3 ⟨rfl, hb3⟩; rw [← HE.out]; have hB3 := (hB4 _ _).trans (hb3.mono (hB4 _ _).size); obtain ⟨hcl3, hfr3⟩ := bcell hb3; simp only [World.size_alloc] at hcl3 hfr3)
      | (go_at_call 41; refine (sameDfa_any (rows := []) (tags := []) _ (Sl.nil _ _ _) (Sl.nil _ _ _) (Sl.nil _ _ _) (Sl.nil _ _ _)).mono ?_; rintro e w5 ⟨rfl, hb5⟩; have hB5 := hB3.trans (hb5.mono hB3.size)))
    go_ret
    exact ⟨rfl, hB5⟩
  · obtain ⟨at2, nt, ct, rfl⟩ := HP.out.tagss.isSlice
    go_enter Try.func10, Try.ntmps10
    go_wp2_with (first
      | (refine wpList_load_row rfl 67 (.tmp 1) rfl w.heap.size rfl 67 A (0, 0) _ (by first | exact heap_alloc_new _ _ | exact hA1 | exact hA4 _ _ | exact hA6 _ _) Try.underlying67 rfl HS.out ?_)
      | (go_at_call 37; refine (rpacked_any A of next tags vn _ _ (HP.out.below ((Below.refl _ _).alloc (Nat.le_refl _) _))).mono ?_; rintro e w1 ⟨rfl, hb1⟩; rw [he]; have hB1 : Below w.heap.size w w1 := ((Below.refl _ _).alloc (Nat.le_refl _) _).trans (hb1.mono (by simp)); have hz1 : w.heap.size < w1.heap.size := (by have := hb1.size; simp at this; omega); have hA1 : w1.heap[w.heap.size]? = some (.cells A 67 (0, 0)) := ((hb1.block w.heap.size (by simp)).trans (heap_alloc_new w _)))
      | (go_at_call 38; refine (unpack_ok A of next tags vn _ _ (HP.out.below hB1) he).mono ?_; rintro e w2 ⟨v', rfl, ⟨v0, v1, rfl, hs0, hs1⟩, hb2⟩; obtain ⟨av, nv, cv, rfl⟩ := hs0.isSlice; obtain ⟨ax, nx, cx, rfl⟩ := hs1.isSlice; have hB2 : Below w.heap.size w w2 := hB1.trans (hb2.mono hB1.size); have hz2 : w.heap.size < w2.heap.size := (by have := hb2.size; omega); have hA2 : w2.heap[w.heap.size]? = some (.cells A 67 (0, 0)) := ((hb2.block w.heap.size hz1).trans hA1); have hA4 : ∀ o1 o2, ((w2.alloc o1).alloc o2).heap[w.heap.size]? = some (.cells A 67 (0, 0)) := (fun o1 o2 => (by rw [Below.heap_alloc _ _ _ (by simp; omega), Below.heap_alloc _ _ _ hz2]; exact hA2)); have hB4 : ∀ o1 o2, Below w.heap.size w ((w2.alloc o1).alloc o2) := (fun o1 o2 => ((hB2.alloc (by omega) o1).alloc (by simp; omega) o2)))
      | (go_at_call 39; refine (wide_ok A of next tags vn _ _ (HP.out.below (hB4 _ _)) h200 hg).mono ?_; rintro e w5 ⟨g0, rfl, hown5, hb5⟩; obtain ⟨ag, ng, cg, rfl⟩ := hown5.isSlice; have hB5 := (hB4 _ _).trans (hb5.mono (hB4 _ _).size); have hz5 : w2.heap.size + 1 < w5.heap.size := (by have := hb5.size; simp at this; omega); have h25 : Below w2.heap.size w2 w5 := ((((Below.refl _ _).alloc (Nat.le_refl _) _).alloc (by simp) _).trans (hb5.mono (by simp; omega))); have hA5 : w5.heap[w.heap.size]? = some (.cells A 67 (0, 0)) := ((hb5.block w.heap.size (by simp; omega)).trans (hA4 _ _)); have hA6 : ∀ x y, ((w5.setCell ⟨w2.heap.size + 1, 0, none⟩ x).setCell ⟨w2.heap.size + 1, 1, none⟩ y).heap[w.heap.size]? = some (.cells A 67 (0, 0)) := (fun x y => (by rw [Below.heap_setCell _ _ _ _ (by show w.heap.size ≠ w2.heap.size + 1; omega), Below.heap_setCell _ _ _ _ (by show w.heap.size ≠ w2.heap.size + 1; omega)]; exact hA5)); have hB6 : ∀ x y, Below w.heap.size w ((w5.setCell ⟨w2.heap.size + 1, 0, none⟩ x).setCell ⟨w2.heap.size + 1, 1, none⟩ y) := (fun x y => (hB5.setCell (by show w.heap.size ≤ w2.heap.size + 1; omega) x).setCell (by show w.heap.size ≤ w2.heap.size + 1; omega) y); have h26 : ∀ x y, Below w2.heap.size w2 ((w5.setCell ⟨w2.heap.size + 1, 0, none⟩ x).setCell ⟨w2.heap.size + 1, 1, none⟩ y) := (fun x y => (h25.setCell (by show w2.heap.size ≤ w2.heap.size + 1; omega) x).setCell (by show w2.heap.size ≤ w2.heap.size + 1; omega) y); have hO6 : ∀ x y, Own ((w5.setCell ⟨w2.heap.size + 1, 0, none⟩ x).setCell ⟨w2.heap.size + 1, 1, none⟩ y) (w2.heap.size + 1 + 1) 101 256 (.slice ag ng cg) ((Wd.rows of next next.length).map Wd.rowV) := (fun x y => ownsRow_setCell_below (ownsRow_setCell_below (hown5.mono (by simp)) (by show w2.heap.size + 1 < w2.heap.size + 1 + 1; omega) _) (by show w2.heap.size + 1 < w2.heap.size + 1 + 1; omega) _); obtain ⟨hcl5, hfr5⟩ := bcell hb5; simp only [World.size_alloc] at hcl5 hfr5; have hd0 : w5.cell? ⟨w2.heap.size, 0, none⟩ = some (.slice av nv cv) := (by rw [hcl5 _ _ (by omega), World.cell?_alloc_past _ _ _ (by simp), World.cell?_alloc_new]; rfl); have hd1 : w5.cell? ⟨w2.heap.size, 1, none⟩ = some (.slice ax nx cx) := (by rw [hcl5 _ _ (by omega), World.cell?_alloc_past _ _ _ (by simp), World.cell?_alloc_new]; rfl); have hd2 : w5.cell? ⟨w2.heap.size + 1, 0, none⟩ = some (.slice none 0 0) := (by rw [hcl5 _ _ (by omega), World.cell?_alloc_at _ _ _ _ (by simp)]; rfl); have hd3 : w5.cell? ⟨w2.heap.size + 1, 1, none⟩ = some (.slice none 0 0) := (by rw [hcl5 _ _ (by omega), World.cell?_alloc_at _ _ _ _ (by simp)]; rfl); have hf2 : w5.frozen? ⟨w2.heap.size + 1, 0, none⟩ = false := (by rw [hfr5 _ _ (by omega), World.frozen?_alloc_at _ _ _ _ (by simp)]); have hf3 : w5.frozen? ⟨w2.heap.size + 1, 1, none⟩ = false := (by rw [hfr5 _ _ (by omega), World.frozen?_alloc_at _ _ _ _ (by simp)]); clear hcl5 hfr5)
      | (go_at_call 40; refine (smallCheck_any A of next tags vn _ _ (HP.out.below (hB6 (.slice ag ng cg) (.slice at2 nt ct)))).mono ?_; rintro e w6 ⟨rfl, hb6⟩; rw [he]; have hB7 := (hB6 (.slice ag ng cg) (.slice at2 nt ct)).trans (hb6.mono (hB6 (.slice ag ng cg) (.slice at2 nt ct)).size); have h27 := (h26 (.slice ag ng cg) (.slice at2 nt ct)).trans (hb6.mono (h26 (.slice ag ng cg) (.slice at2 nt ct)).size); have hO7 := (hO6 (.slice ag ng cg) (.slice at2 nt ct)).call hb6; obtain ⟨hcl6, _⟩ := bcell hb6; simp only [World.size_setCell] at hcl6; have hq0 : w6.cell? ⟨w2.heap.size, 0, none⟩ = some (.slice av nv cv) := (by rw [hcl6 _ _ (by omega), World.cell?_setCell_far _ _ _ _ (by show w2.heap.size + 1 ≠ w2.heap.size; omega), World.cell?_setCell_far _ _ _ _ (by show w2.heap.size + 1 ≠ w2.heap.size; omega)]; exact hd0); have hq1 : w6.cell? ⟨w2.heap.size, 1, none⟩ = some (.slice ax nx cx) := (by rw [hcl6 _ _ (by omega), World.cell?_setCell_far _ _ _ _ (by show w2.heap.size + 1 ≠ w2.heap.size; omega), World.cell?_setCell_far _ _ _ _ (by show w2.heap.size + 1 ≠ w2.heap.size; omega)]; exact hd1); have hq2 : w6.cell? ⟨w2.heap.size + 1, 0, none⟩ = some (.slice ag ng cg) := (by rw [hcl6 _ _ (by omega)]; exact (World.cell?_setCell_other _ _ _ _ (by simp)).trans (World.cell?_setCell_same _ _ _ hd2)); have hq3 : w6.cell? ⟨w2.heap.size + 1, 1, none⟩ = some (.slice at2 nt ct) := (by rw [hcl6 _ _ (by omega)]; exact World.cell?_setCell_same (u := .slice none 0 0) _ _ _ ((World.cell?_setCell_other _ _ _ _ (by simp)).trans hd3)))
      | (go_at_call 41; refine (sameDfa_any (rows := Wd.rows of next next.length) (tags := tags) _ (hs0.call h27 (fun _ _ h => h)) (hs1.call h27 (fun _ _ h => h)) (Wd.sl hO7 (Wd.rows_wf of next tags hg h200 (fun c hc => (HP.out.of_wf c hc).1))) (HP.out.tagss.call hB7 (fun _ _ h => h))).mono ?_; rintro e w8 ⟨rfl, hb8⟩; have hB8 := hB7.trans (hb8.mono hB7.size)))


    go_ret
    exact ⟨rfl, hB8⟩
end Go.Proofs.Ytlejdbabbakhlaa
