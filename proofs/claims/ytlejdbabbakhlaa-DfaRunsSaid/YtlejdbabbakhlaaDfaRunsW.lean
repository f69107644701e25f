/-
  The walk of the law DfaRuns.
-/
import Derived.Test.YtlejdbabbakhlaaDfaRun
namespace Go.Proofs.Ytlejdbabbakhlaa
open Go.ChangeShapes Go.WideShapes Go.ChangeAt Go.RowKit

set_option maxRecDepth 100000 in
theorem dfaRuns_walk (v : Value) (rows : List (List Int)) (tags : List Int) (s : ByteArray) (hs : s.size ≤ maxLen) (w : World) (hd : DfaAt w v rows tags) :
    Calls Try.prog 7 #[v, .string s] w fun e w' => e = .returned (.bool true) ∧ Below w.heap.size w w' := by
  have hd' := hd
  obtain ⟨v0, v1, rfl, hr, ht⟩ := hd
  have hB : Below w.heap.size w (w.alloc (.cells #[v0, v1] 45)) := (Below.refl _ _).alloc (Nat.le_refl _) _
  have hx0 : (w.alloc (.cells #[v0, v1] 45)).cell? ⟨w.heap.size, 0, none⟩ = some v0 := by rw [World.cell?_alloc_new]; rfl
  have hx1 : (w.alloc (.cells #[v0, v1] 45)).cell? ⟨w.heap.size, 1, none⟩ = some v1 := by rw [World.cell?_alloc_new]; rfl
  have er := Aut.err_range rows tags
  by_cases he : 0 < Aut.err rows tags
  · have hne : ((Aut.err rows tags) != 0) = true := by rw [bne_iff_ne]; omega
    go_enter Try.func7, Try.ntmps7
    go_wp2_with (first
      | (go_at_call 25; refine (rdfa_any _ rows tags _ (hd'.below hB)).mono ?_; rintro e w1 ⟨rfl, hb1⟩; replace hB := hB.trans (hb1.mono hB.size); replace hx0 := bkeep hb1 hx0; replace hx1 := bkeep hb1 hx1; clear hb1)
      | (go_at_call 26; refine (dfaRun_bad _ rows tags s _ (hd'.below hB) he).mono ?_; rintro e w2 ⟨rfl, hb1⟩; replace hB := hB.trans (hb1.mono hB.size); replace hx0 := bkeep hb1 hx0; replace hx1 := bkeep hb1 hx1; clear hb1)
      | (go_at_call 27; refine (dfaTag_bad _ rows tags s _ (hd'.below hB) he).mono ?_; rintro e w3 ⟨rfl, hb1⟩; replace hB := hB.trans (hb1.mono hB.size); replace hx0 := bkeep hb1 hx0; replace hx1 := bkeep hb1 hx1; clear hb1)
      | (go_at_call 28; refine (dfaCheck_any _ rows tags _ (hd'.below hB)).mono ?_; rintro e w4 ⟨rfl, hb1⟩; replace hB := hB.trans (hb1.mono hB.size); replace hx0 := bkeep hb1 hx0; replace hx1 := bkeep hb1 hx1; clear hb1))
    go_ret
    exact ⟨rfl, hB⟩
  · have he0 : Aut.err rows tags = 0 := by omega
    have hlen := Aut.err_good rows tags he0
    have hq : Aut.goes rows s.data.toList < tags.length := by
      have := Aut.fold_in rows tags hlen.2.2.2 s.data.toList 0 (by omega) (by omega)
      have e1 : s.data.toList.foldl (Aut.stepB rows) 0 = Aut.goes rows s.data.toList := by unfold Aut.goes; rfl
      rw [e1] at this
      omega
    have Hq := Lib.hid hq; clear hq hlen
    have HE := Lib.hid he0; clear he0 he er
    go_enter Try.func7, Try.ntmps7
    go_wp2_with (first
      | (go_at_call 25; refine (rdfa_any _ rows tags _ (hd'.below hB)).mono ?_; rintro e w1 ⟨rfl, hb1⟩; rw [HE.out]; replace hB := hB.trans (hb1.mono hB.size); replace hx0 := bkeep hb1 hx0; replace hx1 := bkeep hb1 hx1; clear hb1)
      | (go_at_call 26; refine (dfaRun_ok _ rows tags s hs _ (hd'.below hB) HE.out).mono ?_; rintro e w2 ⟨rfl, hb1⟩; replace hB := hB.trans (hb1.mono hB.size); replace hx0 := bkeep hb1 hx0; replace hx1 := bkeep hb1 hx1; clear hb1)
      | (go_at_call 27; refine (dfaTag_ok _ rows tags s hs _ (hd'.below hB) HE.out).mono ?_; rintro e w3 ⟨rfl, hb1⟩; replace hB := hB.trans (hb1.mono hB.size); replace hx0 := bkeep hb1 hx0; replace hx1 := bkeep hb1 hx1; clear hb1)
      | (go_at_call 28; refine (dfaCheck_any _ rows tags _ (hd'.below hB)).mono ?_; rintro e w4 ⟨rfl, hb1⟩; rw [HE.out]; replace hB := hB.trans (hb1.mono hB.size); replace hx0 := bkeep hb1 hx0; replace hx1 := bkeep hb1 hx1; clear hb1)
      | (go_at_call 29; refine (rgoes_any _ rows tags s hs _ (hd'.below hB) HE.out).mono ?_; rintro e w4 ⟨rfl, hb1⟩; replace hB := hB.trans (hb1.mono hB.size); replace hx0 := bkeep hb1 hx0; replace hx1 := bkeep hb1 hx1; clear hb1)
      | (go_at_call 30; refine (rtagOf_any _ rows tags _ _ (hd'.below hB) Hq.out).mono ?_; rintro e w4 ⟨rfl, hb1⟩; replace hB := hB.trans (hb1.mono hB.size); replace hx0 := bkeep hb1 hx0; replace hx1 := bkeep hb1 hx1; clear hb1))
    go_region_held3 (fun w' => w'.cell? ⟨w.heap.size, 0, none⟩ = some v0 ∧ w'.cell? ⟨w.heap.size, 1, none⟩ = some v1 ∧ Below w.heap.size w w') (first | exact ⟨bkeep hb9 hh.1, bkeep hb9 hh.2.1, hh.2.2.trans (hb9.mono hh.2.2.size)⟩ | exact ⟨hx0, hx1, hB.drew⟩)
      (first
        | (go_at_call 29; have hh := ‹_ ∧ _ ∧ Below w.heap.size w _›; refine (rgoes_any _ rows tags s hs _ (hd'.below hh.2.2) HE.out).mono ?_; rintro e w9 ⟨rfl, hb9⟩)
        | (go_at_call 30; have hh := ‹_ ∧ _ ∧ Below w.heap.size w _›; refine (rtagOf_any _ rows tags _ _ (hd'.below hh.2.2) Hq.out).mono ?_; rintro e w9 ⟨rfl, hb9⟩))
    go_wp2
    have hh := ‹_ ∧ _ ∧ Below w.heap.size w _›
    go_ret
    exact ⟨by simp, hh.2.2⟩
end Go.Proofs.Ytlejdbabbakhlaa
