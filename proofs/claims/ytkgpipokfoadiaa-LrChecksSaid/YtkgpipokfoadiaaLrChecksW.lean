/-
  The walk of the law LrChecks.
-/
import Derived.Test.YtkgpipokfoadiaaRTable
import Derived.Test.YtkgpipokfoadiaaGramIn
namespace Go.Proofs.Ytkgpipokfoadiaa
set_option linter.unusedVariables false
open Go.ChangeShapes Go.WideShapes Go.ChangeAt Go.RowKit

def Enc.table : Enc (List (List (Int × Int)) × List (List Int)) := Enc.prod ((Enc.two.sl 16).sl 24) (((Enc.int .i64).sl 8).sl 24)
theorem table_cells {F : Nat → Prop} {w : World} {cs : Array Value} {g : List (List (Int × Int)) × List (List Int)} (h : Enc.table.R F w cs.toList g) :
    ∃ va vg, cs = #[va, vg] ∧ ((Enc.two.sl 16).sl 24).R F w [va] g.1 ∧ (((Enc.int .i64).sl 8).sl 24).R F w [vg] g.2 := by
  obtain ⟨c1, c2, e1, h1, h2⟩ := h
  have h3 := h1; have h4 := h2
  obtain ⟨_, _, _, _, rfl, _⟩ := h3
  obtain ⟨_, _, _, _, rfl, _⟩ := h4
  exact ⟨_, _, Array.toList_inj.1 e1, h1, h2⟩
theorem opens_table : Opens Try.prog 28 Enc.table := by
  have ha : Opens Try.prog 25 ((Enc.two.sl 16).sl 24) := Opens.sl Try.underlying25 (by kernel_rfl) (by decide) (by kernel_rfl) (Opens.sl Try.underlying120 (by kernel_rfl) (by decide) (by kernel_rfl) (opens_two Try.underlying121 (by kernel_rfl) rfl rfl (by kernel_rfl) (by kernel_rfl) Try.underlying3 Try.underlying3))
  have hg : Opens Try.prog 26 (((Enc.int .i64).sl 8).sl 24) := Opens.sl Try.underlying26 (by kernel_rfl) (by decide) (by kernel_rfl) (Opens.sl Try.underlying53 (by kernel_rfl) (by decide) (by kernel_rfl) (Opens.int Try.underlying3))
  show Opens _ _ (Enc.prod ((Enc.two.sl 16).sl 24) (((Enc.int .i64).sl 8).sl 24))
  exact Opens.struct Try.underlying28 (by kernel_rfl) (OpensFrom.cons rfl rfl (by kernel_rfl) ha (OpensFrom.last rfl rfl (by kernel_rfl) hg))

namespace Tb
noncomputable def all (t n : Int) (l : List (Int × List (Int × Int))) (acts : List (List (Int × Int))) (gts : List (List Int)) : Int := if Gr.err t n l ≠ 0 then Gr.err t n l else Tb.err t n l.length acts gts
end Tb
theorem lrCheck_any (t n : Int) (vp va vg : Value) (l : List (Int × List (Int × Int))) (acts : List (List (Int × Int))) (gts : List (List Int)) (w : World) (F : Nat → Prop) (hF : ∀ b, F b → b < w.heap.size) (h : Enc.prods.R F w [vp] l)
    (ha : ((Enc.two.sl 16).sl 24).R F w [va] acts) (hg : (((Enc.int .i64).sl 8).sl 24).R F w [vg] gts) :
    Calls Try.prog 13 #[.agg #[.int .i64 t, .int .i64 n, vp], .agg #[va, vg]] w fun e w' => e = .returned (.int .i64 (Tb.all t n l acts gts)) ∧ Below w.heap.size w w' := by
  by_cases he : Gr.err t n l = 0
  · rw [Tb.all, if_neg (by simp [he])]; exact lrCheck_ok t n vp va vg l acts gts w F hF h he ha hg
  · rw [Tb.all, if_pos he]; exact lrCheck_gram t n vp va vg l w F hF h he
theorem rtable_any (t n : Int) (vp va vg : Value) (l : List (Int × List (Int × Int))) (acts : List (List (Int × Int))) (gts : List (List Int)) (w : World) (F : Nat → Prop) (hF : ∀ b, F b → b < w.heap.size) (h : Enc.prods.R F w [vp] l)
    (ha : ((Enc.two.sl 16).sl 24).R F w [va] acts) (hg : (((Enc.int .i64).sl 8).sl 24).R F w [vg] gts) :
    Calls Try.prog 14 #[.agg #[.int .i64 t, .int .i64 n, vp], .agg #[va, vg]] w fun e w' => e = .returned (.int .i64 (Tb.all t n l acts gts)) ∧ Below w.heap.size w w' := by
  by_cases he : Gr.err t n l = 0
  · rw [Tb.all, if_neg (by simp [he])]; exact rtable_ok t n vp va vg l acts gts w F hF h he ha hg
  · rw [Tb.all, if_pos he]; exact rtable_gram t n vp va vg l w F hF h he
attribute [irreducible] Tb.all

set_option maxRecDepth 100000 in
set_option maxHeartbeats 8000000 in
theorem lrChecks_walk (c0 c1 : Array Value) (g : Int × Int × List (Int × List (Int × Int))) (tb : List (List (Int × Int)) × List (List Int)) (w : World) (h0 : Enc.gram.R (fun b => b < w.heap.size) w c0.toList g) (h1 : Enc.table.R (fun b => b < w.heap.size) w c1.toList tb) :
    Calls Try.prog 3 #[.agg c0, .agg c1] w fun e w' => e = .returned (.bool true) ∧ Below w.heap.size w w' := by
  obtain ⟨vp, rfl, hp, _, _⟩ := gram_cells h0
  obtain ⟨va, vg, rfl, ha, hg⟩ := table_cells h1
  obtain ⟨t, n, l⟩ := g
  obtain ⟨acts, gts⟩ := tb
  simp only at hp ha hg ⊢
  have HP := Lib.hid hp; have HA := Lib.hid ha; have HG := Lib.hid hg
  clear h0 h1 hp ha hg
  have hB : Below w.heap.size w ((w.alloc (.cells #[.int .i64 t, .int .i64 n, vp] 24)).alloc (.cells #[va, vg] 28)) := ((Below.refl _ _).alloc (Nat.le_refl _) _).alloc (by simp) _
  have hG : GrBox ((w.alloc (.cells #[.int .i64 t, .int .i64 n, vp] 24)).alloc (.cells #[va, vg] 28)) w.heap.size t n vp := ⟨by rw [World.cell?_alloc_past _ _ _ (by simp), World.cell?_alloc_new]; rfl, by rw [World.cell?_alloc_past _ _ _ (by simp), World.cell?_alloc_new]; rfl, by rw [World.cell?_alloc_past _ _ _ (by simp), World.cell?_alloc_new]; rfl⟩
  have hT : TbBox ((w.alloc (.cells #[.int .i64 t, .int .i64 n, vp] 24)).alloc (.cells #[va, vg] 28)) (w.heap.size + 1) va vg := ⟨by rw [World.cell?_alloc_at _ _ _ _ (by simp)]; rfl, by rw [World.cell?_alloc_at _ _ _ _ (by simp)]; rfl⟩
  go_enter Try.func3, Try.ntmps3
  go_wp2
  generalize (w.alloc (.cells #[.int .i64 t, .int .i64 n, vp] 24)).alloc (.cells #[va, vg] 28) = W at hB hG hT ⊢
  have HK : Hid (∀ W', Below W.heap.size W W' → W'.cell? ⟨w.heap.size, 0, none⟩ = some (.int .i64 t) ∧ W'.cell? ⟨w.heap.size, 1, none⟩ = some (.int .i64 n) ∧ W'.cell? ⟨w.heap.size, 2, none⟩ = some vp ∧ W'.cell? ⟨w.heap.size + 1, 0, none⟩ = some va ∧ W'.cell? ⟨w.heap.size + 1, 1, none⟩ = some vg ∧ Below W.heap.size W W') := Lib.hid (fun W' hW => by
    have h1 := hG.below hW hG.lt
    have h2 := hT.below hW hT.lt
    exact ⟨h1.1, h1.2.1, h1.2.2, h2.1, h2.2, hW⟩)
  have HE : Hid (∀ W', Below W.heap.size W W' → Enc.prods.R (fun b => b < w.heap.size) W' [vp] l ∧ ((Enc.two.sl 16).sl 24).R (fun b => b < w.heap.size) W' [va] acts ∧ (((Enc.int .i64).sl 8).sl 24).R (fun b => b < w.heap.size) W' [vg] gts ∧ ∀ b, b < w.heap.size → b < W'.heap.size) := Lib.hid (fun W' hW => by
    have h2 := hB.trans (hW.mono hB.size)
    exact ⟨Enc.mono _ HP.out (fun _ h => h) (fun b hb => h2.block b hb), Enc.mono _ HA.out (fun _ h => h) (fun b hb => h2.block b hb), Enc.mono _ HG.out (fun _ h => h) (fun b hb => h2.block b hb), fun b hb => Nat.lt_of_lt_of_le hb h2.size⟩)
  have hRR := Below.refl W.heap.size W
  clear hG hT
  go_region_held3 (fun w' => w'.cell? ⟨w.heap.size, 0, none⟩ = some (.int .i64 t) ∧ w'.cell? ⟨w.heap.size, 1, none⟩ = some (.int .i64 n) ∧ w'.cell? ⟨w.heap.size, 2, none⟩ = some vp ∧ w'.cell? ⟨w.heap.size + 1, 0, none⟩ = some va ∧ w'.cell? ⟨w.heap.size + 1, 1, none⟩ = some vg ∧ Below W.heap.size W w') (first | exact HK.out _ hRR | exact HK.out _ hRR.drew)
    ((first
      | (go_at_call 13; have hh := ‹_ ∧ _ ∧ _ ∧ _ ∧ _ ∧ Below W.heap.size W _›; have h5 := HE.out _ hh.2.2.2.2.2; refine (lrCheck_any t n vp va vg l acts gts _ _ h5.2.2.2 h5.1 h5.2.1 h5.2.2.1).mono ?_; rintro e w5 ⟨rfl, hb5⟩; have hRR := hh.2.2.2.2.2.trans (hb5.mono hh.2.2.2.2.2.size); clear hh hb5 h5)
      | (go_at_call 14; have hh := ‹_ ∧ _ ∧ _ ∧ _ ∧ _ ∧ Below W.heap.size W _›; have h5 := HE.out _ hh.2.2.2.2.2; refine (rtable_any t n vp va vg l acts gts _ _ h5.2.2.2 h5.1 h5.2.1 h5.2.2.1).mono ?_; rintro e w5 ⟨rfl, hb5⟩; have hRR := hh.2.2.2.2.2.trans (hb5.mono hh.2.2.2.2.2.size); clear hh hb5 h5)))
  all_goals
    go_wp2
    have hh := ‹_ ∧ _ ∧ _ ∧ _ ∧ _ ∧ Below W.heap.size W _›
    go_ret
    exact ⟨by simp, hB.trans (hh.2.2.2.2.2.mono hB.size)⟩
end Go.Proofs.Ytkgpipokfoadiaa
