/-
  RightTable of the reference.
-/
import Derived.Test.YtldapomcjfkeeaaLrChk
namespace Go.Proofs.Ytldapomcjfkeeaa
set_option linter.unusedVariables false
open Go.ChangeShapes Go.WideShapes Go.ChangeAt Go.RowKit

set_option maxRecDepth 100000 in
set_option maxHeartbeats 8000000 in
theorem rtable_gram (t n : Int) (vp va vg : Value) (l : List (Int × List (Int × Int))) (w : World) (F : Nat → Prop) (hF : ∀ b, F b → b < w.heap.size) (h : Enc.prods.R F w [vp] l) (he : Gr.err t n l ≠ 0) :
    Calls Try.prog 120 #[.agg #[.int .i64 t, .int .i64 n, vp], .agg #[va, vg]] w fun e w' => e = .returned (.int .i64 (Gr.err t n l)) ∧ Below w.heap.size w w' := by
  have hne : (Gr.err t n l != 0) = true := by rw [bne_iff_ne]; exact he
  have H := Lib.hid h; clear h
  have hB : Hid (∀ o o', Below w.heap.size w ((w.alloc o).alloc o')) := Lib.hid (fun o o' => ((Below.refl _ _).alloc (Nat.le_refl _) _).alloc (by simp) _)
  clear he
  go_enter Try.func120, Try.ntmps120
  go_wp2_with (go_at_call 33; refine (rcfg_any t n vp l _ F (fun b hb => Nat.lt_of_lt_of_le (hF b hb) (hB.out _ _).size) (Enc.mono _ H.out (fun _ h => h) (fun b hb => (hB.out _ _).block b (hF b hb)))).mono ?_; rintro e w1 ⟨rfl, hb1⟩)
  go_ret
  exact ⟨rfl, (hB.out _ _).trans (hb1.mono (hB.out _ _).size)⟩

set_option maxRecDepth 100000 in
set_option maxHeartbeats 16000000 in
theorem rtable_ok (t n : Int) (vp va vg : Value) (l : List (Int × List (Int × Int))) (acts : List (List (Int × Int))) (gts : List (List Int)) (w : World) (F : Nat → Prop) (hF : ∀ b, F b → b < w.heap.size) (h : Enc.prods.R F w [vp] l) (he : Gr.err t n l = 0)
    (ha : ((Enc.two.sl 16).sl 24).R F w [va] acts) (hg : (((Enc.int .i64).sl 8).sl 24).R F w [vg] gts) :
    Calls Try.prog 120 #[.agg #[.int .i64 t, .int .i64 n, vp], .agg #[va, vg]] w fun e w' => e = .returned (.int .i64 (Tb.err t n l.length acts gts)) ∧ Below w.heap.size w w' := by
  obtain ⟨ht0, ht1, hn0, hn1, hll, _⟩ := Gr.err_zero he
  have HE0 := Lib.hid he
  have H := Lib.hid h
  obtain ⟨aop, _, _, cp, hvp, _⟩ := slProds h
  obtain ⟨aoa, ba, oa, ca, rfl, _, a3, a4⟩ := slSl ha
  obtain ⟨aog, bg, og, cg, rfl, _, g3, g4⟩ := slSl hg
  subst hvp
  have A3 := Lib.hid a3; have A4 := Lib.hid a4; have G3 := Lib.hid g3; have G4 := Lib.hid g4
  have hB : Hid (∀ o o', Below w.heap.size w ((w.alloc o).alloc o')) := Lib.hid (fun o o' => ((Below.refl _ _).alloc (Nat.le_refl _) _).alloc (by simp) _)
  have HF := Lib.hid hF
  clear h ha hg he a3 a4 g3 g4 hF
  by_cases h200 : 200 < acts.length
  · have HE := Lib.hid (Tb.err_large (t := t) (n := n) (np := l.length) (gts := gts) h200)
    go_enter Try.func120, Try.ntmps120
    go_wp2_with (go_at_call 33; refine (rcfg_any t n _ l _ F (fun b hb => Nat.lt_of_lt_of_le (HF.out b hb) (hB.out _ _).size) (Enc.mono _ H.out (fun _ h => h) (fun b hb => (hB.out _ _).block b (HF.out b hb)))).mono ?_; rintro e w1 ⟨rfl, hb1⟩; rw [HE0.out]; obtain ⟨hcl, _⟩ := bcell hb1)
    go_ret
    exact ⟨by rw [HE.out]; rfl, (hB.out _ _).trans (hb1.mono (hB.out _ _).size)⟩
  by_cases h0 : acts.length = 0
  · have HE := Lib.hid (Tb.err_arg (t := t) (n := n) (np := l.length) (gts := gts) h200 (.inl h0))
    have h00 : ((acts.length : Int) == 0) = true := by rw [beq_iff_eq]; omega
    clear h0
    go_enter Try.func120, Try.ntmps120
    go_wp2_with (go_at_call 33; refine (rcfg_any t n _ l _ F (fun b hb => Nat.lt_of_lt_of_le (HF.out b hb) (hB.out _ _).size) (Enc.mono _ H.out (fun _ h => h) (fun b hb => (hB.out _ _).block b (HF.out b hb)))).mono ?_; rintro e w1 ⟨rfl, hb1⟩; rw [HE0.out]; obtain ⟨hcl, _⟩ := bcell hb1)
    go_ret
    exact ⟨by rw [HE.out]; rfl, (hB.out _ _).trans (hb1.mono (hB.out _ _).size)⟩
  have h00 : ((acts.length : Int) == 0) = false := by rw [beq_eq_false_iff_ne]; omega
  by_cases h1 : gts.length ≠ acts.length
  · have HE := Lib.hid (Tb.err_arg (t := t) (n := n) (np := l.length) (gts := gts) h200 (.inr h1))
    have h11 : ((gts.length : Int) != (acts.length : Int)) = true := by rw [bne_iff_ne]; omega
    clear h0 h1
    go_enter Try.func120, Try.ntmps120
    go_wp2_with (go_at_call 33; refine (rcfg_any t n _ l _ F (fun b hb => Nat.lt_of_lt_of_le (HF.out b hb) (hB.out _ _).size) (Enc.mono _ H.out (fun _ h => h) (fun b hb => (hB.out _ _).block b (HF.out b hb)))).mono ?_; rintro e w1 ⟨rfl, hb1⟩; rw [HE0.out]; obtain ⟨hcl, _⟩ := bcell hb1)
    go_ret
    exact ⟨by rw [HE.out]; rfl, (hB.out _ _).trans (hb1.mono (hB.out _ _).size)⟩
  have HL : Hid (gts.length = acts.length) := Lib.hid (by omega)
  have HNOT : Hid (¬ (acts.length = 0 ∨ gts.length ≠ acts.length)) := Lib.hid (by omega)
  have h11 : ((gts.length : Int) != (acts.length : Int)) = false := by rw [bne_eq_false_iff_eq]; omega
  clear h0 h1
  go_enter Try.func120, Try.ntmps120
  go_wp2_with (go_at_call 33; refine (rcfg_any t n _ l _ F (fun b hb => Nat.lt_of_lt_of_le (HF.out b hb) (hB.out _ _).size) (Enc.mono _ H.out (fun _ h => h) (fun b hb => (hB.out _ _).block b (HF.out b hb)))).mono ?_; rintro e w1 ⟨rfl, hb1⟩; rw [HE0.out]; have hG1 : GrBox w1 w.heap.size t n (.slice aop l.length cp) := GrBox.below ⟨by rw [World.cell?_alloc_past _ _ _ (by simp), World.cell?_alloc_new]; rfl, by rw [World.cell?_alloc_past _ _ _ (by simp), World.cell?_alloc_new]; rfl, by rw [World.cell?_alloc_past _ _ _ (by simp), World.cell?_alloc_new]; rfl⟩ hb1 (by simp; omega); have hT1 : TbBox w1 (w.heap.size + 1) (.slice aoa acts.length ca) (.slice aog gts.length cg) := TbBox.below ⟨by rw [World.cell?_alloc_at _ _ _ _ (by simp)]; rfl, by rw [World.cell?_alloc_at _ _ _ _ (by simp)]; rfl⟩ hb1 (by simp); have hB1 := (hB.out _ _).trans (hb1.mono (hB.out _ _).size); obtain ⟨hcl, _⟩ := bcell hb1)
  clear hcl hb1
  have HG1 := Lib.hid hG1; have HT1 := Lib.hid hT1
  clear hG1 hT1
  go_loopw [7, 8, 9, 10, 11] (fun i _ _ _ _ wr => ∃ k : Nat, k ≤ acts.length ∧ i = .int .i64 k ∧ Below w1.heap.size w1 wr ∧ Hid (∀ j, j < k → Tb.At t n l.length acts.length (acts.getD j []) (gts.getD j []))) (fun i _ _ _ _ _ => acts.length - (intOf i).toNat)
  case atStart => exact ⟨0, by omega, rfl, Below.refl _ _, Lib.hid (fun j hj => absurd hj (by omega))⟩
  case round =>
    obtain ⟨k, hk, rfl, hB2, hok⟩ := hrel
    have hBw := hB1.trans (hB2.mono hB1.size)
    have hG2 := HG1.out.below hB2 HG1.out.lt
    have hT2 := HT1.out.below hB2 HT1.out.lt
    have hGl := hG2.lt; have hTl := hT2.lt
    have HG2 := Lib.hid hG2; have HT2 := Lib.hid hT2
    obtain ⟨hg0, hg1, hg2⟩ := hG2
    obtain ⟨hq0, hq1⟩ := hT2
    by_cases hlt : k < acts.length
    · obtain ⟨rfl, hba, hFa⟩ := A3.out (by omega)
      obtain ⟨rfl, hbg, hFg⟩ := G3.out (by rw [HL.out]; omega)
      have hkg : k < gts.length := by rw [HL.out]; omega
      obtain ⟨ai, ci, hn1', hra⟩ := A4.out k hlt
      obtain ⟨gi, di, hn2', hrg⟩ := G4.out k hkg
      have hc1 := bkeep hBw hn1'
      have hc2 := bkeep hBw hn2'
      have HB2 := Lib.hid hB2
      have HAT : Hid (∀ x y, acts.getD k [] = x → gts.getD k [] = y → ¬ Tb.At t n l.length acts.length x y → Tb.err t n l.length acts gts = 1) := Lib.hid (fun x y hx hy h => Tb.err_bad h200 (fun g => h (by rw [← hx, ← hy]; exact g k hlt)))
      obtain ⟨row, hrow⟩ : ∃ r, acts.getD k [] = r := ⟨_, rfl⟩
      obtain ⟨grow, hgrow⟩ : ∃ r, gts.getD k [] = r := ⟨_, rfl⟩
      have HBAD : Hid (¬ Tb.At t n l.length acts.length row grow → Tb.err t n l.length acts gts = 1) := Lib.hid (fun h => HAT.out row grow hrow hgrow h)
      have HOK : Hid (Tb.At t n l.length acts.length row grow → ∀ j, j < k + 1 → Tb.At t n l.length acts.length (acts.getD j []) (gts.getD j [])) := Lib.hid (fun h j hj => by
        rcases Nat.lt_succ_iff_lt_or_eq.1 hj with hj | rfl
        · exact hok.out j hj
        · rw [hrow, hgrow]; exact h)
      rw [hrow] at hc1 hra
      rw [hgrow] at hc2 hrg
      rw [hrow] at hn1'
      have HN1 := Lib.hid hn1'
      rw [hgrow] at hn2'
      have HN2 := Lib.hid hn2'
      clear HAT hrow hgrow hn1' hn2'
      obtain ⟨_, br, orr, _, hv1, _, r3, r4⟩ := slTwo hra
      obtain ⟨_, bz, oz, _, hv2, _, z3, z4⟩ := Enc.sl1 (En := Enc.int .i64) (Value.int .i64) (fun _ _ _ h => h.1) rfl 0 hrg
      simp only [Value.slice.injEq, true_and] at hv1 hv2
      obtain ⟨rfl, rfl⟩ := hv1
      obtain ⟨rfl, rfl⟩ := hv2
      have R3 := Lib.hid r3; have R4 := Lib.hid r4; have Z3 := Lib.hid z3; have Z4 := Lib.hid z4
      clear r3 r4 z3 z4 hra hrg
      have hwr : IntKind.i64.wrap (t + 1) = t + 1 := by simp [IntKind.wrap, IntKind.bits, IntKind.signed]; omega
      by_cases hl1 : (row.length : Int) = t + 1
      · have hl1b : ((row.length : Int) != t + 1) = false := by rw [bne_eq_false_iff_eq]; exact hl1
        have HL1 := Lib.hid hl1
        by_cases hl2 : (grow.length : Int) = n
        · have hl2b : ((grow.length : Int) != n) = false := by rw [bne_eq_false_iff_eq]; exact hl2
          have HL2 := Lib.hid hl2
          have hrl : row.length ≤ 31 := by omega
          have hgl : grow.length ≤ 20 := by omega
          clear hl1 hl2
          go_wp2
          go_quiet (fail)
          rename_i nq
          go_wp2
          have hB3 := below_drewN HB2.out nq
          generalize wr.drewN nq = W1 at hB3 ⊢
          clear hB2 hBw hg0 hg1 hg2 hq0 hq1 hc1 hc2 hGl hTl
          go_loopw [8, 9, 10] (fun j _ _ w2 => ∃ q : Nat, q ≤ row.length ∧ j = .int .i64 q ∧ Below w1.heap.size w1 w2 ∧ Hid (∀ c, c < q → Tb.right t l.length acts.length (row.getD c (0, 0)) c = true)) (fun j _ _ _ => row.length - (intOf j).toNat)
          case atStart => exact ⟨0, by omega, rfl, hB3, Lib.hid (fun j hj => absurd hj (by omega))⟩
          case round =>
            clear hB3
            obtain ⟨q, hq, rfl, hB3, hrok⟩ := hrel
            have hBw3 := hB1.trans (hB3.mono hB1.size)
            have hG3 := HG1.out.below hB3 HG1.out.lt
            have hT3 := HT1.out.below hB3 HT1.out.lt
            have hGl3 := hG3.lt; have hTl3 := hT3.lt
            obtain ⟨hg0, hg1, hg2⟩ := hG3
            obtain ⟨hq0, hq1⟩ := hT3
            by_cases hql : q < row.length
            · obtain ⟨rfl, hbr, _⟩ := R3.out (by omega)
              have hx1 := bkeep hBw3 (R4.out q hql).1
              have hx2 := bkeep hBw3 (R4.out q hql).2.1
              have HRB : Hid (Tb.right t l.length acts.length (row.getD q (0, 0)) q = false → Tb.err t n l.length acts gts = 1) := Lib.hid (fun h => HBAD.out (fun g => by have := g.2.2.1 q hql; rw [h] at this; cases this))
              have HRO : Hid (Tb.right t l.length acts.length (row.getD q (0, 0)) q = true → ∀ c, c < q + 1 → Tb.right t l.length acts.length (row.getD c (0, 0)) c = true) := Lib.hid (fun h c hc => by
                rcases Nat.lt_succ_iff_lt_or_eq.1 hc with hc | rfl
                · exact hrok.out c hc
                · exact h)
              generalize row.getD q (0, 0) = y at hx1 hx2 HRB HRO
              obtain ⟨x1, x2⟩ := y
              simp only at hx1 hx2
              have hqt : (q : Int) ≤ t := by have := HL1.out; omega
              have hc1 := bkeep hBw3 HN1.out
              rcases (by omega : (x1 = 0 ∧ x2 = 0) ∨ (x1 = 0 ∧ x2 ≠ 0) ∨ (x1 = 1 ∧ t ≤ (q : Int)) ∨ (x1 = 1 ∧ (q : Int) < t ∧ x2 < 0) ∨ (x1 = 1 ∧ (q : Int) < t ∧ 0 ≤ x2 ∧ (acts.length : Int) ≤ x2) ∨ (x1 = 1 ∧ (q : Int) < t ∧ 0 ≤ x2 ∧ x2 < (acts.length : Int)) ∨ (x1 = 2 ∧ x2 < 0) ∨ (x1 = 2 ∧ 0 ≤ x2 ∧ (l.length : Int) ≤ x2) ∨ (x1 = 2 ∧ 0 ≤ x2 ∧ x2 < (l.length : Int)) ∨ (x1 = 3 ∧ x2 ≠ 0) ∨ (x1 = 3 ∧ x2 = 0 ∧ (q : Int) ≠ t) ∨ (x1 = 3 ∧ x2 = 0 ∧ (q : Int) = t) ∨ (x1 ≠ 0 ∧ x1 ≠ 1 ∧ x1 ≠ 2 ∧ x1 ≠ 3)) with ⟨p0, p1⟩ | ⟨p0, p1⟩ | ⟨p0, p1⟩ | ⟨p0, p1, p2⟩ | ⟨p0, p1, p2, p3⟩ | ⟨p0, p1, p2, p3⟩ | ⟨p0, p1⟩ | ⟨p0, p1, p2⟩ | ⟨p0, p1, p2⟩ | ⟨p0, p1⟩ | ⟨p0, p1, p2⟩ | ⟨p0, p1, p2⟩ | ⟨p0, p1, p2, p3⟩
              · have HR : Hid (Tb.right t l.length acts.length (x1, x2) q = true) := Lib.hid (by rw [Tb.right_iff]; simp only []; omega)
                have e0 : ((x1 : Int) == 0) = true := by rw [beq_iff_eq]; omega
                have e1 : ((x1 : Int) == 1) = false := by rw [beq_eq_false_iff_ne]; omega
                have e2 : ((x1 : Int) == 2) = false := by rw [beq_eq_false_iff_ne]; omega
                have e3 : ((x1 : Int) == 3) = false := by rw [beq_eq_false_iff_ne]; omega
                have n0 : ((x2 : Int) == 0) = true := by rw [beq_iff_eq]; omega
                clear p0 p1
                have HX := Lib.hid (HRO.out HR.out)
                go_wp2
                go_roundw
                case rel => exact ⟨q + 1, by omega, by go_num, hB3.alloc hB3.size _, HX⟩
                case measure => simp [intOf]; omega
              · have HR : Hid (Tb.right t l.length acts.length (x1, x2) q = false) := Lib.hid (by refine Tb.right_no ?_; simp only []; omega)
                have e0 : ((x1 : Int) == 0) = true := by rw [beq_iff_eq]; omega
                have e1 : ((x1 : Int) == 1) = false := by rw [beq_eq_false_iff_ne]; omega
                have e2 : ((x1 : Int) == 2) = false := by rw [beq_eq_false_iff_ne]; omega
                have e3 : ((x1 : Int) == 3) = false := by rw [beq_eq_false_iff_ne]; omega
                have n0 : ((x2 : Int) == 0) = false := by rw [beq_eq_false_iff_ne]; omega
                clear p0 p1
                have HE := Lib.hid (HRB.out HR.out)
                go_wp2
                go_ret
                exact ⟨by rw [HE.out]; rfl, hBw3.alloc hBw3.size _⟩
              · have HR : Hid (Tb.right t l.length acts.length (x1, x2) q = false) := Lib.hid (by refine Tb.right_no ?_; simp only []; omega)
                have e0 : ((x1 : Int) == 0) = false := by rw [beq_eq_false_iff_ne]; omega
                have e1 : ((x1 : Int) == 1) = true := by rw [beq_iff_eq]; omega
                have e2 : ((x1 : Int) == 2) = false := by rw [beq_eq_false_iff_ne]; omega
                have e3 : ((x1 : Int) == 3) = false := by rw [beq_eq_false_iff_ne]; omega
                clear p0
                have HE := Lib.hid (HRB.out HR.out)
                go_wp2
                go_ret
                exact ⟨by rw [HE.out]; rfl, hBw3.alloc hBw3.size _⟩
              · have HR : Hid (Tb.right t l.length acts.length (x1, x2) q = false) := Lib.hid (by refine Tb.right_no ?_; simp only []; omega)
                have e0 : ((x1 : Int) == 0) = false := by rw [beq_eq_false_iff_ne]; omega
                have e1 : ((x1 : Int) == 1) = true := by rw [beq_iff_eq]; omega
                have e2 : ((x1 : Int) == 2) = false := by rw [beq_eq_false_iff_ne]; omega
                have e3 : ((x1 : Int) == 3) = false := by rw [beq_eq_false_iff_ne]; omega
                clear p0
                have HE := Lib.hid (HRB.out HR.out)
                go_wp2
                go_ret
                exact ⟨by rw [HE.out]; rfl, hBw3.alloc hBw3.size _⟩
              · have HR : Hid (Tb.right t l.length acts.length (x1, x2) q = false) := Lib.hid (by refine Tb.right_no ?_; simp only []; omega)
                have e0 : ((x1 : Int) == 0) = false := by rw [beq_eq_false_iff_ne]; omega
                have e1 : ((x1 : Int) == 1) = true := by rw [beq_iff_eq]; omega
                have e2 : ((x1 : Int) == 2) = false := by rw [beq_eq_false_iff_ne]; omega
                have e3 : ((x1 : Int) == 3) = false := by rw [beq_eq_false_iff_ne]; omega
                have dm : decide (x2 < (acts.length : Int)) = false := by rw [decide_eq_false_iff_not]; omega
                clear p0
                have HE := Lib.hid (HRB.out HR.out)
                go_wp2
                go_ret
                exact ⟨by rw [HE.out]; rfl, hBw3.alloc hBw3.size _⟩
              · have HR : Hid (Tb.right t l.length acts.length (x1, x2) q = true) := Lib.hid (by rw [Tb.right_iff]; simp only []; omega)
                have e0 : ((x1 : Int) == 0) = false := by rw [beq_eq_false_iff_ne]; omega
                have e1 : ((x1 : Int) == 1) = true := by rw [beq_iff_eq]; omega
                have e2 : ((x1 : Int) == 2) = false := by rw [beq_eq_false_iff_ne]; omega
                have e3 : ((x1 : Int) == 3) = false := by rw [beq_eq_false_iff_ne]; omega
                clear p0
                have HX := Lib.hid (HRO.out HR.out)
                go_wp2
                go_roundw
                case rel => exact ⟨q + 1, by omega, by go_num, hB3.alloc hB3.size _, HX⟩
                case measure => simp [intOf]; omega
              · have HR : Hid (Tb.right t l.length acts.length (x1, x2) q = false) := Lib.hid (by refine Tb.right_no ?_; simp only []; omega)
                have e0 : ((x1 : Int) == 0) = false := by rw [beq_eq_false_iff_ne]; omega
                have e1 : ((x1 : Int) == 1) = false := by rw [beq_eq_false_iff_ne]; omega
                have e2 : ((x1 : Int) == 2) = true := by rw [beq_iff_eq]; omega
                have e3 : ((x1 : Int) == 3) = false := by rw [beq_eq_false_iff_ne]; omega
                clear p0
                have HE := Lib.hid (HRB.out HR.out)
                go_wp2
                go_ret
                exact ⟨by rw [HE.out]; rfl, hBw3.alloc hBw3.size _⟩
              · have HR : Hid (Tb.right t l.length acts.length (x1, x2) q = false) := Lib.hid (by refine Tb.right_no ?_; simp only []; omega)
                have e0 : ((x1 : Int) == 0) = false := by rw [beq_eq_false_iff_ne]; omega
                have e1 : ((x1 : Int) == 1) = false := by rw [beq_eq_false_iff_ne]; omega
                have e2 : ((x1 : Int) == 2) = true := by rw [beq_iff_eq]; omega
                have e3 : ((x1 : Int) == 3) = false := by rw [beq_eq_false_iff_ne]; omega
                have dm : decide (x2 < (l.length : Int)) = false := by rw [decide_eq_false_iff_not]; omega
                clear p0
                have HE := Lib.hid (HRB.out HR.out)
                go_wp2
                go_ret
                exact ⟨by rw [HE.out]; rfl, hBw3.alloc hBw3.size _⟩
              · have HR : Hid (Tb.right t l.length acts.length (x1, x2) q = true) := Lib.hid (by rw [Tb.right_iff]; simp only []; omega)
                have e0 : ((x1 : Int) == 0) = false := by rw [beq_eq_false_iff_ne]; omega
                have e1 : ((x1 : Int) == 1) = false := by rw [beq_eq_false_iff_ne]; omega
                have e2 : ((x1 : Int) == 2) = true := by rw [beq_iff_eq]; omega
                have e3 : ((x1 : Int) == 3) = false := by rw [beq_eq_false_iff_ne]; omega
                clear p0
                have HX := Lib.hid (HRO.out HR.out)
                go_wp2
                go_roundw
                case rel => exact ⟨q + 1, by omega, by go_num, hB3.alloc hB3.size _, HX⟩
                case measure => simp [intOf]; omega
              · have HR : Hid (Tb.right t l.length acts.length (x1, x2) q = false) := Lib.hid (by refine Tb.right_no ?_; simp only []; omega)
                have e0 : ((x1 : Int) == 0) = false := by rw [beq_eq_false_iff_ne]; omega
                have e1 : ((x1 : Int) == 1) = false := by rw [beq_eq_false_iff_ne]; omega
                have e2 : ((x1 : Int) == 2) = false := by rw [beq_eq_false_iff_ne]; omega
                have e3 : ((x1 : Int) == 3) = true := by rw [beq_iff_eq]; omega
                have n0 : ((x2 : Int) == 0) = false := by rw [beq_eq_false_iff_ne]; omega
                clear p0 p1
                have HE := Lib.hid (HRB.out HR.out)
                go_wp2
                go_ret
                exact ⟨by rw [HE.out]; rfl, hBw3.alloc hBw3.size _⟩
              · have HR : Hid (Tb.right t l.length acts.length (x1, x2) q = false) := Lib.hid (by refine Tb.right_no ?_; simp only []; omega)
                have e0 : ((x1 : Int) == 0) = false := by rw [beq_eq_false_iff_ne]; omega
                have e1 : ((x1 : Int) == 1) = false := by rw [beq_eq_false_iff_ne]; omega
                have e2 : ((x1 : Int) == 2) = false := by rw [beq_eq_false_iff_ne]; omega
                have e3 : ((x1 : Int) == 3) = true := by rw [beq_iff_eq]; omega
                have n0 : ((x2 : Int) == 0) = true := by rw [beq_iff_eq]; omega
                have ct : ((q : Int) == t) = false := by rw [beq_eq_false_iff_ne]; omega
                clear p0 p1 p2
                have HE := Lib.hid (HRB.out HR.out)
                go_wp2
                go_ret
                exact ⟨by rw [HE.out]; rfl, hBw3.alloc hBw3.size _⟩
              · have HR : Hid (Tb.right t l.length acts.length (x1, x2) q = true) := Lib.hid (by rw [Tb.right_iff]; simp only []; omega)
                have e0 : ((x1 : Int) == 0) = false := by rw [beq_eq_false_iff_ne]; omega
                have e1 : ((x1 : Int) == 1) = false := by rw [beq_eq_false_iff_ne]; omega
                have e2 : ((x1 : Int) == 2) = false := by rw [beq_eq_false_iff_ne]; omega
                have e3 : ((x1 : Int) == 3) = true := by rw [beq_iff_eq]; omega
                have n0 : ((x2 : Int) == 0) = true := by rw [beq_iff_eq]; omega
                have ct : ((q : Int) == t) = true := by rw [beq_iff_eq]; omega
                clear p0 p1 p2
                have HX := Lib.hid (HRO.out HR.out)
                go_wp2
                go_roundw
                case rel => exact ⟨q + 1, by omega, by go_num, hB3.alloc hB3.size _, HX⟩
                case measure => simp [intOf]; omega
              · have HR : Hid (Tb.right t l.length acts.length (x1, x2) q = false) := Lib.hid (by refine Tb.right_no ?_; simp only []; omega)
                have e0 : ((x1 : Int) == 0) = false := by rw [beq_eq_false_iff_ne]; omega
                have e1 : ((x1 : Int) == 1) = false := by rw [beq_eq_false_iff_ne]; omega
                have e2 : ((x1 : Int) == 2) = false := by rw [beq_eq_false_iff_ne]; omega
                have e3 : ((x1 : Int) == 3) = false := by rw [beq_eq_false_iff_ne]; omega
                clear p0 p1 p2 p3
                have HE := Lib.hid (HRB.out HR.out)
                go_wp2
                go_ret
                exact ⟨by rw [HE.out]; rfl, hBw3.alloc hBw3.size _⟩
            · obtain rfl : q = row.length := by omega
              have hqt : ¬ (row.length : Int) ≤ t := by have := HL1.out; omega
              clear hql hq
              have hc2 := bkeep hBw3 HN2.out
              go_wp2
              go_loopw [11] (fun j w2 => ∃ q : Nat, q ≤ grow.length ∧ j = .int .i64 q ∧ Below w1.heap.size w1 w2 ∧ Hid (∀ c, c < q → -1 ≤ grow.getD c 0 ∧ grow.getD c 0 < acts.length)) (fun j _ => grow.length - (intOf j).toNat)
              case atStart => exact ⟨0, by omega, rfl, hB3, Lib.hid (fun j hj => absurd hj (by omega))⟩
              case round =>
                clear hB3 hBw3 hg0 hg1 hg2 hq0 hq1 hc2 hGl3 hTl3
                obtain ⟨q, hq, rfl, hB3, hgok⟩ := hrel
                have hBw3 := hB1.trans (hB3.mono hB1.size)
                have hG3 := HG1.out.below hB3 HG1.out.lt
                have hT3 := HT1.out.below hB3 HT1.out.lt
                obtain ⟨hg0, hg1, hg2⟩ := hG3
                obtain ⟨hq0, hq1⟩ := hT3
                have hc2 := bkeep hBw3 HN2.out
                by_cases hql : q < grow.length
                · have hqn : (q : Int) < n := by have := HL2.out; omega
                  obtain ⟨rfl, hbr, _⟩ := Z3.out (by omega)
                  have hx1 := bkeep hBw3 (Z4.out q hql).1
                  have hxw := wf64 (Z4.out q hql).2.2
                  have HRB : Hid (¬ (-1 ≤ grow.getD q 0 ∧ grow.getD q 0 < acts.length) → Tb.err t n l.length acts gts = 1) := Lib.hid (fun h => HBAD.out (fun g => h (g.2.2.2 q hql)))
                  have HRO : Hid ((-1 ≤ grow.getD q 0 ∧ grow.getD q 0 < acts.length) → ∀ c, c < q + 1 → -1 ≤ grow.getD c 0 ∧ grow.getD c 0 < acts.length) := Lib.hid (fun h c hc => by
                    rcases Nat.lt_succ_iff_lt_or_eq.1 hc with hc | rfl
                    · exact hgok.out c hc
                    · exact h)
                  generalize grow.getD q 0 = y at hx1 HRB HRO hxw
                  by_cases y1 : y < -1
                  · have HE := Lib.hid (HRB.out (by omega))
                    go_wp2
                    go_ret
                    exact ⟨by rw [HE.out]; rfl, hBw3⟩
                  by_cases y2 : (acts.length : Int) ≤ y
                  · have HE := Lib.hid (HRB.out (by omega))
                    go_wp2
                    go_ret
                    exact ⟨by rw [HE.out]; rfl, hBw3⟩
                  have HX := Lib.hid (HRO.out (by omega))
                  go_wp2
                  go_roundw
                  case rel => exact ⟨q + 1, by omega, by go_num, hB3, HX⟩
                  case measure => simp [intOf]; omega
                · obtain rfl : q = grow.length := by omega
                  have hqn : ¬ (grow.length : Int) < n := by have := HL2.out; omega
                  have HX := Lib.hid (HOK.out ⟨HL1.out, HL2.out, hrok.out, hgok.out⟩)
                  go_wp2
                  go_roundw
                  case rel => exact ⟨k + 1, by omega, by go_num, hB3, HX⟩
                  case measure => simp [intOf]; omega
        · have hl2b : ((grow.length : Int) != n) = true := by rw [bne_iff_ne]; exact hl2
          have HE := Lib.hid (HBAD.out (fun g => hl2 g.2.1))
          clear hl2 hl1
          go_wp2
          go_quiet (fail)
          go_wp2
          go_ret
          exact ⟨by rw [HE.out]; rfl, below_drewN hBw _⟩
      · have hl1b : ((row.length : Int) != t + 1) = true := by rw [bne_iff_ne]; exact hl1
        have HE := Lib.hid (HBAD.out (fun g => hl1 g.1))
        clear hl1
        go_wp2
        go_quiet (fail)
        go_wp2
        go_ret
        exact ⟨by rw [HE.out]; rfl, below_drewN hBw _⟩
    · obtain rfl : k = acts.length := by omega
      have HE := Lib.hid (Tb.err_ok (t := t) (n := n) (np := l.length) h200 HNOT.out hok.out)
      go_wp2
      go_ret
      exact ⟨by rw [HE.out]; rfl, hBw⟩
end Go.Proofs.Ytldapomcjfkeeaa
