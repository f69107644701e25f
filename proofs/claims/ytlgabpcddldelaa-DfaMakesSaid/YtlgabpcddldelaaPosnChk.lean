/-
  Check of package places, RightPosn of the reference: what they compute.
-/
import Derived.Test.YtlgabpcddldelaaPosn
namespace Go.Proofs.Ytlgabpcddldelaa
set_option linter.unusedVariables false
open Go.ChangeShapes Go.WideShapes Go.ChangeAt Go.RowKit

set_option maxRecDepth 100000 in
set_option maxHeartbeats 8000000 in
theorem posnChk_any (vc vr vi vo vl ve : Value) (cl : List (List Int)) (ru fi : List Int) (fo : List (List Int)) (la em : List Bool) (w : World) (F : Nat → Prop) (hF : ∀ b, F b → b < w.heap.size) (h1 : ((Enc.row .u64 4).sl 32).R F w [vc] cl) (h2 : ((Enc.int .i64).sl 8).R F w [vr] ru) (h3 : ((Enc.int .i64).sl 8).R F w [vi] fi)
    (h4 : (((Enc.int .i64).sl 8).sl 24).R F w [vo] fo) (h5 : (Enc.bool.sl 1).R F w [vl] la) (h6 : (Enc.bool.sl 1).R F w [ve] em) :
    Calls Try.prog 38 #[.agg #[vc, vr, vi, vo, vl, ve]] w fun e w' => e = .returned (.int .i64 (Pl.err cl.length ru fi fo la.length em.length)) ∧ Below w.heap.size w w' := by
  have HRI := Lib.hid (fun (W : World) (hW : Below w.heap.size w W) => rises_any (cl.length : Int) fi vi W F (Enc.mono _ h3 (fun _ h => h) (fun b hb => hW.block b (hF b hb))))
  obtain ⟨ac, _, _, cc, rfl, k1, -, -⟩ := slCls h1
  obtain ⟨ar, br, or_, cr, rfl, k2, r3, r4⟩ := slInt h2
  obtain ⟨ai, _, _, ci, rfl, -, -, -⟩ := slInt h3
  obtain ⟨ao, bo, oo, co, rfl, f3, f4⟩ := slRowsI h4
  obtain ⟨al, _, _, cl', rfl, -, -, -⟩ := slBool h5
  obtain ⟨ae, _, _, ce, rfl, -, -, -⟩ := slBool h6
  have HRO := Lib.hid (fun (W : World) (hW : Below w.heap.size w W) (l : List Int) (v : Value) (hl : ((Enc.int .i64).sl 8).R F w [v] l) => rises_any (cl.length : Int) l v W F (Enc.mono _ hl (fun _ h => h) (fun b hb => hW.block b (hF b hb))))
  have R3 := Lib.hid r3; have R4 := Lib.hid r4; have F3 := Lib.hid f3; have F4 := Lib.hid f4
  have hst := (St.init w).alloc #[.slice ac cl.length cc, .slice ar ru.length cr, .slice ai fi.length ci, .slice ao fo.length co, .slice al la.length cl', .slice ae em.length ce] 27
  obtain ⟨R, hR⟩ : ∃ R, Pl.err cl.length ru fi fo la.length em.length = R := ⟨_, rfl⟩
  rw [hR]
  have HR := Lib.hid hR
  have hcl : (cl.length : Int) ≤ 140737488355328 := by omega
  clear h1 h2 h3 h4 h5 h6 r3 r4 f3 f4 hF hR k1 k2
  rcases Pl.alts ru.length fo.length la.length em.length cl.length with g | ⟨g1, g⟩ | ⟨g1, g2, g⟩ | ⟨g1, g2, g3, g⟩ | ⟨g1, g2, g3, g⟩ | ⟨g1, g2, g3, g4, g5⟩
  · have HE : Hid (R = 1) := Lib.hid (by rw [← HR.out]; exact Pl.err_shape (fun q => by unfold Pl.shape at q; omega))
    have b0 : ((ru.length : Int) != (cl.length : Int)) = true := by rw [bne_iff_ne]; omega
    clear g
    go_enter Try.func38, Try.ntmps38
    go_wp2
    go_ret
    exact ⟨by rw [HE.out]; rfl, hst.bel⟩
  · have HE : Hid (R = 1) := Lib.hid (by rw [← HR.out]; exact Pl.err_shape (fun q => by unfold Pl.shape at q; omega))
    have b0 : ((ru.length : Int) != (cl.length : Int)) = false := by rw [bne_eq_false_iff_eq]; omega
    have b1 : ((fo.length : Int) != (cl.length : Int)) = true := by rw [bne_iff_ne]; omega
    clear g1 g
    go_enter Try.func38, Try.ntmps38
    go_wp2
    go_ret
    exact ⟨by rw [HE.out]; rfl, hst.bel⟩
  · have HE : Hid (R = 1) := Lib.hid (by rw [← HR.out]; exact Pl.err_shape (fun q => by unfold Pl.shape at q; omega))
    have b0 : ((ru.length : Int) != (cl.length : Int)) = false := by rw [bne_eq_false_iff_eq]; omega
    have b1 : ((fo.length : Int) != (cl.length : Int)) = false := by rw [bne_eq_false_iff_eq]; omega
    have b2 : ((la.length : Int) != (cl.length : Int)) = true := by rw [bne_iff_ne]; omega
    clear g1 g2 g
    go_enter Try.func38, Try.ntmps38
    go_wp2
    go_ret
    exact ⟨by rw [HE.out]; rfl, hst.bel⟩
  · have HE : Hid (R = 1) := Lib.hid (by rw [← HR.out]; exact Pl.err_shape (fun q => by unfold Pl.shape at q; omega))
    have b0 : ((ru.length : Int) != (cl.length : Int)) = false := by rw [bne_eq_false_iff_eq]; omega
    have b1 : ((fo.length : Int) != (cl.length : Int)) = false := by rw [bne_eq_false_iff_eq]; omega
    have b2 : ((la.length : Int) != (cl.length : Int)) = false := by rw [bne_eq_false_iff_eq]; omega
    have e0 : ((em.length : Int) == 0) = true := by rw [beq_iff_eq]; omega
    clear g1 g2 g3 g
    go_enter Try.func38, Try.ntmps38
    go_wp2
    go_ret
    exact ⟨by rw [HE.out]; rfl, hst.bel⟩
  · have HE : Hid (R = 1) := Lib.hid (by rw [← HR.out]; exact Pl.err_shape (fun q => by unfold Pl.shape at q; omega))
    have b0 : ((ru.length : Int) != (cl.length : Int)) = false := by rw [bne_eq_false_iff_eq]; omega
    have b1 : ((fo.length : Int) != (cl.length : Int)) = false := by rw [bne_eq_false_iff_eq]; omega
    have b2 : ((la.length : Int) != (cl.length : Int)) = false := by rw [bne_eq_false_iff_eq]; omega
    have e0 : ((em.length : Int) == 0) = false := by rw [beq_eq_false_iff_ne]; omega
    have e1 : (20 : Int) < (em.length : Int) := by omega
    clear g1 g2 g3 g
    go_enter Try.func38, Try.ntmps38
    go_wp2
    go_ret
    exact ⟨by rw [HE.out]; rfl, hst.bel⟩
  · have b0 : ((ru.length : Int) != (cl.length : Int)) = false := by rw [bne_eq_false_iff_eq]; omega
    have b1 : ((fo.length : Int) != (cl.length : Int)) = false := by rw [bne_eq_false_iff_eq]; omega
    have b2 : ((la.length : Int) != (cl.length : Int)) = false := by rw [bne_eq_false_iff_eq]; omega
    have e0 : ((em.length : Int) == 0) = false := by rw [beq_eq_false_iff_ne]; omega
    have e1 : (em.length : Int) ≤ 20 := by omega
    have G := Lib.hid (show ru.length = cl.length ∧ fo.length = cl.length ∧ la.length = cl.length from ⟨g1, g2, g3⟩)
    clear g1 g2 g3
    obtain ⟨B, hB⟩ : ∃ B, Pl.rise cl.length (-1) fi = B := ⟨_, rfl⟩
    rw [hB] at HRI
    cases B
    · have HE : Hid (R = 1) := Lib.hid (by rw [← HR.out]; exact Pl.err_shape (fun q => by unfold Pl.shape at q; rw [hB] at q; exact absurd q.2.2.2.2.2 (by simp)))
      clear hB
      go_enter Try.func38, Try.ntmps38
      go_wp2_with (fail)
      go_at_call 92
      refine (HRI.out _ hst.bel).mono ?_
      rintro e w1 ⟨rfl, rfl⟩
      go_wp2
      go_ret
      exact ⟨by rw [HE.out]; rfl, hst.bel⟩
    · have HS : Hid (Pl.shape cl.length ru fi fo la.length em.length) := Lib.hid ⟨G.out.1, G.out.2.1, G.out.2.2, g4, g5, hB⟩
      clear hB
      go_enter Try.func38, Try.ntmps38
      go_wp2_with (fail)
      go_at_call 92
      refine (HRI.out _ hst.bel).mono ?_
      rintro e w1 ⟨rfl, rfl⟩
      go_wp2
      have HST := Lib.hid hst
      clear hst b0 b1 b2 e0 e1
      go_loopw [4, 47] (fun _ i wr => ∃ k : Nat, k ≤ cl.length ∧ i = .int .i64 k ∧ St w wr [aCel w.heap.size 27 #[.slice ac cl.length cc, .slice ar ru.length cr, .slice ai fi.length ci, .slice ao fo.length co, .slice al la.length cl', .slice ae em.length ce]] ∧ Hid (∀ j, j < k → Pl.ok cl.length ru fo em.length j)) (fun _ i _ => cl.length - (intOf i).toNat)
      case atStart => exact ⟨0, by omega, rfl, HST.out, Lib.hid (fun j hj => absurd hj (by omega))⟩
      case round =>
        clear HST
        obtain ⟨k, hk, rfl, hst, HQ⟩ := hrel
        by_cases hlt : k < cl.length
        · have hru : k < ru.length := by have := G.out.1; omega
          have hfo : k < fo.length := by have := G.out.2.1; omega
          obtain ⟨rfl, _, _⟩ := R3.out (by omega)
          obtain ⟨rfl, _, _⟩ := F3.out (by omega)
          obtain ⟨c1, -⟩ := R4.out k hru
          obtain ⟨a8, c8, c2, c3⟩ := F4.out k hfo
          have c1 := bkeep hst.bel c1
          have c2 := bkeep hst.bel c2
          obtain ⟨x0, x1, x2, x3, x4, x5⟩ := hst.at6 0 rfl
          have hi1 : (k : Int) < ru.length := by omega
          have hi2 : (k : Int) < fo.length := by omega
          have hi3 : (k : Int) < cl.length := by omega
          have l1 := World.block_lt_of_cell? _ _ c1
          have l2 := World.block_lt_of_cell? _ _ c2
          obtain ⟨y, hy⟩ : ∃ y, ru.getD k 0 = y := ⟨_, rfl⟩
          rw [hy] at c1
          have HY := Lib.hid hy
          have HST := Lib.hid hst
          clear hst hy
          by_cases hy0 : y < 0
          · have HE : Hid (R = 1) := Lib.hid (by rw [← HR.out]; exact Pl.err_at hlt (fun q => by have := q.1; rw [HY.out] at this; omega))
            clear c3
            go_wp2
            go_quiet (fail)
            go_wp2
            go_ret
            exact ⟨by rw [HE.out]; rfl, (HST.out.drewN _).bel⟩
          by_cases hyn : (em.length : Int) ≤ y
          · have HE : Hid (R = 1) := Lib.hid (by rw [← HR.out]; exact Pl.err_at hlt (fun q => by have := q.2.1; rw [HY.out] at this; omega))
            have hyb : decide (y < 0) = false := decide_eq_false hy0
            have hyc : decide ((em.length : Int) ≤ y) = true := decide_eq_true hyn
            clear c3 hy0 hyn
            go_wp2
            go_quiet (fail)
            go_wp2
            go_ret
            exact ⟨by rw [HE.out]; rfl, (HST.out.drewN _).bel⟩
          have hy0' : 0 ≤ y := by omega
          have hyn' : y < em.length := by omega
          have hyb : decide (y < 0) = false := decide_eq_false hy0
          have hyc : decide ((em.length : Int) ≤ y) = false := decide_eq_false hyn
          have HC := fun m => HRO.out _ (HST.out.drewN m).bel _ _ c3
          obtain ⟨B, hB⟩ : ∃ B, Pl.rise cl.length (-1) (fo.getD k []) = B := ⟨_, rfl⟩
          simp only [hB] at HC
          replace HC := Lib.hid HC
          have HB := Lib.hid hB
          generalize (fo.getD k []).length = fl at *
          clear c3 hy0 hyn hB
          cases B
          · have HE : Hid (R = 1) := Lib.hid (by rw [← HR.out]; exact Pl.err_at hlt (fun q => by have := q.2.2; rw [HB.out] at this; cases this))
            go_wp2
            go_quiet ((go_at_call 92; exact Calls.quiet_of_same (HC.out _)))
            go_wp2
            go_ret
            exact ⟨by rw [HE.out]; rfl, (HST.out.drewN _).bel⟩
          · go_wp2
            go_quiet ((go_at_call 92; exact Calls.quiet_of_same (HC.out _)))
            clear c1 c2 x0 x1 x2 x3 x4 x5 l1 l2
            go_wp2
            go_roundw
            case rel => exact ⟨k + 1, by omega, by go_num, HST.out.drewN _, Lib.hid (fun j hj => by
              rcases Nat.lt_succ_iff_lt_or_eq.1 hj with h | rfl
              · exact HQ.out j h
              · exact ⟨by rw [HY.out]; exact hy0', by rw [HY.out]; exact hyn', HB.out⟩)⟩
            case measure => simp [intOf]; omega
        · obtain rfl : k = cl.length := by omega
          have HST := Lib.hid hst
          clear hst
          by_cases h2 : 200 < cl.length
          · have HE : Hid (R = 2) := Lib.hid (by rw [← HR.out]; exact Pl.err_large HS.out HQ.out h2)
            go_wp2
            go_ret
            exact ⟨by rw [HE.out]; rfl, HST.out.bel⟩
          · have HE : Hid (R = 0) := Lib.hid (by rw [← HR.out]; exact Pl.err_ok HS.out HQ.out h2)
            have h2' : (cl.length : Int) ≤ 200 := by omega
            clear h2
            go_wp2
            go_ret
            exact ⟨by rw [HE.out]; rfl, HST.out.bel⟩

set_option maxRecDepth 100000 in
set_option maxHeartbeats 8000000 in
theorem rPosn_any (vc vr vi vo vl ve : Value) (cl : List (List Int)) (ru fi : List Int) (fo : List (List Int)) (la em : List Bool) (w : World) (F : Nat → Prop) (hF : ∀ b, F b → b < w.heap.size) (h1 : ((Enc.row .u64 4).sl 32).R F w [vc] cl) (h2 : ((Enc.int .i64).sl 8).R F w [vr] ru) (h3 : ((Enc.int .i64).sl 8).R F w [vi] fi)
    (h4 : (((Enc.int .i64).sl 8).sl 24).R F w [vo] fo) (h5 : (Enc.bool.sl 1).R F w [vl] la) (h6 : (Enc.bool.sl 1).R F w [ve] em) :
    Calls Try.prog 10 #[.agg #[vc, vr, vi, vo, vl, ve]] w fun e w' => e = .returned (.int .i64 (Pl.err cl.length ru fi fo la.length em.length)) ∧ Below w.heap.size w w' := by
  have HRI := Lib.hid (fun (W : World) (hW : Below w.heap.size w W) => rising_any (cl.length : Int) fi vi W F (Enc.mono _ h3 (fun _ h => h) (fun b hb => hW.block b (hF b hb))))
  obtain ⟨ac, _, _, cc, rfl, k1, -, -⟩ := slCls h1
  obtain ⟨ar, br, or_, cr, rfl, k2, r3, r4⟩ := slInt h2
  obtain ⟨ai, _, _, ci, rfl, -, -, -⟩ := slInt h3
  obtain ⟨ao, bo, oo, co, rfl, f3, f4⟩ := slRowsI h4
  obtain ⟨al, _, _, cl', rfl, -, -, -⟩ := slBool h5
  obtain ⟨ae, _, _, ce, rfl, -, -, -⟩ := slBool h6
  have HRO := Lib.hid (fun (W : World) (hW : Below w.heap.size w W) (l : List Int) (v : Value) (hl : ((Enc.int .i64).sl 8).R F w [v] l) => rising_any (cl.length : Int) l v W F (Enc.mono _ hl (fun _ h => h) (fun b hb => hW.block b (hF b hb))))
  have R3 := Lib.hid r3; have R4 := Lib.hid r4; have F3 := Lib.hid f3; have F4 := Lib.hid f4
  have hst := (St.init w).alloc #[.slice ac cl.length cc, .slice ar ru.length cr, .slice ai fi.length ci, .slice ao fo.length co, .slice al la.length cl', .slice ae em.length ce] 27
  obtain ⟨R, hR⟩ : ∃ R, Pl.err cl.length ru fi fo la.length em.length = R := ⟨_, rfl⟩
  rw [hR]
  have HR := Lib.hid hR
  have hcl : (cl.length : Int) ≤ 140737488355328 := by omega
  clear h1 h2 h3 h4 h5 h6 r3 r4 f3 f4 hF hR k1 k2
  rcases Pl.alts ru.length fo.length la.length em.length cl.length with g | ⟨g1, g⟩ | ⟨g1, g2, g⟩ | ⟨g1, g2, g3, g⟩ | ⟨g1, g2, g3, g⟩ | ⟨g1, g2, g3, g4, g5⟩
  · have HE : Hid (R = 1) := Lib.hid (by rw [← HR.out]; exact Pl.err_shape (fun q => by unfold Pl.shape at q; omega))
    have b0 : ((cl.length : Int) != (ru.length : Int)) = true := by rw [bne_iff_ne]; omega
    clear g
    go_enter Try.func10, Try.ntmps10
    go_wp2
    go_ret
    exact ⟨by rw [HE.out]; rfl, hst.bel⟩
  · have HE : Hid (R = 1) := Lib.hid (by rw [← HR.out]; exact Pl.err_shape (fun q => by unfold Pl.shape at q; omega))
    have b0 : ((cl.length : Int) != (ru.length : Int)) = false := by rw [bne_eq_false_iff_eq]; omega
    have b1 : ((cl.length : Int) != (fo.length : Int)) = true := by rw [bne_iff_ne]; omega
    clear g1 g
    go_enter Try.func10, Try.ntmps10
    go_wp2
    go_ret
    exact ⟨by rw [HE.out]; rfl, hst.bel⟩
  · have HE : Hid (R = 1) := Lib.hid (by rw [← HR.out]; exact Pl.err_shape (fun q => by unfold Pl.shape at q; omega))
    have b0 : ((cl.length : Int) != (ru.length : Int)) = false := by rw [bne_eq_false_iff_eq]; omega
    have b1 : ((cl.length : Int) != (fo.length : Int)) = false := by rw [bne_eq_false_iff_eq]; omega
    have b2 : ((cl.length : Int) != (la.length : Int)) = true := by rw [bne_iff_ne]; omega
    clear g1 g2 g
    go_enter Try.func10, Try.ntmps10
    go_wp2
    go_ret
    exact ⟨by rw [HE.out]; rfl, hst.bel⟩
  · have HE : Hid (R = 1) := Lib.hid (by rw [← HR.out]; exact Pl.err_shape (fun q => by unfold Pl.shape at q; omega))
    have b0 : ((cl.length : Int) != (ru.length : Int)) = false := by rw [bne_eq_false_iff_eq]; omega
    have b1 : ((cl.length : Int) != (fo.length : Int)) = false := by rw [bne_eq_false_iff_eq]; omega
    have b2 : ((cl.length : Int) != (la.length : Int)) = false := by rw [bne_eq_false_iff_eq]; omega
    have e0 : (em.length : Int) < 1 := by omega
    clear g1 g2 g3 g
    go_enter Try.func10, Try.ntmps10
    go_wp2
    go_ret
    exact ⟨by rw [HE.out]; rfl, hst.bel⟩
  · have HE : Hid (R = 1) := Lib.hid (by rw [← HR.out]; exact Pl.err_shape (fun q => by unfold Pl.shape at q; omega))
    have b0 : ((cl.length : Int) != (ru.length : Int)) = false := by rw [bne_eq_false_iff_eq]; omega
    have b1 : ((cl.length : Int) != (fo.length : Int)) = false := by rw [bne_eq_false_iff_eq]; omega
    have b2 : ((cl.length : Int) != (la.length : Int)) = false := by rw [bne_eq_false_iff_eq]; omega
    have e0 : (1 : Int) ≤ (em.length : Int) := by omega
    have e1 : (20 : Int) < (em.length : Int) := by omega
    clear g1 g2 g3 g
    go_enter Try.func10, Try.ntmps10
    go_wp2
    go_ret
    exact ⟨by rw [HE.out]; rfl, hst.bel⟩
  · have b0 : ((cl.length : Int) != (ru.length : Int)) = false := by rw [bne_eq_false_iff_eq]; omega
    have b1 : ((cl.length : Int) != (fo.length : Int)) = false := by rw [bne_eq_false_iff_eq]; omega
    have b2 : ((cl.length : Int) != (la.length : Int)) = false := by rw [bne_eq_false_iff_eq]; omega
    have e0 : (1 : Int) ≤ (em.length : Int) := by omega
    have e1 : (em.length : Int) ≤ 20 := by omega
    have G := Lib.hid (show ru.length = cl.length ∧ fo.length = cl.length ∧ la.length = cl.length from ⟨g1, g2, g3⟩)
    clear g1 g2 g3
    obtain ⟨B, hB⟩ : ∃ B, Pl.rise cl.length (-1) fi = B := ⟨_, rfl⟩
    rw [hB] at HRI
    cases B
    · have HE : Hid (R = 1) := Lib.hid (by rw [← HR.out]; exact Pl.err_shape (fun q => by unfold Pl.shape at q; rw [hB] at q; exact absurd q.2.2.2.2.2 (by simp)))
      clear hB
      go_enter Try.func10, Try.ntmps10
      go_wp2_with (fail)
      go_at_call 40
      refine (HRI.out _ hst.bel).mono ?_
      rintro e w1 ⟨rfl, rfl⟩
      go_wp2
      go_ret
      exact ⟨by rw [HE.out]; rfl, hst.bel⟩
    · have HS : Hid (Pl.shape cl.length ru fi fo la.length em.length) := Lib.hid ⟨G.out.1, G.out.2.1, G.out.2.2, g4, g5, hB⟩
      clear hB
      go_enter Try.func10, Try.ntmps10
      go_wp2_with (fail)
      go_at_call 40
      refine (HRI.out _ hst.bel).mono ?_
      rintro e w1 ⟨rfl, rfl⟩
      go_wp2
      have HST := Lib.hid hst
      clear hst b0 b1 b2 e0 e1
      go_loopw [4] (fun i wr => ∃ k : Nat, k ≤ cl.length ∧ i = .int .i64 k ∧ St w wr [aCel w.heap.size 27 #[.slice ac cl.length cc, .slice ar ru.length cr, .slice ai fi.length ci, .slice ao fo.length co, .slice al la.length cl', .slice ae em.length ce]] ∧ Hid (∀ j, j < k → Pl.ok cl.length ru fo em.length j)) (fun i _ => cl.length - (intOf i).toNat)
      case atStart => exact ⟨0, by omega, rfl, HST.out, Lib.hid (fun j hj => absurd hj (by omega))⟩
      case round =>
        clear HST
        obtain ⟨k, hk, rfl, hst, HQ⟩ := hrel
        by_cases hlt : k < cl.length
        · have hru : k < ru.length := by have := G.out.1; omega
          have hfo : k < fo.length := by have := G.out.2.1; omega
          obtain ⟨rfl, _, _⟩ := R3.out (by omega)
          obtain ⟨rfl, _, _⟩ := F3.out (by omega)
          obtain ⟨c1, -⟩ := R4.out k hru
          obtain ⟨a8, c8, c2, c3⟩ := F4.out k hfo
          have c1 := bkeep hst.bel c1
          have c2 := bkeep hst.bel c2
          obtain ⟨x0, x1, x2, x3, x4, x5⟩ := hst.at6 0 rfl
          have hi1 : (k : Int) < ru.length := by omega
          have hi2 : (k : Int) < fo.length := by omega
          have hi3 : (k : Int) < cl.length := by omega
          have l1 := World.block_lt_of_cell? _ _ c1
          have l2 := World.block_lt_of_cell? _ _ c2
          obtain ⟨y, hy⟩ : ∃ y, ru.getD k 0 = y := ⟨_, rfl⟩
          rw [hy] at c1
          have HY := Lib.hid hy
          have HST := Lib.hid hst
          clear hst hy
          by_cases hy0 : y < 0
          · have HE : Hid (R = 1) := Lib.hid (by rw [← HR.out]; exact Pl.err_at hlt (fun q => by have := q.1; rw [HY.out] at this; omega))
            clear c3
            go_wp2
            go_quiet (fail)
            go_wp2
            go_ret
            exact ⟨by rw [HE.out]; rfl, (HST.out.drewN _).bel⟩
          by_cases hyn : (em.length : Int) ≤ y
          · have HE : Hid (R = 1) := Lib.hid (by rw [← HR.out]; exact Pl.err_at hlt (fun q => by have := q.2.1; rw [HY.out] at this; omega))
            have hyb : decide (y < 0) = false := decide_eq_false hy0
            have hyc : decide ((em.length : Int) ≤ y) = true := decide_eq_true hyn
            clear c3 hy0 hyn
            go_wp2
            go_quiet (fail)
            go_wp2
            go_ret
            exact ⟨by rw [HE.out]; rfl, (HST.out.drewN _).bel⟩
          have hy0' : 0 ≤ y := by omega
          have hyn' : y < em.length := by omega
          have hyb : decide (y < 0) = false := decide_eq_false hy0
          have hyc : decide ((em.length : Int) ≤ y) = false := decide_eq_false hyn
          have HC := fun m => HRO.out _ (HST.out.drewN m).bel _ _ c3
          obtain ⟨B, hB⟩ : ∃ B, Pl.rise cl.length (-1) (fo.getD k []) = B := ⟨_, rfl⟩
          simp only [hB] at HC
          replace HC := Lib.hid HC
          have HB := Lib.hid hB
          generalize (fo.getD k []).length = fl at *
          clear c3 hy0 hyn hB
          cases B
          · have HE : Hid (R = 1) := Lib.hid (by rw [← HR.out]; exact Pl.err_at hlt (fun q => by have := q.2.2; rw [HB.out] at this; cases this))
            go_wp2
            go_quiet ((go_at_call 40; exact Calls.quiet_of_same (HC.out _)))
            go_wp2
            go_ret
            exact ⟨by rw [HE.out]; rfl, (HST.out.drewN _).bel⟩
          · go_wp2
            go_quiet ((go_at_call 40; exact Calls.quiet_of_same (HC.out _)))
            clear c1 c2 x0 x1 x2 x3 x4 x5 l1 l2
            go_wp2
            go_roundw
            case rel => exact ⟨k + 1, by omega, by go_num, HST.out.drewN _, Lib.hid (fun j hj => by
              rcases Nat.lt_succ_iff_lt_or_eq.1 hj with h | rfl
              · exact HQ.out j h
              · exact ⟨by rw [HY.out]; exact hy0', by rw [HY.out]; exact hyn', HB.out⟩)⟩
            case measure => simp [intOf]; omega
        · obtain rfl : k = cl.length := by omega
          have HST := Lib.hid hst
          clear hst
          by_cases h2 : 200 < cl.length
          · have HE : Hid (R = 2) := Lib.hid (by rw [← HR.out]; exact Pl.err_large HS.out HQ.out h2)
            go_wp2
            go_ret
            exact ⟨by rw [HE.out]; rfl, HST.out.bel⟩
          · have HE : Hid (R = 0) := Lib.hid (by rw [← HR.out]; exact Pl.err_ok HS.out HQ.out h2)
            have h2' : (cl.length : Int) ≤ 200 := by omega
            clear h2
            go_wp2
            go_ret
            exact ⟨by rw [HE.out]; rfl, HST.out.bel⟩
end Go.Proofs.Ytlgabpcddldelaa
