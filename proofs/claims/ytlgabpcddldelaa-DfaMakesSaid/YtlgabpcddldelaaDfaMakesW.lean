/-
  DfaMakes: the law's walk.
-/
import Derived.Test.YtlgabpcddldelaaDmRef
import Derived.Test.YtlgabpcddldelaaSameDfa
import Derived.Test.YtlgabpcddldelaaPosnIn
namespace Go.Proofs.Ytlgabpcddldelaa
set_option linter.unusedVariables false
set_option linter.unusedSimpArgs false
open Go.ChangeShapes Go.WideShapes Go.ChangeAt Go.RowKit

theorem Dm.slShape {α : Type} {w : World} {size : Nat} {R : List Value → α → Prop} {v : Value} {l : List α} (h : Sl w size R v l) : ∃ a n c, v = .slice a n c := by
  obtain ⟨a, _, _, c, h1, _⟩ := h
  exact ⟨_, _, _, h1⟩

set_option maxRecDepth 100000 in
set_option maxHeartbeats 1600000 in
theorem dfaMakes_walk (P : Dm.Pn) (vc vr vi vo vl ve : Value) (w : World) (F : Nat → Prop) (hF : ∀ b, F b → b < w.heap.size) (hin : Dm.In F w vc vr vi vo vl ve P) :
    Calls Try.prog 3 #[.agg #[vc, vr, vi, vo, vl, ve]] w fun e w' => e = .returned (.bool true) ∧ Below w.heap.size w w' := by
  have HRP := Lib.hid (fun (W : World) (hW : Below w.heap.size w W) => rPosn_any vc vr vi vo vl ve P.cl P.ru P.fi P.fo P.la P.em W F (fun b hb => Nat.lt_of_lt_of_le (hF b hb) hW.size) (hin.mono hF hW).h1 (hin.mono hF hW).h2 (hin.mono hF hW).h3 (hin.mono hF hW).h4 (hin.mono hF hW).h5 (hin.mono hF hW).h6)
  have hst := (St.init w).alloc #[vc, vr, vi, vo, vl, ve] 27
  obtain ⟨E, hE⟩ : ∃ E, Pl.err P.cl.length P.ru P.fi P.fo P.la.length P.em.length = E := ⟨_, rfl⟩
  rw [hE] at HRP
  by_cases hE0 : E = 0
  · subst hE0
    have HMK := Lib.hid (fun (W : World) (hW : Below w.heap.size w W) => dmMake_ok P vc vr vi vo vl ve W F (fun b hb => Nat.lt_of_lt_of_le (hF b hb) hW.size) (hin.mono hF hW) hE)
    have HRF := Lib.hid (fun (W : World) (hW : Below w.heap.size w W) => dmRef_any P (Dm.good_of hE) vc vr vi vo vl ve W F (fun b hb => Nat.lt_of_lt_of_le (hF b hb) hW.size) (hin.mono hF hW))
    clear hE hin hF
    have HST := Lib.hid hst
    clear hst
    go_enter Try.func3, Try.ntmps3
    go_wp2_with (fail)
    go_at_call 9
    refine (HMK.out _ HST.out.bel).mono ?_
    rintro e w1 ⟨o, HO, hres, hb1⟩
    have hst1 := HST.out.call hb1
    cases o with
    | none =>
      simp only [Dm.Res] at hres
      subst hres
      have hst2 := hst1.alloc #[.slice none 0 0, .slice none 0 0] 30
      have p0 := (hst2.nth 1 rfl).celAt (i := 0) (v := vc) rfl
      have p1 := (hst2.nth 1 rfl).celAt (i := 1) (v := vr) rfl
      have p2 := (hst2.nth 1 rfl).celAt (i := 2) (v := vi) rfl
      have p3 := (hst2.nth 1 rfl).celAt (i := 3) (v := vo) rfl
      have p4 := (hst2.nth 1 rfl).celAt (i := 4) (v := vl) rfl
      have p5 := (hst2.nth 1 rfl).celAt (i := 5) (v := ve) rfl
      have HST2 := Lib.hid hst2
      clear hb1 hst1 HST hst2
      go_wp2_with (fail)
      go_at_call 10
      refine (HRP.out _ HST2.out.bel).mono ?_
      rintro e w3 ⟨rfl, hb3⟩
      have hst3 := HST2.out.call hb3
      clear p0 p1 p2 p3 p4 p5
      have p0 := (hst3.nth 1 rfl).celAt (i := 0) (v := vc) rfl
      have p1 := (hst3.nth 1 rfl).celAt (i := 1) (v := vr) rfl
      have p2 := (hst3.nth 1 rfl).celAt (i := 2) (v := vi) rfl
      have p3 := (hst3.nth 1 rfl).celAt (i := 3) (v := vo) rfl
      have p4 := (hst3.nth 1 rfl).celAt (i := 4) (v := vl) rfl
      have p5 := (hst3.nth 1 rfl).celAt (i := 5) (v := ve) rfl
      have HST3 := Lib.hid hst3
      clear hb3 hst3 HST2
      go_wp2_with (fail)
      go_at_call 12
      refine (HRF.out _ HST3.out.bel).mono ?_
      rintro e w4 ⟨o2, HO2, hres, hb4⟩
      obtain rfl := Dm.Says.one HO2.out HO.out
      simp only [Dm.Res] at hres
      subst hres
      have hst4 := (HST3.out.call hb4).alloc #[.slice none 0 0, .slice none 0 0] 30
      have q0 := (hst4.nth 1 rfl).celAt (i := 0) (v := .slice none 0 0) rfl
      have q1 := (hst4.nth 1 rfl).celAt (i := 1) (v := .slice none 0 0) rfl
      have HST4 := Lib.hid hst4
      clear hb4 hst4 HST3 p0 p1 p2 p3 p4 p5
      go_wp2_with (fail)
      go_at_call 11
      refine (sameDfa_any (rows := []) (tags := []) _ (Sl.nil _ _ _) (Sl.nil _ _ _) (Sl.nil _ _ _) (Sl.nil _ _ _)).mono ?_
      rintro e w5 ⟨rfl, hb5⟩
      have HST5 := Lib.hid (HST4.out.call hb5)
      clear hb5 HST4 q0 q1
      go_wp2
      go_ret
      exact ⟨rfl, HST5.out.bel⟩
    | some rt =>
      obtain ⟨rows, tags⟩ := rt
      simp only [Dm.Res] at hres
      obtain ⟨v0, v1, rfl, s0, s1⟩ := hres
      obtain ⟨a0, n0, c0, rfl⟩ := Dm.slShape s0
      obtain ⟨a1, n1, c1, rfl⟩ := Dm.slShape s1
      have hst2 := hst1.alloc #[.slice a0 n0 c0, .slice a1 n1 c1] 30
      have p0 := (hst2.nth 1 rfl).celAt (i := 0) (v := vc) rfl
      have p1 := (hst2.nth 1 rfl).celAt (i := 1) (v := vr) rfl
      have p2 := (hst2.nth 1 rfl).celAt (i := 2) (v := vi) rfl
      have p3 := (hst2.nth 1 rfl).celAt (i := 3) (v := vo) rfl
      have p4 := (hst2.nth 1 rfl).celAt (i := 4) (v := vl) rfl
      have p5 := (hst2.nth 1 rfl).celAt (i := 5) (v := ve) rfl
      have HST2 := Lib.hid hst2
      have HB2 := Lib.hid ((Below.refl w1.heap.size w1).alloc (Nat.le_refl _) (.cells #[.slice a0 n0 c0, .slice a1 n1 c1] 30))
      have S0 := Lib.hid s0; have S1 := Lib.hid s1
      clear hb1 hst1 HST hst2 s0 s1
      go_wp2_with (fail)
      go_at_call 10
      refine (HRP.out _ HST2.out.bel).mono ?_
      rintro e w3 ⟨rfl, hb3⟩
      have hst3 := HST2.out.call hb3
      have HB3 := Lib.hid (HB2.out.trans (hb3.mono HB2.out.size))
      clear p0 p1 p2 p3 p4 p5
      have p0 := (hst3.nth 1 rfl).celAt (i := 0) (v := vc) rfl
      have p1 := (hst3.nth 1 rfl).celAt (i := 1) (v := vr) rfl
      have p2 := (hst3.nth 1 rfl).celAt (i := 2) (v := vi) rfl
      have p3 := (hst3.nth 1 rfl).celAt (i := 3) (v := vo) rfl
      have p4 := (hst3.nth 1 rfl).celAt (i := 4) (v := vl) rfl
      have p5 := (hst3.nth 1 rfl).celAt (i := 5) (v := ve) rfl
      have HST3 := Lib.hid hst3
      clear hb3 hst3 HST2
      go_wp2_with (fail)
      go_at_call 12
      refine (HRF.out _ HST3.out.bel).mono ?_
      rintro e w4 ⟨o2, HO2, hres, hb4⟩
      obtain rfl := Dm.Says.one HO2.out HO.out
      simp only [Dm.Res] at hres
      obtain ⟨u0, u1, rfl, t0, t1⟩ := hres
      obtain ⟨b0, m0, d0, rfl⟩ := Dm.slShape t0
      obtain ⟨b1, m1, d1, rfl⟩ := Dm.slShape t1
      have hb4' := HB3.out.trans (hb4.mono HB3.out.size)
      have hb5 := hb4'.alloc hb4'.size (.cells #[.slice b0 m0 d0, .slice b1 m1 d1] 30)
      have hb6 := (Below.refl w4.heap.size w4).alloc (Nat.le_refl _) (.cells #[.slice b0 m0 d0, .slice b1 m1 d1] 30)
      have hst4 := (HST3.out.call hb4).alloc #[.slice b0 m0 d0, .slice b1 m1 d1] 30
      have HSM := Lib.hid (sameDfa_any (rows := rows) (tags := tags) _ (S0.out.call hb5 (fun _ _ h => h)) (S1.out.call hb5 (fun _ _ h => h)) (t0.call hb6 (fun _ _ h => h)) (t1.call hb6 (fun _ _ h => h)))
      have q0 := (hst4.nth 1 rfl).celAt (i := 0) (v := .slice a0 n0 c0) rfl
      have q1 := (hst4.nth 1 rfl).celAt (i := 1) (v := .slice a1 n1 c1) rfl
      have HST4 := Lib.hid hst4
      clear hb4 hb4' hb5 hb6 hst4 HST3 p0 p1 p2 p3 p4 p5 t0 t1
      go_wp2_with (fail)
      go_at_call 11
      refine (HSM.out).mono ?_
      rintro e w5 ⟨rfl, hb5⟩
      have HST5 := Lib.hid (HST4.out.call hb5)
      clear hb5 HST4 q0 q1
      go_wp2
      go_ret
      exact ⟨rfl, HST5.out.bel⟩
  · have hEb : (E == 0) = false := by rw [beq_eq_false_iff_ne]; exact hE0
    have hEb2 : (E != 0) = true := by rw [bne_iff_ne]; exact hE0
    have hEe : (E == E) = true := beq_self_eq_true _
    have HMK := Lib.hid (fun (W : World) (hW : Below w.heap.size w W) => dmMake_bad P vc vr vi vo vl ve W F (fun b hb => Nat.lt_of_lt_of_le (hF b hb) hW.size) (hin.mono hF hW) E hE hEb)
    clear hE hin hF
    have HST := Lib.hid hst
    clear hst hE0
    go_enter Try.func3, Try.ntmps3
    go_wp2_with (fail)
    go_at_call 9
    refine (HMK.out _ HST.out.bel).mono ?_
    rintro e w1 ⟨rfl, hb1⟩
    have hst2 := (HST.out.call hb1).alloc #[.slice none 0 0, .slice none 0 0] 30
    have p0 := (hst2.nth 1 rfl).celAt (i := 0) (v := vc) rfl
    have p1 := (hst2.nth 1 rfl).celAt (i := 1) (v := vr) rfl
    have p2 := (hst2.nth 1 rfl).celAt (i := 2) (v := vi) rfl
    have p3 := (hst2.nth 1 rfl).celAt (i := 3) (v := vo) rfl
    have p4 := (hst2.nth 1 rfl).celAt (i := 4) (v := vl) rfl
    have p5 := (hst2.nth 1 rfl).celAt (i := 5) (v := ve) rfl
    have HST2 := Lib.hid hst2
    clear hb1 HST hst2
    go_wp2_with (fail)
    go_at_call 10
    refine (HRP.out _ HST2.out.bel).mono ?_
    rintro e w3 ⟨rfl, hb3⟩
    have hst4 := HST2.out.call hb3
    have q0 := (hst4.nth 0 rfl).celAt (i := 0) (v := .slice none 0 0) rfl
    have q1 := (hst4.nth 0 rfl).celAt (i := 1) (v := .slice none 0 0) rfl
    have HST4 := Lib.hid hst4
    clear hb3 hst4 HST2 p0 p1 p2 p3 p4 p5
    go_wp2_with (fail)
    go_at_call 11
    refine (sameDfa_any (rows := []) (tags := []) _ (Sl.nil _ _ _) (Sl.nil _ _ _) (Sl.nil _ _ _) (Sl.nil _ _ _)).mono ?_
    rintro e w5 ⟨rfl, hb5⟩
    have HST5 := Lib.hid (HST4.out.call hb5)
    clear hb5 HST4 q0 q1
    go_wp2
    go_ret
    exact ⟨rfl, HST5.out.bel⟩

theorem dfaMakes_law (c0 : Array Value) (g : List (List Int) × List Int × List Int × List (List Int) × List Bool × List Bool) (w : World) (h0 : Enc.posn.R (fun b => b < w.heap.size) w c0.toList g) :
    Calls Try.prog 3 #[.agg c0] w fun e w' => e = .returned (.bool true) ∧ Below w.heap.size w w' := by
  obtain ⟨vc, vr, vi, vo, vl, ve, rfl, h1, h2, h3, h4, h5, h6⟩ := posn_cells h0
  exact dfaMakes_walk ⟨g.1, g.2.1, g.2.2.1, g.2.2.2.1, g.2.2.2.2.1, g.2.2.2.2.2⟩ vc vr vi vo vl ve w _ (fun _ h => h) ⟨h1, h2, h3, h4, h5, h6⟩
end Go.Proofs.Ytlgabpcddldelaa
