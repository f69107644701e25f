/-
  RightMade of the reference: what it computes.
-/
import Derived.Test.YtanoagnfgncnkaaSpecRt
namespace Go.Proofs.Ytanoagnfgncnkaa
set_option linter.unusedVariables false
open Go.ChangeShapes Go.WideShapes Go.ChangeAt Go.RowKit

set_option maxRecDepth 100000 in
set_option maxHeartbeats 8000000 in
theorem rmade_any (A : Array Value) (m : Mk.Md) (v0 : Value) (Pc : Array Value) (vn vt vp vr va vg : Value) (w : World) (F : Nat → Prop) (hF : ∀ b, F b → b < w.heap.size) (h : MadeAt F w A m v0 Pc vn vt vp vr va vg) :
    Calls Try.prog 13 #[.agg A] w fun e w' => e = .returned (.int .i64 (Mk.err m)) ∧ Below w.heap.size w w' := by
  have hB : Below w.heap.size w (w.alloc (.cells A 34)) := (Below.refl _ _).alloc (Nat.le_refl _) _
  have hbx : MadeBox (w.alloc (.cells A 34)) w.heap.size m v0 Pc vt vp vr va vg := h.box (heap_alloc_new _ _)
  have hpz : (Try.prog.info? 26).map (fun x => x.size) = some Pc.toList.length := by rw [Array.length_toList, h.psize]; kernel_rfl
  have HC1 : Hid (∀ W', Below w.heap.size w W' → Calls Try.prog 62 #[.agg Pc] W' fun e w' => e = .returned (.int .i64 (Pkd.err m.2.1.1 m.2.1.2.1 m.2.1.2.2)) ∧ Below W'.heap.size W' w') := Lib.hid (fun W' hW => rpacked_any _ _ _ _ _ _ _ (h.packed.below hW))
  have HC2 : Hid (∀ W', Below w.heap.size w W' → Calls Try.prog 17 #[.agg #[.int .i64 m.2.2.1.1, .int .i64 m.2.2.1.2.1, vp]] W' fun e w' => e = .returned (.int .i64 (Gr.err m.2.2.1.1 m.2.2.1.2.1 m.2.2.1.2.2)) ∧ Below W'.heap.size W' w') :=
    Lib.hid (fun W' hW => rcfg_any _ _ _ _ _ F (fun b hb => Nat.lt_of_lt_of_le (hF b hb) hW.size) (Enc.mono _ h.prods (fun _ h => h) (fun b hb => hW.block b (hF b hb))))
  have HC3 : Hid (∀ W', Below w.heap.size w W' → Calls Try.prog 16 #[.agg #[.int .i64 m.2.2.1.1, .int .i64 m.2.2.1.2.1, vp], vr] W' fun e w' => e = .returned (.int .i64 (Rw.all m.2.2.1.1 m.2.2.1.2.1 m.2.2.1.2.2 m.2.2.2.2.1)) ∧ Below W'.heap.size W' w') :=
    Lib.hid (fun W' hW => rrows_any _ _ _ _ _ _ _ F (fun b hb => Nat.lt_of_lt_of_le (hF b hb) hW.size) (Enc.mono _ h.prods (fun _ h => h) (fun b hb => hW.block b (hF b hb))) (Enc.mono _ h.rows (fun _ h => h) (fun b hb => hW.block b (hF b hb))))
  have HC4 : Hid (∀ W', Below w.heap.size w W' → Calls Try.prog 63 #[.agg #[.int .i64 m.2.2.1.1, .int .i64 m.2.2.1.2.1, vp], .agg #[va, vg]] W' fun e w' => e = .returned (.int .i64 (Tb.all m.2.2.1.1 m.2.2.1.2.1 m.2.2.1.2.2 m.2.2.2.2.2.1 m.2.2.2.2.2.2)) ∧ Below W'.heap.size W' w') :=
    Lib.hid (fun W' hW => rtable_any _ _ _ _ _ _ _ _ _ F (fun b hb => Nat.lt_of_lt_of_le (hF b hb) hW.size) (Enc.mono _ h.prods (fun _ h => h) (fun b hb => hW.block b (hF b hb))) (Enc.mono _ h.acts (fun _ h => h) (fun b hb => hW.block b (hF b hb))) (Enc.mono _ h.gts (fun _ h => h) (fun b hb => hW.block b (hF b hb))))
  have ho := h.ofs; have htg := h.tags
  obtain ⟨of, ⟨pof, pnext, ptags⟩, ⟨t, n, l⟩, mode, rows, acts, gts⟩ := m
  have HPZ := Lib.hid hpz
  clear h hF hpz
  simp only at HC1 HC2 HC3 HC4 ho htg
  obtain ⟨ao, bo, oo, co, rfl, _, o3, o4⟩ := Enc.sl1 (En := Enc.int .i64) (Value.int .i64) (fun _ _ _ h => h.1) rfl 0 ho
  obtain ⟨ag, bg, og, cg, rfl, _, g3, g4⟩ := Enc.sl1 (En := Enc.int .i64) (Value.int .i64) (fun _ _ _ h => h.1) rfl 0 htg
  have O3 := Lib.hid o3; have O4 := Lib.hid o4; have G3 := Lib.hid g3; have G4 := Lib.hid g4
  clear ho htg o3 o4 g3 g4
  have HM : Hid (∀ q, q = Mk.err (of, (pof, pnext, ptags), (t, n, l), mode, rows, acts, gts) → q = Mk.err (of, (pof, pnext, ptags), (t, n, l), mode, rows, acts, gts)) := Lib.hid (fun _ h => h)
  generalize hr : Mk.err (of, (pof, pnext, ptags), (t, n, l), mode, rows, acts, gts) = R
  have HR := Lib.hid hr; clear hr HM
  rw [Mk.err] at HR
  simp only at HR
  generalize Pkd.err pof pnext ptags = E1 at HC1 HR
  generalize Gr.err t n l = E2 at HC2 HR
  generalize Rw.all t n l rows = E3 at HC3 HR
  generalize Tb.all t n l acts gts = E4 at HC4 HR
  have HBX := Lib.hid hbx
  have hpk := hbx.pk
  clear hbx
  have HB := Lib.hid hB
  go_enter Try.func13, Try.ntmps13
  go_wp2_with (refine wpList_load_mid rfl 26 (.tmp 6) rfl w.heap.size 1 rfl Pc.toList _ hpk Try.underlying26 rfl HPZ.out ?_)
  clear hpk
  go_at_call 62; refine (HC1.out _ hB).mono ?_; rintro e w1 ⟨rfl, hb1⟩
  have hB1 := hB.trans (hb1.mono hB.size)
  have hbx1 := HBX.out.below hb1 (by simp)
  by_cases e1 : E1 ≠ 0
  · have e1b : (E1 != 0) = true := by rw [bne_iff_ne]; exact e1
    have HE : Hid (E1 = R) := Lib.hid (by rw [← HR.out, if_pos e1])
    clear e1
    go_wp2_with (fail)
    go_ret
    exact ⟨by rw [← HE.out]; rfl, hB1⟩
  have e1' : E1 = 0 := Decidable.not_not.1 e1
  replace HR : Hid _ := Lib.hid (by have := HR.out; rw [if_neg e1] at this; exact this)
  subst e1'
  clear e1 hB hb1
  obtain ⟨hl, c0, cp, c258, c259, c260, c261, c262, c263, c264, c265⟩ := id hbx1
  have HBX1 := Lib.hid hbx1; clear hbx1
  simp only at c259 c260 c262
  clear cp
  go_wp2_with (fail)
  go_at_call 17; refine (HC2.out _ hB1).mono ?_; rintro e w2 ⟨rfl, hb2⟩
  have hB2 := hB1.trans (hb2.mono hB1.size)
  have hbx2 := HBX1.out.below hb2 hl
  clear hl c0 c258 c259 c260 c261 c262 c263 c264 c265 hb2
  obtain ⟨hl, c0, cp, c258, c259, c260, c261, c262, c263, c264, c265⟩ := id hbx2
  have HBX2 := Lib.hid hbx2; clear hbx2
  simp only at c259 c260 c262
  clear cp
  by_cases e2 : E2 ≠ 0 ∨ of.length = 0 ∨ 20 < of.length
  · have HE : Hid (1 = R) := Lib.hid (by rw [← HR.out, if_pos e2])
    by_cases e3 : E2 ≠ 0
    · have e3b : (E2 != 0) = true := by rw [bne_iff_ne]; exact e3
      clear e2 e3
      go_wp2
      go_ret
      exact ⟨by rw [← HE.out]; rfl, hB2⟩
    have e3b : (E2 != 0) = false := by rw [bne_eq_false_iff_eq]; omega
    by_cases e4 : of.length = 0
    · have e4b : (of.length : Int) < 1 := by omega
      clear e2 e3 e4
      go_wp2
      go_ret
      exact ⟨by rw [← HE.out]; rfl, hB2⟩
    have e5 : 20 < of.length := by omega
    have e4b : 1 ≤ of.length := by omega
    clear e2 e3 e4
    go_wp2
    go_ret
    exact ⟨by rw [← HE.out]; rfl, hB2⟩
  replace HR : Hid _ := Lib.hid (by have := HR.out; rw [if_neg e2] at this; exact this)
  have e3b : (E2 != 0) = false := by rw [bne_eq_false_iff_eq]; omega
  have e4b : 1 ≤ of.length := by omega
  have e5 : of.length ≤ 20 := by omega
  clear e2
  go_wp2
  have HB2 := Lib.hid hB2
  clear hl c0 c258 c259 c260 c261 c262 c263 c264 c265
  go_loopw [4] (fun i wr => ∃ k : Nat, k ≤ of.length ∧ i = .int .i64 k ∧ Below w2.heap.size w2 wr ∧ Hid (∀ j, j < k → -1 ≤ of.getD j 0 ∧ of.getD j 0 < t)) (fun i _ => of.length - (intOf i).toNat)
  case atStart => exact ⟨0, by omega, rfl, Below.refl _ _, Lib.hid (fun j hj => absurd hj (by omega))⟩
  case round =>
    obtain ⟨k, hk, rfl, hW, hok⟩ := hrel
    obtain ⟨hl, c0, cp, c258, c259, c260, c261, c262, c263, c264, c265⟩ := HBX2.out.below hW HBX2.out.lt
    simp only at c259 c260 c262
    clear cp
    have hBw := HB2.out.trans (hW.mono HB2.out.size)
    by_cases hlt : k < of.length
    · obtain ⟨rfl, hbo, _⟩ := O3.out (by omega)
      have hx1 := bkeep hBw (O4.out k hlt).1
      have hxw := wf64 (O4.out k hlt).2.2
      have HBAD : Hid (¬ (-1 ≤ of.getD k 0 ∧ of.getD k 0 < t) → 1 = R) := Lib.hid (fun g => by
        rw [← HR.out, if_pos (.inl (fun q => g (q k hlt)))])
      have HOK : Hid ((-1 ≤ of.getD k 0 ∧ of.getD k 0 < t) → ∀ j, j < k + 1 → -1 ≤ of.getD j 0 ∧ of.getD j 0 < t) := Lib.hid (fun h j hj => by
        rcases Nat.lt_succ_iff_lt_or_eq.1 hj with hj | rfl
        · exact hok.out j hj
        · exact h)
      generalize of.getD k 0 = y at hx1 hxw HBAD HOK
      by_cases y1 : y < -1
      · have HE := Lib.hid (HBAD.out (by omega))
        go_wp2
        go_quiet (fail)
        go_wp2
        go_ret
        exact ⟨by rw [← HE.out]; rfl, below_drewN hBw _⟩
      by_cases y2 : t ≤ y
      · have HE := Lib.hid (HBAD.out (by omega))
        go_wp2
        go_quiet (fail)
        go_wp2
        go_ret
        exact ⟨by rw [← HE.out]; rfl, below_drewN hBw _⟩
      have HX := Lib.hid (HOK.out (by omega))
      go_wp2
      go_quiet (fail)
      go_wp2
      go_roundw
      case rel => exact ⟨k + 1, by omega, by go_num, below_drewN hW _, HX⟩
      case measure => simp [intOf]; omega
    obtain rfl : k = of.length := by omega
    have HOF : Hid (Mk.ofGood t of) := Lib.hid hok.out
    go_wp2
    go_loopw [5] (fun i wr => ∃ k : Nat, k ≤ ptags.length ∧ i = .int .i64 k ∧ Below w2.heap.size w2 wr ∧ Hid (∀ j, j < k → ptags.getD j 0 < of.length)) (fun i _ => ptags.length - (intOf i).toNat)
    case atStart => exact ⟨0, by omega, rfl, hW, Lib.hid (fun j hj => absurd hj (by omega))⟩
    case round =>
      clear hW hl c0 c258 c259 c260 c261 c262 c263 c264 c265 hBw
      obtain ⟨k, hk, rfl, hW, hok⟩ := hrel
      obtain ⟨hl, c0, cp, c258, c259, c260, c261, c262, c263, c264, c265⟩ := HBX2.out.below hW HBX2.out.lt
      simp only at c259 c260 c262
      clear cp
      have hBw := HB2.out.trans (hW.mono HB2.out.size)
      by_cases hlt : k < ptags.length
      · obtain ⟨rfl, hbo, _⟩ := G3.out (by omega)
        have hx1 := bkeep hBw (G4.out k hlt).1
        have hxw := wf64 (G4.out k hlt).2.2
        have HBAD : Hid (¬ (ptags.getD k 0 < of.length) → 1 = R) := Lib.hid (fun g => by
          rw [← HR.out, if_pos (.inr (fun q => g (q k hlt)))])
        have HOK : Hid ((ptags.getD k 0 < of.length) → ∀ j, j < k + 1 → ptags.getD j 0 < of.length) := Lib.hid (fun h j hj => by
          rcases Nat.lt_succ_iff_lt_or_eq.1 hj with hj | rfl
          · exact hok.out j hj
          · exact h)
        generalize ptags.getD k 0 = y at hx1 hxw HBAD HOK
        by_cases y1 : (of.length : Int) ≤ y
        · have HE := Lib.hid (HBAD.out (by omega))
          go_wp2
          go_quiet (fail)
          go_wp2
          go_ret
          exact ⟨by rw [← HE.out]; rfl, below_drewN hBw _⟩
        have HX := Lib.hid (HOK.out (by omega))
        go_wp2
        go_quiet (fail)
        go_wp2
        go_roundw
        case rel => exact ⟨k + 1, by omega, by go_num, below_drewN hW _, HX⟩
        case measure => simp [intOf]; omega
      obtain rfl : k = ptags.length := by omega
      replace HR : Hid _ := Lib.hid (by
        have h1 := HR.out
        have h2 : Mk.tagsGood of.length ptags := hok.out
        rw [if_neg (fun q => q.elim (fun q => q HOF.out) (fun q => q h2))] at h1
        exact h1)
      by_cases m1 : mode = 1
      · have HE : Hid (E3 = R) := Lib.hid (by rw [← HR.out, if_pos m1])
        have m1b : (mode == 1) = true := by rw [beq_iff_eq]; exact m1
        clear m1
        go_wp2_with (fail)
        go_at_call 16; refine (HC3.out _ hBw).mono ?_; rintro e w3 ⟨rfl, hb3⟩
        go_wp2
        go_ret
        exact ⟨by rw [← HE.out]; rfl, hBw.trans (hb3.mono hBw.size)⟩
      have m1b : (mode == 1) = false := by rw [beq_eq_false_iff_ne]; exact m1
      by_cases m2 : mode = 2
      · have HE : Hid (E4 = R) := Lib.hid (by rw [← HR.out, if_neg m1, if_pos m2])
        have m2b : (mode == 2) = true := by rw [beq_iff_eq]; exact m2
        clear m1 m2
        go_wp2_with (fail)
        go_at_call 63; refine (HC4.out _ hBw).mono ?_; rintro e w3 ⟨rfl, hb3⟩
        go_wp2
        go_ret
        exact ⟨by rw [← HE.out]; rfl, hBw.trans (hb3.mono hBw.size)⟩
      have HE : Hid (1 = R) := Lib.hid (by rw [← HR.out, if_neg m1, if_neg m2])
      have m2b : (mode == 2) = false := by rw [beq_eq_false_iff_ne]; exact m2
      clear m1 m2
      go_wp2
      go_ret
      exact ⟨by rw [← HE.out]; rfl, hBw⟩
end Go.Proofs.Ytanoagnfgncnkaa
