/-
  RightStacker of the reference: what it computes.
-/
import Derived.Test.YtldapomcjfkeeaaBdSame
import Derived.Deep.DeepCutAuto
namespace Go.Proofs.Ytldapomcjfkeeaa
set_option linter.unusedVariables false
open Go.ChangeShapes Go.WideShapes Go.ChangeAt Go.RowKit

namespace Bd
/-- All but the states' own bounds. -/
def pre (st : List Int) (seen : Int) (over : Bool) : Bool := decide (st.length ≤ 60) && decide (0 ≤ seen) && decide (seen ≤ 1099511627776) && (decide (0 < st.length) || over)
theorem fits_pre {m : Nat} {st : List Int} {seen : Int} {over : Bool} : fits m st seen over = (pre st seen over && !(st.any (out m))) := by
  rw [Bool.eq_iff_iff, fits_iff]
  simp only [pre, Bool.and_eq_true, decide_eq_true_eq, Bool.or_eq_true, Bool.not_eq_true', and_assoc]
theorem pre_no {st : List Int} {seen : Int} {over : Bool} (h : ¬ (st.length ≤ 60 ∧ 0 ≤ seen ∧ seen ≤ 1099511627776 ∧ (0 < st.length ∨ over = true))) : pre st seen over = false := by
  cases hp : pre st seen over
  · rfl
  · refine absurd ?_ h
    simpa only [pre, Bool.and_eq_true, decide_eq_true_eq, Bool.or_eq_true, and_assoc] using hp
theorem pre_yes {st : List Int} {seen : Int} {over : Bool} (h : st.length ≤ 60 ∧ 0 ≤ seen ∧ seen ≤ 1099511627776 ∧ (0 < st.length ∨ over = true)) : pre st seen over = true := by
  simpa only [pre, Bool.and_eq_true, decide_eq_true_eq, Bool.or_eq_true, and_assoc] using h
theorem right_val {m : Nat} {st : List Int} {seen : Int} {over : Bool} : right 0 m st seen over = if fits m st seen over = true then 0 else 1 := by
  by_cases h : fits m st seen over = true
  · rw [right_ok h, if_pos h]
  · rw [right_bad h, if_neg h]
theorem take_any {m : Nat} {st : List Int} {k : Nat} (h : k < st.length) : (st.take (k + 1)).any (out m) = ((st.take k).any (out m) || out m (st.getD k 0)) := by
  rw [List.take_succ_eq_append_getElem h, List.any_append]
  simp [List.getD, h]
theorem any_of_take {m : Nat} {st : List Int} {k : Nat} (h : (st.take k).any (out m) = true) : st.any (out m) = true := by
  rw [List.any_eq_true] at h ⊢
  obtain ⟨x, hx, h2⟩ := h
  exact ⟨x, List.mem_of_mem_take hx, h2⟩
end Bd
attribute [irreducible] Bd.pre

set_option maxRecDepth 100000 in
set_option maxHeartbeats 8000000 in
theorem bdRight_any (t n seen ov : Int) (dn : Bool) (vp va vg vs : Value) (l : List (Int × List (Int × Int))) (acts : List (List (Int × Int))) (gts : List (List Int)) (st : List Int) (w : World) (F : Nat → Prop) (hF : ∀ b, F b → b < w.heap.size) (h : Enc.prods.R F w [vp] l)
    (ha : ((Enc.two.sl 16).sl 24).R F w [va] acts) (hg : (((Enc.int .i64).sl 8).sl 24).R F w [vg] gts) (hs : ((Enc.int .i64).sl 8).R F w [vs] st) :
    Calls Try.prog 56 #[.agg #[.int .i64 t, .int .i64 n, vp], .agg #[va, vg], .agg #[vs, .int .i64 seen, .int .i64 ov, .bool dn]] w fun e w' => e = .returned (.int .i64 (Bd.right (Tb.all t n l acts gts) acts.length st seen (decide (ov ≠ 0) || dn))) ∧ Below w.heap.size w w' := by
  have HC := fun W' (hW : Below w.heap.size w W') => rtable_any t n vp va vg l acts gts W' F (fun b hb => Nat.lt_of_lt_of_le (hF b hb) hW.size) (Enc.mono _ h (fun _ h => h) (fun b hb => hW.block b (hF b hb))) (Enc.mono _ ha (fun _ h => h) (fun b hb => hW.block b (hF b hb))) (Enc.mono _ hg (fun _ h => h) (fun b hb => hW.block b (hF b hb)))
  obtain ⟨aoa, -, -, ca, rfl, -⟩ := slSl ha
  obtain ⟨aos, bs, os, cs, rfl, hsr, s3, s4⟩ := Enc.sl1 (En := Enc.int .i64) (Value.int .i64) (fun _ _ _ h => h.1) rfl 0 hs
  have S3 := Lib.hid s3; have S4 := Lib.hid s4
  have hst := ((((St.init w).alloc #[.int .i64 t, .int .i64 n, vp] 68).alloc #[.slice aoa acts.length ca, vg] 108).alloc #[.slice aos st.length cs, .int .i64 seen, .int .i64 ov, .bool dn] 110)
  simp only [World.size_alloc] at hst
  by_cases he : Tb.all t n l acts gts = 0
  · rw [he] at HC ⊢
    replace HC := Lib.hid HC
    clear h ha hg hs hF s3 s4 he
    have hov : (ov != 0) = decide (ov ≠ 0) := by
      by_cases hq : ov = 0
      · subst hq; rfl
      · rw [decide_eq_true hq, bne_iff_ne]; exact hq
    generalize hO : (decide (ov ≠ 0) || dn) = O
    generalize hB : Bd.pre st seen O = B
    have HFT : Hid (Bd.fits acts.length st seen O = (B && !(st.any (Bd.out acts.length)))) := Lib.hid (by rw [← hB]; exact Bd.fits_pre)
    have HB := Lib.hid hB
    have HO := Lib.hid hO
    clear hB hO
    go_enter Try.func56, Try.ntmps56
    go_wp2_with (fail)
    go_at_call 120
    refine (HC.out _ hst.bel).mono ?_
    rintro e w1 ⟨rfl, hb1⟩
    replace hst := hst.call hb1
    clear hb1
    obtain ⟨t0, t1⟩ := hst.at2 1 rfl
    obtain ⟨s0, s1, s2, s3⟩ := hst.at4 0 rfl
    go_upto_region 4 with (fail)
    go_cut [8] (fun o wx => o = .bool B ∧ wx = w1)
    case first =>
      have HPN : Hid (¬ (st.length ≤ 60 ∧ 0 ≤ seen ∧ seen ≤ 1099511627776 ∧ (0 < st.length ∨ O = true)) → B = false) := Lib.hid (fun g => by rw [← HB.out]; exact Bd.pre_no g)
      have HPY : Hid ((st.length ≤ 60 ∧ 0 ≤ seen ∧ seen ≤ 1099511627776 ∧ (0 < st.length ∨ O = true)) → B = true) := Lib.hid (fun g => by rw [← HB.out]; exact Bd.pre_yes g)
      rcases (by omega : 60 < st.length ∨ (st.length ≤ 60 ∧ seen < 0) ∨ (st.length ≤ 60 ∧ 0 ≤ seen ∧ 1099511627776 < seen) ∨ (st.length ≤ 60 ∧ 0 ≤ seen ∧ seen ≤ 1099511627776)) with h | ⟨h1, h⟩ | ⟨h1, h2, h⟩ | ⟨h1, h2, h3⟩
      · have HE : Hid (B = false) := Lib.hid (HPN.out (by omega))
        go_wp2_with (fail)
        go_meet
        exact ⟨by rw [HE.out], rfl⟩
      · have HE : Hid (B = false) := Lib.hid (HPN.out (by omega))
        go_wp2_with (fail)
        go_meet
        exact ⟨by rw [HE.out], rfl⟩
      · have HE : Hid (B = false) := Lib.hid (HPN.out (by omega))
        go_wp2_with (fail)
        go_meet
        exact ⟨by rw [HE.out], rfl⟩
      · by_cases hz : 0 < st.length
        · have HE : Hid (B = true) := Lib.hid (HPY.out ⟨h1, h2, h3, .inl hz⟩)
          go_wp2_with (fail)
          go_meet
          exact ⟨by rw [HE.out], rfl⟩
        have hzb : decide (0 < st.length) = false := decide_eq_false hz
        by_cases ho : ov = 0
        · subst ho
          cases dn
          · have hof : O = false := by rw [← HO.out]; simp
            have HE : Hid (B = false) := Lib.hid (HPN.out (fun g => g.2.2.2.elim hz (fun q => by rw [hof] at q; cases q)))
            clear hof
            clear hz
            go_wp2_with (fail)
            go_meet
            exact ⟨by rw [HE.out], rfl⟩
          · have HE : Hid (B = true) := Lib.hid (HPY.out ⟨h1, h2, h3, .inr (by rw [← HO.out]; simp)⟩)
            clear hz
            go_wp2_with (fail)
            go_meet
            exact ⟨by rw [HE.out], rfl⟩
        · have HE : Hid (B = true) := Lib.hid (HPY.out ⟨h1, h2, h3, .inr (by rw [← HO.out]; simp [ho])⟩)
          have hob : (ov != 0) = true := by rw [bne_iff_ne]; exact ho
          clear hz ho hov
          go_wp2_with (fail)
          go_meet
          exact ⟨by rw [HE.out], rfl⟩
    case rest =>
      obtain ⟨rfl, hwc⟩ := hcut
      have hwc := hwc.symm
      subst hwc
      have HST := Lib.hid hst
      clear hst t0 t1 s0 s1 s2 s3 hov
      go_wp2
      go_loopw [8, 9] (fun o i wr => ∃ (k : Nat) (b : Bool), k ≤ st.length ∧ i = .int .i64 k ∧ o = .bool b ∧ Below w1.heap.size w1 wr ∧ Hid (b = (B && !((st.take k).any (Bd.out acts.length))))) (fun _ i _ => st.length - (intOf i).toNat)
      case atStart => exact ⟨0, B, by omega, rfl, rfl, Below.refl _ _, Lib.hid (by simp)⟩
      case round =>
        obtain ⟨k, b, hk, rfl, rfl, hB, hb⟩ := hrel
        have hst := HST.out.call hB
        obtain ⟨t0, t1⟩ := hst.at2 1 rfl
        obtain ⟨s0, s1, s2, s3⟩ := hst.at4 0 rfl
        by_cases hlt : k < st.length
        · cases b
          · have HE : Hid (Bd.fits acts.length st seen O = false) := Lib.hid (by
              rw [HFT.out]
              have := hb.out
              cases hB' : B
              · rfl
              · rw [hB'] at this
                simp only [Bool.true_and, Bool.false_eq, Bool.not_eq_false'] at this
                rw [Bd.any_of_take this]; rfl)
            go_wp2
            go_ret
            exact ⟨by rw [Bd.right_val, HE.out]; rfl, hst.bel⟩
          · obtain ⟨rfl, hbs, -⟩ := S3.out (by omega)
            have z1 := bkeep hst.bel (S4.out k hlt).1
            have HT := Lib.hid (Bd.take_any (m := acts.length) hlt)
            have hw := wf64 (S4.out k hlt).2.2
            generalize st.getD k 0 = x at *
            have HN : Hid (∀ c, Bd.out acts.length x = c → (!c) = (B && !((st.take (k + 1)).any (Bd.out acts.length)))) := Lib.hid (fun c hc => by
              rw [HT.out, hc]
              have := hb.out
              revert this
              cases B <;> cases (st.take k).any (Bd.out acts.length) <;> simp)
            by_cases x0 : x < 0
            · have HC2 := Lib.hid (HN.out _ (Bd.out_yes (.inl x0)))
              have hxd : decide (0 ≤ x) = false := decide_eq_false (by omega)
              go_wp2
              go_quiet (fail)
              go_wp2
              go_roundw
              case rel => exact ⟨k + 1, false, by omega, by go_num, rfl, below_drewN hB _, HC2⟩
              case measure => simp [intOf]; omega
            have x0' : 0 ≤ x := by omega
            by_cases x1 : x < acts.length
            · have HC2 := Lib.hid (HN.out _ (Bd.out_no ⟨x0', x1⟩))
              clear x0
              go_wp2
              go_quiet (fail)
              go_wp2
              go_roundw
              case rel => exact ⟨k + 1, true, by omega, by go_num, rfl, below_drewN hB _, HC2⟩
              case measure => simp [intOf]; omega
            · have HC2 := Lib.hid (HN.out _ (Bd.out_yes (.inr (by omega))))
              have x1' : (acts.length : Int) ≤ x := by omega
              clear x0 x1
              go_wp2
              go_quiet (fail)
              go_wp2
              go_roundw
              case rel => exact ⟨k + 1, false, by omega, by go_num, by rw [decide_eq_false (by omega)], below_drewN hB _, HC2⟩
              case measure => simp [intOf]; omega
        · obtain rfl : k = st.length := by omega
          have HE : Hid (Bd.fits acts.length st seen O = b) := Lib.hid (by rw [HFT.out, hb.out, List.take_length])
          cases b
          · go_wp2
            go_ret
            exact ⟨by rw [Bd.right_val, HE.out]; rfl, hst.bel⟩
          · go_wp2
            go_ret
            exact ⟨by rw [Bd.right_val, HE.out]; rfl, hst.bel⟩
  · rw [Bd.right_te he]
    have hneb : (Tb.all t n l acts gts != 0) = true := by rw [bne_iff_ne]; exact he
    generalize Tb.all t n l acts gts = E at *
    replace HC := Lib.hid HC
    clear h ha hg hs hF s3 s4 he
    go_enter Try.func56, Try.ntmps56
    go_wp2_with (fail)
    go_at_call 120
    refine (HC.out _ hst.bel).mono ?_
    rintro e w1 ⟨rfl, hb1⟩
    replace hst := hst.call hb1
    clear hb1
    go_wp2
    go_ret
    exact ⟨rfl, hst.bel⟩
end Go.Proofs.Ytldapomcjfkeeaa
