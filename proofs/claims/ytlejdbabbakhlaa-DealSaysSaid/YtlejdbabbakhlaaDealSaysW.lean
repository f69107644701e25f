/-
  The walk of the law DealSays.
-/
import Derived.Test.YtlejdbabbakhlaaDealtOk
import Derived.Test.YtlejdbabbakhlaaEqShare
namespace Go.Proofs.Ytlejdbabbakhlaa
open Go.ChangeShapes Go.WideShapes Go.ChangeAt Go.RowKit

theorem sharePairs {w : World} {B : Nat} {e : TypeId} {v : Value} {l : List (Int × Int)} (h : Own w B e 2 v (l.map shareV)) : Sl w 2 RPair v l := by
  let En : Enc (Int × Int) := ⟨2, fun _ _ cs p => cs = [.int .i64 p.1, .int .i64 p.2], fun h => by rw [h]; rfl, fun h _ _ => h⟩
  exact Enc.toSl (Own.enc (En := En) (bytes := 0) (F := fun _ => True) h rfl (fun a _ => rfl) (fun _ _ => trivial) (by simp))

theorem Trn.len_of {n : Nat} {sl : Int} {s e : Trn.St} (h : Trn.Ends sl s e) (hg : Trn.Good n sl s) (hn : n ≤ 100) (hs : 1 ≤ sl) : Trn.Good n sl e := by
  obtain ⟨k, rfl, _, hl⟩ := h
  have : ∀ j, j ≤ k → Trn.Good n sl (Trn.run sl s j) := by
    intro j
    induction j with
    | zero => intro _; rw [Trn.run_zero]; exact hg
    | succ j ih =>
      intro hj
      have h1 := ih (by omega)
      have h2 := hl j (by omega)
      unfold Trn.Stops at h2
      rcases Trn.who_in hn h1 with hw | ⟨k0, hk0, hw, hx⟩
      · rw [hw] at h2; omega
      · rw [Trn.run_succ]; exact Trn.next_good hn h1 hs (by omega) k0 hk0 hw hx
  exact this k (Nat.le_refl _)

set_option maxRecDepth 100000 in
set_option maxHeartbeats 8000000 in
theorem dealSays_walk (last sl bud : Int) (hl0 : -9223372036854775808 ≤ last) (hl1 : last ≤ 9223372036854775807) (hs1 : -9223372036854775808 ≤ sl) (hs2 : sl ≤ 9223372036854775807) (hb1 : -9223372036854775808 ≤ bud) (hb2 : bud ≤ 9223372036854775807) (bs : List Bool) (l : List Int) (v1 v2 : Value) (w : World)
    (h1 : (Enc.bool.sl 1).R (fun b => b < w.heap.size) w [v1] bs) (h2 : ((Enc.int .i64).sl 8).R (fun b => b < w.heap.size) w [v2] l) :
    Calls Try.prog 11 #[.int .i64 last, v1, v2, .int .i64 sl, .int .i64 bud] w fun e w' => e = .returned (.bool true) ∧ Below w.heap.size w w' := by
  have hbs : (bs.length : Int) ≤ 140737488355328 := by
    obtain ⟨_, _, _, _, _, _, _, h, _⟩ := h1
    simpa using h
  have H1 := Lib.hid (Enc.toSl h1); have H2 := Lib.hid (Enc.toSl h2); have H3 := Lib.hid h2
  obtain ⟨ao, b, off, cap, hv, hx⟩ := h2
  clear hx
  simp only [List.cons.injEq, and_true] at hv
  subst hv
  clear h1
  have hne : ((Trn.turn (Trn.start last bs.length) bs) != (Trn.turn (Trn.start last bs.length) bs)) = false := by simp
  by_cases hlg : (100 < (l.length : Int)) ∨ 10000 < bud
  · cases c1 : decide ((100 : Int) < l.length)
    · have c2 : decide (10000 < bud) = true := by
        rw [decide_eq_true_iff]; rw [decide_eq_false_iff_not] at c1; omega
      have HLG := Lib.hid hlg; clear hlg
      go_enter Try.func11, Try.ntmps11
      go_wp2_with (first
        | (go_at_call 42; refine (turn_any last hl0 hl1 bs hbs _ _ H1.out).mono ?_; rintro e w9 ⟨rfl, rfl⟩)
        | (go_at_call 43; refine (rturn_any last hl0 hl1 bs hbs _ _ H1.out).mono ?_; rintro e w9 ⟨rfl, rfl⟩)
        | (go_at_call 44; refine (deal_large last sl bud l _ _ H2.out HLG.out).mono ?_; rintro e w9 ⟨rfl, rfl⟩))
      go_ret
      exact ⟨rfl, Below.refl _ _⟩
    · have HLG := Lib.hid hlg; clear hlg
      go_enter Try.func11, Try.ntmps11
      go_wp2_with (first
        | (go_at_call 42; refine (turn_any last hl0 hl1 bs hbs _ _ H1.out).mono ?_; rintro e w9 ⟨rfl, rfl⟩)
        | (go_at_call 43; refine (rturn_any last hl0 hl1 bs hbs _ _ H1.out).mono ?_; rintro e w9 ⟨rfl, rfl⟩)
        | (go_at_call 44; refine (deal_large last sl bud l _ _ H2.out HLG.out).mono ?_; rintro e w9 ⟨rfl, rfl⟩))
      go_ret
      exact ⟨rfl, Below.refl _ _⟩
  · have hlen : (l.length : Int) ≤ 100 := by omega
    have hbu : bud ≤ 10000 := by omega
    have c1 : decide ((100 : Int) < l.length) = false := by rw [decide_eq_false_iff_not]; omega
    have c2 : decide (10000 < bud) = false := by rw [decide_eq_false_iff_not]; omega
    clear hlg
    by_cases hok : l.any Trn.bad = false ∧ 1 ≤ sl ∧ 0 ≤ bud
    · obtain ⟨ha, hsl, hbd⟩ := hok
      have c3 : decide (sl < 1) = false := by rw [decide_eq_false_iff_not]; omega
      have c4 : decide (bud < 0) = false := by rw [decide_eq_false_iff_not]; omega
      have hgood : Trn.Good l.length sl ⟨l, last, bud, []⟩ := ⟨rfl, fun x hx => Trn.bad_no ha x hx, hbd, by simpa using hbu, hl0, hl1⟩
      have HA := Lib.hid ha; have HG := Lib.hid hgood
      clear ha hgood
      go_enter Try.func11, Try.ntmps11
      go_wp2_with (first
        | (go_at_call 42; refine (turn_any last hl0 hl1 bs hbs _ _ H1.out).mono ?_; rintro e w9 ⟨rfl, rfl⟩)
        | (go_at_call 43; refine (rturn_any last hl0 hl1 bs hbs _ _ H1.out).mono ?_; rintro e w9 ⟨rfl, rfl⟩)
        | (go_at_call 44; refine (deal_ok last sl bud hl0 hl1 hsl hs2 hbd hbu l _ _ H2.out hlen HA.out).mono ?_; rintro e w2 ⟨vo, s1, he1, rfl, ho1, hb2⟩; have hst := (St.init w).pushOwn hb2 ho1; have HE1 := Lib.hid he1; clear he1 ho1 hb2)
        | (go_at_call 45; refine (contB_any l _ _ (H2.out.call hst.bel (fun _ _ h => h)) hlen).mono ?_; rintro e w9 ⟨rfl, rfl⟩; rw [HA.out])
        | (go_at_call 47; refine (dealt_ok last sl bud hl0 hl1 hsl hs2 hbd hbu l _ _ _ (Enc.mono _ H3.out (fun _ h => h) (fun b hb => hst.bel.block b hb)) hlen HA.out).mono ?_; rintro e w3 ⟨vq, s2, he2, rfl, ho2, hb3⟩; cases HE1.out.uniq he2; replace hst := hst.pushOwn hb3 ho2; clear he2 ho2 hb3)
        | (go_at_call 48; refine (eqShares _ (by have hq := Trn.len_of HE1.out HG.out (by omega) hsl; have q1 := hq.bud1; have q0 := hq.bud0; omega) (sharePairs hst.get2.own) (sharePairs hst.own)).mono ?_; rintro e w4 ⟨rfl, hb4⟩; replace hst := hst.call hb4; clear hb4))
      go_ret
      exact ⟨by simp, hst.bel⟩
    · have hor : l.any Trn.bad = true ∨ sl < 1 ∨ bud < 0 := by
        by_cases h1 : l.any Trn.bad = true
        · exact .inl h1
        · have := hok
          simp only [Bool.not_eq_true] at h1
          simp only [h1, true_and] at this
          omega
      clear hok
      have HO := Lib.hid hor; clear hor
      have key : l.any Trn.bad = true ∨ (l.any Trn.bad = false ∧ decide (sl < 1) = true) ∨ (l.any Trn.bad = false ∧ decide (sl < 1) = false ∧ decide (bud < 0) = true) := by
        have := HO.out
        cases h1 : l.any Trn.bad
        · right
          rw [h1] at this
          simp only [Bool.false_eq_true, false_or] at this
          by_cases h2 : sl < 1
          · exact .inl ⟨rfl, decide_eq_true h2⟩
          · exact .inr ⟨rfl, decide_eq_false h2, decide_eq_true (by omega)⟩
        · exact .inl rfl
      rcases key with ha | ⟨ha, c3⟩ | ⟨ha, c3, c4⟩
      all_goals
        have HA := Lib.hid ha
        clear ha
        go_enter Try.func11, Try.ntmps11
        go_wp2_with (first
          | (go_at_call 42; refine (turn_any last hl0 hl1 bs hbs _ _ H1.out).mono ?_; rintro e w9 ⟨rfl, rfl⟩)
          | (go_at_call 43; refine (rturn_any last hl0 hl1 bs hbs _ _ H1.out).mono ?_; rintro e w9 ⟨rfl, rfl⟩)
          | (go_at_call 44; refine (deal_arg last sl bud l _ _ H2.out hlen hbu HO.out).mono ?_; rintro e w9 ⟨rfl, rfl⟩)
          | (go_at_call 45; refine (contB_any l _ _ H2.out hlen).mono ?_; rintro e w9 ⟨rfl, rfl⟩; rw [HA.out]))
        go_ret
        exact ⟨rfl, Below.refl _ _⟩
end Go.Proofs.Ytlejdbabbakhlaa
