/-
  FactsSays' closure over symbols; SameFacts of alike facts.
-/
import Derived.Test.YtldapomcjfkeeaaFcEq
import Derived.Test.YtldapomcjfkeeaaGramChk
import Derived.Test.YtldapomcjfkeeaaFcRound
namespace Go.Proofs.Ytldapomcjfkeeaa
set_option linter.unusedVariables false
set_option linter.unusedSimpArgs false
open Go.ChangeShapes Go.WideShapes Go.ChangeAt Go.RowKit

set_option maxRecDepth 100000 in
theorem fsBad_any (t n : Int) (vp : Value) (G : Nat) (x : Int × Int) (w : World) (hG : GrBox w G t n vp) :
    Calls Try.prog 47 #[.agg #[.int .i64 x.1, .int .i64 x.2], .pointer (some ⟨G, 0, none⟩)] w fun e w' => e = .returned (.bool (!Gr.right t n x)) ∧ Below w.heap.size w w' := by
  obtain ⟨x1, x2⟩ := x
  have hlt := hG.lt
  obtain ⟨g0, g1, g2⟩ := hG
  go_enter Try.func47, Try.ntmps47
  go_wp2_with (go_at_call 48; refine (rightSym_any t n vp x1 x2 _).mono ?_; rintro e w1 ⟨rfl, hb1⟩)
  go_ret
  exact ⟨rfl, ((Below.refl _ _).alloc (Nat.le_refl _) _).trans (hb1.mono (by simp))⟩

set_option maxRecDepth 100000 in
theorem fsIndex_any (t n : Int) (vp : Value) (G : Nat) (l : List (Int × Int)) (v : Value) (w : World) (F : Nat → Prop) (h : (Enc.two.sl 16).R F w [v] l) (hG : GrBox w G t n vp) :
    Calls Try.prog 113 #[v, .func (.func 47) #[] #[.pointer (some ⟨G, 0, none⟩)]] w fun e w' => (∃ r : Int, e = .returned (.int .i64 r) ∧ decide (0 ≤ r) = l.any (fun x => !Gr.right t n x)) ∧ Below w.heap.size w w' := by
  obtain ⟨ao, b, off, cap, rfl, hl, n3, n4⟩ := slTwo h
  clear h
  have hl2 : (l.length : Int) ≤ 140737488355328 := by omega
  have N3 := Lib.hid n3; have N4 := Lib.hid n4; have HG := Lib.hid hG
  have hGl := hG.lt
  clear n3 n4 hl hG
  go_enter Try.func113, Try.ntmps113
  go_wp2
  go_loopw [5, 8] (fun _ i wr => ∃ k : Nat, k ≤ l.length ∧ i = .int .i64 k ∧ Below w.heap.size w wr ∧ Hid (∀ j, j < k → (!Gr.right t n (l.getD j (0, 0))) = false)) (fun _ i _ => l.length - (intOf i).toNat)
  case atStart => exact ⟨0, by omega, rfl, Below.refl _ _, Lib.hid (fun j hj => absurd hj (by omega))⟩
  case round =>
    obtain ⟨k, hk, rfl, hB, hq⟩ := hrel
    by_cases hlt : k < l.length
    · obtain ⟨rfl, _, _⟩ := N3.out (by omega)
      have hc1 := bkeep hB (N4.out k hlt).1
      have hc2 := bkeep hB (N4.out k hlt).2.1
      obtain ⟨x, hx⟩ : ∃ x, x = l.getD k (0, 0) := ⟨_, rfl⟩
      rw [← hx] at hc1 hc2
      have HXE := Lib.hid hx; clear hx
      have HGB := HG.out.below hB hGl
      have HGH := Lib.hid HGB; clear HGB
      cases hbk : Gr.right t n x
      · have HBK := Lib.hid hbk; clear hbk
        go_wp2_with (go_at_call 47; refine (fsBad_any t n vp G x _ HGH.out).mono ?_; rintro e w9 ⟨rfl, hb9⟩; rw [HBK.out])
        go_ret
        exact ⟨⟨k, rfl, by rw [any_some' (d := (0, 0)) hlt (by rw [← HXE.out, HBK.out]; rfl)]; simp⟩, hB.trans (hb9.mono hB.size)⟩
      · have HBK := Lib.hid hbk; clear hbk
        go_wp2_with (go_at_call 47; refine (fsBad_any t n vp G x _ HGH.out).mono ?_; rintro e w9 ⟨rfl, hb9⟩; rw [HBK.out])
        go_roundw
        case rel =>
          refine ⟨k + 1, by omega, by go_num, hB.trans (hb9.mono hB.size), Lib.hid (fun j hj => ?_)⟩
          rcases Nat.lt_succ_iff_lt_or_eq.1 hj with hj | rfl
          · exact hq.out j hj
          · rw [← HXE.out, HBK.out]; rfl
        case measure => simp [intOf]; omega
    · obtain rfl : k = l.length := by omega
      go_wp2
      go_ret
      exact ⟨⟨-1, rfl, by rw [any_none' (d := (0, 0)) hq.out]; rfl⟩, hB⟩

set_option maxRecDepth 100000 in
theorem fsIn_any (t n : Int) (vp : Value) (G : Nat) (l : List (Int × Int)) (v : Value) (w : World) (F : Nat → Prop) (h : (Enc.two.sl 16).R F w [v] l) (hG : GrBox w G t n vp) :
    Calls Try.prog 46 #[v, .func (.func 47) #[] #[.pointer (some ⟨G, 0, none⟩)]] w fun e w' => e = .returned (.bool (l.any (fun x => !Gr.right t n x))) ∧ Below w.heap.size w w' := by
  go_enter Try.func46, Try.ntmps46
  go_wp2_with (go_at_call 113; refine (fsIndex_any t n vp G l v _ F h hG).mono ?_; rintro e w9 ⟨⟨r, rfl, hr⟩, hb9⟩)
  go_ret
  exact ⟨by rw [← hr]; simp, hb9⟩

set_option maxRecDepth 100000 in
set_option maxHeartbeats 1600000 in
theorem sameFacts_any {vE vF vW vR vM uE uF uW uR uM : Value} {E R M : List Bool} {F W : List Nat} (w : World) (e1 : Row1 Value.bool false w vE E) (e2 : Row1 Value.bool false w uE E) (f1 : Row1 Fc.uV 0 w vF F) (f2 : Row1 Fc.uV 0 w uF F) (w1 : Row1 Fc.uV 0 w vW W) (w2 : Row1 Fc.uV 0 w uW W)
    (r1 : Row1 Value.bool false w vR R) (r2 : Row1 Value.bool false w uR R) (m1 : Row1 Value.bool false w vM M) (m2 : Row1 Value.bool false w uM M) :
    Calls Try.prog 44 #[.agg #[vE, vF, vW, vR, vM], .agg #[uE, uF, uW, uR, uM]] w fun e w' => e = .returned (.bool true) ∧ Below w.heap.size w w' := by
  have HE := Lib.hid fun W' (hb : Below w.heap.size w W') => eqBools W' (e1.below hb) (e2.below hb)
  have HF := Lib.hid fun W' (hb : Below w.heap.size w W') => eqU64 W' (f1.below hb) (f2.below hb)
  have HW := Lib.hid fun W' (hb : Below w.heap.size w W') => eqU64 W' (w1.below hb) (w2.below hb)
  have HR := Lib.hid fun W' (hb : Below w.heap.size w W') => eqBools W' (r1.below hb) (r2.below hb)
  have HM := Lib.hid fun W' (hb : Below w.heap.size w W') => eqBools W' (m1.below hb) (m2.below hb)
  rw [decide_eq_true rfl] at HE HF HW HR HM
  clear e1 e2 f1 f2 w1 w2 r1 r2 m1 m2
  have hst := ((St.init w).alloc #[vE, vF, vW, vR, vM] 88).alloc #[uE, uF, uW, uR, uM] 88
  simp only [World.size_alloc] at hst
  have HST := Lib.hid hst
  clear hst
  go_enter Try.func44, Try.ntmps44
  go_wp2_with (fail)
  go_at_call 107
  refine (HE.out _ HST.out.bel).mono ?_
  rintro e W0 ⟨rfl, hb0⟩
  have HST := Lib.hid (HST.out.call hb0)
  clear hb0
  obtain ⟨x0, x1, x2, x3, x4⟩ := HST.out.at5 1 rfl
  obtain ⟨y0, y1, y2, y3, y4⟩ := HST.out.at5 0 rfl
  go_wp2_with (fail)
  clear x0 x1 x2 x3 x4 y0 y1 y2 y3 y4
  go_at_call 108
  refine (HF.out _ HST.out.bel).mono ?_
  rintro e W1 ⟨rfl, hb1⟩
  have HST := Lib.hid (HST.out.call hb1)
  clear hb1
  obtain ⟨x0, x1, x2, x3, x4⟩ := HST.out.at5 1 rfl
  obtain ⟨y0, y1, y2, y3, y4⟩ := HST.out.at5 0 rfl
  go_wp2_with (fail)
  clear x0 x1 x2 x3 x4 y0 y1 y2 y3 y4
  go_at_call 108
  refine (HW.out _ HST.out.bel).mono ?_
  rintro e W2 ⟨rfl, hb2⟩
  have HST := Lib.hid (HST.out.call hb2)
  clear hb2
  obtain ⟨x0, x1, x2, x3, x4⟩ := HST.out.at5 1 rfl
  obtain ⟨y0, y1, y2, y3, y4⟩ := HST.out.at5 0 rfl
  go_wp2_with (fail)
  clear x0 x1 x2 x3 x4 y0 y1 y2 y3 y4
  go_at_call 107
  refine (HR.out _ HST.out.bel).mono ?_
  rintro e W3 ⟨rfl, hb3⟩
  have HST := Lib.hid (HST.out.call hb3)
  clear hb3
  obtain ⟨x0, x1, x2, x3, x4⟩ := HST.out.at5 1 rfl
  obtain ⟨y0, y1, y2, y3, y4⟩ := HST.out.at5 0 rfl
  go_wp2_with (fail)
  clear x0 x1 x2 x3 x4 y0 y1 y2 y3 y4
  go_at_call 107
  refine (HM.out _ HST.out.bel).mono ?_
  rintro e W4 ⟨rfl, hb4⟩
  have HST := Lib.hid (HST.out.call hb4)
  clear hb4
  go_wp2
  go_ret
  exact ⟨rfl, HST.out.bel⟩
end Go.Proofs.Ytldapomcjfkeeaa
