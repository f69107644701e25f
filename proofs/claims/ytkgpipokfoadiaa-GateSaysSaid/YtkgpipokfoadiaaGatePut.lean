/-
  SameGate of the reference; Put of package gate.
-/
import Derived.Test.YtkgpipokfoadiaaGateSame
namespace Go.Proofs.Ytkgpipokfoadiaa
set_option linter.unusedVariables false
open Go.ChangeShapes Go.WideShapes Go.ChangeAt Go.RowKit

set_option maxRecDepth 100000 in
set_option maxHeartbeats 4000000 in
theorem sameGate_any {va vb : Value} {l : List (Int × Int)} (c n : Int) (w : World) {F1 F2 : Nat → Prop} (hF1 : ∀ b, F1 b → b < w.heap.size) (hF2 : ∀ b, F2 b → b < w.heap.size) (h1 : (Enc.two.sl 16).R F1 w [va] l) (h2 : (Enc.two.sl 16).R F2 w [vb] l) :
    Calls Try.prog 25 #[.agg #[va, .int .i64 c, .int .i64 n], .agg #[vb, .int .i64 c, .int .i64 n]] w fun e w' => e = .returned (.bool true) ∧ Below w.heap.size w w' := by
  have H1 := Lib.hid h1; have H2 := Lib.hid h2; have HF1 := Lib.hid hF1; have HF2 := Lib.hid hF2
  clear h1 h2 hF1 hF2
  have hst0 := ((St.init w).alloc #[va, .int .i64 c, .int .i64 n] 42).alloc #[vb, .int .i64 c, .int .i64 n] 42
  simp only [World.size_alloc] at hst0
  go_enter Try.func25, Try.ntmps25
  go_wp2_with (go_at_call 19; refine (eqEvts _ (Enc.mono _ H1.out (fun _ h => h) (fun b hb => hst0.bel.block b (HF1.out b hb))) (Enc.mono _ H2.out (fun _ h => h) (fun b hb => hst0.bel.block b (HF2.out b hb)))).mono ?_; rintro e w1 ⟨rfl, hb1⟩; have hst := hst0.call hb1; obtain ⟨x0, x1, x2, _, _, _⟩ := hst.cel3; obtain ⟨y0, y1, y2, _, _, _⟩ := hst.get2.cel3; clear hst0 hb1)
  go_ret
  exact ⟨by simp, hst.bel⟩

namespace Gt
def putE (l : List (Int × Int)) (c n : Int) (l2 : List (Int × Int)) : Int := if err l c n ≠ 0 then err l c n else if l2.any Evt.odd = true then 1 else if 4200 - (l.length : Int) < l2.length then 18 else 0
end Gt

def RetG (E : Int) (l : List (Int × Int)) (c n : Int) (w : World) (e : Ending) (w' : World) : Prop := ∃ ao m cp, e = .returned (.tuple #[.agg #[.slice ao m cp, .int .i64 c, .int .i64 n], .int .i64 E]) ∧ Own w' w.heap.size 39 2 (.slice ao m cp) (l.map pairV) ∧ Below w.heap.size w w'

set_option maxRecDepth 100000 in
set_option maxHeartbeats 8000000 in
theorem put_any {v v2 : Value} {l l2 : List (Int × Int)} (c n : Int) (w : World) {F : Nat → Prop} (hF : ∀ b, F b → b < w.heap.size) (h : (Enc.two.sl 16).R F w [v] l) (h2 : (Enc.two.sl 16).R F w [v2] l2) :
    Calls Try.prog 21 #[.agg #[v, .int .i64 c, .int .i64 n], v2] w (RetG (Gt.putE l c n l2) (if Gt.putE l c n l2 = 0 then l ++ l2 else l) c n w) := by
  have H := Lib.hid h; have HF := Lib.hid hF; have H2 := Lib.hid h2
  obtain ⟨ao, b, off, cap, rfl, hl, hx, hy⟩ := slTwo h
  obtain ⟨ao2, b2, off2, cap2, rfl, hl2, hx2, hy2⟩ := slTwo h2
  clear h hx hy h2 hx2 hy2 hF
  have hst0 := ((St.init w).alloc #[.slice ao l.length cap, .int .i64 c, .int .i64 n] 42).alloc #[.slice none 0 0, .int .i64 0, .int .i64 0] 42
  simp only [World.size_alloc] at hst0
  by_cases he : Gt.err l c n = 0
  · have HE := Lib.hid he
    obtain ⟨q1, q2, q3, q4, q5, _⟩ := Gt.err_zero he
    clear he
    cases ha : l2.any Evt.odd
    · have HA := Lib.hid ha
      by_cases hlong : 4200 - (l.length : Int) < l2.length
      · have hp : Gt.putE l c n l2 = 18 := by rw [Gt.putE, HE.out, if_neg (by simp), ha, if_neg (by simp), if_pos hlong]
        rw [hp, if_neg (by decide)]
        clear ha hp
        go_enter Try.func21, Try.ntmps21
        go_wp2_with (first
          | (go_at_call 24; refine (gateCheck_any c n _ (fun b hb => Nat.lt_of_lt_of_le (HF.out b hb) hst0.bel.size) (Enc.mono _ H.out (fun _ h => h) (fun b hb => hst0.bel.block b (HF.out b hb)))).mono ?_; rintro e w1 ⟨rfl, hb1⟩;  rw [HE.out]; have hst1 := hst0.call hb1; obtain ⟨x0, x1, x2, xf0, xf1, xf2⟩ := hst1.get2.cel3; clear hst0 hb1)
          | (go_at_call 68; refine (oddIn_any l2 _ _ F (Enc.mono _ H2.out (fun _ h => h) (fun b hb => hst1.bel.block b (HF.out b hb)))).mono ?_; rintro e w2 ⟨rfl, hb2⟩; rw [HA.out]; have hst2 := hst1.call hb2; obtain ⟨x0, x1, x2, xf0, xf1, xf2⟩ := hst2.get2.cel3; clear hst1 hb2)
          | (go_at_call 74; refine (same_any c n _ (fun b hb => Nat.lt_of_lt_of_le (HF.out b hb) hst2.bel.size) (Enc.mono _ H.out (fun _ h => h) (fun b hb => hst2.bel.block b (HF.out b hb)))).mono ?_; rintro e w3 ⟨v3, rfl, ho, hb3⟩; obtain ⟨a3, c3, rfl⟩ := ho.isLen; rw [List.length_map] at ho ⊢; have hst3 := (hst2.pushOwn hb3 ho).alloc #[.slice a3 l.length c3, .int .i64 c, .int .i64 n] 42; obtain ⟨z0, z1, z2, zf0, zf1, zf2⟩ := hst3.get3.cel3; clear hst2 ho hb3))
        have hst6 := ((hst3.get3.setCel 0 (.slice a3 l.length c3)).setCel 1 (.int .i64 c)).setCel 2 (.int .i64 n)
        have k0 := hst6.celAt (i := 0) (v := .slice a3 l.length c3) rfl
        have k1 := hst6.celAt (i := 1) (v := .int .i64 c) rfl
        have k2 := hst6.celAt (i := 2) (v := .int .i64 n) rfl
        exact bodyPost_ret (v := .tuple #[.agg #[.slice a3 l.length c3, .int .i64 c, .int .i64 n], .int .i64 18]) (by simp [results, Try.results21, go_sem, k0, k1, k2]) rfl ⟨_, _, _, rfl, hst6.get3.own, hst6.bel⟩
      · have hp : Gt.putE l c n l2 = 0 := by rw [Gt.putE, HE.out, if_neg (by simp), ha, if_neg (by simp), if_neg hlong]
        rw [hp, if_pos rfl]
        clear ha hp
        go_enter Try.func21, Try.ntmps21
        go_wp2_with (first
          | (go_at_call 24; refine (gateCheck_any c n _ (fun b hb => Nat.lt_of_lt_of_le (HF.out b hb) hst0.bel.size) (Enc.mono _ H.out (fun _ h => h) (fun b hb => hst0.bel.block b (HF.out b hb)))).mono ?_; rintro e w1 ⟨rfl, hb1⟩; rw [HE.out]; have hst1 := hst0.call hb1; obtain ⟨x0, x1, x2, xf0, xf1, xf2⟩ := hst1.get2.cel3; clear hst0 hb1)
          | (go_at_call 68; refine (oddIn_any l2 _ _ F (Enc.mono _ H2.out (fun _ h => h) (fun b hb => hst1.bel.block b (HF.out b hb)))).mono ?_; rintro e w2 ⟨rfl, hb2⟩; rw [HA.out]; have hst2 := hst1.call hb2; obtain ⟨x0, x1, x2, xf0, xf1, xf2⟩ := hst2.get2.cel3; clear hst1 hb2)
          | (go_at_call 74; refine (same_any c n _ (fun b hb => Nat.lt_of_lt_of_le (HF.out b hb) hst2.bel.size) (Enc.mono _ H.out (fun _ h => h) (fun b hb => hst2.bel.block b (HF.out b hb)))).mono ?_; rintro e w3 ⟨v3, rfl, ho, hb3⟩; obtain ⟨a3, c3, rfl⟩ := ho.isLen; rw [List.length_map] at ho ⊢; have hst3 := (hst2.pushOwn hb3 ho).alloc #[.slice a3 l.length c3, .int .i64 c, .int .i64 n] 42; clear hst2 ho hb3)
          | (at_builtin; refine St.appSl evtE rfl (.tmp 29) (.tmp 30) rfl rfl hst3.get2 rfl (Enc.mono _ H2.out (fun _ h => h) (fun b hb => hst3.bel.block b (HF.out b hb))) rfl pairV (fun w cs a h => (two_cells h).1) (fun a q hq => pair_one a q hq) (by rw [List.length_map]; omega) (by rw [List.length_map]; omega) ?_; intro v4 w4 hst4; obtain ⟨a4, c4, rfl⟩ := hst4.own.isLen; rw [← List.map_append, List.length_map, List.length_append] at hst4 ⊢; obtain ⟨y0, y1, y2, yf0, yf1, yf2⟩ := hst4.get2.cel3; have hst5 := hst4.get2.setCel 0 (.slice a4 (l.length + l2.length) c4); obtain ⟨z0, z1, z2, zf0, zf1, zf2⟩ := hst5.get3.cel3; clear hst3))
        have hst6 := ((hst5.get3.setCel 0 (.slice a4 (l.length + l2.length) c4)).setCel 1 (.int .i64 c)).setCel 2 (.int .i64 n)
        have k0 := hst6.celAt (i := 0) (v := .slice a4 (l.length + l2.length) c4) rfl
        have k1 := hst6.celAt (i := 1) (v := .int .i64 c) rfl
        have k2 := hst6.celAt (i := 2) (v := .int .i64 n) rfl
        exact bodyPost_ret (v := .tuple #[.agg #[.slice a4 (l.length + l2.length) c4, .int .i64 c, .int .i64 n], .int .i64 0]) (by simp [results, Try.results21, go_sem, k0, k1, k2]) rfl ⟨_, _, _, rfl, hst6.get3.own, hst6.bel⟩
    · have HA := Lib.hid ha
      have hp : Gt.putE l c n l2 = 1 := by rw [Gt.putE, HE.out, if_neg (by simp), ha, if_pos rfl]
      rw [hp, if_neg (by decide)]
      clear ha hp
      go_enter Try.func21, Try.ntmps21
      go_wp2_with (first
          | (go_at_call 24; refine (gateCheck_any c n _ (fun b hb => Nat.lt_of_lt_of_le (HF.out b hb) hst0.bel.size) (Enc.mono _ H.out (fun _ h => h) (fun b hb => hst0.bel.block b (HF.out b hb)))).mono ?_; rintro e w1 ⟨rfl, hb1⟩;  rw [HE.out]; have hst1 := hst0.call hb1; obtain ⟨x0, x1, x2, xf0, xf1, xf2⟩ := hst1.get2.cel3; clear hst0 hb1)
          | (go_at_call 68; refine (oddIn_any l2 _ _ F (Enc.mono _ H2.out (fun _ h => h) (fun b hb => hst1.bel.block b (HF.out b hb)))).mono ?_; rintro e w2 ⟨rfl, hb2⟩; rw [HA.out]; have hst2 := hst1.call hb2; obtain ⟨x0, x1, x2, xf0, xf1, xf2⟩ := hst2.get2.cel3; clear hst1 hb2)
          | (go_at_call 74; refine (same_any c n _ (fun b hb => Nat.lt_of_lt_of_le (HF.out b hb) hst2.bel.size) (Enc.mono _ H.out (fun _ h => h) (fun b hb => hst2.bel.block b (HF.out b hb)))).mono ?_; rintro e w3 ⟨v3, rfl, ho, hb3⟩; obtain ⟨a3, c3, rfl⟩ := ho.isLen; rw [List.length_map] at ho ⊢; have hst3 := (hst2.pushOwn hb3 ho).alloc #[.slice a3 l.length c3, .int .i64 c, .int .i64 n] 42; obtain ⟨z0, z1, z2, zf0, zf1, zf2⟩ := hst3.get3.cel3; clear hst2 ho hb3))
      have hst6 := ((hst3.get3.setCel 0 (.slice a3 l.length c3)).setCel 1 (.int .i64 c)).setCel 2 (.int .i64 n)
      have k0 := hst6.celAt (i := 0) (v := .slice a3 l.length c3) rfl
      have k1 := hst6.celAt (i := 1) (v := .int .i64 c) rfl
      have k2 := hst6.celAt (i := 2) (v := .int .i64 n) rfl
      exact bodyPost_ret (v := .tuple #[.agg #[.slice a3 l.length c3, .int .i64 c, .int .i64 n], .int .i64 1]) (by simp [results, Try.results21, go_sem, k0, k1, k2]) rfl ⟨_, _, _, rfl, hst6.get3.own, hst6.bel⟩
  · have hp : Gt.putE l c n l2 = Gt.err l c n := by rw [Gt.putE, if_pos he]
    rw [hp, if_neg he]
    generalize hq : Gt.err l c n = E at *
    have HQ := Lib.hid hq
    have hne : (E != 0) = true := by rw [bne_iff_ne]; exact he
    have hnz : (E == 0) = false := by rw [beq_eq_false_iff_ne]; exact he
    clear hp he hq
    go_enter Try.func21, Try.ntmps21
    go_wp2_with (first
          | (go_at_call 24; refine (gateCheck_any c n _ (fun b hb => Nat.lt_of_lt_of_le (HF.out b hb) hst0.bel.size) (Enc.mono _ H.out (fun _ h => h) (fun b hb => hst0.bel.block b (HF.out b hb)))).mono ?_; rintro e w1 ⟨rfl, hb1⟩;  rw [HQ.out]; have hst1 := hst0.call hb1; obtain ⟨x0, x1, x2, xf0, xf1, xf2⟩ := hst1.get2.cel3; clear hst0 hb1)
          | (go_at_call 74; refine (same_any c n _ (fun b hb => Nat.lt_of_lt_of_le (HF.out b hb) hst1.bel.size) (Enc.mono _ H.out (fun _ h => h) (fun b hb => hst1.bel.block b (HF.out b hb)))).mono ?_; rintro e w3 ⟨v3, rfl, ho, hb3⟩; obtain ⟨a3, c3, rfl⟩ := ho.isLen; rw [List.length_map] at ho ⊢; have hst3 := (hst1.pushOwn hb3 ho).alloc #[.slice a3 l.length c3, .int .i64 c, .int .i64 n] 42; obtain ⟨z0, z1, z2, zf0, zf1, zf2⟩ := hst3.get3.cel3; clear hst1 ho hb3))
    have hst6 := ((hst3.get3.setCel 0 (.slice a3 l.length c3)).setCel 1 (.int .i64 c)).setCel 2 (.int .i64 n)
    have k0 := hst6.celAt (i := 0) (v := .slice a3 l.length c3) rfl
    have k1 := hst6.celAt (i := 1) (v := .int .i64 c) rfl
    have k2 := hst6.celAt (i := 2) (v := .int .i64 n) rfl
    exact bodyPost_ret (v := .tuple #[.agg #[.slice a3 l.length c3, .int .i64 c, .int .i64 n], .int .i64 E]) (by simp [results, Try.results21, go_sem, k0, k1, k2]) rfl ⟨_, _, _, rfl, hst6.get3.own, hst6.bel⟩
end Go.Proofs.Ytkgpipokfoadiaa
