/-
  The walk of the law SmallApart.
-/
import Derived.Test.YtbpjmdemmmdnbaaApRef
namespace Go.Proofs.Ytbpjmdemmmdnbaa
set_option linter.unusedVariables false
set_option linter.unusedSimpArgs false
open Go.ChangeShapes Go.WideShapes Go.ChangeAt Go.RowKit

set_option maxRecDepth 100000 in
set_option maxHeartbeats 4000000 in
theorem smallApart_bad1 (va vb : Value) (D : Ap.Two) (w : World) (ha : DfaAt w va D.r1 D.t1) (hb : DfaAt w vb D.r2 D.t2) (he : Aut.err D.r1 D.t1 ≠ 0) :
    Calls Try.prog 3 #[va, vb] w fun e w' => e = .returned (.bool true) ∧ Below w.heap.size w w' := by
  obtain ⟨a0, a1, rfl, -, -⟩ := id ha
  obtain ⟨b0, b1, rfl, -, -⟩ := id hb
  have HP := Lib.hid (fun (w' : World) (hw : Below w.heap.size w w') => apart_bad1 _ _ D w' (ha.below hw) (hb.below hw) he)
  have HR := Lib.hid (fun (w' : World) (hw : Below w.heap.size w w') => rdfa_any _ D.r1 D.t1 w' (ha.below hw))
  generalize Aut.err D.r1 D.t1 = E at *
  have hE : (E == 0) = false := by rw [beq_eq_false_iff_ne]; exact he
  have hE2 : (E != 0) = true := by rw [bne_iff_ne]; exact he
  have hEE : (E == E) = true := beq_self_eq_true _
  have hst := ((St.init w).alloc #[a0, a1] 25).alloc #[b0, b1] 25
  simp only [World.size_alloc] at hst
  have HST := Lib.hid hst
  clear ha hb he hst
  go_enter Try.func3, Try.ntmps3
  go_wp2_with (fail)
  go_at_call 9
  refine (HP.out _ HST.out.bel).mono ?_
  rintro e w1 ⟨rfl, hb1⟩
  have HST := Lib.hid (HST.out.call hb1)
  obtain ⟨x0, x1⟩ := HST.out.at2 1 rfl
  clear hb1 HP
  go_wp2_with (fail)
  go_at_call 10
  refine (HR.out _ HST.out.bel).mono ?_
  rintro e w2 ⟨rfl, hb2⟩
  have HST := Lib.hid (HST.out.call hb2)
  clear hb2 HR x0 x1
  go_wp2
  go_ret
  exact ⟨rfl, HST.out.bel⟩

set_option maxRecDepth 100000 in
set_option maxHeartbeats 4000000 in
theorem smallApart_bad2 (va vb : Value) (D : Ap.Two) (w : World) (ha : DfaAt w va D.r1 D.t1) (hb : DfaAt w vb D.r2 D.t2) (he : Aut.err D.r1 D.t1 = 0) (he2 : Aut.err D.r2 D.t2 ≠ 0) :
    Calls Try.prog 3 #[va, vb] w fun e w' => e = .returned (.bool true) ∧ Below w.heap.size w w' := by
  obtain ⟨a0, a1, rfl, -, -⟩ := id ha
  obtain ⟨b0, b1, rfl, -, -⟩ := id hb
  have HP := Lib.hid (fun (w' : World) (hw : Below w.heap.size w w') => apart_bad2 _ _ D w' (ha.below hw) (hb.below hw) he he2)
  have HR := Lib.hid (fun (w' : World) (hw : Below w.heap.size w w') => rdfa_any _ D.r1 D.t1 w' (ha.below hw))
  have HR2 := Lib.hid (fun (w' : World) (hw : Below w.heap.size w w') => rdfa_any _ D.r2 D.t2 w' (hb.below hw))
  rw [he] at HR
  generalize Aut.err D.r2 D.t2 = E at *
  have hE2 : (E != 0) = true := by rw [bne_iff_ne]; exact he2
  have hEE : (E == E) = true := beq_self_eq_true _
  have hst := ((St.init w).alloc #[a0, a1] 25).alloc #[b0, b1] 25
  simp only [World.size_alloc] at hst
  have HST := Lib.hid hst
  clear ha hb he he2 hst
  go_enter Try.func3, Try.ntmps3
  go_wp2_with (fail)
  go_at_call 9
  refine (HP.out _ HST.out.bel).mono ?_
  rintro e w1 ⟨rfl, hb1⟩
  have HST := Lib.hid (HST.out.call hb1)
  obtain ⟨x0, x1⟩ := HST.out.at2 1 rfl
  clear hb1 HP
  go_wp2_with (fail)
  go_at_call 10
  refine (HR.out _ HST.out.bel).mono ?_
  rintro e w2 ⟨rfl, hb2⟩
  have HST := Lib.hid (HST.out.call hb2)
  obtain ⟨x0, x1⟩ := HST.out.at2 0 rfl
  clear hb2 HR
  go_wp2_with (fail)
  go_at_call 10
  refine (HR2.out _ HST.out.bel).mono ?_
  rintro e w3 ⟨rfl, hb3⟩
  have HST := Lib.hid (HST.out.call hb3)
  clear hb3 HR2 x0 x1
  go_wp2
  go_ret
  exact ⟨rfl, HST.out.bel⟩

set_option maxRecDepth 100000 in
set_option maxHeartbeats 4000000 in
theorem smallApart_ok (va vb : Value) (D : Ap.Two) (w : World) (ha : DfaAt w va D.r1 D.t1) (hb : DfaAt w vb D.r2 D.t2) (he : Aut.err D.r1 D.t1 = 0) (he2 : Aut.err D.r2 D.t2 = 0) :
    Calls Try.prog 3 #[va, vb] w fun e w' => e = .returned (.bool true) ∧ Below w.heap.size w w' := by
  obtain ⟨a0, a1, rfl, har, -⟩ := id ha
  obtain ⟨b0, b1, rfl, hbr, -⟩ := id hb
  have HP := Lib.hid (fun (w' : World) (hw : Below w.heap.size w w') => apart_ok _ _ D w' (ha.below hw) (hb.below hw) he he2)
  have HQ := Lib.hid (fun (w' : World) (hw : Below w.heap.size w w') => rapart_ok _ _ D w' (ha.below hw) (hb.below hw) he he2)
  have HR := Lib.hid (fun (w' : World) (hw : Below w.heap.size w w') => rdfa_any _ D.r1 D.t1 w' (ha.below hw))
  have HR2 := Lib.hid (fun (w' : World) (hw : Below w.heap.size w w') => rdfa_any _ D.r2 D.t2 w' (hb.below hw))
  rw [he] at HR
  rw [he2] at HR2
  obtain ⟨n1, -, -, -⟩ := Aut.err_good _ _ he
  obtain ⟨n2, -, -, -⟩ := Aut.err_good _ _ he2
  obtain ⟨ao, b, off, cap, rfl, -⟩ := slRows har
  obtain ⟨ao2, b2, off2, cap2, rfl, -⟩ := slRows hbr
  have hmm : D.r1.length * D.r2.length ≤ 200 * 200 := Nat.mul_le_mul n1 n2
  obtain ⟨pr, hpr⟩ : ∃ pr : Int, (D.r1.length : Int) * D.r2.length = pr := ⟨_, rfl⟩
  have hpr0 : 0 ≤ pr := by rw [← hpr, ← Int.natCast_mul]; omega
  have hpr1 : pr ≤ 40000 := by rw [← hpr, ← Int.natCast_mul]; omega
  have hwp : IntKind.i64.wrap ((D.r1.length : Int) * D.r2.length) = pr := by rw [hpr]; exact IntWalk.i64_in _ (by omega)
  have hst := ((St.init w).alloc #[.slice ao D.r1.length cap, a1] 25).alloc #[.slice ao2 D.r2.length cap2, b1] 25
  simp only [World.size_alloc] at hst
  have HST := Lib.hid hst
  have HPR := Lib.hid hpr
  have hc1 : (D.r1.length : Int) ≤ 200 := by omega
  have hc2 : (D.r2.length : Int) ≤ 200 := by omega
  clear ha hb he he2 hst har hbr hmm
  go_enter Try.func3, Try.ntmps3
  go_wp2_with (fail)
  go_at_call 9
  refine (HP.out _ HST.out.bel).mono ?_
  rintro e w1 ⟨l, is, rfl, HS1, hb1⟩
  have HST := Lib.hid (HST.out.call hb1)
  obtain ⟨x0, x1⟩ := HST.out.at2 1 rfl
  clear hb1 HP
  go_wp2_with (fail)
  go_at_call 10
  refine (HR.out _ HST.out.bel).mono ?_
  rintro e w2 ⟨rfl, hb2⟩
  have HST := Lib.hid (HST.out.call hb2)
  obtain ⟨y0, y1⟩ := HST.out.at2 0 rfl
  clear hb2 HR x0 x1
  go_wp2_with (fail)
  go_at_call 10
  refine (HR2.out _ HST.out.bel).mono ?_
  rintro e w3 ⟨rfl, hb3⟩
  have HST := Lib.hid (HST.out.call hb3)
  obtain ⟨y0, y1⟩ := HST.out.at2 0 rfl
  obtain ⟨x0, x1⟩ := HST.out.at2 1 rfl
  clear hb3 HR2
  by_cases hbig : 2500 < pr
  · go_wp2
    go_ret
    exact ⟨rfl, HST.out.bel⟩
  · go_wp2_with (fail)
    go_at_call 11
    refine (HQ.out _ HST.out.bel).mono ?_
    rintro e w4 ⟨l2, is2, rfl, HS2, hb4⟩
    obtain ⟨rfl, rfl⟩ := Ap.Says.one HS1.out HS2.out
    have HST := Lib.hid (HST.out.call hb4)
    clear hb4 x0 x1 y0 y1
    go_wp2
    go_ret
    exact ⟨by simp, HST.out.bel⟩

theorem smallApart_walk (va vb : Value) (r1 r2 : List (List Int)) (t1 t2 : List Int) (w : World) (ha : DfaAt w va r1 t1) (hb : DfaAt w vb r2 t2) :
    Calls Try.prog 3 #[va, vb] w fun e w' => e = .returned (.bool true) ∧ Below w.heap.size w w' := by
  by_cases he : Aut.err r1 t1 = 0
  · by_cases he2 : Aut.err r2 t2 = 0
    · exact smallApart_ok va vb ⟨r1, t1, r2, t2⟩ w ha hb he he2
    · exact smallApart_bad2 va vb ⟨r1, t1, r2, t2⟩ w ha hb he he2
  · exact smallApart_bad1 va vb ⟨r1, t1, r2, t2⟩ w ha hb he
end Go.Proofs.Ytbpjmdemmmdnbaa
