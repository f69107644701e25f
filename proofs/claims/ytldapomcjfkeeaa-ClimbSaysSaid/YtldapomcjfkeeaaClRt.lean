/-
  RightClimber of the reference: what it computes.
-/
import Derived.Test.YtldapomcjfkeeaaClPush
import Derived.Test.YtldapomcjfkeeaaRRows
namespace Go.Proofs.Ytldapomcjfkeeaa
set_option linter.unusedVariables false
open Go.ChangeShapes Go.WideShapes Go.ChangeAt Go.RowKit

namespace Cl
theorem take_bad {p : T → Bool} {td : List T} {k : Nat} (h : k < td.length) : (td.take (k + 1)).any p = ((td.take k).any p || p (td.getD k z)) := by
  rw [List.take_succ_eq_append_getElem h, List.any_append]
  simp [List.getD, h]
theorem bad_of_take {p : T → Bool} {td : List T} {k : Nat} (h : (td.take k).any p = true) : td.any p = true := by
  rw [List.any_eq_true] at h ⊢
  obtain ⟨x, hx, h2⟩ := h
  exact ⟨x, List.mem_of_mem_take hx, h2⟩
theorem wrong_fit {t n : Int} {np : Nat} {td : List T} {seen : Int} : wrong 0 (fits t n np td seen) = if fits t n np td seen = true then 0 else 1 := by
  cases h : fits t n np td seen
  · rw [wrong_no]; rfl
  · rw [wrong_ok]; rfl
theorem pre_alts (len : Nat) (seen : Int) : 60 < len ∨ (len ≤ 60 ∧ seen < 0) ∨ (len ≤ 60 ∧ 0 ≤ seen ∧ 1099511627776 < seen) ∨ (len ≤ 60 ∧ 0 ≤ seen ∧ seen ≤ 1099511627776) := by omega
end Cl

set_option maxRecDepth 100000 in
set_option maxHeartbeats 8000000 in
theorem clRt_any (t n seen ov : Int) (dn : Bool) (vp vr vs : Value) (l : List (Int × List (Int × Int))) (rows : List (List Int)) (td : List Cl.T) (w : World) (F : Nat → Prop) (hF : ∀ b, F b → b < w.heap.size) (h : Enc.prods.R F w [vp] l)
    (hr : (((Enc.int .i64).sl 8).sl 24).R F w [vr] rows) (hs : (Enc.todo.sl 32).R F w [vs] td) :
    Calls Try.prog 62 #[.agg #[.int .i64 t, .int .i64 n, vp], vr, .agg #[vs, .int .i64 seen, .int .i64 ov, .bool dn]] w fun e w' => e = .returned (.int .i64 (Cl.wrong (Rw.all t n l rows) (Cl.fits t n l.length td seen))) ∧ Below w.heap.size w w' := by
  have HC := Lib.hid (fun W' (hW : Below w.heap.size w W') => rrows_any t n vp vr l rows W' F (fun b hb => Nat.lt_of_lt_of_le (hF b hb) hW.size) (Enc.mono _ h (fun _ h => h) (fun b hb => hW.block b (hF b hb))) (Enc.mono _ hr (fun _ h => h) (fun b hb => hW.block b (hF b hb))))
  obtain ⟨aop, -, -, cp, rfl, -⟩ := slProds h
  obtain ⟨aos, bs, os, cs, rfl, hroom, s3, s4⟩ := slTodo hs
  have S3 := Lib.hid s3; have S4 := Lib.hid s4
  have hst := ((St.init w).alloc #[.int .i64 t, .int .i64 n, .slice aop l.length cp] 68).alloc #[.slice aos td.length cs, .int .i64 seen, .int .i64 ov, .bool dn] 121
  simp only [World.size_alloc] at hst
  clear h hr hs hF s3 s4
  generalize hE : Rw.all t n l rows = E at *
  by_cases hz : E = 0
  · subst hz
    obtain ⟨R, hR⟩ : ∃ R, Cl.wrong 0 (Cl.fits t n l.length td seen) = R := ⟨_, rfl⟩
    have HR0 := Lib.hid hR
    rw [hR]
    rw [Cl.wrong_fit] at hR
    have HBAD : Hid (¬ (td.length ≤ 60 ∧ 0 ≤ seen ∧ seen ≤ 1099511627776 ∧ (td.any fun x => !Cl.good t n l.length x) = false) → R = 1) := Lib.hid (fun g => by rw [← hR, if_neg (fun q => g (Cl.fits_iff.1 q))])
    have HOK : Hid ((td.length ≤ 60 ∧ 0 ≤ seen ∧ seen ≤ 1099511627776 ∧ (td.any fun x => !Cl.good t n l.length x) = false) → R = 0) := Lib.hid (fun g => by rw [← hR, if_pos (Cl.fits_iff.2 g)])
    clear hR hE HR0
    rcases Cl.pre_alts td.length seen with h1 | ⟨h1, h2⟩ | ⟨h1, h2, h3⟩ | ⟨h1, h2, h3⟩
    iterate 3
      · have HE := Lib.hid (HBAD.out (by omega))
        have hsd : 1099511627776 < seen → decide (seen ≤ 1099511627776) = false := fun g => decide_eq_false (by omega)
        first | replace hsd := hsd h3 | clear hsd
        go_enter Try.func62, Try.ntmps62
        go_wp2_with (fail)
        go_at_call 68
        refine (HC.out _ hst.bel).mono ?_
        rintro e w1 ⟨rfl, hb1⟩
        replace hst := hst.call hb1
        clear hb1
        obtain ⟨s0, s1, s2, s3⟩ := hst.at4 0 rfl
        go_wp2
        have HST := Lib.hid hst
        clear hst s0 s1 s2 s3
        go_loopw [8, 9] (fun ok i wr => wr = w1 ∧ ok = .bool false ∧ i = .int .i64 0) (fun _ _ _ => 0)
        case atStart => exact ⟨rfl, rfl, rfl⟩
        case round =>
          obtain ⟨rfl, rfl, rfl⟩ := hrel
          obtain ⟨s0, s1, s2, s3⟩ := HST.out.at4 0 rfl
          rcases (by omega : (0 : Int) < td.length ∨ (td.length : Int) ≤ 0) with h0 | h0
          all_goals
            first
            | (exfalso; omega)
            | (go_wp2
               go_ret
               exact ⟨by rw [HE.out]; rfl, HST.out.bel⟩)
    · have HRT := Lib.hid (fun (W : World) (x : Cl.T) => clTodo_any t n l.length aop cp x.1 x.2.1 x.2.2.1 x.2.2.2 W)
      have hll : (td.length : Int) ≤ 60 := by omega
      go_enter Try.func62, Try.ntmps62
      go_wp2_with (fail)
      go_at_call 68
      refine (HC.out _ hst.bel).mono ?_
      rintro e w1 ⟨rfl, hb1⟩
      replace hst := hst.call hb1
      clear hb1
      obtain ⟨s0, s1, s2, s3⟩ := hst.at4 0 rfl
      go_wp2
      have HST := Lib.hid hst
      clear hst s0 s1 s2 s3
      go_loopw [8, 9] (fun ok i wr => ∃ k : Nat, k ≤ td.length ∧ ok = .bool (!((td.take k).any fun x => !Cl.good t n l.length x)) ∧ i = .int .i64 k ∧ St w wr [aCel (w.heap.size + 1) 121 #[.slice aos td.length cs, .int .i64 seen, .int .i64 ov, .bool dn], aCel w.heap.size 68 #[.int .i64 t, .int .i64 n, .slice aop l.length cp]]) (fun _ i _ => td.length - (intOf i).toNat)
      case atStart => exact ⟨0, by omega, rfl, rfl, HST.out⟩
      case round =>
        clear HST
        obtain ⟨k, hk, rfl, rfl, hst⟩ := hrel
        obtain ⟨s0, s1, s2, s3⟩ := hst.at4 0 rfl
        obtain ⟨g0, g1, g2⟩ := hst.at3 1 rfl
        have HST := Lib.hid hst
        clear hst
        by_cases hlt : k < td.length
        · cases hA : ((td.take k).any fun x => !Cl.good t n l.length x)
          · obtain ⟨rfl, _, _⟩ := S3.out (by omega)
            obtain ⟨q1, q2, q3, q4, -⟩ := S4.out k hlt
            have c1 := bkeep HST.out.bel q1
            have c2 := bkeep HST.out.bel q2
            have c3 := bkeep HST.out.bel q3
            have c4 := bkeep HST.out.bel q4
            have hstep := Cl.take_bad (p := fun x => !Cl.good t n l.length x) hlt
            rw [hA, Bool.false_or] at hstep
            have HSTEP := Lib.hid hstep
            obtain ⟨x, hx⟩ : ∃ x, x = td.getD k Cl.z := ⟨_, rfl⟩
            have hcon := HRT.out
            rw [← hx] at c1 c2 c3 c4
            have HX := Lib.hid hx
            have hlt2 : (k : Int) < td.length := by omega
            clear q1 q2 q3 q4 hstep hx hcon hA
            go_wp2
            go_region_with ((go_at_call 126; refine (HRT.out _ x).mono ?_; rintro e w2 ⟨rfl, hb2⟩))
            all_goals
              have hst2 := HST.out.drew.call hb2
              clear c1 c2 c3 c4 s0 s1 s2 s3 g0 g1 g2 hb2
              go_wp2
              have hb : Cl.good t n l.length (x.1, x.2.1, x.2.2.1, x.2.2.2) = !((td.take (k + 1)).any fun x => !Cl.good t n l.length x) := by rw [HSTEP.out, ← HX.out, Bool.not_not]
              go_roundw
              case rel => exact ⟨k + 1, by omega, by rw [← hb], by go_num, hst2⟩
              case measure => simp [intOf]; omega
          · have HE := Lib.hid (HBAD.out (fun q => by rw [Cl.bad_of_take hA] at q; exact absurd q.2.2.2 (by simp)))
            have hlt2 : (k : Int) < td.length := by omega
            clear hA
            go_wp2
            go_ret
            exact ⟨by rw [HE.out]; rfl, HST.out.bel⟩
        · obtain rfl : k = td.length := by omega
          rw [List.take_length]
          cases hA : (td.any fun x => !Cl.good t n l.length x)
          · have HE := Lib.hid (HOK.out ⟨h1, h2, h3, hA⟩)
            clear hA
            go_wp2
            go_ret
            exact ⟨by rw [HE.out]; rfl, HST.out.bel⟩
          · have HE := Lib.hid (HBAD.out (fun q => by rw [hA] at q; exact absurd q.2.2.2 (by simp)))
            clear hA
            go_wp2
            go_ret
            exact ⟨by rw [HE.out]; rfl, HST.out.bel⟩
  · rw [Cl.wrong_te hz]
    have hne : (E != 0) = true := by rw [bne_iff_ne]; exact hz
    clear hz hE
    go_enter Try.func62, Try.ntmps62
    go_wp2_with (fail)
    go_at_call 68
    refine (HC.out _ hst.bel).mono ?_
    rintro e w1 ⟨rfl, hb1⟩
    replace hst := hst.call hb1
    clear hb1
    go_wp2
    go_ret
    exact ⟨rfl, hst.bel⟩
end Go.Proofs.Ytldapomcjfkeeaa
