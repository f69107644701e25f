/-
  ll.Check: what is wrong with a table of rows.
-/
import Derived.Test.YtldapomcjfkeeaaTable
namespace Go.Proofs.Ytldapomcjfkeeaa
set_option linter.unusedVariables false
open Go.ChangeShapes Go.WideShapes Go.ChangeAt Go.RowKit

namespace Rw
def good (l : List (Int × List (Int × Int))) (p : Int) (k : Nat) : Prop := -1 ≤ p ∧ p < l.length ∧ (0 ≤ p → (l.getD p.toNat (0, [])).1 = k)
def At (t : Int) (l : List (Int × List (Int × Int))) (row : List Int) (k : Nat) : Prop := (row.length : Int) = t + 1 ∧ ∀ c, c < row.length → good l (row.getD c 0) k
def Good (t : Int) (l : List (Int × List (Int × Int))) (rows : List (List Int)) : Prop := ∀ k, k < rows.length → At t l (rows.getD k []) k
open Classical in
noncomputable def err (t n : Int) (l : List (Int × List (Int × Int))) (rows : List (List Int)) : Int :=
  if (rows.length : Int) ≠ n then 1 else if Good t l rows then 0 else 1
theorem err_len {t n l rows} (h : (rows.length : Int) ≠ n) : err t n l rows = 1 := by rw [err, if_pos h]
theorem err_bad {t n l rows} (h : ¬ Good t l rows) : err t n l rows = 1 := by
  rw [err]
  by_cases h2 : (rows.length : Int) ≠ n
  · rw [if_pos h2]
  · rw [if_neg h2, if_neg h]
theorem err_ok {t n l rows} (h : (rows.length : Int) = n) (h2 : Good t l rows) : err t n l rows = 0 := by rw [err, if_neg (by omega), if_pos h2]
open Classical in
noncomputable def all (t n : Int) (l : List (Int × List (Int × Int))) (rows : List (List Int)) : Int := if Gr.err t n l ≠ 0 then Gr.err t n l else err t n l rows
theorem all_ne {t n l rows} (h : Gr.err t n l ≠ 0) : all t n l rows = Gr.err t n l := by rw [all, if_pos h]
theorem all_go {t n l rows} (h : Gr.err t n l = 0) : all t n l rows = err t n l rows := by rw [all, if_neg (by omega)]
end Rw
attribute [irreducible] Rw.err Rw.all

set_option maxRecDepth 100000 in
set_option maxHeartbeats 8000000 in
theorem llCheck_any (t n : Int) (vp vr : Value) (l : List (Int × List (Int × Int))) (rows : List (List Int)) (w : World) (F : Nat → Prop) (hF : ∀ b, F b → b < w.heap.size) (h : Enc.prods.R F w [vp] l)
    (hg : (((Enc.int .i64).sl 8).sl 24).R F w [vr] rows) :
    Calls Try.prog 67 #[.agg #[.int .i64 t, .int .i64 n, vp], vr] w fun e w' => e = .returned (.int .i64 (Rw.all t n l rows)) ∧ Below w.heap.size w w' := by
  have hB : Hid (∀ o, Below w.heap.size w (w.alloc o)) := Lib.hid (fun o => (Below.refl _ _).alloc (Nat.le_refl _) _)
  have HC : Hid (∀ o, Calls Try.prog 102 #[.agg #[.int .i64 t, .int .i64 n, vp]] (w.alloc o) fun e w' => e = .returned (.int .i64 (Gr.err t n l)) ∧ Below (w.alloc o).heap.size (w.alloc o) w') :=
    Lib.hid (fun o => cfgCheck_any t n vp l _ F (fun b hb => Nat.lt_of_lt_of_le (hF b hb) (hB.out o).size) (Enc.mono _ h (fun _ h => h) (fun b hb => (hB.out o).block b (hF b hb))))
  by_cases he : Gr.err t n l ≠ 0
  · have hne : (Gr.err t n l != 0) = true := by rw [bne_iff_ne]; exact he
    have HE := Lib.hid (Rw.all_ne (rows := rows) he)
    clear he h hg hF
    go_enter Try.func67, Try.ntmps67
    go_wp2_with (go_at_call 102; refine (HC.out _).mono ?_; rintro e w1 ⟨rfl, hb1⟩)
    go_ret
    exact ⟨by rw [HE.out]; rfl, (hB.out _).trans (hb1.mono (hB.out _).size)⟩
  have he : Gr.err t n l = 0 := Decidable.not_not.1 he
  obtain ⟨ht0, ht1, hn0, hn1, hll, _⟩ := Gr.err_zero he
  have HE0 := Lib.hid he
  have HA := Lib.hid (Rw.all_go (rows := rows) he)
  obtain ⟨aop, bp, op, cp, hvp, _, p3, p4⟩ := slProds h
  obtain ⟨aog, bg, og, cg, rfl, _, g3, g4⟩ := slSl hg
  subst hvp
  have P3 := Lib.hid p3; have P4 := Lib.hid p4; have G3 := Lib.hid g3; have G4 := Lib.hid g4
  clear h hg he p3 p4 g3 g4 hF
  by_cases h1 : (rows.length : Int) ≠ n
  · have HE := Lib.hid (Rw.err_len (t := t) (n := n) (l := l) (rows := rows) h1)
    have h11 : ((rows.length : Int) != n) = true := by rw [bne_iff_ne]; exact h1
    clear h1
    go_enter Try.func67, Try.ntmps67
    go_wp2_with (fail)
    go_at_call 102; refine (HC.out _).mono ?_; rintro e w1 ⟨rfl, hb1⟩; rw [HE0.out]
    have hG1 : GrBox w1 w.heap.size t n (.slice aop l.length cp) := GrBox.below ⟨by rw [World.cell?_alloc_new]; rfl, by rw [World.cell?_alloc_new]; rfl, by rw [World.cell?_alloc_new]; rfl⟩ hb1 (by simp)
    have hGl := hG1.lt
    obtain ⟨hg0, hg1, hg2⟩ := hG1
    go_wp2
    go_ret
    exact ⟨by rw [HA.out, HE.out]; rfl, (hB.out _).trans (hb1.mono (hB.out _).size)⟩
  have h11 : ((rows.length : Int) != n) = false := by rw [bne_eq_false_iff_eq]; exact Decidable.not_not.1 h1
  have hrn : (rows.length : Int) = n := Decidable.not_not.1 h1
  have HL := Lib.hid hrn
  have hr20 : rows.length ≤ 20 := by omega
  clear h1
  go_enter Try.func67, Try.ntmps67
  go_wp2_with (fail)
  go_at_call 102; refine (HC.out _).mono ?_; rintro e w1 ⟨rfl, hb1⟩; rw [HE0.out]
  have hG1 : GrBox w1 w.heap.size t n (.slice aop l.length cp) := GrBox.below ⟨by rw [World.cell?_alloc_new]; rfl, by rw [World.cell?_alloc_new]; rfl, by rw [World.cell?_alloc_new]; rfl⟩ hb1 (by simp)
  have hGl := hG1.lt
  have HG1 := Lib.hid hG1
  have hB1 := (hB.out _).trans (hb1.mono (hB.out _).size)
  clear hb1
  obtain ⟨hg0, hg1, hg2⟩ := hG1
  go_wp2
  clear hg0 hg1 hg2 hGl
  go_loopw [6, 7, 9, 22, 35] (fun _ _ _ i _ wr => ∃ k : Nat, k ≤ rows.length ∧ i = .int .i64 k ∧ Below w1.heap.size w1 wr ∧ Hid (∀ j, j < k → Rw.At t l (rows.getD j []) j)) (fun _ _ _ i _ _ => rows.length - (intOf i).toNat)
  case atStart => exact ⟨0, by omega, rfl, Below.refl _ _, Lib.hid (fun j hj => absurd hj (by omega))⟩
  case round =>
    obtain ⟨k, hk, rfl, hB2, hok⟩ := hrel
    have hBw := hB1.trans (hB2.mono hB1.size)
    have hG2 := HG1.out.below hB2 HG1.out.lt
    have hGl := hG2.lt
    obtain ⟨hg0, hg1, hg2⟩ := hG2
    by_cases hlt : k < rows.length
    · obtain ⟨rfl, hbg, _⟩ := G3.out (by omega)
      obtain ⟨gi, di, hn2', hrg⟩ := G4.out k hlt
      have hc2 := bkeep hBw hn2'
      obtain ⟨row, hrow⟩ : ∃ r, rows.getD k [] = r := ⟨_, rfl⟩
      have HBAD : Hid (¬ Rw.At t l row k → Rw.err t n l rows = 1) := Lib.hid (fun h => Rw.err_bad (fun g => h (by rw [← hrow]; exact g k hlt)))
      have HOK : Hid (Rw.At t l row k → ∀ j, j < k + 1 → Rw.At t l (rows.getD j []) j) := Lib.hid (fun h j hj => by
        rcases Nat.lt_succ_iff_lt_or_eq.1 hj with hj | rfl
        · exact hok.out j hj
        · rw [hrow]; exact h)
      rw [hrow] at hc2 hrg
      clear hrow hn2'
      obtain ⟨_, bz, oz, _, hv2, _, z3, z4⟩ := Enc.sl1 (En := Enc.int .i64) (Value.int .i64) (fun _ _ _ h => h.1) rfl 0 hrg
      simp only [Value.slice.injEq, true_and] at hv2
      obtain ⟨rfl, rfl⟩ := hv2
      have Z3 := Lib.hid z3; have Z4 := Lib.hid z4
      clear z3 z4 hrg
      have hwr : IntKind.i64.wrap (t + 1) = t + 1 := by simp [IntKind.wrap, IntKind.bits, IntKind.signed]; omega
      have HB2 := Lib.hid hB2
      by_cases hl1 : (row.length : Int) = t + 1
      · have hl1b : ((row.length : Int) != t + 1) = false := by rw [bne_eq_false_iff_eq]; exact hl1
        have HL1 := Lib.hid hl1
        have hrl : row.length ≤ 31 := by omega
        clear hl1
        go_wp2
        clear hg0 hg1 hg2 hGl hc2
        go_loopw [9, 35] (fun _ j w2 => ∃ q : Nat, q ≤ row.length ∧ j = .int .i64 q ∧ Below w1.heap.size w1 w2 ∧ Hid (∀ c, c < q → Rw.good l (row.getD c 0) k)) (fun _ j _ => row.length - (intOf j).toNat)
        case atStart => exact ⟨0, by omega, rfl, hB2, Lib.hid (fun j hj => absurd hj (by omega))⟩
        case round =>
          clear hB2 hBw
          obtain ⟨q, hq, rfl, hB3, hrok⟩ := hrel
          have hBw3 := hB1.trans (hB3.mono hB1.size)
          have hG3 := HG1.out.below hB3 HG1.out.lt
          have hGl3 := hG3.lt
          obtain ⟨hg0, hg1, hg2⟩ := hG3
          by_cases hql : q < row.length
          · obtain ⟨rfl, hbr, _⟩ := Z3.out (by omega)
            have hx1 := bkeep hBw3 (Z4.out q hql).1
            have hxw := wf64 (Z4.out q hql).2.2
            have HRB : Hid (¬ Rw.good l (row.getD q 0) k → Rw.err t n l rows = 1) := Lib.hid (fun h => HBAD.out (fun g => h (g.2 q hql)))
            have HRO : Hid (Rw.good l (row.getD q 0) k → ∀ c, c < q + 1 → Rw.good l (row.getD c 0) k) := Lib.hid (fun h c hc => by
              rcases Nat.lt_succ_iff_lt_or_eq.1 hc with hc | rfl
              · exact hrok.out c hc
              · exact h)
            generalize row.getD q 0 = y at hx1 HRB HRO hxw
            by_cases y1 : y < -1
            · have HE := Lib.hid (HRB.out (fun g => by have := g.1; omega))
              go_wp2
              go_ret
              exact ⟨by rw [HA.out, HE.out]; rfl, hBw3⟩
            by_cases y2 : (l.length : Int) ≤ y
            · have HE := Lib.hid (HRB.out (fun g => by have := g.2.1; omega))
              go_wp2
              go_ret
              exact ⟨by rw [HA.out, HE.out]; rfl, hBw3⟩
            by_cases y3 : y < 0
            · have HX := Lib.hid (HRO.out ⟨by omega, by omega, fun h => by omega⟩)
              go_wp2
              go_roundw
              case rel => exact ⟨q + 1, by omega, by go_num, hB3, HX⟩
              case measure => simp [intOf]; omega
            obtain ⟨m, rfl⟩ := Int.eq_ofNat_of_zero_le (by omega : 0 ≤ y)
            have hml : m < l.length := by omega
            obtain ⟨rfl, hbp, _⟩ := P3.out (by omega)
            obtain ⟨_, hp1, _, _, _⟩ := P4.out m hml
            have hq1 := bkeep hBw3 hp1
            have HGD : Hid (Rw.good l m k ↔ (l.getD m (0, [])).1 = k) := Lib.hid ⟨fun g => by simpa using g.2.2 (by omega), fun g => ⟨by omega, by omega, fun _ => by simpa using g⟩⟩
            generalize (l.getD m (0, [])).1 = z at hq1 HGD
            clear hp1
            have hml2 : (m : Int) < l.length := by omega
            by_cases hz : z = (k : Int)
            · have HX := Lib.hid (HRO.out (HGD.out.2 hz))
              have hzb : (z != (k : Int)) = false := by rw [bne_eq_false_iff_eq]; exact hz
              clear hz y2 y3 y1
              go_wp2
              go_roundw
              case rel => exact ⟨q + 1, by omega, by go_num, hB3, HX⟩
              case measure => simp [intOf]; omega
            · have HE := Lib.hid (HRB.out (fun g => hz (HGD.out.1 g)))
              have hzb : (z != (k : Int)) = true := by rw [bne_iff_ne]; exact hz
              clear hz y2 y3 y1
              go_wp2
              go_ret
              exact ⟨by rw [HA.out, HE.out]; rfl, hBw3⟩
          · obtain rfl : q = row.length := by omega
            have HX := Lib.hid (HOK.out ⟨HL1.out, hrok.out⟩)
            go_wp2
            go_roundw
            case rel => exact ⟨k + 1, by omega, by go_num, hB3, HX⟩
            case measure => simp [intOf]; omega
      · have hl1b : ((row.length : Int) != t + 1) = true := by rw [bne_iff_ne]; exact hl1
        have HE := Lib.hid (HBAD.out (fun g => hl1 g.1))
        clear hl1
        go_wp2
        go_ret
        exact ⟨by rw [HA.out, HE.out]; rfl, hBw⟩
    · obtain rfl : k = rows.length := by omega
      have HE := Lib.hid (Rw.err_ok (t := t) (n := n) HL.out hok.out)
      go_wp2
      go_ret
      exact ⟨by rw [HA.out, HE.out]; rfl, hBw⟩
end Go.Proofs.Ytldapomcjfkeeaa
