/-
  check of package climb: what is wrong with a grammar, rows, a climber and a column.
-/
import Derived.Test.YtldapomcjfkeeaaClDn
namespace Go.Proofs.Ytldapomcjfkeeaa
set_option linter.unusedVariables false
open Go.ChangeShapes Go.WideShapes Go.ChangeAt Go.RowKit

namespace Cl
/-- What is ahead and how much was seen: may it be handed in? -/
def fits (t n : Int) (np : Nat) (td : List T) (seen : Int) : Bool := decide (td.length ≤ 60) && decide (0 ≤ seen) && decide (seen ≤ 1099511627776) && !(td.any fun x => !good t n np x)
theorem fits_iff {t n : Int} {np : Nat} {td : List T} {seen : Int} : fits t n np td seen = true ↔ td.length ≤ 60 ∧ 0 ≤ seen ∧ seen ≤ 1099511627776 ∧ (td.any fun x => !good t n np x) = false := by
  simp only [fits, Bool.and_eq_true, decide_eq_true_eq, Bool.not_eq_true', and_assoc]
/-- What check tells (te: what is wrong with the rows). -/
def chk (te t : Int) (fit over : Bool) (col : Int) : Int := if te ≠ 0 then te else if fit = true ∧ 0 ≤ col ∧ col ≤ t then (if over = true then 15 else 0) else 1
def wrong (te : Int) (fit : Bool) : Int := if te ≠ 0 then te else if fit = true then 0 else 1
theorem wrong_ok : wrong 0 true = 0 := by simp [wrong]
theorem wrong_no : wrong 0 false = 1 := by simp [wrong]
theorem wrong_te {te : Int} {f : Bool} (h : te ≠ 0) : wrong te f = te := by rw [wrong, if_pos h]
theorem chk_te {te t : Int} {fit over : Bool} {col : Int} (h : te ≠ 0) : chk te t fit over col = te := by rw [chk, if_pos h]
theorem chk_bad {t : Int} {fit over : Bool} {col : Int} (h : ¬ (fit = true ∧ 0 ≤ col ∧ col ≤ t)) : chk 0 t fit over col = 1 := by rw [chk, if_neg (by simp), if_neg h]
theorem chk_over {t : Int} {fit : Bool} {col : Int} (h : fit = true ∧ 0 ≤ col ∧ col ≤ t) : chk 0 t fit true col = 15 := by rw [chk, if_neg (by simp), if_pos h, if_pos rfl]
theorem chk_ok {t : Int} {fit : Bool} {col : Int} (h : fit = true ∧ 0 ≤ col ∧ col ≤ t) : chk 0 t fit false col = 0 := by rw [chk, if_neg (by simp), if_pos h, if_neg (by simp)]
theorem chk_zero {te t : Int} {fit over : Bool} {col : Int} (h : chk te t fit over col = 0) : te = 0 ∧ over = false ∧ fit = true ∧ 0 ≤ col ∧ col ≤ t := by
  by_cases h1 : te = 0
  · subst h1
    by_cases h2 : fit = true ∧ 0 ≤ col ∧ col ≤ t
    · cases over
      · exact ⟨rfl, rfl, h2.1, h2.2.1, h2.2.2⟩
      · rw [chk_over h2] at h; omega
    · rw [chk_bad h2] at h; omega
  · rw [chk_te h1] at h; exact absurd h h1
/-- What the law asks: at a terminal, at the end. -/
def atTerm (e t : Int) (over : Bool) (term : Int) : Int :=
  let e1 := if e = 0 ∧ (term < 0 ∨ t ≤ term) then 1 else e
  if e1 = 0 ∧ over = true then 15 else e1
def atEnd (e : Int) (over : Bool) : Int := if e = 0 ∧ over = true then 15 else e
theorem chk_term {te t : Int} (ht : te = 0 → 0 ≤ t) {fit over : Bool} {term : Int} : chk te t fit over (if term = t then -1 else term) = atTerm (wrong te fit) t over term := by
  by_cases h1 : te = 0
  · subst h1
    have ht := ht rfl
    cases fit
    · rw [chk_bad (by simp), atTerm, wrong_no]; simp
    · rw [wrong_ok]
      by_cases h3 : term < 0 ∨ t ≤ term
      · rw [chk_bad (by split <;> omega), atTerm]; simp [h3]
      · have h4 : ¬ term = t := by omega
        rw [if_neg h4, atTerm]
        cases over
        · rw [chk_ok ⟨rfl, by omega, by omega⟩]; simp [h3]
        · rw [chk_over ⟨rfl, by omega, by omega⟩]; simp [h3]
  · rw [wrong_te h1, chk_te h1, atTerm]; simp [h1]
theorem chk_end {te t : Int} (ht : te = 0 → 0 ≤ t) {fit over : Bool} : chk te t fit over t = atEnd (wrong te fit) over := by
  by_cases h1 : te = 0
  · subst h1
    have ht := ht rfl
    cases fit
    · rw [chk_bad (by simp), atEnd, wrong_no]; simp
    · rw [wrong_ok, atEnd]
      cases over
      · rw [chk_ok ⟨rfl, by omega, by omega⟩]; simp
      · rw [chk_over ⟨rfl, by omega, by omega⟩]; simp
  · rw [wrong_te h1, chk_te h1, atEnd]; simp [h1]
theorem alts (len : Nat) (seen col t : Int) :
    60 < len ∨ (len ≤ 60 ∧ seen < 0) ∨ (len ≤ 60 ∧ 0 ≤ seen ∧ 1099511627776 < seen) ∨ (len ≤ 60 ∧ 0 ≤ seen ∧ seen ≤ 1099511627776 ∧ col < 0) ∨ (len ≤ 60 ∧ 0 ≤ seen ∧ seen ≤ 1099511627776 ∧ 0 ≤ col ∧ t < col) ∨
    (len ≤ 60 ∧ 0 ≤ seen ∧ seen ≤ 1099511627776 ∧ 0 ≤ col ∧ col ≤ t) := by omega
attribute [irreducible] fits chk wrong atTerm atEnd
end Cl

set_option maxRecDepth 100000 in
set_option maxHeartbeats 8000000 in
theorem clCheck_any (t n seen ov col : Int) (dn : Bool) (vp vr vs : Value) (l : List (Int × List (Int × Int))) (rows : List (List Int)) (td : List Cl.T) (w : World) (F : Nat → Prop) (hF : ∀ b, F b → b < w.heap.size) (h : Enc.prods.R F w [vp] l)
    (hr : (((Enc.int .i64).sl 8).sl 24).R F w [vr] rows) (hs : (Enc.todo.sl 32).R F w [vs] td) :
    Calls Try.prog 127 #[.agg #[.int .i64 t, .int .i64 n, vp], vr, .agg #[vs, .int .i64 seen, .int .i64 ov, .bool dn], .int .i64 col] w fun e w' => e = .returned (.int .i64 (Cl.chk (Rw.all t n l rows) t (Cl.fits t n l.length td seen) (decide (ov ≠ 0) || dn) col)) ∧ Below w.heap.size w w' := by
  have HC := Lib.hid (fun W' (hW : Below w.heap.size w W') => llCheck_any t n vp vr l rows W' F (fun b hb => Nat.lt_of_lt_of_le (hF b hb) hW.size) (Enc.mono _ h (fun _ h => h) (fun b hb => hW.block b (hF b hb))) (Enc.mono _ hr (fun _ h => h) (fun b hb => hW.block b (hF b hb))))
  obtain ⟨aop, -, -, cp, rfl, -⟩ := slProds h
  have HI := Lib.hid (fun W' (hW : Below w.heap.size w W') G hT => clIn_any t n l.length aop cp G td vs W' F (Enc.mono _ hs (fun _ h => h) (fun b hb => hW.block b (hF b hb))) hT)
  obtain ⟨aos, -, -, cs, rfl, -⟩ := slTodo hs
  have hst := ((St.init w).alloc #[.int .i64 t, .int .i64 n, .slice aop l.length cp] 68).alloc #[.slice aos td.length cs, .int .i64 seen, .int .i64 ov, .bool dn] 121
  simp only [World.size_alloc] at hst
  clear h hr hs hF
  generalize hA : (td.any fun x => !Cl.good t n l.length x) = A at *
  generalize hE : Rw.all t n l rows = E at *
  obtain ⟨R, hR⟩ : ∃ R, Cl.chk E t (Cl.fits t n l.length td seen) (decide (ov ≠ 0) || dn) col = R := ⟨_, rfl⟩
  rw [hR]
  have HTE : Hid (E ≠ 0 → R = E) := Lib.hid (fun g => by rw [← hR]; exact Cl.chk_te g)
  have HBAD : Hid (E = 0 → ¬ (td.length ≤ 60 ∧ 0 ≤ seen ∧ seen ≤ 1099511627776 ∧ A = false ∧ 0 ≤ col ∧ col ≤ t) → R = 1) := Lib.hid (fun g g2 => by
    rw [← hR, g]
    refine Cl.chk_bad (fun q => g2 ?_)
    have := Cl.fits_iff.1 q.1
    rw [hA] at this
    exact ⟨this.1, this.2.1, this.2.2.1, this.2.2.2, q.2⟩)
  have HOK : Hid (E = 0 → td.length ≤ 60 ∧ 0 ≤ seen ∧ seen ≤ 1099511627776 ∧ A = false ∧ 0 ≤ col ∧ col ≤ t → R = if (decide (ov ≠ 0) || dn) = true then 15 else 0) := Lib.hid (fun g g2 => by
    have hf : Cl.fits t n l.length td seen = true := Cl.fits_iff.2 ⟨g2.1, g2.2.1, g2.2.2.1, by rw [hA]; exact g2.2.2.2.1⟩
    rw [← hR, g, hf]
    cases (decide (ov ≠ 0) || dn)
    · rw [Cl.chk_ok ⟨rfl, g2.2.2.2.2⟩]; rfl
    · rw [Cl.chk_over ⟨rfl, g2.2.2.2.2⟩]; rfl)
  clear hA hR hE
  by_cases hE : E ≠ 0
  · have HE := Lib.hid (HTE.out hE)
    have hEb : (E != 0) = true := by rw [bne_iff_ne]; exact hE
    clear hE
    go_enter Try.func127, Try.ntmps127
    go_wp2_with (fail)
    go_at_call 67
    refine (HC.out _ hst.bel).mono ?_
    rintro e w1 ⟨rfl, hb1⟩
    replace hst := hst.call hb1
    clear hb1
    obtain ⟨g0, g1, g2⟩ := hst.at3 1 rfl
    obtain ⟨s0, s1, s2, s3⟩ := hst.at4 0 rfl
    go_wp2
    go_ret
    exact ⟨by rw [HE.out]; rfl, hst.bel⟩
  obtain rfl : E = 0 := by omega
  clear hE
  rcases Cl.alts td.length seen col t with h | ⟨h1, h⟩ | ⟨h1, h2, h⟩ | ⟨h1, h2, h3, h⟩ | ⟨h1, h2, h3, h4, h⟩ | ⟨h1, h2, h3, h4, h5⟩
  · have HE := Lib.hid (HBAD.out rfl (by omega))
    go_enter Try.func127, Try.ntmps127
    go_wp2_with (fail)
    go_at_call 67
    refine (HC.out _ hst.bel).mono ?_
    rintro e w1 ⟨rfl, hb1⟩
    replace hst := hst.call hb1
    clear hb1
    obtain ⟨g0, g1, g2⟩ := hst.at3 1 rfl
    obtain ⟨s0, s1, s2, s3⟩ := hst.at4 0 rfl
    go_wp2
    go_ret
    exact ⟨by rw [HE.out]; rfl, hst.bel⟩
  · have HE := Lib.hid (HBAD.out rfl (by omega))
    go_enter Try.func127, Try.ntmps127
    go_wp2_with (fail)
    go_at_call 67
    refine (HC.out _ hst.bel).mono ?_
    rintro e w1 ⟨rfl, hb1⟩
    replace hst := hst.call hb1
    clear hb1
    obtain ⟨g0, g1, g2⟩ := hst.at3 1 rfl
    obtain ⟨s0, s1, s2, s3⟩ := hst.at4 0 rfl
    go_wp2
    go_ret
    exact ⟨by rw [HE.out]; rfl, hst.bel⟩
  · have HE := Lib.hid (HBAD.out rfl (by omega))
    go_enter Try.func127, Try.ntmps127
    go_wp2_with (fail)
    go_at_call 67
    refine (HC.out _ hst.bel).mono ?_
    rintro e w1 ⟨rfl, hb1⟩
    replace hst := hst.call hb1
    clear hb1
    obtain ⟨g0, g1, g2⟩ := hst.at3 1 rfl
    obtain ⟨s0, s1, s2, s3⟩ := hst.at4 0 rfl
    go_wp2
    go_ret
    exact ⟨by rw [HE.out]; rfl, hst.bel⟩
  · have HE := Lib.hid (HBAD.out rfl (by omega))
    go_enter Try.func127, Try.ntmps127
    go_wp2_with (fail)
    go_at_call 67
    refine (HC.out _ hst.bel).mono ?_
    rintro e w1 ⟨rfl, hb1⟩
    replace hst := hst.call hb1
    clear hb1
    obtain ⟨g0, g1, g2⟩ := hst.at3 1 rfl
    obtain ⟨s0, s1, s2, s3⟩ := hst.at4 0 rfl
    go_wp2
    go_ret
    exact ⟨by rw [HE.out]; rfl, hst.bel⟩
  · have HE := Lib.hid (HBAD.out rfl (by omega))
    go_enter Try.func127, Try.ntmps127
    go_wp2_with (fail)
    go_at_call 67
    refine (HC.out _ hst.bel).mono ?_
    rintro e w1 ⟨rfl, hb1⟩
    replace hst := hst.call hb1
    clear hb1
    obtain ⟨g0, g1, g2⟩ := hst.at3 1 rfl
    obtain ⟨s0, s1, s2, s3⟩ := hst.at4 0 rfl
    go_wp2
    go_ret
    exact ⟨by rw [HE.out]; rfl, hst.bel⟩
  · cases A
    · have HO := Lib.hid (HOK.out rfl ⟨h1, h2, h3, rfl, h4, h5⟩)
      by_cases ho : ov = 0
      · subst ho
        cases dn
        all_goals
          have HE := HO
          simp only [ne_eq, not_true_eq_false, decide_false, Bool.or_false, Bool.or_true, Bool.false_eq_true, if_false, if_true] at HE
          go_enter Try.func127, Try.ntmps127
          go_wp2_with (fail)
          go_at_call 67
          refine (HC.out _ hst.bel).mono ?_
          rintro e w1 ⟨rfl, hb1⟩
          replace hst := hst.call hb1
          clear hb1
          obtain ⟨g0, g1, g2⟩ := hst.at3 1 rfl
          obtain ⟨s0, s1, s2, s3⟩ := hst.at4 0 rfl
          go_wp2_with (fail)
          go_at_call 156
          refine (HI.out _ hst.bel w.heap.size ⟨g0, g1, g2⟩).mono ?_
          rintro e w2 ⟨rfl, hb2⟩
          replace hst := hst.call hb2
          clear hb2 g0 g1 g2 s0 s1 s2 s3
          obtain ⟨s0, s1, s2, s3⟩ := hst.at4 0 rfl
          go_wp2
          go_ret
          exact ⟨by rw [HE.out]; rfl, hst.bel⟩
      · have hob : (ov != 0) = true := by rw [bne_iff_ne]; exact ho
        have HE : Hid (R = 15) := Lib.hid (by rw [HO.out]; simp [ho])
        clear ho
        go_enter Try.func127, Try.ntmps127
        go_wp2_with (fail)
        go_at_call 67
        refine (HC.out _ hst.bel).mono ?_
        rintro e w1 ⟨rfl, hb1⟩
        replace hst := hst.call hb1
        clear hb1
        obtain ⟨g0, g1, g2⟩ := hst.at3 1 rfl
        obtain ⟨s0, s1, s2, s3⟩ := hst.at4 0 rfl
        go_wp2_with (fail)
        go_at_call 156
        refine (HI.out _ hst.bel w.heap.size ⟨g0, g1, g2⟩).mono ?_
        rintro e w2 ⟨rfl, hb2⟩
        replace hst := hst.call hb2
        clear hb2 g0 g1 g2 s0 s1 s2 s3
        obtain ⟨s0, s1, s2, s3⟩ := hst.at4 0 rfl
        go_wp2
        go_ret
        exact ⟨by rw [HE.out]; rfl, hst.bel⟩
    · have HE := Lib.hid (HBAD.out rfl (by simp))
      go_enter Try.func127, Try.ntmps127
      go_wp2_with (fail)
      go_at_call 67
      refine (HC.out _ hst.bel).mono ?_
      rintro e w1 ⟨rfl, hb1⟩
      replace hst := hst.call hb1
      clear hb1
      obtain ⟨g0, g1, g2⟩ := hst.at3 1 rfl
      obtain ⟨s0, s1, s2, s3⟩ := hst.at4 0 rfl
      go_wp2_with (fail)
      go_at_call 156
      refine (HI.out _ hst.bel w.heap.size ⟨g0, g1, g2⟩).mono ?_
      rintro e w2 ⟨rfl, hb2⟩
      replace hst := hst.call hb2
      clear hb2 g0 g1 g2 s0 s1 s2 s3
      obtain ⟨s0, s1, s2, s3⟩ := hst.at4 0 rfl
      go_wp2
      go_ret
      exact ⟨by rw [HE.out]; rfl, hst.bel⟩
end Go.Proofs.Ytldapomcjfkeeaa
