/-
  A stack that parses from below, as plain data: what a column's acts do to it. (Plain functions; nothing of the program is claimed.)
-/
import Derived.Test.YtldapomcjfkeeaaBdIn
namespace Go.Proofs.Ytldapomcjfkeeaa
set_option linter.unusedVariables false

namespace Bd
/-- The act at the top. -/
def act (acts : List (List (Int × Int))) (st : List Int) (c : Nat) : Int × Int := (acts.getD (st.getD (st.length - 1) 0).toNat []).getD c (0, 0)
/-- Where a production leads from the state below it. -/
def dest (gts : List (List Int)) (st : List Int) (n : Nat) (h : Int) : Int := (gts.getD (st.getD (n - 1) 0).toNat []).getD h.toNat 0
def red (gts : List (List Int)) (st : List Int) (p : Int × List (Int × Int)) : Option (List Int) :=
  if st.length ≤ p.2.length then none
  else if dest gts st (st.length - p.2.length) p.1 < 0 then none
  else some (st.take (st.length - p.2.length) ++ [dest gts st (st.length - p.2.length) p.1])
theorem red_short {gts : List (List Int)} {st : List Int} {p : Int × List (Int × Int)} (h : st.length ≤ p.2.length) : red gts st p = none := by rw [red, if_pos h]
theorem red_neg {gts : List (List Int)} {st : List Int} {p : Int × List (Int × Int)} (h : ¬ st.length ≤ p.2.length) (h2 : dest gts st (st.length - p.2.length) p.1 < 0) : red gts st p = none := by rw [red, if_neg h, if_pos h2]
theorem red_ok {gts : List (List Int)} {st : List Int} {p : Int × List (Int × Int)} (h : ¬ st.length ≤ p.2.length) (h2 : ¬ dest gts st (st.length - p.2.length) p.1 < 0) : red gts st p = some (st.take (st.length - p.2.length) ++ [dest gts st (st.length - p.2.length) p.1]) := by rw [red, if_neg h, if_neg h2]
/-- Error, states, events. -/
def go (ps : List (Int × List (Int × Int))) (acts : List (List (Int × Int))) (gts : List (List Int)) (seen : Int) (c : Nat) : Nat → List Int → List (Int × Int) → Int × List Int × List (Int × Int)
  | 0, st, out => if (act acts st c).1 = 0 then (13, [], []) else (14, [], [])
  | k + 1, st, out =>
    if (act acts st c).1 = 0 then (13, [], [])
    else if (act acts st c).1 = 3 then (0, st, out)
    else if (act acts st c).1 = 1 then (if 60 ≤ st.length then (14, [], []) else (0, st ++ [(act acts st c).2], out ++ [(2, seen)]))
    else match red gts st (ps.getD (act acts st c).2.toNat (0, [])) with
    | none => (13, [], [])
    | some st' => if 60 < st'.length then (14, [], []) else go ps acts gts seen c k st' (out ++ [(4, (act acts st c).2)])

section
variable {ps : List (Int × List (Int × Int))} {acts : List (List (Int × Int))} {gts : List (List Int)} {seen : Int} {c k : Nat} {st : List Int} {out : List (Int × Int)} {x : Int × Int}
theorem go_none (hx : act acts st c = x) (h : x.1 = 0) : go ps acts gts seen c k st out = (13, [], []) := by
  cases k <;> rw [go, hx, if_pos h]
theorem go_end (hx : act acts st c = x) (h : x.1 ≠ 0) : go ps acts gts seen c 0 st out = (14, [], []) := by
  rw [go, hx, if_neg h]
theorem go_acc (hx : act acts st c = x) (h : x.1 = 3) : go ps acts gts seen c (k + 1) st out = (0, st, out) := by
  rw [go, hx, if_neg (by omega), if_pos h]
theorem go_shiftDeep (hx : act acts st c = x) (h : x.1 = 1) (hl : 60 ≤ st.length) : go ps acts gts seen c (k + 1) st out = (14, [], []) := by
  rw [go, hx, if_neg (by omega), if_neg (by omega), if_pos h, if_pos hl]
theorem go_shift (hx : act acts st c = x) (h : x.1 = 1) (hl : st.length < 60) : go ps acts gts seen c (k + 1) st out = (0, st ++ [x.2], out ++ [(2, seen)]) := by
  rw [go, hx, if_neg (by omega), if_neg (by omega), if_pos h, if_neg (by omega)]
theorem go_redNo (hx : act acts st c = x) (h : x.1 = 2) (hr : red gts st (ps.getD x.2.toNat (0, [])) = none) : go ps acts gts seen c (k + 1) st out = (13, [], []) := by
  rw [go, hx, if_neg (by omega), if_neg (by omega), if_neg (by omega), hr]
theorem go_redDeep {s2 : List Int} (hx : act acts st c = x) (h : x.1 = 2) (hr : red gts st (ps.getD x.2.toNat (0, [])) = some s2) (hl : 60 < s2.length) : go ps acts gts seen c (k + 1) st out = (14, [], []) := by
  rw [go, hx, if_neg (by omega), if_neg (by omega), if_neg (by omega), hr]
  exact if_pos hl
theorem go_red {s2 : List Int} (hx : act acts st c = x) (h : x.1 = 2) (hr : red gts st (ps.getD x.2.toNat (0, [])) = some s2) (hl : ¬ 60 < s2.length) : go ps acts gts seen c (k + 1) st out = go ps acts gts seen c k s2 (out ++ [(4, x.2)]) := by
  rw [go, hx, if_neg (by omega), if_neg (by omega), if_neg (by omega), hr]
  exact if_neg hl
end

/-- A stack that may be handed in. -/
def fits (m : Nat) (st : List Int) (seen : Int) (over : Bool) : Bool :=
  decide (st.length ≤ 60) && decide (0 ≤ seen) && decide (seen ≤ 1099511627776) && (decide (0 < st.length) || over) && !(st.any (out m))
open Classical in
/-- What is wrong ahead of all (te: what is wrong with the table). -/
noncomputable def right (te : Int) (m : Nat) (st : List Int) (seen : Int) (over : Bool) : Int := if te ≠ 0 then te else if fits m st seen over = true then 0 else 1
theorem right_te {te : Int} {m : Nat} {st : List Int} {seen : Int} {over : Bool} (h : te ≠ 0) : right te m st seen over = te := by rw [right, if_pos h]
theorem right_ok {m : Nat} {st : List Int} {seen : Int} {over : Bool} (h : fits m st seen over = true) : right 0 m st seen over = 0 := by rw [right, if_neg (by simp), if_pos h]
theorem right_bad {m : Nat} {st : List Int} {seen : Int} {over : Bool} (h : fits m st seen over ≠ true) : right 0 m st seen over = 1 := by rw [right, if_neg (by simp), if_neg h]
theorem fits_iff {m : Nat} {st : List Int} {seen : Int} {over : Bool} : fits m st seen over = true ↔ st.length ≤ 60 ∧ 0 ≤ seen ∧ seen ≤ 1099511627776 ∧ (0 < st.length ∨ over = true) ∧ st.any (out m) = false := by
  simp only [fits, Bool.and_eq_true, decide_eq_true_eq, Bool.or_eq_true, Bool.not_eq_true', and_assoc]
open Classical in
noncomputable def chk (te : Int) (t : Int) (m : Nat) (st : List Int) (seen : Int) (over : Bool) (col : Int) : Int :=
  if te ≠ 0 then te else if fits m st seen over = true ∧ 0 ≤ col ∧ col ≤ t then (if over = true then 15 else 0) else 1
theorem chk_te {te t : Int} {m : Nat} {st : List Int} {seen : Int} {over : Bool} {col : Int} (h : te ≠ 0) : chk te t m st seen over col = te := by rw [chk, if_pos h]
theorem chk_bad {t : Int} {m : Nat} {st : List Int} {seen : Int} {over : Bool} {col : Int} (h : ¬ (fits m st seen over = true ∧ 0 ≤ col ∧ col ≤ t)) : chk 0 t m st seen over col = 1 := by rw [chk, if_neg (by simp), if_neg h]
theorem chk_over {t : Int} {m : Nat} {st : List Int} {seen : Int} {col : Int} (h : fits m st seen true = true ∧ 0 ≤ col ∧ col ≤ t) : chk 0 t m st seen true col = 15 := by rw [chk, if_neg (by simp), if_pos h, if_pos rfl]
theorem chk_ok {t : Int} {m : Nat} {st : List Int} {seen : Int} {col : Int} (h : fits m st seen false = true ∧ 0 ≤ col ∧ col ≤ t) : chk 0 t m st seen false col = 0 := by rw [chk, if_neg (by simp), if_pos h, if_neg (by simp)]
theorem chk_zero {te t : Int} {m : Nat} {st : List Int} {seen : Int} {over : Bool} {col : Int} (h : chk te t m st seen over col = 0) : te = 0 ∧ over = false ∧ 0 ≤ col ∧ col ≤ t ∧ st.length ≤ 60 ∧ 0 ≤ seen ∧ seen ≤ 1099511627776 ∧ 0 < st.length ∧ st.any (out m) = false := by
  by_cases h1 : te = 0
  · subst h1
    by_cases h2 : fits m st seen over = true ∧ 0 ≤ col ∧ col ≤ t
    · cases over
      · have h3 := fits_iff.1 h2.1
        refine ⟨rfl, rfl, h2.2.1, h2.2.2, h3.1, h3.2.1, h3.2.2.1, ?_, h3.2.2.2.2⟩
        rcases h3.2.2.2.1 with h | h
        · exact h
        · cases h
      · rw [chk_over h2] at h; omega
    · rw [chk_bad h2] at h; omega
  · rw [chk_te h1] at h; exact absurd h h1
/-- What the law asks: at a terminal, at the end. -/
noncomputable def atTerm (e t : Int) (over : Bool) (term : Int) : Int :=
  let e1 := if e = 0 ∧ (term < 0 ∨ t ≤ term) then 1 else e
  if e1 = 0 ∧ over = true then 15 else e1
noncomputable def atEnd (e : Int) (over : Bool) : Int := if e = 0 ∧ over = true then 15 else e
theorem chk_term {te t : Int} (ht : 0 ≤ t) {m : Nat} {st : List Int} {seen : Int} {over : Bool} {term : Int} : chk te t m st seen over (if term = t then -1 else term) = atTerm (right te m st seen over) t over term := by
  by_cases h1 : te = 0
  · subst h1
    by_cases h2 : fits m st seen over = true
    · rw [right_ok h2]
      by_cases h3 : term < 0 ∨ t ≤ term
      · rw [chk_bad (by split <;> omega), atTerm]; simp [h3]
      · have h4 : ¬ term = t := by omega
        rw [if_neg h4, atTerm]
        cases over
        · rw [chk_ok ⟨h2, by omega, by omega⟩]; simp [h3]
        · rw [chk_over ⟨h2, by omega, by omega⟩]; simp [h3]
    · rw [right_bad h2, chk_bad (fun g => h2 g.1), atTerm]; simp
  · rw [right_te h1, chk_te h1, atTerm]; simp [h1]
theorem chk_end {te t : Int} (ht : 0 ≤ t) {m : Nat} {st : List Int} {seen : Int} {over : Bool} : chk te t m st seen over t = atEnd (right te m st seen over) over := by
  by_cases h1 : te = 0
  · subst h1
    by_cases h2 : fits m st seen over = true
    · rw [right_ok h2, atEnd]
      cases over
      · rw [chk_ok ⟨h2, by omega, by omega⟩]; simp
      · rw [chk_over ⟨h2, by omega, by omega⟩]; simp
    · rw [right_bad h2, chk_bad (fun g => h2 g.1), atEnd]; simp
  · rw [right_te h1, chk_te h1, atEnd]; simp [h1]

/-- What a step tells: error, the stack behind it, the events. -/
structure R where
  err : Int
  st : List Int
  seen : Int
  over : Int
  done : Bool
  out : List (Int × Int)
def fin (last : Bool) (x : Int × List Int × List (Int × Int)) (seen : Int) : R :=
  if x.1 ≠ 0 then ⟨x.1, [], seen, x.1, false, []⟩ else if last = true then ⟨0, [], seen, 0, true, x.2.2⟩ else ⟨0, x.2.1, seen + 1, 0, false, x.2.2⟩
theorem fin_bad {last x seen} (h : x.1 ≠ 0) : fin last x seen = ⟨x.1, [], seen, x.1, false, []⟩ := by rw [fin, if_pos h]
theorem fin_end {x seen} (h : x.1 = 0) : fin true x seen = ⟨0, [], seen, 0, true, x.2.2⟩ := by rw [fin, if_neg (by omega), if_pos rfl]
theorem fin_go {x seen} (h : x.1 = 0) : fin false x seen = ⟨0, x.2.1, seen + 1, 0, false, x.2.2⟩ := by rw [fin, if_neg (by omega), if_neg (by simp)]
/-- States within bounds stay so. -/
theorem any_out {m : Nat} {st : List Int} (h : st.any (out m) = false) (i : Nat) (hi : i < st.length) : 0 ≤ st.getD i 0 ∧ st.getD i 0 < m := by
  have h1 : st.getD i 0 = st[i] := by simp [List.getD, hi]
  rw [h1]
  refine out_iff.1 ?_
  have := List.any_eq_false.1 h st[i] (List.getElem_mem hi)
  simpa using this
theorem any_red {m : Nat} {st : List Int} (h : st.any (out m) = false) {k : Nat} {x : Int} (h0 : 0 ≤ x) (h1 : x < m) : (st.take k ++ [x]).any (out m) = false := by
  rw [List.any_append, Bool.or_eq_false_iff]
  refine ⟨?_, by simp only [List.any_cons, List.any_nil, Bool.or_false]; exact out_iff.2 ⟨h0, h1⟩⟩
  rw [List.any_eq_false] at h ⊢
  exact fun y hy => h y (List.mem_of_mem_take hy)
end Bd
def Bd.Ret (r : Bd.R) (w : World) (e : Ending) (w' : World) : Prop := ∃ vs ve, e = .returned (.tuple #[.agg #[vs, .int .i64 r.seen, .int .i64 r.over, .bool r.done], ve, .int .i64 r.err]) ∧ St w w' [aOwn 3 1 vs (r.st.map (Value.int .i64)), aOwn 81 2 ve (r.out.map pairV)]
attribute [irreducible] Bd.right Bd.chk Bd.fits Bd.go Bd.red Bd.act Bd.dest
end Go.Proofs.Ytldapomcjfkeeaa
