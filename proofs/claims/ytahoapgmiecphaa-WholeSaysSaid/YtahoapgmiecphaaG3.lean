/-
  Parts of the proof of WholeSays, put together: Bd RTable GramIn TabAny BdRed BdChk DfaDat CloneDat Clone BdRun ArrEq SlEq BdSame BdPush BdRight BdLaw LexP Ws Packed PackedRef PackedChk Made WsInv SepPick WsPar. (Helper texts.)
-/
import Derived.Test.YtahoapgmiecphaaG1
import Derived.Test.YtahoapgmiecphaaG2
import Derived.Lib.BufferMore
import Derived.Deep.RegionLaw
import Derived.Deep.DeepCutAuto
import Derived.Lib.Hide

/-
  A stack that parses from below, as plain data: what a column's acts do to it. (Plain functions; nothing of the program is claimed.)
-/
namespace Go.Proofs.Ytahoapgmiecphaa
set_option linter.unusedVariables false

namespace Bd
/-- The act at the top. -/
def act (acts : List (List (Int × Int))) (st : List Int) (c : Nat) : Int × Int := (acts.getD (st.getD (st.length - 1) 0).toNat []).getD c (0, 0)
/-- Where a production leads from the state below it. -/
def dest (gts : List (List Int)) (st : List Int) (n : Nat) (h : Int) : Int := (gts.getD (st.getD (n - 1) 0).toNat []).getD h.toNat 0
def red (gts : List (List Int)) (st : List Int) (p : Int × List (Int × Int)) : Option (List Int) :=
  if st.length ≤ p.2.length then none
  else if dest gts st (st.length - p.2.length) p.1 < 0 then none
  else some (st.take (st.length - p.2.length) ++ [dest gts st (st.length - p.2.length) p.1])
theorem red_short {gts : List (List Int)} {st : List Int} {p : Int × List (Int × Int)} (h : st.length ≤ p.2.length) : red gts st p = none := by rw [red, if_pos h]
theorem red_neg {gts : List (List Int)} {st : List Int} {p : Int × List (Int × Int)} (h : ¬ st.length ≤ p.2.length) (h2 : dest gts st (st.length - p.2.length) p.1 < 0) : red gts st p = none := by rw [red, if_neg h, if_pos h2]
theorem red_ok {gts : List (List Int)} {st : List Int} {p : Int × List (Int × Int)} (h : ¬ st.length ≤ p.2.length) (h2 : ¬ dest gts st (st.length - p.2.length) p.1 < 0) : red gts st p = some (st.take (st.length - p.2.length) ++ [dest gts st (st.length - p.2.length) p.1]) := by rw [red, if_neg h, if_neg h2]
/-- Error, states, events. -/
def go (ps : List (Int × List (Int × Int))) (acts : List (List (Int × Int))) (gts : List (List Int)) (seen : Int) (c : Nat) : Nat → List Int → List (Int × Int) → Int × List Int × List (Int × Int)
  | 0, st, out => if (act acts st c).1 = 0 then (13, [], []) else (14, [], [])
  | k + 1, st, out =>
    if (act acts st c).1 = 0 then (13, [], [])
    else if (act acts st c).1 = 3 then (0, st, out)
    else if (act acts st c).1 = 1 then (if 60 ≤ st.length then (14, [], []) else (0, st ++ [(act acts st c).2], out ++ [(2, seen)]))
    else match red gts st (ps.getD (act acts st c).2.toNat (0, [])) with
    | none => (13, [], [])
    | some st' => if 60 < st'.length then (14, [], []) else go ps acts gts seen c k st' (out ++ [(4, (act acts st c).2)])

section
variable {ps : List (Int × List (Int × Int))} {acts : List (List (Int × Int))} {gts : List (List Int)} {seen : Int} {c k : Nat} {st : List Int} {out : List (Int × Int)} {x : Int × Int}
theorem go_none (hx : act acts st c = x) (h : x.1 = 0) : go ps acts gts seen c k st out = (13, [], []) := by
  cases k <;> rw [go, hx, if_pos h]
theorem go_end (hx : act acts st c = x) (h : x.1 ≠ 0) : go ps acts gts seen c 0 st out = (14, [], []) := by
  rw [go, hx, if_neg h]
theorem go_acc (hx : act acts st c = x) (h : x.1 = 3) : go ps acts gts seen c (k + 1) st out = (0, st, out) := by
  rw [go, hx, if_neg (by omega), if_pos h]
theorem go_shiftDeep (hx : act acts st c = x) (h : x.1 = 1) (hl : 60 ≤ st.length) : go ps acts gts seen c (k + 1) st out = (14, [], []) := by
  rw [go, hx, if_neg (by omega), if_neg (by omega), if_pos h, if_pos hl]
theorem go_shift (hx : act acts st c = x) (h : x.1 = 1) (hl : st.length < 60) : go ps acts gts seen c (k + 1) st out = (0, st ++ [x.2], out ++ [(2, seen)]) := by
  rw [go, hx, if_neg (by omega), if_neg (by omega), if_pos h, if_neg (by omega)]
theorem go_redNo (hx : act acts st c = x) (h : x.1 = 2) (hr : red gts st (ps.getD x.2.toNat (0, [])) = none) : go ps acts gts seen c (k + 1) st out = (13, [], []) := by
  rw [go, hx, if_neg (by omega), if_neg (by omega), if_neg (by omega), hr]
theorem go_redDeep {s2 : List Int} (hx : act acts st c = x) (h : x.1 = 2) (hr : red gts st (ps.getD x.2.toNat (0, [])) = some s2) (hl : 60 < s2.length) : go ps acts gts seen c (k + 1) st out = (14, [], []) := by
  rw [go, hx, if_neg (by omega), if_neg (by omega), if_neg (by omega), hr]
  exact if_pos hl
theorem go_red {s2 : List Int} (hx : act acts st c = x) (h : x.1 = 2) (hr : red gts st (ps.getD x.2.toNat (0, [])) = some s2) (hl : ¬ 60 < s2.length) : go ps acts gts seen c (k + 1) st out = go ps acts gts seen c k s2 (out ++ [(4, x.2)]) := by
  rw [go, hx, if_neg (by omega), if_neg (by omega), if_neg (by omega), hr]
  exact if_neg hl
end

/-- A stack that may be handed in. -/
def fits (m : Nat) (st : List Int) (seen : Int) (over : Bool) : Bool :=
  decide (st.length ≤ 60) && decide (0 ≤ seen) && decide (seen ≤ 1099511627776) && (decide (0 < st.length) || over) && !(st.any (out m))
open Classical in
/-- What is wrong ahead of all (te: what is wrong with the table). -/
noncomputable def right (te : Int) (m : Nat) (st : List Int) (seen : Int) (over : Bool) : Int := if te ≠ 0 then te else if fits m st seen over = true then 0 else 1
theorem right_te {te : Int} {m : Nat} {st : List Int} {seen : Int} {over : Bool} (h : te ≠ 0) : right te m st seen over = te := by rw [right, if_pos h]
theorem right_ok {m : Nat} {st : List Int} {seen : Int} {over : Bool} (h : fits m st seen over = true) : right 0 m st seen over = 0 := by rw [right, if_neg (by simp), if_pos h]
theorem right_bad {m : Nat} {st : List Int} {seen : Int} {over : Bool} (h : fits m st seen over ≠ true) : right 0 m st seen over = 1 := by rw [right, if_neg (by simp), if_neg h]
theorem fits_iff {m : Nat} {st : List Int} {seen : Int} {over : Bool} : fits m st seen over = true ↔ st.length ≤ 60 ∧ 0 ≤ seen ∧ seen ≤ 1099511627776 ∧ (0 < st.length ∨ over = true) ∧ st.any (out m) = false := by
  simp only [fits, Bool.and_eq_true, decide_eq_true_eq, Bool.or_eq_true, Bool.not_eq_true', and_assoc]
open Classical in
noncomputable def chk (te : Int) (t : Int) (m : Nat) (st : List Int) (seen : Int) (over : Bool) (col : Int) : Int :=
  if te ≠ 0 then te else if fits m st seen over = true ∧ 0 ≤ col ∧ col ≤ t then (if over = true then 15 else 0) else 1
theorem chk_te {te t : Int} {m : Nat} {st : List Int} {seen : Int} {over : Bool} {col : Int} (h : te ≠ 0) : chk te t m st seen over col = te := by rw [chk, if_pos h]
theorem chk_bad {t : Int} {m : Nat} {st : List Int} {seen : Int} {over : Bool} {col : Int} (h : ¬ (fits m st seen over = true ∧ 0 ≤ col ∧ col ≤ t)) : chk 0 t m st seen over col = 1 := by rw [chk, if_neg (by simp), if_neg h]
theorem chk_over {t : Int} {m : Nat} {st : List Int} {seen : Int} {col : Int} (h : fits m st seen true = true ∧ 0 ≤ col ∧ col ≤ t) : chk 0 t m st seen true col = 15 := by rw [chk, if_neg (by simp), if_pos h, if_pos rfl]
theorem chk_ok {t : Int} {m : Nat} {st : List Int} {seen : Int} {col : Int} (h : fits m st seen false = true ∧ 0 ≤ col ∧ col ≤ t) : chk 0 t m st seen false col = 0 := by rw [chk, if_neg (by simp), if_pos h, if_neg (by simp)]
theorem chk_zero {te t : Int} {m : Nat} {st : List Int} {seen : Int} {over : Bool} {col : Int} (h : chk te t m st seen over col = 0) : te = 0 ∧ over = false ∧ 0 ≤ col ∧ col ≤ t ∧ st.length ≤ 60 ∧ 0 ≤ seen ∧ seen ≤ 1099511627776 ∧ 0 < st.length ∧ st.any (out m) = false := by
  by_cases h1 : te = 0
  · subst h1
    by_cases h2 : fits m st seen over = true ∧ 0 ≤ col ∧ col ≤ t
    · cases over
      · have h3 := fits_iff.1 h2.1
        refine ⟨rfl, rfl, h2.2.1, h2.2.2, h3.1, h3.2.1, h3.2.2.1, ?_, h3.2.2.2.2⟩
        rcases h3.2.2.2.1 with h | h
        · exact h
        · cases h
      · rw [chk_over h2] at h; omega
    · rw [chk_bad h2] at h; omega
  · rw [chk_te h1] at h; exact absurd h h1
/-- What the law asks: at a terminal, at the end. -/
noncomputable def atTerm (e t : Int) (over : Bool) (term : Int) : Int :=
  let e1 := if e = 0 ∧ (term < 0 ∨ t ≤ term) then 1 else e
  if e1 = 0 ∧ over = true then 15 else e1
noncomputable def atEnd (e : Int) (over : Bool) : Int := if e = 0 ∧ over = true then 15 else e
theorem chk_term {te t : Int} (ht : 0 ≤ t) {m : Nat} {st : List Int} {seen : Int} {over : Bool} {term : Int} : chk te t m st seen over (if term = t then -1 else term) = atTerm (right te m st seen over) t over term := by
  by_cases h1 : te = 0
  · subst h1
    by_cases h2 : fits m st seen over = true
    · rw [right_ok h2]
      by_cases h3 : term < 0 ∨ t ≤ term
      · rw [chk_bad (by split <;> omega), atTerm]; simp [h3]
      · have h4 : ¬ term = t := by omega
        rw [if_neg h4, atTerm]
        cases over
        · rw [chk_ok ⟨h2, by omega, by omega⟩]; simp [h3]
        · rw [chk_over ⟨h2, by omega, by omega⟩]; simp [h3]
    · rw [right_bad h2, chk_bad (fun g => h2 g.1), atTerm]; simp
  · rw [right_te h1, chk_te h1, atTerm]; simp [h1]
theorem chk_end {te t : Int} (ht : 0 ≤ t) {m : Nat} {st : List Int} {seen : Int} {over : Bool} : chk te t m st seen over t = atEnd (right te m st seen over) over := by
  by_cases h1 : te = 0
  · subst h1
    by_cases h2 : fits m st seen over = true
    · rw [right_ok h2, atEnd]
      cases over
      · rw [chk_ok ⟨h2, by omega, by omega⟩]; simp
      · rw [chk_over ⟨h2, by omega, by omega⟩]; simp
    · rw [right_bad h2, chk_bad (fun g => h2 g.1), atEnd]; simp
  · rw [right_te h1, chk_te h1, atEnd]; simp [h1]

/-- What a step tells: error, the stack behind it, the events. -/
structure R where
  err : Int
  st : List Int
  seen : Int
  over : Int
  done : Bool
  out : List (Int × Int)
def fin (last : Bool) (x : Int × List Int × List (Int × Int)) (seen : Int) : R :=
  if x.1 ≠ 0 then ⟨x.1, [], seen, x.1, false, []⟩ else if last = true then ⟨0, [], seen, 0, true, x.2.2⟩ else ⟨0, x.2.1, seen + 1, 0, false, x.2.2⟩
theorem fin_bad {last x seen} (h : x.1 ≠ 0) : fin last x seen = ⟨x.1, [], seen, x.1, false, []⟩ := by rw [fin, if_pos h]
theorem fin_end {x seen} (h : x.1 = 0) : fin true x seen = ⟨0, [], seen, 0, true, x.2.2⟩ := by rw [fin, if_neg (by omega), if_pos rfl]
theorem fin_go {x seen} (h : x.1 = 0) : fin false x seen = ⟨0, x.2.1, seen + 1, 0, false, x.2.2⟩ := by rw [fin, if_neg (by omega), if_neg (by simp)]
/-- States within bounds stay so. -/
theorem any_out {m : Nat} {st : List Int} (h : st.any (out m) = false) (i : Nat) (hi : i < st.length) : 0 ≤ st.getD i 0 ∧ st.getD i 0 < m := by
  have h1 : st.getD i 0 = st[i] := by simp [List.getD, hi]
  rw [h1]
  refine out_iff.1 ?_
  have := List.any_eq_false.1 h st[i] (List.getElem_mem hi)
  simpa using this
theorem any_red {m : Nat} {st : List Int} (h : st.any (out m) = false) {k : Nat} {x : Int} (h0 : 0 ≤ x) (h1 : x < m) : (st.take k ++ [x]).any (out m) = false := by
  rw [List.any_append, Bool.or_eq_false_iff]
  refine ⟨?_, by simp only [List.any_cons, List.any_nil, Bool.or_false]; exact out_iff.2 ⟨h0, h1⟩⟩
  rw [List.any_eq_false] at h ⊢
  exact fun y hy => h y (List.mem_of_mem_take hy)
end Bd
def Bd.Ret (r : Bd.R) (w : World) (e : Ending) (w' : World) : Prop := ∃ vs ve, e = .returned (.tuple #[.agg #[vs, .int .i64 r.seen, .int .i64 r.over, .bool r.done], ve, .int .i64 r.err]) ∧ St w w' [aOwn 3 1 vs (r.st.map (Value.int .i64)), aOwn 76 2 ve (r.out.map pairV)]
attribute [irreducible] Bd.right Bd.chk Bd.fits Bd.go Bd.red Bd.act Bd.dest
end Go.Proofs.Ytahoapgmiecphaa

/-
  RightTable of the reference.
-/
namespace Go.Proofs.Ytahoapgmiecphaa
set_option linter.unusedVariables false
open Go.ChangeShapes Go.WideShapes Go.ChangeAt Go.RowKit

set_option maxRecDepth 100000 in
set_option maxHeartbeats 8000000 in
theorem rtable_gram (t n : Int) (vp va vg : Value) (l : List (Int × List (Int × Int))) (w : World) (F : Nat → Prop) (hF : ∀ b, F b → b < w.heap.size) (h : Enc.prods.R F w [vp] l) (he : Gr.err t n l ≠ 0) :
    Calls Try.prog 80 #[.agg #[.int .i64 t, .int .i64 n, vp], .agg #[va, vg]] w fun e w' => e = .returned (.int .i64 (Gr.err t n l)) ∧ Below w.heap.size w w' := by
  have hne : (Gr.err t n l != 0) = true := by rw [bne_iff_ne]; exact he
  have H := Lib.hid h; clear h
  have hB : Hid (∀ o o', Below w.heap.size w ((w.alloc o).alloc o')) := Lib.hid (fun o o' => ((Below.refl _ _).alloc (Nat.le_refl _) _).alloc (by simp) _)
  clear he
  go_enter Try.func80, Try.ntmps80
  go_wp2_with (go_at_call 38; refine (rcfg_any t n vp l _ F (fun b hb => Nat.lt_of_lt_of_le (hF b hb) (hB.out _ _).size) (Enc.mono _ H.out (fun _ h => h) (fun b hb => (hB.out _ _).block b (hF b hb)))).mono ?_; rintro e w1 ⟨rfl, hb1⟩)
  go_ret
  exact ⟨rfl, (hB.out _ _).trans (hb1.mono (hB.out _ _).size)⟩

set_option maxRecDepth 100000 in
set_option maxHeartbeats 16000000 in
theorem rtable_ok (t n : Int) (vp va vg : Value) (l : List (Int × List (Int × Int))) (acts : List (List (Int × Int))) (gts : List (List Int)) (w : World) (F : Nat → Prop) (hF : ∀ b, F b → b < w.heap.size) (h : Enc.prods.R F w [vp] l) (he : Gr.err t n l = 0)
    (ha : ((Enc.two.sl 16).sl 24).R F w [va] acts) (hg : (((Enc.int .i64).sl 8).sl 24).R F w [vg] gts) :
    Calls Try.prog 80 #[.agg #[.int .i64 t, .int .i64 n, vp], .agg #[va, vg]] w fun e w' => e = .returned (.int .i64 (Tb.err t n l.length acts gts)) ∧ Below w.heap.size w w' := by
  obtain ⟨ht0, ht1, hn0, hn1, hll, _⟩ := Gr.err_zero he
  have HE0 := Lib.hid he
  have H := Lib.hid h
  obtain ⟨aop, _, _, cp, hvp, _⟩ := slProds h
  obtain ⟨aoa, ba, oa, ca, rfl, _, a3, a4⟩ := slSl ha
  obtain ⟨aog, bg, og, cg, rfl, _, g3, g4⟩ := slSl hg
  subst hvp
  have A3 := Lib.hid a3; have A4 := Lib.hid a4; have G3 := Lib.hid g3; have G4 := Lib.hid g4
  have hB : Hid (∀ o o', Below w.heap.size w ((w.alloc o).alloc o')) := Lib.hid (fun o o' => ((Below.refl _ _).alloc (Nat.le_refl _) _).alloc (by simp) _)
  have HF := Lib.hid hF
  clear h ha hg he a3 a4 g3 g4 hF
  by_cases h200 : 200 < acts.length
  · have HE := Lib.hid (Tb.err_large (t := t) (n := n) (np := l.length) (gts := gts) h200)
    go_enter Try.func80, Try.ntmps80
    go_wp2_with (go_at_call 38; refine (rcfg_any t n _ l _ F (fun b hb => Nat.lt_of_lt_of_le (HF.out b hb) (hB.out _ _).size) (Enc.mono _ H.out (fun _ h => h) (fun b hb => (hB.out _ _).block b (HF.out b hb)))).mono ?_; rintro e w1 ⟨rfl, hb1⟩; rw [HE0.out]; obtain ⟨hcl, _⟩ := bcell hb1)
    go_ret
    exact ⟨by rw [HE.out]; rfl, (hB.out _ _).trans (hb1.mono (hB.out _ _).size)⟩
  by_cases h0 : acts.length = 0
  · have HE := Lib.hid (Tb.err_arg (t := t) (n := n) (np := l.length) (gts := gts) h200 (.inl h0))
    have h00 : ((acts.length : Int) == 0) = true := by rw [beq_iff_eq]; omega
    clear h0
    go_enter Try.func80, Try.ntmps80
    go_wp2_with (go_at_call 38; refine (rcfg_any t n _ l _ F (fun b hb => Nat.lt_of_lt_of_le (HF.out b hb) (hB.out _ _).size) (Enc.mono _ H.out (fun _ h => h) (fun b hb => (hB.out _ _).block b (HF.out b hb)))).mono ?_; rintro e w1 ⟨rfl, hb1⟩; rw [HE0.out]; obtain ⟨hcl, _⟩ := bcell hb1)
    go_ret
    exact ⟨by rw [HE.out]; rfl, (hB.out _ _).trans (hb1.mono (hB.out _ _).size)⟩
  have h00 : ((acts.length : Int) == 0) = false := by rw [beq_eq_false_iff_ne]; omega
  by_cases h1 : gts.length ≠ acts.length
  · have HE := Lib.hid (Tb.err_arg (t := t) (n := n) (np := l.length) (gts := gts) h200 (.inr h1))
    have h11 : ((gts.length : Int) != (acts.length : Int)) = true := by rw [bne_iff_ne]; omega
    clear h0 h1
    go_enter Try.func80, Try.ntmps80
    go_wp2_with (go_at_call 38; refine (rcfg_any t n _ l _ F (fun b hb => Nat.lt_of_lt_of_le (HF.out b hb) (hB.out _ _).size) (Enc.mono _ H.out (fun _ h => h) (fun b hb => (hB.out _ _).block b (HF.out b hb)))).mono ?_; rintro e w1 ⟨rfl, hb1⟩; rw [HE0.out]; obtain ⟨hcl, _⟩ := bcell hb1)
    go_ret
    exact ⟨by rw [HE.out]; rfl, (hB.out _ _).trans (hb1.mono (hB.out _ _).size)⟩
  have HL : Hid (gts.length = acts.length) := Lib.hid (by omega)
  have HNOT : Hid (¬ (acts.length = 0 ∨ gts.length ≠ acts.length)) := Lib.hid (by omega)
  have h11 : ((gts.length : Int) != (acts.length : Int)) = false := by rw [bne_eq_false_iff_eq]; omega
  clear h0 h1
  go_enter Try.func80, Try.ntmps80
  go_wp2_with (go_at_call 38; refine (rcfg_any t n _ l _ F (fun b hb => Nat.lt_of_lt_of_le (HF.out b hb) (hB.out _ _).size) (Enc.mono _ H.out (fun _ h => h) (fun b hb => (hB.out _ _).block b (HF.out b hb)))).mono ?_; rintro e w1 ⟨rfl, hb1⟩; rw [HE0.out]; have hG1 : GrBox w1 w.heap.size t n (.slice aop l.length cp) := GrBox.below ⟨by rw [World.cell?_alloc_past _ _ _ (by simp), World.cell?_alloc_new]; rfl, by rw [World.cell?_alloc_past _ _ _ (by simp), World.cell?_alloc_new]; rfl, by rw [World.cell?_alloc_past _ _ _ (by simp), World.cell?_alloc_new]; rfl⟩ hb1 (by simp; omega); have hT1 : TbBox w1 (w.heap.size + 1) (.slice aoa acts.length ca) (.slice aog gts.length cg) := TbBox.below ⟨by rw [World.cell?_alloc_at _ _ _ _ (by simp)]; rfl, by rw [World.cell?_alloc_at _ _ _ _ (by simp)]; rfl⟩ hb1 (by simp); have hB1 := (hB.out _ _).trans (hb1.mono (hB.out _ _).size); obtain ⟨hcl, _⟩ := bcell hb1)
  clear hcl hb1
  have HG1 := Lib.hid hG1; have HT1 := Lib.hid hT1
  clear hG1 hT1
  go_loopw [7, 8, 9, 10, 11] (fun i _ _ _ _ wr => ∃ k : Nat, k ≤ acts.length ∧ i = .int .i64 k ∧ Below w1.heap.size w1 wr ∧ Hid (∀ j, j < k → Tb.At t n l.length acts.length (acts.getD j []) (gts.getD j []))) (fun i _ _ _ _ _ => acts.length - (intOf i).toNat)
  case atStart => exact ⟨0, by omega, rfl, Below.refl _ _, Lib.hid (fun j hj => absurd hj (by omega))⟩
  case round =>
    obtain ⟨k, hk, rfl, hB2, hok⟩ := hrel
    have hBw := hB1.trans (hB2.mono hB1.size)
    have hG2 := HG1.out.below hB2 HG1.out.lt
    have hT2 := HT1.out.below hB2 HT1.out.lt
    have hGl := hG2.lt; have hTl := hT2.lt
    have HG2 := Lib.hid hG2; have HT2 := Lib.hid hT2
    obtain ⟨hg0, hg1, hg2⟩ := hG2
    obtain ⟨hq0, hq1⟩ := hT2
    by_cases hlt : k < acts.length
    · obtain ⟨rfl, hba, hFa⟩ := A3.out (by omega)
      obtain ⟨rfl, hbg, hFg⟩ := G3.out (by rw [HL.out]; omega)
      have hkg : k < gts.length := by rw [HL.out]; omega
      obtain ⟨ai, ci, hn1', hra⟩ := A4.out k hlt
      obtain ⟨gi, di, hn2', hrg⟩ := G4.out k hkg
      have hc1 := bkeep hBw hn1'
      have hc2 := bkeep hBw hn2'
      have HB2 := Lib.hid hB2
      have HAT : Hid (∀ x y, acts.getD k [] = x → gts.getD k [] = y → ¬ Tb.At t n l.length acts.length x y → Tb.err t n l.length acts gts = 1) := Lib.hid (fun x y hx hy h => Tb.err_bad h200 (fun g => h (by rw [← hx, ← hy]; exact g k hlt)))
      obtain ⟨row, hrow⟩ : ∃ r, acts.getD k [] = r := ⟨_, rfl⟩
      obtain ⟨grow, hgrow⟩ : ∃ r, gts.getD k [] = r := ⟨_, rfl⟩
      have HBAD : Hid (¬ Tb.At t n l.length acts.length row grow → Tb.err t n l.length acts gts = 1) := Lib.hid (fun h => HAT.out row grow hrow hgrow h)
      have HOK : Hid (Tb.At t n l.length acts.length row grow → ∀ j, j < k + 1 → Tb.At t n l.length acts.length (acts.getD j []) (gts.getD j [])) := Lib.hid (fun h j hj => by
        rcases Nat.lt_succ_iff_lt_or_eq.1 hj with hj | rfl
        · exact hok.out j hj
        · rw [hrow, hgrow]; exact h)
      rw [hrow] at hc1 hra
      rw [hgrow] at hc2 hrg
      rw [hrow] at hn1'
      have HN1 := Lib.hid hn1'
      rw [hgrow] at hn2'
      have HN2 := Lib.hid hn2'
      clear HAT hrow hgrow hn1' hn2'
      obtain ⟨_, br, orr, _, hv1, _, r3, r4⟩ := slTwo hra
      obtain ⟨_, bz, oz, _, hv2, _, z3, z4⟩ := Enc.sl1 (En := Enc.int .i64) (Value.int .i64) (fun _ _ _ h => h.1) rfl 0 hrg
      simp only [Value.slice.injEq, true_and] at hv1 hv2
      obtain ⟨rfl, rfl⟩ := hv1
      obtain ⟨rfl, rfl⟩ := hv2
      have R3 := Lib.hid r3; have R4 := Lib.hid r4; have Z3 := Lib.hid z3; have Z4 := Lib.hid z4
      clear r3 r4 z3 z4 hra hrg
      have hwr : IntKind.i64.wrap (t + 1) = t + 1 := by simp [IntKind.wrap, IntKind.bits, IntKind.signed]; omega
      by_cases hl1 : (row.length : Int) = t + 1
      · have hl1b : ((row.length : Int) != t + 1) = false := by rw [bne_eq_false_iff_eq]; exact hl1
        have HL1 := Lib.hid hl1
        by_cases hl2 : (grow.length : Int) = n
        · have hl2b : ((grow.length : Int) != n) = false := by rw [bne_eq_false_iff_eq]; exact hl2
          have HL2 := Lib.hid hl2
          have hrl : row.length ≤ 31 := by omega
          have hgl : grow.length ≤ 20 := by omega
          clear hl1 hl2
          go_wp2
          go_quiet (fail)
          rename_i nq
          go_wp2
          have hB3 := below_drewN HB2.out nq
          generalize wr.drewN nq = W1 at hB3 ⊢
          clear hB2 hBw hg0 hg1 hg2 hq0 hq1 hc1 hc2 hGl hTl
          go_loopw [8, 9, 10] (fun j _ _ w2 => ∃ q : Nat, q ≤ row.length ∧ j = .int .i64 q ∧ Below w1.heap.size w1 w2 ∧ Hid (∀ c, c < q → Tb.right t l.length acts.length (row.getD c (0, 0)) c = true)) (fun j _ _ _ => row.length - (intOf j).toNat)
          case atStart => exact ⟨0, by omega, rfl, hB3, Lib.hid (fun j hj => absurd hj (by omega))⟩
          case round =>
            clear hB3
            obtain ⟨q, hq, rfl, hB3, hrok⟩ := hrel
            have hBw3 := hB1.trans (hB3.mono hB1.size)
            have hG3 := HG1.out.below hB3 HG1.out.lt
            have hT3 := HT1.out.below hB3 HT1.out.lt
            have hGl3 := hG3.lt; have hTl3 := hT3.lt
            obtain ⟨hg0, hg1, hg2⟩ := hG3
            obtain ⟨hq0, hq1⟩ := hT3
            by_cases hql : q < row.length
            · obtain ⟨rfl, hbr, _⟩ := R3.out (by omega)
              have hx1 := bkeep hBw3 (R4.out q hql).1
              have hx2 := bkeep hBw3 (R4.out q hql).2.1
              have HRB : Hid (Tb.right t l.length acts.length (row.getD q (0, 0)) q = false → Tb.err t n l.length acts gts = 1) := Lib.hid (fun h => HBAD.out (fun g => by have := g.2.2.1 q hql; rw [h] at this; cases this))
              have HRO : Hid (Tb.right t l.length acts.length (row.getD q (0, 0)) q = true → ∀ c, c < q + 1 → Tb.right t l.length acts.length (row.getD c (0, 0)) c = true) := Lib.hid (fun h c hc => by
                rcases Nat.lt_succ_iff_lt_or_eq.1 hc with hc | rfl
                · exact hrok.out c hc
                · exact h)
              generalize row.getD q (0, 0) = y at hx1 hx2 HRB HRO
              obtain ⟨x1, x2⟩ := y
              simp only at hx1 hx2
              have hqt : (q : Int) ≤ t := by have := HL1.out; omega
              have hc1 := bkeep hBw3 HN1.out
              rcases (by omega : (x1 = 0 ∧ x2 = 0) ∨ (x1 = 0 ∧ x2 ≠ 0) ∨ (x1 = 1 ∧ t ≤ (q : Int)) ∨ (x1 = 1 ∧ (q : Int) < t ∧ x2 < 0) ∨ (x1 = 1 ∧ (q : Int) < t ∧ 0 ≤ x2 ∧ (acts.length : Int) ≤ x2) ∨ (x1 = 1 ∧ (q : Int) < t ∧ 0 ≤ x2 ∧ x2 < (acts.length : Int)) ∨ (x1 = 2 ∧ x2 < 0) ∨ (x1 = 2 ∧ 0 ≤ x2 ∧ (l.length : Int) ≤ x2) ∨ (x1 = 2 ∧ 0 ≤ x2 ∧ x2 < (l.length : Int)) ∨ (x1 = 3 ∧ x2 ≠ 0) ∨ (x1 = 3 ∧ x2 = 0 ∧ (q : Int) ≠ t) ∨ (x1 = 3 ∧ x2 = 0 ∧ (q : Int) = t) ∨ (x1 ≠ 0 ∧ x1 ≠ 1 ∧ x1 ≠ 2 ∧ x1 ≠ 3)) with ⟨p0, p1⟩ | ⟨p0, p1⟩ | ⟨p0, p1⟩ | ⟨p0, p1, p2⟩ | ⟨p0, p1, p2, p3⟩ | ⟨p0, p1, p2, p3⟩ | ⟨p0, p1⟩ | ⟨p0, p1, p2⟩ | ⟨p0, p1, p2⟩ | ⟨p0, p1⟩ | ⟨p0, p1, p2⟩ | ⟨p0, p1, p2⟩ | ⟨p0, p1, p2, p3⟩
              · have HR : Hid (Tb.right t l.length acts.length (x1, x2) q = true) := Lib.hid (by rw [Tb.right_iff]; simp only []; omega)
                have e0 : ((x1 : Int) == 0) = true := by rw [beq_iff_eq]; omega
                have e1 : ((x1 : Int) == 1) = false := by rw [beq_eq_false_iff_ne]; omega
                have e2 : ((x1 : Int) == 2) = false := by rw [beq_eq_false_iff_ne]; omega
                have e3 : ((x1 : Int) == 3) = false := by rw [beq_eq_false_iff_ne]; omega
                have n0 : ((x2 : Int) == 0) = true := by rw [beq_iff_eq]; omega
                clear p0 p1
                have HX := Lib.hid (HRO.out HR.out)
                go_wp2
                go_roundw
                case rel => exact ⟨q + 1, by omega, by go_num, hB3.alloc hB3.size _, HX⟩
                case measure => simp [intOf]; omega
              · have HR : Hid (Tb.right t l.length acts.length (x1, x2) q = false) := Lib.hid (by refine Tb.right_no ?_; simp only []; omega)
                have e0 : ((x1 : Int) == 0) = true := by rw [beq_iff_eq]; omega
                have e1 : ((x1 : Int) == 1) = false := by rw [beq_eq_false_iff_ne]; omega
                have e2 : ((x1 : Int) == 2) = false := by rw [beq_eq_false_iff_ne]; omega
                have e3 : ((x1 : Int) == 3) = false := by rw [beq_eq_false_iff_ne]; omega
                have n0 : ((x2 : Int) == 0) = false := by rw [beq_eq_false_iff_ne]; omega
                clear p0 p1
                have HE := Lib.hid (HRB.out HR.out)
                go_wp2
                go_ret
                exact ⟨by rw [HE.out]; rfl, hBw3.alloc hBw3.size _⟩
              · have HR : Hid (Tb.right t l.length acts.length (x1, x2) q = false) := Lib.hid (by refine Tb.right_no ?_; simp only []; omega)
                have e0 : ((x1 : Int) == 0) = false := by rw [beq_eq_false_iff_ne]; omega
                have e1 : ((x1 : Int) == 1) = true := by rw [beq_iff_eq]; omega
                have e2 : ((x1 : Int) == 2) = false := by rw [beq_eq_false_iff_ne]; omega
                have e3 : ((x1 : Int) == 3) = false := by rw [beq_eq_false_iff_ne]; omega
                clear p0
                have HE := Lib.hid (HRB.out HR.out)
                go_wp2
                go_ret
                exact ⟨by rw [HE.out]; rfl, hBw3.alloc hBw3.size _⟩
              · have HR : Hid (Tb.right t l.length acts.length (x1, x2) q = false) := Lib.hid (by refine Tb.right_no ?_; simp only []; omega)
                have e0 : ((x1 : Int) == 0) = false := by rw [beq_eq_false_iff_ne]; omega
                have e1 : ((x1 : Int) == 1) = true := by rw [beq_iff_eq]; omega
                have e2 : ((x1 : Int) == 2) = false := by rw [beq_eq_false_iff_ne]; omega
                have e3 : ((x1 : Int) == 3) = false := by rw [beq_eq_false_iff_ne]; omega
                clear p0
                have HE := Lib.hid (HRB.out HR.out)
                go_wp2
                go_ret
                exact ⟨by rw [HE.out]; rfl, hBw3.alloc hBw3.size _⟩
              · have HR : Hid (Tb.right t l.length acts.length (x1, x2) q = false) := Lib.hid (by refine Tb.right_no ?_; simp only []; omega)
                have e0 : ((x1 : Int) == 0) = false := by rw [beq_eq_false_iff_ne]; omega
                have e1 : ((x1 : Int) == 1) = true := by rw [beq_iff_eq]; omega
                have e2 : ((x1 : Int) == 2) = false := by rw [beq_eq_false_iff_ne]; omega
                have e3 : ((x1 : Int) == 3) = false := by rw [beq_eq_false_iff_ne]; omega
                have dm : decide (x2 < (acts.length : Int)) = false := by rw [decide_eq_false_iff_not]; omega
                clear p0
                have HE := Lib.hid (HRB.out HR.out)
                go_wp2
                go_ret
                exact ⟨by rw [HE.out]; rfl, hBw3.alloc hBw3.size _⟩
              · have HR : Hid (Tb.right t l.length acts.length (x1, x2) q = true) := Lib.hid (by rw [Tb.right_iff]; simp only []; omega)
                have e0 : ((x1 : Int) == 0) = false := by rw [beq_eq_false_iff_ne]; omega
                have e1 : ((x1 : Int) == 1) = true := by rw [beq_iff_eq]; omega
                have e2 : ((x1 : Int) == 2) = false := by rw [beq_eq_false_iff_ne]; omega
                have e3 : ((x1 : Int) == 3) = false := by rw [beq_eq_false_iff_ne]; omega
                clear p0
                have HX := Lib.hid (HRO.out HR.out)
                go_wp2
                go_roundw
                case rel => exact ⟨q + 1, by omega, by go_num, hB3.alloc hB3.size _, HX⟩
                case measure => simp [intOf]; omega
              · have HR : Hid (Tb.right t l.length acts.length (x1, x2) q = false) := Lib.hid (by refine Tb.right_no ?_; simp only []; omega)
                have e0 : ((x1 : Int) == 0) = false := by rw [beq_eq_false_iff_ne]; omega
                have e1 : ((x1 : Int) == 1) = false := by rw [beq_eq_false_iff_ne]; omega
                have e2 : ((x1 : Int) == 2) = true := by rw [beq_iff_eq]; omega
                have e3 : ((x1 : Int) == 3) = false := by rw [beq_eq_false_iff_ne]; omega
                clear p0
                have HE := Lib.hid (HRB.out HR.out)
                go_wp2
                go_ret
                exact ⟨by rw [HE.out]; rfl, hBw3.alloc hBw3.size _⟩
              · have HR : Hid (Tb.right t l.length acts.length (x1, x2) q = false) := Lib.hid (by refine Tb.right_no ?_; simp only []; omega)
                have e0 : ((x1 : Int) == 0) = false := by rw [beq_eq_false_iff_ne]; omega
                have e1 : ((x1 : Int) == 1) = false := by rw [beq_eq_false_iff_ne]; omega
                have e2 : ((x1 : Int) == 2) = true := by rw [beq_iff_eq]; omega
                have e3 : ((x1 : Int) == 3) = false := by rw [beq_eq_false_iff_ne]; omega
                have dm : decide (x2 < (l.length : Int)) = false := by rw [decide_eq_false_iff_not]; omega
                clear p0
                have HE := Lib.hid (HRB.out HR.out)
                go_wp2
                go_ret
                exact ⟨by rw [HE.out]; rfl, hBw3.alloc hBw3.size _⟩
              · have HR : Hid (Tb.right t l.length acts.length (x1, x2) q = true) := Lib.hid (by rw [Tb.right_iff]; simp only []; omega)
                have e0 : ((x1 : Int) == 0) = false := by rw [beq_eq_false_iff_ne]; omega
                have e1 : ((x1 : Int) == 1) = false := by rw [beq_eq_false_iff_ne]; omega
                have e2 : ((x1 : Int) == 2) = true := by rw [beq_iff_eq]; omega
                have e3 : ((x1 : Int) == 3) = false := by rw [beq_eq_false_iff_ne]; omega
                clear p0
                have HX := Lib.hid (HRO.out HR.out)
                go_wp2
                go_roundw
                case rel => exact ⟨q + 1, by omega, by go_num, hB3.alloc hB3.size _, HX⟩
                case measure => simp [intOf]; omega
              · have HR : Hid (Tb.right t l.length acts.length (x1, x2) q = false) := Lib.hid (by refine Tb.right_no ?_; simp only []; omega)
                have e0 : ((x1 : Int) == 0) = false := by rw [beq_eq_false_iff_ne]; omega
                have e1 : ((x1 : Int) == 1) = false := by rw [beq_eq_false_iff_ne]; omega
                have e2 : ((x1 : Int) == 2) = false := by rw [beq_eq_false_iff_ne]; omega
                have e3 : ((x1 : Int) == 3) = true := by rw [beq_iff_eq]; omega
                have n0 : ((x2 : Int) == 0) = false := by rw [beq_eq_false_iff_ne]; omega
                clear p0 p1
                have HE := Lib.hid (HRB.out HR.out)
                go_wp2
                go_ret
                exact ⟨by rw [HE.out]; rfl, hBw3.alloc hBw3.size _⟩
              · have HR : Hid (Tb.right t l.length acts.length (x1, x2) q = false) := Lib.hid (by refine Tb.right_no ?_; simp only []; omega)
                have e0 : ((x1 : Int) == 0) = false := by rw [beq_eq_false_iff_ne]; omega
                have e1 : ((x1 : Int) == 1) = false := by rw [beq_eq_false_iff_ne]; omega
                have e2 : ((x1 : Int) == 2) = false := by rw [beq_eq_false_iff_ne]; omega
                have e3 : ((x1 : Int) == 3) = true := by rw [beq_iff_eq]; omega
                have n0 : ((x2 : Int) == 0) = true := by rw [beq_iff_eq]; omega
                have ct : ((q : Int) == t) = false := by rw [beq_eq_false_iff_ne]; omega
                clear p0 p1 p2
                have HE := Lib.hid (HRB.out HR.out)
                go_wp2
                go_ret
                exact ⟨by rw [HE.out]; rfl, hBw3.alloc hBw3.size _⟩
              · have HR : Hid (Tb.right t l.length acts.length (x1, x2) q = true) := Lib.hid (by rw [Tb.right_iff]; simp only []; omega)
                have e0 : ((x1 : Int) == 0) = false := by rw [beq_eq_false_iff_ne]; omega
                have e1 : ((x1 : Int) == 1) = false := by rw [beq_eq_false_iff_ne]; omega
                have e2 : ((x1 : Int) == 2) = false := by rw [beq_eq_false_iff_ne]; omega
                have e3 : ((x1 : Int) == 3) = true := by rw [beq_iff_eq]; omega
                have n0 : ((x2 : Int) == 0) = true := by rw [beq_iff_eq]; omega
                have ct : ((q : Int) == t) = true := by rw [beq_iff_eq]; omega
                clear p0 p1 p2
                have HX := Lib.hid (HRO.out HR.out)
                go_wp2
                go_roundw
                case rel => exact ⟨q + 1, by omega, by go_num, hB3.alloc hB3.size _, HX⟩
                case measure => simp [intOf]; omega
              · have HR : Hid (Tb.right t l.length acts.length (x1, x2) q = false) := Lib.hid (by refine Tb.right_no ?_; simp only []; omega)
                have e0 : ((x1 : Int) == 0) = false := by rw [beq_eq_false_iff_ne]; omega
                have e1 : ((x1 : Int) == 1) = false := by rw [beq_eq_false_iff_ne]; omega
                have e2 : ((x1 : Int) == 2) = false := by rw [beq_eq_false_iff_ne]; omega
                have e3 : ((x1 : Int) == 3) = false := by rw [beq_eq_false_iff_ne]; omega
                clear p0 p1 p2 p3
                have HE := Lib.hid (HRB.out HR.out)
                go_wp2
                go_ret
                exact ⟨by rw [HE.out]; rfl, hBw3.alloc hBw3.size _⟩
            · obtain rfl : q = row.length := by omega
              have hqt : ¬ (row.length : Int) ≤ t := by have := HL1.out; omega
              clear hql hq
              have hc2 := bkeep hBw3 HN2.out
              go_wp2
              go_loopw [11] (fun j w2 => ∃ q : Nat, q ≤ grow.length ∧ j = .int .i64 q ∧ Below w1.heap.size w1 w2 ∧ Hid (∀ c, c < q → -1 ≤ grow.getD c 0 ∧ grow.getD c 0 < acts.length)) (fun j _ => grow.length - (intOf j).toNat)
              case atStart => exact ⟨0, by omega, rfl, hB3, Lib.hid (fun j hj => absurd hj (by omega))⟩
              case round =>
                clear hB3 hBw3 hg0 hg1 hg2 hq0 hq1 hc2 hGl3 hTl3
                obtain ⟨q, hq, rfl, hB3, hgok⟩ := hrel
                have hBw3 := hB1.trans (hB3.mono hB1.size)
                have hG3 := HG1.out.below hB3 HG1.out.lt
                have hT3 := HT1.out.below hB3 HT1.out.lt
                obtain ⟨hg0, hg1, hg2⟩ := hG3
                obtain ⟨hq0, hq1⟩ := hT3
                have hc2 := bkeep hBw3 HN2.out
                by_cases hql : q < grow.length
                · have hqn : (q : Int) < n := by have := HL2.out; omega
                  obtain ⟨rfl, hbr, _⟩ := Z3.out (by omega)
                  have hx1 := bkeep hBw3 (Z4.out q hql).1
                  have hxw := wf64 (Z4.out q hql).2.2
                  have HRB : Hid (¬ (-1 ≤ grow.getD q 0 ∧ grow.getD q 0 < acts.length) → Tb.err t n l.length acts gts = 1) := Lib.hid (fun h => HBAD.out (fun g => h (g.2.2.2 q hql)))
                  have HRO : Hid ((-1 ≤ grow.getD q 0 ∧ grow.getD q 0 < acts.length) → ∀ c, c < q + 1 → -1 ≤ grow.getD c 0 ∧ grow.getD c 0 < acts.length) := Lib.hid (fun h c hc => by
                    rcases Nat.lt_succ_iff_lt_or_eq.1 hc with hc | rfl
                    · exact hgok.out c hc
                    · exact h)
                  generalize grow.getD q 0 = y at hx1 HRB HRO hxw
                  by_cases y1 : y < -1
                  · have HE := Lib.hid (HRB.out (by omega))
                    go_wp2
                    go_ret
                    exact ⟨by rw [HE.out]; rfl, hBw3⟩
                  by_cases y2 : (acts.length : Int) ≤ y
                  · have HE := Lib.hid (HRB.out (by omega))
                    go_wp2
                    go_ret
                    exact ⟨by rw [HE.out]; rfl, hBw3⟩
                  have HX := Lib.hid (HRO.out (by omega))
                  go_wp2
                  go_roundw
                  case rel => exact ⟨q + 1, by omega, by go_num, hB3, HX⟩
                  case measure => simp [intOf]; omega
                · obtain rfl : q = grow.length := by omega
                  have hqn : ¬ (grow.length : Int) < n := by have := HL2.out; omega
                  have HX := Lib.hid (HOK.out ⟨HL1.out, HL2.out, hrok.out, hgok.out⟩)
                  go_wp2
                  go_roundw
                  case rel => exact ⟨k + 1, by omega, by go_num, hB3, HX⟩
                  case measure => simp [intOf]; omega
        · have hl2b : ((grow.length : Int) != n) = true := by rw [bne_iff_ne]; exact hl2
          have HE := Lib.hid (HBAD.out (fun g => hl2 g.2.1))
          clear hl2 hl1
          go_wp2
          go_quiet (fail)
          go_wp2
          go_ret
          exact ⟨by rw [HE.out]; rfl, below_drewN hBw _⟩
      · have hl1b : ((row.length : Int) != t + 1) = true := by rw [bne_iff_ne]; exact hl1
        have HE := Lib.hid (HBAD.out (fun g => hl1 g.1))
        clear hl1
        go_wp2
        go_quiet (fail)
        go_wp2
        go_ret
        exact ⟨by rw [HE.out]; rfl, below_drewN hBw _⟩
    · obtain rfl : k = acts.length := by omega
      have HE := Lib.hid (Tb.err_ok (t := t) (n := n) (np := l.length) h200 HNOT.out hok.out)
      go_wp2
      go_ret
      exact ⟨by rw [HE.out]; rfl, hBw⟩
end Go.Proofs.Ytahoapgmiecphaa

/-
  A grammar and a table that come in.
-/
namespace Go.Proofs.Ytahoapgmiecphaa
set_option linter.unusedVariables false
open Go.ChangeShapes Go.WideShapes Go.ChangeAt Go.RowKit

def Enc.gram : Enc (Int × Int × List (Int × List (Int × Int))) := Enc.prod (Enc.int .i64) (Enc.prod (Enc.int .i64) Enc.prods)
theorem gram_cells {F : Nat → Prop} {w : World} {cs : Array Value} {g : Int × Int × List (Int × List (Int × Int))} (h : Enc.gram.R F w cs.toList g) :
    ∃ vp, cs = #[.int .i64 g.1, .int .i64 g.2.1, vp] ∧ Enc.prods.R F w [vp] g.2.2 ∧ (-9223372036854775808 ≤ g.1 ∧ g.1 ≤ 9223372036854775807) ∧ (-9223372036854775808 ≤ g.2.1 ∧ g.2.1 ≤ 9223372036854775807) := by
  obtain ⟨c1, c2, e1, ⟨rfl, h1⟩, c3, c4, e2, ⟨rfl, h2⟩, h3⟩ := h
  have h4 := h3
  obtain ⟨ao, b, off, cap, rfl, _⟩ := h4
  subst e2
  exact ⟨_, Array.toList_inj.1 e1, h3, wf64 h1, wf64 h2⟩
theorem opens_gram : Opens Try.prog 24 Enc.gram := by
  have hp : Opens Try.prog 22 Enc.prods := opens_prods (sb := 0) Try.underlying22 Try.underlying127 Try.underlying125 Try.underlying79 (by kernel_rfl) (by kernel_rfl) rfl rfl (by kernel_rfl) (by kernel_rfl) Try.underlying3 (by kernel_rfl) (by kernel_rfl) rfl rfl (by kernel_rfl) (by kernel_rfl) Try.underlying3 Try.underlying3
  show Opens _ _ (Enc.prod (Enc.int .i64) (Enc.prod (Enc.int .i64) Enc.prods))
  exact Opens.struct Try.underlying24 (by kernel_rfl) (OpensFrom.cons rfl rfl (by kernel_rfl) (Opens.int Try.underlying3) (OpensFrom.cons rfl rfl (by kernel_rfl) (Opens.int Try.underlying3) (OpensFrom.last rfl rfl (by kernel_rfl) hp)))
end Go.Proofs.Ytahoapgmiecphaa

/-
  Tables as they come in; the checks of tables as one.
-/
namespace Go.Proofs.Ytahoapgmiecphaa
set_option linter.unusedVariables false
open Go.ChangeShapes Go.WideShapes Go.ChangeAt Go.RowKit

def Enc.table : Enc (List (List (Int × Int)) × List (List Int)) := Enc.prod ((Enc.two.sl 16).sl 24) (((Enc.int .i64).sl 8).sl 24)
theorem table_cells {F : Nat → Prop} {w : World} {cs : Array Value} {g : List (List (Int × Int)) × List (List Int)} (h : Enc.table.R F w cs.toList g) :
    ∃ va vg, cs = #[va, vg] ∧ ((Enc.two.sl 16).sl 24).R F w [va] g.1 ∧ (((Enc.int .i64).sl 8).sl 24).R F w [vg] g.2 := by
  obtain ⟨c1, c2, e1, h1, h2⟩ := h
  have h3 := h1; have h4 := h2
  obtain ⟨_, _, _, _, rfl, _⟩ := h3
  obtain ⟨_, _, _, _, rfl, _⟩ := h4
  exact ⟨_, _, Array.toList_inj.1 e1, h1, h2⟩
theorem opens_table : Opens Try.prog 64 Enc.table := by
  have ha : Opens Try.prog 62 ((Enc.two.sl 16).sl 24) := Opens.sl Try.underlying62 (by kernel_rfl) (by decide) (by kernel_rfl) (Opens.sl Try.underlying203 (by kernel_rfl) (by decide) (by kernel_rfl) (opens_two Try.underlying110 (by kernel_rfl) rfl rfl (by kernel_rfl) (by kernel_rfl) Try.underlying3 Try.underlying3))
  have hg : Opens Try.prog 51 (((Enc.int .i64).sl 8).sl 24) := Opens.sl Try.underlying51 (by kernel_rfl) (by decide) (by kernel_rfl) (Opens.sl Try.underlying25 (by kernel_rfl) (by decide) (by kernel_rfl) (Opens.int Try.underlying3))
  show Opens _ _ (Enc.prod ((Enc.two.sl 16).sl 24) (((Enc.int .i64).sl 8).sl 24))
  exact Opens.struct Try.underlying64 (by kernel_rfl) (OpensFrom.cons rfl rfl (by kernel_rfl) ha (OpensFrom.last rfl rfl (by kernel_rfl) hg))

namespace Tb
noncomputable def all (t n : Int) (l : List (Int × List (Int × Int))) (acts : List (List (Int × Int))) (gts : List (List Int)) : Int := if Gr.err t n l ≠ 0 then Gr.err t n l else Tb.err t n l.length acts gts
end Tb
theorem lrCheck_any (t n : Int) (vp va vg : Value) (l : List (Int × List (Int × Int))) (acts : List (List (Int × Int))) (gts : List (List Int)) (w : World) (F : Nat → Prop) (hF : ∀ b, F b → b < w.heap.size) (h : Enc.prods.R F w [vp] l)
    (ha : ((Enc.two.sl 16).sl 24).R F w [va] acts) (hg : (((Enc.int .i64).sl 8).sl 24).R F w [vg] gts) :
    Calls Try.prog 124 #[.agg #[.int .i64 t, .int .i64 n, vp], .agg #[va, vg]] w fun e w' => e = .returned (.int .i64 (Tb.all t n l acts gts)) ∧ Below w.heap.size w w' := by
  by_cases he : Gr.err t n l = 0
  · rw [Tb.all, if_neg (by simp [he])]; exact lrCheck_ok t n vp va vg l acts gts w F hF h he ha hg
  · rw [Tb.all, if_pos he]; exact lrCheck_gram t n vp va vg l w F hF h he
theorem rtable_any (t n : Int) (vp va vg : Value) (l : List (Int × List (Int × Int))) (acts : List (List (Int × Int))) (gts : List (List Int)) (w : World) (F : Nat → Prop) (hF : ∀ b, F b → b < w.heap.size) (h : Enc.prods.R F w [vp] l)
    (ha : ((Enc.two.sl 16).sl 24).R F w [va] acts) (hg : (((Enc.int .i64).sl 8).sl 24).R F w [vg] gts) :
    Calls Try.prog 80 #[.agg #[.int .i64 t, .int .i64 n, vp], .agg #[va, vg]] w fun e w' => e = .returned (.int .i64 (Tb.all t n l acts gts)) ∧ Below w.heap.size w w' := by
  by_cases he : Gr.err t n l = 0
  · rw [Tb.all, if_neg (by simp [he])]; exact rtable_ok t n vp va vg l acts gts w F hF h he ha hg
  · rw [Tb.all, if_pos he]; exact rtable_gram t n vp va vg l w F hF h he
attribute [irreducible] Tb.all

end Go.Proofs.Ytahoapgmiecphaa

/-
  reduce of package build: what it computes.
-/
namespace Go.Proofs.Ytahoapgmiecphaa
set_option linter.unusedVariables false
open Go.ChangeShapes Go.WideShapes Go.ChangeAt Go.RowKit

theorem Enc.cap {α : Type} {E : Enc α} {bytes : Nat} {F : Nat → Prop} {w : World} {ao : Option Addr} {n cap : Nat} {l : List α} (h : (E.sl bytes).R F w [.slice ao n cap] l) : l.length ≤ cap := by
  obtain ⟨ao', b, off, cap', e, c1, _⟩ := h
  simp only [List.cons.injEq, Value.slice.injEq, and_true] at e
  omega
theorem read_ints {w w' : World} {b off : Nat} {l : List Int} {F : Nat → Prop} (h : ∀ i, i < l.length → w.cell? ⟨b, off + i, none⟩ = some (.int .i64 (l.getD i 0)) ∧ (Enc.int .i64).R F w [.int .i64 (l.getD i 0)] (l.getD i 0)) (hb : Below w.heap.size w w') (m : Nat) :
    ∀ j q, (cellsOf ((l.take m).map (Value.int .i64)))[j]? = some q → w'.cell? ((⟨b, off, none⟩ : Addr).add j) = some q := by
  intro j q hq
  rw [cellsOf_ints, List.getElem?_map] at hq
  obtain ⟨x, hx, rfl⟩ := Option.map_eq_some_iff.1 hq
  rw [List.getElem?_take] at hx
  split at hx
  · have hj : j < l.length := (List.getElem?_eq_some_iff.1 hx).1
    have h1 := bkeep hb (h j hj).1
    rw [Addr.add_mid, h1]
    simp [List.getD, hx]
  · cases hx
theorem int_size (xs : List Int) : ∀ u ∈ xs.map (Value.int .i64), u.cells.size = 1 := by
  intro u hu; obtain ⟨x, _, rfl⟩ := List.mem_map.1 hu; rfl
namespace Bd
theorem tb_zero {t n : Int} {l : List (Int × List (Int × Int))} {acts : List (List (Int × Int))} {gts : List (List Int)} (h : Tb.all t n l acts gts = 0) :
    Gr.err t n l = 0 ∧ acts.length ≤ 200 ∧ 0 < acts.length ∧ gts.length = acts.length ∧ Tb.Good t n l.length acts gts := by
  by_cases h1 : Gr.err t n l = 0
  · rw [Tb.all, if_neg (by omega)] at h
    by_cases h2 : 200 < acts.length
    · rw [Tb.err_large h2] at h; omega
    by_cases h3 : acts.length = 0 ∨ gts.length ≠ acts.length
    · rw [Tb.err_arg h2 h3] at h; omega
    by_cases h4 : Tb.Good t n l.length acts gts
    · exact ⟨h1, by omega, by omega, by omega, h4⟩
    · rw [Tb.err_bad h2 h4] at h; omega
  · rw [Tb.all, if_pos h1] at h; exact absurd h h1
/-- What a reduce finds. -/
theorem dest_in {t n : Int} {l : List (Int × List (Int × Int))} {acts : List (List (Int × Int))} {gts : List (List Int)} (h : Tb.all t n l acts gts = 0) {p : Nat} (hp : p < l.length) {x : Int} (hx : 0 ≤ x ∧ x < acts.length) :
    0 ≤ (l.getD p (0, [])).1 ∧ (l.getD p (0, [])).1 < (gts.getD x.toNat []).length ∧ -1 ≤ (gts.getD x.toNat []).getD (l.getD p (0, [])).1.toNat 0 ∧ (gts.getD x.toNat []).getD (l.getD p (0, [])).1.toNat 0 < acts.length := by
  obtain ⟨h1, h2, h3, h4, h5⟩ := tb_zero h
  have g := (Gr.err_zero h1).2.2.2.2.2 (l.getD p (0, [])) (by simp [List.getD, hp])
  obtain ⟨_, a2, _, a4⟩ := h5 x.toNat (by omega)
  have := a4 (l.getD p (0, [])).1.toNat (by omega)
  exact ⟨g.2.1, by omega, this.1, this.2⟩
def RetRed (o : Option (List Int)) (w : World) (e : Ending) (w' : World) : Prop := match o with
  | none => (∃ v, e = .returned (.tuple #[v, .bool false])) ∧ Below w.heap.size w w'
  | some s2 => (∃ v, e = .returned (.tuple #[v, .bool true]) ∧ Own w' w.heap.size 3 1 v (s2.map (Value.int .i64))) ∧ Below w.heap.size w w'
end Bd

set_option maxRecDepth 100000 in
set_option maxHeartbeats 8000000 in
theorem bdRed_any (t n : Int) (vp va vg vs : Value) (l : List (Int × List (Int × Int))) (acts : List (List (Int × Int))) (gts : List (List Int)) (st : List Int) (p : Nat) (w : World) (F : Nat → Prop) (h : Enc.prods.R F w [vp] l)
    (hg : (((Enc.int .i64).sl 8).sl 24).R F w [vg] gts) (hs : ((Enc.int .i64).sl 8).R F w [vs] st) (he : Tb.all t n l acts gts = 0) (hp : p < l.length) (ha : st.any (Bd.out acts.length) = false) (h60 : st.length ≤ 60) :
    Calls Try.prog 230 #[.agg #[.int .i64 t, .int .i64 n, vp], .agg #[va, vg], vs, .int .i64 p] w (Bd.RetRed (Bd.red gts st (l.getD p (0, []))) w) := by
  have hst := (((St.init w).alloc #[.int .i64 t, .int .i64 n, vp] 24).alloc #[va, vg] 64)
  simp only [World.size_alloc] at hst
  obtain ⟨t1, t2, t3, t4, -⟩ := Bd.tb_zero he
  have HD := Lib.hid (fun x hx => Bd.dest_in he hp (x := x) hx)
  obtain ⟨aop, bp, op, cp, rfl, -, p3, p4⟩ := slProds h
  obtain ⟨aog, bg, og, cg, rfl, -, g3, g4⟩ := slSl hg
  obtain ⟨aos, bs, os, cs, rfl, -, s3, s4⟩ := Enc.sl1 (En := Enc.int .i64) (Value.int .i64) (fun _ _ _ h => h.1) rfl 0 hs
  have hcap := Enc.cap hs
  have hl40 := (Gr.err_zero t1).2.2.2.2.1
  have h8 := ((Gr.err_zero t1).2.2.2.2.2 (l.getD p (0, [])) (by simp [List.getD, hp])).1
  obtain ⟨rfl, hbp, -⟩ := p3 (by omega)
  obtain ⟨vb, q1, q2, q3, q4⟩ := p4 p hp
  have q1 := bkeep hst.bel q1
  have q2 := bkeep hst.bel q2
  obtain ⟨ab, -, -, cb, rfl, -⟩ := slTwo q3
  have G4 := Lib.hid g4; have G3 := Lib.hid g3; have S3 := Lib.hid s3; have S4 := Lib.hid s4; have HA := Lib.hid ha
  obtain ⟨x0, x1, x2⟩ := hst.at3 1 rfl
  obtain ⟨y0, y1⟩ := hst.at2 0 rfl
  clear h hg hs he p3 p4 g3 g4 s3 s4 ha t1 q3 q4
  have HT4 := Lib.hid t4
  clear t4
  generalize hq : l.getD p (0, []) = P at *
  obtain ⟨hd, body⟩ := P
  simp only at q1 q2 h8 HD
  have hpl : (p : Int) < l.length := by omega
  by_cases hb : st.length ≤ body.length
  · rw [Bd.red_short hb]
    clear hq
    go_enter Try.func230, Try.ntmps230
    go_wp2
    go_ret2
    exact ⟨⟨_, rfl⟩, hst.bel⟩
  obtain ⟨k, hk⟩ : ∃ k : Nat, st.length - body.length = k + 1 := ⟨st.length - body.length - 1, by omega⟩
  have hsub : (st.length : Int) - body.length = (k : Int) + 1 := by omega
  have hks : k < st.length := by omega
  obtain ⟨rfl, hbs, -⟩ := S3.out (by omega)
  have z1 := bkeep hst.bel (S4.out k hks).1
  have hx := Bd.any_out HA.out k hks
  generalize hxx : st.getD k 0 = x at *
  obtain ⟨d0, d1, d2, d3⟩ := HD.out x hx
  obtain ⟨x, rfl⟩ := Int.eq_ofNat_of_zero_le hx.1
  have hxg : x < gts.length := by have := HT4.out; omega
  obtain ⟨rfl, hbg, -⟩ := G3.out (by omega)
  obtain ⟨ai, ci, z2, z3⟩ := G4.out x hxg
  have z2 := bkeep hst.bel z2
  simp only [Int.toNat_natCast] at d0 d1 d2 d3
  obtain ⟨_, bi, oi, _, hv, -, i3, i4⟩ := Enc.sl1 (En := Enc.int .i64) (Value.int .i64) (fun _ _ _ h => h.1) rfl 0 z3
  simp only [Value.slice.injEq, true_and] at hv
  obtain ⟨rfl, rfl⟩ := hv
  obtain ⟨hd, rfl⟩ := Int.eq_ofNat_of_zero_le d0
  simp only [Int.toNat_natCast] at d2 d3
  obtain ⟨rfl, hbi, -⟩ := i3 (by omega)
  have z4 := bkeep hst.bel (i4 hd (by omega)).1
  have hDE : Bd.dest gts st (st.length - body.length) (hd : Int) = (gts.getD x []).getD hd 0 := by
    unfold Bd.dest; rw [hk, Nat.add_sub_cancel, hxx, Int.toNat_natCast, Int.toNat_natCast]
  generalize (gts.getD x []).getD hd 0 = y at *
  generalize (gts.getD x []).length = ln at *
  have hdl : (hd : Int) < ln := d1
  have hxg2 : (x : Int) < gts.length := by omega
  have hw1 : IntKind.i64.wrap ((k : Int) + 1 - 1) = k := by rw [Int.add_sub_cancel]; exact IntWalk.i64_in _ (by omega)
  have hw2 : (0 : Int) ≤ k := by omega
  have hks2 : (k : Int) < st.length := by omega
  have hcap1 : (k : Int) + 1 ≤ cs := by omega
  have hcap2 : k + 1 ≤ cs := by omega
  have HRV : Hid ((if y < 0 then none else some (st.take (k + 1) ++ [y])) = Bd.red gts st ((hd : Int), body)) := Lib.hid (by
    by_cases hy : y < 0
    · rw [Bd.red_neg (p := ((hd : Int), body)) hb (by simp only [hDE]; exact hy), if_pos hy]
    · rw [Bd.red_ok (p := ((hd : Int), body)) hb (by simp only [hDE]; exact hy), if_neg hy, ← hDE]
      simp only [hk])
  clear hcap hx d0 d1 d2 d3 hl40 t2 t3 hb hq hDE hk
  go_enter Try.func230, Try.ntmps230
  go_wp2
  go_quiet (fail)
  rename_i nq
  have hstq := hst.drewN nq
  go_wp2_with (at_builtin; refine St.appFull1n intE rfl (.tmp 44) (.tmp 46) rfl hstq ⟨bs, os, none⟩ ((st.take (k + 1)).map (Value.int .i64)) (k + 1) (by simp; omega) rfl (int_size _) (read_ints S4.out (hstq.skip _).bel (k + 1)) (.int .i64 y) rfl _ 1 rfl (by simp) rfl (by rw [List.length_map, List.length_take]; unfold maxLen; omega) (by rw [List.length_map, List.length_take]; omega) ?_; intro g' cap' w' hst')
  go_ret2
  rw [← HRV.out]
  by_cases hy : y < 0
  · rw [if_pos hy]
    exact ⟨⟨_, by show Ending.returned (.tuple #[_, .bool (decide (0 ≤ y))]) = _; rw [decide_eq_false (by omega)]⟩, hst'.bel⟩
  · rw [if_neg hy]
    exact ⟨⟨_, by show Ending.returned (.tuple #[_, .bool (decide (0 ≤ y))]) = _; rw [decide_eq_true (by omega)], by rw [List.map_append]; exact hst'.own⟩, hst'.bel⟩
end Go.Proofs.Ytahoapgmiecphaa

/-
  check of package build: what is wrong with a grammar, a table, a stack and a column.
-/
namespace Go.Proofs.Ytahoapgmiecphaa
set_option linter.unusedVariables false
open Go.ChangeShapes Go.WideShapes Go.ChangeAt Go.RowKit

set_option maxRecDepth 100000 in
set_option maxHeartbeats 8000000 in
theorem bdCheck_te (t n seen ov col : Int) (dn : Bool) (vp va vg vs : Value) (l : List (Int × List (Int × Int))) (acts : List (List (Int × Int))) (gts : List (List Int)) (st : List Int) (w : World) (F : Nat → Prop) (hF : ∀ b, F b → b < w.heap.size) (h : Enc.prods.R F w [vp] l)
    (ha : ((Enc.two.sl 16).sl 24).R F w [va] acts) (hg : (((Enc.int .i64).sl 8).sl 24).R F w [vg] gts) (he : Tb.all t n l acts gts ≠ 0) :
    Calls Try.prog 225 #[.agg #[.int .i64 t, .int .i64 n, vp], .agg #[va, vg], .agg #[vs, .int .i64 seen, .int .i64 ov, .bool dn], .int .i64 col] w fun e w' => e = .returned (.int .i64 (Tb.all t n l acts gts)) ∧ Below w.heap.size w w' := by
  have hst := ((((St.init w).alloc #[.int .i64 t, .int .i64 n, vp] 24).alloc #[va, vg] 64).alloc #[vs, .int .i64 seen, .int .i64 ov, .bool dn] 231)
  simp only [World.size_alloc] at hst
  have HC := fun W' (hW : Below w.heap.size w W') => lrCheck_any t n vp va vg l acts gts W' F (fun b hb => Nat.lt_of_lt_of_le (hF b hb) hW.size) (Enc.mono _ h (fun _ h => h) (fun b hb => hW.block b (hF b hb))) (Enc.mono _ ha (fun _ h => h) (fun b hb => hW.block b (hF b hb))) (Enc.mono _ hg (fun _ h => h) (fun b hb => hW.block b (hF b hb)))
  generalize Tb.all t n l acts gts = E at *
  replace HC := Lib.hid HC
  have hne : (E != 0) = true := by rw [bne_iff_ne]; exact he
  clear he h ha hg hF
  go_enter Try.func225, Try.ntmps225
  go_wp2_with (fail)
  go_at_call 124
  refine (HC.out _ hst.bel).mono ?_
  rintro e w1 ⟨rfl, hb1⟩
  replace hst := hst.call hb1
  go_wp2
  go_ret
  exact ⟨rfl, hst.bel⟩

theorem Bd.alts (len : Nat) (seen col t : Int) :
    60 < len ∨ (len ≤ 60 ∧ seen < 0) ∨ (len ≤ 60 ∧ 0 ≤ seen ∧ 1099511627776 < seen) ∨ (len ≤ 60 ∧ 0 ≤ seen ∧ seen ≤ 1099511627776 ∧ col < 0) ∨ (len ≤ 60 ∧ 0 ≤ seen ∧ seen ≤ 1099511627776 ∧ 0 ≤ col ∧ t < col) ∨
    (len ≤ 60 ∧ 0 ≤ seen ∧ seen ≤ 1099511627776 ∧ 0 ≤ col ∧ col ≤ t) := by omega

set_option maxRecDepth 100000 in
set_option maxHeartbeats 16000000 in
theorem bdCheck_ok (t n seen ov col : Int) (dn : Bool) (vp va vg vs : Value) (l : List (Int × List (Int × Int))) (acts : List (List (Int × Int))) (gts : List (List Int)) (st : List Int) (w : World) (F : Nat → Prop) (hF : ∀ b, F b → b < w.heap.size) (h : Enc.prods.R F w [vp] l)
    (ha : ((Enc.two.sl 16).sl 24).R F w [va] acts) (hg : (((Enc.int .i64).sl 8).sl 24).R F w [vg] gts) (hs : ((Enc.int .i64).sl 8).R F w [vs] st) (he : Tb.all t n l acts gts = 0) :
    Calls Try.prog 225 #[.agg #[.int .i64 t, .int .i64 n, vp], .agg #[va, vg], .agg #[vs, .int .i64 seen, .int .i64 ov, .bool dn], .int .i64 col] w fun e w' => e = .returned (.int .i64 (Bd.chk 0 t acts.length st seen (decide (ov ≠ 0) || dn) col)) ∧ Below w.heap.size w w' := by
  have HC := fun W' (hW : Below w.heap.size w W') => lrCheck_any t n vp va vg l acts gts W' F (fun b hb => Nat.lt_of_lt_of_le (hF b hb) hW.size) (Enc.mono _ h (fun _ h => h) (fun b hb => hW.block b (hF b hb))) (Enc.mono _ ha (fun _ h => h) (fun b hb => hW.block b (hF b hb))) (Enc.mono _ hg (fun _ h => h) (fun b hb => hW.block b (hF b hb)))
  rw [he] at HC
  replace HC := Lib.hid HC
  obtain ⟨aoa, -, -, ca, rfl, -⟩ := slSl ha
  have HI := fun W' (hW : Below w.heap.size w W') T hT => bdIn_any acts.length aoa ca vg T st vs W' F (Enc.mono _ hs (fun _ h => h) (fun b hb => hW.block b (hF b hb))) hT
  replace HI := Lib.hid HI
  obtain ⟨aos, -, -, cs, rfl, -⟩ := Enc.sl1 (En := Enc.int .i64) (Value.int .i64) (fun _ _ _ h => h.1) rfl 0 hs
  have hst := ((((St.init w).alloc #[.int .i64 t, .int .i64 n, vp] 24).alloc #[.slice aoa acts.length ca, vg] 64).alloc #[.slice aos st.length cs, .int .i64 seen, .int .i64 ov, .bool dn] 231)
  simp only [World.size_alloc] at hst
  have hov : (ov != 0) = decide (ov ≠ 0) := by
    by_cases hq : ov = 0
    · subst hq; rfl
    · rw [decide_eq_true hq, bne_iff_ne]; exact hq
  generalize hO : (decide (ov ≠ 0) || dn) = O
  generalize hA : st.any (Bd.out acts.length) = A at *
  generalize hR : Bd.chk 0 t acts.length st seen O col = R
  have HR := Lib.hid hR
  have HA := Lib.hid hA
  have HK : Hid ((st.length = 0 ∧ O = false → R = 1) ∧ (¬ (st.length ≤ 60 ∧ 0 ≤ seen ∧ seen ≤ 1099511627776 ∧ 0 ≤ col ∧ col ≤ t) → R = 1) ∧ (A = true → R = 1)
      ∧ ((¬ (st.length = 0 ∧ O = false) ∧ ¬ 60 < st.length ∧ 0 ≤ seen ∧ seen ≤ 1099511627776 ∧ 0 ≤ col ∧ col ≤ t) → A = false → R = if O = true then 15 else 0)) := Lib.hid (by
    rw [← hR, ← hA]
    refine ⟨fun g => Bd.chk_bad (fun q => ?_), fun g => Bd.chk_bad (fun q => ?_), fun g => Bd.chk_bad (fun q => ?_), fun g1 g2 => ?_⟩
    · have := (Bd.fits_iff.1 q.1).2.2.2.1
      rcases this with h | h
      · omega
      · rw [g.2] at h; cases h
    · have := Bd.fits_iff.1 q.1
      exact g ⟨this.1, this.2.1, this.2.2.1, q.2⟩
    · have := (Bd.fits_iff.1 q.1).2.2.2.2
      rw [g] at this; cases this
    · have hf : Bd.fits acts.length st seen O = true := Bd.fits_iff.2 ⟨by omega, by omega, by omega, (by
        rcases Nat.eq_zero_or_pos st.length with h | h
        · cases hq : O
          · exact absurd ⟨h, hq⟩ g1.1
          · exact .inr rfl
        · exact .inl h), g2⟩
      cases O
      · rw [Bd.chk_ok ⟨hf, by omega, by omega⟩]; rfl
      · rw [Bd.chk_over ⟨hf, by omega, by omega⟩]; rfl)
  clear h ha hg hF hs he hR hA HR
  have ho : (ov ≠ 0 ∧ O = true) ∨ (ov = 0 ∧ dn = true ∧ O = true) ∨ (ov = 0 ∧ dn = false ∧ O = false) := by
    rw [← hO]
    by_cases hq : ov = 0
    · cases dn <;> simp [hq]
    · exact .inl ⟨hq, by simp [hq]⟩
  clear hO
  clear hov
  rcases ho with ⟨o1, rfl⟩ | ⟨rfl, rfl, rfl⟩ | ⟨rfl, rfl, rfl⟩
  · have o1b : (ov != 0) = true := by rw [bne_iff_ne]; exact o1
    clear o1
    obtain ⟨zb, hzb⟩ : ∃ zb, ((st.length : Int) == 0) = zb := ⟨_, rfl⟩
    cases zb
    all_goals
      rcases Bd.alts st.length seen col t with h | ⟨h1, h⟩ | ⟨h1, h2, h⟩ | ⟨h1, h2, h3, h⟩ | ⟨h1, h2, h3, h4, h⟩ | ⟨h1, h2, h3, h4, h5⟩
      · have HE := Lib.hid (HK.out.2.1 (by omega))
        go_enter Try.func225, Try.ntmps225
        go_wp2_with (fail)
        go_at_call 124
        refine (HC.out _ hst.bel).mono ?_
        rintro e w1 ⟨rfl, hb1⟩
        replace hst := hst.call hb1
        clear hb1
        obtain ⟨g0, g1, g2⟩ := hst.at3 2 rfl
        obtain ⟨t0, t1⟩ := hst.at2 1 rfl
        obtain ⟨s0, s1, s2, s3⟩ := hst.at4 0 rfl
        go_wp2
        go_ret
        exact ⟨by rw [HE.out]; rfl, hst.bel⟩
      · have HE := Lib.hid (HK.out.2.1 (by omega))
        go_enter Try.func225, Try.ntmps225
        go_wp2_with (fail)
        go_at_call 124
        refine (HC.out _ hst.bel).mono ?_
        rintro e w1 ⟨rfl, hb1⟩
        replace hst := hst.call hb1
        clear hb1
        obtain ⟨g0, g1, g2⟩ := hst.at3 2 rfl
        obtain ⟨t0, t1⟩ := hst.at2 1 rfl
        obtain ⟨s0, s1, s2, s3⟩ := hst.at4 0 rfl
        go_wp2
        go_ret
        exact ⟨by rw [HE.out]; rfl, hst.bel⟩
      · have HE := Lib.hid (HK.out.2.1 (by omega))
        go_enter Try.func225, Try.ntmps225
        go_wp2_with (fail)
        go_at_call 124
        refine (HC.out _ hst.bel).mono ?_
        rintro e w1 ⟨rfl, hb1⟩
        replace hst := hst.call hb1
        clear hb1
        obtain ⟨g0, g1, g2⟩ := hst.at3 2 rfl
        obtain ⟨t0, t1⟩ := hst.at2 1 rfl
        obtain ⟨s0, s1, s2, s3⟩ := hst.at4 0 rfl
        go_wp2
        go_ret
        exact ⟨by rw [HE.out]; rfl, hst.bel⟩
      · have HE := Lib.hid (HK.out.2.1 (by omega))
        go_enter Try.func225, Try.ntmps225
        go_wp2_with (fail)
        go_at_call 124
        refine (HC.out _ hst.bel).mono ?_
        rintro e w1 ⟨rfl, hb1⟩
        replace hst := hst.call hb1
        clear hb1
        obtain ⟨g0, g1, g2⟩ := hst.at3 2 rfl
        obtain ⟨t0, t1⟩ := hst.at2 1 rfl
        obtain ⟨s0, s1, s2, s3⟩ := hst.at4 0 rfl
        go_wp2
        go_ret
        exact ⟨by rw [HE.out]; rfl, hst.bel⟩
      · have HE := Lib.hid (HK.out.2.1 (by omega))
        go_enter Try.func225, Try.ntmps225
        go_wp2_with (fail)
        go_at_call 124
        refine (HC.out _ hst.bel).mono ?_
        rintro e w1 ⟨rfl, hb1⟩
        replace hst := hst.call hb1
        clear hb1
        obtain ⟨g0, g1, g2⟩ := hst.at3 2 rfl
        obtain ⟨t0, t1⟩ := hst.at2 1 rfl
        obtain ⟨s0, s1, s2, s3⟩ := hst.at4 0 rfl
        go_wp2
        go_ret
        exact ⟨by rw [HE.out]; rfl, hst.bel⟩
      · have HE0 := Lib.hid (HK.out.2.2.2 ⟨by simp, by omega, h2, h3, h4, h5⟩)
        cases A
        · have HE := Lib.hid (HE0.out rfl)
          go_enter Try.func225, Try.ntmps225
          go_wp2_with (fail)
          go_at_call 124
          refine (HC.out _ hst.bel).mono ?_
          rintro e w1 ⟨rfl, hb1⟩
          replace hst := hst.call hb1
          clear hb1
          obtain ⟨g0, g1, g2⟩ := hst.at3 2 rfl
          obtain ⟨t0, t1⟩ := hst.at2 1 rfl
          obtain ⟨s0, s1, s2, s3⟩ := hst.at4 0 rfl
          go_wp2_with (fail)
          go_at_call 228
          refine (HI.out _ hst.bel (w.heap.size + 1) ⟨t0, t1⟩).mono ?_
          rintro e w2 ⟨rfl, hb2⟩
          replace hst := hst.call hb2
          go_wp2
          go_ret
          exact ⟨by rw [HE.out]; rfl, hst.bel⟩
        · have HE := Lib.hid (HK.out.2.2.1 rfl)
          go_enter Try.func225, Try.ntmps225
          go_wp2_with (fail)
          go_at_call 124
          refine (HC.out _ hst.bel).mono ?_
          rintro e w1 ⟨rfl, hb1⟩
          replace hst := hst.call hb1
          clear hb1
          obtain ⟨g0, g1, g2⟩ := hst.at3 2 rfl
          obtain ⟨t0, t1⟩ := hst.at2 1 rfl
          obtain ⟨s0, s1, s2, s3⟩ := hst.at4 0 rfl
          go_wp2_with (fail)
          go_at_call 228
          refine (HI.out _ hst.bel (w.heap.size + 1) ⟨t0, t1⟩).mono ?_
          rintro e w2 ⟨rfl, hb2⟩
          replace hst := hst.call hb2
          go_wp2
          go_ret
          exact ⟨by rw [HE.out]; rfl, hst.bel⟩
  · skip
    obtain ⟨zb, hzb⟩ : ∃ zb, ((st.length : Int) == 0) = zb := ⟨_, rfl⟩
    cases zb
    all_goals
      rcases Bd.alts st.length seen col t with h | ⟨h1, h⟩ | ⟨h1, h2, h⟩ | ⟨h1, h2, h3, h⟩ | ⟨h1, h2, h3, h4, h⟩ | ⟨h1, h2, h3, h4, h5⟩
      · have HE := Lib.hid (HK.out.2.1 (by omega))
        go_enter Try.func225, Try.ntmps225
        go_wp2_with (fail)
        go_at_call 124
        refine (HC.out _ hst.bel).mono ?_
        rintro e w1 ⟨rfl, hb1⟩
        replace hst := hst.call hb1
        clear hb1
        obtain ⟨g0, g1, g2⟩ := hst.at3 2 rfl
        obtain ⟨t0, t1⟩ := hst.at2 1 rfl
        obtain ⟨s0, s1, s2, s3⟩ := hst.at4 0 rfl
        go_wp2
        go_ret
        exact ⟨by rw [HE.out]; rfl, hst.bel⟩
      · have HE := Lib.hid (HK.out.2.1 (by omega))
        go_enter Try.func225, Try.ntmps225
        go_wp2_with (fail)
        go_at_call 124
        refine (HC.out _ hst.bel).mono ?_
        rintro e w1 ⟨rfl, hb1⟩
        replace hst := hst.call hb1
        clear hb1
        obtain ⟨g0, g1, g2⟩ := hst.at3 2 rfl
        obtain ⟨t0, t1⟩ := hst.at2 1 rfl
        obtain ⟨s0, s1, s2, s3⟩ := hst.at4 0 rfl
        go_wp2
        go_ret
        exact ⟨by rw [HE.out]; rfl, hst.bel⟩
      · have HE := Lib.hid (HK.out.2.1 (by omega))
        go_enter Try.func225, Try.ntmps225
        go_wp2_with (fail)
        go_at_call 124
        refine (HC.out _ hst.bel).mono ?_
        rintro e w1 ⟨rfl, hb1⟩
        replace hst := hst.call hb1
        clear hb1
        obtain ⟨g0, g1, g2⟩ := hst.at3 2 rfl
        obtain ⟨t0, t1⟩ := hst.at2 1 rfl
        obtain ⟨s0, s1, s2, s3⟩ := hst.at4 0 rfl
        go_wp2
        go_ret
        exact ⟨by rw [HE.out]; rfl, hst.bel⟩
      · have HE := Lib.hid (HK.out.2.1 (by omega))
        go_enter Try.func225, Try.ntmps225
        go_wp2_with (fail)
        go_at_call 124
        refine (HC.out _ hst.bel).mono ?_
        rintro e w1 ⟨rfl, hb1⟩
        replace hst := hst.call hb1
        clear hb1
        obtain ⟨g0, g1, g2⟩ := hst.at3 2 rfl
        obtain ⟨t0, t1⟩ := hst.at2 1 rfl
        obtain ⟨s0, s1, s2, s3⟩ := hst.at4 0 rfl
        go_wp2
        go_ret
        exact ⟨by rw [HE.out]; rfl, hst.bel⟩
      · have HE := Lib.hid (HK.out.2.1 (by omega))
        go_enter Try.func225, Try.ntmps225
        go_wp2_with (fail)
        go_at_call 124
        refine (HC.out _ hst.bel).mono ?_
        rintro e w1 ⟨rfl, hb1⟩
        replace hst := hst.call hb1
        clear hb1
        obtain ⟨g0, g1, g2⟩ := hst.at3 2 rfl
        obtain ⟨t0, t1⟩ := hst.at2 1 rfl
        obtain ⟨s0, s1, s2, s3⟩ := hst.at4 0 rfl
        go_wp2
        go_ret
        exact ⟨by rw [HE.out]; rfl, hst.bel⟩
      · have HE0 := Lib.hid (HK.out.2.2.2 ⟨by simp, by omega, h2, h3, h4, h5⟩)
        cases A
        · have HE := Lib.hid (HE0.out rfl)
          go_enter Try.func225, Try.ntmps225
          go_wp2_with (fail)
          go_at_call 124
          refine (HC.out _ hst.bel).mono ?_
          rintro e w1 ⟨rfl, hb1⟩
          replace hst := hst.call hb1
          clear hb1
          obtain ⟨g0, g1, g2⟩ := hst.at3 2 rfl
          obtain ⟨t0, t1⟩ := hst.at2 1 rfl
          obtain ⟨s0, s1, s2, s3⟩ := hst.at4 0 rfl
          go_wp2_with (fail)
          go_at_call 228
          refine (HI.out _ hst.bel (w.heap.size + 1) ⟨t0, t1⟩).mono ?_
          rintro e w2 ⟨rfl, hb2⟩
          replace hst := hst.call hb2
          go_wp2
          go_ret
          exact ⟨by rw [HE.out]; rfl, hst.bel⟩
        · have HE := Lib.hid (HK.out.2.2.1 rfl)
          go_enter Try.func225, Try.ntmps225
          go_wp2_with (fail)
          go_at_call 124
          refine (HC.out _ hst.bel).mono ?_
          rintro e w1 ⟨rfl, hb1⟩
          replace hst := hst.call hb1
          clear hb1
          obtain ⟨g0, g1, g2⟩ := hst.at3 2 rfl
          obtain ⟨t0, t1⟩ := hst.at2 1 rfl
          obtain ⟨s0, s1, s2, s3⟩ := hst.at4 0 rfl
          go_wp2_with (fail)
          go_at_call 228
          refine (HI.out _ hst.bel (w.heap.size + 1) ⟨t0, t1⟩).mono ?_
          rintro e w2 ⟨rfl, hb2⟩
          replace hst := hst.call hb2
          go_wp2
          go_ret
          exact ⟨by rw [HE.out]; rfl, hst.bel⟩
  · skip
    by_cases hz : st.length = 0
    · have HE := Lib.hid (HK.out.1 ⟨hz, rfl⟩)
      have hzb : ((st.length : Int) == 0) = true := by rw [beq_iff_eq]; omega
      clear hz
      go_enter Try.func225, Try.ntmps225
      go_wp2_with (fail)
      go_at_call 124
      refine (HC.out _ hst.bel).mono ?_
      rintro e w1 ⟨rfl, hb1⟩
      replace hst := hst.call hb1
      clear hb1
      obtain ⟨g0, g1, g2⟩ := hst.at3 2 rfl
      obtain ⟨t0, t1⟩ := hst.at2 1 rfl
      obtain ⟨s0, s1, s2, s3⟩ := hst.at4 0 rfl
      go_wp2
      go_ret
      exact ⟨by rw [HE.out]; rfl, hst.bel⟩
    have hzb : ((st.length : Int) == 0) = false := by rw [beq_eq_false_iff_ne]; omega
    have hpos : 0 < st.length := by omega
    rcases Bd.alts st.length seen col t with h | ⟨h1, h⟩ | ⟨h1, h2, h⟩ | ⟨h1, h2, h3, h⟩ | ⟨h1, h2, h3, h4, h⟩ | ⟨h1, h2, h3, h4, h5⟩
    · have HE := Lib.hid (HK.out.2.1 (by omega))
      go_enter Try.func225, Try.ntmps225
      go_wp2_with (fail)
      go_at_call 124
      refine (HC.out _ hst.bel).mono ?_
      rintro e w1 ⟨rfl, hb1⟩
      replace hst := hst.call hb1
      clear hb1
      obtain ⟨g0, g1, g2⟩ := hst.at3 2 rfl
      obtain ⟨t0, t1⟩ := hst.at2 1 rfl
      obtain ⟨s0, s1, s2, s3⟩ := hst.at4 0 rfl
      go_wp2
      go_ret
      exact ⟨by rw [HE.out]; rfl, hst.bel⟩
    · have HE := Lib.hid (HK.out.2.1 (by omega))
      go_enter Try.func225, Try.ntmps225
      go_wp2_with (fail)
      go_at_call 124
      refine (HC.out _ hst.bel).mono ?_
      rintro e w1 ⟨rfl, hb1⟩
      replace hst := hst.call hb1
      clear hb1
      obtain ⟨g0, g1, g2⟩ := hst.at3 2 rfl
      obtain ⟨t0, t1⟩ := hst.at2 1 rfl
      obtain ⟨s0, s1, s2, s3⟩ := hst.at4 0 rfl
      go_wp2
      go_ret
      exact ⟨by rw [HE.out]; rfl, hst.bel⟩
    · have HE := Lib.hid (HK.out.2.1 (by omega))
      go_enter Try.func225, Try.ntmps225
      go_wp2_with (fail)
      go_at_call 124
      refine (HC.out _ hst.bel).mono ?_
      rintro e w1 ⟨rfl, hb1⟩
      replace hst := hst.call hb1
      clear hb1
      obtain ⟨g0, g1, g2⟩ := hst.at3 2 rfl
      obtain ⟨t0, t1⟩ := hst.at2 1 rfl
      obtain ⟨s0, s1, s2, s3⟩ := hst.at4 0 rfl
      go_wp2
      go_ret
      exact ⟨by rw [HE.out]; rfl, hst.bel⟩
    · have HE := Lib.hid (HK.out.2.1 (by omega))
      go_enter Try.func225, Try.ntmps225
      go_wp2_with (fail)
      go_at_call 124
      refine (HC.out _ hst.bel).mono ?_
      rintro e w1 ⟨rfl, hb1⟩
      replace hst := hst.call hb1
      clear hb1
      obtain ⟨g0, g1, g2⟩ := hst.at3 2 rfl
      obtain ⟨t0, t1⟩ := hst.at2 1 rfl
      obtain ⟨s0, s1, s2, s3⟩ := hst.at4 0 rfl
      go_wp2
      go_ret
      exact ⟨by rw [HE.out]; rfl, hst.bel⟩
    · have HE := Lib.hid (HK.out.2.1 (by omega))
      go_enter Try.func225, Try.ntmps225
      go_wp2_with (fail)
      go_at_call 124
      refine (HC.out _ hst.bel).mono ?_
      rintro e w1 ⟨rfl, hb1⟩
      replace hst := hst.call hb1
      clear hb1
      obtain ⟨g0, g1, g2⟩ := hst.at3 2 rfl
      obtain ⟨t0, t1⟩ := hst.at2 1 rfl
      obtain ⟨s0, s1, s2, s3⟩ := hst.at4 0 rfl
      go_wp2
      go_ret
      exact ⟨by rw [HE.out]; rfl, hst.bel⟩
    · have HE0 := Lib.hid (HK.out.2.2.2 ⟨fun q => by omega, by omega, h2, h3, h4, h5⟩)
      cases A
      · have HE := Lib.hid (HE0.out rfl)
        go_enter Try.func225, Try.ntmps225
        go_wp2_with (fail)
        go_at_call 124
        refine (HC.out _ hst.bel).mono ?_
        rintro e w1 ⟨rfl, hb1⟩
        replace hst := hst.call hb1
        clear hb1
        obtain ⟨g0, g1, g2⟩ := hst.at3 2 rfl
        obtain ⟨t0, t1⟩ := hst.at2 1 rfl
        obtain ⟨s0, s1, s2, s3⟩ := hst.at4 0 rfl
        go_wp2_with (fail)
        go_at_call 228
        refine (HI.out _ hst.bel (w.heap.size + 1) ⟨t0, t1⟩).mono ?_
        rintro e w2 ⟨rfl, hb2⟩
        replace hst := hst.call hb2
        go_wp2
        go_ret
        exact ⟨by rw [HE.out]; rfl, hst.bel⟩
      · have HE := Lib.hid (HK.out.2.2.1 rfl)
        go_enter Try.func225, Try.ntmps225
        go_wp2_with (fail)
        go_at_call 124
        refine (HC.out _ hst.bel).mono ?_
        rintro e w1 ⟨rfl, hb1⟩
        replace hst := hst.call hb1
        clear hb1
        obtain ⟨g0, g1, g2⟩ := hst.at3 2 rfl
        obtain ⟨t0, t1⟩ := hst.at2 1 rfl
        obtain ⟨s0, s1, s2, s3⟩ := hst.at4 0 rfl
        go_wp2_with (fail)
        go_at_call 228
        refine (HI.out _ hst.bel (w.heap.size + 1) ⟨t0, t1⟩).mono ?_
        rintro e w2 ⟨rfl, hb2⟩
        replace hst := hst.call hb2
        go_wp2
        go_ret
        exact ⟨by rw [HE.out]; rfl, hst.bel⟩
end Go.Proofs.Ytahoapgmiecphaa

/-
  Check of package dfa and RightDfa of the reference: what they compute. An automaton that came in, opened.
-/
namespace Go.Proofs.Ytahoapgmiecphaa
open Go.ChangeShapes Go.WideShapes Go.ChangeAt Go.RowKit Go.Joins

/-- A slice of numbers that came in. -/
theorem slInts {w : World} {k : IntKind} {v : Value} {l : List Int} (h : Sl w 1 (RInt k) v l) :
    ∃ (ao : Option Addr) (b off cap : Nat), v = .slice ao l.length cap ∧ l.length ≤ cap ∧ cap ≤ maxLen ∧ (0 < l.length → ao = some ⟨b, off, none⟩ ∧ b < w.heap.size) ∧
      (∀ i, i < l.length → w.cell? ⟨b, off + i, none⟩ = some (.int k (l.getD i 0))) ∧ ∀ i, i < l.length → (Lit.int k (l.getD i 0)).wf = true := by
  obtain ⟨ao, b, off, cap, h0, h1, h2, h3, h4⟩ := h
  refine ⟨ao, b, off, cap, h0, h1, h2, h3, fun i hi => ?_, fun i hi => ?_⟩
  · obtain ⟨cs, g1, g2, g3, _⟩ := h4 i hi
    have := g2 0 (by omega)
    rw [g3, Nat.mul_one, Nat.add_zero] at this
    rw [this]; simp [List.getD, List.getElem?_eq_getElem hi]
  · obtain ⟨cs, g1, g2, g3, g4⟩ := h4 i hi
    simpa [List.getD, List.getElem?_eq_getElem hi] using g4

/-- A slice of arrays of numbers that came in. -/
theorem slRows {w : World} {k : IntKind} {n : Nat} {v : Value} {l : List (List Int)} (h : Sl w n (RRow k n) v l) :
    ∃ (ao : Option Addr) (b off cap : Nat), v = .slice ao l.length cap ∧ l.length ≤ cap ∧ cap ≤ maxLen ∧ (0 < l.length → ao = some ⟨b, off, none⟩ ∧ b < w.heap.size) ∧
      (∀ i, i < l.length → w.rangeAt b (off + i * n) ((l.getD i []).map (Value.int k))) ∧ ∀ i, i < l.length → (l.getD i []).length = n ∧ ∀ x ∈ l.getD i [], (Lit.int k x).wf = true := by
  obtain ⟨ao, b, off, cap, h0, h1, h2, h3, h4⟩ := h
  refine ⟨ao, b, off, cap, h0, h1, h2, h3, fun i hi => ?_, fun i hi => ?_⟩
  · obtain ⟨cs, ⟨g1, _⟩, g2⟩ := Sl.range h4 i hi
    rw [g1] at g2
    simpa [List.getD, List.getElem?_eq_getElem hi] using g2
  · obtain ⟨cs, _, _, _, g4⟩ := h4 i hi
    simpa [List.getD, List.getElem?_eq_getElem hi] using g4

def DfaAt (w : World) (v : Value) (rows : List (List Int)) (tags : List Int) : Prop :=
  ∃ v0 v1, v = .agg #[v0, v1] ∧ Sl w 256 (RRow .i16 256) v0 rows ∧ Sl w 1 (RInt .i64) v1 tags

set_option maxRecDepth 100000 in
theorem open_Dfa {H : Type} {enc : TypeId × Value → H} {w : World} {base : Nat} {spare : Nat → Bool} {held : Bool} {r : Reach} {b0 : Nat} {v : Value} {d : DataW H} {p : List MemPlace}
    (hv : Value.okWide Try.prog w r b0 42 v) (h : DataW.Trod enc Try.prog w base spare held 42 v d p) : ∃ rows tags, DfaAt w v rows tags := by
  obtain ⟨v0, v1, y0, y1, n, rfl, _, _, h0, h1⟩ := open_agg2 Try.underlying42 (by kernel_rfl) (by kernel_rfl) hv h
  obtain ⟨u0, rows, e0, hr⟩ := open_sl (size := 256) Try.underlying40 (by kernel_rfl) (by decide) h0 (fun _ _ _ _ hh => rRow Try.underlying142 Try.underlying140 (by kernel_rfl) (by kernel_rfl) hh)
  obtain ⟨u1, tags, e1, ht⟩ := open_sl (size := 1) Try.underlying25 (by kernel_rfl) (by decide) h1 (fun _ _ _ _ hh => rInt Try.underlying3 hh)
  simp only [List.cons.injEq, and_true] at e0 e1
  subst e0 e1
  exact ⟨rows, tags, _, _, rfl, hr, ht⟩

namespace Aut
def tagGood (t : Int) : Prop := -1 ≤ t ∧ t ≤ 19
def rowGood (n : Nat) (row : List Int) : Prop := ∀ c, c < 256 → -1 ≤ row.getD c 0 ∧ row.getD c 0 < n
def Good (rows : List (List Int)) (tags : List Int) : Prop := ∀ i, i < rows.length → tagGood (tags.getD i 0) ∧ rowGood rows.length (rows.getD i [])
open Classical in
noncomputable def err (rows : List (List Int)) (tags : List Int) : Int :=
  if 200 < rows.length then 2 else if rows.length = 0 ∨ tags.length ≠ rows.length then 1 else if Good rows tags then 0 else 1
theorem err_large (rows tags) (h : 200 < rows.length) : err rows tags = 2 := by rw [err, if_pos h]
theorem err_arg (rows tags) (h : ¬ 200 < rows.length) (h1 : rows.length = 0 ∨ tags.length ≠ rows.length) : err rows tags = 1 := by rw [err, if_neg h, if_pos h1]
theorem err_bad (rows tags) (h : ¬ 200 < rows.length) (h1 : ¬ Good rows tags) : err rows tags = 1 := by
  rw [err, if_neg h]
  by_cases h2 : rows.length = 0 ∨ tags.length ≠ rows.length
  · rw [if_pos h2]
  · rw [if_neg h2, if_neg h1]
theorem i16_bounds (row : List Int) (c : Nat) (hc : c < row.length) (h : ∀ x ∈ row, (Lit.int .i16 x).wf = true) : -32768 ≤ row.getD c 0 ∧ row.getD c 0 ≤ 32767 := by
  have hm : row.getD c 0 ∈ row := by simp [List.getD, List.getElem?_eq_getElem hc]
  have := h _ hm
  simpa [Lit.wf, IntKind.min, IntKind.max, IntKind.signed, IntKind.bits] using this
theorem row_get (row : List Int) (c : Nat) (hc : c < row.length) : (row.map (Value.int .i16))[c]? = some (.int .i16 (row.getD c 0)) := by
  simp [List.getD, List.getElem?_eq_getElem hc]
theorem bad_tag (rows tags) (k : Nat) (hk : k < rows.length) (h : ¬ tagGood (tags.getD k 0)) : ¬ Good rows tags := fun g => h (g k hk).1
theorem bad_row (rows tags) (k c : Nat) (hk : k < rows.length) (hc : c < 256) (h : ¬ (-1 ≤ (rows.getD k []).getD c 0 ∧ (rows.getD k []).getD c 0 < rows.length)) : ¬ Good rows tags := fun g => h ((g k hk).2 c hc)
theorem err_ok (rows tags) (h : ¬ 200 < rows.length) (h1 : rows.length ≠ 0) (h2 : tags.length = rows.length) (h3 : Good rows tags) : err rows tags = 0 := by
  rw [err, if_neg h, if_neg (by omega), if_pos h3]
end Aut
end Go.Proofs.Ytahoapgmiecphaa

/-
  slices.Clone of a slice of ints that reads as a list: a new slice of the same numbers. And what the call itself has made, read as a slice that came in.
-/
namespace Go.Proofs.Ytahoapgmiecphaa
open Go.ChangeShapes Go.WideShapes Go.ChangeAt Go.RowKit

/-- What the call itself has made reads as the list. -/
theorem Own.sl {w : World} {B : Nat} {e : TypeId} {v : Value} {k : IntKind} {xs : List Int} (h : Own w B e 1 v (xs.map (Value.int k))) (hw : ∀ x ∈ xs, (Lit.int k x).wf = true) : Sl w 1 (RInt k) v xs := by
  have hr := h
  unfold Own at hr
  rw [cellsOf_ints, List.length_map] at hr
  rcases hr.2 with ⟨h1, h2⟩ | ⟨g, cap, cur, rfl, hB, hg, hn, hc, hcs, htk⟩
  · have : xs = [] := List.eq_nil_of_length_eq_zero h2
    subst this
    exact ⟨none, 0, 0, 0, h1, Nat.le_refl _, by decide, fun h => by simp at h, fun i hi => by simp at hi⟩
  · refine ⟨some ⟨g, 0, none⟩, g, 0, cap, rfl, hn, hc, fun _ => ⟨rfl, (Array.getElem?_eq_some_iff.1 hg).1⟩, fun i hi => ⟨[.int k xs[i]], rfl, fun j hj => ?_, rfl, hw _ (List.getElem_mem hi)⟩⟩
    obtain rfl : j = 0 := by omega
    have := hr.cellAt i (by omega)
    simp only [Nat.zero_add, Nat.mul_one, Nat.add_zero]
    rw [this]
    simp [hi]
end Go.Proofs.Ytahoapgmiecphaa

/-
  Clone of a list of numbers: what it computes.
-/
namespace Go.Proofs.Ytahoapgmiecphaa
set_option linter.unusedVariables false
open Go.ChangeShapes Go.WideShapes Go.ChangeAt Go.RowKit

set_option maxRecDepth 100000 in
theorem clone_any {v : Value} {l : List Int} (w : World) (h : Sl w 1 (RInt .i64) v l) (hroom : l.length * 8 ≤ 140737488355328) :
    Calls Try.prog 117 #[v] w fun e w' => ∃ v', e = .returned v' ∧ Own w' w.heap.size 3 1 v' (l.map (Value.int .i64)) ∧ Below w.heap.size w w' := by
  obtain ⟨ao, b, off, cap, rfl, h1, h2, h3, h4, _⟩ := slInts h
  unfold maxLen at h2
  have H3 := Lib.hid h3; have H4 := Lib.hid h4
  clear h3 h4 h
  cases ao with
  | none =>
    have hl : l.length = 0 := by
      rcases Nat.eq_zero_or_pos l.length with e | e
      · exact e
      · exact absurd (H3.out e).1 (by simp)
    have hl' := List.eq_nil_of_length_eq_zero hl
    subst hl'
    have hnil := fun W => Lib.run_eql_slice_nil_nil (P := Try.prog) W 0 cap Try.underlying25
    simp only [List.length_nil] at *
    go_enter Try.func117, Try.ntmps117
    go_wp2
    go_ret
    exact ⟨_, rfl, Own.nil _ _ _ _, Below.refl _ _⟩
  | some a =>
    have hnil := fun W => Lib.run_eql_slice_some_nil (P := Try.prog) W a l.length cap Try.underlying25
    have hu : Hid (∀ j q, (l.map (Value.int .i64))[j]? = some q → w.cell? (a.add j) = some q) := Lib.hid (fun j q hq => by
      have hj : j < l.length := by
        rcases Nat.lt_or_ge j l.length with e | e
        · exact e
        · rw [List.getElem?_eq_none (by simpa using e)] at hq; cases hq
      obtain ⟨e1, _⟩ := H3.out (by omega)
      simp only [Option.some.injEq] at e1
      subst e1
      rw [Addr.add_mid, H4.out j hj]
      rw [List.getElem?_map, List.getElem?_eq_getElem hj] at hq
      simpa [List.getD, List.getElem?_eq_getElem hj] using hq)
    clear H3 H4
    go_enter Try.func117, Try.ntmps117
    go_wp2_with (at_builtin; refine appNg intE rfl _ _ rfl w.heap.size (k := .i64) [] l rfl (own_lit #[] [] rfl rfl (Nat.le_refl _) (by decide)) a _ _ rfl rfl (fun j q hq => bkeep ((Below.refl _ _).alloc (Nat.le_refl _) _) (hu.out j q hq)) (by simp; omega) (by unfold maxLen; simp; omega) (by simp) ?_; intro v' w1 hown1 hgr1)
    go_ret
    have hgr2 : (w.alloc (.cells #[] 3)).grownBy w1 (some w.heap.size) := hgr1
    exact ⟨v', rfl, by simpa using hown1, ((Below.refl _ _).alloc (Nat.le_refl _) _).grown hgr2 (by simp) (fun q hq => by cases hq; exact Nat.le_refl _)⟩
end Go.Proofs.Ytahoapgmiecphaa

/-
  run of package build: what it computes.
-/
namespace Go.Proofs.Ytahoapgmiecphaa
set_option linter.unusedVariables false
open Go.ChangeShapes Go.WideShapes Go.ChangeAt Go.RowKit

theorem evtE2 : ET Try.prog 67 76 2 16 := ET.mk' Try.underlying67 (z := .agg #[.int .i64 0, .int .i64 0]) (by kernel_rfl) rfl (by decide)
theorem pair_one2 (p : Int × Int) : ∀ q ∈ (pairV p).cells.toList, q.oneCell' = true := by
  intro q hq; simp [pairV, Value.cells] at hq; rcases hq with h | h <;> subst h <;> rfl
theorem int_one2 (x : Int) : ∀ q ∈ (Value.int .i64 x).cells.toList, q.oneCell' = true := by
  intro q hq; simp [Value.cells] at hq; subst hq; rfl
namespace Bd
def RetRun (x : Int × List Int × List (Int × Int)) (w : World) (e : Ending) (w' : World) : Prop := ∃ vs ve, e = .returned (.tuple #[vs, ve, .int .i64 x.1]) ∧ St w w' [aOwn 3 1 vs (x.2.1.map (Value.int .i64)), aOwn 76 2 ve (x.2.2.map pairV)]
/-- The act that the table tells is right. -/
theorem act_right {t n : Int} {l : List (Int × List (Int × Int))} {acts : List (List (Int × Int))} {gts : List (List Int)} (h : Tb.all t n l acts gts = 0) {st : List Int} (hp : 0 < st.length) (ha : st.any (out acts.length) = false) {c : Nat} (hc : (c : Int) ≤ t) :
    0 ≤ st.getD (st.length - 1) 0 ∧ st.getD (st.length - 1) 0 < acts.length ∧ ((acts.getD (st.getD (st.length - 1) 0).toNat []).length : Int) = t + 1 ∧ Tb.right t l.length acts.length (act acts st c) c = true := by
  obtain ⟨h1, h2, h3, h4, h5⟩ := tb_zero h
  have hx := any_out ha (st.length - 1) (by omega)
  obtain ⟨a1, _, a3, _⟩ := h5 (st.getD (st.length - 1) 0).toNat (by omega)
  refine ⟨hx.1, hx.2, a1, ?_⟩
  have := a3 c (by omega)
  unfold act
  exact this
theorem red_some {t n : Int} {l : List (Int × List (Int × Int))} {acts : List (List (Int × Int))} {gts : List (List Int)} (h : Tb.all t n l acts gts = 0) {st s2 : List Int} {p : Nat} (hp : p < l.length) (ha : st.any (out acts.length) = false) (hr : red gts st (l.getD p (0, [])) = some s2) :
    0 < s2.length ∧ s2.any (out acts.length) = false := by
  by_cases h1 : st.length ≤ (l.getD p (0, [])).2.length
  · rw [red_short h1] at hr; cases hr
  by_cases h2 : dest gts st (st.length - (l.getD p (0, [])).2.length) (l.getD p (0, [])).1 < 0
  · rw [red_neg h1 h2] at hr; cases hr
  rw [red_ok h1 h2] at hr
  cases hr
  refine ⟨by simp, any_red ha (by omega) ?_⟩
  unfold dest
  exact (dest_in h hp (any_out ha (st.length - (l.getD p (0, [])).2.length - 1) (by omega))).2.2.2
def RunRel (l : List (Int × List (Int × Int))) (acts : List (List (Int × Int))) (gts : List (List Int)) (seen : Int) (c : Nat) (X : Int × List Int × List (Int × Int)) (w : World) (μ : List Asrt) (a b i : Value) (wr : World) : Prop :=
  ∃ (n : Nat) (st : List Int) (out : List (Int × Int)), n ≤ 2000 ∧ i = .int .i64 n ∧ 0 < st.length ∧ st.length ≤ 60 ∧ out.length ≤ n ∧ St w wr (aOwn 3 1 a (st.map (Value.int .i64)) :: aOwn 76 2 b (out.map pairV) :: μ) ∧
    Hid (st.any (Bd.out acts.length) = false) ∧ Hid (go l acts gts seen c (2000 - n) st out = X)
end Bd

set_option maxRecDepth 100000 in
set_option maxHeartbeats 16000000 in
theorem bdRun_any (t n seen ov : Int) (dn : Bool) (vp va vg vs : Value) (l : List (Int × List (Int × Int))) (acts : List (List (Int × Int))) (gts : List (List Int)) (st : List Int) (c : Nat) (w : World) (F : Nat → Prop) (hF : ∀ b, F b → b < w.heap.size) (h : Enc.prods.R F w [vp] l)
    (ha : ((Enc.two.sl 16).sl 24).R F w [va] acts) (hg : (((Enc.int .i64).sl 8).sl 24).R F w [vg] gts) (hs : ((Enc.int .i64).sl 8).R F w [vs] st) (he : Tb.all t n l acts gts = 0) (hc : (c : Int) ≤ t) (hsn : 0 ≤ seen ∧ seen ≤ 1099511627776)
    (hp : 0 < st.length) (h60 : st.length ≤ 60) (hany : st.any (Bd.out acts.length) = false) :
    Calls Try.prog 227 #[.agg #[.int .i64 t, .int .i64 n, vp], .agg #[va, vg], .agg #[vs, .int .i64 seen, .int .i64 ov, .bool dn], .int .i64 c] w (Bd.RetRun (Bd.go l acts gts seen c 2000 st []) w) := by
  have hst := ((((St.init w).alloc #[.int .i64 t, .int .i64 n, vp] 24).alloc #[va, vg] 64).alloc #[vs, .int .i64 seen, .int .i64 ov, .bool dn] 231)
  simp only [World.size_alloc] at hst
  have HCL := Lib.hid (clone_any (l := st) (v := vs) _ (Enc.toSl (Enc.mono _ hs (fun _ h => h) (fun b hb => hst.bel.block b (hF b hb)))) (by omega))
  have HRD := Lib.hid (fun (W : World) (hW : Below w.heap.size w W) (s : List Int) (v : Value) (p : Nat) h1 h2 h3 h4 => bdRed_any t n vp va vg v l acts gts s p W (fun _ => True) (Enc.mono _ h (fun _ _ => trivial) (fun b hb => hW.block b (hF b hb))) (Enc.mono _ hg (fun _ _ => trivial) (fun b hb => hW.block b (hF b hb))) h1 he h2 h3 h4)
  have HRT := Lib.hid (fun (s : List Int) h1 h2 => Bd.act_right he (st := s) h1 h2 hc)
  have HRS := Lib.hid (fun (s : List Int) (p : Nat) (s2 : List Int) h1 h2 h3 => Bd.red_some he (st := s) (s2 := s2) (p := p) h1 h2 h3)
  have hzz := Bd.tb_zero he
  have hm200 := hzz.2.1
  have hl40 := (Gr.err_zero hzz.1).2.2.2.2.1
  have ht30 := (Gr.err_zero hzz.1).2.1
  obtain ⟨aoa, ba, oa, ca, rfl, -, a3, a4⟩ := slSl ha
  have A3 := Lib.hid a3; have A4 := Lib.hid a4
  generalize hX : Bd.go l acts gts seen c 2000 st [] = X
  have HX := Lib.hid hX
  have HANY := Lib.hid hany
  clear h ha hg hs he hF hzz a3 a4 hX hany
  go_enter Try.func227, Try.ntmps227
  go_wp2_with (fail)
  go_at_call 117
  refine HCL.out.mono ?_
  rintro e w1 ⟨v', rfl, ho, hb1⟩
  replace hst := (hst.pushOwn hb1 ho).nilOwn 76 2
  clear ho hb1
  go_wp2
  go_loopw [11, 12, 13] (fun a b i wr => Bd.RunRel l acts gts seen c X w [aCel (w.heap.size + 1 + 1) 231 #[vs, .int .i64 seen, .int .i64 ov, .bool dn], aCel (w.heap.size + 1) 64 #[.slice aoa acts.length ca, vg], aCel w.heap.size 24 #[.int .i64 t, .int .i64 n, vp]] a b i wr) (fun _ _ i _ => 2001 - (intOf i).toNat)
  case atStart => exact ⟨0, st, [], by omega, rfl, hp, h60, by simp, hst.get2, HANY, HX⟩
  case round =>
    clear hst HX HANY hp h60 HCL st
    obtain ⟨q, st, out, hn, rfl, hp, h60, hol, hst, HANY, HX⟩ := hrel
    obtain ⟨g0, g1, g2⟩ := hst.at3 4 rfl
    obtain ⟨y0, y1⟩ := hst.at2 3 rfl
    obtain ⟨s0, s1, s2, s3⟩ := hst.at4 2 rfl
    obtain ⟨r0, r1, r2, r3⟩ := HRT.out st hp HANY.out
    have hxx : Bd.act acts st c = (acts.getD (st.getD (st.length - 1) 0).toNat []).getD c (0, 0) := by unfold Bd.act; rfl
    obtain ⟨kk, hkk⟩ : ∃ kk : Nat, kk = st.length - 1 := ⟨_, rfl⟩
    have hkl : kk < st.length := by omega
    have hsub : (st.length : Int) - 1 = (kk : Int) := by omega
    have hw1 : IntKind.i64.wrap (kk : Int) = (kk : Int) := IntWalk.i64_in _ (by omega)
    rw [← hkk] at r0 r1 r2 hxx
    rcases hst.own.shape with ⟨rfl, he⟩ | ⟨ga, capa, rfl, hga1, hga2⟩
    · rw [List.map_eq_nil_iff] at he; rw [he] at hp; simp at hp
    rw [List.length_map] at hst ⊢
    have z1 := (hst.cellOwn (f := Value.int .i64) (fun _ => rfl) kk hkl 0).1
    obtain ⟨x, hx⟩ : ∃ x : Nat, st.getD kk 0 = x := Int.eq_ofNat_of_zero_le r0
    rw [hx] at r1 r2 hxx z1
    rw [Int.toNat_natCast] at r2 hxx
    have hxl : x < acts.length := by omega
    obtain ⟨rfl, hba, -⟩ := A3.out (by omega)
    obtain ⟨ai, ci, z2, z3⟩ := A4.out x hxl
    obtain ⟨_, br, orr, _, hv, -, z4, z5⟩ := slTwo z3
    simp only [Value.slice.injEq, true_and] at hv
    obtain ⟨rfl, rfl⟩ := hv
    have hcl : c < (acts.getD x []).length := by omega
    obtain ⟨rfl, hbr, -⟩ := z4 (by omega)
    obtain ⟨z6, z7, z8, z9⟩ := z5 c hcl
    rw [← hxx] at z6 z7 z8 z9
    generalize (acts.getD x []).length = ln at *
    generalize hA : Bd.act acts st c = y at *
    obtain ⟨y1', y2'⟩ := y
    simp only at z6 z7 z8 z9
    have z2 := bkeep hst.bel z2
    have z6 := bkeep hst.bel z6
    have z7 := bkeep hst.bel z7
    have HA := Lib.hid hA
    have HR3 := Lib.hid (Tb.right_iff.1 r3)
    have hcln : (c : Int) < ln := by omega
    have hxl2 : (x : Int) < acts.length := r1
    have HSUB := Lib.hid hkk
    clear hA r0 r2 r3 hx hxx z3 z4 z5 hkk
    have l1 := World.block_lt_of_cell? _ _ y0
    have l2 := World.block_lt_of_cell? _ _ z2
    have l3 := World.block_lt_of_cell? _ _ z6
    have l4 := World.block_lt_of_cell? _ _ g0
    have l5 := World.block_lt_of_cell? _ _ s0
    go_wp2
    go_region
    clear g0 g1 g2 y0 y1 s0 s1 s2 s3 z1 z2 z6 z7 l1 l2 l3 l4 l5 hga1 hga2 hxl hxl2 hba hbr hcl hcln hw1 hsub hkl
    have hst2 := (hst.alloc #[.int .i64 y1', .int .i64 y2'] 110).drew
    clear hst
    generalize hWW : (wr.alloc (.cells #[.int .i64 y1', .int .i64 y2'] 110)).drew = W at hst2 ⊢
    generalize wr.heap.size = D at hst2 ⊢
    clear hWW wr
    obtain ⟨d0, d1⟩ := hst2.at2 0 rfl
    obtain ⟨g0, g1, g2⟩ := hst2.at3 5 rfl
    obtain ⟨y0, y1⟩ := hst2.at2 4 rfl
    obtain ⟨s0, s1, s2, s3⟩ := hst2.at4 3 rfl
    by_cases e0 : y1' = 0
    · have HE := Lib.hid (Bd.go_none (ps := l) (gts := gts) (seen := seen) (k := 2000 - q) (out := out) HA.out e0)
      rw [HX.out] at HE
      subst e0
      by_cases hq : q = 2000
      · have hqb : ((q : Int) == 2000) = true := by rw [beq_iff_eq]; omega
        clear hq
        go_wp2
        go_ret3
        exact ⟨_, _, by rw [HE.out]; rfl, by rw [HE.out]; exact ((St.ofBel hst2.bel).nilOwn _ _).nilOwn _ _⟩
      · have hqb : ((q : Int) == 2000) = false := by rw [beq_eq_false_iff_ne]; omega
        clear hq
        go_wp2
        go_ret3
        exact ⟨_, _, by rw [HE.out]; rfl, by rw [HE.out]; exact ((St.ofBel hst2.bel).nilOwn _ _).nilOwn _ _⟩
    have e0b : (y1' != 0) = true := by rw [bne_iff_ne]; exact e0
    by_cases hq : q = 2000
    · have HE := Lib.hid (Bd.go_end (ps := l) (gts := gts) (seen := seen) (out := out) HA.out e0)
      have hx := HX.out
      rw [hq, Nat.sub_self, HE.out] at hx
      have HXE := Lib.hid hx
      have hqb : ((q : Int) == 2000) = true := by rw [beq_iff_eq]; omega
      clear hq hx HE e0
      go_wp2
      go_ret3
      exact ⟨_, _, by rw [← HXE.out]; rfl, by rw [← HXE.out]; exact ((St.ofBel hst2.bel).nilOwn _ _).nilOwn _ _⟩
    have hqb : ((q : Int) == 2000) = false := by rw [beq_eq_false_iff_ne]; omega
    obtain ⟨k, hk⟩ : ∃ k, 2000 - q = k + 1 := ⟨2000 - q - 1, by omega⟩
    have hx := HX.out
    rw [hk] at hx
    have HX1 := Lib.hid hx
    have hqk : q + 1 ≤ 2000 := by omega
    clear hx HX
    rcases HR3.out with ⟨h0, _⟩ | ⟨h0, hc1, hc2, hc3⟩ | ⟨h0, hc1, hc2⟩ | ⟨h0, hc1, hc2⟩
    · exact absurd h0 e0
    · try simp only at h0 hc2 hc3
      subst h0
      clear hk hq e0 e0b
      have hstD := hst2.get2.drew
      have HX2 : Hid ((60 ≤ st.length → X = (14, [], [])) ∧ (st.length < 60 → X = (0, st ++ [y2'], out ++ [(2, seen)]))) := Lib.hid ⟨fun g => by rw [← HX1.out]; exact Bd.go_shiftDeep HA.out rfl g, fun g => by rw [← HX1.out]; exact Bd.go_shift HA.out rfl g⟩
      obtain ⟨bv, bn, bc, rfl⟩ : ∃ x n c, u12 = .slice x n c := by obtain ⟨x, c, h⟩ := (hst2.ownAt 2 rfl).isLen; exact ⟨_, _, _, h⟩
      have lD := World.block_lt_of_cell? _ _ d0
      have lS := World.block_lt_of_cell? _ _ s0
      clear HX1 hst2
      go_wp2
      go_region_held3 (fun w' => w'.cell? ⟨D, 1, none⟩ = some (.int .i64 y2') ∧ w'.cell? ⟨w.heap.size + 1 + 1, 1, none⟩ = some (.int .i64 seen)) (first | exact ⟨d1, s1⟩ | go_keep) (first
        | (refine St.step1n intE (by rfl) (.tmp 49) (.tmp 52) (by rfl) (by rfl) hstD (.int .i64 y2') rfl _ 1 rfl (by simp) rfl (int_one2 _) (by rw [List.length_map]; unfold maxLen; omega) (by rw [List.length_map]; omega) ?_; intro g5 n5 c5 w5 hst5; obtain rfl : n5 = st.length + 1 := (by have := hst5.own.len; simpa using this); obtain ⟨d0, d1⟩ := hst5.at2 1 rfl; obtain ⟨s0, s1, s2, s3⟩ := hst5.at4 3 rfl)
        | (refine St.step1n intE (by rfl) (.tmp 49) (.tmp 52) (by rfl) (by rfl) (hstD.alloc #[.int .i64 2, .int .i64 seen] 76).get2 (.int .i64 y2') rfl _ 1 rfl (by simp) rfl (int_one2 _) (by rw [List.length_map]; unfold maxLen; omega) (by rw [List.length_map]; omega) ?_; intro g5 n5 c5 w5 hst5; obtain rfl : n5 = st.length + 1 := (by have := hst5.own.len; simpa using this); obtain ⟨d0, d1⟩ := hst5.at2 2 rfl; obtain ⟨s0, s1, s2, s3⟩ := hst5.at4 4 rfl)
        | (refine St.stepU intE (by rfl) (.tmp 49) (.tmp 52) (by rfl) (by rfl) ((hstD.skip _).alloc #[.int .i64 2, .int .i64 seen] 76).get2 (.int .i64 y2') _ 1 rfl (fun j q hq => (World.cell?_alloc_lt _ _ _ (by simp)).trans (cells_lit _ _ j q hq)) rfl (int_one2 _) (by rw [List.length_map]; unfold maxLen; omega) (by rw [List.length_map]; omega) ?_; intro g5 n5 c5 w5 hst5; obtain rfl : n5 = st.length + 1 := (by have := hst5.own.len; simpa using this); simp only [World.size_alloc] at hst5; obtain ⟨d0, d1⟩ := hst5.at2 2 rfl; obtain ⟨s0, s1, s2, s3⟩ := hst5.at4 4 rfl)
        | (refine St.step1n evtE2 (by rfl) (.tmp 54) (.tmp 58) (by rfl) (by rfl) hst5.get3 (pairV (2, seen)) rfl _ 1 rfl (by simp) rfl (pair_one2 _) (by rw [List.length_map]; unfold maxLen; omega) (by rw [List.length_map]; omega) ?_; intro g6 n6 c6 w6 hst6; have hst7 := hst6.get2.two; obtain ⟨d0, d1⟩ := hst6.at2 2 rfl; obtain ⟨s0, s1, s2, s3⟩ := hst6.at4 3 rfl)
        | (refine St.stepU evtE2 (by rfl) (.tmp 54) (.tmp 58) (by rfl) (by rfl) hst5.get4 (pairV (2, seen)) _ 1 rfl (hst5.celsAt (u := pairV (2, seen)) 1 rfl) rfl (pair_one2 _) (by rw [List.length_map]; unfold maxLen; omega) (by rw [List.length_map]; omega) ?_; intro g6 n6 c6 w6 hst6; have hst7 := hst6.get2.two; obtain ⟨d0, d1⟩ := hst6.at2 3 rfl; obtain ⟨s0, s1, s2, s3⟩ := hst6.at4 4 rfl))
      all_goals
        clear hst5 hst6
        by_cases h60' : 60 ≤ st.length
        · have HXE := Lib.hid (HX2.out.1 h60')
          go_wp2
          go_ret3
          exact ⟨_, _, by rw [HXE.out]; rfl, by rw [HXE.out]; exact ((St.ofBel hst7.bel).nilOwn _ _).nilOwn _ _⟩
        · have h60'' : st.length < 60 := by omega
          have HXE := Lib.hid (HX2.out.2 h60'')
          clear h60'
          go_wp2
          go_ret3
          exact ⟨_, _, by rw [HXE.out]; rfl, by rw [HXE.out]; simp only [List.map_append]; exact hst7⟩
    · try simp only at h0 hc1 hc2
      subst h0
      obtain ⟨p, rfl⟩ := Int.eq_ofNat_of_zero_le hc1
      have hpl : p < l.length := by omega
      have HKK := Lib.hid hk
      clear hk hq e0 e0b
      have HENC := Lib.hid (Own.enc (En := Enc.int .i64) (bytes := 8) (F := fun _ => True) (f := Value.int .i64) (hst2.ownAt 1 rfl) rfl (fun a ha => ⟨rfl, WalkArith.wf_i64 (by
        obtain ⟨i, hi, rfl⟩ := List.getElem_of_mem ha
        have := Bd.any_out HANY.out i hi
        simp only [List.getD, List.getElem?_eq_getElem hi, Option.getD_some] at this
        omega)⟩) (fun _ _ => trivial) (by omega))
      have hcon := HRD.out W hst2.bel st _ p HENC.out hpl HANY.out h60
      cases hred : Bd.red gts st (l.getD p (0, []))
      · have HXE := Lib.hid (Bd.go_redNo (ps := l) (gts := gts) (seen := seen) (k := k) (out := out) HA.out rfl hred)
        rw [HX1.out] at HXE
        rw [hred] at hcon
        have HC := Lib.hid hcon
        clear hcon hred HX1
        go_wp2_with (fail)
        go_at_call 230
        refine HC.out.mono ?_
        rintro e w5 ⟨⟨v, rfl⟩, hb5⟩
        replace hst2 := hst2.call hb5
        clear hb5 d0 d1 g0 g1 g2 y0 y1 s0 s1 s2 s3
        go_wp2
        go_ret3
        exact ⟨_, _, by rw [HXE.out]; rfl, by rw [HXE.out]; exact ((St.ofBel hst2.bel).nilOwn _ _).nilOwn _ _⟩
      · rename_i sv
        have hs2 := HRS.out st p sv hpl HANY.out hred
        rw [hred] at hcon
        have HC := Lib.hid hcon
        have HX2 : Hid ((60 < sv.length → X = (14, [], [])) ∧ (¬ 60 < sv.length → Bd.go l acts gts seen c k sv (out ++ [(4, (p : Int))]) = X)) := Lib.hid ⟨fun g => by rw [← HX1.out]; exact Bd.go_redDeep HA.out rfl hred g, fun g => by rw [← HX1.out]; exact (Bd.go_red HA.out rfl hred g).symm⟩
        have HS2 := Lib.hid hs2
        clear hcon hred HX1 hs2
        go_wp2_with (fail)
        go_at_call 230
        refine HC.out.mono ?_
        rintro e w5 ⟨⟨v, rfl, ho⟩, hb5⟩
        have hst3 := hst2.pushOwn hb5 ho
        obtain ⟨av, cv, rfl⟩ := ho.isLen
        rw [List.length_map] at hst3 ⊢
        clear ho hb5 hst2 d0 d1 g0 g1 g2 y0 y1 s0 s1 s2 s3 HENC
        obtain ⟨d0, d1⟩ := hst3.at2 1 rfl
        have hst4 := hst3.get4
        have lD := World.block_lt_of_cell? _ _ d0
        have hol2 : (out ++ [(4, (p : Int))]).length ≤ q + 1 := by rw [List.length_append, List.length_singleton]; omega
        by_cases h60' : 60 < sv.length
        · have HXE := Lib.hid (HX2.out.1 h60')
          have h60i : (60 : Int) < (sv.length : Int) := by omega
          go_wp2_with (at_builtin; refine St.app1n evtE2 rfl (.tmp 73) (.tmp 77) rfl rfl hst4 (pairV (4, (p : Int))) rfl _ 1 rfl (by simp) rfl (pair_one2 _) (by rw [List.length_map]; unfold maxLen; omega) (by rw [List.length_map]; omega) ?_; intro g6 n6 c6 w6 hst6; obtain ⟨d0, d1⟩ := hst6.at2 2 rfl)
          go_ret3
          exact ⟨_, _, by rw [HXE.out]; rfl, by rw [HXE.out]; exact ((St.ofBel hst6.bel).nilOwn _ _).nilOwn _ _⟩
        · have HXE := Lib.hid (HX2.out.2 h60')
          have h60i : (sv.length : Int) ≤ 60 := by omega
          have h60n : sv.length ≤ 60 := by omega
          clear h60'
          go_wp2_with (at_builtin; refine St.app1n evtE2 rfl (.tmp 73) (.tmp 77) rfl rfl hst4 (pairV (4, (p : Int))) rfl _ 1 rfl (by simp) rfl (pair_one2 _) (by rw [List.length_map]; unfold maxLen; omega) (by rw [List.length_map]; omega) ?_; intro g6 n6 c6 w6 hst6; obtain ⟨d0, d1⟩ := hst6.at2 2 rfl)
          have hst7 := hst6.get2.get3.drop.get3.drop
          have hrel : Bd.RunRel l acts gts seen c X w [aCel (w.heap.size + 1 + 1) 231 #[vs, .int .i64 seen, .int .i64 ov, .bool dn], aCel (w.heap.size + 1) 64 #[.slice (some ⟨ba, oa, none⟩) acts.length ca, vg], aCel w.heap.size 24 #[.int .i64 t, .int .i64 n, vp]] (.slice av sv.length cv) (.slice (some ⟨g6, 0, none⟩) n6 c6) (.int .i64 ((q : Int) + 1)) w6 :=
            ⟨q + 1, sv, out ++ [(4, (p : Int))], hqk, by go_num, HS2.out.1, by omega, hol2, by rw [List.map_append]; exact hst7, Lib.hid HS2.out.2, Lib.hid (by rw [show 2000 - (q + 1) = k by have := HKK.out; omega]; exact HXE.out)⟩
          go_roundw
          case rel => exact hrel
          case measure => simp [intOf]; omega
    · try simp only at h0 hc1
      subst h0 hc1
      have hx := HX1.out
      rw [Bd.go_acc (ps := l) (gts := gts) (seen := seen) (k := k) (out := out) HA.out rfl] at hx
      have HXE := Lib.hid hx
      clear hk hq e0 e0b hc2 hx
      go_wp2
      go_ret3
      exact ⟨_, _, by rw [← HXE.out]; rfl, by rw [← HXE.out]; exact hst2.drop.two⟩
end Go.Proofs.Ytahoapgmiecphaa

/-
  An array of numbers is equal to itself.
-/
namespace Go.Proofs.Ytahoapgmiecphaa
open Go.ChangeShapes Go.WideShapes Go.ChangeAt Go.RowKit

theorem run_equalIn_arr {P : Program} {t e : TypeId} {n : Nat} {k : IntKind} (ht : P.underlying t = some (.array n e)) (he : P.underlying e = some (.int k)) (hs : (P.info? e).map (·.size) = some 1)
    (xs : List Int) (hl : xs.length = n) (d : Nat) (w : World) : (Op.equalIn (d + 2) t (.agg (xs.map (Value.int k)).toArray) (.agg (xs.map (Value.int k)).toArray)).run P w = .ok true w := by
  cases hq : P.info? e with
  | none => simp [hq] at hs
  | some inf =>
    have hs1 : inf.size = 1 := by simpa [hq] using hs
    have hpart : ∀ i, i < n → (part e (xs.map (Value.int k)).toArray (i * 1)).run P w = .ok (.int k (xs.getD i 0)) w := by
      intro i hi
      have hil : i < xs.length := by omega
      simp [part, isAgg, run_underlying he, hil]
    have hloop : ∀ (l : List Nat), (∀ i ∈ l, i < n) → (forIn l ((none : Option Bool), ()) (fun i (_ : Option Bool × Unit) => (do
        let a ← part e (xs.map (Value.int k)).toArray (i * 1)
        let b ← part e (xs.map (Value.int k)).toArray (i * 1)
        let c ← Op.equalIn (d + 1) e a b
        if (!c) = true then pure (ForInStep.done (some false, ())) else pure (ForInStep.yield (none, ())) : Sem (ForInStep (Option Bool × Unit))))).run P w = .ok (none, ()) w := by
      intro l
      induction l with
      | nil => intro _; simp
      | cons i l ih =>
        intro h
        have h1 := hpart i (h i (List.mem_cons_self ..))
        simp only [List.forIn_cons, Sem.run_bind, h1, Result.andThen_ok, run_equalIn_int w d e k k _ _ he, beq_self_eq_true, Bool.not_true, Bool.false_eq_true, if_false, Sem.run_pure]
        exact ih fun q hq => h q (List.mem_cons_of_mem _ hq)
    rw [Op.equalIn]
    simp only [Sem.run_bind, run_underlying ht, Result.andThen_ok, sizeOf, typeInfo, run_program, hq, Sem.run_pure, hs1]
    rw [Std.Legacy.Range.forIn_eq_forIn_range', hloop _ (by intro i hi; simp at hi; exact hi)]
    simp

theorem run_neq_arr {P : Program} {t e : TypeId} {n : Nat} {k : IntKind} (ht : P.underlying t = some (.array n e)) (he : P.underlying e = some (.int k)) (hs : (P.info? e).map (·.size) = some 1)
    (xs : List Int) (hl : xs.length = n) (w : World) : (binOp .neq t (.agg (xs.map (Value.int k)).toArray) (.agg (xs.map (Value.int k)).toArray)).run P w = .ok (.bool false) w := by
  rw [run_neq_struct, run_equalIn_arr ht he hs xs hl 9998 w]
  rfl
theorem run_eql_arr {P : Program} {t e : TypeId} {n : Nat} {k : IntKind} (ht : P.underlying t = some (.array n e)) (he : P.underlying e = some (.int k)) (hs : (P.info? e).map (·.size) = some 1)
    (xs : List Int) (hl : xs.length = n) (w : World) : (binOp .eql t (.agg (xs.map (Value.int k)).toArray) (.agg (xs.map (Value.int k)).toArray)).run P w = .ok (.bool true) w := by
  rw [run_eql_struct, run_equalIn_arr ht he hs xs hl 9998 w]
  rfl

/-- A whole array (or struct) read in a region that only reads. -/
theorem wpQuiet_load_mid {P : Program} {w : World} {ops : Array Oper} {rest : List Oper} {o : Oper} {a : Act} {Q : Act → Prop} (ty : TypeId) (x : Operand) (ho : o.op = .load ty x) (hw : Region.wanted o (yielded ops a.tmps) = true)
    (b off : Nat) (hx : a.eval x = .pointer (some ⟨b, off, none⟩)) (cs : List Value) (d : TypeDesc) (hc : w.rangeAt b off cs) (hu : P.underlying ty = some d) (hd : d.isRow = true) (hi : (P.info? ty).map (·.size) = some cs.length)
    (h : wpQuiet P ops (fun w' => ∃ n, w' = w.drewN n) Q rest (a.put o.dst (.agg cs.toArray))) : wpQuiet P ops (fun w' => ∃ n, w' = w.drewN n) Q (o :: rest) a := by
  unfold wpQuiet
  rw [if_pos hw]
  refine ⟨_, ?_, h⟩
  rintro _ ⟨n, rfl⟩
  unfold Oper.quietAt execOp
  simp only [ho, hx, Instr.loadAt, Instr.sureAddr, Sem.run_bind, Sem.run_pure, Result.andThen_ok, run_loadVar_mid (w.drewN n) b off ty cs d hc hu hd hi]
  exact ⟨rfl, rfl⟩
end Go.Proofs.Ytahoapgmiecphaa

/-
  slices.Equal of two slices that read alike: true.
-/
namespace Go.Proofs.Ytahoapgmiecphaa
open Go.ChangeShapes Go.WideShapes Go.ChangeAt Go.RowKit

set_option maxRecDepth 100000 in
theorem eqInts {v1 v2 : Value} {l : List Int} (w : World) (h1 : Sl w 1 (RInt .i64) v1 l) (h2 : Sl w 1 (RInt .i64) v2 l) :
    Calls Try.prog 43 #[v1, v2] w fun e w' => e = .returned (.bool true) ∧ Below w.heap.size w w' := by
  obtain ⟨a1, b1, o1, c1, rfl, k1, k2, k3, k4, _⟩ := slInts h1
  obtain ⟨a2, b2, o2, c2, rfl, g1, g2, g3, g4, _⟩ := slInts h2
  unfold maxLen at k2 g2
  have K3 := Lib.hid k3; have K4 := Lib.hid k4; have G3 := Lib.hid g3; have G4 := Lib.hid g4
  clear k3 k4 g3 g4 h1 h2
  have hne : ((l.length : Int) != (l.length : Int)) = false := by rw [bne_eq_false_iff_eq]
  go_enter Try.func43, Try.ntmps43
  go_wp2
  go_loopw [5, 13] (fun _ i wr => ∃ k : Nat, k ≤ l.length ∧ i = .int .i64 k ∧ Below w.heap.size w wr) (fun _ i _ => l.length - (intOf i).toNat)
  case atStart => exact ⟨0, by omega, rfl, Below.refl _ _⟩
  case round =>
    obtain ⟨k, hk, rfl, hB⟩ := hrel
    by_cases hlt : k < l.length
    · obtain ⟨rfl, _⟩ := K3.out (by omega)
      obtain ⟨rfl, _⟩ := G3.out (by omega)
      have hc1 := bkeep hB (K4.out k hlt)
      have hc2 := bkeep hB (G4.out k hlt)
      generalize l.getD k 0 = x at hc1 hc2
      clear K3 K4 G3 G4
      go_wp2
      go_quiet (fail)
      go_wp2
      go_roundw
      case rel => exact ⟨k + 1, by omega, by go_num, below_drewN hB _⟩
      case measure => simp [intOf]; omega
    · clear K3 K4 G3 G4
      go_wp2
      go_ret
      exact ⟨rfl, hB⟩

set_option maxRecDepth 100000 in
theorem eqRows {v1 v2 : Value} {l : List (List Int)} (w : World) (h1 : Sl w 256 (RRow .i16 256) v1 l) (h2 : Sl w 256 (RRow .i16 256) v2 l) :
    Calls Try.prog 62 #[v1, v2] w fun e w' => e = .returned (.bool true) ∧ Below w.heap.size w w' := by
  obtain ⟨a1, b1, o1, c1, rfl, k1, k2, k3, k4, k5⟩ := slRows h1
  obtain ⟨a2, b2, o2, c2, rfl, g1, g2, g3, g4, _⟩ := slRows h2
  unfold maxLen at k2 g2
  have K3 := Lib.hid k3; have K4 := Lib.hid k4; have K5 := Lib.hid k5; have G3 := Lib.hid g3; have G4 := Lib.hid g4
  clear k3 k4 k5 g3 g4 h1 h2
  have hne : ((l.length : Int) != (l.length : Int)) = false := by rw [bne_eq_false_iff_eq]
  go_enter Try.func62, Try.ntmps62
  go_wp2
  go_loopw [5, 13] (fun _ i wr => ∃ k : Nat, k ≤ l.length ∧ i = .int .i64 k ∧ Below w.heap.size w wr) (fun _ i _ => l.length - (intOf i).toNat)
  case atStart => exact ⟨0, by omega, rfl, Below.refl _ _⟩
  case round =>
    obtain ⟨k, hk, rfl, hB⟩ := hrel
    by_cases hlt : k < l.length
    · obtain ⟨rfl, _⟩ := K3.out (by omega)
      obtain ⟨rfl, _⟩ := G3.out (by omega)
      have hc1 := rangeAt_below hB (K4.out k hlt)
      have hc2 := rangeAt_below hB (G4.out k hlt)
      have hlen := (K5.out k hlt).1
      have HB := Lib.hid hB; clear hB
      generalize l.getD k [] = x at hc1 hc2 hlen
      clear K3 K4 K5 G3 G4
      have hinf : (Try.prog.info? 142).map (·.size) = some (x.map (Value.int .i16)).length := by rw [List.length_map, hlen]; kernel_rfl
      have hnq := fun W => run_equalIn_arr (P := Try.prog) (k := .i16) Try.underlying142 Try.underlying140 (by kernel_rfl) x hlen 9998 W
      clear hlen
      have HI := Lib.hid hinf; clear hinf
      go_wp2
      refine wp_region_quiet_lit (by kernel_rfl) (by kernel_rfl) ?_
      repeat (first
        | ((with_reducible refine wpQuiet_load_mid (w := wr) 142 _ rfl rfl b1 (o1 + k * 256) rfl (x.map (Value.int .i16)) _ hc1 Try.underlying142 rfl HI.out ?_); simp only [Act.put, List.setIfInBounds_toArray, List.set_cons_zero, List.set_cons_succ])
        | ((with_reducible refine wpQuiet_load_mid (w := wr) 142 _ rfl rfl b2 (o2 + k * 256) rfl (x.map (Value.int .i16)) _ hc2 Try.underlying142 rfl HI.out ?_); simp only [Act.put, List.setIfInBounds_toArray, List.set_cons_zero, List.set_cons_succ])
        | go_big_quiet_step (fail))
      refine wpQuiet_nil ?_
      intro _ hw'
      obtain ⟨nq, hw''⟩ := hw'
      subst hw''
      go_wp2
      go_roundw
      case rel => exact ⟨k + 1, by omega, by go_num, below_drewN HB.out _⟩
      case measure => simp [intOf]; omega
    · clear K3 K4 K5 G3 G4
      go_wp2
      go_ret
      exact ⟨rfl, hB⟩
end Go.Proofs.Ytahoapgmiecphaa

/-
  same of package build; SameStacker of the reference on alike stacks.
-/
namespace Go.Proofs.Ytahoapgmiecphaa
set_option linter.unusedVariables false
open Go.ChangeShapes Go.WideShapes Go.ChangeAt Go.RowKit


set_option maxRecDepth 100000 in
set_option maxHeartbeats 4000000 in
theorem bdSame_any {v : Value} {l : List Int} (a b : Int) (d : Bool) (w : World) {F : Nat → Prop} (hF : ∀ b, F b → b < w.heap.size) (h : ((Enc.int .i64).sl 8).R F w [v] l) :
    Calls Try.prog 226 #[.agg #[v, .int .i64 a, .int .i64 b, .bool d]] w fun e w' => ∃ v', e = .returned (.agg #[v', .int .i64 a, .int .i64 b, .bool d]) ∧ Own w' w.heap.size 3 1 v' (l.map (Value.int .i64)) ∧ Below w.heap.size w w' := by
  obtain ⟨ao, -, -, cap, rfl, hroom, -⟩ := Enc.sl1 (En := Enc.int .i64) (Value.int .i64) (fun _ _ _ h => h.1) rfl 0 h
  have hst := ((St.init w).alloc #[.slice ao l.length cap, .int .i64 a, .int .i64 b, .bool d] 231).alloc #[.slice none 0 0, .int .i64 0, .int .i64 0, .bool false] 231
  simp only [World.size_alloc] at hst
  have HCL := Lib.hid (clone_any (l := l) _ (Enc.toSl (Enc.mono _ h (fun _ h => h) (fun b hb => hst.bel.block b (hF b hb)))) (by omega))
  clear h hF hroom
  go_enter Try.func226, Try.ntmps226
  go_wp2_with (fail)
  go_at_call 117
  refine HCL.out.mono ?_
  rintro e w1 ⟨v', rfl, ho, hb1⟩
  obtain ⟨a2, c2, rfl⟩ := ho.isLen
  rw [List.length_map] at ho ⊢
  replace hst := hst.pushOwn hb1 ho
  obtain ⟨x0, x1, x2, x3, xf0, xf1, xf2, xf3⟩ := hst.get3.cel4
  obtain ⟨y0, y1, y2, y3, yf0, yf1, yf2, yf3⟩ := hst.get2.cel4
  have hstA := (((((hst.get3.setCel 0 (.slice a2 l.length c2)).get3.setCel 0 (.slice a2 l.length c2)).setCel 1 (.int .i64 a)).setCel 2 (.int .i64 b)).setCel 3 (.bool d))
  clear hst ho hb1
  go_wp2
  obtain ⟨z0, z1, z2, z3⟩ := hstA.at4 0 rfl
  exact bodyPost_ret (v := .agg #[.slice a2 l.length c2, .int .i64 a, .int .i64 b, .bool d]) (by simp [results, Try.results226, go_sem, z0, z1, z2, z3]) rfl ⟨_, rfl, hstA.get3.own, hstA.bel⟩

end Go.Proofs.Ytahoapgmiecphaa

/-
  Push and End of package build: what they compute.
-/
namespace Go.Proofs.Ytahoapgmiecphaa
set_option linter.unusedVariables false
open Go.ChangeShapes Go.WideShapes Go.ChangeAt Go.RowKit

namespace Bd
/-- What Push and End tell. -/
def tell (E : Int) (last : Bool) (x : Int × List Int × List (Int × Int)) (st : List Int) (seen ov : Int) (dn : Bool) : R := if E ≠ 0 then ⟨E, st, seen, ov, dn, []⟩ else fin last x seen
theorem tell_bad {E last x st seen ov dn} (h : E ≠ 0) : tell E last x st seen ov dn = ⟨E, st, seen, ov, dn, []⟩ := by rw [tell, if_pos h]
theorem tell_ok {last x st seen ov dn} : tell 0 last x st seen ov dn = fin last x seen := by rw [tell, if_neg (by simp)]
end Bd

theorem bdCheck_any (t n seen ov col : Int) (dn : Bool) (vp va vg vs : Value) (l : List (Int × List (Int × Int))) (acts : List (List (Int × Int))) (gts : List (List Int)) (st : List Int) (w : World) (F : Nat → Prop) (hF : ∀ b, F b → b < w.heap.size) (h : Enc.prods.R F w [vp] l)
    (ha : ((Enc.two.sl 16).sl 24).R F w [va] acts) (hg : (((Enc.int .i64).sl 8).sl 24).R F w [vg] gts) (hs : ((Enc.int .i64).sl 8).R F w [vs] st) :
    Calls Try.prog 225 #[.agg #[.int .i64 t, .int .i64 n, vp], .agg #[va, vg], .agg #[vs, .int .i64 seen, .int .i64 ov, .bool dn], .int .i64 col] w fun e w' => e = .returned (.int .i64 (Bd.chk (Tb.all t n l acts gts) t acts.length st seen (decide (ov ≠ 0) || dn) col)) ∧ Below w.heap.size w w' := by
  by_cases he : Tb.all t n l acts gts = 0
  · rw [he]; exact bdCheck_ok t n seen ov col dn vp va vg vs l acts gts st w F hF h ha hg hs he
  · rw [Bd.chk_te he]; exact bdCheck_te t n seen ov col dn vp va vg vs l acts gts st w F hF h ha hg he

set_option maxRecDepth 100000 in
set_option maxHeartbeats 8000000 in
theorem bdPush_bad (t n seen ov term col : Int) (dn : Bool) (vp va vg vs : Value) (l : List (Int × List (Int × Int))) (acts : List (List (Int × Int))) (gts : List (List Int)) (st : List Int) (w : World) (F : Nat → Prop) (hF : ∀ b, F b → b < w.heap.size) (h : Enc.prods.R F w [vp] l)
    (ha : ((Enc.two.sl 16).sl 24).R F w [va] acts) (hg : (((Enc.int .i64).sl 8).sl 24).R F w [vg] gts) (hs : ((Enc.int .i64).sl 8).R F w [vs] st) (E : Int) (hc : (term = t ∧ col = -1) ∨ (term ≠ t ∧ term = col)) (hE : Bd.chk (Tb.all t n l acts gts) t acts.length st seen (decide (ov ≠ 0) || dn) col = E) (hne : E ≠ 0) :
    Calls Try.prog 224 #[.agg #[.int .i64 t, .int .i64 n, vp], .agg #[va, vg], .agg #[vs, .int .i64 seen, .int .i64 ov, .bool dn], .int .i64 term] w (Bd.Ret ⟨E, st, seen, ov, dn, []⟩ w) := by
  have hst := (((((St.init w).alloc #[.int .i64 t, .int .i64 n, vp] 24).alloc #[va, vg] 64).alloc #[vs, .int .i64 seen, .int .i64 ov, .bool dn] 231).alloc #[.slice none 0 0, .int .i64 0, .int .i64 0, .bool false] 231)
  simp only [World.size_alloc] at hst
  have HC := fun (W : World) (hW : Below w.heap.size w W) => bdCheck_any t n seen ov col dn vp va vg vs l acts gts st W F (fun b hb => Nat.lt_of_lt_of_le (hF b hb) hW.size) (Enc.mono _ h (fun _ h => h) (fun b hb => hW.block b (hF b hb))) (Enc.mono _ ha (fun _ h => h) (fun b hb => hW.block b (hF b hb))) (Enc.mono _ hg (fun _ h => h) (fun b hb => hW.block b (hF b hb))) (Enc.mono _ hs (fun _ h => h) (fun b hb => hW.block b (hF b hb)))
  rw [hE] at HC
  replace HC := Lib.hid HC
  have HS := Lib.hid (fun (W : World) (hW : Below w.heap.size w W) => bdSame_any seen ov dn W (F := F) (fun b hb => Nat.lt_of_lt_of_le (hF b hb) hW.size) (Enc.mono _ hs (fun _ h => h) (fun b hb => hW.block b (hF b hb))))
  have hneb : (E != 0) = true := by rw [bne_iff_ne]; exact hne
  clear h ha hg hs hF hE hne
  rcases hc with ⟨rfl, rfl⟩ | ⟨hq, rfl⟩
  · go_enter Try.func224, Try.ntmps224
    go_wp2_with (fail)
    go_at_call 225
    refine (HC.out _ hst.bel).mono ?_
    rintro e w1 ⟨rfl, hb1⟩
    replace hst := hst.call hb1
    clear hb1
    obtain ⟨x0, x1, x2, x3⟩ := hst.at4 1 rfl
    go_wp2_with (fail)
    go_at_call 226
    refine (HS.out _ hst.bel).mono ?_
    rintro e w2 ⟨v', rfl, ho, hb2⟩
    obtain ⟨a2, c2, rfl⟩ := ho.isLen
    rw [List.length_map] at ho ⊢
    replace hst := hst.pushOwn hb2 ho
    clear hb2 ho x0 x1 x2 x3
    obtain ⟨x0, x1, x2, x3, xf0, xf1, xf2, xf3⟩ := hst.get2.cel4
    have hstA := ((((hst.get2.setCel 0 (.slice a2 st.length c2)).setCel 1 (.int .i64 seen)).setCel 2 (.int .i64 ov)).setCel 3 (.bool dn))
    clear hst
    go_wp2
    obtain ⟨z0, z1, z2, z3⟩ := hstA.at4 0 rfl
    have hfin := ((hstA.nth 1 rfl).nilOwn 76 2).get2
    refine bodyPost_ret (v := .tuple #[.agg #[.slice a2 st.length c2, .int .i64 seen, .int .i64 ov, .bool dn], .slice none 0 0, .int .i64 E]) ?_ rfl ?_
    · simp [results, Try.results224, go_sem, z0, z1, z2, z3]
    · exact ⟨_, _, rfl, hfin⟩
  · have hqb : (term == t) = false := by rw [beq_eq_false_iff_ne]; exact hq
    clear hq
    go_enter Try.func224, Try.ntmps224
    go_wp2_with (fail)
    go_at_call 225
    refine (HC.out _ hst.bel).mono ?_
    rintro e w1 ⟨rfl, hb1⟩
    replace hst := hst.call hb1
    clear hb1
    obtain ⟨x0, x1, x2, x3⟩ := hst.at4 1 rfl
    go_wp2_with (fail)
    go_at_call 226
    refine (HS.out _ hst.bel).mono ?_
    rintro e w2 ⟨v', rfl, ho, hb2⟩
    obtain ⟨a2, c2, rfl⟩ := ho.isLen
    rw [List.length_map] at ho ⊢
    replace hst := hst.pushOwn hb2 ho
    clear hb2 ho x0 x1 x2 x3
    obtain ⟨x0, x1, x2, x3, xf0, xf1, xf2, xf3⟩ := hst.get2.cel4
    have hstA := ((((hst.get2.setCel 0 (.slice a2 st.length c2)).setCel 1 (.int .i64 seen)).setCel 2 (.int .i64 ov)).setCel 3 (.bool dn))
    clear hst
    go_wp2
    obtain ⟨z0, z1, z2, z3⟩ := hstA.at4 0 rfl
    have hfin := ((hstA.nth 1 rfl).nilOwn 76 2).get2
    refine bodyPost_ret (v := .tuple #[.agg #[.slice a2 st.length c2, .int .i64 seen, .int .i64 ov, .bool dn], .slice none 0 0, .int .i64 E]) ?_ rfl ?_
    · simp [results, Try.results224, go_sem, z0, z1, z2, z3]
    · exact ⟨_, _, rfl, hfin⟩

set_option maxRecDepth 100000 in
set_option maxHeartbeats 8000000 in
theorem bdPush_ok (t n seen ov : Int) (c : Nat) (dn : Bool) (vp va vg vs : Value) (l : List (Int × List (Int × Int))) (acts : List (List (Int × Int))) (gts : List (List Int)) (st : List Int) (w : World) (F : Nat → Prop) (hF : ∀ b, F b → b < w.heap.size) (h : Enc.prods.R F w [vp] l)
    (ha : ((Enc.two.sl 16).sl 24).R F w [va] acts) (hg : (((Enc.int .i64).sl 8).sl 24).R F w [vg] gts) (hs : ((Enc.int .i64).sl 8).R F w [vs] st) (hc : (c : Int) < t) (hE : Bd.chk (Tb.all t n l acts gts) t acts.length st seen (decide (ov ≠ 0) || dn) c = 0) :
    Calls Try.prog 224 #[.agg #[.int .i64 t, .int .i64 n, vp], .agg #[va, vg], .agg #[vs, .int .i64 seen, .int .i64 ov, .bool dn], .int .i64 c] w (Bd.Ret (Bd.fin false (Bd.go l acts gts seen c 2000 st []) seen) w) := by
  have hst := (((((St.init w).alloc #[.int .i64 t, .int .i64 n, vp] 24).alloc #[va, vg] 64).alloc #[vs, .int .i64 seen, .int .i64 ov, .bool dn] 231).alloc #[.slice none 0 0, .int .i64 0, .int .i64 0, .bool false] 231)
  simp only [World.size_alloc] at hst
  have HC := fun (W : World) (hW : Below w.heap.size w W) => bdCheck_any t n seen ov c dn vp va vg vs l acts gts st W F (fun b hb => Nat.lt_of_lt_of_le (hF b hb) hW.size) (Enc.mono _ h (fun _ h => h) (fun b hb => hW.block b (hF b hb))) (Enc.mono _ ha (fun _ h => h) (fun b hb => hW.block b (hF b hb))) (Enc.mono _ hg (fun _ h => h) (fun b hb => hW.block b (hF b hb))) (Enc.mono _ hs (fun _ h => h) (fun b hb => hW.block b (hF b hb)))
  rw [hE] at HC
  replace HC := Lib.hid HC
  obtain ⟨he, -, -, -, h60, hs0, hs1, hpos, hany⟩ := Bd.chk_zero hE
  have HR := Lib.hid (fun (W : World) (hW : Below w.heap.size w W) => bdRun_any t n seen ov dn vp va vg vs l acts gts st c W F (fun b hb => Nat.lt_of_lt_of_le (hF b hb) hW.size) (Enc.mono _ h (fun _ h => h) (fun b hb => hW.block b (hF b hb))) (Enc.mono _ ha (fun _ h => h) (fun b hb => hW.block b (hF b hb))) (Enc.mono _ hg (fun _ h => h) (fun b hb => hW.block b (hF b hb))) (Enc.mono _ hs (fun _ h => h) (fun b hb => hW.block b (hF b hb))) he (by omega) ⟨hs0, hs1⟩ hpos h60 hany)
  have hqb : ((c : Int) == t) = false := by rw [beq_eq_false_iff_ne]; omega
  clear h ha hg hs hF hE he hany
  generalize Bd.go l acts gts seen c 2000 st [] = X at *
  obtain ⟨e, s2, o2⟩ := X
  by_cases hz : e = 0
  · subst hz
    rw [Bd.fin_go rfl]
    go_enter Try.func224, Try.ntmps224
    go_wp2_with (fail)
    go_at_call 225
    refine (HC.out _ hst.bel).mono ?_
    rintro e w1 ⟨rfl, hb1⟩
    replace hst := hst.call hb1
    clear hb1
    obtain ⟨g0, g1, g2⟩ := hst.at3 3 rfl
    obtain ⟨t0, t1⟩ := hst.at2 2 rfl
    obtain ⟨x0, x1, x2, x3⟩ := hst.at4 1 rfl
    go_wp2_with (fail)
    go_at_call 227
    refine (HR.out _ hst.bel).mono ?_
    rintro e w2 ⟨vs2, ve2, rfl, hst2⟩
    obtain ⟨a2, c2, rfl⟩ := (hst2.ownAt 0 rfl).isLen
    obtain ⟨a3, c3, rfl⟩ := (hst2.ownAt 1 rfl).isLen
    simp only [List.length_map] at hst2 ⊢
    replace hst := hst.joined hst2
    clear hst2 g0 g1 g2 t0 t1 x0 x1 x2 x3
    obtain ⟨x0, x1, x2, x3⟩ := hst.at4 3 rfl
    obtain ⟨y0, y1, y2, y3, yf0, yf1, yf2, yf3⟩ := hst.get3.cel4
    have hstA := ((((hst.get3.setCel 0 (.slice a2 s2.length c2)).setCel 1 (.int .i64 (seen + 1))).setCel 2 (.int .i64 0)).setCel 3 (.bool false))
    clear hst
    go_wp2
    obtain ⟨z0, z1, z2, z3⟩ := hstA.at4 0 rfl
    refine bodyPost_ret (v := .tuple #[.agg #[.slice a2 s2.length c2, .int .i64 (seen + 1), .int .i64 0, .bool false], .slice a3 o2.length c3, .int .i64 0]) ?_ rfl ?_
    · simp [results, Try.results224, go_sem, z0, z1, z2, z3]
    · exact ⟨_, _, rfl, hstA.drop.two⟩
  · rw [Bd.fin_bad hz]
    have hzb : (e != 0) = true := by rw [bne_iff_ne]; exact hz
    clear hz
    generalize e = E at *
    go_enter Try.func224, Try.ntmps224
    go_wp2_with (fail)
    go_at_call 225
    refine (HC.out _ hst.bel).mono ?_
    rintro e w1 ⟨rfl, hb1⟩
    replace hst := hst.call hb1
    clear hb1
    obtain ⟨g0, g1, g2⟩ := hst.at3 3 rfl
    obtain ⟨t0, t1⟩ := hst.at2 2 rfl
    obtain ⟨x0, x1, x2, x3⟩ := hst.at4 1 rfl
    go_wp2_with (fail)
    go_at_call 227
    refine (HR.out _ hst.bel).mono ?_
    rintro e w2 ⟨vs2, ve2, rfl, hst2⟩
    replace hst := hst.joined hst2
    clear hst2 g0 g1 g2 t0 t1 x0 x1 x2 x3
    obtain ⟨x0, x1, x2, x3⟩ := hst.at4 3 rfl
    obtain ⟨y0, y1, y2, y3, yf0, yf1, yf2, yf3⟩ := hst.get3.cel4
    have hstA := ((((hst.get3.setCel 0 (.slice none 0 0)).setCel 1 (.int .i64 seen)).setCel 2 (.int .i64 E)).setCel 3 (.bool false))
    clear hst
    go_wp2
    obtain ⟨z0, z1, z2, z3⟩ := hstA.at4 0 rfl
    refine bodyPost_ret (v := .tuple #[.agg #[.slice none 0 0, .int .i64 seen, .int .i64 E, .bool false], .slice none 0 0, .int .i64 E]) ?_ rfl ?_
    · simp [results, Try.results224, go_sem, z0, z1, z2, z3]
    · exact ⟨_, _, rfl, ((St.ofBel hstA.bel).nilOwn _ _).nilOwn _ _⟩
set_option maxRecDepth 100000 in
set_option maxHeartbeats 8000000 in
theorem bdEnd_bad (t n seen ov : Int) (dn : Bool) (vp va vg vs : Value) (l : List (Int × List (Int × Int))) (acts : List (List (Int × Int))) (gts : List (List Int)) (st : List Int) (w : World) (F : Nat → Prop) (hF : ∀ b, F b → b < w.heap.size) (h : Enc.prods.R F w [vp] l)
    (ha : ((Enc.two.sl 16).sl 24).R F w [va] acts) (hg : (((Enc.int .i64).sl 8).sl 24).R F w [vg] gts) (hs : ((Enc.int .i64).sl 8).R F w [vs] st) (E : Int) (hE : Bd.chk (Tb.all t n l acts gts) t acts.length st seen (decide (ov ≠ 0) || dn) t = E) (hne : E ≠ 0) :
    Calls Try.prog 223 #[.agg #[.int .i64 t, .int .i64 n, vp], .agg #[va, vg], .agg #[vs, .int .i64 seen, .int .i64 ov, .bool dn]] w (Bd.Ret ⟨E, st, seen, ov, dn, []⟩ w) := by
  have hst := (((((St.init w).alloc #[.int .i64 t, .int .i64 n, vp] 24).alloc #[va, vg] 64).alloc #[vs, .int .i64 seen, .int .i64 ov, .bool dn] 231).alloc #[.slice none 0 0, .int .i64 0, .int .i64 0, .bool false] 231)
  simp only [World.size_alloc] at hst
  have HC := fun (W : World) (hW : Below w.heap.size w W) => bdCheck_any t n seen ov t dn vp va vg vs l acts gts st W F (fun b hb => Nat.lt_of_lt_of_le (hF b hb) hW.size) (Enc.mono _ h (fun _ h => h) (fun b hb => hW.block b (hF b hb))) (Enc.mono _ ha (fun _ h => h) (fun b hb => hW.block b (hF b hb))) (Enc.mono _ hg (fun _ h => h) (fun b hb => hW.block b (hF b hb))) (Enc.mono _ hs (fun _ h => h) (fun b hb => hW.block b (hF b hb)))
  rw [hE] at HC
  replace HC := Lib.hid HC
  have HS := Lib.hid (fun (W : World) (hW : Below w.heap.size w W) => bdSame_any seen ov dn W (F := F) (fun b hb => Nat.lt_of_lt_of_le (hF b hb) hW.size) (Enc.mono _ hs (fun _ h => h) (fun b hb => hW.block b (hF b hb))))
  have hneb : (E != 0) = true := by rw [bne_iff_ne]; exact hne
  clear h ha hg hs hF hE hne
  go_enter Try.func223, Try.ntmps223
  go_wp2_with (fail)
  go_at_call 225
  refine (HC.out _ hst.bel).mono ?_
  rintro e w1 ⟨rfl, hb1⟩
  replace hst := hst.call hb1
  clear hb1
  obtain ⟨x0, x1, x2, x3⟩ := hst.at4 1 rfl
  go_wp2_with (fail)
  go_at_call 226
  refine (HS.out _ hst.bel).mono ?_
  rintro e w2 ⟨v', rfl, ho, hb2⟩
  obtain ⟨a2, c2, rfl⟩ := ho.isLen
  rw [List.length_map] at ho ⊢
  replace hst := hst.pushOwn hb2 ho
  clear hb2 ho x0 x1 x2 x3
  obtain ⟨x0, x1, x2, x3, xf0, xf1, xf2, xf3⟩ := hst.get2.cel4
  have hstA := ((((hst.get2.setCel 0 (.slice a2 st.length c2)).setCel 1 (.int .i64 seen)).setCel 2 (.int .i64 ov)).setCel 3 (.bool dn))
  clear hst
  go_wp2
  obtain ⟨z0, z1, z2, z3⟩ := hstA.at4 0 rfl
  have hfin := ((hstA.nth 1 rfl).nilOwn 76 2).get2
  refine bodyPost_ret (v := .tuple #[.agg #[.slice a2 st.length c2, .int .i64 seen, .int .i64 ov, .bool dn], .slice none 0 0, .int .i64 E]) ?_ rfl ?_
  · simp [results, Try.results223, go_sem, z0, z1, z2, z3]
  · exact ⟨_, _, rfl, hfin⟩

set_option maxRecDepth 100000 in
set_option maxHeartbeats 8000000 in
theorem bdEnd_ok (t n seen ov : Int) (c : Nat) (dn : Bool) (vp va vg vs : Value) (l : List (Int × List (Int × Int))) (acts : List (List (Int × Int))) (gts : List (List Int)) (st : List Int) (w : World) (F : Nat → Prop) (hF : ∀ b, F b → b < w.heap.size) (h : Enc.prods.R F w [vp] l)
    (ha : ((Enc.two.sl 16).sl 24).R F w [va] acts) (hg : (((Enc.int .i64).sl 8).sl 24).R F w [vg] gts) (hs : ((Enc.int .i64).sl 8).R F w [vs] st) (hc : t = (c : Int)) (hE : Bd.chk (Tb.all t n l acts gts) t acts.length st seen (decide (ov ≠ 0) || dn) c = 0) :
    Calls Try.prog 223 #[.agg #[.int .i64 t, .int .i64 n, vp], .agg #[va, vg], .agg #[vs, .int .i64 seen, .int .i64 ov, .bool dn]] w (Bd.Ret (Bd.fin true (Bd.go l acts gts seen c 2000 st []) seen) w) := by
  subst hc
  have hst := (((((St.init w).alloc #[(.int .i64 (c : Int)), .int .i64 n, vp] 24).alloc #[va, vg] 64).alloc #[vs, .int .i64 seen, .int .i64 ov, .bool dn] 231).alloc #[.slice none 0 0, .int .i64 0, .int .i64 0, .bool false] 231)
  simp only [World.size_alloc] at hst
  have HC := fun (W : World) (hW : Below w.heap.size w W) => bdCheck_any c n seen ov c dn vp va vg vs l acts gts st W F (fun b hb => Nat.lt_of_lt_of_le (hF b hb) hW.size) (Enc.mono _ h (fun _ h => h) (fun b hb => hW.block b (hF b hb))) (Enc.mono _ ha (fun _ h => h) (fun b hb => hW.block b (hF b hb))) (Enc.mono _ hg (fun _ h => h) (fun b hb => hW.block b (hF b hb))) (Enc.mono _ hs (fun _ h => h) (fun b hb => hW.block b (hF b hb)))
  rw [hE] at HC
  replace HC := Lib.hid HC
  obtain ⟨he, -, -, -, h60, hs0, hs1, hpos, hany⟩ := Bd.chk_zero hE
  have HR := Lib.hid (fun (W : World) (hW : Below w.heap.size w W) => bdRun_any c n seen ov dn vp va vg vs l acts gts st c W F (fun b hb => Nat.lt_of_lt_of_le (hF b hb) hW.size) (Enc.mono _ h (fun _ h => h) (fun b hb => hW.block b (hF b hb))) (Enc.mono _ ha (fun _ h => h) (fun b hb => hW.block b (hF b hb))) (Enc.mono _ hg (fun _ h => h) (fun b hb => hW.block b (hF b hb))) (Enc.mono _ hs (fun _ h => h) (fun b hb => hW.block b (hF b hb))) he (by omega) ⟨hs0, hs1⟩ hpos h60 hany)
  clear h ha hg hs hF hE he hany
  generalize Bd.go l acts gts seen c 2000 st [] = X at *
  obtain ⟨e, s2, o2⟩ := X
  by_cases hz : e = 0
  · subst hz
    rw [Bd.fin_end rfl]
    go_enter Try.func223, Try.ntmps223
    go_wp2_with (fail)
    go_at_call 225
    refine (HC.out _ hst.bel).mono ?_
    rintro e w1 ⟨rfl, hb1⟩
    replace hst := hst.call hb1
    clear hb1
    obtain ⟨g0, g1, g2⟩ := hst.at3 3 rfl
    obtain ⟨t0, t1⟩ := hst.at2 2 rfl
    obtain ⟨x0, x1, x2, x3⟩ := hst.at4 1 rfl
    go_wp2_with (fail)
    go_at_call 227
    refine (HR.out _ hst.bel).mono ?_
    rintro e w2 ⟨vs2, ve2, rfl, hst2⟩
    obtain ⟨a2, c2, rfl⟩ := (hst2.ownAt 0 rfl).isLen
    obtain ⟨a3, c3, rfl⟩ := (hst2.ownAt 1 rfl).isLen
    simp only [List.length_map] at hst2 ⊢
    replace hst := hst.joined hst2
    clear hst2 g0 g1 g2 t0 t1 x0 x1 x2 x3
    obtain ⟨x0, x1, x2, x3⟩ := hst.at4 3 rfl
    obtain ⟨y0, y1, y2, y3, yf0, yf1, yf2, yf3⟩ := hst.get3.cel4
    have hstA := ((((hst.get3.setCel 0 (.slice none 0 0)).setCel 1 (.int .i64 seen)).setCel 2 (.int .i64 0)).setCel 3 (.bool true))
    clear hst
    go_wp2
    obtain ⟨z0, z1, z2, z3⟩ := hstA.at4 0 rfl
    refine bodyPost_ret (v := .tuple #[.agg #[.slice none 0 0, .int .i64 seen, .int .i64 0, .bool true], .slice a3 o2.length c3, .int .i64 0]) ?_ rfl ?_
    · simp [results, Try.results223, go_sem, z0, z1, z2, z3]
    · exact ⟨_, _, rfl, (hstA.nth 2 rfl).nilOwn _ _⟩
  · rw [Bd.fin_bad hz]
    have hzb : (e != 0) = true := by rw [bne_iff_ne]; exact hz
    clear hz
    generalize e = E at *
    go_enter Try.func223, Try.ntmps223
    go_wp2_with (fail)
    go_at_call 225
    refine (HC.out _ hst.bel).mono ?_
    rintro e w1 ⟨rfl, hb1⟩
    replace hst := hst.call hb1
    clear hb1
    obtain ⟨g0, g1, g2⟩ := hst.at3 3 rfl
    obtain ⟨t0, t1⟩ := hst.at2 2 rfl
    obtain ⟨x0, x1, x2, x3⟩ := hst.at4 1 rfl
    go_wp2_with (fail)
    go_at_call 227
    refine (HR.out _ hst.bel).mono ?_
    rintro e w2 ⟨vs2, ve2, rfl, hst2⟩
    replace hst := hst.joined hst2
    clear hst2 g0 g1 g2 t0 t1 x0 x1 x2 x3
    obtain ⟨x0, x1, x2, x3⟩ := hst.at4 3 rfl
    obtain ⟨y0, y1, y2, y3, yf0, yf1, yf2, yf3⟩ := hst.get3.cel4
    have hstA := ((((hst.get3.setCel 0 (.slice none 0 0)).setCel 1 (.int .i64 seen)).setCel 2 (.int .i64 E)).setCel 3 (.bool false))
    clear hst
    go_wp2
    obtain ⟨z0, z1, z2, z3⟩ := hstA.at4 0 rfl
    refine bodyPost_ret (v := .tuple #[.agg #[.slice none 0 0, .int .i64 seen, .int .i64 E, .bool false], .slice none 0 0, .int .i64 E]) ?_ rfl ?_
    · simp [results, Try.results223, go_sem, z0, z1, z2, z3]
    · exact ⟨_, _, rfl, ((St.ofBel hstA.bel).nilOwn _ _).nilOwn _ _⟩
end Go.Proofs.Ytahoapgmiecphaa

/-
  RightStacker of the reference: what it computes.
-/
namespace Go.Proofs.Ytahoapgmiecphaa
set_option linter.unusedVariables false
open Go.ChangeShapes Go.WideShapes Go.ChangeAt Go.RowKit

namespace Bd
/-- All but the states' own bounds. -/
def pre (st : List Int) (seen : Int) (over : Bool) : Bool := decide (st.length ≤ 60) && decide (0 ≤ seen) && decide (seen ≤ 1099511627776) && (decide (0 < st.length) || over)
theorem fits_pre {m : Nat} {st : List Int} {seen : Int} {over : Bool} : fits m st seen over = (pre st seen over && !(st.any (out m))) := by
  rw [Bool.eq_iff_iff, fits_iff]
  simp only [pre, Bool.and_eq_true, decide_eq_true_eq, Bool.or_eq_true, Bool.not_eq_true', and_assoc]
theorem pre_no {st : List Int} {seen : Int} {over : Bool} (h : ¬ (st.length ≤ 60 ∧ 0 ≤ seen ∧ seen ≤ 1099511627776 ∧ (0 < st.length ∨ over = true))) : pre st seen over = false := by
  cases hp : pre st seen over
  · rfl
  · refine absurd ?_ h
    simpa only [pre, Bool.and_eq_true, decide_eq_true_eq, Bool.or_eq_true, and_assoc] using hp
theorem pre_yes {st : List Int} {seen : Int} {over : Bool} (h : st.length ≤ 60 ∧ 0 ≤ seen ∧ seen ≤ 1099511627776 ∧ (0 < st.length ∨ over = true)) : pre st seen over = true := by
  simpa only [pre, Bool.and_eq_true, decide_eq_true_eq, Bool.or_eq_true, and_assoc] using h
theorem right_val {m : Nat} {st : List Int} {seen : Int} {over : Bool} : right 0 m st seen over = if fits m st seen over = true then 0 else 1 := by
  by_cases h : fits m st seen over = true
  · rw [right_ok h, if_pos h]
  · rw [right_bad h, if_neg h]
theorem take_any {m : Nat} {st : List Int} {k : Nat} (h : k < st.length) : (st.take (k + 1)).any (out m) = ((st.take k).any (out m) || out m (st.getD k 0)) := by
  rw [List.take_succ_eq_append_getElem h, List.any_append]
  simp [List.getD, h]
theorem any_of_take {m : Nat} {st : List Int} {k : Nat} (h : (st.take k).any (out m) = true) : st.any (out m) = true := by
  rw [List.any_eq_true] at h ⊢
  obtain ⟨x, hx, h2⟩ := h
  exact ⟨x, List.mem_of_mem_take hx, h2⟩
end Bd
attribute [irreducible] Bd.pre

end Go.Proofs.Ytahoapgmiecphaa

/-
  What BuildSays needs besides: bounds of what a step tells, Begin, built of the law.
-/
namespace Go.Proofs.Ytahoapgmiecphaa
set_option linter.unusedVariables false
open Go.ChangeShapes Go.WideShapes Go.ChangeAt Go.RowKit

namespace Bd
def evOk (x : Int × Int) : Prop := 0 ≤ x.1 ∧ x.1 ≤ 4 ∧ 0 ≤ x.2 ∧ x.2 ≤ 1099511627776
theorem go_wf {t n : Int} {l : List (Int × List (Int × Int))} {acts : List (List (Int × Int))} {gts : List (List Int)} (h : Tb.all t n l acts gts = 0) {c : Nat} (hc : (c : Int) ≤ t) {seen : Int} (hsn : 0 ≤ seen ∧ seen ≤ 1099511627776) (k : Nat) :
    ∀ (st : List Int) (o : List (Int × Int)), 0 < st.length → st.length ≤ 60 → st.any (out acts.length) = false → (∀ x ∈ o, evOk x) →
      (go l acts gts seen c k st o).2.1.any (out acts.length) = false ∧ (go l acts gts seen c k st o).2.1.length ≤ 61 ∧ (∀ x ∈ (go l acts gts seen c k st o).2.2, evOk x) ∧ (go l acts gts seen c k st o).2.2.length ≤ o.length + k + 1 := by
  have hl40 := (Gr.err_zero (tb_zero h).1).2.2.2.2.1
  have hm := (tb_zero h).2.1
  have nil : ∀ (e : Int) (o : List (Int × Int)) (k : Nat), ((e, ([] : List Int), ([] : List (Int × Int))).2.1.any (out acts.length) = false ∧ (e, ([] : List Int), ([] : List (Int × Int))).2.1.length ≤ 61 ∧ (∀ x ∈ (e, ([] : List Int), ([] : List (Int × Int))).2.2, evOk x) ∧ (e, ([] : List Int), ([] : List (Int × Int))).2.2.length ≤ o.length + k + 1) :=
    fun e o k => ⟨rfl, Nat.zero_le _, (fun x hx => by cases hx), Nat.zero_le _⟩
  induction k with
  | zero =>
    intro st o hp h60 ha ho
    by_cases h0 : (act acts st c).1 = 0
    · rw [go_none rfl h0]; exact nil 13 o 0
    · rw [go_end rfl h0]; exact nil 14 o 0
  | succ k ih =>
    intro st o hp h60 ha ho
    obtain ⟨_, _, _, hr⟩ := act_right h hp ha hc
    rcases Tb.right_iff.1 hr with ⟨h0, _⟩ | ⟨h0, h1, h2, h3⟩ | ⟨h0, h2, h3⟩ | ⟨h0, h1, _⟩
    · rw [go_none rfl h0]; exact nil _ _ _
    · by_cases h6 : 60 ≤ st.length
      · rw [go_shiftDeep rfl h0 h6]; exact nil _ _ _
      · rw [go_shift rfl h0 (by omega)]
        refine ⟨?_, by simp; omega, fun x hx => ?_, by simp⟩
        · have := any_red ha (k := st.length) h2 h3
          rw [List.take_length] at this
          exact this
        · rcases List.mem_append.1 hx with h | h
          · exact ho x h
          · rw [List.mem_singleton.1 h]; exact ⟨by simp, by simp, hsn.1, hsn.2⟩
    · have hpl : (act acts st c).2.toNat < l.length := by omega
      cases hred : red gts st (l.getD (act acts st c).2.toNat (0, []))
      · rw [go_redNo rfl h0 hred]; exact nil _ _ _
      · rename_i s2
        by_cases h6 : 60 < s2.length
        · rw [go_redDeep rfl h0 hred h6]; exact nil _ _ _
        · rw [go_red rfl h0 hred h6]
          obtain ⟨g1, g2⟩ := red_some h hpl ha hred
          obtain ⟨i1, i2, i3, i4⟩ := ih s2 (o ++ [(4, (act acts st c).2)]) g1 (by omega) g2 (fun x hx => by
            rcases List.mem_append.1 hx with h | h
            · exact ho x h
            · rw [List.mem_singleton.1 h]; exact ⟨by simp, by simp, h2, by simp only; omega⟩)
          refine ⟨i1, i2, i3, ?_⟩
          rw [List.length_append, List.length_singleton] at i4
          omega
    · rw [go_acc rfl h0]
      exact ⟨ha, by simp only; omega, ho, by simp only; omega⟩
end Bd

set_option maxRecDepth 100000 in
theorem bdBegin_any (w : World) : Calls Try.prog 128 #[] w fun e w' => ∃ v, e = .returned (.agg #[v, .int .i64 0, .int .i64 0, .bool false]) ∧ Own w' w.heap.size 3 1 v ([0].map (Value.int .i64)) ∧ Below w.heap.size w w' := by
  have hst := ((St.init w).alloc #[.slice (some ⟨w.heap.size + 1, 0, none⟩) 1 1, .int .i64 0, .int .i64 0, .bool false] 231).alloc #[.int .i64 0] 3
  obtain ⟨k0, k1, k2, k3⟩ := hst.at4 1 rfl
  have HB := Lib.hid hst.bel
  have HO := Lib.hid (own_lit (w := w.alloc (.cells #[.slice (some ⟨w.heap.size + 1, 0, none⟩) 1 1, .int .i64 0, .int .i64 0, .bool false] 231)) (B := w.heap.size) (n := 1) (e := 3) (k := .i64) #[.int .i64 0] [0] rfl rfl (by simp) (by decide))
  simp only [World.size_alloc] at HO
  clear hst
  go_enter Try.func128, Try.ntmps128
  go_wp2
  refine bodyPost_ret (v := .agg #[.slice (some ⟨w.heap.size + 1, 0, none⟩) 1 1, .int .i64 0, .int .i64 0, .bool false]) ?_ rfl ?_
  · simp [results, Try.results128, go_sem, k0, k1, k2, k3]
  · exact ⟨_, rfl, HO.out, HB.out⟩


end Go.Proofs.Ytahoapgmiecphaa

/-
  A lexer's plain law: the longest token at the front of a text, all tokens of a text. (A helper text; it claims nothing of the program.)
-/
namespace Go.Proofs.Ytahoapgmiecphaa
set_option linter.unusedVariables false

namespace Lx
/-- The state behind a byte. -/
def nx (of : List Int) (next : List (List Int)) (now : Nat) (c : UInt8) : Int := (next.getD now []).getD (of.getD c.toNat 0).toNat 0
def tg (tags : List Int) (n : Int) : Int := tags.getD n.toNat 0
/-- From a state on, k bytes behind the place; the best so far: its rule, its end. -/
def go (of : List Int) (next : List (List Int)) (tags : List Int) : List UInt8 → Nat → Int → Int × Int → Int × Int
  | [], _, _, b => b
  | c :: r, now, k, b => if nx of next now c < 0 then b else go of next tags r (nx of next now c).toNat (k + 1) (if 0 ≤ tg tags (nx of next now c) then (tg tags (nx of next now c), k + 1) else b)

section
variable {of : List Int} {next : List (List Int)} {tags : List Int}
theorem go_nil (now k b) : go of next tags [] now k b = b := rfl
theorem go_stop {c r now k b} (h : nx of next now c < 0) : go of next tags (c :: r) now k b = b := by rw [go, if_pos h]
theorem go_hit {c r now k b} (h : ¬ nx of next now c < 0) (h1 : 0 ≤ tg tags (nx of next now c)) : go of next tags (c :: r) now k b = go of next tags r (nx of next now c).toNat (k + 1) (tg tags (nx of next now c), k + 1) := by rw [go, if_neg h, if_pos h1]
theorem go_miss {c r now k b} (h : ¬ nx of next now c < 0) (h1 : ¬ 0 ≤ tg tags (nx of next now c)) : go of next tags (c :: r) now k b = go of next tags r (nx of next now c).toNat (k + 1) b := by rw [go, if_neg h, if_neg h1]

/-- Counted from f on instead of from 0 on. -/
def sh (f : Int) (x : Int × Int) : Int × Int := (x.1, if x.2 = 0 then 0 else x.2 + f)
theorem go_sh (f : Int) (l : List UInt8) (now : Nat) (k : Int) (hk : 0 ≤ k) (b : Int × Int) : go of next tags l now (k + f) (sh f b) = sh f (go of next tags l now k b) := by
  induction l generalizing now k b with
  | nil => rfl
  | cons c r ih =>
    by_cases h : nx of next now c < 0
    · rw [go_stop h, go_stop h]
    · by_cases h1 : 0 ≤ tg tags (nx of next now c)
      · rw [go_hit h h1, go_hit h h1, show k + f + 1 = k + 1 + f by omega, ← ih _ (k + 1) (by omega)]
        congr 1
        simp only [sh]
        rw [if_neg (by omega)]
      · rw [go_miss h h1, go_miss h h1, show k + f + 1 = k + 1 + f by omega, ← ih _ (k + 1) (by omega)]
theorem go_in (l : List UInt8) (now : Nat) (k : Int) (b : Int × Int) (h0 : 0 ≤ k) (hb : 0 ≤ b.2 ∧ b.2 ≤ k) : 0 ≤ (go of next tags l now k b).2 ∧ (go of next tags l now k b).2 ≤ k + l.length := by
  induction l generalizing now k b with
  | nil => simpa [go_nil] using hb
  | cons c r ih =>
    rw [List.length_cons]
    by_cases h : nx of next now c < 0
    · rw [go_stop h]; omega
    · by_cases h1 : 0 ≤ tg tags (nx of next now c)
      · rw [go_hit h h1]
        have := ih (nx of next now c).toNat (k + 1) (tg tags (nx of next now c), k + 1) (by omega) (by simp; omega)
        omega
      · rw [go_miss h h1]
        have := ih (nx of next now c).toNat (k + 1) b (by omega) (by omega)
        omega
theorem go_zero (l : List UInt8) (now : Nat) (k : Int) (b : Int × Int) (h0 : 0 ≤ k) (hb : b.2 = 0 → b.1 = 0) (h : (go of next tags l now k b).2 = 0) : (go of next tags l now k b).1 = 0 := by
  induction l generalizing now k b with
  | nil => exact hb h
  | cons c r ih =>
    by_cases g : nx of next now c < 0
    · rw [go_stop g] at h ⊢; exact hb h
    · by_cases h1 : 0 ≤ tg tags (nx of next now c)
      · rw [go_hit g h1] at h ⊢
        exact ih _ (k + 1) _ (by omega) (fun e => by simp at e; omega) h
      · rw [go_miss g h1] at h ⊢
        exact ih _ (k + 1) _ (by omega) hb h
end

/-- The longest token at the front: its rule, its size (0: none). -/
def longest (of : List Int) (next : List (List Int)) (tags : List Int) (l : List UInt8) : Int × Int := go of next tags l 0 0 (0, 0)
theorem longest_in (of next tags l) : 0 ≤ (longest of next tags l).2 ∧ (longest of next tags l).2 ≤ l.length := by
  have := go_in (of := of) (next := next) (tags := tags) l 0 0 (0, 0) (by omega) (by simp)
  unfold longest; omega
/-- All tokens: what there is at a place on. -/
def toks (of : List Int) (next : List (List Int)) (tags : List Int) : Nat → List UInt8 → Int → List (Int × Int × Int) → List (Int × Int × Int) × Int
  | 0, _, _, out => (out, -1)
  | n + 1, l, at_, out =>
    if l = [] then (out, -1) else if (longest of next tags l).2 = 0 then (out, at_)
    else toks of next tags n (l.drop (longest of next tags l).2.toNat) (at_ + (longest of next tags l).2) (out ++ [((longest of next tags l).1, at_, at_ + (longest of next tags l).2)])
section
variable {of : List Int} {next : List (List Int)} {tags : List Int}
theorem toks_end {n at_ out} : toks of next tags n [] at_ out = (out, -1) := by cases n <;> simp [toks]
theorem toks_bad {n l at_ out} (h : l ≠ []) (h1 : (longest of next tags l).2 = 0) : toks of next tags (n + 1) l at_ out = (out, at_) := by rw [toks, if_neg h, if_pos h1]
theorem toks_step {n l at_ out} (h : l ≠ []) (h1 : (longest of next tags l).2 ≠ 0) : toks of next tags (n + 1) l at_ out = toks of next tags n (l.drop (longest of next tags l).2.toNat) (at_ + (longest of next tags l).2) (out ++ [((longest of next tags l).1, at_, at_ + (longest of next tags l).2)]) := by
  rw [toks, if_neg h, if_neg h1]
end
end Lx
attribute [irreducible] Lx.longest Lx.toks Lx.go Lx.nx Lx.tg
end Go.Proofs.Ytahoapgmiecphaa

/-
  A whole text, plainly: tokens one by one into a parser of either mode. (Nothing of the program is claimed.)
-/
namespace Go.Proofs.Ytahoapgmiecphaa
set_option linter.unusedVariables false
open Go.ChangeShapes Go.WideShapes Go.ChangeAt Go.RowKit

namespace Cl
section
variable {t n : Int} {l : List (Int × List (Int × Int))} {rows : List (List Int)} {c : Nat} {seen : Int}
/-- What stands on the stack behind a push is right. -/
theorem push_good (he : Rw.all t n l rows = 0) (hc : (c : Int) ≤ t) (a : List T) (hg : ∀ x ∈ a, good t n l.length x = true) (h0 : (push l rows c seen a).1 = 0) : ∀ x ∈ (push l rows c seen a).2.1, good t n l.length x = true := by
  have hd := dn_good he hc 2001 a [] hg
  unfold push at h0 ⊢
  generalize dn l rows c 2001 a [] = y at *
  obtain ⟨e, ah, o⟩ := y
  by_cases h : e = 0
  · subst h
    rw [if_neg (by simp)] at h0 ⊢
    simp only at h0 ⊢
    cases ah with
    | nil => cases h0
    | cons x r =>
      simp only [tok] at h0 ⊢
      by_cases h1 : x.2.2.2 ≠ c
      · rw [if_pos h1] at h0; cases h0
      · rw [if_neg h1] at h0 ⊢
        by_cases h2 : 2000 ≤ o.length
        · rw [if_pos h2] at h0; cases h0
        · rw [if_neg h2] at h0 ⊢
          cases hq : clo r (o ++ [(2, seen)]) with
          | none => rw [hq] at h0; cases h0
          | some y =>
            obtain ⟨y1, y2⟩ := y
            intro x' hx'
            exact hd rfl x' (.tail _ ((clo_some _ _ _ _ hq).1 x' hx'))
  · rw [if_pos h] at h0
    exact absurd h0 h
end
end Cl

namespace Bd
/-- How many states lie there behind a step that tells no error. -/
theorem go_st {ps : List (Int × List (Int × Int))} {acts : List (List (Int × Int))} {gts : List (List Int)} {seen : Int} {c : Nat} (k : Nat) : ∀ (st : List Int) (o : List (Int × Int)), 0 < st.length → st.length ≤ 60 → (go ps acts gts seen c k st o).1 = 0 → 0 < (go ps acts gts seen c k st o).2.1.length ∧ (go ps acts gts seen c k st o).2.1.length ≤ 60 := by
  induction k with
  | zero =>
    intro st o h1 h2 h
    rw [go] at h
    split at h
    · cases h
    · cases h
  | succ k ih =>
    intro st o h1 h2 h
    rw [go] at h ⊢
    split at h
    · cases h
    rename_i g1
    rw [if_neg g1]
    split at h
    · rename_i g2
      rw [if_pos g2]
      exact ⟨h1, h2⟩
    rename_i g2
    rw [if_neg g2]
    split at h
    · rename_i g3
      rw [if_pos g3]
      split at h
      · cases h
      · rename_i g4
        rw [if_neg g4]
        simp only [List.length_append, List.length_singleton]
        omega
    · rename_i g3
      rw [if_neg g3]
      cases hr : red gts st (ps.getD (act acts st c).2.toNat (0, [])) with
      | none => rw [hr] at h; cases h
      | some s2 =>
        rw [hr] at h
        simp only at h ⊢
        split at h
        · cases h
        · rename_i g4
          rw [if_neg g4]
          refine ih s2 _ ?_ (by omega) h
          unfold red at hr
          split at hr
          · cases hr
          · split at hr
            · cases hr
            · rw [← Option.some.inj hr]; simp
end Bd

namespace Ws
abbrev Ev := Int × Int
/-- A parser: what a push of a terminal and what the end tell: an error, the next state, events. -/
structure Par (σ : Type) where
  push : σ → Nat → Int × σ × List Ev
  fin : σ → Int × List Ev
/-- The tokens one by one: told too early, or the state behind the last one. -/
def run {σ : Type} (P : Par σ) (of : List Int) : List (Int × Int × Int) → σ → List Ev → (List Ev × Int × Int) ⊕ (σ × List Ev)
  | [], st, out => .inr (st, out)
  | k :: r, st, out => if of.getD k.1.toNat 0 < 0 then run P of r st out else if (P.push st (of.getD k.1.toNat 0).toNat).1 ≠ 0 then .inl (out, (P.push st (of.getD k.1.toNat 0).toNat).1, k.2.1) else run P of r (P.push st (of.getD k.1.toNat 0).toNat).2.1 (out ++ (P.push st (of.getD k.1.toNat 0).toNat).2.2)
/-- What is told of a text of z bytes. -/
def whole {σ : Type} (P : Par σ) (of : List Int) (x : List (Int × Int × Int) × Int) (z : Nat) (st : σ) : List Ev × Int × Int :=
  match run P of x.1 st [] with
  | .inl r => r
  | .inr (s, out) => if 0 ≤ x.2 then (out, 9, x.2) else (out ++ (P.fin s).2, (P.fin s).1, (z : Int))
/-- A climber: its stack (top first) and how many tokens it has seen. -/
def climber (l : List (Int × List (Int × Int))) (rows : List (List Int)) (t : Nat) : Par (List Cl.T × Int) where
  push := fun s c => ((Cl.fin false (Cl.push l rows c s.2 s.1) s.2).err, ((Cl.fin false (Cl.push l rows c s.2 s.1) s.2).st.reverse, (Cl.fin false (Cl.push l rows c s.2 s.1) s.2).seen), (Cl.fin false (Cl.push l rows c s.2 s.1) s.2).out)
  fin := fun s => ((Cl.fin true (Cl.ending l rows t s.1) s.2).err, (Cl.fin true (Cl.ending l rows t s.1) s.2).out)
/-- A stacker: its states and how many tokens it has seen. -/
def stacker (l : List (Int × List (Int × Int))) (acts : List (List (Int × Int))) (gts : List (List Int)) (t : Nat) : Par (List Int × Int) where
  push := fun s c => ((Bd.fin false (Bd.go l acts gts s.2 c 2000 s.1 []) s.2).err, ((Bd.fin false (Bd.go l acts gts s.2 c 2000 s.1 []) s.2).st, (Bd.fin false (Bd.go l acts gts s.2 c 2000 s.1 []) s.2).seen), (Bd.fin false (Bd.go l acts gts s.2 c 2000 s.1 []) s.2).out)
  fin := fun s => ((Bd.fin true (Bd.go l acts gts s.2 t 2000 s.1 []) s.2).err, (Bd.fin true (Bd.go l acts gts s.2 t 2000 s.1 []) s.2).out)
end Ws
end Go.Proofs.Ytahoapgmiecphaa

/-
  A packed automaton that came in, opened. Check of package small and RightPacked of the reference: what they compute.
-/
namespace Go.Proofs.Ytahoapgmiecphaa
open Go.ChangeShapes Go.WideShapes Go.ChangeAt Go.RowKit Go.Joins

/-- A slice of slices of numbers that came in. -/
theorem slSls {w : World} {k : IntKind} {v : Value} {l : List (List Int)} (h : Sl w 1 (RSl w 1 (RInt k)) v l) :
    ∃ (ao : Option Addr) (b off cap : Nat), v = .slice ao l.length cap ∧ l.length ≤ cap ∧ cap ≤ maxLen ∧ (0 < l.length → ao = some ⟨b, off, none⟩ ∧ b < w.heap.size) ∧
      ∀ i, i < l.length → ∃ vi, w.cell? ⟨b, off + i, none⟩ = some vi ∧ Sl w 1 (RInt k) vi (l.getD i []) := by
  obtain ⟨ao, b, off, cap, h0, h1, h2, h3, h4⟩ := h
  refine ⟨ao, b, off, cap, h0, h1, h2, h3, fun i hi => ?_⟩
  obtain ⟨cs, g1, g2, vi, g3, g4⟩ := h4 i hi
  have := g2 0 (by omega)
  rw [g3, Nat.mul_one, Nat.add_zero] at this
  exact ⟨vi, this, by simpa [List.getD, List.getElem?_eq_getElem hi] using g4⟩

structure PackedAt (w : World) (A : Array Value) (of : List Int) (next : List (List Int)) (tags : List Int) (vn vt : Value) : Prop where
  size : A.size = 258
  ofs : RRow .u8 256 (A.toList.take 256) of
  c256 : A[256]? = some vn
  c257 : A[257]? = some vt
  nexts : Sl w 1 (RSl w 1 (RInt .i64)) vn next
  tagss : Sl w 1 (RInt .i64) vt tags

theorem PackedAt.below {w w' : World} {A : Array Value} {of : List Int} {next : List (List Int)} {tags : List Int} {vn vt : Value} (h : PackedAt w A of next tags vn vt) (hb : Below w.heap.size w w') : PackedAt w' A of next tags vn vt :=
  ⟨h.size, h.ofs, h.c256, h.c257, h.nexts.call hb (fun _ _ ⟨v, h1, h2⟩ => ⟨v, h1, h2.call hb (fun _ _ h => h)⟩), h.tagss.call hb (fun _ _ h => h)⟩

theorem PackedAt.of_at {w : World} {A : Array Value} {of : List Int} {next : List (List Int)} {tags : List Int} {vn vt : Value} (h : PackedAt w A of next tags vn vt) (c : Nat) (hc : c < 256) : A[c]? = some (.int .u8 (of.getD c 0)) := by
  have h1 := h.ofs.1
  have h2 : (A.toList.take 256)[c]? = A[c]? := by simp [hc]
  rw [← h2, h1, List.getElem?_map]
  have := h.ofs.2.1
  rw [List.getElem?_eq_getElem (by omega)]
  simp [List.getD, List.getElem?_eq_getElem (show c < of.length by omega)]
theorem PackedAt.of_wf {w : World} {A : Array Value} {of : List Int} {next : List (List Int)} {tags : List Int} {vn vt : Value} (h : PackedAt w A of next tags vn vt) (c : Nat) (hc : c < 256) : 0 ≤ of.getD c 0 ∧ of.getD c 0 < 256 := by
  have hl := h.ofs.2.1
  have hm : of.getD c 0 ∈ of := by simp [List.getD, List.getElem?_eq_getElem (show c < of.length by omega)]
  have := h.ofs.2.2 _ hm
  have h2 : 0 ≤ of.getD c 0 ∧ of.getD c 0 ≤ 255 := by simpa [Lit.wf, IntKind.min, IntKind.max, IntKind.signed, IntKind.bits] using this
  omega

set_option maxRecDepth 100000 in
theorem open_Packed {H : Type} {enc : TypeId × Value → H} {w : World} {base : Nat} {spare : Nat → Bool} {held : Bool} {r : Reach} {b0 : Nat} {v : Value} {d : DataW H} {p : List MemPlace}
    (hv : Value.okWide Try.prog w r b0 61 v) (h : DataW.Trod enc Try.prog w base spare held 61 v d p) : ∃ A of next tags vn vt, v = .agg A ∧ PackedAt w A of next tags vn vt := by
  obtain ⟨A, rfl, hsz⟩ := okWide_struct Try.underlying61 hv
  have hA : A.size = 258 := hsz.trans (by kernel_rfl)
  obtain ⟨fuel, hf⟩ := h
  obtain ⟨m0, z0, h0⟩ := rField Try.underlying61 hf 0 _ rfl
  obtain ⟨m1, z1, h1⟩ := rField Try.underlying61 hf 1 _ rfl
  obtain ⟨m2, z2, h2⟩ := rField Try.underlying61 hf 2 _ rfl
  obtain ⟨of, hof⟩ := rRow (k := .u8) Try.underlying59 Try.underlying5 (by kernel_rfl) (by kernel_rfl) h0
  obtain ⟨vn, next, e1, hn⟩ := open_sl (size := 1) (R := RSl w 1 (RInt .i64)) Try.underlying51 (by kernel_rfl) (by decide) h1 (fun _ _ _ _ hh => rSl Try.underlying25 (by kernel_rfl) (by decide) (fun _ _ _ _ hh => rInt Try.underlying3 hh) hh)
  obtain ⟨vt, tags, e2, ht⟩ := open_sl (size := 1) (R := RInt .i64) Try.underlying25 (by kernel_rfl) (by decide) h2 (fun _ _ _ _ hh => rInt Try.underlying3 hh)
  have c0 : Try.prog.cellsOf 59 = 256 := by kernel_rfl
  have c1 : Try.prog.cellsOf 51 = 1 := by kernel_rfl
  have c2 : Try.prog.cellsOf 25 = 1 := by kernel_rfl
  refine ⟨A, of, next, tags, vn, vt, rfl, hA, ?_, ?_, ?_, hn, ht⟩
  · simpa [Value.cells, c0] using hof
  · have : ((A.toList.drop 256).take 1)[0]? = some vn := by
      have := congrArg (·[0]?) e1
      simpa [Value.cells, c1] using this
    simpa using this
  · have : ((A.toList.drop 257).take 1)[0]? = some vt := by
      have := congrArg (·[0]?) e2
      simpa [Value.cells, c2] using this
    simpa using this

namespace Pkd
def wide (next : List (List Int)) : Nat := (next.getD 0 []).length
def rowGood (n wd : Nat) (row : List Int) : Prop := row.length = wd ∧ ∀ c, c < wd → -1 ≤ row.getD c 0 ∧ row.getD c 0 < n
structure Good (of : List Int) (next : List (List Int)) (tags : List Int) : Prop where
  n0 : next.length ≠ 0
  tl : tags.length = next.length
  w0 : wide next ≠ 0
  w1 : wide next ≤ 256
  rows : ∀ i, i < next.length → Aut.tagGood (tags.getD i 0) ∧ rowGood next.length (wide next) (next.getD i [])
  cols : ∀ c, c < 256 → of.getD c 0 < wide next
open Classical in
noncomputable def err (of : List Int) (next : List (List Int)) (tags : List Int) : Int :=
  if 200 < next.length then 2 else if Good of next tags then 0 else 1
theorem err_large (of next tags) (h : 200 < next.length) : err of next tags = 2 := by rw [err, if_pos h]
theorem err_bad (of next tags) (h : ¬ 200 < next.length) (h1 : ¬ Good of next tags) : err of next tags = 1 := by rw [err, if_neg h, if_neg h1]
theorem err_ok (of next tags) (h : ¬ 200 < next.length) (h1 : Good of next tags) : err of next tags = 0 := by rw [err, if_neg h, if_pos h1]
theorem err_cases (of next tags) : (0 < err of next tags ∧ err of next tags ≤ 2) ∨ (err of next tags = 0 ∧ next.length ≤ 200 ∧ Good of next tags) := by
  by_cases h : 200 < next.length
  · rw [err_large of next tags h]; left; omega
  · by_cases g : Good of next tags
    · right; exact ⟨err_ok of next tags h g, by omega, g⟩
    · rw [err_bad of next tags h g]; left; omega
end Pkd
end Go.Proofs.Ytahoapgmiecphaa

/-
  RightPacked of the reference: what it computes.
-/
namespace Go.Proofs.Ytahoapgmiecphaa
open Go.ChangeShapes Go.WideShapes Go.ChangeAt Go.RowKit

set_option maxRecDepth 100000 in
set_option maxHeartbeats 8000000 in
theorem rpacked_any (A : Array Value) (of : List Int) (next : List (List Int)) (tags : List Int) (vn vt : Value) (w : World) (hp : PackedAt w A of next tags vn vt) :
    Calls Try.prog 78 #[.agg A] w fun e w' => e = .returned (.int .i64 (Pkd.err of next tags)) ∧ Below w.heap.size w w' := by
  have c256 := hp.c256; have c257 := hp.c257
  have HP := Lib.hid hp
  obtain ⟨ao, b, off, cap, rfl, n1, n2, n3, n4⟩ := slSls hp.nexts
  obtain ⟨at0, bt, ot, capt, rfl, t1, t2, t3, t4, t5⟩ := slInts hp.tagss
  clear hp t5
  unfold maxLen at n2 t2
  have N3 := Lib.hid n3; have N4 := Lib.hid n4; have T3 := Lib.hid t3; have T4 := Lib.hid t4
  clear n3 n4 t3 t4
  have hB0 : Below w.heap.size w (w.alloc (.cells A 61)) := (Below.refl _ _).alloc (Nat.le_refl _) _
  by_cases h200 : 200 < next.length
  · have He := Lib.hid (Pkd.err_large of next tags h200)
    go_enter Try.func78, Try.ntmps78
    go_wp2
    go_ret
    exact ⟨by rw [He.out]; rfl, hB0⟩
  by_cases h0 : next.length = 0
  · have He := Lib.hid (Pkd.err_bad of next tags h200 (fun g => g.n0 h0))
    have h00 : ((next.length : Int) == 0) = true := by rw [beq_iff_eq]; omega
    clear h0
    go_enter Try.func78, Try.ntmps78
    go_wp2
    go_ret
    exact ⟨by rw [He.out]; rfl, hB0⟩
  have hn0 : ((next.length : Int) == 0) = false := by rw [beq_eq_false_iff_ne]; omega
  by_cases h1 : tags.length = next.length
  case neg =>
    have He := Lib.hid (Pkd.err_bad of next tags h200 (fun g => h1 g.tl))
    have hne : ((tags.length : Int) != (next.length : Int)) = true := by rw [bne_iff_ne]; omega
    go_enter Try.func78, Try.ntmps78
    go_wp2
    go_ret
    exact ⟨by rw [He.out]; rfl, hB0⟩
  have Hl := Lib.hid h1; clear h1
  obtain ⟨rfl, hb⟩ := N3.out (by omega)
  obtain ⟨rfl, hbt⟩ := T3.out (by have := Hl.out; omega)
  have hne : ((tags.length : Int) != (next.length : Int)) = false := by have := Hl.out; rw [bne_eq_false_iff_eq]; omega
  obtain ⟨v0, hv0, hs0⟩ := N4.out 0 (by omega)
  rw [Nat.add_zero] at hv0
  obtain ⟨a0, b0, o0, cap0, rfl, w1, w2, _, _, _⟩ := slInts hs0
  unfold maxLen at w2
  have hwd : (next.getD 0 []).length = Pkd.wide next := rfl
  rw [hwd] at hv0 w1
  clear hwd hs0
  by_cases hw0 : Pkd.wide next = 0
  · have He := Lib.hid (Pkd.err_bad of next tags h200 (fun g => g.w0 hw0))
    have h00 : ((Pkd.wide next : Int) == 0) = true := by rw [beq_iff_eq]; omega
    clear hw0
    go_enter Try.func78, Try.ntmps78
    go_wp2
    go_ret
    exact ⟨by rw [He.out]; rfl, hB0⟩
  have hwn0 : ((Pkd.wide next : Int) == 0) = false := by rw [beq_eq_false_iff_ne]; omega
  by_cases hw1 : 256 < Pkd.wide next
  · have He := Lib.hid (Pkd.err_bad of next tags h200 (fun g => by have := g.w1; omega))
    go_enter Try.func78, Try.ntmps78
    go_wp2
    go_ret
    exact ⟨by rw [He.out]; rfl, hB0⟩
  generalize hwd : Pkd.wide next = wd at *
  have Hwd := Lib.hid hwd; clear hwd
  go_enter Try.func78, Try.ntmps78
  go_wp2
  obtain ⟨W, hW⟩ : ∃ W, W = w.alloc (.cells A 61) := ⟨_, rfl⟩
  rw [← hW] at hB0 ⊢
  have hb1 : W.cell? ⟨w.heap.size, 256, none⟩ = some (.slice (some ⟨b, off, none⟩) next.length cap) := by rw [hW, World.cell?_alloc_new]; exact c256
  have hb2 : W.cell? ⟨w.heap.size, 257, none⟩ = some (.slice (some ⟨bt, ot, none⟩) tags.length capt) := by rw [hW, World.cell?_alloc_new]; exact c257
  have hofs : Hid (W.rangeAt w.heap.size 0 (of.map (Value.int .u8))) := Lib.hid (fun j q hq => by
    have hj : j < of.length := by
      rcases Nat.lt_or_ge j of.length with e | e
      · exact e
      · rw [List.getElem?_eq_none (by simpa using e)] at hq; cases hq
    have hl := HP.out.ofs.2.1
    rw [hW, World.cell?_alloc_new, Nat.zero_add, HP.out.of_at j (by omega), ← hq, List.getElem?_map, List.getElem?_eq_getElem hj]
    simp [List.getD, List.getElem?_eq_getElem hj])
  clear hW c256 c257
  have Hv0 := Lib.hid hv0; clear hv0
  have HBX := Lib.hid hb1
  go_loopw [3, 4] (fun i _ wr => ∃ k : Nat, k ≤ next.length ∧ i = .int .i64 k ∧ Below W.heap.size W wr ∧ Hid (∀ j, j < k → Aut.tagGood (tags.getD j 0) ∧ Pkd.rowGood next.length wd (next.getD j []))) (fun i _ _ => next.length - (intOf i).toNat)
  case atStart => exact ⟨0, by omega, rfl, Below.refl _ _, Lib.hid (fun j hj => by omega)⟩
  case round =>
    obtain ⟨k, hk, rfl, hBr, hgood⟩ := hrel
    have hB := hB0.trans (hBr.mono hB0.size)
    have hb1 := bkeep hBr hb1
    have hb2 := bkeep hBr hb2
    have hcell0 := bkeep hB Hv0.out
    by_cases hlt : k < next.length
    · have hkt : k < tags.length := by have := Hl.out; omega
      have htag : wr.cell? ⟨bt, ot + k, none⟩ = some (.int .i64 (tags.getD k 0)) := bkeep hB (T4.out k hkt)
      obtain ⟨vk, hvk, hsk⟩ := N4.out k hlt
      obtain ⟨ak, bk, ok, capk, rfl, r1, r2, r3, r4, r5⟩ := slInts hsk
      have hnk := bkeep hB hvk
      have HNK0 := Lib.hid hvk
      clear hvk hsk r5
      unfold maxLen at r2
      have R3 := Lib.hid r3; have R4 := Lib.hid r4; clear r3 r4
      generalize htg : tags.getD k 0 = tg at htag
      have Htg := Lib.hid htg; clear htg
      generalize hrw : next.getD k [] = row at *
      have Hrw := Lib.hid hrw; clear hrw
      have hbad : Hid (¬ (Aut.tagGood tg ∧ Pkd.rowGood next.length wd row) → Pkd.err of next tags = 1) := Lib.hid (fun h => Pkd.err_bad of next tags h200 (fun g => h (by
        have := g.rows k hlt
        rw [Htg.out, Hrw.out, Hwd.out] at this
        exact this)))
      by_cases g0 : row.length = wd
      case neg =>
        have He := Lib.hid (hbad.out (fun h => g0 h.2.1))
        have hnw : ((row.length : Int) != (wd : Int)) = true := by rw [bne_iff_ne]; omega
        go_wp2
        go_quiet (fail)
        go_wp2
        go_ret
        exact ⟨by rw [He.out]; rfl, below_drewN hB _⟩
      have hnw : ((row.length : Int) != (wd : Int)) = false := by rw [bne_eq_false_iff_eq]; omega
      by_cases g1 : tg < -1
      · have He := Lib.hid (hbad.out (fun h => by have := h.1; unfold Aut.tagGood at this; omega))
        clear g0
        go_wp2
        go_quiet (fail)
        go_wp2
        go_ret
        exact ⟨by rw [He.out]; rfl, below_drewN hB _⟩
      have d1 : decide (tg < -1) = false := by rw [decide_eq_false_iff_not]; omega
      by_cases g2 : 19 < tg
      · have He := Lib.hid (hbad.out (fun h => by have := h.1; unfold Aut.tagGood at this; omega))
        clear g0
        go_wp2
        go_quiet (fail)
        go_wp2
        go_ret
        exact ⟨by rw [He.out]; rfl, below_drewN hB _⟩
      have d2 : decide (19 < tg) = false := by rw [decide_eq_false_iff_not]; omega
      obtain ⟨rfl, hbk⟩ := R3.out (by omega)
      have G0 := Lib.hid g0; clear g0
      go_wp2
      go_quiet (fail)
      go_wp2
      clear htag hcell0
      have HG := Lib.hid hgood.out; clear hgood
      have HB1 := Lib.hid hb1; clear hb1
      have HBr := Lib.hid hBr; clear hBr hb2 hB hnk
      have HN2 := HNK0
      go_loopw [4] (fun i wr => ∃ c : Nat, c ≤ row.length ∧ i = .int .i64 c ∧ Below W.heap.size W wr ∧ Hid (∀ j, j < c → -1 ≤ row.getD j 0 ∧ row.getD j 0 < next.length)) (fun i _ => row.length - (intOf i).toNat)
      case atStart => exact ⟨0, by omega, rfl, below_drewN HBr.out _, Lib.hid (fun j hj => by omega)⟩
      case round =>
        obtain ⟨c, hc, rfl, hBr, hcols⟩ := hrel
        have hB := hB0.trans (hBr.mono hB0.size)
        have hb1 := bkeep hBr HBX.out
        have hnk := bkeep hB HN2.out
        have HBr2 := Lib.hid hBr; clear hBr
        have HBB := Lib.hid hB; clear hB
        by_cases hcl : c < row.length
        · have hcell : wr.cell? ⟨bk, ok + c, none⟩ = some (.int .i64 (row.getD c 0)) := bkeep HBB.out (R4.out c hcl)
          generalize hxe : row.getD c 0 = x at hcell
          have Hx := Lib.hid hxe; clear hxe
          by_cases g3 : x < -1
          · have He := Lib.hid (hbad.out (fun h => by have := h.2.2 c (by have := G0.out; omega); rw [Hx.out] at this; omega))
            have d3 : decide (x < -1) = true := by rw [decide_eq_true_iff]; exact g3
            go_wp2
            go_quiet (fail)
            go_wp2
            go_ret
            exact ⟨by rw [He.out]; rfl, below_drewN HBB.out _⟩
          have d3 : decide (x < -1) = false := by rw [decide_eq_false_iff_not]; exact g3
          by_cases g4 : (next.length : Int) ≤ x
          · have He := Lib.hid (hbad.out (fun h => by have := h.2.2 c (by have := G0.out; omega); rw [Hx.out] at this; omega))
            have d4 : decide ((next.length : Int) ≤ x) = true := by rw [decide_eq_true_iff]; exact g4
            go_wp2
            go_quiet (fail)
            go_wp2
            go_ret
            exact ⟨by rw [He.out]; rfl, below_drewN HBB.out _⟩
          have d4 : decide ((next.length : Int) ≤ x) = false := by rw [decide_eq_false_iff_not]; exact g4
          go_wp2
          go_quiet (fail)
          go_wp2
          go_roundw
          case rel => exact ⟨c + 1, by omega, by go_num, below_drewN HBr2.out _, Lib.hid (fun j hj => by
            by_cases e : j = c
            · rw [e, Hx.out]; omega
            · exact hcols.out j (by omega))⟩
          case measure => simp [intOf]; omega
        · go_wp2
          go_roundw
          case rel => exact ⟨k + 1, by omega, by go_num, HBr2.out, Lib.hid (fun j hj => by
            by_cases e : j = k
            · rw [e, Htg.out, Hrw.out]; exact ⟨by unfold Aut.tagGood; omega, G0.out, fun c' hc' => hcols.out c' (by have := G0.out; omega)⟩
            · exact HG.out j (by omega))⟩
          case measure => simp [intOf]; omega
    · clear hb2
      have HBr := Lib.hid hBr; clear hBr hcell0 hB
      go_wp2
      clear hb1
      go_loopw [5] (fun i wr => ∃ c : Nat, c ≤ 256 ∧ i = .int .i64 c ∧ Below W.heap.size W wr ∧ Hid (∀ j, j < c → of.getD j 0 < wd)) (fun i _ => 256 - (intOf i).toNat)
      case atStart => exact ⟨0, by omega, rfl, HBr.out, Lib.hid (fun j hj => by omega)⟩
      case round =>
        obtain ⟨c, hc, rfl, hBr, hcols⟩ := hrel
        have hB := hB0.trans (hBr.mono hB0.size)
        have hb1 := bkeep hBr HBX.out
        have hcell0 := bkeep hB Hv0.out
        have HBr2 := Lib.hid hBr; clear hBr
        have HBB := Lib.hid hB; clear hB
        by_cases hcl : c < 256
        · have hcell : wr.cell? ⟨w.heap.size, c, none⟩ = some (.int .u8 (of.getD c 0)) := bkeep HBr2.out (by
            have := hofs.out c (.int .u8 (of.getD c 0)) (by
              have hl := HP.out.ofs.2.1
              rw [List.getElem?_map, List.getElem?_eq_getElem (by omega)]
              simp [List.getD, List.getElem?_eq_getElem (show c < of.length by omega)])
            rwa [Nat.zero_add] at this)
          obtain ⟨hx0, hx1⟩ := HP.out.of_wf c hcl
          generalize hxe : of.getD c 0 = x at hcell hx0 hx1
          have Hx := Lib.hid hxe; clear hxe
          by_cases g3 : (wd : Int) ≤ x
          · have He := Lib.hid (Pkd.err_bad of next tags h200 (fun g => by have := g.cols c hcl; rw [Hx.out, Hwd.out] at this; omega))
            have d3 : decide ((wd : Int) ≤ x) = true := by rw [decide_eq_true_iff]; exact g3
            go_wp2
            go_quiet (fail)
            go_wp2
            go_ret
            exact ⟨by rw [He.out]; rfl, below_drewN HBB.out _⟩
          have d3 : decide ((wd : Int) ≤ x) = false := by rw [decide_eq_false_iff_not]; exact g3
          go_wp2
          go_quiet (fail)
          go_wp2
          go_roundw
          case rel => exact ⟨c + 1, by omega, by go_num, below_drewN HBr2.out _, Lib.hid (fun j hj => by
            by_cases e : j = c
            · rw [e, Hx.out]; omega
            · exact hcols.out j (by omega))⟩
          case measure => simp [intOf]; omega
        · have He := Lib.hid (Pkd.err_ok of next tags h200 ⟨h0, Hl.out, by rw [Hwd.out]; exact hw0, by rw [Hwd.out]; omega, by rw [Hwd.out]; exact fun i hi => hgood.out i (by omega), by rw [Hwd.out]; exact fun c' hc' => hcols.out c' (by omega)⟩)
          go_wp2
          go_ret
          exact ⟨by rw [He.out]; rfl, HBB.out⟩
end Go.Proofs.Ytahoapgmiecphaa

/-
  Check of package small: what it computes.
-/
namespace Go.Proofs.Ytahoapgmiecphaa
open Go.ChangeShapes Go.WideShapes Go.ChangeAt Go.RowKit

set_option maxRecDepth 100000 in
theorem smallCheck_any (A : Array Value) (of : List Int) (next : List (List Int)) (tags : List Int) (vn vt : Value) (w : World) (hp : PackedAt w A of next tags vn vt) :
    Calls Try.prog 122 #[.agg A] w fun e w' => e = .returned (.int .i64 (Pkd.err of next tags)) ∧ Below w.heap.size w w' := by
  have c256 := hp.c256; have c257 := hp.c257
  have HP := Lib.hid hp
  obtain ⟨ao, b, off, cap, rfl, n1, n2, n3, n4⟩ := slSls hp.nexts
  obtain ⟨at0, bt, ot, capt, rfl, t1, t2, t3, t4, t5⟩ := slInts hp.tagss
  clear hp t5
  unfold maxLen at n2 t2
  have N3 := Lib.hid n3; have N4 := Lib.hid n4; have T3 := Lib.hid t3; have T4 := Lib.hid t4
  clear n3 n4 t3 t4
  have hB0 : Below w.heap.size w (w.alloc (.cells A 61)) := (Below.refl _ _).alloc (Nat.le_refl _) _
  by_cases h200 : 200 < next.length
  · have He := Lib.hid (Pkd.err_large of next tags h200)
    go_enter Try.func122, Try.ntmps122
    go_wp2
    go_ret
    exact ⟨by rw [He.out]; rfl, hB0⟩
  by_cases h0 : next.length = 0
  · have He := Lib.hid (Pkd.err_bad of next tags h200 (fun g => g.n0 h0))
    have h00 : ((next.length : Int) == 0) = true := by rw [beq_iff_eq]; omega
    clear h0
    go_enter Try.func122, Try.ntmps122
    go_wp2
    go_ret
    exact ⟨by rw [He.out]; rfl, hB0⟩
  have hn0 : ((next.length : Int) == 0) = false := by rw [beq_eq_false_iff_ne]; omega
  by_cases h1 : tags.length = next.length
  case neg =>
    have He := Lib.hid (Pkd.err_bad of next tags h200 (fun g => h1 g.tl))
    have hne : ((tags.length : Int) != (next.length : Int)) = true := by rw [bne_iff_ne]; omega
    go_enter Try.func122, Try.ntmps122
    go_wp2
    go_ret
    exact ⟨by rw [He.out]; rfl, hB0⟩
  have Hl := Lib.hid h1; clear h1
  obtain ⟨rfl, hb⟩ := N3.out (by omega)
  obtain ⟨rfl, hbt⟩ := T3.out (by have := Hl.out; omega)
  have hne : ((tags.length : Int) != (next.length : Int)) = false := by have := Hl.out; rw [bne_eq_false_iff_eq]; omega
  obtain ⟨v0, hv0, hs0⟩ := N4.out 0 (by omega)
  rw [Nat.add_zero] at hv0
  obtain ⟨a0, b0, o0, cap0, rfl, w1, w2, _, _, _⟩ := slInts hs0
  unfold maxLen at w2
  have hwd : (next.getD 0 []).length = Pkd.wide next := rfl
  rw [hwd] at hv0 w1
  clear hwd hs0
  by_cases hw0 : Pkd.wide next = 0
  · have He := Lib.hid (Pkd.err_bad of next tags h200 (fun g => g.w0 hw0))
    have h00 : ((Pkd.wide next : Int) == 0) = true := by rw [beq_iff_eq]; omega
    clear hw0
    go_enter Try.func122, Try.ntmps122
    go_wp2
    go_ret
    exact ⟨by rw [He.out]; rfl, hB0⟩
  have hwn0 : ((Pkd.wide next : Int) == 0) = false := by rw [beq_eq_false_iff_ne]; omega
  by_cases hw1 : 256 < Pkd.wide next
  · have He := Lib.hid (Pkd.err_bad of next tags h200 (fun g => by have := g.w1; omega))
    go_enter Try.func122, Try.ntmps122
    go_wp2
    go_ret
    exact ⟨by rw [He.out]; rfl, hB0⟩
  generalize hwd : Pkd.wide next = wd at *
  have Hwd := Lib.hid hwd; clear hwd
  go_enter Try.func122, Try.ntmps122
  go_wp2
  obtain ⟨W, hW⟩ : ∃ W, W = w.alloc (.cells A 61) := ⟨_, rfl⟩
  rw [← hW] at hB0 ⊢
  have hb1 : W.cell? ⟨w.heap.size, 256, none⟩ = some (.slice (some ⟨b, off, none⟩) next.length cap) := by rw [hW, World.cell?_alloc_new]; exact c256
  have hb2 : W.cell? ⟨w.heap.size, 257, none⟩ = some (.slice (some ⟨bt, ot, none⟩) tags.length capt) := by rw [hW, World.cell?_alloc_new]; exact c257
  have hofs : Hid (W.rangeAt w.heap.size 0 (of.map (Value.int .u8))) := Lib.hid (fun j q hq => by
    have hj : j < of.length := by
      rcases Nat.lt_or_ge j of.length with e | e
      · exact e
      · rw [List.getElem?_eq_none (by simpa using e)] at hq; cases hq
    have hl := HP.out.ofs.2.1
    rw [hW, World.cell?_alloc_new, Nat.zero_add, HP.out.of_at j (by omega), ← hq, List.getElem?_map, List.getElem?_eq_getElem hj]
    simp [List.getD, List.getElem?_eq_getElem hj])
  clear hW c256 c257 hv0
  go_loop [5, 7, 36] (fun _ _ i => ∃ k : Nat, k ≤ next.length ∧ i = .int .i64 k ∧ Hid (∀ j, j < k → Aut.tagGood (tags.getD j 0) ∧ Pkd.rowGood next.length wd (next.getD j []))) (fun _ _ i => next.length - (intOf i).toNat)
  case atStart => exact ⟨0, by omega, rfl, Lib.hid (fun j hj => by omega)⟩
  case round =>
    obtain ⟨k, hk, rfl, hgood⟩ := hrel
    by_cases hlt : k < next.length
    · have hkt : k < tags.length := by have := Hl.out; omega
      have htag : W.cell? ⟨bt, ot + k, none⟩ = some (.int .i64 (tags.getD k 0)) := bkeep hB0 (T4.out k hkt)
      obtain ⟨vk, hvk, hsk⟩ := N4.out k hlt
      obtain ⟨ak, bk, ok, capk, rfl, r1, r2, r3, r4, r5⟩ := slInts hsk
      have hnk := bkeep hB0 hvk
      clear hvk hsk r5
      unfold maxLen at r2
      have R3 := Lib.hid r3; have R4 := Lib.hid r4; clear r3 r4
      generalize htg : tags.getD k 0 = tg at htag
      have Htg := Lib.hid htg; clear htg
      generalize hrw : next.getD k [] = row at *
      have Hrw := Lib.hid hrw; clear hrw
      have hbad : Hid (¬ (Aut.tagGood tg ∧ Pkd.rowGood next.length wd row) → Pkd.err of next tags = 1) := Lib.hid (fun h => Pkd.err_bad of next tags h200 (fun g => h (by
        have := g.rows k hlt
        rw [Htg.out, Hrw.out, Hwd.out] at this
        exact this)))
      by_cases g0 : row.length = wd
      case neg =>
        have He := Lib.hid (hbad.out (fun h => g0 h.2.1))
        have hnw : ((row.length : Int) != (wd : Int)) = true := by rw [bne_iff_ne]; omega
        go_wp2
        go_ret
        exact ⟨by rw [He.out]; rfl, hB0⟩
      have hnw : ((row.length : Int) != (wd : Int)) = false := by rw [bne_eq_false_iff_eq]; omega
      by_cases g1 : tg < -1
      · have He := Lib.hid (hbad.out (fun h => by have := h.1; unfold Aut.tagGood at this; omega))
        clear g0
        go_wp2
        go_ret
        exact ⟨by rw [He.out]; rfl, hB0⟩
      by_cases g2 : 20 ≤ tg
      · have He := Lib.hid (hbad.out (fun h => by have := h.1; unfold Aut.tagGood at this; omega))
        clear g0
        go_wp2
        go_ret
        exact ⟨by rw [He.out]; rfl, hB0⟩
      obtain ⟨rfl, hbk⟩ := R3.out (by omega)
      have G0 := Lib.hid g0; clear g0
      go_wp2
      clear htag hnk
      go_loop [7, 69] (fun _ i => ∃ c : Nat, c ≤ row.length ∧ i = .int .i64 c ∧ Hid (∀ j, j < c → -1 ≤ row.getD j 0 ∧ row.getD j 0 < next.length)) (fun _ i => row.length - (intOf i).toNat)
      case atStart => exact ⟨0, by omega, rfl, Lib.hid (fun j hj => by omega)⟩
      case round =>
        obtain ⟨c, hc, rfl, hcols⟩ := hrel
        by_cases hcl : c < row.length
        · have hcell : W.cell? ⟨bk, ok + c, none⟩ = some (.int .i64 (row.getD c 0)) := bkeep hB0 (R4.out c hcl)
          generalize hxe : row.getD c 0 = x at hcell
          have Hx := Lib.hid hxe; clear hxe
          by_cases g3 : x < -1
          · have He := Lib.hid (hbad.out (fun h => by have := h.2.2 c (by have := G0.out; omega); rw [Hx.out] at this; omega))
            go_wp2
            go_ret
            exact ⟨by rw [He.out]; rfl, hB0⟩
          by_cases g4 : (next.length : Int) ≤ x
          · have He := Lib.hid (hbad.out (fun h => by have := h.2.2 c (by have := G0.out; omega); rw [Hx.out] at this; omega))
            go_wp2
            go_ret
            exact ⟨by rw [He.out]; rfl, hB0⟩
          go_wp2
          go_round
          case rel => exact ⟨c + 1, by omega, by go_num, Lib.hid (fun j hj => by
            by_cases e : j = c
            · rw [e, Hx.out]; omega
            · exact hcols.out j (by omega))⟩
          case measure => simp [intOf]; omega
        · go_wp2
          go_round
          case rel => exact ⟨k + 1, by omega, by go_num, Lib.hid (fun j hj => by
            by_cases e : j = k
            · rw [e, Htg.out, Hrw.out]; exact ⟨by unfold Aut.tagGood; omega, G0.out, fun c' hc' => hcols.out c' (by have := G0.out; omega)⟩
            · exact hgood.out j (by omega))⟩
          case measure => simp [intOf]; omega
    · go_wp2_with (refine wpList_load_mid rfl 59 (.tmp 82) rfl w.heap.size 0 rfl (of.map (Value.int .u8)) _ hofs.out Try.underlying59 rfl (by rw [List.length_map, HP.out.ofs.2.1]; kernel_rfl) ?_)
      clear hb1 hb2
      go_loop [9, 84] (fun _ i => ∃ c : Nat, c ≤ 256 ∧ i = .int .i64 c ∧ Hid (∀ j, j < c → of.getD j 0 < wd)) (fun _ i => 256 - (intOf i).toNat)
      case atStart => exact ⟨0, by omega, rfl, Lib.hid (fun j hj => by omega)⟩
      case round =>
        obtain ⟨c, hc, rfl, hcols⟩ := hrel
        by_cases hcl : c < 256
        · have hidx := fun W => run_index_arr (P := Try.prog) (k := .u8) Try.underlying59 Try.underlying5 (by kernel_rfl) of HP.out.ofs.2.1 c hcl W
          obtain ⟨hx0, hx1⟩ := HP.out.of_wf c hcl
          generalize hxe : of.getD c 0 = x at hidx hx0 hx1
          have Hx := Lib.hid hxe; clear hxe
          by_cases g3 : (wd : Int) ≤ x
          · have He := Lib.hid (Pkd.err_bad of next tags h200 (fun g => by have := g.cols c hcl; rw [Hx.out, Hwd.out] at this; omega))
            go_wp2
            go_ret
            exact ⟨by rw [He.out]; rfl, hB0⟩
          go_wp2
          go_round
          case rel => exact ⟨c + 1, by omega, by go_num, Lib.hid (fun j hj => by
            by_cases e : j = c
            · rw [e, Hx.out]; omega
            · exact hcols.out j (by omega))⟩
          case measure => simp [intOf]; omega
        · have He := Lib.hid (Pkd.err_ok of next tags h200 ⟨h0, Hl.out, by rw [Hwd.out]; exact hw0, by rw [Hwd.out]; omega, by rw [Hwd.out]; exact fun i hi => hgood.out i (by omega), by rw [Hwd.out]; exact fun c' hc' => hcols.out c' (by omega)⟩)
          go_wp2
          go_ret
          exact ⟨by rw [He.out]; rfl, hB0⟩
end Go.Proofs.Ytahoapgmiecphaa

/-
  What spec.Make makes, as it comes in; what is wrong with it.
-/
namespace Go.Proofs.Ytahoapgmiecphaa
set_option linter.unusedVariables false
open Go.ChangeShapes Go.WideShapes Go.ChangeAt Go.RowKit

theorem Enc.toSlN {α : Type} {E : Enc α} {bytes : Nat} {F : Nat → Prop} {w : World} {v : Value} {l : List α} {R : List Value → α → Prop} {n : Nat} (hn : E.size = n) (hR : ∀ cs a, E.R F w cs a → R cs a) (h : (E.sl bytes).R F w [v] l) : Sl w n R v l := by
  obtain ⟨ao, b, off, cap, h0, h1, h2, h3, h4, h5, h6⟩ := h
  subst hn
  refine ⟨ao, b, off, cap, by simpa using h0, h1, h2, fun hl => ⟨(h5 hl).1, (h5 hl).2.1⟩, fun i hi => ?_⟩
  obtain ⟨cs, g1, g2, g3⟩ := h6 i hi
  exact ⟨cs, g1, g2, hR _ _ g3⟩

abbrev Mk.Pk := List Int × List (List Int) × List Int
def Enc.packed : Enc Mk.Pk := Enc.prod (Enc.row .u8 256) (Enc.prod (((Enc.int .i64).sl 8).sl 24) ((Enc.int .i64).sl 8))
theorem packed_at {F : Nat → Prop} {w : World} {A : Array Value} {p : Mk.Pk} (h : Enc.packed.R F w A.toList p) : ∃ vn vt, PackedAt w A p.1 p.2.1 p.2.2 vn vt := by
  obtain ⟨c1, c2, e1, h1, c3, c4, e2, h3, h4⟩ := h
  have g3 := h3; have g4 := h4
  obtain ⟨_, _, _, _, rfl, _⟩ := g3
  obtain ⟨_, _, _, _, rfl, _⟩ := g4
  subst e2
  have hl : c1.length = 256 := by rw [h1.1, List.length_map, h1.2.1]
  refine ⟨_, _, ?_, ?_, ?_, ?_, Enc.toSlN rfl (fun cs a g => ?_) h3, Enc.toSlN rfl (fun _ _ g => g) h4⟩
  · rw [← Array.length_toList, e1, List.length_append, hl]; rfl
  · rw [e1, List.take_append_of_le_length (by omega), List.take_of_length_le (by omega)]; exact h1
  · rw [← Array.getElem?_toList, e1, List.getElem?_append_right (by omega), hl]; rfl
  · rw [← Array.getElem?_toList, e1, List.getElem?_append_right (by omega), hl]; rfl
  · have g2 := g
    obtain ⟨_, _, _, _, rfl, _⟩ := g2
    exact ⟨_, rfl, Enc.toSlN rfl (fun _ _ g => g) g⟩
theorem opens_ints : Opens Try.prog 25 ((Enc.int .i64).sl 8) := Opens.sl Try.underlying25 (by kernel_rfl) (by decide) (by kernel_rfl) (Opens.int Try.underlying3)
theorem opens_intss : Opens Try.prog 51 (((Enc.int .i64).sl 8).sl 24) := Opens.sl Try.underlying51 (by kernel_rfl) (by decide) (by kernel_rfl) opens_ints
theorem opens_packed : Opens Try.prog 61 Enc.packed := by
  show Opens _ _ (Enc.prod (Enc.row .u8 256) (Enc.prod (((Enc.int .i64).sl 8).sl 24) ((Enc.int .i64).sl 8)))
  exact Opens.struct Try.underlying61 (by kernel_rfl) (OpensFrom.cons rfl rfl (by kernel_rfl) (Opens.row Try.underlying59 Try.underlying5 (by kernel_rfl) (by kernel_rfl)) (OpensFrom.cons rfl rfl (by kernel_rfl) opens_intss (OpensFrom.last rfl rfl (by kernel_rfl) opens_ints)))
abbrev Mk.Md := List Int × Mk.Pk × (Int × Int × List (Int × List (Int × Int))) × Int × List (List Int) × (List (List (Int × Int)) × List (List Int))
def Enc.made : Enc Mk.Md := Enc.prod ((Enc.int .i64).sl 8) (Enc.prod Enc.packed (Enc.prod Enc.gram (Enc.prod (Enc.int .i64) (Enc.prod (((Enc.int .i64).sl 8).sl 24) Enc.table))))
theorem opens_made : Opens Try.prog 66 Enc.made := by
  show Opens _ _ (Enc.prod ((Enc.int .i64).sl 8) (Enc.prod Enc.packed (Enc.prod Enc.gram (Enc.prod (Enc.int .i64) (Enc.prod (((Enc.int .i64).sl 8).sl 24) Enc.table)))))
  exact Opens.struct Try.underlying66 (by kernel_rfl) (OpensFrom.cons rfl rfl (by kernel_rfl) opens_ints (OpensFrom.cons rfl rfl (by kernel_rfl) opens_packed (OpensFrom.cons rfl rfl (by kernel_rfl) opens_gram (OpensFrom.cons rfl rfl (by kernel_rfl) (Opens.int Try.underlying3) (OpensFrom.cons rfl rfl (by kernel_rfl) opens_intss (OpensFrom.last rfl rfl (by kernel_rfl) opens_table))))))

/-- The cells of what came in. -/
structure MadeAt (F : Nat → Prop) (w : World) (A : Array Value) (m : Mk.Md) (v0 : Value) (Pc : Array Value) (vn vt vp vr va vg : Value) : Prop where
  size : A.size = 266
  psize : Pc.size = 258
  cells : A.toList = v0 :: (Pc.toList ++ [.int .i64 m.2.2.1.1, .int .i64 m.2.2.1.2.1, vp, .int .i64 m.2.2.2.1, vr, va, vg])
  ofs : ((Enc.int .i64).sl 8).R F w [v0] m.1
  packed : PackedAt w Pc m.2.1.1 m.2.1.2.1 m.2.1.2.2 vn vt
  prods : Enc.prods.R F w [vp] m.2.2.1.2.2
  rows : (((Enc.int .i64).sl 8).sl 24).R F w [vr] m.2.2.2.2.1
  acts : ((Enc.two.sl 16).sl 24).R F w [va] m.2.2.2.2.2.1
  gts : (((Enc.int .i64).sl 8).sl 24).R F w [vg] m.2.2.2.2.2.2
  tags : ((Enc.int .i64).sl 8).R F w [vt] m.2.1.2.2
theorem made_cells {F : Nat → Prop} {w : World} {A : Array Value} {m : Mk.Md} (h : Enc.made.R F w A.toList m) : ∃ v0 Pc vn vt vp vr va vg, MadeAt F w A m v0 Pc vn vt vp vr va vg := by
  have hlen := Enc.made.len h
  obtain ⟨c1, d1, e1, h1, c2, d2, e2, h2, c3, d3, e3, h3, c4, d4, e4, h4, c5, c6, e5, h5, h6⟩ := h
  have g1 := h1; obtain ⟨_, _, _, _, rfl, _⟩ := g1
  have g5 := h5; obtain ⟨_, _, _, _, rfl, _⟩ := g5
  obtain ⟨va, vg, e6, ha, hg⟩ := table_cells (cs := c6.toArray) (by simpa using h6)
  obtain ⟨vp, e7, hp, _, _⟩ := gram_cells (cs := c3.toArray) (by simpa using h3)
  obtain ⟨vn, vt, hpk⟩ := packed_at (A := c2.toArray) (by simpa using h2)
  have ht : ((Enc.int .i64).sl 8).R F w [vt] m.2.1.2.2 := by
    obtain ⟨q1, q2, e8, g1, q3, q4, e9, g3, g4⟩ := h2
    have k3 := g3; have k4 := g4
    obtain ⟨_, _, _, _, rfl, _⟩ := k3
    obtain ⟨_, _, _, _, rfl, _⟩ := k4
    have hl : q1.length = 256 := by rw [g1.1, List.length_map, g1.2.1]
    have := hpk.c257
    rw [← Array.getElem?_toList, e8, List.getElem?_append_right (by omega), hl, e9] at this
    simp at this
    rw [← this]; exact g4
  obtain ⟨rfl, _⟩ := h4
  have e6' := congrArg Array.toList e6
  have e7' := congrArg Array.toList e7
  simp only at e6' e7'
  subst e5 e4 e3 e2
  exact ⟨_, c2.toArray, vn, vt, vp, _, va, vg, by rw [← Array.length_toList]; exact hlen, hpk.size, by rw [e1, e6', e7']; simp, h1, hpk, hp, h5, ha, hg, ht⟩

namespace Mk
def ofGood (t : Int) (of : List Int) : Prop := ∀ i, i < of.length → -1 ≤ of.getD i 0 ∧ of.getD i 0 < t
def tagsGood (n : Nat) (tags : List Int) : Prop := ∀ i, i < tags.length → tags.getD i 0 < n
open Classical in
noncomputable def err (m : Md) : Int :=
  if Pkd.err m.2.1.1 m.2.1.2.1 m.2.1.2.2 ≠ 0 then Pkd.err m.2.1.1 m.2.1.2.1 m.2.1.2.2
  else if Gr.err m.2.2.1.1 m.2.2.1.2.1 m.2.2.1.2.2 ≠ 0 ∨ m.1.length = 0 ∨ 20 < m.1.length then 1
  else if ¬ ofGood m.2.2.1.1 m.1 ∨ ¬ tagsGood m.1.length m.2.1.2.2 then 1
  else if m.2.2.2.1 = 1 then Rw.all m.2.2.1.1 m.2.2.1.2.1 m.2.2.1.2.2 m.2.2.2.2.1
  else if m.2.2.2.1 = 2 then Tb.all m.2.2.1.1 m.2.2.1.2.1 m.2.2.1.2.2 m.2.2.2.2.2.1 m.2.2.2.2.2.2 else 1
end Mk
end Go.Proofs.Ytahoapgmiecphaa

/-
  What a parser's state is like from token to token; what the tokens of a right text are like. (Plain; nothing of the program is claimed.)
-/
namespace Go.Proofs.Ytahoapgmiecphaa
set_option linter.unusedVariables false
open Go.ChangeShapes Go.WideShapes Go.ChangeAt Go.RowKit

namespace Ws
/-- The tokens' rules and places. -/
theorem go_rule {of : List Int} {next : List (List Int)} {tags : List Int} {m : Nat} (h0 : 0 < m) (ht : Mk.tagsGood m tags) (l : List UInt8) : ∀ (now : Nat) (k : Int) (b : Int × Int), 0 ≤ b.1 → b.1 < m → 0 ≤ (Lx.go of next tags l now k b).1 ∧ (Lx.go of next tags l now k b).1 < m := by
  induction l with
  | nil => intro now k b h1 h2; rw [Lx.go_nil]; exact ⟨h1, h2⟩
  | cons c r ih =>
    intro now k b h1 h2
    by_cases g : Lx.nx of next now c < 0
    · rw [Lx.go_stop g]; exact ⟨h1, h2⟩
    · by_cases g1 : 0 ≤ Lx.tg tags (Lx.nx of next now c)
      · rw [Lx.go_hit g g1]
        refine ih _ _ _ g1 ?_
        show Lx.tg tags (Lx.nx of next now c) < m
        unfold Lx.tg
        by_cases hl : (Lx.nx of next now c).toNat < tags.length
        · exact ht _ hl
        · rw [List.getD_eq_getElem?_getD, List.getElem?_eq_none (by omega)]; simp only [Option.getD_none]; omega
      · rw [Lx.go_miss g g1]; exact ih _ _ _ h1 h2
/-- A token that fits: its rule, its place. -/
def tokOk (m z : Nat) (x : Int × Int × Int) : Prop := 0 ≤ x.1 ∧ x.1 < m ∧ 0 ≤ x.2.1 ∧ x.2.1 ≤ z
theorem toks_ok {of : List Int} {next : List (List Int)} {tags : List Int} {m : Nat} (h0 : 0 < m) (ht : Mk.tagsGood m tags) (z : Nat) (f : Nat) : ∀ (l : List UInt8) (k : Int) (out : List (Int × Int × Int)), 0 ≤ k → k + l.length ≤ z → (out.length : Int) ≤ k → (∀ x ∈ out, tokOk m z x) →
    (∀ x ∈ (Lx.toks of next tags f l k out).1, tokOk m z x) ∧ ((Lx.toks of next tags f l k out).1.length : Int) ≤ z := by
  induction f with
  | zero => intro l k out h1 h2 h3 h4; simp only [Lx.toks]; exact ⟨h4, by omega⟩
  | succ f ih =>
    intro l k out h1 h2 h3 h4
    by_cases h : l = []
    · subst h; rw [Lx.toks_end]; exact ⟨h4, by show (out.length : Int) ≤ z; omega⟩
    · by_cases g : (Lx.longest of next tags l).2 = 0
      · rw [Lx.toks_bad h g]; exact ⟨h4, by show (out.length : Int) ≤ z; omega⟩
      · rw [Lx.toks_step h g]
        have h5 := Lx.longest_in of next tags l
        have h6 := go_rule (of := of) (next := next) h0 ht l 0 0 (0, 0) (by simp) (by simp; omega)
        refine ih _ _ _ (by omega) (by rw [List.length_drop]; omega) (by rw [List.length_append, List.length_singleton]; omega) (fun x hx => ?_)
        rcases List.mem_append.1 hx with hx | hx
        · exact h4 x hx
        · rw [List.mem_singleton.1 hx]
          exact ⟨by show 0 ≤ (Lx.longest of next tags l).1; unfold Lx.longest; exact h6.1, by show (Lx.longest of next tags l).1 < m; unfold Lx.longest; exact h6.2, h1, by show k ≤ z; omega⟩

/-- A climber, a stacker behind j tokens. -/
def okC (t n : Int) (np : Nat) (j : Nat) (s : List Cl.T × Int) : Prop := s.2 = j ∧ s.1.length ≤ 60 ∧ ∀ x ∈ s.1, Cl.good t n np x = true
def okS (m : Nat) (j : Nat) (s : List Int × Int) : Prop := s.2 = j ∧ 0 < s.1.length ∧ s.1.length ≤ 60 ∧ s.1.any (Bd.out m) = false
section
variable {t n : Int} {l : List (Int × List (Int × Int))} {rows : List (List Int)}
theorem okC_chk {np j : Nat} {s : List Cl.T × Int} (h : okC t n np j s) (hj : j ≤ 5000) {c : Nat} (hc : (c : Int) ≤ t) : Cl.chk 0 t (Cl.fits t n np s.1.reverse s.2) (decide ((0 : Int) ≠ 0) || false) c = 0 := by
  obtain ⟨h1, h2, h3⟩ := h
  have hf : Cl.fits t n np s.1.reverse s.2 = true := by
    refine Cl.fits_iff.2 ⟨by rw [List.length_reverse]; exact h2, by omega, by omega, ?_⟩
    rw [List.any_eq_false]
    intro x hx
    rw [h3 x (List.mem_reverse.1 hx)]
    simp
  rw [Cl.chk, if_neg (by simp), if_pos ⟨hf, by omega, hc⟩, if_neg (by simp)]
theorem okC_push {j : Nat} {s : List Cl.T × Int} (h : okC t n l.length j s) (he : Rw.all t n l rows = 0) {c : Nat} (hc : (c : Int) ≤ t) {tt : Nat} (h0 : ((climber l rows tt).push s c).1 = 0) : okC t n l.length (j + 1) ((climber l rows tt).push s c).2.1 := by
  obtain ⟨h1, h2, h3⟩ := h
  simp only [climber] at h0 ⊢
  have h4 := Cl.push_wf (ps := l) (rows := rows) (c := c) (seen := s.2) s.1 h2
  have h5 := Cl.push_good he hc (seen := s.2) s.1 h3
  generalize Cl.push l rows c s.2 s.1 = x at *
  by_cases hx : x.1 = 0
  · rw [Cl.fin_go hx]
    refine ⟨by show s.2 + 1 = _; omega, by rw [List.reverse_reverse]; exact h4.1, ?_⟩
    simp only [List.reverse_reverse]
    exact h5 hx
  · rw [Cl.fin_bad hx] at h0; exact absurd h0 hx
theorem fin_out {last : Bool} {x : Int × List Cl.T × List (Int × Int)} {seen : Int} {m : Nat} (h : x.2.2.length ≤ m) : (Cl.fin last x seen).out.length ≤ m := by
  unfold Cl.fin
  split
  · exact Nat.zero_le _
  · split <;> exact h
theorem okC_len {j : Nat} {s : List Cl.T × Int} (h : okC t n l.length j s) {c tt : Nat} : ((climber l rows tt).push s c).2.2.length ≤ 2001 ∧ ((climber l rows tt).fin s).2.length ≤ 2001 :=
  ⟨fin_out (Nat.le_succ_of_le (Cl.push_wf _ h.2.1).2), fin_out (Nat.le_succ_of_le (Cl.end_wf _ h.2.1))⟩
theorem okC_begin (he : Rw.all t n l rows = 0) : okC t n l.length 0 ([(false, 0, 2, 0)], 0) := by
  refine ⟨rfl, by decide, fun x hx => ?_⟩
  rw [List.mem_singleton.1 hx]
  have := (Gr.err_zero (Cl.rw_zero he).1)
  simp only [Cl.good, Gr.right]
  simp
  omega
end
section
variable {t n : Int} {l : List (Int × List (Int × Int))} {acts : List (List (Int × Int))} {gts : List (List Int)}
theorem okS_chk {m j : Nat} {s : List Int × Int} (h : okS m j s) (hj : j ≤ 5000) {c : Nat} (hc : (c : Int) ≤ t) : Bd.chk 0 t m s.1 s.2 (decide ((0 : Int) ≠ 0) || false) c = 0 := by
  obtain ⟨h1, h2, h3, h4⟩ := h
  exact Bd.chk_ok ⟨Bd.fits_iff.2 ⟨h3, by omega, by omega, .inl h2, h4⟩, by omega, hc⟩
theorem okS_wf {j : Nat} {s : List Int × Int} (h : okS acts.length j s) (hj : j ≤ 5000) (he : Tb.all t n l acts gts = 0) {c : Nat} (hc : (c : Int) ≤ t) : (Bd.go l acts gts s.2 c 2000 s.1 []).2.1.any (Bd.out acts.length) = false ∧ (Bd.go l acts gts s.2 c 2000 s.1 []).2.2.length ≤ 2001 := by
  have hw := Bd.go_wf he hc (seen := s.2) ⟨by have := h.1; omega, by have := h.1; omega⟩ 2000 s.1 [] h.2.1 h.2.2.1 h.2.2.2 (fun x hx => by cases hx)
  exact ⟨hw.1, hw.2.2.2⟩
theorem okS_push {j : Nat} {s : List Int × Int} (h : okS acts.length j s) (hj : j ≤ 5000) (he : Tb.all t n l acts gts = 0) {c : Nat} (hc : (c : Int) ≤ t) {tt : Nat} (h0 : ((stacker l acts gts tt).push s c).1 = 0) : okS acts.length (j + 1) ((stacker l acts gts tt).push s c).2.1 := by
  have hw := okS_wf h hj he hc
  obtain ⟨h1, h2, h3, h4⟩ := h
  simp only [stacker] at h0 ⊢
  have h5 := Bd.go_st (ps := l) (acts := acts) (gts := gts) (seen := s.2) (c := c) 2000 s.1 [] h2 h3
  generalize Bd.go l acts gts s.2 c 2000 s.1 [] = x at *
  by_cases hx : x.1 = 0
  · rw [Bd.fin, if_neg (by omega), if_neg (by simp)]
    exact ⟨by show s.2 + 1 = _; omega, (h5 hx).1, (h5 hx).2, hw.1⟩
  · rw [Bd.fin, if_pos hx] at h0; exact absurd h0 hx
theorem finS_out {last : Bool} {x : Int × List Int × List (Int × Int)} {seen : Int} {m : Nat} (h : x.2.2.length ≤ m) : (Bd.fin last x seen).out.length ≤ m := by
  unfold Bd.fin
  split
  · exact Nat.zero_le _
  · split <;> exact h
theorem okS_len {j : Nat} {s : List Int × Int} (h : okS acts.length j s) (hj : j ≤ 5000) (he : Tb.all t n l acts gts = 0) {c : Nat} (hc : (c : Int) ≤ t) {tt : Nat} (htt : (tt : Int) = t) : ((stacker l acts gts tt).push s c).2.2.length ≤ 2001 ∧ ((stacker l acts gts tt).fin s).2.length ≤ 2001 := by
  have h1 := (okS_wf h hj he hc).2
  have h2 := (okS_wf h hj he (c := tt) (by omega)).2
  exact ⟨finS_out h1, finS_out h2⟩
theorem okS_begin (he : Tb.all t n l acts gts = 0) : okS acts.length 0 ([0], 0) := by
  refine ⟨rfl, by decide, by decide, ?_⟩
  have h1 := (Bd.tb_zero he).2.2.1
  rw [List.any_eq_false]
  intro x hx
  rw [List.mem_singleton.1 hx]
  simp only [Bd.out, Bool.or_eq_true, decide_eq_true_eq]
  omega
end
end Ws
end Go.Proofs.Ytahoapgmiecphaa

/-
  What the call owns, in another order, some of it left out. (A helper text; it claims nothing of the program.)
-/
namespace Go.Proofs.Ytahoapgmiecphaa
set_option linter.unusedVariables false
open Go.ChangeShapes Go.WideShapes Go.ChangeAt Go.RowKit

def picks (is : List Nat) (k : Nat) : Bool := is.all (· < k) && decide is.Nodup
/-- Those of the first k that 'is' names, in that order; and all behind them. -/
theorem St.pick {w0 w : World} {μ ρ : List Asrt} (h : St w0 w μ) (is : List Nat) (k : Nat) (hi : picks is k = true) (he : is.filterMap (fun i => μ[i]?) ++ μ.drop k = ρ) : St w0 w ρ := by
  unfold picks at hi
  rw [Bool.and_eq_true, List.all_eq_true, decide_eq_true_eq] at hi
  obtain ⟨hk, hnd⟩ := hi
  have hmem : ∀ A ∈ ρ, A ∈ μ := by
    intro A hA
    rw [← he, List.mem_append, List.mem_filterMap] at hA
    rcases hA with ⟨i, _, hi⟩ | hA
    · exact List.mem_of_getElem? hi
    · exact List.mem_of_mem_drop hA
  refine ⟨h.bel, fun A hA => h.ok A (hmem A hA), fun A hA => h.lo A (hmem A hA), ?_⟩
  have hs := h.sep
  unfold List.Nodup at hs hnd ⊢
  rw [List.pairwise_flatMap] at hs ⊢
  refine ⟨fun A hA => hs.1 A (hmem A hA), ?_⟩
  have hp := List.pairwise_iff_getElem.1 hs.2
  have hij : ∀ (i j : Nat) (A B : Asrt), i ≠ j → μ[i]? = some A → μ[j]? = some B → ∀ x ∈ A.fp, ∀ y ∈ B.fp, x ≠ y := by
    intro i j A B hne hA hB x hx y hy
    obtain ⟨h1, rfl⟩ := List.getElem?_eq_some_iff.1 hA
    obtain ⟨h2, rfl⟩ := List.getElem?_eq_some_iff.1 hB
    rcases Nat.lt_or_gt_of_ne hne with hlt | hlt
    · exact hp i j h1 h2 hlt x hx y hy
    · exact fun e => hp j i h2 h1 hlt y hy x hx e.symm
  rw [← he, List.pairwise_append]
  refine ⟨?_, hs.2.sublist (List.drop_sublist k μ), ?_⟩
  · rw [List.pairwise_filterMap]
    exact hnd.imp (fun {i j} hne A hA B hB => hij i j A B hne hA hB)
  · intro A hA B hB
    rw [List.mem_filterMap] at hA
    obtain ⟨i, hi, hA⟩ := hA
    obtain ⟨j, hj⟩ := List.mem_iff_getElem?.1 hB
    rw [List.getElem?_drop] at hj
    have := hk i hi
    rw [decide_eq_true_eq] at this
    exact hij i (k + j) A B (by omega) hA hj
end Go.Proofs.Ytahoapgmiecphaa

/-
  A parser in memory: its block and what hangs on it, as one assertion; what a push, an end must do. (A helper text; it claims nothing of the program.)
-/
namespace Go.Proofs.Ytahoapgmiecphaa
set_option linter.unusedVariables false
open Go.ChangeShapes Go.WideShapes Go.ChangeAt Go.RowKit

/-- Two assertions as one. -/
def aPair (X Y : Asrt) : Asrt := ⟨X.fp ++ Y.fp, fun w => X.ok w ∧ Y.ok w, fun w w' hb h => ⟨X.loc w w' (fun b hb' => hb b (List.mem_append_left _ hb')) h.1, Y.loc w w' (fun b hb' => hb b (List.mem_append_right _ hb')) h.2⟩⟩
section
variable {w0 w : World} {μ : List Asrt} {X Y : Asrt}
theorem St.pair (h : St w0 w (X :: Y :: μ)) : St w0 w (aPair X Y :: μ) := h.merge rfl (fun a b => ⟨a, b⟩)
theorem St.unpair (h : St w0 w (aPair X Y :: μ)) : St w0 w (X :: Y :: μ) := by
  have hp := h.ok _ (.head _)
  refine ⟨h.bel, fun D hD => ?_, fun D hD b hb => ?_, ?_⟩
  · rcases List.mem_cons.1 hD with rfl | hD
    · exact hp.1
    · rcases List.mem_cons.1 hD with rfl | hD
      · exact hp.2
      · exact h.ok D (.tail _ hD)
  · rcases List.mem_cons.1 hD with rfl | hD
    · exact h.lo _ (.head _) b (List.mem_append_left _ hb)
    · rcases List.mem_cons.1 hD with rfl | hD
      · exact h.lo _ (.head _) b (List.mem_append_right _ hb)
      · exact h.lo D (.tail _ hD) b hb
  · have := h.sep
    simp only [List.flatMap_cons] at this ⊢
    rw [← List.append_assoc]
    exact this
end

namespace Ws
/-- The four cells of a climber, a stacker, somewhere in a block. -/
def four (A Z : Array Value) (v : Value) (seen over : Int) (done : Bool) : Array Value := (A.toList ++ ([v, .int .i64 seen, .int .i64 over, .bool done] ++ Z.toList)).toArray
theorem four_old {A Z : Array Value} {v : Value} {seen over : Int} {done : Bool} {i : Nat} {x : Value} (h : A[i]? = some x) : (four A Z v seen over done)[i]? = some x := by
  have hi : i < A.toList.length := by simpa using (Array.getElem?_eq_some_iff.1 h).1
  rw [four, List.getElem?_toArray, List.getElem?_append_left hi, Array.getElem?_toList]
  exact h
theorem four_new {A Z : Array Value} {v : Value} {seen over : Int} {done : Bool} {m : Nat} (hA : A.size = m) :
    (four A Z v seen over done)[m]? = some v ∧ (four A Z v seen over done)[m + 1]? = some (.int .i64 seen) ∧ (four A Z v seen over done)[m + 2]? = some (.int .i64 over) ∧ (four A Z v seen over done)[m + 3]? = some (.bool done) := by
  subst hA
  refine ⟨?_, ?_, ?_, ?_⟩ <;> (rw [four, List.getElem?_toArray, List.getElem?_append_right (by simp)]; simp)
theorem set_app {α : Type} (a b : List α) (k : Nat) (x : α) : (a ++ b).set (a.length + k) x = a ++ b.set k x := by
  induction a with
  | nil => simp
  | cons y a ih => rw [List.cons_append, List.length_cons, show a.length + 1 + k = (a.length + k) + 1 by omega, List.set_cons_succ, ih]; rfl
theorem four_set {A Z : Array Value} {v v' : Value} {seen over seen' over' : Int} {done done' : Bool} {m : Nat} (hA : A.size = m) :
    ((((four A Z v seen over done).setIfInBounds m v').setIfInBounds (m + 1) (.int .i64 seen')).setIfInBounds (m + 2) (.int .i64 over')).setIfInBounds (m + 3) (.bool done') = four A Z v' seen' over' done' := by
  have e : m = A.toList.length := by simpa using hA.symm
  have h : ∀ (b : List Value) (k : Nat) (x : Value), (A.toList ++ b).set (m + k) x = A.toList ++ b.set k x := fun b k x => by rw [e, set_app]
  have h0 : ∀ (b : List Value) (x : Value), (A.toList ++ b).set m x = A.toList ++ b.set 0 x := fun b x => h b 0 x
  simp only [four, List.setIfInBounds_toArray]
  congr 1
  rw [h0, h, h, h]
  simp only [List.cons_append, List.nil_append, List.set_cons_zero, List.set_cons_succ]
/-- How a climber, a stacker lies in a block g of type T behind the cells A. -/
def InC (g : Nat) (T : TypeId) (A Z : Array Value) (s : List Cl.T × Int) (X : Asrt) : Prop := ∃ v, X = aPair (aCel g T (four A Z v s.2 0 false)) (aOwn 238 4 v (s.1.reverse.map todoV))
def InS (g : Nat) (T : TypeId) (A Z : Array Value) (s : List Int × Int) (X : Asrt) : Prop := ∃ v, X = aPair (aCel g T (four A Z v s.2 0 false)) (aOwn 3 1 v (s.1.map (Value.int .i64)))
/-- A push by the function fn at the receiver r: what it must do. -/
def PushBy {σ : Type} (P : Par σ) (ok : Nat → σ → Prop) (In : σ → Asrt → Prop) (t : Nat) (wb : World) (call : Nat → World → (Ending → World → Prop) → Prop) : Prop :=
  ∀ (w0 w : World) (μ : List Asrt) (j : Nat) (s : σ) (X : Asrt) (c : Nat), Below wb.heap.size wb w → wb.heap.size ≤ w0.heap.size → In s X → ok j s → j ≤ 5000 → c < t → St w0 w (X :: μ) →
    call c w fun e w' => ∃ ve X', e = .returned (.tuple #[ve, .int .i64 (P.push s c).1]) ∧ ((P.push s c).1 = 0 → In (P.push s c).2.1 X') ∧ St w0 w' (X' :: aOwn 76 2 ve ((P.push s c).2.2.map pairV) :: μ)
def EndBy {σ : Type} (P : Par σ) (ok : Nat → σ → Prop) (In : σ → Asrt → Prop) (wb : World) (call : World → (Ending → World → Prop) → Prop) : Prop :=
  ∀ (w0 w : World) (μ : List Asrt) (j : Nat) (s : σ) (X : Asrt), Below wb.heap.size wb w → wb.heap.size ≤ w0.heap.size → In s X → ok j s → j ≤ 5000 → St w0 w (X :: μ) →
    call w fun e w' => ∃ ve X', e = .returned (.tuple #[ve, .int .i64 (P.fin s).1]) ∧ St w0 w' (X' :: aOwn 76 2 ve ((P.fin s).2.map pairV) :: μ)
end Ws
end Go.Proofs.Ytahoapgmiecphaa
