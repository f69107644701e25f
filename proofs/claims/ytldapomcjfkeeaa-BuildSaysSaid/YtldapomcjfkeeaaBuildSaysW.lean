/-
  BuildSays: the law's walk.
-/
import Derived.Test.YtldapomcjfkeeaaBdRef
import Derived.Test.YtldapomcjfkeeaaBdLaw
namespace Go.Proofs.Ytldapomcjfkeeaa
set_option linter.unusedVariables false
open Go.ChangeShapes Go.WideShapes Go.ChangeAt Go.RowKit

namespace Bd
def wfR (r : R) : Prop := (r.st.length : Int) * 8 ≤ 140737488355328 ∧ (∀ x ∈ r.st, -9223372036854775808 ≤ x ∧ x ≤ 9223372036854775807) ∧ (r.out.length : Int) * 16 ≤ 140737488355328 ∧ ∀ x ∈ r.out, evOk x
theorem tell_wf {t n : Int} {l : List (Int × List (Int × Int))} {acts : List (List (Int × Int))} {gts : List (List Int)} {st : List Int} {seen ov : Int} {dn : Bool} {c : Nat} {E : Int} {last : Bool}
    (h1 : (st.length : Int) * 8 ≤ 140737488355328) (h2 : ∀ x ∈ st, -9223372036854775808 ≤ x ∧ x ≤ 9223372036854775807)
    (hz : E = 0 → Tb.all t n l acts gts = 0 ∧ (c : Int) ≤ t ∧ 0 ≤ seen ∧ seen ≤ 1099511627776 ∧ 0 < st.length ∧ st.length ≤ 60 ∧ st.any (out acts.length) = false) :
    wfR (tell E last (go l acts gts seen c 2000 st []) st seen ov dn) := by
  by_cases hE : E = 0
  · obtain ⟨z1, z2, z3, z4, z5, z6, z7⟩ := hz hE
    subst hE
    have hm := (tb_zero z1).2.1
    obtain ⟨g1, g2, g3, g4⟩ := go_wf z1 z2 ⟨z3, z4⟩ 2000 st [] z5 z6 z7 (fun x hx => by cases hx)
    rw [tell_ok]
    generalize go l acts gts seen c 2000 st [] = X at *
    obtain ⟨e, s2, o2⟩ := X
    simp only [List.length_nil] at g1 g2 g3 g4
    by_cases he : e = 0
    · cases last
      · rw [fin_go he]
        refine ⟨by simp only; omega, fun x hx => ?_, by simp only; omega, g3⟩
        have hx : x ∈ s2 := hx
        obtain ⟨i, hi, rfl⟩ := List.getElem_of_mem hx
        have := any_out g1 i hi
        simp only [List.getD, List.getElem?_eq_getElem hi, Option.getD_some] at this
        omega
      · rw [fin_end he]
        exact ⟨by simp, (fun x hx => by cases hx), by simp only; omega, g3⟩
    · rw [fin_bad he]
      exact ⟨by simp, (fun x hx => by cases hx), by simp, (fun x hx => by cases hx)⟩
  · rw [tell_bad hE]
    exact ⟨h1, h2, by simp, (fun x hx => by cases hx)⟩
theorem chk_term' {te t : Int} (ht : te = 0 → 0 ≤ t) {m : Nat} {st : List Int} {seen : Int} {over : Bool} {term : Int} : chk te t m st seen over (if term = t then -1 else term) = atTerm (right te m st seen over) t over term := by
  by_cases h : te = 0
  · exact chk_term (ht h)
  · rw [right_te h, chk_te h, atTerm]; simp [h]
theorem chk_end' {te t : Int} (ht : te = 0 → 0 ≤ t) {m : Nat} {st : List Int} {seen : Int} {over : Bool} : chk te t m st seen over t = atEnd (right te m st seen over) over := by
  by_cases h : te = 0
  · exact chk_end (ht h)
  · rw [right_te h, chk_te h, atEnd]; simp [h]
end Bd

theorem St.encI {w0 w : World} {μ : List Asrt} {v : Value} {l : List Int} (h : St w0 w μ) (i : Nat) (hA : μ[i]? = some (aOwn 3 1 v (l.map (Value.int .i64)))) (h1 : (l.length : Int) * 8 ≤ 140737488355328) (h2 : ∀ x ∈ l, -9223372036854775808 ≤ x ∧ x ≤ 9223372036854775807) :
    ((Enc.int .i64).sl 8).R (fun b => b < w.heap.size) w [v] l :=
  Own.enc (En := Enc.int .i64) (bytes := 8) (f := Value.int .i64) (h.ownAt i hA) rfl (fun a ha => ⟨rfl, WalkArith.wf_i64 (h2 a ha)⟩) (fun b hb => ((h.nth i hA).fpOwn b hb).2) h1
theorem St.encE {w0 w : World} {μ : List Asrt} {v : Value} {l : List (Int × Int)} (h : St w0 w μ) (i : Nat) (hA : μ[i]? = some (aOwn 81 2 v (l.map pairV))) (h1 : (l.length : Int) * 16 ≤ 140737488355328) (h2 : ∀ x ∈ l, Bd.evOk x) :
    (Enc.two.sl 16).R (fun b => b < w.heap.size) w [v] l :=
  Own.two (h.ownAt i hA) (fun b hb => ((h.nth i hA).fpOwn b hb).2) h1 (fun p hp => by have := h2 p hp; unfold Bd.evOk at this; omega)

theorem built_tell (t n seen ov col E : Int) (dn : Bool) (vp va vg vs vs2 ve2 : Value) (l : List (Int × List (Int × Int))) (acts : List (List (Int × Int))) (gts : List (List Int)) (st : List Int) (c : Nat) (last : Bool) (w : World) (F F2 : Nat → Prop) (hF : ∀ b, F b → b < w.heap.size) (hF2 : ∀ b, F2 b → b < w.heap.size) (h : Enc.prods.R F w [vp] l)
    (ha : ((Enc.two.sl 16).sl 24).R F w [va] acts) (hg : (((Enc.int .i64).sl 8).sl 24).R F w [vg] gts) (hs : ((Enc.int .i64).sl 8).R F w [vs] st)
    (hz : E = 0 → Tb.all t n l acts gts = 0 ∧ (c : Int) ≤ t ∧ 0 ≤ seen ∧ seen ≤ 1099511627776 ∧ 0 < st.length ∧ st.length ≤ 60 ∧ st.any (Bd.out acts.length) = false) (hcol : E = 0 → col = c ∧ decide ((c : Int) = t) = last) (r : Bd.R) (hr : Bd.tell E last (Bd.go l acts gts seen c 2000 st []) st seen ov dn = r) (hwf : Bd.wfR r)
    (hs2 : ((Enc.int .i64).sl 8).R F2 w [vs2] r.st) (he2 : (Enc.two.sl 16).R F2 w [ve2] r.out) :
    Calls Try.prog 59 #[.agg #[.int .i64 t, .int .i64 n, vp], .agg #[va, vg], .agg #[vs, .int .i64 seen, .int .i64 ov, .bool dn], .int .i64 col, .int .i64 E, .agg #[vs2, .int .i64 r.seen, .int .i64 r.over, .bool r.done], ve2, .int .i64 r.err] w fun e w' => e = .returned (.bool true) ∧ Below w.heap.size w w' := by
  by_cases hE : E = 0
  · subst hE
    obtain ⟨z1, z2, z3, z4, z5, z6, z7⟩ := hz rfl
    obtain ⟨rfl, hl⟩ := hcol rfl
    refine built_ok t n seen ov c dn vp va vg vs vs2 ve2 r w F2 hF2 hs2 he2 hwf (fun W hW => ?_)
    rw [← hr, Bd.tell_ok, ← hl]
    exact bdRef_any t n seen ov dn vp va vg vs l acts gts st c W F (fun b hb => Nat.lt_of_lt_of_le (hF b hb) hW.size) (Enc.mono _ h (fun _ h => h) (fun b hb => hW.block b (hF b hb))) (Enc.mono _ ha (fun _ h => h) (fun b hb => hW.block b (hF b hb))) (Enc.mono _ hg (fun _ h => h) (fun b hb => hW.block b (hF b hb))) (Enc.mono _ hs (fun _ h => h) (fun b hb => hW.block b (hF b hb))) z1 z2 ⟨z3, z4⟩ z5 z6 z7
  · rw [Bd.tell_bad hE] at hr
    subst hr
    obtain ⟨ae, -, -, ce, rfl, -⟩ := slTwo he2
    exact built_bad t n seen ov col E dn vp va vg vs vs2 ae ce st w F F2 hF hF2 hs hs2 hE

set_option maxRecDepth 100000 in
set_option maxHeartbeats 16000000 in
theorem buildSays_walk (t n seen ov term : Int) (dn : Bool) (vp va vg vs : Value) (l : List (Int × List (Int × Int))) (acts : List (List (Int × Int))) (gts : List (List Int)) (st : List Int) (w : World) (F : Nat → Prop) (hF : ∀ b, F b → b < w.heap.size) (h : Enc.prods.R F w [vp] l)
    (ha : ((Enc.two.sl 16).sl 24).R F w [va] acts) (hg : (((Enc.int .i64).sl 8).sl 24).R F w [vg] gts) (hs : ((Enc.int .i64).sl 8).R F w [vs] st) :
    Calls Try.prog 11 #[.agg #[.int .i64 t, .int .i64 n, vp], .agg #[va, vg], .agg #[vs, .int .i64 seen, .int .i64 ov, .bool dn], .int .i64 term] w fun e w' => e = .returned (.bool true) ∧ Below w.heap.size w w' := by
  have hst := ((((St.init w).alloc #[.int .i64 t, .int .i64 n, vp] 68).alloc #[va, vg] 108).alloc #[vs, .int .i64 seen, .int .i64 ov, .bool dn] 110)
  simp only [World.size_alloc] at hst
  have hF' : ∀ W, Below w.heap.size w W → ∀ b, F b → b < W.heap.size := fun W hW b hb => Nat.lt_of_lt_of_le (hF b hb) hW.size
  have m1 : ∀ W, Below w.heap.size w W → Enc.prods.R F W [vp] l := fun W hW => Enc.mono _ h (fun _ h => h) (fun b hb => hW.block b (hF b hb))
  have m2 : ∀ W, Below w.heap.size w W → ((Enc.two.sl 16).sl 24).R F W [va] acts := fun W hW => Enc.mono _ ha (fun _ h => h) (fun b hb => hW.block b (hF b hb))
  have m3 : ∀ W, Below w.heap.size w W → (((Enc.int .i64).sl 8).sl 24).R F W [vg] gts := fun W hW => Enc.mono _ hg (fun _ h => h) (fun b hb => hW.block b (hF b hb))
  have m4 : ∀ W, Below w.heap.size w W → ((Enc.int .i64).sl 8).R F W [vs] st := fun W hW => Enc.mono _ hs (fun _ h => h) (fun b hb => hW.block b (hF b hb))
  obtain ⟨_, _, _, _, -, hl1, -, hl2⟩ := Enc.sl1 (En := Enc.int .i64) (Value.int .i64) (fun _ _ _ h => h.1) rfl 0 hs
  have hi64 : ∀ x ∈ st, -9223372036854775808 ≤ x ∧ x ≤ 9223372036854775807 := fun x hx => by
    obtain ⟨i, hi, rfl⟩ := List.getElem_of_mem hx
    have := wf64 (hl2 i hi).2.2
    simpa [List.getD, List.getElem?_eq_getElem hi] using this
  generalize hO : (decide (ov ≠ 0) || dn) = O
  have ht0 : Tb.all t n l acts gts = 0 → 0 ≤ t := fun h => (Gr.err_zero (Bd.tb_zero h).1).1
  have hE1 := Bd.chk_term' ht0 (m := acts.length) (st := st) (seen := seen) (over := O) (term := term)
  have hE2 := Bd.chk_end' ht0 (m := acts.length) (st := st) (seen := seen) (over := O)
  generalize hRT : Bd.right (Tb.all t n l acts gts) acts.length st seen O = RT at hE1 hE2
  obtain ⟨E1, hE1'⟩ : ∃ E1, E1 = Bd.atTerm RT t O term := ⟨_, rfl⟩
  obtain ⟨E2, hE2'⟩ : ∃ E2, E2 = Bd.atEnd RT O := ⟨_, rfl⟩
  rw [← hE1'] at hE1
  rw [← hE2'] at hE2
  have hz1 : E1 = 0 → (Tb.all t n l acts gts = 0 ∧ (term.toNat : Int) ≤ t ∧ 0 ≤ seen ∧ seen ≤ 1099511627776 ∧ 0 < st.length ∧ st.length ≤ 60 ∧ st.any (Bd.out acts.length) = false) ∧ (term = (term.toNat : Int) ∧ decide ((term.toNat : Int) = t) = false) ∧ Bd.chk (Tb.all t n l acts gts) t acts.length st seen O term.toNat = 0 := fun hz => by
    rw [hz] at hE1
    obtain ⟨g1, g2, g3, g4, g5, g6, g7, g8, g9⟩ := Bd.chk_zero hE1
    by_cases hq : term = t
    · rw [if_pos hq] at g3; omega
    · rw [if_neg hq] at g3 g4 hE1
      have e : (term.toNat : Int) = term := Int.toNat_of_nonneg g3
      refine ⟨⟨g1, by omega, g6, g7, g8, g5, g9⟩, ⟨e.symm, by rw [e]; exact decide_eq_false hq⟩, by rw [e]; exact hE1⟩
  have hz2 : E2 = 0 → (Tb.all t n l acts gts = 0 ∧ (t.toNat : Int) ≤ t ∧ 0 ≤ seen ∧ seen ≤ 1099511627776 ∧ 0 < st.length ∧ st.length ≤ 60 ∧ st.any (Bd.out acts.length) = false) ∧ (t = (t.toNat : Int) ∧ decide ((t.toNat : Int) = t) = true) ∧ Bd.chk (Tb.all t n l acts gts) t acts.length st seen O t.toNat = 0 := fun hz => by
    rw [hz] at hE2
    obtain ⟨g1, g2, g3, g4, g5, g6, g7, g8, g9⟩ := Bd.chk_zero hE2
    have e : (t.toNat : Int) = t := Int.toNat_of_nonneg g3
    exact ⟨⟨g1, by omega, g6, g7, g8, g5, g9⟩, ⟨e.symm, decide_eq_true e⟩, by rw [e]; exact hE2⟩
  obtain ⟨R1, hR1⟩ : ∃ R1, Bd.tell E1 false (Bd.go l acts gts seen term.toNat 2000 st []) st seen ov dn = R1 := ⟨_, rfl⟩
  obtain ⟨R2, hR2⟩ : ∃ R2, Bd.tell E2 true (Bd.go l acts gts seen t.toNat 2000 st []) st seen ov dn = R2 := ⟨_, rfl⟩
  have hwf1 : Bd.wfR R1 := by rw [← hR1]; exact Bd.tell_wf hl1 hi64 (fun hz => (hz1 hz).1)
  have hwf2 : Bd.wfR R2 := by rw [← hR2]; exact Bd.tell_wf hl1 hi64 (fun hz => (hz2 hz).1)
  have HPU := Lib.hid (fun (W : World) (hW : Below w.heap.size w W) => (show Calls Try.prog 57 #[.agg #[.int .i64 t, .int .i64 n, vp], .agg #[va, vg], .agg #[vs, .int .i64 seen, .int .i64 ov, .bool dn], .int .i64 term] W (Bd.Ret R1 W) from by
    by_cases hE : E1 = 0
    · obtain ⟨g1, g2, g3⟩ := hz1 hE
      rw [← hR1, hE, Bd.tell_ok]
      have e := g2.1
      rw [show (Value.int .i64 term) = .int .i64 (term.toNat : Int) by rw [← e]]
      refine bdPush_ok t n seen ov term.toNat dn vp va vg vs l acts gts st W F (hF' W hW) (m1 W hW) (m2 W hW) (m3 W hW) (m4 W hW) ?_ ?_
      · have := of_decide_eq_false g2.2
        omega
      · rw [hO]; exact g3
    · rw [← hR1, Bd.tell_bad hE]
      refine bdPush_bad t n seen ov term (if term = t then -1 else term) dn vp va vg vs l acts gts st W F (hF' W hW) (m1 W hW) (m2 W hW) (m3 W hW) (m4 W hW) E1 ?_ ?_ hE
      · by_cases hq : term = t
        · exact .inl ⟨hq, if_pos hq⟩
        · exact .inr ⟨hq, (if_neg hq).symm⟩
      · rw [hO]; exact hE1))
  have HEN := Lib.hid (fun (W : World) (hW : Below w.heap.size w W) => (show Calls Try.prog 58 #[.agg #[.int .i64 t, .int .i64 n, vp], .agg #[va, vg], .agg #[vs, .int .i64 seen, .int .i64 ov, .bool dn]] W (Bd.Ret R2 W) from by
    by_cases hE : E2 = 0
    · obtain ⟨g1, g2, g3⟩ := hz2 hE
      rw [← hR2, hE, Bd.tell_ok]
      refine bdEnd_ok t n seen ov t.toNat dn vp va vg vs l acts gts st W F (hF' W hW) (m1 W hW) (m2 W hW) (m3 W hW) (m4 W hW) g2.1 ?_
      rw [hO]; exact g3
    · rw [← hR2, Bd.tell_bad hE]
      refine bdEnd_bad t n seen ov dn vp va vg vs l acts gts st W F (hF' W hW) (m1 W hW) (m2 W hW) (m3 W hW) (m4 W hW) E2 ?_ hE
      rw [hO]; exact hE2))
  have HB1 := Lib.hid (fun (W : World) (hW : Below w.heap.size w W) (vs2 ve2 : Value) h1 h2 => built_tell t n seen ov term E1 dn vp va vg vs vs2 ve2 l acts gts st term.toNat false W F (fun b => b < W.heap.size) (hF' W hW) (fun _ h => h) (m1 W hW) (m2 W hW) (m3 W hW) (m4 W hW) (fun hz => (hz1 hz).1) (fun hz => (hz1 hz).2.1) R1 hR1 hwf1 h1 h2)
  have HB2 := Lib.hid (fun (W : World) (hW : Below w.heap.size w W) (vs2 ve2 : Value) h1 h2 => built_tell t n seen ov t E2 dn vp va vg vs vs2 ve2 l acts gts st t.toNat true W F (fun b => b < W.heap.size) (hF' W hW) (fun _ h => h) (m1 W hW) (m2 W hW) (m3 W hW) (m4 W hW) (fun hz => (hz2 hz).1) (fun hz => (hz2 hz).2.1) R2 hR2 hwf2 h1 h2)
  have HRI := Lib.hid (fun (W : World) (hW : Below w.heap.size w W) => bdRight_any t n seen ov dn vp va vg vs l acts gts st W F (hF' W hW) (m1 W hW) (m2 W hW) (m3 W hW) (m4 W hW))
  rw [hO, hRT] at HRI
  have HWF1 := Lib.hid hwf1
  have HWF2 := Lib.hid hwf2
  have HE1 := Lib.hid hE1'
  have HE2 := Lib.hid hE2'
  have HO := Lib.hid hO
  clear hwf1 hwf2 hE1' hE2' hO hE1 hE2 hz1 hz2 hR1 hR2 hRT m1 m2 m3 m4 hF' h ha hg hs hF hi64 hl1 hl2 ht0
  go_enter Try.func11, Try.ntmps11
  go_wp2_with (fail)
  go_at_call 55
  refine (bdBegin_any _).mono ?_
  rintro e w1 ⟨v0, rfl, ho, hb1⟩
  have hst1 := (hst.pushOwn hb1 ho).alloc #[.int .i64 0] 3
  have HR0 := Lib.hid ((hst1.encI 1 rfl (by decide) (by decide)))
  have HL0 := Lib.hid (Own.enc (En := Enc.int .i64) (bytes := 8) (F := fun b => b < (w1.alloc (.cells #[.int .i64 0] 3)).heap.size) (f := Value.int .i64) (own_lit (w := w1) (B := w1.heap.size) (n := 1) (e := 3) (k := .i64) #[.int .i64 0] [0] rfl rfl (Nat.le_refl _) (by decide)) rfl (fun a ha => ⟨rfl, WalkArith.wf_i64 (by rw [List.mem_singleton.1 ha]; decide)⟩) (fun b hb => by simp [Value.ownBlock] at hb; subst hb; simp) (by decide))
  replace hst := (hst.call hb1).skip (.cells #[.int .i64 0] 3)
  clear hst1 ho hb1
  go_wp2_with (fail)
  go_at_call 54
  refine (sameStk_any (l := [0]) 0 0 false _ (F1 := fun b => b < (w1.alloc (.cells #[.int .i64 0] 3)).heap.size) (F2 := fun b => b < (w1.alloc (.cells #[.int .i64 0] 3)).heap.size) (fun _ h => h) (fun _ h => h) HR0.out HL0.out).mono ?_
  rintro e w2 ⟨rfl, hb2⟩
  replace hst := hst.call hb2
  clear hb2 HR0 HL0
  obtain ⟨g0, g1, g2⟩ := hst.at3 2 rfl
  obtain ⟨t0, t1⟩ := hst.at2 1 rfl
  obtain ⟨x0, x1, x2, x3⟩ := hst.at4 0 rfl
  go_wp2_with (fail)
  go_at_call 56
  refine (HRI.out _ hst.bel).mono ?_
  rintro e w3 ⟨rfl, hb3⟩
  replace hst := hst.call hb3
  clear hb3 g0 g1 g2 t0 t1 x0 x1 x2 x3
  obtain ⟨g0, g1, g2⟩ := hst.at3 2 rfl
  obtain ⟨x0, x1, x2, x3⟩ := hst.at4 0 rfl
  have hoc : (ov ≠ 0 ∧ O = true) ∨ (ov = 0 ∧ dn = true ∧ O = true) ∨ (ov = 0 ∧ dn = false ∧ O = false) := by
    rw [← HO.out]
    by_cases hq : ov = 0
    · cases dn <;> simp [hq]
    · exact .inl ⟨hq, by simp [hq]⟩
  have h1 := HE1.out; have h2 := HE2.out
  clear HO HE1 HE2
  rcases (by omega : RT ≠ 0 ∨ (RT = 0 ∧ term < 0) ∨ (RT = 0 ∧ 0 ≤ term ∧ t ≤ term) ∨ (RT = 0 ∧ 0 ≤ term ∧ term < t)) with r0 | ⟨rfl, r1⟩ | ⟨rfl, r1, r2⟩ | ⟨rfl, r1, r2⟩
  · have r0b : (RT == 0) = false := by rw [beq_eq_false_iff_ne]; exact r0
    rcases hoc with ⟨o1, rfl⟩ | ⟨rfl, rfl, rfl⟩ | ⟨rfl, rfl, rfl⟩
    · have o1b : (ov != 0) = true := by rw [bne_iff_ne]; exact o1
      clear o1
      obtain rfl : E1 = RT := by rw [h1, Bd.atTerm]; simp [r0]
      obtain rfl : E2 = E1 := by rw [h2, Bd.atEnd]; simp [r0]
      clear h1 h2
      clear r0
      obtain ⟨t0, t1⟩ := hst.at2 1 rfl
      go_wp2_with (fail)
      go_at_call 57
      refine (HPU.out _ hst.bel).mono ?_
      rintro e w4 ⟨vs1, ve1, rfl, hst4⟩
      have ST := hst.joined hst4
      simp only [List.cons_append, List.nil_append] at ST
      clear hst hst4 g0 g1 g2 x0 x1 x2 x3 t0 t1
      obtain ⟨a1, c1, hv1⟩ := (ST.ownAt 0 rfl).isLen
      obtain ⟨a2, c2, hv2⟩ := (ST.ownAt 1 rfl).isLen
      rw [List.length_map] at hv1 hv2
      subst hv1 hv2
      replace ST := ST.alloc #[.slice a1 R1.st.length c1, .int .i64 R1.seen, .int .i64 R1.over, .bool R1.done] 110
      obtain ⟨g0, g1, g2⟩ := ST.at3 5 rfl
      obtain ⟨t0, t1⟩ := ST.at2 4 rfl
      obtain ⟨x0, x1, x2, x3⟩ := ST.at4 3 rfl
      go_wp2_with (fail)
      go_at_call 58
      refine (HEN.out _ ST.bel).mono ?_
      rintro e w5 ⟨vs3, ve3, rfl, hst5⟩
      have ST5 := ST.joined hst5
      simp only [List.cons_append, List.nil_append] at ST5
      obtain ⟨a3, c3, hv3⟩ := (ST5.ownAt 0 rfl).isLen
      obtain ⟨a4, c4, hv4⟩ := (ST5.ownAt 1 rfl).isLen
      rw [List.length_map] at hv3 hv4
      subst hv3 hv4
      clear ST hst5 g0 g1 g2 x0 x1 x2 x3 t0 t1
      have ST := ST5.alloc #[.slice a3 R2.st.length c3, .int .i64 R2.seen, .int .i64 R2.over, .bool R2.done] 110
      clear ST5
      obtain ⟨g0, g1, g2⟩ := ST.at3 8 rfl
      obtain ⟨t0, t1⟩ := ST.at2 7 rfl
      obtain ⟨x0, x1, x2, x3⟩ := ST.at4 6 rfl
      obtain ⟨p0, p1, p2, p3⟩ := ST.at4 3 rfl
      have L1 := Lib.hid (ST.encI 4 rfl HWF1.out.1 HWF1.out.2.1)
      have L2 := Lib.hid (ST.encE 5 rfl HWF1.out.2.2.1 HWF1.out.2.2.2)
      go_wp2_with (fail)
      go_at_call 59
      refine (HB1.out _ ST.bel _ _ L1.out L2.out).mono ?_
      rintro e w6 ⟨rfl, hb6⟩
      replace ST := ST.call hb6
      clear hb6 L1 L2 g0 g1 g2 x0 x1 x2 x3 t0 t1 p0 p1 p2 p3
      obtain ⟨g0, g1, g2⟩ := ST.at3 8 rfl
      obtain ⟨t0, t1⟩ := ST.at2 7 rfl
      obtain ⟨x0, x1, x2, x3⟩ := ST.at4 6 rfl
      obtain ⟨p0, p1, p2, p3⟩ := ST.at4 0 rfl
      have L1 := Lib.hid (ST.encI 1 rfl HWF2.out.1 HWF2.out.2.1)
      have L2 := Lib.hid (ST.encE 2 rfl HWF2.out.2.2.1 HWF2.out.2.2.2)
      go_wp2_with (fail)
      go_at_call 59
      refine (HB2.out _ ST.bel _ _ L1.out L2.out).mono ?_
      rintro e w7 ⟨rfl, hb7⟩
      replace ST := ST.call hb7
      go_wp2
      go_ret
      exact ⟨rfl, ST.bel⟩
    · have hdum : True := trivial
      obtain rfl : E1 = RT := by rw [h1, Bd.atTerm]; simp [r0]
      obtain rfl : E2 = E1 := by rw [h2, Bd.atEnd]; simp [r0]
      clear h1 h2
      clear r0
      obtain ⟨t0, t1⟩ := hst.at2 1 rfl
      go_wp2_with (fail)
      go_at_call 57
      refine (HPU.out _ hst.bel).mono ?_
      rintro e w4 ⟨vs1, ve1, rfl, hst4⟩
      have ST := hst.joined hst4
      simp only [List.cons_append, List.nil_append] at ST
      clear hst hst4 g0 g1 g2 x0 x1 x2 x3 t0 t1
      obtain ⟨a1, c1, hv1⟩ := (ST.ownAt 0 rfl).isLen
      obtain ⟨a2, c2, hv2⟩ := (ST.ownAt 1 rfl).isLen
      rw [List.length_map] at hv1 hv2
      subst hv1 hv2
      replace ST := ST.alloc #[.slice a1 R1.st.length c1, .int .i64 R1.seen, .int .i64 R1.over, .bool R1.done] 110
      obtain ⟨g0, g1, g2⟩ := ST.at3 5 rfl
      obtain ⟨t0, t1⟩ := ST.at2 4 rfl
      obtain ⟨x0, x1, x2, x3⟩ := ST.at4 3 rfl
      go_wp2_with (fail)
      go_at_call 58
      refine (HEN.out _ ST.bel).mono ?_
      rintro e w5 ⟨vs3, ve3, rfl, hst5⟩
      have ST5 := ST.joined hst5
      simp only [List.cons_append, List.nil_append] at ST5
      obtain ⟨a3, c3, hv3⟩ := (ST5.ownAt 0 rfl).isLen
      obtain ⟨a4, c4, hv4⟩ := (ST5.ownAt 1 rfl).isLen
      rw [List.length_map] at hv3 hv4
      subst hv3 hv4
      clear ST hst5 g0 g1 g2 x0 x1 x2 x3 t0 t1
      have ST := ST5.alloc #[.slice a3 R2.st.length c3, .int .i64 R2.seen, .int .i64 R2.over, .bool R2.done] 110
      clear ST5
      obtain ⟨g0, g1, g2⟩ := ST.at3 8 rfl
      obtain ⟨t0, t1⟩ := ST.at2 7 rfl
      obtain ⟨x0, x1, x2, x3⟩ := ST.at4 6 rfl
      obtain ⟨p0, p1, p2, p3⟩ := ST.at4 3 rfl
      have L1 := Lib.hid (ST.encI 4 rfl HWF1.out.1 HWF1.out.2.1)
      have L2 := Lib.hid (ST.encE 5 rfl HWF1.out.2.2.1 HWF1.out.2.2.2)
      go_wp2_with (fail)
      go_at_call 59
      refine (HB1.out _ ST.bel _ _ L1.out L2.out).mono ?_
      rintro e w6 ⟨rfl, hb6⟩
      replace ST := ST.call hb6
      clear hb6 L1 L2 g0 g1 g2 x0 x1 x2 x3 t0 t1 p0 p1 p2 p3
      obtain ⟨g0, g1, g2⟩ := ST.at3 8 rfl
      obtain ⟨t0, t1⟩ := ST.at2 7 rfl
      obtain ⟨x0, x1, x2, x3⟩ := ST.at4 6 rfl
      obtain ⟨p0, p1, p2, p3⟩ := ST.at4 0 rfl
      have L1 := Lib.hid (ST.encI 1 rfl HWF2.out.1 HWF2.out.2.1)
      have L2 := Lib.hid (ST.encE 2 rfl HWF2.out.2.2.1 HWF2.out.2.2.2)
      go_wp2_with (fail)
      go_at_call 59
      refine (HB2.out _ ST.bel _ _ L1.out L2.out).mono ?_
      rintro e w7 ⟨rfl, hb7⟩
      replace ST := ST.call hb7
      go_wp2
      go_ret
      exact ⟨rfl, ST.bel⟩
    · have hdum : True := trivial
      obtain rfl : E1 = RT := by rw [h1, Bd.atTerm]; simp [r0]
      obtain rfl : E2 = E1 := by rw [h2, Bd.atEnd]; simp [r0]
      clear h1 h2
      clear r0
      obtain ⟨t0, t1⟩ := hst.at2 1 rfl
      go_wp2_with (fail)
      go_at_call 57
      refine (HPU.out _ hst.bel).mono ?_
      rintro e w4 ⟨vs1, ve1, rfl, hst4⟩
      have ST := hst.joined hst4
      simp only [List.cons_append, List.nil_append] at ST
      clear hst hst4 g0 g1 g2 x0 x1 x2 x3 t0 t1
      obtain ⟨a1, c1, hv1⟩ := (ST.ownAt 0 rfl).isLen
      obtain ⟨a2, c2, hv2⟩ := (ST.ownAt 1 rfl).isLen
      rw [List.length_map] at hv1 hv2
      subst hv1 hv2
      replace ST := ST.alloc #[.slice a1 R1.st.length c1, .int .i64 R1.seen, .int .i64 R1.over, .bool R1.done] 110
      obtain ⟨g0, g1, g2⟩ := ST.at3 5 rfl
      obtain ⟨t0, t1⟩ := ST.at2 4 rfl
      obtain ⟨x0, x1, x2, x3⟩ := ST.at4 3 rfl
      go_wp2_with (fail)
      go_at_call 58
      refine (HEN.out _ ST.bel).mono ?_
      rintro e w5 ⟨vs3, ve3, rfl, hst5⟩
      have ST5 := ST.joined hst5
      simp only [List.cons_append, List.nil_append] at ST5
      obtain ⟨a3, c3, hv3⟩ := (ST5.ownAt 0 rfl).isLen
      obtain ⟨a4, c4, hv4⟩ := (ST5.ownAt 1 rfl).isLen
      rw [List.length_map] at hv3 hv4
      subst hv3 hv4
      clear ST hst5 g0 g1 g2 x0 x1 x2 x3 t0 t1
      have ST := ST5.alloc #[.slice a3 R2.st.length c3, .int .i64 R2.seen, .int .i64 R2.over, .bool R2.done] 110
      clear ST5
      obtain ⟨g0, g1, g2⟩ := ST.at3 8 rfl
      obtain ⟨t0, t1⟩ := ST.at2 7 rfl
      obtain ⟨x0, x1, x2, x3⟩ := ST.at4 6 rfl
      obtain ⟨p0, p1, p2, p3⟩ := ST.at4 3 rfl
      have L1 := Lib.hid (ST.encI 4 rfl HWF1.out.1 HWF1.out.2.1)
      have L2 := Lib.hid (ST.encE 5 rfl HWF1.out.2.2.1 HWF1.out.2.2.2)
      go_wp2_with (fail)
      go_at_call 59
      refine (HB1.out _ ST.bel _ _ L1.out L2.out).mono ?_
      rintro e w6 ⟨rfl, hb6⟩
      replace ST := ST.call hb6
      clear hb6 L1 L2 g0 g1 g2 x0 x1 x2 x3 t0 t1 p0 p1 p2 p3
      obtain ⟨g0, g1, g2⟩ := ST.at3 8 rfl
      obtain ⟨t0, t1⟩ := ST.at2 7 rfl
      obtain ⟨x0, x1, x2, x3⟩ := ST.at4 6 rfl
      obtain ⟨p0, p1, p2, p3⟩ := ST.at4 0 rfl
      have L1 := Lib.hid (ST.encI 1 rfl HWF2.out.1 HWF2.out.2.1)
      have L2 := Lib.hid (ST.encE 2 rfl HWF2.out.2.2.1 HWF2.out.2.2.2)
      go_wp2_with (fail)
      go_at_call 59
      refine (HB2.out _ ST.bel _ _ L1.out L2.out).mono ?_
      rintro e w7 ⟨rfl, hb7⟩
      replace ST := ST.call hb7
      go_wp2
      go_ret
      exact ⟨rfl, ST.bel⟩
  · have hdum : True := trivial
    rcases hoc with ⟨o1, rfl⟩ | ⟨rfl, rfl, rfl⟩ | ⟨rfl, rfl, rfl⟩
    · have o1b : (ov != 0) = true := by rw [bne_iff_ne]; exact o1
      clear o1
      obtain rfl : E1 = 1 := by rw [h1, Bd.atTerm]; simp [r1]
      obtain rfl : E2 = 15 := by rw [h2, Bd.atEnd]; simp
      clear h1 h2
      obtain ⟨t0, t1⟩ := hst.at2 1 rfl
      go_wp2_with (fail)
      go_at_call 57
      refine (HPU.out _ hst.bel).mono ?_
      rintro e w4 ⟨vs1, ve1, rfl, hst4⟩
      have ST := hst.joined hst4
      simp only [List.cons_append, List.nil_append] at ST
      clear hst hst4 g0 g1 g2 x0 x1 x2 x3 t0 t1
      obtain ⟨a1, c1, hv1⟩ := (ST.ownAt 0 rfl).isLen
      obtain ⟨a2, c2, hv2⟩ := (ST.ownAt 1 rfl).isLen
      rw [List.length_map] at hv1 hv2
      subst hv1 hv2
      replace ST := ST.alloc #[.slice a1 R1.st.length c1, .int .i64 R1.seen, .int .i64 R1.over, .bool R1.done] 110
      obtain ⟨g0, g1, g2⟩ := ST.at3 5 rfl
      obtain ⟨t0, t1⟩ := ST.at2 4 rfl
      obtain ⟨x0, x1, x2, x3⟩ := ST.at4 3 rfl
      go_wp2_with (fail)
      go_at_call 58
      refine (HEN.out _ ST.bel).mono ?_
      rintro e w5 ⟨vs3, ve3, rfl, hst5⟩
      have ST5 := ST.joined hst5
      simp only [List.cons_append, List.nil_append] at ST5
      obtain ⟨a3, c3, hv3⟩ := (ST5.ownAt 0 rfl).isLen
      obtain ⟨a4, c4, hv4⟩ := (ST5.ownAt 1 rfl).isLen
      rw [List.length_map] at hv3 hv4
      subst hv3 hv4
      clear ST hst5 g0 g1 g2 x0 x1 x2 x3 t0 t1
      have ST := ST5.alloc #[.slice a3 R2.st.length c3, .int .i64 R2.seen, .int .i64 R2.over, .bool R2.done] 110
      clear ST5
      obtain ⟨g0, g1, g2⟩ := ST.at3 8 rfl
      obtain ⟨t0, t1⟩ := ST.at2 7 rfl
      obtain ⟨x0, x1, x2, x3⟩ := ST.at4 6 rfl
      obtain ⟨p0, p1, p2, p3⟩ := ST.at4 3 rfl
      have L1 := Lib.hid (ST.encI 4 rfl HWF1.out.1 HWF1.out.2.1)
      have L2 := Lib.hid (ST.encE 5 rfl HWF1.out.2.2.1 HWF1.out.2.2.2)
      go_wp2_with (fail)
      go_at_call 59
      refine (HB1.out _ ST.bel _ _ L1.out L2.out).mono ?_
      rintro e w6 ⟨rfl, hb6⟩
      replace ST := ST.call hb6
      clear hb6 L1 L2 g0 g1 g2 x0 x1 x2 x3 t0 t1 p0 p1 p2 p3
      obtain ⟨g0, g1, g2⟩ := ST.at3 8 rfl
      obtain ⟨t0, t1⟩ := ST.at2 7 rfl
      obtain ⟨x0, x1, x2, x3⟩ := ST.at4 6 rfl
      obtain ⟨p0, p1, p2, p3⟩ := ST.at4 0 rfl
      have L1 := Lib.hid (ST.encI 1 rfl HWF2.out.1 HWF2.out.2.1)
      have L2 := Lib.hid (ST.encE 2 rfl HWF2.out.2.2.1 HWF2.out.2.2.2)
      go_wp2_with (fail)
      go_at_call 59
      refine (HB2.out _ ST.bel _ _ L1.out L2.out).mono ?_
      rintro e w7 ⟨rfl, hb7⟩
      replace ST := ST.call hb7
      go_wp2
      go_ret
      exact ⟨rfl, ST.bel⟩
    · have hdum : True := trivial
      obtain rfl : E1 = 1 := by rw [h1, Bd.atTerm]; simp [r1]
      obtain rfl : E2 = 15 := by rw [h2, Bd.atEnd]; simp
      clear h1 h2
      obtain ⟨t0, t1⟩ := hst.at2 1 rfl
      go_wp2_with (fail)
      go_at_call 57
      refine (HPU.out _ hst.bel).mono ?_
      rintro e w4 ⟨vs1, ve1, rfl, hst4⟩
      have ST := hst.joined hst4
      simp only [List.cons_append, List.nil_append] at ST
      clear hst hst4 g0 g1 g2 x0 x1 x2 x3 t0 t1
      obtain ⟨a1, c1, hv1⟩ := (ST.ownAt 0 rfl).isLen
      obtain ⟨a2, c2, hv2⟩ := (ST.ownAt 1 rfl).isLen
      rw [List.length_map] at hv1 hv2
      subst hv1 hv2
      replace ST := ST.alloc #[.slice a1 R1.st.length c1, .int .i64 R1.seen, .int .i64 R1.over, .bool R1.done] 110
      obtain ⟨g0, g1, g2⟩ := ST.at3 5 rfl
      obtain ⟨t0, t1⟩ := ST.at2 4 rfl
      obtain ⟨x0, x1, x2, x3⟩ := ST.at4 3 rfl
      go_wp2_with (fail)
      go_at_call 58
      refine (HEN.out _ ST.bel).mono ?_
      rintro e w5 ⟨vs3, ve3, rfl, hst5⟩
      have ST5 := ST.joined hst5
      simp only [List.cons_append, List.nil_append] at ST5
      obtain ⟨a3, c3, hv3⟩ := (ST5.ownAt 0 rfl).isLen
      obtain ⟨a4, c4, hv4⟩ := (ST5.ownAt 1 rfl).isLen
      rw [List.length_map] at hv3 hv4
      subst hv3 hv4
      clear ST hst5 g0 g1 g2 x0 x1 x2 x3 t0 t1
      have ST := ST5.alloc #[.slice a3 R2.st.length c3, .int .i64 R2.seen, .int .i64 R2.over, .bool R2.done] 110
      clear ST5
      obtain ⟨g0, g1, g2⟩ := ST.at3 8 rfl
      obtain ⟨t0, t1⟩ := ST.at2 7 rfl
      obtain ⟨x0, x1, x2, x3⟩ := ST.at4 6 rfl
      obtain ⟨p0, p1, p2, p3⟩ := ST.at4 3 rfl
      have L1 := Lib.hid (ST.encI 4 rfl HWF1.out.1 HWF1.out.2.1)
      have L2 := Lib.hid (ST.encE 5 rfl HWF1.out.2.2.1 HWF1.out.2.2.2)
      go_wp2_with (fail)
      go_at_call 59
      refine (HB1.out _ ST.bel _ _ L1.out L2.out).mono ?_
      rintro e w6 ⟨rfl, hb6⟩
      replace ST := ST.call hb6
      clear hb6 L1 L2 g0 g1 g2 x0 x1 x2 x3 t0 t1 p0 p1 p2 p3
      obtain ⟨g0, g1, g2⟩ := ST.at3 8 rfl
      obtain ⟨t0, t1⟩ := ST.at2 7 rfl
      obtain ⟨x0, x1, x2, x3⟩ := ST.at4 6 rfl
      obtain ⟨p0, p1, p2, p3⟩ := ST.at4 0 rfl
      have L1 := Lib.hid (ST.encI 1 rfl HWF2.out.1 HWF2.out.2.1)
      have L2 := Lib.hid (ST.encE 2 rfl HWF2.out.2.2.1 HWF2.out.2.2.2)
      go_wp2_with (fail)
      go_at_call 59
      refine (HB2.out _ ST.bel _ _ L1.out L2.out).mono ?_
      rintro e w7 ⟨rfl, hb7⟩
      replace ST := ST.call hb7
      go_wp2
      go_ret
      exact ⟨rfl, ST.bel⟩
    · have hdum : True := trivial
      obtain rfl : E1 = 1 := by rw [h1, Bd.atTerm]; simp [r1]
      obtain rfl : E2 = 0 := by rw [h2, Bd.atEnd]; simp
      clear h1 h2
      obtain ⟨t0, t1⟩ := hst.at2 1 rfl
      go_wp2_with (fail)
      go_at_call 57
      refine (HPU.out _ hst.bel).mono ?_
      rintro e w4 ⟨vs1, ve1, rfl, hst4⟩
      have ST := hst.joined hst4
      simp only [List.cons_append, List.nil_append] at ST
      clear hst hst4 g0 g1 g2 x0 x1 x2 x3 t0 t1
      obtain ⟨a1, c1, hv1⟩ := (ST.ownAt 0 rfl).isLen
      obtain ⟨a2, c2, hv2⟩ := (ST.ownAt 1 rfl).isLen
      rw [List.length_map] at hv1 hv2
      subst hv1 hv2
      replace ST := ST.alloc #[.slice a1 R1.st.length c1, .int .i64 R1.seen, .int .i64 R1.over, .bool R1.done] 110
      obtain ⟨g0, g1, g2⟩ := ST.at3 5 rfl
      obtain ⟨t0, t1⟩ := ST.at2 4 rfl
      obtain ⟨x0, x1, x2, x3⟩ := ST.at4 3 rfl
      go_wp2_with (fail)
      go_at_call 58
      refine (HEN.out _ ST.bel).mono ?_
      rintro e w5 ⟨vs3, ve3, rfl, hst5⟩
      have ST5 := ST.joined hst5
      simp only [List.cons_append, List.nil_append] at ST5
      obtain ⟨a3, c3, hv3⟩ := (ST5.ownAt 0 rfl).isLen
      obtain ⟨a4, c4, hv4⟩ := (ST5.ownAt 1 rfl).isLen
      rw [List.length_map] at hv3 hv4
      subst hv3 hv4
      clear ST hst5 g0 g1 g2 x0 x1 x2 x3 t0 t1
      have ST := ST5.alloc #[.slice a3 R2.st.length c3, .int .i64 R2.seen, .int .i64 R2.over, .bool R2.done] 110
      clear ST5
      obtain ⟨g0, g1, g2⟩ := ST.at3 8 rfl
      obtain ⟨t0, t1⟩ := ST.at2 7 rfl
      obtain ⟨x0, x1, x2, x3⟩ := ST.at4 6 rfl
      obtain ⟨p0, p1, p2, p3⟩ := ST.at4 3 rfl
      have L1 := Lib.hid (ST.encI 4 rfl HWF1.out.1 HWF1.out.2.1)
      have L2 := Lib.hid (ST.encE 5 rfl HWF1.out.2.2.1 HWF1.out.2.2.2)
      go_wp2_with (fail)
      go_at_call 59
      refine (HB1.out _ ST.bel _ _ L1.out L2.out).mono ?_
      rintro e w6 ⟨rfl, hb6⟩
      replace ST := ST.call hb6
      clear hb6 L1 L2 g0 g1 g2 x0 x1 x2 x3 t0 t1 p0 p1 p2 p3
      obtain ⟨g0, g1, g2⟩ := ST.at3 8 rfl
      obtain ⟨t0, t1⟩ := ST.at2 7 rfl
      obtain ⟨x0, x1, x2, x3⟩ := ST.at4 6 rfl
      obtain ⟨p0, p1, p2, p3⟩ := ST.at4 0 rfl
      have L1 := Lib.hid (ST.encI 1 rfl HWF2.out.1 HWF2.out.2.1)
      have L2 := Lib.hid (ST.encE 2 rfl HWF2.out.2.2.1 HWF2.out.2.2.2)
      go_wp2_with (fail)
      go_at_call 59
      refine (HB2.out _ ST.bel _ _ L1.out L2.out).mono ?_
      rintro e w7 ⟨rfl, hb7⟩
      replace ST := ST.call hb7
      go_wp2
      go_ret
      exact ⟨rfl, ST.bel⟩
  · have hdum : True := trivial
    rcases hoc with ⟨o1, rfl⟩ | ⟨rfl, rfl, rfl⟩ | ⟨rfl, rfl, rfl⟩
    · have o1b : (ov != 0) = true := by rw [bne_iff_ne]; exact o1
      clear o1
      obtain rfl : E1 = 1 := by rw [h1, Bd.atTerm]; simp [r2]
      obtain rfl : E2 = 15 := by rw [h2, Bd.atEnd]; simp
      clear h1 h2
      obtain ⟨t0, t1⟩ := hst.at2 1 rfl
      go_wp2_with (fail)
      go_at_call 57
      refine (HPU.out _ hst.bel).mono ?_
      rintro e w4 ⟨vs1, ve1, rfl, hst4⟩
      have ST := hst.joined hst4
      simp only [List.cons_append, List.nil_append] at ST
      clear hst hst4 g0 g1 g2 x0 x1 x2 x3 t0 t1
      obtain ⟨a1, c1, hv1⟩ := (ST.ownAt 0 rfl).isLen
      obtain ⟨a2, c2, hv2⟩ := (ST.ownAt 1 rfl).isLen
      rw [List.length_map] at hv1 hv2
      subst hv1 hv2
      replace ST := ST.alloc #[.slice a1 R1.st.length c1, .int .i64 R1.seen, .int .i64 R1.over, .bool R1.done] 110
      obtain ⟨g0, g1, g2⟩ := ST.at3 5 rfl
      obtain ⟨t0, t1⟩ := ST.at2 4 rfl
      obtain ⟨x0, x1, x2, x3⟩ := ST.at4 3 rfl
      go_wp2_with (fail)
      go_at_call 58
      refine (HEN.out _ ST.bel).mono ?_
      rintro e w5 ⟨vs3, ve3, rfl, hst5⟩
      have ST5 := ST.joined hst5
      simp only [List.cons_append, List.nil_append] at ST5
      obtain ⟨a3, c3, hv3⟩ := (ST5.ownAt 0 rfl).isLen
      obtain ⟨a4, c4, hv4⟩ := (ST5.ownAt 1 rfl).isLen
      rw [List.length_map] at hv3 hv4
      subst hv3 hv4
      clear ST hst5 g0 g1 g2 x0 x1 x2 x3 t0 t1
      have ST := ST5.alloc #[.slice a3 R2.st.length c3, .int .i64 R2.seen, .int .i64 R2.over, .bool R2.done] 110
      clear ST5
      obtain ⟨g0, g1, g2⟩ := ST.at3 8 rfl
      obtain ⟨t0, t1⟩ := ST.at2 7 rfl
      obtain ⟨x0, x1, x2, x3⟩ := ST.at4 6 rfl
      obtain ⟨p0, p1, p2, p3⟩ := ST.at4 3 rfl
      have L1 := Lib.hid (ST.encI 4 rfl HWF1.out.1 HWF1.out.2.1)
      have L2 := Lib.hid (ST.encE 5 rfl HWF1.out.2.2.1 HWF1.out.2.2.2)
      go_wp2_with (fail)
      go_at_call 59
      refine (HB1.out _ ST.bel _ _ L1.out L2.out).mono ?_
      rintro e w6 ⟨rfl, hb6⟩
      replace ST := ST.call hb6
      clear hb6 L1 L2 g0 g1 g2 x0 x1 x2 x3 t0 t1 p0 p1 p2 p3
      obtain ⟨g0, g1, g2⟩ := ST.at3 8 rfl
      obtain ⟨t0, t1⟩ := ST.at2 7 rfl
      obtain ⟨x0, x1, x2, x3⟩ := ST.at4 6 rfl
      obtain ⟨p0, p1, p2, p3⟩ := ST.at4 0 rfl
      have L1 := Lib.hid (ST.encI 1 rfl HWF2.out.1 HWF2.out.2.1)
      have L2 := Lib.hid (ST.encE 2 rfl HWF2.out.2.2.1 HWF2.out.2.2.2)
      go_wp2_with (fail)
      go_at_call 59
      refine (HB2.out _ ST.bel _ _ L1.out L2.out).mono ?_
      rintro e w7 ⟨rfl, hb7⟩
      replace ST := ST.call hb7
      go_wp2
      go_ret
      exact ⟨rfl, ST.bel⟩
    · have hdum : True := trivial
      obtain rfl : E1 = 1 := by rw [h1, Bd.atTerm]; simp [r2]
      obtain rfl : E2 = 15 := by rw [h2, Bd.atEnd]; simp
      clear h1 h2
      obtain ⟨t0, t1⟩ := hst.at2 1 rfl
      go_wp2_with (fail)
      go_at_call 57
      refine (HPU.out _ hst.bel).mono ?_
      rintro e w4 ⟨vs1, ve1, rfl, hst4⟩
      have ST := hst.joined hst4
      simp only [List.cons_append, List.nil_append] at ST
      clear hst hst4 g0 g1 g2 x0 x1 x2 x3 t0 t1
      obtain ⟨a1, c1, hv1⟩ := (ST.ownAt 0 rfl).isLen
      obtain ⟨a2, c2, hv2⟩ := (ST.ownAt 1 rfl).isLen
      rw [List.length_map] at hv1 hv2
      subst hv1 hv2
      replace ST := ST.alloc #[.slice a1 R1.st.length c1, .int .i64 R1.seen, .int .i64 R1.over, .bool R1.done] 110
      obtain ⟨g0, g1, g2⟩ := ST.at3 5 rfl
      obtain ⟨t0, t1⟩ := ST.at2 4 rfl
      obtain ⟨x0, x1, x2, x3⟩ := ST.at4 3 rfl
      go_wp2_with (fail)
      go_at_call 58
      refine (HEN.out _ ST.bel).mono ?_
      rintro e w5 ⟨vs3, ve3, rfl, hst5⟩
      have ST5 := ST.joined hst5
      simp only [List.cons_append, List.nil_append] at ST5
      obtain ⟨a3, c3, hv3⟩ := (ST5.ownAt 0 rfl).isLen
      obtain ⟨a4, c4, hv4⟩ := (ST5.ownAt 1 rfl).isLen
      rw [List.length_map] at hv3 hv4
      subst hv3 hv4
      clear ST hst5 g0 g1 g2 x0 x1 x2 x3 t0 t1
      have ST := ST5.alloc #[.slice a3 R2.st.length c3, .int .i64 R2.seen, .int .i64 R2.over, .bool R2.done] 110
      clear ST5
      obtain ⟨g0, g1, g2⟩ := ST.at3 8 rfl
      obtain ⟨t0, t1⟩ := ST.at2 7 rfl
      obtain ⟨x0, x1, x2, x3⟩ := ST.at4 6 rfl
      obtain ⟨p0, p1, p2, p3⟩ := ST.at4 3 rfl
      have L1 := Lib.hid (ST.encI 4 rfl HWF1.out.1 HWF1.out.2.1)
      have L2 := Lib.hid (ST.encE 5 rfl HWF1.out.2.2.1 HWF1.out.2.2.2)
      go_wp2_with (fail)
      go_at_call 59
      refine (HB1.out _ ST.bel _ _ L1.out L2.out).mono ?_
      rintro e w6 ⟨rfl, hb6⟩
      replace ST := ST.call hb6
      clear hb6 L1 L2 g0 g1 g2 x0 x1 x2 x3 t0 t1 p0 p1 p2 p3
      obtain ⟨g0, g1, g2⟩ := ST.at3 8 rfl
      obtain ⟨t0, t1⟩ := ST.at2 7 rfl
      obtain ⟨x0, x1, x2, x3⟩ := ST.at4 6 rfl
      obtain ⟨p0, p1, p2, p3⟩ := ST.at4 0 rfl
      have L1 := Lib.hid (ST.encI 1 rfl HWF2.out.1 HWF2.out.2.1)
      have L2 := Lib.hid (ST.encE 2 rfl HWF2.out.2.2.1 HWF2.out.2.2.2)
      go_wp2_with (fail)
      go_at_call 59
      refine (HB2.out _ ST.bel _ _ L1.out L2.out).mono ?_
      rintro e w7 ⟨rfl, hb7⟩
      replace ST := ST.call hb7
      go_wp2
      go_ret
      exact ⟨rfl, ST.bel⟩
    · have hdum : True := trivial
      obtain rfl : E1 = 1 := by rw [h1, Bd.atTerm]; simp [r2]
      obtain rfl : E2 = 0 := by rw [h2, Bd.atEnd]; simp
      clear h1 h2
      obtain ⟨t0, t1⟩ := hst.at2 1 rfl
      go_wp2_with (fail)
      go_at_call 57
      refine (HPU.out _ hst.bel).mono ?_
      rintro e w4 ⟨vs1, ve1, rfl, hst4⟩
      have ST := hst.joined hst4
      simp only [List.cons_append, List.nil_append] at ST
      clear hst hst4 g0 g1 g2 x0 x1 x2 x3 t0 t1
      obtain ⟨a1, c1, hv1⟩ := (ST.ownAt 0 rfl).isLen
      obtain ⟨a2, c2, hv2⟩ := (ST.ownAt 1 rfl).isLen
      rw [List.length_map] at hv1 hv2
      subst hv1 hv2
      replace ST := ST.alloc #[.slice a1 R1.st.length c1, .int .i64 R1.seen, .int .i64 R1.over, .bool R1.done] 110
      obtain ⟨g0, g1, g2⟩ := ST.at3 5 rfl
      obtain ⟨t0, t1⟩ := ST.at2 4 rfl
      obtain ⟨x0, x1, x2, x3⟩ := ST.at4 3 rfl
      go_wp2_with (fail)
      go_at_call 58
      refine (HEN.out _ ST.bel).mono ?_
      rintro e w5 ⟨vs3, ve3, rfl, hst5⟩
      have ST5 := ST.joined hst5
      simp only [List.cons_append, List.nil_append] at ST5
      obtain ⟨a3, c3, hv3⟩ := (ST5.ownAt 0 rfl).isLen
      obtain ⟨a4, c4, hv4⟩ := (ST5.ownAt 1 rfl).isLen
      rw [List.length_map] at hv3 hv4
      subst hv3 hv4
      clear ST hst5 g0 g1 g2 x0 x1 x2 x3 t0 t1
      have ST := ST5.alloc #[.slice a3 R2.st.length c3, .int .i64 R2.seen, .int .i64 R2.over, .bool R2.done] 110
      clear ST5
      obtain ⟨g0, g1, g2⟩ := ST.at3 8 rfl
      obtain ⟨t0, t1⟩ := ST.at2 7 rfl
      obtain ⟨x0, x1, x2, x3⟩ := ST.at4 6 rfl
      obtain ⟨p0, p1, p2, p3⟩ := ST.at4 3 rfl
      have L1 := Lib.hid (ST.encI 4 rfl HWF1.out.1 HWF1.out.2.1)
      have L2 := Lib.hid (ST.encE 5 rfl HWF1.out.2.2.1 HWF1.out.2.2.2)
      go_wp2_with (fail)
      go_at_call 59
      refine (HB1.out _ ST.bel _ _ L1.out L2.out).mono ?_
      rintro e w6 ⟨rfl, hb6⟩
      replace ST := ST.call hb6
      clear hb6 L1 L2 g0 g1 g2 x0 x1 x2 x3 t0 t1 p0 p1 p2 p3
      obtain ⟨g0, g1, g2⟩ := ST.at3 8 rfl
      obtain ⟨t0, t1⟩ := ST.at2 7 rfl
      obtain ⟨x0, x1, x2, x3⟩ := ST.at4 6 rfl
      obtain ⟨p0, p1, p2, p3⟩ := ST.at4 0 rfl
      have L1 := Lib.hid (ST.encI 1 rfl HWF2.out.1 HWF2.out.2.1)
      have L2 := Lib.hid (ST.encE 2 rfl HWF2.out.2.2.1 HWF2.out.2.2.2)
      go_wp2_with (fail)
      go_at_call 59
      refine (HB2.out _ ST.bel _ _ L1.out L2.out).mono ?_
      rintro e w7 ⟨rfl, hb7⟩
      replace ST := ST.call hb7
      go_wp2
      go_ret
      exact ⟨rfl, ST.bel⟩
  · have r3 : ¬ (term < 0 ∨ t ≤ term) := by omega
    rcases hoc with ⟨o1, rfl⟩ | ⟨rfl, rfl, rfl⟩ | ⟨rfl, rfl, rfl⟩
    · have o1b : (ov != 0) = true := by rw [bne_iff_ne]; exact o1
      clear o1
      obtain rfl : E1 = 15 := by rw [h1, Bd.atTerm]; simp [r3]
      obtain rfl : E2 = 15 := by rw [h2, Bd.atEnd]; simp
      clear h1 h2
      clear r3
      obtain ⟨t0, t1⟩ := hst.at2 1 rfl
      go_wp2_with (fail)
      go_at_call 57
      refine (HPU.out _ hst.bel).mono ?_
      rintro e w4 ⟨vs1, ve1, rfl, hst4⟩
      have ST := hst.joined hst4
      simp only [List.cons_append, List.nil_append] at ST
      clear hst hst4 g0 g1 g2 x0 x1 x2 x3 t0 t1
      obtain ⟨a1, c1, hv1⟩ := (ST.ownAt 0 rfl).isLen
      obtain ⟨a2, c2, hv2⟩ := (ST.ownAt 1 rfl).isLen
      rw [List.length_map] at hv1 hv2
      subst hv1 hv2
      replace ST := ST.alloc #[.slice a1 R1.st.length c1, .int .i64 R1.seen, .int .i64 R1.over, .bool R1.done] 110
      obtain ⟨g0, g1, g2⟩ := ST.at3 5 rfl
      obtain ⟨t0, t1⟩ := ST.at2 4 rfl
      obtain ⟨x0, x1, x2, x3⟩ := ST.at4 3 rfl
      go_wp2_with (fail)
      go_at_call 58
      refine (HEN.out _ ST.bel).mono ?_
      rintro e w5 ⟨vs3, ve3, rfl, hst5⟩
      have ST5 := ST.joined hst5
      simp only [List.cons_append, List.nil_append] at ST5
      obtain ⟨a3, c3, hv3⟩ := (ST5.ownAt 0 rfl).isLen
      obtain ⟨a4, c4, hv4⟩ := (ST5.ownAt 1 rfl).isLen
      rw [List.length_map] at hv3 hv4
      subst hv3 hv4
      clear ST hst5 g0 g1 g2 x0 x1 x2 x3 t0 t1
      have ST := ST5.alloc #[.slice a3 R2.st.length c3, .int .i64 R2.seen, .int .i64 R2.over, .bool R2.done] 110
      clear ST5
      obtain ⟨g0, g1, g2⟩ := ST.at3 8 rfl
      obtain ⟨t0, t1⟩ := ST.at2 7 rfl
      obtain ⟨x0, x1, x2, x3⟩ := ST.at4 6 rfl
      obtain ⟨p0, p1, p2, p3⟩ := ST.at4 3 rfl
      have L1 := Lib.hid (ST.encI 4 rfl HWF1.out.1 HWF1.out.2.1)
      have L2 := Lib.hid (ST.encE 5 rfl HWF1.out.2.2.1 HWF1.out.2.2.2)
      go_wp2_with (fail)
      go_at_call 59
      refine (HB1.out _ ST.bel _ _ L1.out L2.out).mono ?_
      rintro e w6 ⟨rfl, hb6⟩
      replace ST := ST.call hb6
      clear hb6 L1 L2 g0 g1 g2 x0 x1 x2 x3 t0 t1 p0 p1 p2 p3
      obtain ⟨g0, g1, g2⟩ := ST.at3 8 rfl
      obtain ⟨t0, t1⟩ := ST.at2 7 rfl
      obtain ⟨x0, x1, x2, x3⟩ := ST.at4 6 rfl
      obtain ⟨p0, p1, p2, p3⟩ := ST.at4 0 rfl
      have L1 := Lib.hid (ST.encI 1 rfl HWF2.out.1 HWF2.out.2.1)
      have L2 := Lib.hid (ST.encE 2 rfl HWF2.out.2.2.1 HWF2.out.2.2.2)
      go_wp2_with (fail)
      go_at_call 59
      refine (HB2.out _ ST.bel _ _ L1.out L2.out).mono ?_
      rintro e w7 ⟨rfl, hb7⟩
      replace ST := ST.call hb7
      go_wp2
      go_ret
      exact ⟨rfl, ST.bel⟩
    · have hdum : True := trivial
      obtain rfl : E1 = 15 := by rw [h1, Bd.atTerm]; simp [r3]
      obtain rfl : E2 = 15 := by rw [h2, Bd.atEnd]; simp
      clear h1 h2
      clear r3
      obtain ⟨t0, t1⟩ := hst.at2 1 rfl
      go_wp2_with (fail)
      go_at_call 57
      refine (HPU.out _ hst.bel).mono ?_
      rintro e w4 ⟨vs1, ve1, rfl, hst4⟩
      have ST := hst.joined hst4
      simp only [List.cons_append, List.nil_append] at ST
      clear hst hst4 g0 g1 g2 x0 x1 x2 x3 t0 t1
      obtain ⟨a1, c1, hv1⟩ := (ST.ownAt 0 rfl).isLen
      obtain ⟨a2, c2, hv2⟩ := (ST.ownAt 1 rfl).isLen
      rw [List.length_map] at hv1 hv2
      subst hv1 hv2
      replace ST := ST.alloc #[.slice a1 R1.st.length c1, .int .i64 R1.seen, .int .i64 R1.over, .bool R1.done] 110
      obtain ⟨g0, g1, g2⟩ := ST.at3 5 rfl
      obtain ⟨t0, t1⟩ := ST.at2 4 rfl
      obtain ⟨x0, x1, x2, x3⟩ := ST.at4 3 rfl
      go_wp2_with (fail)
      go_at_call 58
      refine (HEN.out _ ST.bel).mono ?_
      rintro e w5 ⟨vs3, ve3, rfl, hst5⟩
      have ST5 := ST.joined hst5
      simp only [List.cons_append, List.nil_append] at ST5
      obtain ⟨a3, c3, hv3⟩ := (ST5.ownAt 0 rfl).isLen
      obtain ⟨a4, c4, hv4⟩ := (ST5.ownAt 1 rfl).isLen
      rw [List.length_map] at hv3 hv4
      subst hv3 hv4
      clear ST hst5 g0 g1 g2 x0 x1 x2 x3 t0 t1
      have ST := ST5.alloc #[.slice a3 R2.st.length c3, .int .i64 R2.seen, .int .i64 R2.over, .bool R2.done] 110
      clear ST5
      obtain ⟨g0, g1, g2⟩ := ST.at3 8 rfl
      obtain ⟨t0, t1⟩ := ST.at2 7 rfl
      obtain ⟨x0, x1, x2, x3⟩ := ST.at4 6 rfl
      obtain ⟨p0, p1, p2, p3⟩ := ST.at4 3 rfl
      have L1 := Lib.hid (ST.encI 4 rfl HWF1.out.1 HWF1.out.2.1)
      have L2 := Lib.hid (ST.encE 5 rfl HWF1.out.2.2.1 HWF1.out.2.2.2)
      go_wp2_with (fail)
      go_at_call 59
      refine (HB1.out _ ST.bel _ _ L1.out L2.out).mono ?_
      rintro e w6 ⟨rfl, hb6⟩
      replace ST := ST.call hb6
      clear hb6 L1 L2 g0 g1 g2 x0 x1 x2 x3 t0 t1 p0 p1 p2 p3
      obtain ⟨g0, g1, g2⟩ := ST.at3 8 rfl
      obtain ⟨t0, t1⟩ := ST.at2 7 rfl
      obtain ⟨x0, x1, x2, x3⟩ := ST.at4 6 rfl
      obtain ⟨p0, p1, p2, p3⟩ := ST.at4 0 rfl
      have L1 := Lib.hid (ST.encI 1 rfl HWF2.out.1 HWF2.out.2.1)
      have L2 := Lib.hid (ST.encE 2 rfl HWF2.out.2.2.1 HWF2.out.2.2.2)
      go_wp2_with (fail)
      go_at_call 59
      refine (HB2.out _ ST.bel _ _ L1.out L2.out).mono ?_
      rintro e w7 ⟨rfl, hb7⟩
      replace ST := ST.call hb7
      go_wp2
      go_ret
      exact ⟨rfl, ST.bel⟩
    · have hdum : True := trivial
      obtain rfl : E1 = 0 := by rw [h1, Bd.atTerm]; simp [r3]
      obtain rfl : E2 = 0 := by rw [h2, Bd.atEnd]; simp
      clear h1 h2
      clear r3
      obtain ⟨t0, t1⟩ := hst.at2 1 rfl
      go_wp2_with (fail)
      go_at_call 57
      refine (HPU.out _ hst.bel).mono ?_
      rintro e w4 ⟨vs1, ve1, rfl, hst4⟩
      have ST := hst.joined hst4
      simp only [List.cons_append, List.nil_append] at ST
      clear hst hst4 g0 g1 g2 x0 x1 x2 x3 t0 t1
      obtain ⟨a1, c1, hv1⟩ := (ST.ownAt 0 rfl).isLen
      obtain ⟨a2, c2, hv2⟩ := (ST.ownAt 1 rfl).isLen
      rw [List.length_map] at hv1 hv2
      subst hv1 hv2
      replace ST := ST.alloc #[.slice a1 R1.st.length c1, .int .i64 R1.seen, .int .i64 R1.over, .bool R1.done] 110
      obtain ⟨g0, g1, g2⟩ := ST.at3 5 rfl
      obtain ⟨t0, t1⟩ := ST.at2 4 rfl
      obtain ⟨x0, x1, x2, x3⟩ := ST.at4 3 rfl
      go_wp2_with (fail)
      go_at_call 58
      refine (HEN.out _ ST.bel).mono ?_
      rintro e w5 ⟨vs3, ve3, rfl, hst5⟩
      have ST5 := ST.joined hst5
      simp only [List.cons_append, List.nil_append] at ST5
      obtain ⟨a3, c3, hv3⟩ := (ST5.ownAt 0 rfl).isLen
      obtain ⟨a4, c4, hv4⟩ := (ST5.ownAt 1 rfl).isLen
      rw [List.length_map] at hv3 hv4
      subst hv3 hv4
      clear ST hst5 g0 g1 g2 x0 x1 x2 x3 t0 t1
      have ST := ST5.alloc #[.slice a3 R2.st.length c3, .int .i64 R2.seen, .int .i64 R2.over, .bool R2.done] 110
      clear ST5
      obtain ⟨g0, g1, g2⟩ := ST.at3 8 rfl
      obtain ⟨t0, t1⟩ := ST.at2 7 rfl
      obtain ⟨x0, x1, x2, x3⟩ := ST.at4 6 rfl
      obtain ⟨p0, p1, p2, p3⟩ := ST.at4 3 rfl
      have L1 := Lib.hid (ST.encI 4 rfl HWF1.out.1 HWF1.out.2.1)
      have L2 := Lib.hid (ST.encE 5 rfl HWF1.out.2.2.1 HWF1.out.2.2.2)
      go_wp2_with (fail)
      go_at_call 59
      refine (HB1.out _ ST.bel _ _ L1.out L2.out).mono ?_
      rintro e w6 ⟨rfl, hb6⟩
      replace ST := ST.call hb6
      clear hb6 L1 L2 g0 g1 g2 x0 x1 x2 x3 t0 t1 p0 p1 p2 p3
      obtain ⟨g0, g1, g2⟩ := ST.at3 8 rfl
      obtain ⟨t0, t1⟩ := ST.at2 7 rfl
      obtain ⟨x0, x1, x2, x3⟩ := ST.at4 6 rfl
      obtain ⟨p0, p1, p2, p3⟩ := ST.at4 0 rfl
      have L1 := Lib.hid (ST.encI 1 rfl HWF2.out.1 HWF2.out.2.1)
      have L2 := Lib.hid (ST.encE 2 rfl HWF2.out.2.2.1 HWF2.out.2.2.2)
      go_wp2_with (fail)
      go_at_call 59
      refine (HB2.out _ ST.bel _ _ L1.out L2.out).mono ?_
      rintro e w7 ⟨rfl, hb7⟩
      replace ST := ST.call hb7
      go_wp2
      go_ret
      exact ⟨rfl, ST.bel⟩

def Enc.stk : Enc (List Int × Int × Int × Bool) := Enc.prod ((Enc.int .i64).sl 8) (Enc.prod (Enc.int .i64) (Enc.prod (Enc.int .i64) Enc.bool))
theorem stk_cells {F : Nat → Prop} {w : World} {cs : Array Value} {g : List Int × Int × Int × Bool} (h : Enc.stk.R F w cs.toList g) :
    ∃ vs, cs = #[vs, .int .i64 g.2.1, .int .i64 g.2.2.1, .bool g.2.2.2] ∧ ((Enc.int .i64).sl 8).R F w [vs] g.1 := by
  obtain ⟨c1, c2, e1, h1, c3, c4, e2, ⟨rfl, _⟩, c5, c6, e3, ⟨rfl, _⟩, h6⟩ := h
  have h4 := h1
  obtain ⟨ao, b, off, cap, rfl, _⟩ := h4
  subst e3 e2
  have h7 : c6 = [.bool g.2.2.2] := h6
  subst h7
  exact ⟨_, Array.toList_inj.1 e1, h1⟩
theorem opens_stk : Opens Try.prog 110 Enc.stk := by
  have hp : Opens Try.prog 35 ((Enc.int .i64).sl 8) := Opens.sl Try.underlying35 (by kernel_rfl) (by decide) (by kernel_rfl) (Opens.int Try.underlying3)
  show Opens _ _ (Enc.prod ((Enc.int .i64).sl 8) (Enc.prod (Enc.int .i64) (Enc.prod (Enc.int .i64) Enc.bool)))
  exact Opens.struct Try.underlying110 (by kernel_rfl) (OpensFrom.cons rfl rfl (by kernel_rfl) hp (OpensFrom.cons rfl rfl (by kernel_rfl) (Opens.int Try.underlying3) (OpensFrom.cons rfl rfl (by kernel_rfl) (Opens.int Try.underlying22) (OpensFrom.last rfl rfl (by kernel_rfl) (Opens.bool Try.underlying4)))))
theorem buildSays_law (c0 c1 c2 : Array Value) (g : Int × Int × List (Int × List (Int × Int))) (tb : List (List (Int × Int)) × List (List Int)) (s : List Int × Int × Int × Bool) (term : Int) (w : World) (h0 : Enc.gram.R (fun b => b < w.heap.size) w c0.toList g) (h1 : Enc.table.R (fun b => b < w.heap.size) w c1.toList tb) (h2 : Enc.stk.R (fun b => b < w.heap.size) w c2.toList s) :
    Calls Try.prog 11 #[.agg c0, .agg c1, .agg c2, .int .i64 term] w fun e w' => e = .returned (.bool true) ∧ Below w.heap.size w w' := by
  obtain ⟨vp, rfl, hp, _, _⟩ := gram_cells h0
  obtain ⟨va, vg, rfl, ha, hg⟩ := table_cells h1
  obtain ⟨vs, rfl, hs⟩ := stk_cells h2
  exact buildSays_walk _ _ _ _ term _ vp va vg vs _ _ _ _ w _ (fun _ h => h) hp ha hg hs
end Go.Proofs.Ytldapomcjfkeeaa
