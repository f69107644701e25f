/-
  ClimbSays: the law's walk.
-/
import Derived.Test.YtldapomcjfkeeaaClLaw
import Derived.Test.YtldapomcjfkeeaaGramIn
namespace Go.Proofs.Ytldapomcjfkeeaa
set_option linter.unusedVariables false
open Go.ChangeShapes Go.WideShapes Go.ChangeAt Go.RowKit

theorem St.encT {w0 w : World} {μ : List Asrt} {v : Value} {l : List Cl.T} (h : St w0 w μ) (i : Nat) (hA : μ[i]? = some (aOwn 125 4 v (l.map todoV))) (h1 : (l.length : Int) * 32 ≤ 140737488355328) :
    (Enc.tdo.sl 32).R (fun b => b < w.heap.size) w [v] l :=
  Own.enc (En := Enc.tdo) (bytes := 32) (f := todoV) (h.ownAt i hA) rfl (fun _ _ => rfl) (fun b hb => ((h.nth i hA).fpOwn b hb).2) h1
theorem St.encV {w0 w : World} {μ : List Asrt} {v : Value} {l : List (Int × Int)} (h : St w0 w μ) (i : Nat) (hA : μ[i]? = some (aOwn 81 2 v (l.map pairV))) (h1 : (l.length : Int) * 16 ≤ 140737488355328) :
    (Enc.evt.sl 16).R (fun b => b < w.heap.size) w [v] l :=
  Own.enc (En := Enc.evt) (bytes := 16) (f := pairV) (h.ownAt i hA) rfl (fun _ _ => rfl) (fun b hb => ((h.nth i hA).fpOwn b hb).2) h1
theorem St.litTodo {w0 w : World} {μ : List Asrt} {g : Nat} {a : Bool} {b c d : Int} (h : St w0 w (aCel g 125 #[.bool a, .int .i64 b, .int .i64 c, .int .i64 d] :: μ)) :
    St w0 w (aOwn 125 4 (.slice (some ⟨g, 0, none⟩) 1 1) ([((a, b, c, d) : Cl.T)].map todoV) :: μ) := by
  refine h.turn (by simp [aOwn, aCel, Value.ownBlock]) ?_
  have := h.ok _ (.head _)
  simp only [aCel] at this
  simp only [aOwn]
  unfold Own
  exact ⟨rfl, .inr ⟨g, 1, _, rfl, Nat.zero_le _, this, by simp, by decide, rfl, rfl⟩⟩

theorem climbed_tell (t n seen ov col E : Int) (dn : Bool) (vp vr vs vs2 ve2 : Value) (l : List (Int × List (Int × Int))) (rows : List (List Int)) (td : List Cl.T) (c : Nat) (last : Bool) (w : World) (F F2 : Nat → Prop) (hF : ∀ b, F b → b < w.heap.size) (hF2 : ∀ b, F2 b → b < w.heap.size) (h : Enc.prods.R F w [vp] l)
    (hr' : (((Enc.int .i64).sl 8).sl 24).R F w [vr] rows) (hs : (Enc.todo.sl 32).R F w [vs] td)
    (hz : E = 0 → Rw.all t n l rows = 0 ∧ (c : Int) ≤ t ∧ 0 ≤ seen ∧ seen ≤ 1099511627776 ∧ td.length ≤ 60 ∧ ∀ x ∈ td, Cl.good t n l.length x = true) (hcol : E = 0 → col = c ∧ decide ((c : Int) = t) = last) (r : Cl.R) (hr : Cl.tell E last (Cl.res l rows c last seen td.reverse) td seen ov dn = r) (hwf : Cl.wfR r)
    (hs2 : (Enc.tdo.sl 32).R F2 w [vs2] r.st) (he2 : (Enc.evt.sl 16).R F2 w [ve2] r.out) :
    Calls Try.prog 65 #[.agg #[.int .i64 t, .int .i64 n, vp], vr, .agg #[vs, .int .i64 seen, .int .i64 ov, .bool dn], .int .i64 col, .int .i64 E, .agg #[vs2, .int .i64 r.seen, .int .i64 r.over, .bool r.done], ve2, .int .i64 r.err] w fun e w' => e = .returned (.bool true) ∧ Below w.heap.size w w' := by
  by_cases hE : E = 0
  · subst hE
    obtain ⟨z1, z2, z3, z4, z6, z7⟩ := hz rfl
    obtain ⟨rfl, hl⟩ := hcol rfl
    refine climbed_ok t n seen ov c dn vp vr vs vs2 ve2 r w F2 hF2 hs2 he2 hwf (fun W hW => ?_)
    have href := clRef_any t n seen ov dn vp vr vs l rows td c W F (fun b hb => Nat.lt_of_lt_of_le (hF b hb) hW.size) (Enc.mono _ h (fun _ h => h) (fun b hb => hW.block b (hF b hb))) (Enc.mono _ hr' (fun _ h => h) (fun b hb => hW.block b (hF b hb))) (Enc.mono _ hs (fun _ h => h) (fun b hb => hW.block b (hF b hb))) z1 z2 ⟨z3, z4⟩ z6 z7
    rw [hl] at href
    rw [← hr, Cl.tell_ok]
    cases last
    · rw [Cl.push_go _ (by rw [List.length_reverse]; exact z6)] at href
      rw [Cl.res, if_neg (by simp)]; exact href
    · rw [Cl.ending_ref z1 (of_decide_eq_true hl) _ (by rw [List.length_reverse]; exact z6) (fun x hx => z7 x (by simpa using hx))] at href
      rw [Cl.res, if_pos rfl]; exact href
  · rw [Cl.tell_bad hE] at hr
    subst hr
    obtain ⟨ae, -, -, ce, rfl, -⟩ := slEvt he2
    exact climbed_bad t n seen ov col E dn vp vr vs vs2 ae ce td w F F2 hF hF2 (todo_tdo hs) hs2 hE

set_option maxRecDepth 100000 in
set_option maxHeartbeats 16000000 in
theorem climbSays_walk (t n seen ov term : Int) (dn : Bool) (vp vr vs : Value) (l : List (Int × List (Int × Int))) (rows : List (List Int)) (td : List Cl.T) (w : World) (F : Nat → Prop) (hF : ∀ b, F b → b < w.heap.size) (h : Enc.prods.R F w [vp] l)
    (hr : (((Enc.int .i64).sl 8).sl 24).R F w [vr] rows) (hs : (Enc.todo.sl 32).R F w [vs] td) :
    Calls Try.prog 12 #[.agg #[.int .i64 t, .int .i64 n, vp], vr, .agg #[vs, .int .i64 seen, .int .i64 ov, .bool dn], .int .i64 term] w fun e w' => e = .returned (.bool true) ∧ Below w.heap.size w w' := by
  have hst := (((St.init w).alloc #[.int .i64 t, .int .i64 n, vp] 68).alloc #[vs, .int .i64 seen, .int .i64 ov, .bool dn] 121)
  simp only [World.size_alloc] at hst
  have hF' : ∀ W, Below w.heap.size w W → ∀ b, F b → b < W.heap.size := fun W hW b hb => Nat.lt_of_lt_of_le (hF b hb) hW.size
  have m1 : ∀ W, Below w.heap.size w W → Enc.prods.R F W [vp] l := fun W hW => Enc.mono _ h (fun _ h => h) (fun b hb => hW.block b (hF b hb))
  have m2 : ∀ W, Below w.heap.size w W → (((Enc.int .i64).sl 8).sl 24).R F W [vr] rows := fun W hW => Enc.mono _ hr (fun _ h => h) (fun b hb => hW.block b (hF b hb))
  have m3 : ∀ W, Below w.heap.size w W → (Enc.todo.sl 32).R F W [vs] td := fun W hW => Enc.mono _ hs (fun _ h => h) (fun b hb => hW.block b (hF b hb))
  obtain ⟨_, _, _, _, -, hl1, -, -⟩ := slTodo hs
  generalize hO : (decide (ov ≠ 0) || dn) = O
  have ht0 : Rw.all t n l rows = 0 → 0 ≤ t := fun h => (Gr.err_zero (Cl.rw_zero h).1).1
  have hE1 := Cl.chk_term ht0 (fit := Cl.fits t n l.length td seen) (over := O) (term := term)
  have hE2 := Cl.chk_end ht0 (fit := Cl.fits t n l.length td seen) (over := O)
  generalize hRT : Cl.wrong (Rw.all t n l rows) (Cl.fits t n l.length td seen) = RT at hE1 hE2
  obtain ⟨E1, hE1'⟩ : ∃ E1, E1 = Cl.atTerm RT t O term := ⟨_, rfl⟩
  obtain ⟨E2, hE2'⟩ : ∃ E2, E2 = Cl.atEnd RT O := ⟨_, rfl⟩
  rw [← hE1'] at hE1
  rw [← hE2'] at hE2
  have hfz : Cl.fits t n l.length td seen = true → 0 ≤ seen ∧ seen ≤ 1099511627776 ∧ td.length ≤ 60 ∧ ∀ x ∈ td, Cl.good t n l.length x = true := fun hf => by
    obtain ⟨a1, a2, a3, a4⟩ := Cl.fits_iff.1 hf
    exact ⟨a2, a3, a1, fun x hx => by have := List.any_eq_false.1 a4 x hx; simpa using this⟩
  have hz1 : E1 = 0 → (Rw.all t n l rows = 0 ∧ (term.toNat : Int) ≤ t ∧ 0 ≤ seen ∧ seen ≤ 1099511627776 ∧ td.length ≤ 60 ∧ ∀ x ∈ td, Cl.good t n l.length x = true) ∧ (term = (term.toNat : Int) ∧ decide ((term.toNat : Int) = t) = false) ∧ Cl.chk (Rw.all t n l rows) t (Cl.fits t n l.length td seen) O term.toNat = 0 := fun hz => by
    rw [hz] at hE1
    obtain ⟨g1, g2, g3, g4, g5⟩ := Cl.chk_zero hE1
    by_cases hq : term = t
    · rw [if_pos hq] at g4; omega
    · rw [if_neg hq] at g4 g5 hE1
      have e : (term.toNat : Int) = term := Int.toNat_of_nonneg g4
      exact ⟨⟨g1, by omega, hfz g3⟩, ⟨e.symm, by rw [e]; exact decide_eq_false hq⟩, by rw [e]; exact hE1⟩
  have hz2 : E2 = 0 → (Rw.all t n l rows = 0 ∧ (t.toNat : Int) ≤ t ∧ 0 ≤ seen ∧ seen ≤ 1099511627776 ∧ td.length ≤ 60 ∧ ∀ x ∈ td, Cl.good t n l.length x = true) ∧ (t = (t.toNat : Int) ∧ decide ((t.toNat : Int) = t) = true) ∧ Cl.chk (Rw.all t n l rows) t (Cl.fits t n l.length td seen) O t.toNat = 0 := fun hz => by
    rw [hz] at hE2
    obtain ⟨g1, g2, g3, g4, g5⟩ := Cl.chk_zero hE2
    have e : (t.toNat : Int) = t := Int.toNat_of_nonneg g4
    exact ⟨⟨g1, by omega, hfz g3⟩, ⟨e.symm, decide_eq_true e⟩, by rw [e]; exact hE2⟩
  obtain ⟨R1, hR1⟩ : ∃ R1, Cl.tell E1 false (Cl.res l rows term.toNat false seen td.reverse) td seen ov dn = R1 := ⟨_, rfl⟩
  obtain ⟨R2, hR2⟩ : ∃ R2, Cl.tell E2 true (Cl.res l rows t.toNat true seen td.reverse) td seen ov dn = R2 := ⟨_, rfl⟩
  have hwf1 : Cl.wfR R1 := by rw [← hR1]; exact Cl.tell_wf hl1 (fun hz => (hz1 hz).1.2.2.2.2.1)
  have hwf2 : Cl.wfR R2 := by rw [← hR2]; exact Cl.tell_wf hl1 (fun hz => (hz2 hz).1.2.2.2.2.1)
  have HPU := Lib.hid (fun (W : World) (hW : Below w.heap.size w W) => (show Calls Try.prog 63 #[.agg #[.int .i64 t, .int .i64 n, vp], vr, .agg #[vs, .int .i64 seen, .int .i64 ov, .bool dn], .int .i64 term] W (Cl.Ret R1 W) from by
    by_cases hE : E1 = 0
    · obtain ⟨g1, g2, g3⟩ := hz1 hE
      rw [← hR1, hE, Cl.tell_ok, Cl.res, if_neg (by simp)]
      have e := g2.1
      rw [show (Value.int .i64 term) = .int .i64 (term.toNat : Int) by rw [← e]]
      refine clPush_ok t n seen ov term.toNat dn vp vr vs l rows td W F (hF' W hW) (m1 W hW) (m2 W hW) (m3 W hW) ?_ ?_
      · have := of_decide_eq_false g2.2
        omega
      · rw [hO]; exact g3
    · rw [← hR1, Cl.tell_bad hE]
      refine clPush_bad t n seen ov term (if term = t then -1 else term) dn vp vr vs l rows td W F (hF' W hW) (m1 W hW) (m2 W hW) (m3 W hW) E1 ?_ ?_ hE
      · by_cases hq : term = t
        · exact .inl ⟨hq, if_pos hq⟩
        · exact .inr ⟨hq, (if_neg hq).symm⟩
      · rw [hO]; exact hE1))
  have HEN := Lib.hid (fun (W : World) (hW : Below w.heap.size w W) => (show Calls Try.prog 64 #[.agg #[.int .i64 t, .int .i64 n, vp], vr, .agg #[vs, .int .i64 seen, .int .i64 ov, .bool dn]] W (Cl.Ret R2 W) from by
    by_cases hE : E2 = 0
    · obtain ⟨g1, g2, g3⟩ := hz2 hE
      rw [← hR2, hE, Cl.tell_ok, Cl.res, if_pos rfl]
      refine clEnd_ok t n seen ov t.toNat dn vp vr vs l rows td W F (hF' W hW) (m1 W hW) (m2 W hW) (m3 W hW) g2.1 ?_
      rw [hO]; exact g3
    · rw [← hR2, Cl.tell_bad hE]
      refine clEnd_bad t n seen ov dn vp vr vs l rows td W F (hF' W hW) (m1 W hW) (m2 W hW) (m3 W hW) E2 ?_ hE
      rw [hO]; exact hE2))
  have HB1 := Lib.hid (fun (W : World) (hW : Below w.heap.size w W) (vs2 ve2 : Value) h1 h2 => climbed_tell t n seen ov term E1 dn vp vr vs vs2 ve2 l rows td term.toNat false W F (fun b => b < W.heap.size) (hF' W hW) (fun _ h => h) (m1 W hW) (m2 W hW) (m3 W hW) (fun hz => (hz1 hz).1) (fun hz => (hz1 hz).2.1) R1 hR1 hwf1 h1 h2)
  have HB2 := Lib.hid (fun (W : World) (hW : Below w.heap.size w W) (vs2 ve2 : Value) h1 h2 => climbed_tell t n seen ov t E2 dn vp vr vs vs2 ve2 l rows td t.toNat true W F (fun b => b < W.heap.size) (hF' W hW) (fun _ h => h) (m1 W hW) (m2 W hW) (m3 W hW) (fun hz => (hz2 hz).1) (fun hz => (hz2 hz).2.1) R2 hR2 hwf2 h1 h2)
  have HRI := Lib.hid (fun (W : World) (hW : Below w.heap.size w W) => clRt_any t n seen ov dn vp vr vs l rows td W F (hF' W hW) (m1 W hW) (m2 W hW) (m3 W hW))
  rw [hRT] at HRI
  have HWF1 := Lib.hid hwf1
  have HWF2 := Lib.hid hwf2
  have HE1 := Lib.hid hE1'
  have HE2 := Lib.hid hE2'
  have HO := Lib.hid hO
  obtain ⟨ap, -, -, cp, hvp, -⟩ := slProds h
  clear hwf1 hwf2 hE1' hE2' hO hE1 hE2 hz1 hz2 hR1 hR2 hRT m1 m2 m3 hF' h hr hs hF hl1 ht0 hfz
  subst hvp
  go_enter Try.func12, Try.ntmps12
  go_wp2_with (fail)
  go_at_call 61
  refine (clBegin_any _).mono ?_
  rintro e w1 ⟨v0, rfl, hst0⟩
  have ST0 := ((hst.joined hst0).alloc #[.bool false, .int .i64 0, .int .i64 2, .int .i64 0] 125).litTodo
  simp only [List.cons_append, List.nil_append] at ST0
  have HR0 := Lib.hid (ST0.encT 1 rfl (by decide))
  have HL0 := Lib.hid (ST0.encT 0 rfl (by decide))
  have hb0 := ST0.bel
  replace hst := ((ST0.drop).drop)
  clear ST0 hst0
  go_wp2_with (fail)
  go_at_call 60
  refine (sameCliT (l := [(false, 0, 2, 0)]) 0 0 false _ (fun _ h => h) (fun _ h => h) HR0.out HL0.out).mono ?_
  rintro e w2 ⟨rfl, hb2⟩
  replace hst := hst.call hb2
  clear hb2 HR0 HL0 hb0
  obtain ⟨g0, g1, g2⟩ := hst.at3 1 rfl
  obtain ⟨x0, x1, x2, x3⟩ := hst.at4 0 rfl
  go_wp2_with (fail)
  go_at_call 62
  refine (HRI.out _ hst.bel).mono ?_
  rintro e w3 ⟨rfl, hb3⟩
  replace hst := hst.call hb3
  clear hb3 g0 g1 g2 x0 x1 x2 x3
  obtain ⟨g0, g1, g2⟩ := hst.at3 1 rfl
  obtain ⟨x0, x1, x2, x3⟩ := hst.at4 0 rfl
  have hoc : (ov ≠ 0 ∧ O = true) ∨ (ov = 0 ∧ dn = true ∧ O = true) ∨ (ov = 0 ∧ dn = false ∧ O = false) := by
    rw [← HO.out]
    by_cases hq : ov = 0
    · cases dn <;> simp [hq]
    · exact .inl ⟨hq, by simp [hq]⟩
  have h1 := HE1.out; have h2 := HE2.out
  clear HO HE1 HE2
  unfold Cl.atTerm at h1
  unfold Cl.atEnd at h2
  rcases (by omega : RT ≠ 0 ∨ (RT = 0 ∧ term < 0) ∨ (RT = 0 ∧ 0 ≤ term ∧ t ≤ term) ∨ (RT = 0 ∧ 0 ≤ term ∧ term < t)) with r0 | ⟨rfl, r1⟩ | ⟨rfl, r1, r2⟩ | ⟨rfl, r1, r2⟩
  · have hdum : True := trivial
    have r0b : (RT == 0) = false := by rw [beq_eq_false_iff_ne]; exact r0
    rcases hoc with ⟨o1, rfl⟩ | ⟨rfl, rfl, rfl⟩ | ⟨rfl, rfl, rfl⟩
    · have hdum2 : True := trivial
      have o1b : (ov != 0) = true := by rw [bne_iff_ne]; exact o1
      clear o1
      obtain rfl : E1 = RT := by rw [h1]; simp [r0]
      obtain rfl : E2 = E1 := by rw [h2]; simp [r0]
      clear h1 h2
      clear r0
      go_wp2_with (fail)
      go_at_call 63
      refine (HPU.out _ hst.bel).mono ?_
      rintro e w4 ⟨vs1, ve1, rfl, hst4⟩
      have ST := hst.joined hst4
      simp only [List.cons_append, List.nil_append] at ST
      clear hst hst4 g0 g1 g2 x0 x1 x2 x3
      obtain ⟨a1, c1, hv1⟩ := (ST.ownAt 0 rfl).isLen
      obtain ⟨a2, c2, hv2⟩ := (ST.ownAt 1 rfl).isLen
      rw [List.length_map] at hv1 hv2
      subst hv1 hv2
      replace ST := ST.alloc #[.slice a1 R1.st.length c1, .int .i64 R1.seen, .int .i64 R1.over, .bool R1.done] 121
      obtain ⟨g0, g1, g2⟩ := ST.at3 4 rfl
      obtain ⟨x0, x1, x2, x3⟩ := ST.at4 3 rfl
      go_wp2_with (fail)
      go_at_call 64
      refine (HEN.out _ ST.bel).mono ?_
      rintro e w5 ⟨vs3, ve3, rfl, hst5⟩
      have ST5 := ST.joined hst5
      simp only [List.cons_append, List.nil_append] at ST5
      obtain ⟨a3, c3, hv3⟩ := (ST5.ownAt 0 rfl).isLen
      obtain ⟨a4, c4, hv4⟩ := (ST5.ownAt 1 rfl).isLen
      rw [List.length_map] at hv3 hv4
      subst hv3 hv4
      clear ST hst5 g0 g1 g2 x0 x1 x2 x3
      have ST := ST5.alloc #[.slice a3 R2.st.length c3, .int .i64 R2.seen, .int .i64 R2.over, .bool R2.done] 121
      clear ST5
      obtain ⟨g0, g1, g2⟩ := ST.at3 7 rfl
      obtain ⟨x0, x1, x2, x3⟩ := ST.at4 6 rfl
      obtain ⟨p0, p1, p2, p3⟩ := ST.at4 3 rfl
      have L1 := Lib.hid (ST.encT 4 rfl HWF1.out.1)
      have L2 := Lib.hid (ST.encV 5 rfl HWF1.out.2)
      go_wp2_with (fail)
      go_at_call 65
      refine (HB1.out _ ST.bel _ _ L1.out L2.out).mono ?_
      rintro e w6 ⟨rfl, hb6⟩
      replace ST := ST.call hb6
      clear hb6 L1 L2 g0 g1 g2 x0 x1 x2 x3 p0 p1 p2 p3
      obtain ⟨g0, g1, g2⟩ := ST.at3 7 rfl
      obtain ⟨x0, x1, x2, x3⟩ := ST.at4 6 rfl
      obtain ⟨p0, p1, p2, p3⟩ := ST.at4 0 rfl
      have L1 := Lib.hid (ST.encT 1 rfl HWF2.out.1)
      have L2 := Lib.hid (ST.encV 2 rfl HWF2.out.2)
      go_wp2_with (fail)
      go_at_call 65
      refine (HB2.out _ ST.bel _ _ L1.out L2.out).mono ?_
      rintro e w7 ⟨rfl, hb7⟩
      replace ST := ST.call hb7
      go_wp2
      go_ret
      exact ⟨rfl, ST.bel⟩
    · have hdum2 : True := trivial
      obtain rfl : E1 = RT := by rw [h1]; simp [r0]
      obtain rfl : E2 = E1 := by rw [h2]; simp [r0]
      clear h1 h2
      clear r0
      go_wp2_with (fail)
      go_at_call 63
      refine (HPU.out _ hst.bel).mono ?_
      rintro e w4 ⟨vs1, ve1, rfl, hst4⟩
      have ST := hst.joined hst4
      simp only [List.cons_append, List.nil_append] at ST
      clear hst hst4 g0 g1 g2 x0 x1 x2 x3
      obtain ⟨a1, c1, hv1⟩ := (ST.ownAt 0 rfl).isLen
      obtain ⟨a2, c2, hv2⟩ := (ST.ownAt 1 rfl).isLen
      rw [List.length_map] at hv1 hv2
      subst hv1 hv2
      replace ST := ST.alloc #[.slice a1 R1.st.length c1, .int .i64 R1.seen, .int .i64 R1.over, .bool R1.done] 121
      obtain ⟨g0, g1, g2⟩ := ST.at3 4 rfl
      obtain ⟨x0, x1, x2, x3⟩ := ST.at4 3 rfl
      go_wp2_with (fail)
      go_at_call 64
      refine (HEN.out _ ST.bel).mono ?_
      rintro e w5 ⟨vs3, ve3, rfl, hst5⟩
      have ST5 := ST.joined hst5
      simp only [List.cons_append, List.nil_append] at ST5
      obtain ⟨a3, c3, hv3⟩ := (ST5.ownAt 0 rfl).isLen
      obtain ⟨a4, c4, hv4⟩ := (ST5.ownAt 1 rfl).isLen
      rw [List.length_map] at hv3 hv4
      subst hv3 hv4
      clear ST hst5 g0 g1 g2 x0 x1 x2 x3
      have ST := ST5.alloc #[.slice a3 R2.st.length c3, .int .i64 R2.seen, .int .i64 R2.over, .bool R2.done] 121
      clear ST5
      obtain ⟨g0, g1, g2⟩ := ST.at3 7 rfl
      obtain ⟨x0, x1, x2, x3⟩ := ST.at4 6 rfl
      obtain ⟨p0, p1, p2, p3⟩ := ST.at4 3 rfl
      have L1 := Lib.hid (ST.encT 4 rfl HWF1.out.1)
      have L2 := Lib.hid (ST.encV 5 rfl HWF1.out.2)
      go_wp2_with (fail)
      go_at_call 65
      refine (HB1.out _ ST.bel _ _ L1.out L2.out).mono ?_
      rintro e w6 ⟨rfl, hb6⟩
      replace ST := ST.call hb6
      clear hb6 L1 L2 g0 g1 g2 x0 x1 x2 x3 p0 p1 p2 p3
      obtain ⟨g0, g1, g2⟩ := ST.at3 7 rfl
      obtain ⟨x0, x1, x2, x3⟩ := ST.at4 6 rfl
      obtain ⟨p0, p1, p2, p3⟩ := ST.at4 0 rfl
      have L1 := Lib.hid (ST.encT 1 rfl HWF2.out.1)
      have L2 := Lib.hid (ST.encV 2 rfl HWF2.out.2)
      go_wp2_with (fail)
      go_at_call 65
      refine (HB2.out _ ST.bel _ _ L1.out L2.out).mono ?_
      rintro e w7 ⟨rfl, hb7⟩
      replace ST := ST.call hb7
      go_wp2
      go_ret
      exact ⟨rfl, ST.bel⟩
    · have hdum2 : True := trivial
      obtain rfl : E1 = RT := by rw [h1]; simp [r0]
      obtain rfl : E2 = E1 := by rw [h2]; simp [r0]
      clear h1 h2
      clear r0
      go_wp2_with (fail)
      go_at_call 63
      refine (HPU.out _ hst.bel).mono ?_
      rintro e w4 ⟨vs1, ve1, rfl, hst4⟩
      have ST := hst.joined hst4
      simp only [List.cons_append, List.nil_append] at ST
      clear hst hst4 g0 g1 g2 x0 x1 x2 x3
      obtain ⟨a1, c1, hv1⟩ := (ST.ownAt 0 rfl).isLen
      obtain ⟨a2, c2, hv2⟩ := (ST.ownAt 1 rfl).isLen
      rw [List.length_map] at hv1 hv2
      subst hv1 hv2
      replace ST := ST.alloc #[.slice a1 R1.st.length c1, .int .i64 R1.seen, .int .i64 R1.over, .bool R1.done] 121
      obtain ⟨g0, g1, g2⟩ := ST.at3 4 rfl
      obtain ⟨x0, x1, x2, x3⟩ := ST.at4 3 rfl
      go_wp2_with (fail)
      go_at_call 64
      refine (HEN.out _ ST.bel).mono ?_
      rintro e w5 ⟨vs3, ve3, rfl, hst5⟩
      have ST5 := ST.joined hst5
      simp only [List.cons_append, List.nil_append] at ST5
      obtain ⟨a3, c3, hv3⟩ := (ST5.ownAt 0 rfl).isLen
      obtain ⟨a4, c4, hv4⟩ := (ST5.ownAt 1 rfl).isLen
      rw [List.length_map] at hv3 hv4
      subst hv3 hv4
      clear ST hst5 g0 g1 g2 x0 x1 x2 x3
      have ST := ST5.alloc #[.slice a3 R2.st.length c3, .int .i64 R2.seen, .int .i64 R2.over, .bool R2.done] 121
      clear ST5
      obtain ⟨g0, g1, g2⟩ := ST.at3 7 rfl
      obtain ⟨x0, x1, x2, x3⟩ := ST.at4 6 rfl
      obtain ⟨p0, p1, p2, p3⟩ := ST.at4 3 rfl
      have L1 := Lib.hid (ST.encT 4 rfl HWF1.out.1)
      have L2 := Lib.hid (ST.encV 5 rfl HWF1.out.2)
      go_wp2_with (fail)
      go_at_call 65
      refine (HB1.out _ ST.bel _ _ L1.out L2.out).mono ?_
      rintro e w6 ⟨rfl, hb6⟩
      replace ST := ST.call hb6
      clear hb6 L1 L2 g0 g1 g2 x0 x1 x2 x3 p0 p1 p2 p3
      obtain ⟨g0, g1, g2⟩ := ST.at3 7 rfl
      obtain ⟨x0, x1, x2, x3⟩ := ST.at4 6 rfl
      obtain ⟨p0, p1, p2, p3⟩ := ST.at4 0 rfl
      have L1 := Lib.hid (ST.encT 1 rfl HWF2.out.1)
      have L2 := Lib.hid (ST.encV 2 rfl HWF2.out.2)
      go_wp2_with (fail)
      go_at_call 65
      refine (HB2.out _ ST.bel _ _ L1.out L2.out).mono ?_
      rintro e w7 ⟨rfl, hb7⟩
      replace ST := ST.call hb7
      go_wp2
      go_ret
      exact ⟨rfl, ST.bel⟩
  · have hdum : True := trivial
    rcases hoc with ⟨o1, rfl⟩ | ⟨rfl, rfl, rfl⟩ | ⟨rfl, rfl, rfl⟩
    · have hdum2 : True := trivial
      have o1b : (ov != 0) = true := by rw [bne_iff_ne]; exact o1
      clear o1
      obtain rfl : E1 = 1 := by rw [h1]; simp [r1]
      obtain rfl : E2 = 15 := by rw [h2]; simp
      clear h1 h2
      go_wp2_with (fail)
      go_at_call 63
      refine (HPU.out _ hst.bel).mono ?_
      rintro e w4 ⟨vs1, ve1, rfl, hst4⟩
      have ST := hst.joined hst4
      simp only [List.cons_append, List.nil_append] at ST
      clear hst hst4 g0 g1 g2 x0 x1 x2 x3
      obtain ⟨a1, c1, hv1⟩ := (ST.ownAt 0 rfl).isLen
      obtain ⟨a2, c2, hv2⟩ := (ST.ownAt 1 rfl).isLen
      rw [List.length_map] at hv1 hv2
      subst hv1 hv2
      replace ST := ST.alloc #[.slice a1 R1.st.length c1, .int .i64 R1.seen, .int .i64 R1.over, .bool R1.done] 121
      obtain ⟨g0, g1, g2⟩ := ST.at3 4 rfl
      obtain ⟨x0, x1, x2, x3⟩ := ST.at4 3 rfl
      go_wp2_with (fail)
      go_at_call 64
      refine (HEN.out _ ST.bel).mono ?_
      rintro e w5 ⟨vs3, ve3, rfl, hst5⟩
      have ST5 := ST.joined hst5
      simp only [List.cons_append, List.nil_append] at ST5
      obtain ⟨a3, c3, hv3⟩ := (ST5.ownAt 0 rfl).isLen
      obtain ⟨a4, c4, hv4⟩ := (ST5.ownAt 1 rfl).isLen
      rw [List.length_map] at hv3 hv4
      subst hv3 hv4
      clear ST hst5 g0 g1 g2 x0 x1 x2 x3
      have ST := ST5.alloc #[.slice a3 R2.st.length c3, .int .i64 R2.seen, .int .i64 R2.over, .bool R2.done] 121
      clear ST5
      obtain ⟨g0, g1, g2⟩ := ST.at3 7 rfl
      obtain ⟨x0, x1, x2, x3⟩ := ST.at4 6 rfl
      obtain ⟨p0, p1, p2, p3⟩ := ST.at4 3 rfl
      have L1 := Lib.hid (ST.encT 4 rfl HWF1.out.1)
      have L2 := Lib.hid (ST.encV 5 rfl HWF1.out.2)
      go_wp2_with (fail)
      go_at_call 65
      refine (HB1.out _ ST.bel _ _ L1.out L2.out).mono ?_
      rintro e w6 ⟨rfl, hb6⟩
      replace ST := ST.call hb6
      clear hb6 L1 L2 g0 g1 g2 x0 x1 x2 x3 p0 p1 p2 p3
      obtain ⟨g0, g1, g2⟩ := ST.at3 7 rfl
      obtain ⟨x0, x1, x2, x3⟩ := ST.at4 6 rfl
      obtain ⟨p0, p1, p2, p3⟩ := ST.at4 0 rfl
      have L1 := Lib.hid (ST.encT 1 rfl HWF2.out.1)
      have L2 := Lib.hid (ST.encV 2 rfl HWF2.out.2)
      go_wp2_with (fail)
      go_at_call 65
      refine (HB2.out _ ST.bel _ _ L1.out L2.out).mono ?_
      rintro e w7 ⟨rfl, hb7⟩
      replace ST := ST.call hb7
      go_wp2
      go_ret
      exact ⟨rfl, ST.bel⟩
    · have hdum2 : True := trivial
      obtain rfl : E1 = 1 := by rw [h1]; simp [r1]
      obtain rfl : E2 = 15 := by rw [h2]; simp
      clear h1 h2
      go_wp2_with (fail)
      go_at_call 63
      refine (HPU.out _ hst.bel).mono ?_
      rintro e w4 ⟨vs1, ve1, rfl, hst4⟩
      have ST := hst.joined hst4
      simp only [List.cons_append, List.nil_append] at ST
      clear hst hst4 g0 g1 g2 x0 x1 x2 x3
      obtain ⟨a1, c1, hv1⟩ := (ST.ownAt 0 rfl).isLen
      obtain ⟨a2, c2, hv2⟩ := (ST.ownAt 1 rfl).isLen
      rw [List.length_map] at hv1 hv2
      subst hv1 hv2
      replace ST := ST.alloc #[.slice a1 R1.st.length c1, .int .i64 R1.seen, .int .i64 R1.over, .bool R1.done] 121
      obtain ⟨g0, g1, g2⟩ := ST.at3 4 rfl
      obtain ⟨x0, x1, x2, x3⟩ := ST.at4 3 rfl
      go_wp2_with (fail)
      go_at_call 64
      refine (HEN.out _ ST.bel).mono ?_
      rintro e w5 ⟨vs3, ve3, rfl, hst5⟩
      have ST5 := ST.joined hst5
      simp only [List.cons_append, List.nil_append] at ST5
      obtain ⟨a3, c3, hv3⟩ := (ST5.ownAt 0 rfl).isLen
      obtain ⟨a4, c4, hv4⟩ := (ST5.ownAt 1 rfl).isLen
      rw [List.length_map] at hv3 hv4
      subst hv3 hv4
      clear ST hst5 g0 g1 g2 x0 x1 x2 x3
      have ST := ST5.alloc #[.slice a3 R2.st.length c3, .int .i64 R2.seen, .int .i64 R2.over, .bool R2.done] 121
      clear ST5
      obtain ⟨g0, g1, g2⟩ := ST.at3 7 rfl
      obtain ⟨x0, x1, x2, x3⟩ := ST.at4 6 rfl
      obtain ⟨p0, p1, p2, p3⟩ := ST.at4 3 rfl
      have L1 := Lib.hid (ST.encT 4 rfl HWF1.out.1)
      have L2 := Lib.hid (ST.encV 5 rfl HWF1.out.2)
      go_wp2_with (fail)
      go_at_call 65
      refine (HB1.out _ ST.bel _ _ L1.out L2.out).mono ?_
      rintro e w6 ⟨rfl, hb6⟩
      replace ST := ST.call hb6
      clear hb6 L1 L2 g0 g1 g2 x0 x1 x2 x3 p0 p1 p2 p3
      obtain ⟨g0, g1, g2⟩ := ST.at3 7 rfl
      obtain ⟨x0, x1, x2, x3⟩ := ST.at4 6 rfl
      obtain ⟨p0, p1, p2, p3⟩ := ST.at4 0 rfl
      have L1 := Lib.hid (ST.encT 1 rfl HWF2.out.1)
      have L2 := Lib.hid (ST.encV 2 rfl HWF2.out.2)
      go_wp2_with (fail)
      go_at_call 65
      refine (HB2.out _ ST.bel _ _ L1.out L2.out).mono ?_
      rintro e w7 ⟨rfl, hb7⟩
      replace ST := ST.call hb7
      go_wp2
      go_ret
      exact ⟨rfl, ST.bel⟩
    · have hdum2 : True := trivial
      obtain rfl : E1 = 1 := by rw [h1]; simp [r1]
      obtain rfl : E2 = 0 := by rw [h2]; simp
      clear h1 h2
      go_wp2_with (fail)
      go_at_call 63
      refine (HPU.out _ hst.bel).mono ?_
      rintro e w4 ⟨vs1, ve1, rfl, hst4⟩
      have ST := hst.joined hst4
      simp only [List.cons_append, List.nil_append] at ST
      clear hst hst4 g0 g1 g2 x0 x1 x2 x3
      obtain ⟨a1, c1, hv1⟩ := (ST.ownAt 0 rfl).isLen
      obtain ⟨a2, c2, hv2⟩ := (ST.ownAt 1 rfl).isLen
      rw [List.length_map] at hv1 hv2
      subst hv1 hv2
      replace ST := ST.alloc #[.slice a1 R1.st.length c1, .int .i64 R1.seen, .int .i64 R1.over, .bool R1.done] 121
      obtain ⟨g0, g1, g2⟩ := ST.at3 4 rfl
      obtain ⟨x0, x1, x2, x3⟩ := ST.at4 3 rfl
      go_wp2_with (fail)
      go_at_call 64
      refine (HEN.out _ ST.bel).mono ?_
      rintro e w5 ⟨vs3, ve3, rfl, hst5⟩
      have ST5 := ST.joined hst5
      simp only [List.cons_append, List.nil_append] at ST5
      obtain ⟨a3, c3, hv3⟩ := (ST5.ownAt 0 rfl).isLen
      obtain ⟨a4, c4, hv4⟩ := (ST5.ownAt 1 rfl).isLen
      rw [List.length_map] at hv3 hv4
      subst hv3 hv4
      clear ST hst5 g0 g1 g2 x0 x1 x2 x3
      have ST := ST5.alloc #[.slice a3 R2.st.length c3, .int .i64 R2.seen, .int .i64 R2.over, .bool R2.done] 121
      clear ST5
      obtain ⟨g0, g1, g2⟩ := ST.at3 7 rfl
      obtain ⟨x0, x1, x2, x3⟩ := ST.at4 6 rfl
      obtain ⟨p0, p1, p2, p3⟩ := ST.at4 3 rfl
      have L1 := Lib.hid (ST.encT 4 rfl HWF1.out.1)
      have L2 := Lib.hid (ST.encV 5 rfl HWF1.out.2)
      go_wp2_with (fail)
      go_at_call 65
      refine (HB1.out _ ST.bel _ _ L1.out L2.out).mono ?_
      rintro e w6 ⟨rfl, hb6⟩
      replace ST := ST.call hb6
      clear hb6 L1 L2 g0 g1 g2 x0 x1 x2 x3 p0 p1 p2 p3
      obtain ⟨g0, g1, g2⟩ := ST.at3 7 rfl
      obtain ⟨x0, x1, x2, x3⟩ := ST.at4 6 rfl
      obtain ⟨p0, p1, p2, p3⟩ := ST.at4 0 rfl
      have L1 := Lib.hid (ST.encT 1 rfl HWF2.out.1)
      have L2 := Lib.hid (ST.encV 2 rfl HWF2.out.2)
      go_wp2_with (fail)
      go_at_call 65
      refine (HB2.out _ ST.bel _ _ L1.out L2.out).mono ?_
      rintro e w7 ⟨rfl, hb7⟩
      replace ST := ST.call hb7
      go_wp2
      go_ret
      exact ⟨rfl, ST.bel⟩
  · have hdum : True := trivial
    rcases hoc with ⟨o1, rfl⟩ | ⟨rfl, rfl, rfl⟩ | ⟨rfl, rfl, rfl⟩
    · have hdum2 : True := trivial
      have o1b : (ov != 0) = true := by rw [bne_iff_ne]; exact o1
      clear o1
      obtain rfl : E1 = 1 := by rw [h1]; simp [r2]
      obtain rfl : E2 = 15 := by rw [h2]; simp
      clear h1 h2
      go_wp2_with (fail)
      go_at_call 63
      refine (HPU.out _ hst.bel).mono ?_
      rintro e w4 ⟨vs1, ve1, rfl, hst4⟩
      have ST := hst.joined hst4
      simp only [List.cons_append, List.nil_append] at ST
      clear hst hst4 g0 g1 g2 x0 x1 x2 x3
      obtain ⟨a1, c1, hv1⟩ := (ST.ownAt 0 rfl).isLen
      obtain ⟨a2, c2, hv2⟩ := (ST.ownAt 1 rfl).isLen
      rw [List.length_map] at hv1 hv2
      subst hv1 hv2
      replace ST := ST.alloc #[.slice a1 R1.st.length c1, .int .i64 R1.seen, .int .i64 R1.over, .bool R1.done] 121
      obtain ⟨g0, g1, g2⟩ := ST.at3 4 rfl
      obtain ⟨x0, x1, x2, x3⟩ := ST.at4 3 rfl
      go_wp2_with (fail)
      go_at_call 64
      refine (HEN.out _ ST.bel).mono ?_
      rintro e w5 ⟨vs3, ve3, rfl, hst5⟩
      have ST5 := ST.joined hst5
      simp only [List.cons_append, List.nil_append] at ST5
      obtain ⟨a3, c3, hv3⟩ := (ST5.ownAt 0 rfl).isLen
      obtain ⟨a4, c4, hv4⟩ := (ST5.ownAt 1 rfl).isLen
      rw [List.length_map] at hv3 hv4
      subst hv3 hv4
      clear ST hst5 g0 g1 g2 x0 x1 x2 x3
      have ST := ST5.alloc #[.slice a3 R2.st.length c3, .int .i64 R2.seen, .int .i64 R2.over, .bool R2.done] 121
      clear ST5
      obtain ⟨g0, g1, g2⟩ := ST.at3 7 rfl
      obtain ⟨x0, x1, x2, x3⟩ := ST.at4 6 rfl
      obtain ⟨p0, p1, p2, p3⟩ := ST.at4 3 rfl
      have L1 := Lib.hid (ST.encT 4 rfl HWF1.out.1)
      have L2 := Lib.hid (ST.encV 5 rfl HWF1.out.2)
      go_wp2_with (fail)
      go_at_call 65
      refine (HB1.out _ ST.bel _ _ L1.out L2.out).mono ?_
      rintro e w6 ⟨rfl, hb6⟩
      replace ST := ST.call hb6
      clear hb6 L1 L2 g0 g1 g2 x0 x1 x2 x3 p0 p1 p2 p3
      obtain ⟨g0, g1, g2⟩ := ST.at3 7 rfl
      obtain ⟨x0, x1, x2, x3⟩ := ST.at4 6 rfl
      obtain ⟨p0, p1, p2, p3⟩ := ST.at4 0 rfl
      have L1 := Lib.hid (ST.encT 1 rfl HWF2.out.1)
      have L2 := Lib.hid (ST.encV 2 rfl HWF2.out.2)
      go_wp2_with (fail)
      go_at_call 65
      refine (HB2.out _ ST.bel _ _ L1.out L2.out).mono ?_
      rintro e w7 ⟨rfl, hb7⟩
      replace ST := ST.call hb7
      go_wp2
      go_ret
      exact ⟨rfl, ST.bel⟩
    · have hdum2 : True := trivial
      obtain rfl : E1 = 1 := by rw [h1]; simp [r2]
      obtain rfl : E2 = 15 := by rw [h2]; simp
      clear h1 h2
      go_wp2_with (fail)
      go_at_call 63
      refine (HPU.out _ hst.bel).mono ?_
      rintro e w4 ⟨vs1, ve1, rfl, hst4⟩
      have ST := hst.joined hst4
      simp only [List.cons_append, List.nil_append] at ST
      clear hst hst4 g0 g1 g2 x0 x1 x2 x3
      obtain ⟨a1, c1, hv1⟩ := (ST.ownAt 0 rfl).isLen
      obtain ⟨a2, c2, hv2⟩ := (ST.ownAt 1 rfl).isLen
      rw [List.length_map] at hv1 hv2
      subst hv1 hv2
      replace ST := ST.alloc #[.slice a1 R1.st.length c1, .int .i64 R1.seen, .int .i64 R1.over, .bool R1.done] 121
      obtain ⟨g0, g1, g2⟩ := ST.at3 4 rfl
      obtain ⟨x0, x1, x2, x3⟩ := ST.at4 3 rfl
      go_wp2_with (fail)
      go_at_call 64
      refine (HEN.out _ ST.bel).mono ?_
      rintro e w5 ⟨vs3, ve3, rfl, hst5⟩
      have ST5 := ST.joined hst5
      simp only [List.cons_append, List.nil_append] at ST5
      obtain ⟨a3, c3, hv3⟩ := (ST5.ownAt 0 rfl).isLen
      obtain ⟨a4, c4, hv4⟩ := (ST5.ownAt 1 rfl).isLen
      rw [List.length_map] at hv3 hv4
      subst hv3 hv4
      clear ST hst5 g0 g1 g2 x0 x1 x2 x3
      have ST := ST5.alloc #[.slice a3 R2.st.length c3, .int .i64 R2.seen, .int .i64 R2.over, .bool R2.done] 121
      clear ST5
      obtain ⟨g0, g1, g2⟩ := ST.at3 7 rfl
      obtain ⟨x0, x1, x2, x3⟩ := ST.at4 6 rfl
      obtain ⟨p0, p1, p2, p3⟩ := ST.at4 3 rfl
      have L1 := Lib.hid (ST.encT 4 rfl HWF1.out.1)
      have L2 := Lib.hid (ST.encV 5 rfl HWF1.out.2)
      go_wp2_with (fail)
      go_at_call 65
      refine (HB1.out _ ST.bel _ _ L1.out L2.out).mono ?_
      rintro e w6 ⟨rfl, hb6⟩
      replace ST := ST.call hb6
      clear hb6 L1 L2 g0 g1 g2 x0 x1 x2 x3 p0 p1 p2 p3
      obtain ⟨g0, g1, g2⟩ := ST.at3 7 rfl
      obtain ⟨x0, x1, x2, x3⟩ := ST.at4 6 rfl
      obtain ⟨p0, p1, p2, p3⟩ := ST.at4 0 rfl
      have L1 := Lib.hid (ST.encT 1 rfl HWF2.out.1)
      have L2 := Lib.hid (ST.encV 2 rfl HWF2.out.2)
      go_wp2_with (fail)
      go_at_call 65
      refine (HB2.out _ ST.bel _ _ L1.out L2.out).mono ?_
      rintro e w7 ⟨rfl, hb7⟩
      replace ST := ST.call hb7
      go_wp2
      go_ret
      exact ⟨rfl, ST.bel⟩
    · have hdum2 : True := trivial
      obtain rfl : E1 = 1 := by rw [h1]; simp [r2]
      obtain rfl : E2 = 0 := by rw [h2]; simp
      clear h1 h2
      go_wp2_with (fail)
      go_at_call 63
      refine (HPU.out _ hst.bel).mono ?_
      rintro e w4 ⟨vs1, ve1, rfl, hst4⟩
      have ST := hst.joined hst4
      simp only [List.cons_append, List.nil_append] at ST
      clear hst hst4 g0 g1 g2 x0 x1 x2 x3
      obtain ⟨a1, c1, hv1⟩ := (ST.ownAt 0 rfl).isLen
      obtain ⟨a2, c2, hv2⟩ := (ST.ownAt 1 rfl).isLen
      rw [List.length_map] at hv1 hv2
      subst hv1 hv2
      replace ST := ST.alloc #[.slice a1 R1.st.length c1, .int .i64 R1.seen, .int .i64 R1.over, .bool R1.done] 121
      obtain ⟨g0, g1, g2⟩ := ST.at3 4 rfl
      obtain ⟨x0, x1, x2, x3⟩ := ST.at4 3 rfl
      go_wp2_with (fail)
      go_at_call 64
      refine (HEN.out _ ST.bel).mono ?_
      rintro e w5 ⟨vs3, ve3, rfl, hst5⟩
      have ST5 := ST.joined hst5
      simp only [List.cons_append, List.nil_append] at ST5
      obtain ⟨a3, c3, hv3⟩ := (ST5.ownAt 0 rfl).isLen
      obtain ⟨a4, c4, hv4⟩ := (ST5.ownAt 1 rfl).isLen
      rw [List.length_map] at hv3 hv4
      subst hv3 hv4
      clear ST hst5 g0 g1 g2 x0 x1 x2 x3
      have ST := ST5.alloc #[.slice a3 R2.st.length c3, .int .i64 R2.seen, .int .i64 R2.over, .bool R2.done] 121
      clear ST5
      obtain ⟨g0, g1, g2⟩ := ST.at3 7 rfl
      obtain ⟨x0, x1, x2, x3⟩ := ST.at4 6 rfl
      obtain ⟨p0, p1, p2, p3⟩ := ST.at4 3 rfl
      have L1 := Lib.hid (ST.encT 4 rfl HWF1.out.1)
      have L2 := Lib.hid (ST.encV 5 rfl HWF1.out.2)
      go_wp2_with (fail)
      go_at_call 65
      refine (HB1.out _ ST.bel _ _ L1.out L2.out).mono ?_
      rintro e w6 ⟨rfl, hb6⟩
      replace ST := ST.call hb6
      clear hb6 L1 L2 g0 g1 g2 x0 x1 x2 x3 p0 p1 p2 p3
      obtain ⟨g0, g1, g2⟩ := ST.at3 7 rfl
      obtain ⟨x0, x1, x2, x3⟩ := ST.at4 6 rfl
      obtain ⟨p0, p1, p2, p3⟩ := ST.at4 0 rfl
      have L1 := Lib.hid (ST.encT 1 rfl HWF2.out.1)
      have L2 := Lib.hid (ST.encV 2 rfl HWF2.out.2)
      go_wp2_with (fail)
      go_at_call 65
      refine (HB2.out _ ST.bel _ _ L1.out L2.out).mono ?_
      rintro e w7 ⟨rfl, hb7⟩
      replace ST := ST.call hb7
      go_wp2
      go_ret
      exact ⟨rfl, ST.bel⟩
  · have hdum : True := trivial
    rcases hoc with ⟨o1, rfl⟩ | ⟨rfl, rfl, rfl⟩ | ⟨rfl, rfl, rfl⟩
    · have hdum2 : True := trivial
      have o1b : (ov != 0) = true := by rw [bne_iff_ne]; exact o1
      clear o1
      have rr : ¬ (term < 0 ∨ t ≤ term) := by omega
      obtain rfl : E1 = 15 := by rw [h1]; simp [rr]
      clear rr
      obtain rfl : E2 = 15 := by rw [h2]; simp
      clear h1 h2
      go_wp2_with (fail)
      go_at_call 63
      refine (HPU.out _ hst.bel).mono ?_
      rintro e w4 ⟨vs1, ve1, rfl, hst4⟩
      have ST := hst.joined hst4
      simp only [List.cons_append, List.nil_append] at ST
      clear hst hst4 g0 g1 g2 x0 x1 x2 x3
      obtain ⟨a1, c1, hv1⟩ := (ST.ownAt 0 rfl).isLen
      obtain ⟨a2, c2, hv2⟩ := (ST.ownAt 1 rfl).isLen
      rw [List.length_map] at hv1 hv2
      subst hv1 hv2
      replace ST := ST.alloc #[.slice a1 R1.st.length c1, .int .i64 R1.seen, .int .i64 R1.over, .bool R1.done] 121
      obtain ⟨g0, g1, g2⟩ := ST.at3 4 rfl
      obtain ⟨x0, x1, x2, x3⟩ := ST.at4 3 rfl
      go_wp2_with (fail)
      go_at_call 64
      refine (HEN.out _ ST.bel).mono ?_
      rintro e w5 ⟨vs3, ve3, rfl, hst5⟩
      have ST5 := ST.joined hst5
      simp only [List.cons_append, List.nil_append] at ST5
      obtain ⟨a3, c3, hv3⟩ := (ST5.ownAt 0 rfl).isLen
      obtain ⟨a4, c4, hv4⟩ := (ST5.ownAt 1 rfl).isLen
      rw [List.length_map] at hv3 hv4
      subst hv3 hv4
      clear ST hst5 g0 g1 g2 x0 x1 x2 x3
      have ST := ST5.alloc #[.slice a3 R2.st.length c3, .int .i64 R2.seen, .int .i64 R2.over, .bool R2.done] 121
      clear ST5
      obtain ⟨g0, g1, g2⟩ := ST.at3 7 rfl
      obtain ⟨x0, x1, x2, x3⟩ := ST.at4 6 rfl
      obtain ⟨p0, p1, p2, p3⟩ := ST.at4 3 rfl
      have L1 := Lib.hid (ST.encT 4 rfl HWF1.out.1)
      have L2 := Lib.hid (ST.encV 5 rfl HWF1.out.2)
      go_wp2_with (fail)
      go_at_call 65
      refine (HB1.out _ ST.bel _ _ L1.out L2.out).mono ?_
      rintro e w6 ⟨rfl, hb6⟩
      replace ST := ST.call hb6
      clear hb6 L1 L2 g0 g1 g2 x0 x1 x2 x3 p0 p1 p2 p3
      obtain ⟨g0, g1, g2⟩ := ST.at3 7 rfl
      obtain ⟨x0, x1, x2, x3⟩ := ST.at4 6 rfl
      obtain ⟨p0, p1, p2, p3⟩ := ST.at4 0 rfl
      have L1 := Lib.hid (ST.encT 1 rfl HWF2.out.1)
      have L2 := Lib.hid (ST.encV 2 rfl HWF2.out.2)
      go_wp2_with (fail)
      go_at_call 65
      refine (HB2.out _ ST.bel _ _ L1.out L2.out).mono ?_
      rintro e w7 ⟨rfl, hb7⟩
      replace ST := ST.call hb7
      go_wp2
      go_ret
      exact ⟨rfl, ST.bel⟩
    · have hdum2 : True := trivial
      have rr : ¬ (term < 0 ∨ t ≤ term) := by omega
      obtain rfl : E1 = 15 := by rw [h1]; simp [rr]
      clear rr
      obtain rfl : E2 = 15 := by rw [h2]; simp
      clear h1 h2
      go_wp2_with (fail)
      go_at_call 63
      refine (HPU.out _ hst.bel).mono ?_
      rintro e w4 ⟨vs1, ve1, rfl, hst4⟩
      have ST := hst.joined hst4
      simp only [List.cons_append, List.nil_append] at ST
      clear hst hst4 g0 g1 g2 x0 x1 x2 x3
      obtain ⟨a1, c1, hv1⟩ := (ST.ownAt 0 rfl).isLen
      obtain ⟨a2, c2, hv2⟩ := (ST.ownAt 1 rfl).isLen
      rw [List.length_map] at hv1 hv2
      subst hv1 hv2
      replace ST := ST.alloc #[.slice a1 R1.st.length c1, .int .i64 R1.seen, .int .i64 R1.over, .bool R1.done] 121
      obtain ⟨g0, g1, g2⟩ := ST.at3 4 rfl
      obtain ⟨x0, x1, x2, x3⟩ := ST.at4 3 rfl
      go_wp2_with (fail)
      go_at_call 64
      refine (HEN.out _ ST.bel).mono ?_
      rintro e w5 ⟨vs3, ve3, rfl, hst5⟩
      have ST5 := ST.joined hst5
      simp only [List.cons_append, List.nil_append] at ST5
      obtain ⟨a3, c3, hv3⟩ := (ST5.ownAt 0 rfl).isLen
      obtain ⟨a4, c4, hv4⟩ := (ST5.ownAt 1 rfl).isLen
      rw [List.length_map] at hv3 hv4
      subst hv3 hv4
      clear ST hst5 g0 g1 g2 x0 x1 x2 x3
      have ST := ST5.alloc #[.slice a3 R2.st.length c3, .int .i64 R2.seen, .int .i64 R2.over, .bool R2.done] 121
      clear ST5
      obtain ⟨g0, g1, g2⟩ := ST.at3 7 rfl
      obtain ⟨x0, x1, x2, x3⟩ := ST.at4 6 rfl
      obtain ⟨p0, p1, p2, p3⟩ := ST.at4 3 rfl
      have L1 := Lib.hid (ST.encT 4 rfl HWF1.out.1)
      have L2 := Lib.hid (ST.encV 5 rfl HWF1.out.2)
      go_wp2_with (fail)
      go_at_call 65
      refine (HB1.out _ ST.bel _ _ L1.out L2.out).mono ?_
      rintro e w6 ⟨rfl, hb6⟩
      replace ST := ST.call hb6
      clear hb6 L1 L2 g0 g1 g2 x0 x1 x2 x3 p0 p1 p2 p3
      obtain ⟨g0, g1, g2⟩ := ST.at3 7 rfl
      obtain ⟨x0, x1, x2, x3⟩ := ST.at4 6 rfl
      obtain ⟨p0, p1, p2, p3⟩ := ST.at4 0 rfl
      have L1 := Lib.hid (ST.encT 1 rfl HWF2.out.1)
      have L2 := Lib.hid (ST.encV 2 rfl HWF2.out.2)
      go_wp2_with (fail)
      go_at_call 65
      refine (HB2.out _ ST.bel _ _ L1.out L2.out).mono ?_
      rintro e w7 ⟨rfl, hb7⟩
      replace ST := ST.call hb7
      go_wp2
      go_ret
      exact ⟨rfl, ST.bel⟩
    · have hdum2 : True := trivial
      have rr : ¬ (term < 0 ∨ t ≤ term) := by omega
      obtain rfl : E1 = 0 := by rw [h1]; simp [rr]
      clear rr
      obtain rfl : E2 = 0 := by rw [h2]; simp
      clear h1 h2
      go_wp2_with (fail)
      go_at_call 63
      refine (HPU.out _ hst.bel).mono ?_
      rintro e w4 ⟨vs1, ve1, rfl, hst4⟩
      have ST := hst.joined hst4
      simp only [List.cons_append, List.nil_append] at ST
      clear hst hst4 g0 g1 g2 x0 x1 x2 x3
      obtain ⟨a1, c1, hv1⟩ := (ST.ownAt 0 rfl).isLen
      obtain ⟨a2, c2, hv2⟩ := (ST.ownAt 1 rfl).isLen
      rw [List.length_map] at hv1 hv2
      subst hv1 hv2
      replace ST := ST.alloc #[.slice a1 R1.st.length c1, .int .i64 R1.seen, .int .i64 R1.over, .bool R1.done] 121
      obtain ⟨g0, g1, g2⟩ := ST.at3 4 rfl
      obtain ⟨x0, x1, x2, x3⟩ := ST.at4 3 rfl
      go_wp2_with (fail)
      go_at_call 64
      refine (HEN.out _ ST.bel).mono ?_
      rintro e w5 ⟨vs3, ve3, rfl, hst5⟩
      have ST5 := ST.joined hst5
      simp only [List.cons_append, List.nil_append] at ST5
      obtain ⟨a3, c3, hv3⟩ := (ST5.ownAt 0 rfl).isLen
      obtain ⟨a4, c4, hv4⟩ := (ST5.ownAt 1 rfl).isLen
      rw [List.length_map] at hv3 hv4
      subst hv3 hv4
      clear ST hst5 g0 g1 g2 x0 x1 x2 x3
      have ST := ST5.alloc #[.slice a3 R2.st.length c3, .int .i64 R2.seen, .int .i64 R2.over, .bool R2.done] 121
      clear ST5
      obtain ⟨g0, g1, g2⟩ := ST.at3 7 rfl
      obtain ⟨x0, x1, x2, x3⟩ := ST.at4 6 rfl
      obtain ⟨p0, p1, p2, p3⟩ := ST.at4 3 rfl
      have L1 := Lib.hid (ST.encT 4 rfl HWF1.out.1)
      have L2 := Lib.hid (ST.encV 5 rfl HWF1.out.2)
      go_wp2_with (fail)
      go_at_call 65
      refine (HB1.out _ ST.bel _ _ L1.out L2.out).mono ?_
      rintro e w6 ⟨rfl, hb6⟩
      replace ST := ST.call hb6
      clear hb6 L1 L2 g0 g1 g2 x0 x1 x2 x3 p0 p1 p2 p3
      obtain ⟨g0, g1, g2⟩ := ST.at3 7 rfl
      obtain ⟨x0, x1, x2, x3⟩ := ST.at4 6 rfl
      obtain ⟨p0, p1, p2, p3⟩ := ST.at4 0 rfl
      have L1 := Lib.hid (ST.encT 1 rfl HWF2.out.1)
      have L2 := Lib.hid (ST.encV 2 rfl HWF2.out.2)
      go_wp2_with (fail)
      go_at_call 65
      refine (HB2.out _ ST.bel _ _ L1.out L2.out).mono ?_
      rintro e w7 ⟨rfl, hb7⟩
      replace ST := ST.call hb7
      go_wp2
      go_ret
      exact ⟨rfl, ST.bel⟩

def Enc.cli : Enc (List Cl.T × Int × Int × Bool) := Enc.prod (Enc.todo.sl 32) (Enc.prod (Enc.int .i64) (Enc.prod (Enc.int .i64) Enc.bool))
theorem cli_cells {F : Nat → Prop} {w : World} {cs : Array Value} {g : List Cl.T × Int × Int × Bool} (h : Enc.cli.R F w cs.toList g) :
    ∃ vs, cs = #[vs, .int .i64 g.2.1, .int .i64 g.2.2.1, .bool g.2.2.2] ∧ (Enc.todo.sl 32).R F w [vs] g.1 := by
  obtain ⟨c1, c2, e1, h1, c3, c4, e2, ⟨rfl, _⟩, c5, c6, e3, ⟨rfl, _⟩, h6⟩ := h
  have h4 := h1
  obtain ⟨ao, b, off, cap, rfl, _⟩ := h4
  subst e3 e2
  have h7 : c6 = [.bool g.2.2.2] := h6
  subst h7
  exact ⟨_, Array.toList_inj.1 e1, h1⟩
theorem opens_todo : Opens Try.prog 125 Enc.todo := by
  have hs : Opens Try.prog 96 Enc.two := opens_two Try.underlying96 (by kernel_rfl) rfl rfl (by kernel_rfl) (by kernel_rfl) Try.underlying3 Try.underlying3
  show Opens _ _ (Enc.prod Enc.bool (Enc.prod (Enc.int .i64) Enc.two))
  exact Opens.struct Try.underlying125 (by kernel_rfl) (OpensFrom.cons rfl rfl (by kernel_rfl) (Opens.bool Try.underlying4) (OpensFrom.cons rfl rfl (by kernel_rfl) (Opens.int Try.underlying3) (OpensFrom.last rfl rfl (by kernel_rfl) hs)))
theorem opens_cli : Opens Try.prog 121 Enc.cli := by
  have hp : Opens Try.prog 119 (Enc.todo.sl 32) := Opens.sl Try.underlying119 (by kernel_rfl) (by decide) (by kernel_rfl) opens_todo
  show Opens _ _ (Enc.prod (Enc.todo.sl 32) (Enc.prod (Enc.int .i64) (Enc.prod (Enc.int .i64) Enc.bool)))
  exact Opens.struct Try.underlying121 (by kernel_rfl) (OpensFrom.cons rfl rfl (by kernel_rfl) hp (OpensFrom.cons rfl rfl (by kernel_rfl) (Opens.int Try.underlying3) (OpensFrom.cons rfl rfl (by kernel_rfl) (Opens.int Try.underlying22) (OpensFrom.last rfl rfl (by kernel_rfl) (Opens.bool Try.underlying4)))))
theorem opens_rows : Opens Try.prog 45 (((Enc.int .i64).sl 8).sl 24) :=
  Opens.sl Try.underlying45 (by kernel_rfl) (by decide) (by kernel_rfl) (Opens.sl Try.underlying35 (by kernel_rfl) (by decide) (by kernel_rfl) (Opens.int Try.underlying3))
theorem climbSays_law (c0 c2 : Array Value) (vr : Value) (g : Int × Int × List (Int × List (Int × Int))) (rows : List (List Int)) (s : List Cl.T × Int × Int × Bool) (term : Int) (w : World) (h0 : Enc.gram.R (fun b => b < w.heap.size) w c0.toList g) (h1 : (((Enc.int .i64).sl 8).sl 24).R (fun b => b < w.heap.size) w [vr] rows) (h2 : Enc.cli.R (fun b => b < w.heap.size) w c2.toList s) :
    Calls Try.prog 12 #[.agg c0, vr, .agg c2, .int .i64 term] w fun e w' => e = .returned (.bool true) ∧ Below w.heap.size w w' := by
  obtain ⟨vp, rfl, hp, _, _⟩ := gram_cells h0
  obtain ⟨vs, rfl, hs⟩ := cli_cells h2
  exact climbSays_walk _ _ _ _ term _ vp vr vs _ _ _ w _ (fun _ h => h) hp h1 hs
end Go.Proofs.Ytldapomcjfkeeaa
