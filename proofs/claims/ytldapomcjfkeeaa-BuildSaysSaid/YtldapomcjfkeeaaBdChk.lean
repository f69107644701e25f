/-
  check of package build: what is wrong with a grammar, a table, a stack and a column.
-/
import Derived.Test.YtldapomcjfkeeaaBd
import Derived.Test.YtldapomcjfkeeaaSepAt
import Derived.Test.YtldapomcjfkeeaaTabAny
namespace Go.Proofs.Ytldapomcjfkeeaa
set_option linter.unusedVariables false
open Go.ChangeShapes Go.WideShapes Go.ChangeAt Go.RowKit

set_option maxRecDepth 100000 in
set_option maxHeartbeats 8000000 in
theorem bdCheck_te (t n seen ov col : Int) (dn : Bool) (vp va vg vs : Value) (l : List (Int × List (Int × Int))) (acts : List (List (Int × Int))) (gts : List (List Int)) (st : List Int) (w : World) (F : Nat → Prop) (hF : ∀ b, F b → b < w.heap.size) (h : Enc.prods.R F w [vp] l)
    (ha : ((Enc.two.sl 16).sl 24).R F w [va] acts) (hg : (((Enc.int .i64).sl 8).sl 24).R F w [vg] gts) (he : Tb.all t n l acts gts ≠ 0) :
    Calls Try.prog 121 #[.agg #[.int .i64 t, .int .i64 n, vp], .agg #[va, vg], .agg #[vs, .int .i64 seen, .int .i64 ov, .bool dn], .int .i64 col] w fun e w' => e = .returned (.int .i64 (Tb.all t n l acts gts)) ∧ Below w.heap.size w w' := by
  have hst := ((((St.init w).alloc #[.int .i64 t, .int .i64 n, vp] 68).alloc #[va, vg] 108).alloc #[vs, .int .i64 seen, .int .i64 ov, .bool dn] 110)
  simp only [World.size_alloc] at hst
  have HC := fun W' (hW : Below w.heap.size w W') => lrCheck_any t n vp va vg l acts gts W' F (fun b hb => Nat.lt_of_lt_of_le (hF b hb) hW.size) (Enc.mono _ h (fun _ h => h) (fun b hb => hW.block b (hF b hb))) (Enc.mono _ ha (fun _ h => h) (fun b hb => hW.block b (hF b hb))) (Enc.mono _ hg (fun _ h => h) (fun b hb => hW.block b (hF b hb)))
  generalize Tb.all t n l acts gts = E at *
  replace HC := Lib.hid HC
  have hne : (E != 0) = true := by rw [bne_iff_ne]; exact he
  clear he h ha hg hF
  go_enter Try.func121, Try.ntmps121
  go_wp2_with (fail)
  go_at_call 151
  refine (HC.out _ hst.bel).mono ?_
  rintro e w1 ⟨rfl, hb1⟩
  replace hst := hst.call hb1
  go_wp2
  go_ret
  exact ⟨rfl, hst.bel⟩

theorem St.at4 {w0 w : World} {μ : List Asrt} {g : Nat} {T : TypeId} {v0 v1 v2 v3 : Value} (h : St w0 w μ) (i : Nat) (hA : μ[i]? = some (aCel g T #[v0, v1, v2, v3])) : w.cell? ⟨g, 0, none⟩ = some v0 ∧ w.cell? ⟨g, 1, none⟩ = some v1 ∧ w.cell? ⟨g, 2, none⟩ = some v2 ∧ w.cell? ⟨g, 3, none⟩ = some v3 :=
  ⟨(h.nth i hA).celAt rfl, (h.nth i hA).celAt rfl, (h.nth i hA).celAt rfl, (h.nth i hA).celAt rfl⟩
theorem Bd.alts (len : Nat) (seen col t : Int) :
    60 < len ∨ (len ≤ 60 ∧ seen < 0) ∨ (len ≤ 60 ∧ 0 ≤ seen ∧ 1099511627776 < seen) ∨ (len ≤ 60 ∧ 0 ≤ seen ∧ seen ≤ 1099511627776 ∧ col < 0) ∨ (len ≤ 60 ∧ 0 ≤ seen ∧ seen ≤ 1099511627776 ∧ 0 ≤ col ∧ t < col) ∨
    (len ≤ 60 ∧ 0 ≤ seen ∧ seen ≤ 1099511627776 ∧ 0 ≤ col ∧ col ≤ t) := by omega

set_option maxRecDepth 100000 in
set_option maxHeartbeats 16000000 in
theorem bdCheck_ok (t n seen ov col : Int) (dn : Bool) (vp va vg vs : Value) (l : List (Int × List (Int × Int))) (acts : List (List (Int × Int))) (gts : List (List Int)) (st : List Int) (w : World) (F : Nat → Prop) (hF : ∀ b, F b → b < w.heap.size) (h : Enc.prods.R F w [vp] l)
    (ha : ((Enc.two.sl 16).sl 24).R F w [va] acts) (hg : (((Enc.int .i64).sl 8).sl 24).R F w [vg] gts) (hs : ((Enc.int .i64).sl 8).R F w [vs] st) (he : Tb.all t n l acts gts = 0) :
    Calls Try.prog 121 #[.agg #[.int .i64 t, .int .i64 n, vp], .agg #[va, vg], .agg #[vs, .int .i64 seen, .int .i64 ov, .bool dn], .int .i64 col] w fun e w' => e = .returned (.int .i64 (Bd.chk 0 t acts.length st seen (decide (ov ≠ 0) || dn) col)) ∧ Below w.heap.size w w' := by
  have HC := fun W' (hW : Below w.heap.size w W') => lrCheck_any t n vp va vg l acts gts W' F (fun b hb => Nat.lt_of_lt_of_le (hF b hb) hW.size) (Enc.mono _ h (fun _ h => h) (fun b hb => hW.block b (hF b hb))) (Enc.mono _ ha (fun _ h => h) (fun b hb => hW.block b (hF b hb))) (Enc.mono _ hg (fun _ h => h) (fun b hb => hW.block b (hF b hb)))
  rw [he] at HC
  replace HC := Lib.hid HC
  obtain ⟨aoa, -, -, ca, rfl, -⟩ := slSl ha
  have HI := fun W' (hW : Below w.heap.size w W') T hT => bdIn_any acts.length aoa ca vg T st vs W' F (Enc.mono _ hs (fun _ h => h) (fun b hb => hW.block b (hF b hb))) hT
  replace HI := Lib.hid HI
  obtain ⟨aos, -, -, cs, rfl, -⟩ := Enc.sl1 (En := Enc.int .i64) (Value.int .i64) (fun _ _ _ h => h.1) rfl 0 hs
  have hst := ((((St.init w).alloc #[.int .i64 t, .int .i64 n, vp] 68).alloc #[.slice aoa acts.length ca, vg] 108).alloc #[.slice aos st.length cs, .int .i64 seen, .int .i64 ov, .bool dn] 110)
  simp only [World.size_alloc] at hst
  have hov : (ov != 0) = decide (ov ≠ 0) := by
    by_cases hq : ov = 0
    · subst hq; rfl
    · rw [decide_eq_true hq, bne_iff_ne]; exact hq
  generalize hO : (decide (ov ≠ 0) || dn) = O
  generalize hA : st.any (Bd.out acts.length) = A at *
  generalize hR : Bd.chk 0 t acts.length st seen O col = R
  have HR := Lib.hid hR
  have HA := Lib.hid hA
  have HK : Hid ((st.length = 0 ∧ O = false → R = 1) ∧ (¬ (st.length ≤ 60 ∧ 0 ≤ seen ∧ seen ≤ 1099511627776 ∧ 0 ≤ col ∧ col ≤ t) → R = 1) ∧ (A = true → R = 1)
      ∧ ((¬ (st.length = 0 ∧ O = false) ∧ ¬ 60 < st.length ∧ 0 ≤ seen ∧ seen ≤ 1099511627776 ∧ 0 ≤ col ∧ col ≤ t) → A = false → R = if O = true then 15 else 0)) := Lib.hid (by
    rw [← hR, ← hA]
    refine ⟨fun g => Bd.chk_bad (fun q => ?_), fun g => Bd.chk_bad (fun q => ?_), fun g => Bd.chk_bad (fun q => ?_), fun g1 g2 => ?_⟩
    · have := (Bd.fits_iff.1 q.1).2.2.2.1
      rcases this with h | h
      · omega
      · rw [g.2] at h; cases h
    · have := Bd.fits_iff.1 q.1
      exact g ⟨this.1, this.2.1, this.2.2.1, q.2⟩
    · have := (Bd.fits_iff.1 q.1).2.2.2.2
      rw [g] at this; cases this
    · have hf : Bd.fits acts.length st seen O = true := Bd.fits_iff.2 ⟨by omega, by omega, by omega, (by
        rcases Nat.eq_zero_or_pos st.length with h | h
        · cases hq : O
          · exact absurd ⟨h, hq⟩ g1.1
          · exact .inr rfl
        · exact .inl h), g2⟩
      cases O
      · rw [Bd.chk_ok ⟨hf, by omega, by omega⟩]; rfl
      · rw [Bd.chk_over ⟨hf, by omega, by omega⟩]; rfl)
  clear h ha hg hF hs he hR hA HR
  have ho : (ov ≠ 0 ∧ O = true) ∨ (ov = 0 ∧ dn = true ∧ O = true) ∨ (ov = 0 ∧ dn = false ∧ O = false) := by
    rw [← hO]
    by_cases hq : ov = 0
    · cases dn <;> simp [hq]
    · exact .inl ⟨hq, by simp [hq]⟩
  clear hO
  clear hov
  rcases ho with ⟨o1, rfl⟩ | ⟨rfl, rfl, rfl⟩ | ⟨rfl, rfl, rfl⟩
  · have o1b : (ov != 0) = true := by rw [bne_iff_ne]; exact o1
    clear o1
    obtain ⟨zb, hzb⟩ : ∃ zb, ((st.length : Int) == 0) = zb := ⟨_, rfl⟩
    cases zb
    all_goals
      rcases Bd.alts st.length seen col t with h | ⟨h1, h⟩ | ⟨h1, h2, h⟩ | ⟨h1, h2, h3, h⟩ | ⟨h1, h2, h3, h4, h⟩ | ⟨h1, h2, h3, h4, h5⟩
      · have HE := Lib.hid (HK.out.2.1 (by omega))
        go_enter Try.func121, Try.ntmps121
        go_wp2_with (fail)
        go_at_call 151
        refine (HC.out _ hst.bel).mono ?_
        rintro e w1 ⟨rfl, hb1⟩
        replace hst := hst.call hb1
        clear hb1
        obtain ⟨g0, g1, g2⟩ := hst.at3 2 rfl
        obtain ⟨t0, t1⟩ := hst.at2 1 rfl
        obtain ⟨s0, s1, s2, s3⟩ := hst.at4 0 rfl
        go_wp2
        go_ret
        exact ⟨by rw [HE.out]; rfl, hst.bel⟩
      · have HE := Lib.hid (HK.out.2.1 (by omega))
        go_enter Try.func121, Try.ntmps121
        go_wp2_with (fail)
        go_at_call 151
        refine (HC.out _ hst.bel).mono ?_
        rintro e w1 ⟨rfl, hb1⟩
        replace hst := hst.call hb1
        clear hb1
        obtain ⟨g0, g1, g2⟩ := hst.at3 2 rfl
        obtain ⟨t0, t1⟩ := hst.at2 1 rfl
        obtain ⟨s0, s1, s2, s3⟩ := hst.at4 0 rfl
        go_wp2
        go_ret
        exact ⟨by rw [HE.out]; rfl, hst.bel⟩
      · have HE := Lib.hid (HK.out.2.1 (by omega))
        go_enter Try.func121, Try.ntmps121
        go_wp2_with (fail)
        go_at_call 151
        refine (HC.out _ hst.bel).mono ?_
        rintro e w1 ⟨rfl, hb1⟩
        replace hst := hst.call hb1
        clear hb1
        obtain ⟨g0, g1, g2⟩ := hst.at3 2 rfl
        obtain ⟨t0, t1⟩ := hst.at2 1 rfl
        obtain ⟨s0, s1, s2, s3⟩ := hst.at4 0 rfl
        go_wp2
        go_ret
        exact ⟨by rw [HE.out]; rfl, hst.bel⟩
      · have HE := Lib.hid (HK.out.2.1 (by omega))
        go_enter Try.func121, Try.ntmps121
        go_wp2_with (fail)
        go_at_call 151
        refine (HC.out _ hst.bel).mono ?_
        rintro e w1 ⟨rfl, hb1⟩
        replace hst := hst.call hb1
        clear hb1
        obtain ⟨g0, g1, g2⟩ := hst.at3 2 rfl
        obtain ⟨t0, t1⟩ := hst.at2 1 rfl
        obtain ⟨s0, s1, s2, s3⟩ := hst.at4 0 rfl
        go_wp2
        go_ret
        exact ⟨by rw [HE.out]; rfl, hst.bel⟩
      · have HE := Lib.hid (HK.out.2.1 (by omega))
        go_enter Try.func121, Try.ntmps121
        go_wp2_with (fail)
        go_at_call 151
        refine (HC.out _ hst.bel).mono ?_
        rintro e w1 ⟨rfl, hb1⟩
        replace hst := hst.call hb1
        clear hb1
        obtain ⟨g0, g1, g2⟩ := hst.at3 2 rfl
        obtain ⟨t0, t1⟩ := hst.at2 1 rfl
        obtain ⟨s0, s1, s2, s3⟩ := hst.at4 0 rfl
        go_wp2
        go_ret
        exact ⟨by rw [HE.out]; rfl, hst.bel⟩
      · have HE0 := Lib.hid (HK.out.2.2.2 ⟨by simp, by omega, h2, h3, h4, h5⟩)
        cases A
        · have HE := Lib.hid (HE0.out rfl)
          go_enter Try.func121, Try.ntmps121
          go_wp2_with (fail)
          go_at_call 151
          refine (HC.out _ hst.bel).mono ?_
          rintro e w1 ⟨rfl, hb1⟩
          replace hst := hst.call hb1
          clear hb1
          obtain ⟨g0, g1, g2⟩ := hst.at3 2 rfl
          obtain ⟨t0, t1⟩ := hst.at2 1 rfl
          obtain ⟨s0, s1, s2, s3⟩ := hst.at4 0 rfl
          go_wp2_with (fail)
          go_at_call 152
          refine (HI.out _ hst.bel (w.heap.size + 1) ⟨t0, t1⟩).mono ?_
          rintro e w2 ⟨rfl, hb2⟩
          replace hst := hst.call hb2
          go_wp2
          go_ret
          exact ⟨by rw [HE.out]; rfl, hst.bel⟩
        · have HE := Lib.hid (HK.out.2.2.1 rfl)
          go_enter Try.func121, Try.ntmps121
          go_wp2_with (fail)
          go_at_call 151
          refine (HC.out _ hst.bel).mono ?_
          rintro e w1 ⟨rfl, hb1⟩
          replace hst := hst.call hb1
          clear hb1
          obtain ⟨g0, g1, g2⟩ := hst.at3 2 rfl
          obtain ⟨t0, t1⟩ := hst.at2 1 rfl
          obtain ⟨s0, s1, s2, s3⟩ := hst.at4 0 rfl
          go_wp2_with (fail)
          go_at_call 152
          refine (HI.out _ hst.bel (w.heap.size + 1) ⟨t0, t1⟩).mono ?_
          rintro e w2 ⟨rfl, hb2⟩
          replace hst := hst.call hb2
          go_wp2
          go_ret
          exact ⟨by rw [HE.out]; rfl, hst.bel⟩
  · skip
    obtain ⟨zb, hzb⟩ : ∃ zb, ((st.length : Int) == 0) = zb := ⟨_, rfl⟩
    cases zb
    all_goals
      rcases Bd.alts st.length seen col t with h | ⟨h1, h⟩ | ⟨h1, h2, h⟩ | ⟨h1, h2, h3, h⟩ | ⟨h1, h2, h3, h4, h⟩ | ⟨h1, h2, h3, h4, h5⟩
      · have HE := Lib.hid (HK.out.2.1 (by omega))
        go_enter Try.func121, Try.ntmps121
        go_wp2_with (fail)
        go_at_call 151
        refine (HC.out _ hst.bel).mono ?_
        rintro e w1 ⟨rfl, hb1⟩
        replace hst := hst.call hb1
        clear hb1
        obtain ⟨g0, g1, g2⟩ := hst.at3 2 rfl
        obtain ⟨t0, t1⟩ := hst.at2 1 rfl
        obtain ⟨s0, s1, s2, s3⟩ := hst.at4 0 rfl
        go_wp2
        go_ret
        exact ⟨by rw [HE.out]; rfl, hst.bel⟩
      · have HE := Lib.hid (HK.out.2.1 (by omega))
        go_enter Try.func121, Try.ntmps121
        go_wp2_with (fail)
        go_at_call 151
        refine (HC.out _ hst.bel).mono ?_
        rintro e w1 ⟨rfl, hb1⟩
        replace hst := hst.call hb1
        clear hb1
        obtain ⟨g0, g1, g2⟩ := hst.at3 2 rfl
        obtain ⟨t0, t1⟩ := hst.at2 1 rfl
        obtain ⟨s0, s1, s2, s3⟩ := hst.at4 0 rfl
        go_wp2
        go_ret
        exact ⟨by rw [HE.out]; rfl, hst.bel⟩
      · have HE := Lib.hid (HK.out.2.1 (by omega))
        go_enter Try.func121, Try.ntmps121
        go_wp2_with (fail)
        go_at_call 151
        refine (HC.out _ hst.bel).mono ?_
        rintro e w1 ⟨rfl, hb1⟩
        replace hst := hst.call hb1
        clear hb1
        obtain ⟨g0, g1, g2⟩ := hst.at3 2 rfl
        obtain ⟨t0, t1⟩ := hst.at2 1 rfl
        obtain ⟨s0, s1, s2, s3⟩ := hst.at4 0 rfl
        go_wp2
        go_ret
        exact ⟨by rw [HE.out]; rfl, hst.bel⟩
      · have HE := Lib.hid (HK.out.2.1 (by omega))
        go_enter Try.func121, Try.ntmps121
        go_wp2_with (fail)
        go_at_call 151
        refine (HC.out _ hst.bel).mono ?_
        rintro e w1 ⟨rfl, hb1⟩
        replace hst := hst.call hb1
        clear hb1
        obtain ⟨g0, g1, g2⟩ := hst.at3 2 rfl
        obtain ⟨t0, t1⟩ := hst.at2 1 rfl
        obtain ⟨s0, s1, s2, s3⟩ := hst.at4 0 rfl
        go_wp2
        go_ret
        exact ⟨by rw [HE.out]; rfl, hst.bel⟩
      · have HE := Lib.hid (HK.out.2.1 (by omega))
        go_enter Try.func121, Try.ntmps121
        go_wp2_with (fail)
        go_at_call 151
        refine (HC.out _ hst.bel).mono ?_
        rintro e w1 ⟨rfl, hb1⟩
        replace hst := hst.call hb1
        clear hb1
        obtain ⟨g0, g1, g2⟩ := hst.at3 2 rfl
        obtain ⟨t0, t1⟩ := hst.at2 1 rfl
        obtain ⟨s0, s1, s2, s3⟩ := hst.at4 0 rfl
        go_wp2
        go_ret
        exact ⟨by rw [HE.out]; rfl, hst.bel⟩
      · have HE0 := Lib.hid (HK.out.2.2.2 ⟨by simp, by omega, h2, h3, h4, h5⟩)
        cases A
        · have HE := Lib.hid (HE0.out rfl)
          go_enter Try.func121, Try.ntmps121
          go_wp2_with (fail)
          go_at_call 151
          refine (HC.out _ hst.bel).mono ?_
          rintro e w1 ⟨rfl, hb1⟩
          replace hst := hst.call hb1
          clear hb1
          obtain ⟨g0, g1, g2⟩ := hst.at3 2 rfl
          obtain ⟨t0, t1⟩ := hst.at2 1 rfl
          obtain ⟨s0, s1, s2, s3⟩ := hst.at4 0 rfl
          go_wp2_with (fail)
          go_at_call 152
          refine (HI.out _ hst.bel (w.heap.size + 1) ⟨t0, t1⟩).mono ?_
          rintro e w2 ⟨rfl, hb2⟩
          replace hst := hst.call hb2
          go_wp2
          go_ret
          exact ⟨by rw [HE.out]; rfl, hst.bel⟩
        · have HE := Lib.hid (HK.out.2.2.1 rfl)
          go_enter Try.func121, Try.ntmps121
          go_wp2_with (fail)
          go_at_call 151
          refine (HC.out _ hst.bel).mono ?_
          rintro e w1 ⟨rfl, hb1⟩
          replace hst := hst.call hb1
          clear hb1
          obtain ⟨g0, g1, g2⟩ := hst.at3 2 rfl
          obtain ⟨t0, t1⟩ := hst.at2 1 rfl
          obtain ⟨s0, s1, s2, s3⟩ := hst.at4 0 rfl
          go_wp2_with (fail)
          go_at_call 152
          refine (HI.out _ hst.bel (w.heap.size + 1) ⟨t0, t1⟩).mono ?_
          rintro e w2 ⟨rfl, hb2⟩
          replace hst := hst.call hb2
          go_wp2
          go_ret
          exact ⟨by rw [HE.out]; rfl, hst.bel⟩
  · skip
    by_cases hz : st.length = 0
    · have HE := Lib.hid (HK.out.1 ⟨hz, rfl⟩)
      have hzb : ((st.length : Int) == 0) = true := by rw [beq_iff_eq]; omega
      clear hz
      go_enter Try.func121, Try.ntmps121
      go_wp2_with (fail)
      go_at_call 151
      refine (HC.out _ hst.bel).mono ?_
      rintro e w1 ⟨rfl, hb1⟩
      replace hst := hst.call hb1
      clear hb1
      obtain ⟨g0, g1, g2⟩ := hst.at3 2 rfl
      obtain ⟨t0, t1⟩ := hst.at2 1 rfl
      obtain ⟨s0, s1, s2, s3⟩ := hst.at4 0 rfl
      go_wp2
      go_ret
      exact ⟨by rw [HE.out]; rfl, hst.bel⟩
    have hzb : ((st.length : Int) == 0) = false := by rw [beq_eq_false_iff_ne]; omega
    have hpos : 0 < st.length := by omega
    rcases Bd.alts st.length seen col t with h | ⟨h1, h⟩ | ⟨h1, h2, h⟩ | ⟨h1, h2, h3, h⟩ | ⟨h1, h2, h3, h4, h⟩ | ⟨h1, h2, h3, h4, h5⟩
    · have HE := Lib.hid (HK.out.2.1 (by omega))
      go_enter Try.func121, Try.ntmps121
      go_wp2_with (fail)
      go_at_call 151
      refine (HC.out _ hst.bel).mono ?_
      rintro e w1 ⟨rfl, hb1⟩
      replace hst := hst.call hb1
      clear hb1
      obtain ⟨g0, g1, g2⟩ := hst.at3 2 rfl
      obtain ⟨t0, t1⟩ := hst.at2 1 rfl
      obtain ⟨s0, s1, s2, s3⟩ := hst.at4 0 rfl
      go_wp2
      go_ret
      exact ⟨by rw [HE.out]; rfl, hst.bel⟩
    · have HE := Lib.hid (HK.out.2.1 (by omega))
      go_enter Try.func121, Try.ntmps121
      go_wp2_with (fail)
      go_at_call 151
      refine (HC.out _ hst.bel).mono ?_
      rintro e w1 ⟨rfl, hb1⟩
      replace hst := hst.call hb1
      clear hb1
      obtain ⟨g0, g1, g2⟩ := hst.at3 2 rfl
      obtain ⟨t0, t1⟩ := hst.at2 1 rfl
      obtain ⟨s0, s1, s2, s3⟩ := hst.at4 0 rfl
      go_wp2
      go_ret
      exact ⟨by rw [HE.out]; rfl, hst.bel⟩
    · have HE := Lib.hid (HK.out.2.1 (by omega))
      go_enter Try.func121, Try.ntmps121
      go_wp2_with (fail)
      go_at_call 151
      refine (HC.out _ hst.bel).mono ?_
      rintro e w1 ⟨rfl, hb1⟩
      replace hst := hst.call hb1
      clear hb1
      obtain ⟨g0, g1, g2⟩ := hst.at3 2 rfl
      obtain ⟨t0, t1⟩ := hst.at2 1 rfl
      obtain ⟨s0, s1, s2, s3⟩ := hst.at4 0 rfl
      go_wp2
      go_ret
      exact ⟨by rw [HE.out]; rfl, hst.bel⟩
    · have HE := Lib.hid (HK.out.2.1 (by omega))
      go_enter Try.func121, Try.ntmps121
      go_wp2_with (fail)
      go_at_call 151
      refine (HC.out _ hst.bel).mono ?_
      rintro e w1 ⟨rfl, hb1⟩
      replace hst := hst.call hb1
      clear hb1
      obtain ⟨g0, g1, g2⟩ := hst.at3 2 rfl
      obtain ⟨t0, t1⟩ := hst.at2 1 rfl
      obtain ⟨s0, s1, s2, s3⟩ := hst.at4 0 rfl
      go_wp2
      go_ret
      exact ⟨by rw [HE.out]; rfl, hst.bel⟩
    · have HE := Lib.hid (HK.out.2.1 (by omega))
      go_enter Try.func121, Try.ntmps121
      go_wp2_with (fail)
      go_at_call 151
      refine (HC.out _ hst.bel).mono ?_
      rintro e w1 ⟨rfl, hb1⟩
      replace hst := hst.call hb1
      clear hb1
      obtain ⟨g0, g1, g2⟩ := hst.at3 2 rfl
      obtain ⟨t0, t1⟩ := hst.at2 1 rfl
      obtain ⟨s0, s1, s2, s3⟩ := hst.at4 0 rfl
      go_wp2
      go_ret
      exact ⟨by rw [HE.out]; rfl, hst.bel⟩
    · have HE0 := Lib.hid (HK.out.2.2.2 ⟨fun q => by omega, by omega, h2, h3, h4, h5⟩)
      cases A
      · have HE := Lib.hid (HE0.out rfl)
        go_enter Try.func121, Try.ntmps121
        go_wp2_with (fail)
        go_at_call 151
        refine (HC.out _ hst.bel).mono ?_
        rintro e w1 ⟨rfl, hb1⟩
        replace hst := hst.call hb1
        clear hb1
        obtain ⟨g0, g1, g2⟩ := hst.at3 2 rfl
        obtain ⟨t0, t1⟩ := hst.at2 1 rfl
        obtain ⟨s0, s1, s2, s3⟩ := hst.at4 0 rfl
        go_wp2_with (fail)
        go_at_call 152
        refine (HI.out _ hst.bel (w.heap.size + 1) ⟨t0, t1⟩).mono ?_
        rintro e w2 ⟨rfl, hb2⟩
        replace hst := hst.call hb2
        go_wp2
        go_ret
        exact ⟨by rw [HE.out]; rfl, hst.bel⟩
      · have HE := Lib.hid (HK.out.2.2.1 rfl)
        go_enter Try.func121, Try.ntmps121
        go_wp2_with (fail)
        go_at_call 151
        refine (HC.out _ hst.bel).mono ?_
        rintro e w1 ⟨rfl, hb1⟩
        replace hst := hst.call hb1
        clear hb1
        obtain ⟨g0, g1, g2⟩ := hst.at3 2 rfl
        obtain ⟨t0, t1⟩ := hst.at2 1 rfl
        obtain ⟨s0, s1, s2, s3⟩ := hst.at4 0 rfl
        go_wp2_with (fail)
        go_at_call 152
        refine (HI.out _ hst.bel (w.heap.size + 1) ⟨t0, t1⟩).mono ?_
        rintro e w2 ⟨rfl, hb2⟩
        replace hst := hst.call hb2
        go_wp2
        go_ret
        exact ⟨by rw [HE.out]; rfl, hst.bel⟩
end Go.Proofs.Ytldapomcjfkeeaa
