/-
  PlacesRuns: the law's walk.
-/
import Derived.Test.YtldapomcjfkeeaaPlDone
import Derived.Test.YtldapomcjfkeeaaSlEq
namespace Go.Proofs.Ytldapomcjfkeeaa
set_option linter.unusedVariables false
open Go.ChangeShapes Go.WideShapes Go.ChangeAt Go.RowKit

set_option maxRecDepth 100000 in
set_option maxHeartbeats 1600000 in
theorem placesRuns_walk (vc vr vi vo vl ve : Value) (cl : List (List Int)) (ru fi : List Int) (fo : List (List Int)) (la em : List Bool) (s : ByteArray) (hs : s.size ≤ 140737488355328) (w : World) (F : Nat → Prop) (hF : ∀ b, F b → b < w.heap.size) (h1 : ((Enc.row .u64 4).sl 32).R F w [vc] cl) (h2 : ((Enc.int .i64).sl 8).R F w [vr] ru) (h3 : ((Enc.int .i64).sl 8).R F w [vi] fi)
    (h4 : (((Enc.int .i64).sl 8).sl 24).R F w [vo] fo) (h5 : (Enc.bool.sl 1).R F w [vl] la) (h6 : (Enc.bool.sl 1).R F w [ve] em) :
    Calls Try.prog 6 #[.agg #[vc, vr, vi, vo, vl, ve], .string s] w fun e w' => e = .returned (.bool true) ∧ Below w.heap.size w w' := by
  have HC1 := Lib.hid (fun (W : World) (hW : Below w.heap.size w W) => rPosn_any vc vr vi vo vl ve cl ru fi fo la em W F (fun b hb => Nat.lt_of_lt_of_le (hF b hb) hW.size) (Enc.mono _ h1 (fun _ h => h) (fun b hb => hW.block b (hF b hb))) (Enc.mono _ h2 (fun _ h => h) (fun b hb => hW.block b (hF b hb))) (Enc.mono _ h3 (fun _ h => h) (fun b hb => hW.block b (hF b hb))) (Enc.mono _ h4 (fun _ h => h) (fun b hb => hW.block b (hF b hb))) (Enc.mono _ h5 (fun _ h => h) (fun b hb => hW.block b (hF b hb))) (Enc.mono _ h6 (fun _ h => h) (fun b hb => hW.block b (hF b hb))))
  have HC2 := Lib.hid (fun (W : World) (hW : Below w.heap.size w W) => posnChk_any vc vr vi vo vl ve cl ru fi fo la em W F (fun b hb => Nat.lt_of_lt_of_le (hF b hb) hW.size) (Enc.mono _ h1 (fun _ h => h) (fun b hb => hW.block b (hF b hb))) (Enc.mono _ h2 (fun _ h => h) (fun b hb => hW.block b (hF b hb))) (Enc.mono _ h3 (fun _ h => h) (fun b hb => hW.block b (hF b hb))) (Enc.mono _ h4 (fun _ h => h) (fun b hb => hW.block b (hF b hb))) (Enc.mono _ h5 (fun _ h => h) (fun b hb => hW.block b (hF b hb))) (Enc.mono _ h6 (fun _ h => h) (fun b hb => hW.block b (hF b hb))))
  have HRN := Lib.hid (fun (W : World) (hW : Below w.heap.size w W) => plRun_any vc vr vi vo vl ve cl ru fi fo la em s hs W F (fun b hb => Nat.lt_of_lt_of_le (hF b hb) hW.size) (Enc.mono _ h1 (fun _ h => h) (fun b hb => hW.block b (hF b hb))) (Enc.mono _ h2 (fun _ h => h) (fun b hb => hW.block b (hF b hb))) (Enc.mono _ h3 (fun _ h => h) (fun b hb => hW.block b (hF b hb))) (Enc.mono _ h4 (fun _ h => h) (fun b hb => hW.block b (hF b hb))) (Enc.mono _ h5 (fun _ h => h) (fun b hb => hW.block b (hF b hb))) (Enc.mono _ h6 (fun _ h => h) (fun b hb => hW.block b (hF b hb))))
  have HRU := Lib.hid (fun (W : World) (hW : Below w.heap.size w W) => plRules_any vc vr vi vo vl ve cl ru fi fo la em s hs W F (fun b hb => Nat.lt_of_lt_of_le (hF b hb) hW.size) (Enc.mono _ h1 (fun _ h => h) (fun b hb => hW.block b (hF b hb))) (Enc.mono _ h2 (fun _ h => h) (fun b hb => hW.block b (hF b hb))) (Enc.mono _ h3 (fun _ h => h) (fun b hb => hW.block b (hF b hb))) (Enc.mono _ h4 (fun _ h => h) (fun b hb => hW.block b (hF b hb))) (Enc.mono _ h5 (fun _ h => h) (fun b hb => hW.block b (hF b hb))) (Enc.mono _ h6 (fun _ h => h) (fun b hb => hW.block b (hF b hb))))
  have HAT := Lib.hid (fun (hE : Pl.err cl.length ru fi fo la.length em.length = 0) (h2 : s.size ≤ 200) (W : World) (hW : Below w.heap.size w W) => plAt_any vc vr vi vo vl ve cl ru fi fo la em s h2 W F (fun b hb => Nat.lt_of_lt_of_le (hF b hb) hW.size) (Enc.mono _ h1 (fun _ h => h) (fun b hb => hW.block b (hF b hb))) (Enc.mono _ h3 (fun _ h => h) (fun b hb => hW.block b (hF b hb))) (Enc.mono _ h4 (fun _ h => h) (fun b hb => hW.block b (hF b hb))) hE)
  have HDN := Lib.hid (fun (hE : Pl.err cl.length ru fi fo la.length em.length = 0) (hq : s.size ≤ 200) (W : World) (hW : Below w.heap.size w W) => plDone_any vc vr vi vo vl ve cl ru fi fo la em s hq W F (fun b hb => Nat.lt_of_lt_of_le (hF b hb) hW.size) (Enc.mono _ h1 (fun _ h => h) (fun b hb => hW.block b (hF b hb))) (Enc.mono _ h2 (fun _ h => h) (fun b hb => hW.block b (hF b hb))) (Enc.mono _ h3 (fun _ h => h) (fun b hb => hW.block b (hF b hb))) (Enc.mono _ h4 (fun _ h => h) (fun b hb => hW.block b (hF b hb))) (Enc.mono _ h5 (fun _ h => h) (fun b hb => hW.block b (hF b hb))) (Enc.mono _ h6 (fun _ h => h) (fun b hb => hW.block b (hF b hb))) hE)
  obtain ⟨ac, _, _, cc, rfl, -⟩ := slCls h1
  obtain ⟨ar, _, _, cr, rfl, -⟩ := slInt h2
  obtain ⟨ai, _, _, ci, rfl, -⟩ := slInt h3
  obtain ⟨ao, _, _, co, rfl, -⟩ := slRowsI h4
  obtain ⟨al, _, _, cl', rfl, -⟩ := slBool h5
  obtain ⟨ae, _, _, ce, rfl, -⟩ := slBool h6
  have hst := (St.init w).alloc #[.slice ac cl.length cc, .slice ar ru.length cr, .slice ai fi.length ci, .slice ao fo.length co, .slice al la.length cl', .slice ae em.length ce] 56
  clear h1 h2 h3 h4 h5 h6 hF
  have HRM := Lib.hid (fun (h : Pl.err cl.length ru fi fo la.length em.length = 0) => (Pl.err_parts h).1)
  have HRL := Lib.hid (fun (h : Pl.err cl.length ru fi fo la.length em.length = 0) => (Pl.err_parts h).2.2.2.2.2.2.2.1)
  obtain ⟨E, hE⟩ : ∃ E, Pl.err cl.length ru fi fo la.length em.length = E := ⟨_, rfl⟩
  rw [hE] at HC1 HC2 HRN HRU HAT HDN HRM HRL
  clear hE
  by_cases hE0 : E = 0
  · subst hE0
    have HAT0 := Lib.hid (HAT.out rfl)
    have HDN0 := Lib.hid (HDN.out rfl)
    have HRM0 := Lib.hid (HRM.out rfl)
    have HRL0 := Lib.hid (HRL.out rfl)
    clear HAT HDN HRM HRL
    by_cases h200 : 200 < s.size
    · rw [Pl.runE_large h200] at HRN HRU
      have h2' : (200 : Int) < s.size := by omega
      clear h200
      simp only [show ¬ ((2 : Int) = 0) by decide, if_false] at HRN HRU
      go_enter Try.func6, Try.ntmps6
      go_wp2_with (fail)
      go_at_call 23
      refine (HC1.out _ hst.bel).mono ?_
      rintro e w1 ⟨rfl, hb1⟩
      replace hst := hst.call hb1
      clear hb1
      obtain ⟨x0, x1, x2, x3, x4, x5⟩ := hst.at6 0 rfl
      go_wp2_with (fail)
      go_at_call 24
      refine (HC2.out _ hst.bel).mono ?_
      rintro e w2 ⟨rfl, hb2⟩
      replace hst := hst.call hb2
      clear hb2 x0 x1 x2 x3 x4 x5
      obtain ⟨x0, x1, x2, x3, x4, x5⟩ := hst.at6 0 rfl
      go_wp2_with (fail)
      go_at_call 25
      refine (HRN.out _ hst.bel).mono ?_
      rintro e w3 ⟨v3, rfl, ho3, hb3⟩
      obtain ⟨a3, c3, rfl⟩ := ho3.isLen
      rw [List.length_map] at ho3 ⊢
      replace hst := hst.pushOwn hb3 ho3
      clear hb3 ho3 x0 x1 x2 x3 x4 x5
      obtain ⟨x0, x1, x2, x3, x4, x5⟩ := hst.at6 1 rfl
      go_wp2_with (fail)
      go_at_call 26
      refine (HRU.out _ hst.bel).mono ?_
      rintro e w4 ⟨v4, rfl, ho4, hb4⟩
      obtain ⟨a4, c4, rfl⟩ := ho4.isLen
      rw [List.length_map] at ho4 ⊢
      replace hst := hst.pushOwn hb4 ho4
      clear hb4 ho4 x0 x1 x2 x3 x4 x5
      obtain ⟨x0, x1, x2, x3, x4, x5⟩ := hst.at6 2 rfl
      go_wp2
      go_ret
      exact ⟨rfl, hst.bel⟩
    · rw [Pl.runE_ok h200] at HRN HRU
      simp only [if_true] at HRN HRU
      have h2' : (s.size : Int) ≤ 200 := by omega
      have hq200 : s.size ≤ 200 := by omega
      clear h200
      have hrm := Pl.run_mem (cl := cl) (fo := fo) (fi := fi) (s := s) (k := s.size)
      have hrl := Pl.run_len (cl := cl) (fo := fo) (fi := fi) (s := s) (k := s.size)
      have hum : ∀ x : Int, x ∈ Pl.rules ru la em (Pl.run cl fo fi s s.size) (decide (s.size = 0)) → 0 ≤ x ∧ x < em.length := by unfold Pl.rules; exact Pl.idx_mem
      have hul : (Pl.rules ru la em (Pl.run cl fo fi s s.size) (decide (s.size = 0))).length ≤ em.length := by unfold Pl.rules; exact Pl.idx_len
      generalize Pl.rules ru la em (Pl.run cl fo fi s s.size) (decide (s.size = 0)) = UL at *
      generalize Pl.run cl fo fi s s.size = RL at *
      have HUM := Lib.hid hum
      have HRMM := Lib.hid hrm
      clear hum hrm
      rcases (by omega : (40 : Int) < s.size ∨ (s.size : Int) ≤ 40) with h40 | h40
      · skip
        go_enter Try.func6, Try.ntmps6
        go_wp2_with (fail)
        go_at_call 23
        refine (HC1.out _ hst.bel).mono ?_
        rintro e w1 ⟨rfl, hb1⟩
        replace hst := hst.call hb1
        clear hb1
        obtain ⟨x0, x1, x2, x3, x4, x5⟩ := hst.at6 0 rfl
        go_wp2_with (fail)
        go_at_call 24
        refine (HC2.out _ hst.bel).mono ?_
        rintro e w2 ⟨rfl, hb2⟩
        replace hst := hst.call hb2
        clear hb2 x0 x1 x2 x3 x4 x5
        obtain ⟨x0, x1, x2, x3, x4, x5⟩ := hst.at6 0 rfl
        go_wp2_with (fail)
        go_at_call 25
        refine (HRN.out _ hst.bel).mono ?_
        rintro e w3 ⟨v3, rfl, ho3, hb3⟩
        obtain ⟨a3, c3, rfl⟩ := ho3.isLen
        rw [List.length_map] at ho3 ⊢
        replace hst := hst.pushOwn hb3 ho3
        clear hb3 ho3 x0 x1 x2 x3 x4 x5
        obtain ⟨x0, x1, x2, x3, x4, x5⟩ := hst.at6 1 rfl
        go_wp2_with (fail)
        go_at_call 26
        refine (HRU.out _ hst.bel).mono ?_
        rintro e w4 ⟨v4, rfl, ho4, hb4⟩
        obtain ⟨a4, c4, rfl⟩ := ho4.isLen
        rw [List.length_map] at ho4 ⊢
        replace hst := hst.pushOwn hb4 ho4
        clear hb4 ho4 x0 x1 x2 x3 x4 x5
        obtain ⟨x0, x1, x2, x3, x4, x5⟩ := hst.at6 2 rfl
        go_wp2
        go_ret
        exact ⟨rfl, hst.bel⟩
      · skip
        go_enter Try.func6, Try.ntmps6
        go_wp2_with (fail)
        go_at_call 23
        refine (HC1.out _ hst.bel).mono ?_
        rintro e w1 ⟨rfl, hb1⟩
        replace hst := hst.call hb1
        clear hb1
        obtain ⟨x0, x1, x2, x3, x4, x5⟩ := hst.at6 0 rfl
        go_wp2_with (fail)
        go_at_call 24
        refine (HC2.out _ hst.bel).mono ?_
        rintro e w2 ⟨rfl, hb2⟩
        replace hst := hst.call hb2
        clear hb2 x0 x1 x2 x3 x4 x5
        obtain ⟨x0, x1, x2, x3, x4, x5⟩ := hst.at6 0 rfl
        go_wp2_with (fail)
        go_at_call 25
        refine (HRN.out _ hst.bel).mono ?_
        rintro e w3 ⟨v3, rfl, ho3, hb3⟩
        obtain ⟨a3, c3, rfl⟩ := ho3.isLen
        rw [List.length_map] at ho3 ⊢
        replace hst := hst.pushOwn hb3 ho3
        clear hb3 ho3 x0 x1 x2 x3 x4 x5
        obtain ⟨x0, x1, x2, x3, x4, x5⟩ := hst.at6 1 rfl
        go_wp2_with (fail)
        go_at_call 26
        refine (HRU.out _ hst.bel).mono ?_
        rintro e w4 ⟨v4, rfl, ho4, hb4⟩
        obtain ⟨a4, c4, rfl⟩ := ho4.isLen
        rw [List.length_map] at ho4 ⊢
        replace hst := hst.pushOwn hb4 ho4
        clear hb4 ho4 x0 x1 x2 x3 x4 x5
        obtain ⟨x0, x1, x2, x3, x4, x5⟩ := hst.at6 2 rfl
        have HE1 := Lib.hid (Own.encI (hst.ownAt 1 rfl) HRM0.out HRMM.out hrl)
        have HE2 := Lib.hid (Own.encI (hst.ownAt 0 rfl) (Nat.le_trans HRL0.out (by decide)) HUM.out hul)
        go_wp2_with (fail)
        go_at_call 28
        refine (HAT0.out hq200 _ hst.bel).mono ?_
        rintro e w5 ⟨v5, rfl, ho5, hb5⟩
        have HE5 := Lib.hid (Own.encI ho5 HRM0.out HRMM.out hrl)
        obtain ⟨a5, c5, rfl⟩ := ho5.isLen
        rw [List.length_map] at HE5 ⊢
        have HE1' := Lib.hid (Enc.mono _ HE1.out (fun _ h => h) (fun b hb => hb5.block b hb))
        replace hst := hst.call hb5
        clear ho5 x0 x1 x2 x3 x4 x5
        go_wp2_with (fail)
        go_at_call 27
        refine (eqInts (l := RL) _ (Enc.toSl HE1'.out) (Enc.toSl HE5.out)).mono ?_
        rintro e w6 ⟨rfl, hb6⟩
        have hb46 := hb5.trans (hb6.mono hb5.size)
        replace hst := hst.call hb6
        clear HE1' HE5 HE1 hb6 hb5
        obtain ⟨x0, x1, x2, x3, x4, x5⟩ := hst.at6 2 rfl
        go_wp2_with (fail)
        go_at_call 29
        refine (HDN0.out hq200 _ hst.bel).mono ?_
        rintro e w7 ⟨v7, rfl, ho7, hb7⟩
        have HE7 := Lib.hid (Own.encI ho7 (Nat.le_trans HRL0.out (by decide)) HUM.out hul)
        obtain ⟨a7, c7, rfl⟩ := ho7.isLen
        rw [List.length_map] at HE7 ⊢
        have hb47 := hb46.trans (hb7.mono hb46.size)
        have HE2' := Lib.hid (Enc.mono _ HE2.out (fun _ h => h) (fun b hb => hb47.block b hb))
        replace hst := hst.call hb7
        clear ho7 x0 x1 x2 x3 x4 x5
        go_wp2_with (fail)
        go_at_call 27
        refine (eqInts (l := UL) _ (Enc.toSl HE2'.out) (Enc.toSl HE7.out)).mono ?_
        rintro e w8 ⟨rfl, hb8⟩
        replace hst := hst.call hb8
        clear HE2' HE7 HE2 hb8 hb7 hb46 hb47
        go_wp2
        go_ret
        exact ⟨rfl, hst.bel⟩
  · rw [Pl.runE_ne hE0, if_neg hE0] at HRN HRU
    have hEb : (E == 0) = false := by rw [beq_eq_false_iff_ne]; exact hE0
    have hEn : (E != 0) = true := by rw [bne_iff_ne]; exact hE0
    have hEE : (E == E) = true := by rw [beq_iff_eq]
    have hEn2 : (E != E) = false := by rw [bne_eq_false_iff_eq]
    clear hE0
    go_enter Try.func6, Try.ntmps6
    go_wp2_with (fail)
    go_at_call 23
    refine (HC1.out _ hst.bel).mono ?_
    rintro e w1 ⟨rfl, hb1⟩
    replace hst := hst.call hb1
    clear hb1
    obtain ⟨x0, x1, x2, x3, x4, x5⟩ := hst.at6 0 rfl
    go_wp2_with (fail)
    go_at_call 24
    refine (HC2.out _ hst.bel).mono ?_
    rintro e w2 ⟨rfl, hb2⟩
    replace hst := hst.call hb2
    clear hb2 x0 x1 x2 x3 x4 x5
    obtain ⟨x0, x1, x2, x3, x4, x5⟩ := hst.at6 0 rfl
    go_wp2_with (fail)
    go_at_call 25
    refine (HRN.out _ hst.bel).mono ?_
    rintro e w3 ⟨v3, rfl, ho3, hb3⟩
    obtain ⟨a3, c3, rfl⟩ := ho3.isLen
    rw [List.length_map] at ho3 ⊢
    replace hst := hst.pushOwn hb3 ho3
    clear hb3 ho3 x0 x1 x2 x3 x4 x5
    obtain ⟨x0, x1, x2, x3, x4, x5⟩ := hst.at6 1 rfl
    go_wp2_with (fail)
    go_at_call 26
    refine (HRU.out _ hst.bel).mono ?_
    rintro e w4 ⟨v4, rfl, ho4, hb4⟩
    obtain ⟨a4, c4, rfl⟩ := ho4.isLen
    rw [List.length_map] at ho4 ⊢
    replace hst := hst.pushOwn hb4 ho4
    clear hb4 ho4 x0 x1 x2 x3 x4 x5
    obtain ⟨x0, x1, x2, x3, x4, x5⟩ := hst.at6 2 rfl
    go_wp2
    go_ret
    exact ⟨rfl, hst.bel⟩

def Enc.posn : Enc (List (List Int) × List Int × List Int × List (List Int) × List Bool × List Bool) := Enc.prod ((Enc.row .u64 4).sl 32) (Enc.prod ((Enc.int .i64).sl 8) (Enc.prod ((Enc.int .i64).sl 8) (Enc.prod (((Enc.int .i64).sl 8).sl 24) (Enc.prod (Enc.bool.sl 1) (Enc.bool.sl 1)))))
theorem posn_cells {F : Nat → Prop} {w : World} {cs : Array Value} {g : List (List Int) × List Int × List Int × List (List Int) × List Bool × List Bool} (h : Enc.posn.R F w cs.toList g) :
    ∃ vc vr vi vo vl ve, cs = #[vc, vr, vi, vo, vl, ve] ∧ ((Enc.row .u64 4).sl 32).R F w [vc] g.1 ∧ ((Enc.int .i64).sl 8).R F w [vr] g.2.1 ∧ ((Enc.int .i64).sl 8).R F w [vi] g.2.2.1 ∧ (((Enc.int .i64).sl 8).sl 24).R F w [vo] g.2.2.2.1 ∧ (Enc.bool.sl 1).R F w [vl] g.2.2.2.2.1 ∧ (Enc.bool.sl 1).R F w [ve] g.2.2.2.2.2 := by
  obtain ⟨c1, d1, e1, h1, c2, d2, e2, h2, c3, d3, e3, h3, c4, d4, e4, h4, c5, d5, e5, h5, h6⟩ := h
  have k1 := h1; have k2 := h2; have k3 := h3; have k4 := h4; have k5 := h5; have k6 := h6
  obtain ⟨_, _, _, _, rfl, _⟩ := k1
  obtain ⟨_, _, _, _, rfl, _⟩ := k2
  obtain ⟨_, _, _, _, rfl, _⟩ := k3
  obtain ⟨_, _, _, _, rfl, _⟩ := k4
  obtain ⟨_, _, _, _, rfl, _⟩ := k5
  obtain ⟨_, _, _, _, rfl, _⟩ := k6
  subst e5 e4 e3 e2
  exact ⟨_, _, _, _, _, _, Array.toList_inj.1 e1, h1, h2, h3, h4, h5, h6⟩
theorem opens_posn : Opens Try.prog 56 Enc.posn := by
  have hc : Opens Try.prog 175 (Enc.row .u64 4) := Opens.row Try.underlying175 Try.underlying85 (by kernel_rfl) (by kernel_rfl)
  have hcs : Opens Try.prog 53 ((Enc.row .u64 4).sl 32) := Opens.sl Try.underlying53 (by kernel_rfl) (by decide) (by kernel_rfl) hc
  have hi : Opens Try.prog 35 ((Enc.int .i64).sl 8) := Opens.sl Try.underlying35 (by kernel_rfl) (by decide) (by kernel_rfl) (Opens.int Try.underlying3)
  have hii : Opens Try.prog 45 (((Enc.int .i64).sl 8).sl 24) := Opens.sl Try.underlying45 (by kernel_rfl) (by decide) (by kernel_rfl) hi
  have hb : Opens Try.prog 54 (Enc.bool.sl 1) := Opens.sl Try.underlying54 (by kernel_rfl) (by decide) (by kernel_rfl) (Opens.bool Try.underlying4)
  show Opens _ _ (Enc.prod _ (Enc.prod _ (Enc.prod _ (Enc.prod _ (Enc.prod _ _)))))
  exact Opens.struct Try.underlying56 (by kernel_rfl) (OpensFrom.cons rfl rfl (by kernel_rfl) hcs (OpensFrom.cons rfl rfl (by kernel_rfl) hi (OpensFrom.cons rfl rfl (by kernel_rfl) hi (OpensFrom.cons rfl rfl (by kernel_rfl) hii (OpensFrom.cons rfl rfl (by kernel_rfl) hb (OpensFrom.last rfl rfl (by kernel_rfl) hb))))))
theorem placesRuns_law (c0 : Array Value) (s : ByteArray) (hs : s.size ≤ 140737488355328) (g : List (List Int) × List Int × List Int × List (List Int) × List Bool × List Bool) (w : World) (h0 : Enc.posn.R (fun b => b < w.heap.size) w c0.toList g) :
    Calls Try.prog 6 #[.agg c0, .string s] w fun e w' => e = .returned (.bool true) ∧ Below w.heap.size w w' := by
  obtain ⟨vc, vr, vi, vo, vl, ve, rfl, h1, h2, h3, h4, h5, h6⟩ := posn_cells h0
  exact placesRuns_walk vc vr vi vo vl ve _ _ _ _ _ _ s hs w _ (fun _ h => h) h1 h2 h3 h4 h5 h6
end Go.Proofs.Ytldapomcjfkeeaa
