/-
  Run of package places: the walk.
-/
import Derived.Test.YtldapomcjfkeeaaPlRun
namespace Go.Proofs.Ytldapomcjfkeeaa
set_option linter.unusedVariables false
open Go.ChangeShapes Go.WideShapes Go.ChangeAt Go.RowKit

namespace Pl
/-- What is wrong with a run over n bytes (e: with the automaton). -/
def runE (e : Int) (n : Nat) : Int := if e ≠ 0 then e else if 200 < n then 2 else 0
theorem runE_ne {e : Int} {n : Nat} (h : e ≠ 0) : runE e n = e := by rw [runE, if_pos h]
theorem runE_large {n : Nat} (h : 200 < n) : runE 0 n = 2 := by rw [runE, if_neg (by simp), if_pos h]
theorem runE_ok {n : Nat} (h : ¬ 200 < n) : runE 0 n = 0 := by rw [runE, if_neg (by simp), if_neg h]
theorem runE_zero {e : Int} {n : Nat} (h : runE e n = 0) : e = 0 ∧ n ≤ 200 := by
  by_cases h1 : e = 0
  · subst h1
    by_cases h2 : 200 < n
    · rw [runE_large h2] at h; omega
    · exact ⟨rfl, by omega⟩
  · rw [runE_ne h1] at h; exact absurd h h1
def RetL (e : Int) (l : List Int) (w : World) (en : Ending) (w' : World) : Prop := ∃ v, en = .returned (.tuple #[v, .int .i64 e]) ∧ Own w' w.heap.size 3 1 v (l.map (Value.int .i64)) ∧ Below w.heap.size w w'
/-- What the automaton's check says of its parts. -/
theorem err_parts {cl : List (List Int)} {ru fi : List Int} {fo : List (List Int)} {nl ne : Nat} (h : err cl.length ru fi fo nl ne = 0) : cl.length ≤ 200 ∧ (∀ x : Int, x ∈ fi → 0 ≤ x ∧ x < cl.length) ∧ fo.length = cl.length ∧ (∀ i : Nat, i < cl.length → ∀ x : Int, x ∈ fo.getD i [] → 0 ≤ x ∧ x < cl.length) ∧
    ru.length = cl.length ∧ nl = cl.length ∧ 1 ≤ ne ∧ ne ≤ 20 ∧ ∀ i : Nat, i < cl.length → 0 ≤ ru.getD i 0 ∧ ru.getD i 0 < ne := by
  obtain ⟨⟨h1, h2, h3, h4, h5, h6⟩, h7, h8⟩ := err_zero h
  refine ⟨h8, fun x hx => ?_, h2, fun i hi x hx => ?_, h1, h3, h4, h5, fun i hi => ⟨(h7 i hi).1, (h7 i hi).2.1⟩⟩
  · have := rise_mem h6 x hx; omega
  · have := rise_mem (h7 i hi).2.2 x hx; omega
end Pl
attribute [irreducible] Pl.runE

theorem Own.encI {w : World} {B : Nat} {v : Value} {l : List Int} {n : Nat} (h : Own w B 3 1 v (l.map (Value.int .i64))) (hn : n ≤ 200) (hm : ∀ x : Int, x ∈ l → 0 ≤ x ∧ x < n) (hl : l.length ≤ n) : ((Enc.int .i64).sl 8).R (fun b => b < w.heap.size) w [v] l :=
  Own.enc (En := Enc.int .i64) (bytes := 8) (f := Value.int .i64) h rfl (fun a ha => ⟨rfl, WalkArith.wf_i64 (by have := hm a ha; omega)⟩) (fun b hb => (h.fp b hb).2) (by omega)

set_option maxRecDepth 100000 in
set_option maxHeartbeats 8000000 in
theorem plRun_any (vc vr vi vo vl ve : Value) (cl : List (List Int)) (ru fi : List Int) (fo : List (List Int)) (la em : List Bool) (s : ByteArray) (hs : s.size ≤ 140737488355328) (w : World) (F : Nat → Prop) (hF : ∀ b, F b → b < w.heap.size) (h1 : ((Enc.row .u64 4).sl 32).R F w [vc] cl) (h2 : ((Enc.int .i64).sl 8).R F w [vr] ru) (h3 : ((Enc.int .i64).sl 8).R F w [vi] fi)
    (h4 : (((Enc.int .i64).sl 8).sl 24).R F w [vo] fo) (h5 : (Enc.bool.sl 1).R F w [vl] la) (h6 : (Enc.bool.sl 1).R F w [ve] em) :
    Calls Try.prog 25 #[.agg #[vc, vr, vi, vo, vl, ve], .string s] w (Pl.RetL (Pl.runE (Pl.err cl.length ru fi fo la.length em.length) s.size) (if Pl.runE (Pl.err cl.length ru fi fo la.length em.length) s.size = 0 then Pl.run cl fo fi s s.size else []) w) := by
  have HC := Lib.hid (fun (W : World) (hW : Below w.heap.size w W) => posnChk_any vc vr vi vo vl ve cl ru fi fo la em W F (fun b hb => Nat.lt_of_lt_of_le (hF b hb) hW.size) (Enc.mono _ h1 (fun _ h => h) (fun b hb => hW.block b (hF b hb))) (Enc.mono _ h2 (fun _ h => h) (fun b hb => hW.block b (hF b hb))) (Enc.mono _ h3 (fun _ h => h) (fun b hb => hW.block b (hF b hb)))
    (Enc.mono _ h4 (fun _ h => h) (fun b hb => hW.block b (hF b hb))) (Enc.mono _ h5 (fun _ h => h) (fun b hb => hW.block b (hF b hb))) (Enc.mono _ h6 (fun _ h => h) (fun b hb => hW.block b (hF b hb))))
  have HSTP := Lib.hid (fun (hz : Pl.err cl.length ru fi fo la.length em.length = 0) (W : World) (hW : Below w.heap.size w W) (b : Nat) (hb : b < 256) (first : Bool) (vn : Value) (now : List Int) (hn : ((Enc.int .i64).sl 8).R (fun b => b < W.heap.size) W [vn] now) (hm : ∀ x : Int, x ∈ now → 0 ≤ x ∧ x < cl.length) =>
    step_any b hb first vc vr vi vo vl ve vn cl fo fi now W F (fun b => b < W.heap.size) (fun b hb => Nat.lt_of_lt_of_le (hF b hb) hW.size) (Enc.mono _ h1 (fun _ h => h) (fun b hb => hW.block b (hF b hb))) (Enc.mono _ h3 (fun _ h => h) (fun b hb => hW.block b (hF b hb))) (Enc.mono _ h4 (fun _ h => h) (fun b hb => hW.block b (hF b hb))) hn (Pl.err_parts hz).1 (Pl.err_parts hz).2.1 (Pl.err_parts hz).2.2.1 (Pl.err_parts hz).2.2.2.1 hm)
  have HPT := Lib.hid (fun (hz : Pl.err cl.length ru fi fo la.length em.length = 0) => Pl.err_parts hz)
  obtain ⟨ac, _, _, cc, rfl, -⟩ := slCls h1
  obtain ⟨ar, _, _, cr, rfl, -⟩ := slInt h2
  obtain ⟨ai, _, _, ci, rfl, -⟩ := slInt h3
  obtain ⟨ao, _, _, co, rfl, -⟩ := slRowsI h4
  obtain ⟨al, _, _, cl', rfl, -⟩ := slBool h5
  obtain ⟨ae, _, _, ce, rfl, -⟩ := slBool h6
  have hst := (St.init w).alloc #[.slice ac cl.length cc, .slice ar ru.length cr, .slice ai fi.length ci, .slice ao fo.length co, .slice al la.length cl', .slice ae em.length ce] 56
  clear h1 h2 h3 h4 h5 h6 hF
  obtain ⟨E, hE⟩ : ∃ E, Pl.err cl.length ru fi fo la.length em.length = E := ⟨_, rfl⟩
  rw [hE] at HC HSTP HPT ⊢
  clear hE
  by_cases hE0 : E = 0
  · subst hE0
    have HPT0 := Lib.hid (HPT.out rfl)
    have HSTP0 := Lib.hid (HSTP.out rfl)
    clear HPT HSTP
    by_cases h200 : 200 < s.size
    · rw [Pl.runE_large h200, if_neg (by simp)]
      go_enter Try.func25, Try.ntmps25
      go_wp2_with (fail)
      go_at_call 24
      refine (HC.out _ hst.bel).mono ?_
      rintro e w1 ⟨rfl, hb1⟩
      replace hst := hst.call hb1
      have h200' : (200 : Int) < s.size := by omega
      go_wp2
      go_ret2
      exact ⟨_, rfl, Own.nil _ _ _ _, hst.bel⟩
    · rw [Pl.runE_ok h200, if_pos rfl]
      have h200' : (s.size : Int) ≤ 200 := by omega
      clear h200
      go_enter Try.func25, Try.ntmps25
      go_wp2_with (fail)
      go_at_call 24
      refine (HC.out _ hst.bel).mono ?_
      rintro e w1 ⟨rfl, hb1⟩
      replace hst := hst.call hb1
      go_wp2
      have HST := Lib.hid (hst.nilOwn 3 1)
      clear hst hb1
      go_loopw [7, 8, 19] (fun v _ i wr => ∃ k : Nat, k ≤ s.size ∧ i = .int .i64 k ∧ St w wr [aOwn 3 1 v ((Pl.run cl fo fi s k).map (Value.int .i64)), aCel w.heap.size 56 #[.slice ac cl.length cc, .slice ar ru.length cr, .slice ai fi.length ci, .slice ao fo.length co, .slice al la.length cl', .slice ae em.length ce]]) (fun _ _ i _ => s.size - (intOf i).toNat)
      case atStart => exact ⟨0, by omega, rfl, by rw [Pl.run_zero]; exact HST.out⟩
      case round =>
        clear HST
        obtain ⟨k, hk, rfl, hst⟩ := hrel
        by_cases hlt : k < s.size
        · have hnext : Pl.run cl fo fi s (k + 1) = Pl.step cl fo fi (Pl.run cl fo fi s k) (decide (k = 0)) s[k].toNat := by
            rw [Pl.step_ref HPT0.out.1 HPT0.out.2.1 HPT0.out.2.2.2.1 Pl.run_mem, Pl.run_succ, show s.data.toList.getD k 0 = s[k] by simp [List.getD, hlt]; rfl]
          have HNEXT := Lib.hid hnext
          obtain ⟨an, cn, rfl⟩ := hst.own.isLen
          have henc := Own.encI hst.own HPT0.out.1 Pl.run_mem Pl.run_len
          have hb256 := s[k].toNat_lt
          have HC2 := Lib.hid (HSTP0.out _ hst.bel.drew s[k].toNat (by omega) (decide (k = 0)) _ _ henc Pl.run_mem)
          obtain ⟨x0, x1, x2, x3, x4, x5⟩ := hst.at6 1 rfl
          have HST := Lib.hid hst
          generalize (List.map (Value.int .i64) (Pl.run cl fo fi s k)).length = nl at *
          have hlt2 : (k : Int) < s.size := by omega
          clear hst hnext henc
          by_cases hk0 : k = 0
          · have hkb : ((k : Int) == 0) = true := by rw [beq_iff_eq]; omega
            have hkd : decide (k = 0) = true := decide_eq_true hk0
            rw [hkd] at HC2 HNEXT
            clear hk0 hkd
            go_wp2
            go_region_with ((go_at_call 85; refine HC2.out.mono ?_; rintro e w2 ⟨v2, rfl, ho2, hb2⟩))
            all_goals
              have hst2 := ((HST.out.drew).pushOwn hb2 ho2).get2.drop
              rw [← HNEXT.out] at hst2
              clear hb2 ho2 x0 x1 x2 x3 x4 x5
              go_wp2
              go_roundw
              case rel => exact ⟨k + 1, by omega, by go_num, hst2⟩
              case measure => simp [intOf]; omega
          · have hkb : ((k : Int) == 0) = false := by rw [beq_eq_false_iff_ne]; omega
            have hkd : decide (k = 0) = false := decide_eq_false hk0
            rw [hkd] at HC2 HNEXT
            clear hk0 hkd
            go_wp2
            go_region_with ((go_at_call 85; refine HC2.out.mono ?_; rintro e w2 ⟨v2, rfl, ho2, hb2⟩))
            all_goals
              have hst2 := ((HST.out.drew).pushOwn hb2 ho2).get2.drop
              rw [← HNEXT.out] at hst2
              clear hb2 ho2 x0 x1 x2 x3 x4 x5
              go_wp2
              go_roundw
              case rel => exact ⟨k + 1, by omega, by go_num, hst2⟩
              case measure => simp [intOf]; omega
        · obtain rfl : k = s.size := by omega
          have HST := Lib.hid hst
          obtain ⟨an, cn, rfl⟩ := hst.own.isLen
          clear hst
          go_wp2
          go_ret2
          exact ⟨_, rfl, HST.out.own, HST.out.bel⟩
  · rw [Pl.runE_ne hE0, if_neg hE0]
    have hne : (E != 0) = true := by rw [bne_iff_ne]; exact hE0
    clear hE0
    go_enter Try.func25, Try.ntmps25
    go_wp2_with (fail)
    go_at_call 24
    refine (HC.out _ hst.bel).mono ?_
    rintro e w1 ⟨rfl, hb1⟩
    replace hst := hst.call hb1
    go_wp2
    go_ret2
    exact ⟨_, rfl, Own.nil _ _ _ _, hst.bel⟩
end Go.Proofs.Ytldapomcjfkeeaa
