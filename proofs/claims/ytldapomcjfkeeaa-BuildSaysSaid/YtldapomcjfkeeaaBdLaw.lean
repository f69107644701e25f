/-
  What BuildSays needs besides: bounds of what a step tells, Begin, built of the law.
-/
import Derived.Test.YtldapomcjfkeeaaBdPush
import Derived.Test.YtldapomcjfkeeaaBdRight
namespace Go.Proofs.Ytldapomcjfkeeaa
set_option linter.unusedVariables false
open Go.ChangeShapes Go.WideShapes Go.ChangeAt Go.RowKit

namespace Bd
def evOk (x : Int × Int) : Prop := 0 ≤ x.1 ∧ x.1 ≤ 4 ∧ 0 ≤ x.2 ∧ x.2 ≤ 1099511627776
theorem go_wf {t n : Int} {l : List (Int × List (Int × Int))} {acts : List (List (Int × Int))} {gts : List (List Int)} (h : Tb.all t n l acts gts = 0) {c : Nat} (hc : (c : Int) ≤ t) {seen : Int} (hsn : 0 ≤ seen ∧ seen ≤ 1099511627776) (k : Nat) :
    ∀ (st : List Int) (o : List (Int × Int)), 0 < st.length → st.length ≤ 60 → st.any (out acts.length) = false → (∀ x ∈ o, evOk x) →
      (go l acts gts seen c k st o).2.1.any (out acts.length) = false ∧ (go l acts gts seen c k st o).2.1.length ≤ 61 ∧ (∀ x ∈ (go l acts gts seen c k st o).2.2, evOk x) ∧ (go l acts gts seen c k st o).2.2.length ≤ o.length + k + 1 := by
  have hl40 := (Gr.err_zero (tb_zero h).1).2.2.2.2.1
  have hm := (tb_zero h).2.1
  have nil : ∀ (e : Int) (o : List (Int × Int)) (k : Nat), ((e, ([] : List Int), ([] : List (Int × Int))).2.1.any (out acts.length) = false ∧ (e, ([] : List Int), ([] : List (Int × Int))).2.1.length ≤ 61 ∧ (∀ x ∈ (e, ([] : List Int), ([] : List (Int × Int))).2.2, evOk x) ∧ (e, ([] : List Int), ([] : List (Int × Int))).2.2.length ≤ o.length + k + 1) :=
    fun e o k => ⟨rfl, Nat.zero_le _, (fun x hx => by cases hx), Nat.zero_le _⟩
  induction k with
  | zero =>
    intro st o hp h60 ha ho
    by_cases h0 : (act acts st c).1 = 0
    · rw [go_none rfl h0]; exact nil 13 o 0
    · rw [go_end rfl h0]; exact nil 14 o 0
  | succ k ih =>
    intro st o hp h60 ha ho
    obtain ⟨_, _, _, hr⟩ := act_right h hp ha hc
    rcases Tb.right_iff.1 hr with ⟨h0, _⟩ | ⟨h0, h1, h2, h3⟩ | ⟨h0, h2, h3⟩ | ⟨h0, h1, _⟩
    · rw [go_none rfl h0]; exact nil _ _ _
    · by_cases h6 : 60 ≤ st.length
      · rw [go_shiftDeep rfl h0 h6]; exact nil _ _ _
      · rw [go_shift rfl h0 (by omega)]
        refine ⟨?_, by simp; omega, fun x hx => ?_, by simp⟩
        · have := any_red ha (k := st.length) h2 h3
          rw [List.take_length] at this
          exact this
        · rcases List.mem_append.1 hx with h | h
          · exact ho x h
          · rw [List.mem_singleton.1 h]; exact ⟨by simp, by simp, hsn.1, hsn.2⟩
    · have hpl : (act acts st c).2.toNat < l.length := by omega
      cases hred : red gts st (l.getD (act acts st c).2.toNat (0, []))
      · rw [go_redNo rfl h0 hred]; exact nil _ _ _
      · rename_i s2
        by_cases h6 : 60 < s2.length
        · rw [go_redDeep rfl h0 hred h6]; exact nil _ _ _
        · rw [go_red rfl h0 hred h6]
          obtain ⟨g1, g2⟩ := red_some h hpl ha hred
          obtain ⟨i1, i2, i3, i4⟩ := ih s2 (o ++ [(4, (act acts st c).2)]) g1 (by omega) g2 (fun x hx => by
            rcases List.mem_append.1 hx with h | h
            · exact ho x h
            · rw [List.mem_singleton.1 h]; exact ⟨by simp, by simp, h2, by simp only; omega⟩)
          refine ⟨i1, i2, i3, ?_⟩
          rw [List.length_append, List.length_singleton] at i4
          omega
    · rw [go_acc rfl h0]
      exact ⟨ha, by simp only; omega, ho, by simp only; omega⟩
end Bd

set_option maxRecDepth 100000 in
theorem bdBegin_any (w : World) : Calls Try.prog 55 #[] w fun e w' => ∃ v, e = .returned (.agg #[v, .int .i64 0, .int .i64 0, .bool false]) ∧ Own w' w.heap.size 3 1 v ([0].map (Value.int .i64)) ∧ Below w.heap.size w w' := by
  have hst := ((St.init w).alloc #[.slice (some ⟨w.heap.size + 1, 0, none⟩) 1 1, .int .i64 0, .int .i64 0, .bool false] 110).alloc #[.int .i64 0] 3
  obtain ⟨k0, k1, k2, k3⟩ := hst.at4 1 rfl
  have HB := Lib.hid hst.bel
  have HO := Lib.hid (own_lit (w := w.alloc (.cells #[.slice (some ⟨w.heap.size + 1, 0, none⟩) 1 1, .int .i64 0, .int .i64 0, .bool false] 110)) (B := w.heap.size) (n := 1) (e := 3) (k := .i64) #[.int .i64 0] [0] rfl rfl (by simp) (by decide))
  simp only [World.size_alloc] at HO
  clear hst
  go_enter Try.func55, Try.ntmps55
  go_wp2
  refine bodyPost_ret (v := .agg #[.slice (some ⟨w.heap.size + 1, 0, none⟩) 1 1, .int .i64 0, .int .i64 0, .bool false]) ?_ rfl ?_
  · simp [results, Try.results55, go_sem, k0, k1, k2, k3]
  · exact ⟨_, rfl, HO.out, HB.out⟩

set_option maxRecDepth 100000 in
set_option maxHeartbeats 8000000 in
theorem built_bad (t n seen ov col E : Int) (dn : Bool) (vp va vg vs vs2 : Value) (al : Option Addr) (cl : Nat) (st : List Int) (w : World) (F F2 : Nat → Prop) (hF : ∀ b, F b → b < w.heap.size) (hF2 : ∀ b, F2 b → b < w.heap.size) (hs : ((Enc.int .i64).sl 8).R F w [vs] st) (hs2 : ((Enc.int .i64).sl 8).R F2 w [vs2] st) (hE : E ≠ 0) :
    Calls Try.prog 59 #[.agg #[.int .i64 t, .int .i64 n, vp], .agg #[va, vg], .agg #[vs, .int .i64 seen, .int .i64 ov, .bool dn], .int .i64 col, .int .i64 E, .agg #[vs2, .int .i64 seen, .int .i64 ov, .bool dn], .slice al 0 cl, .int .i64 E] w fun e w' => e = .returned (.bool true) ∧ Below w.heap.size w w' := by
  have hst := ((((St.init w).alloc #[.int .i64 t, .int .i64 n, vp] 68).alloc #[va, vg] 108).alloc #[vs, .int .i64 seen, .int .i64 ov, .bool dn] 110).alloc #[vs2, .int .i64 seen, .int .i64 ov, .bool dn] 110
  simp only [World.size_alloc] at hst
  have HC := Lib.hid (fun (W : World) (hW : Below w.heap.size w W) => sameStk_any (v1 := vs2) (v2 := vs) (l := st) seen ov dn W (F1 := F2) (F2 := F) (fun b hb => Nat.lt_of_lt_of_le (hF2 b hb) hW.size) (fun b hb => Nat.lt_of_lt_of_le (hF b hb) hW.size) (Enc.mono _ hs2 (fun _ h => h) (fun b hb => hW.block b (hF2 b hb))) (Enc.mono _ hs (fun _ h => h) (fun b hb => hW.block b (hF b hb))))
  have hb1 : (E != 0) = true := by rw [bne_iff_ne]; exact hE
  clear hs hs2 hF hF2 hE
  go_enter Try.func59, Try.ntmps59
  go_wp2_with (fail)
  go_at_call 54
  refine (HC.out _ hst.bel).mono ?_
  rintro e w1 ⟨rfl, hb2⟩
  replace hst := hst.call hb2
  clear hb2
  go_wp2
  go_ret
  exact ⟨rfl, hst.bel⟩

set_option maxRecDepth 100000 in
set_option maxHeartbeats 8000000 in
theorem built_ok (t n seen ov col : Int) (dn : Bool) (vp va vg vs vs2 ve2 : Value) (r : Bd.R) (w : World) (F2 : Nat → Prop) (hF2 : ∀ b, F2 b → b < w.heap.size) (hs2 : ((Enc.int .i64).sl 8).R F2 w [vs2] r.st) (he2 : (Enc.two.sl 16).R F2 w [ve2] r.out)
    (hwf : (r.st.length : Int) * 8 ≤ 140737488355328 ∧ (∀ x ∈ r.st, -9223372036854775808 ≤ x ∧ x ≤ 9223372036854775807) ∧ (r.out.length : Int) * 16 ≤ 140737488355328 ∧ ∀ x ∈ r.out, Bd.evOk x)
    (HREF : ∀ W, Below w.heap.size w W → Calls Try.prog 124 #[.agg #[.int .i64 t, .int .i64 n, vp], .agg #[va, vg], .agg #[vs, .int .i64 seen, .int .i64 ov, .bool dn], .int .i64 col] W (Bd.Ret r W)) :
    Calls Try.prog 59 #[.agg #[.int .i64 t, .int .i64 n, vp], .agg #[va, vg], .agg #[vs, .int .i64 seen, .int .i64 ov, .bool dn], .int .i64 col, .int .i64 0, .agg #[vs2, .int .i64 r.seen, .int .i64 r.over, .bool r.done], ve2, .int .i64 r.err] w fun e w' => e = .returned (.bool true) ∧ Below w.heap.size w w' := by
  obtain ⟨err, st, sn2, ov2, out, dn2⟩ : ∃ (err : Int) (st : List Int) (sn2 ov2 : Int) (out : List (Int × Int)), ∃ dn2, r = ⟨err, st, sn2, ov2, dn2, out⟩ := ⟨r.err, r.st, r.seen, r.over, r.out, r.done, rfl⟩
  obtain ⟨dn2, rfl⟩ := dn2
  simp only at hs2 he2 hwf
  have hst := ((((St.init w).alloc #[.int .i64 t, .int .i64 n, vp] 68).alloc #[va, vg] 108).alloc #[vs, .int .i64 seen, .int .i64 ov, .bool dn] 110).alloc #[vs2, .int .i64 sn2, .int .i64 ov2, .bool dn2] 110
  simp only [World.size_alloc] at hst
  have HR := Lib.hid HREF
  have HS2 := Lib.hid (fun (W : World) (hW : Below w.heap.size w W) => Enc.mono _ hs2 (fun _ h => h) (fun b hb => hW.block b (hF2 b hb)))
  have HE2 := Lib.hid (fun (W : World) (hW : Below w.heap.size w W) => Enc.mono _ he2 (fun _ h => h) (fun b hb => hW.block b (hF2 b hb)))
  have HWF := Lib.hid hwf
  have HF2 := Lib.hid hF2
  clear HREF hs2 he2 hwf hF2
  go_enter Try.func59, Try.ntmps59
  go_wp2_with (fail)
  go_at_call 124
  refine (HR.out _ hst.bel).mono ?_
  rintro e w1 ⟨vs3, ve3, rfl, hst2⟩
  simp only at hst2 ⊢
  have HO3 := Lib.hid (Own.enc (En := Enc.int .i64) (bytes := 8) (F := fun b => b < w1.heap.size) (f := Value.int .i64) (hst2.ownAt 0 rfl) rfl (fun a ha => ⟨rfl, WalkArith.wf_i64 (HWF.out.2.1 a ha)⟩) (fun b hb => ((hst2.nth 0 rfl).fpOwn b hb).2) HWF.out.1)
  have HE3 := Lib.hid (Own.two (F := fun b => b < w1.heap.size) (hst2.ownAt 1 rfl) (fun b hb => ((hst2.nth 1 rfl).fpOwn b hb).2) HWF.out.2.2.1 (fun p hp => by have := HWF.out.2.2.2 p hp; unfold Bd.evOk at this; omega))
  obtain ⟨a3, c3, rfl⟩ := (hst2.ownAt 0 rfl).isLen
  obtain ⟨a4, c4, rfl⟩ := (hst2.ownAt 1 rfl).isLen
  simp only [List.length_map] at hst2 HO3 HE3 ⊢
  replace hst := hst.call hst2.bel
  have hstB := hst.alloc #[.slice a3 st.length c3, .int .i64 sn2, .int .i64 ov2, .bool dn2] 110
  clear hst2
  obtain ⟨x0, x1, x2, x3⟩ := hst.at4 0 rfl
  have lx := World.block_lt_of_cell? _ _ x0
  go_wp2_with (fail)
  go_at_call 54
  refine (sameStk_any (l := st) sn2 ov2 dn2 _ (F1 := F2) (F2 := fun b => b < w1.heap.size) (fun b hb => Nat.lt_of_lt_of_le (HF2.out b hb) hstB.bel.size) (fun b hb => Nat.lt_of_lt_of_le hb (by simp)) (HS2.out _ hstB.bel) (Enc.mono _ HO3.out (fun _ h => h) (fun b hb => heap_alloc_old _ _ hb))).mono ?_
  rintro e w2 ⟨rfl, hb2⟩
  have hbx := ((Below.refl w1.heap.size w1).alloc (Nat.le_refl _) (.cells #[.slice a3 st.length c3, .int .i64 sn2, .int .i64 ov2, .bool dn2] 110)).trans (hb2.mono (by simp))
  replace hstB := hstB.call hb2
  clear hb2 hst x0 x1 x2 x3 lx
  go_wp2_with (fail)
  go_at_call 40
  refine (eqEvts (l := out) _ (HE2.out _ hstB.bel) (Enc.mono _ HE3.out (fun _ h => h) (fun b hb => hbx.block b hb))).mono ?_
  rintro e w3 ⟨rfl, hb3⟩
  replace hstB := hstB.call hb3
  go_wp2
  go_ret
  exact ⟨rfl, hstB.bel⟩
end Go.Proofs.Ytldapomcjfkeeaa
