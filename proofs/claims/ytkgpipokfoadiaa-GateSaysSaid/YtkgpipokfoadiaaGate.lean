/-
  A gate: Clone of its events; same, Check; Gate and SameGate of the reference.
-/
import Derived.Test.YtkgpipokfoadiaaEvt
import Derived.Test.YtkgpipokfoadiaaGateUn
import Derived.Lib.BufferMore
namespace Go.Proofs.Ytkgpipokfoadiaa
set_option linter.unusedVariables false
open Go.ChangeShapes Go.WideShapes Go.ChangeAt Go.RowKit

theorem St.empty {w0 w : World} {μ : List Asrt} (h : St w0 w μ) (T : TypeId) (size : Nat) : St w0 (w.alloc (.cells #[] T)) (aOwn T size (.slice (some ⟨w.heap.size, 0, none⟩) 0 0) [] :: μ) := by
  refine h.push ((Below.refl _ _).alloc (Nat.le_refl _) _) ⟨by simp [cellsOf], .inr ⟨w.heap.size, 0, #[], rfl, Nat.zero_le _, heap_alloc_new _ _, Nat.le_refl _, Nat.zero_le _, by simp, by simp [cellsOf]⟩⟩ (fun b hb => ?_) (by simp [aOwn, Value.ownBlock])
  simp [aOwn, Value.ownBlock] at hb
  subst hb
  simp

set_option maxRecDepth 100000 in
theorem cloneEvt_any {v : Value} {l : List (Int × Int)} (w : World) {F : Nat → Prop} (hF : ∀ b, F b → b < w.heap.size) (h : (Enc.two.sl 16).R F w [v] l) :
    Calls Try.prog 75 #[v] w fun e w' => ∃ v', e = .returned v' ∧ Own w' w.heap.size 39 2 v' (l.map pairV) ∧ Below w.heap.size w w' := by
  have H := Lib.hid h; have HF := Lib.hid hF; clear hF
  obtain ⟨ao, b, off, cap, hv, c1, c2, c3, c4, c5, _⟩ := h
  simp only [List.cons.injEq, and_true] at hv
  subst hv
  cases ao with
  | none =>
    have hl : l = [] := by
      rcases l with _ | ⟨x, r⟩
      · rfl
      · have := (c5 (by simp)).1; cases this
    subst hl
    have hnil := fun W => Lib.run_eql_slice_nil_nil (P := Try.prog) W 0 cap Try.underlying32
    simp only [List.length_nil] at *
    clear c1 c2 c3 c4 c5
    go_enter Try.func75, Try.ntmps75
    go_wp2
    go_ret
    exact ⟨_, rfl, Own.nil _ _ _ _, Below.refl _ _⟩
  | some a =>
    have hnil := fun W => Lib.run_eql_slice_some_nil (P := Try.prog) W a l.length cap Try.underlying32
    have C3 := Lib.hid c3
    clear c1 c2 c3 c4 c5
    go_enter Try.func75, Try.ntmps75
    go_wp2_with (at_builtin; refine St.appSl evtE rfl _ _ rfl rfl ((St.init w).empty 39 2) rfl (Enc.mono _ H.out (fun _ h => h) (fun b hb => Below.heap_alloc _ _ _ (HF.out b hb))) rfl pairV (fun w cs a h => (two_cells h).1) (fun a q hq => pair_one a q hq) (by have := C3.out; simp; omega) (by have := C3.out; simp; omega) ?_; intro v' w1 hst1)
    go_ret
    exact ⟨v', rfl, by simpa using hst1.own, hst1.bel⟩

namespace Gt
def err (l : List (Int × Int)) (c n : Int) : Int := if 4200 < l.length then 2 else if c < 0 ∨ 1073741824 < c ∨ n < 0 ∨ 1099511627776 < n ∨ l.any Evt.odd = true then 1 else 0
theorem err_large {l c n} (h : 4200 < l.length) : err l c n = 2 := by rw [err, if_pos h]
theorem err_arg {l c n} (h : ¬ 4200 < l.length) (h1 : c < 0 ∨ 1073741824 < c ∨ n < 0 ∨ 1099511627776 < n ∨ l.any Evt.odd = true) : err l c n = 1 := by rw [err, if_neg h, if_pos h1]
theorem err_ok {l c n} (h : ¬ 4200 < l.length) (h1 : ¬ (c < 0 ∨ 1073741824 < c ∨ n < 0 ∨ 1099511627776 < n ∨ l.any Evt.odd = true)) : err l c n = 0 := by rw [err, if_neg h, if_neg h1]
theorem err_in (l c n) : err l c n = 0 ∨ err l c n = 1 ∨ err l c n = 2 := by
  rw [err]; split
  · exact .inr (.inr rfl)
  split
  · exact .inr (.inl rfl)
  · exact .inl rfl
theorem err_zero {l c n} (h : err l c n = 0) : l.length ≤ 4200 ∧ 0 ≤ c ∧ c ≤ 1073741824 ∧ 0 ≤ n ∧ n ≤ 1099511627776 ∧ l.any Evt.odd = false := by
  rw [err] at h; split at h
  · cases h
  split at h
  · cases h
  rename_i h1 h2
  refine ⟨by omega, by omega, by omega, by omega, by omega, ?_⟩
  cases ho : l.any Evt.odd
  · rfl
  · exact absurd (.inr (.inr (.inr (.inr ho)))) h2
end Gt
attribute [irreducible] Gt.err

set_option maxRecDepth 100000 in
set_option maxHeartbeats 4000000 in
theorem gateCheck_any {v : Value} {l : List (Int × Int)} (c n : Int) (w : World) {F : Nat → Prop} (hF : ∀ b, F b → b < w.heap.size) (h : (Enc.two.sl 16).R F w [v] l) :
    Calls Try.prog 24 #[.agg #[v, .int .i64 c, .int .i64 n]] w fun e w' => e = .returned (.int .i64 (Gt.err l c n)) ∧ Below w.heap.size w w' := by
  have H := Lib.hid h; have HF := Lib.hid hF; clear hF
  obtain ⟨ao, b, off, cap, rfl, hl, hx, _⟩ := slTwo h
  have hB : Hid (∀ o, Below w.heap.size w (w.alloc o)) := Lib.hid (fun o => (Below.refl _ _).alloc (Nat.le_refl _) _)
  clear h hx hl
  by_cases h0 : 4200 < l.length
  · have HE := Lib.hid (Gt.err_large h0 : Gt.err l c n = _)
    go_enter Try.func24, Try.ntmps24
    go_wp2
    go_ret
    exact ⟨by rw [HE.out]; rfl, hB.out _⟩
  by_cases h1 : c < 0
  · have HE := Lib.hid (Gt.err_arg h0 (.inl h1) : Gt.err l c n = _)
    go_enter Try.func24, Try.ntmps24
    go_wp2
    go_ret
    exact ⟨by rw [HE.out]; rfl, hB.out _⟩
  by_cases h2 : 1073741824 < c
  · have HE := Lib.hid (Gt.err_arg h0 (.inr (.inl h2)) : Gt.err l c n = _)
    go_enter Try.func24, Try.ntmps24
    go_wp2
    go_ret
    exact ⟨by rw [HE.out]; rfl, hB.out _⟩
  by_cases h3 : n < 0
  · have HE := Lib.hid (Gt.err_arg h0 (.inr (.inr (.inl h3))) : Gt.err l c n = _)
    go_enter Try.func24, Try.ntmps24
    go_wp2
    go_ret
    exact ⟨by rw [HE.out]; rfl, hB.out _⟩
  by_cases h4 : 1099511627776 < n
  · have HE := Lib.hid (Gt.err_arg h0 (.inr (.inr (.inr (.inl h4)))) : Gt.err l c n = _)
    go_enter Try.func24, Try.ntmps24
    go_wp2
    go_ret
    exact ⟨by rw [HE.out]; rfl, hB.out _⟩
  cases ha : l.any Evt.odd
  · have HA := Lib.hid ha
    have HE := Lib.hid (Gt.err_ok (l := l) (c := c) (n := n) h0 (by rw [ha]; simp; omega))
    clear ha
    go_enter Try.func24, Try.ntmps24
    go_wp2_with (go_at_call 68; refine (oddIn_any l _ _ F (Enc.mono _ H.out (fun _ h => h) (fun b hb => (hB.out _).block b (HF.out b hb)))).mono ?_; rintro e w1 ⟨rfl, hb1⟩; rw [HA.out])
    go_ret
    exact ⟨by rw [HE.out]; rfl, (hB.out _).trans (hb1.mono (hB.out _).size)⟩
  · have HA := Lib.hid ha
    have HE := Lib.hid (Gt.err_arg (l := l) (c := c) (n := n) h0 (.inr (.inr (.inr (.inr ha)))))
    clear ha
    go_enter Try.func24, Try.ntmps24
    go_wp2_with (go_at_call 68; refine (oddIn_any l _ _ F (Enc.mono _ H.out (fun _ h => h) (fun b hb => (hB.out _).block b (HF.out b hb)))).mono ?_; rintro e w1 ⟨rfl, hb1⟩; rw [HA.out])
    go_ret
    exact ⟨by rw [HE.out]; rfl, (hB.out _).trans (hb1.mono (hB.out _).size)⟩

set_option maxRecDepth 100000 in
set_option maxHeartbeats 4000000 in
theorem rgate_any {v : Value} {l : List (Int × Int)} (c n : Int) (w : World) {F : Nat → Prop} (hF : ∀ b, F b → b < w.heap.size) (h : (Enc.two.sl 16).R F w [v] l) :
    Calls Try.prog 20 #[.agg #[v, .int .i64 c, .int .i64 n]] w fun e w' => e = .returned (.int .i64 (Gt.err l c n)) ∧ Below w.heap.size w w' := by
  have H := Lib.hid h; have HF := Lib.hid hF; clear hF
  obtain ⟨ao, b, off, cap, rfl, hl, hx, _⟩ := slTwo h
  have hB : Hid (∀ o, Below w.heap.size w (w.alloc o)) := Lib.hid (fun o => (Below.refl _ _).alloc (Nat.le_refl _) _)
  clear h hx hl
  by_cases h0 : 4200 < l.length
  · have HE := Lib.hid (Gt.err_large h0 : Gt.err l c n = _)
    go_enter Try.func20, Try.ntmps20
    go_wp2
    go_ret
    exact ⟨by rw [HE.out]; rfl, hB.out _⟩
  by_cases h1 : c < 0
  · have HE := Lib.hid (Gt.err_arg h0 (.inl h1) : Gt.err l c n = _)
    go_enter Try.func20, Try.ntmps20
    go_wp2
    go_ret
    exact ⟨by rw [HE.out]; rfl, hB.out _⟩
  by_cases h2 : 1073741824 < c
  · have HE := Lib.hid (Gt.err_arg h0 (.inr (.inl h2)) : Gt.err l c n = _)
    go_enter Try.func20, Try.ntmps20
    go_wp2
    go_ret
    exact ⟨by rw [HE.out]; rfl, hB.out _⟩
  by_cases h3 : n < 0
  · have HE := Lib.hid (Gt.err_arg h0 (.inr (.inr (.inl h3))) : Gt.err l c n = _)
    go_enter Try.func20, Try.ntmps20
    go_wp2
    go_ret
    exact ⟨by rw [HE.out]; rfl, hB.out _⟩
  by_cases h4 : 1099511627776 < n
  · have HE := Lib.hid (Gt.err_arg h0 (.inr (.inr (.inr (.inl h4)))) : Gt.err l c n = _)
    go_enter Try.func20, Try.ntmps20
    go_wp2
    go_ret
    exact ⟨by rw [HE.out]; rfl, hB.out _⟩
  cases ha : l.any Evt.odd
  · have HA := Lib.hid ha
    have HE := Lib.hid (Gt.err_ok (l := l) (c := c) (n := n) h0 (by rw [ha]; simp; omega))
    clear ha
    go_enter Try.func20, Try.ntmps20
    go_wp2_with (go_at_call 26; refine (eventsOf_any l _ _ F (Enc.mono _ H.out (fun _ h => h) (fun b hb => (hB.out _).block b (HF.out b hb)))).mono ?_; rintro e w1 ⟨rfl, hb1⟩; rw [HA.out])
    go_ret
    exact ⟨by rw [HE.out]; rfl, (hB.out _).trans (hb1.mono (hB.out _).size)⟩
  · have HA := Lib.hid ha
    have HE := Lib.hid (Gt.err_arg (l := l) (c := c) (n := n) h0 (.inr (.inr (.inr (.inr ha)))))
    clear ha
    go_enter Try.func20, Try.ntmps20
    go_wp2_with (go_at_call 26; refine (eventsOf_any l _ _ F (Enc.mono _ H.out (fun _ h => h) (fun b hb => (hB.out _).block b (HF.out b hb)))).mono ?_; rintro e w1 ⟨rfl, hb1⟩; rw [HA.out])
    go_ret
    exact ⟨by rw [HE.out]; rfl, (hB.out _).trans (hb1.mono (hB.out _).size)⟩

end Go.Proofs.Ytkgpipokfoadiaa
