/-
  Clone and Reverse of symbols; Of of package cfg.
-/
import Derived.Test.YtkgpipokfoadiaaPairSet
import Derived.Test.YtkgpipokfoadiaaGramIn
import Derived.Test.YtkgpipokfoadiaaGramChk
import Derived.BigRegion
import Derived.Lib.BufferMore
namespace Go.Proofs.Ytkgpipokfoadiaa
set_option linter.unusedVariables false
open Go.ChangeShapes Go.WideShapes Go.ChangeAt Go.RowKit

theorem symE : ET Try.prog 81 140 2 16 := ET.mk' Try.underlying81 (z := .agg #[.int .i64 0, .int .i64 0]) (by kernel_rfl) rfl (by decide)
theorem pair_one' (x : Int × Int) : ∀ q ∈ (pairV x).cells.toList, q.oneCell' = true := by
  intro q hq; simp [pairV, Value.cells] at hq; rcases hq with rfl | rfl <;> rfl
theorem St.made0 {w0 w : World} {μ : List Asrt} (h : St w0 w μ) (T : TypeId) (size : Nat) : St w0 (w.alloc (.cells #[] T)) (aOwn T size (.slice (some ⟨w.heap.size, 0, none⟩) 0 0) [] :: μ) := by
  refine h.push ((Below.refl _ _).alloc (Nat.le_refl _) _) ⟨by simp [cellsOf], .inr ⟨w.heap.size, 0, #[], rfl, Nat.zero_le _, heap_alloc_new _ _, Nat.le_refl _, Nat.zero_le _, by simp, by simp [cellsOf]⟩⟩ (fun b hb => ?_) (by simp [aOwn, Value.ownBlock])
  simp [aOwn, Value.ownBlock] at hb
  subst hb
  simp

set_option maxRecDepth 100000 in
theorem cloneSym_any {v : Value} {l : List (Int × Int)} (w : World) {F : Nat → Prop} (hF : ∀ b, F b → b < w.heap.size) (h : (Enc.two.sl 16).R F w [v] l) :
    Calls Try.prog 81 #[v] w fun e w' => ∃ v', e = .returned v' ∧ Own w' w.heap.size 140 2 v' (l.map pairV) ∧ Below w.heap.size w w' := by
  have H := Lib.hid h; have HF := Lib.hid hF; clear hF
  obtain ⟨ao, b, off, cap, hv, c1, c2, c3, c4, c5, _⟩ := h
  simp only [List.cons.injEq, and_true] at hv
  subst hv
  cases ao with
  | none =>
    have hl : l = [] := by
      rcases l with _ | ⟨x, r⟩
      · rfl
      · have := (c5 (by simp)).1; cases this
    subst hl
    have hnil := fun W => Lib.run_eql_slice_nil_nil (P := Try.prog) W 0 cap Try.underlying81
    simp only [List.length_nil] at *
    clear c1 c2 c3 c4 c5
    go_enter Try.func81, Try.ntmps81
    go_wp2
    go_ret
    exact ⟨_, rfl, Own.nil _ _ _ _, Below.refl _ _⟩
  | some a =>
    have hnil := fun W => Lib.run_eql_slice_some_nil (P := Try.prog) W a l.length cap Try.underlying81
    have C3 := Lib.hid c3
    clear c1 c2 c3 c4 c5
    go_enter Try.func81, Try.ntmps81
    go_wp2_with (at_builtin; refine St.appSl symE rfl _ _ rfl rfl ((St.init w).made0 140 2) rfl (Enc.mono _ H.out (fun _ h => h) (fun b hb => Below.heap_alloc _ _ _ (HF.out b hb))) rfl pairV (fun w cs a h => (two_cells h).1) (fun a q hq => pair_one' a q hq) (by have := C3.out; simp; omega) (by have := C3.out; simp; omega) ?_; intro v' w1 hst1)
    go_ret
    exact ⟨v', rfl, by simpa using hst1.own, hst1.bel⟩

namespace Gr
/-- The first k and the last k turned round. -/
def rv (l : List (Int × Int)) (k : Nat) : List (Int × Int) := (List.range l.length).map fun i => if i < k ∨ l.length ≤ i + k then l.getD (l.length - 1 - i) (0, 0) else l.getD i (0, 0)
theorem rv_len (l k) : (rv l k).length = l.length := by simp [rv]
theorem rv_get (l k) (i : Nat) (h : i < l.length) : (rv l k).getD i (0, 0) = if i < k ∨ l.length ≤ i + k then l.getD (l.length - 1 - i) (0, 0) else l.getD i (0, 0) := by simp [rv, List.getD, h]
theorem rv_zero (l) : rv l 0 = l := by
  apply List.ext_getElem (by simp [rv])
  intro i h1 h2
  simp [rv, List.getD, h2]
  omega
theorem rv_step (l) (k m : Nat) (h : k < m) (hm : m + k + 1 = l.length) : ((rv l k).set k ((rv l k).getD m (0, 0))).set m ((rv l k).getD k (0, 0)) = rv l (k + 1) := by
  apply List.ext_getElem (by simp [rv])
  intro i h1 h2
  have hi : i < l.length := by simpa [rv] using h2
  have hg : (rv l (k + 1))[i] = (rv l (k + 1)).getD i (0, 0) := by simp [List.getD, h2]
  rw [hg, rv_get l (k + 1) i hi, List.getElem_set]
  by_cases e1 : m = i
  · subst e1
    rw [if_pos rfl, rv_get l k k (by omega), if_neg (by omega), if_pos (by omega)]
    congr 1
    omega
  · rw [if_neg e1, List.getElem_set]
    by_cases e2 : k = i
    · subst e2
      rw [if_pos rfl, rv_get l k m (by omega), if_neg (by omega), if_pos (by omega)]
      congr 1
      omega
    · rw [if_neg e2]
      have hg2 : (rv l k)[i]'(by rw [rv_len]; exact hi) = (rv l k).getD i (0, 0) := by simp [List.getD, rv_len, hi]
      rw [hg2, rv_get l k i hi]
      by_cases e3 : i < k ∨ l.length ≤ i + k
      · rw [if_pos e3, if_pos (by omega)]
      · rw [if_neg e3, if_neg (by omega)]
theorem rv_end (l) (k : Nat) (h : l.length ≤ k + k + 1) : rv l k = l.reverse := by
  apply List.ext_getElem (by simp [rv])
  intro i h1 h2
  have hi : i < l.length := by simpa using h2
  have hg : (rv l k)[i] = (rv l k).getD i (0, 0) := by simp [List.getD, h1]
  rw [hg, rv_get l k i hi, List.getElem_reverse]
  by_cases e3 : i < k ∨ l.length ≤ i + k
  · rw [if_pos e3]; simp [List.getD, show l.length - 1 - i < l.length by omega]
  · rw [if_neg e3]
    have : l.length - 1 - i = i := by omega
    simp [List.getD, hi, this]
end Gr
attribute [irreducible] Gr.rv

set_option maxRecDepth 100000 in
set_option maxHeartbeats 4000000 in
theorem revSym_any {w0 w : World} {μ : List Asrt} {v : Value} {l : List (Int × Int)} (hst : St w0 w (aOwn 140 2 v (l.map pairV) :: μ)) (hl : l.length ≤ 1000000000) :
    Calls Try.prog 82 #[v] w fun e w' => e = .returned (.tuple #[]) ∧ St w0 w' (aOwn 140 2 v (l.reverse.map pairV) :: μ) := by
  obtain ⟨ao, cap, rfl⟩ := hst.own.isLen
  rw [List.length_map] at hst ⊢
  have HST : Hid (St w0 w (aOwn 140 2 (.slice ao l.length cap) ((Gr.rv l 0).map pairV) :: μ)) := Lib.hid (by rw [Gr.rv_zero]; exact hst)
  have hao : 0 < l.length → ∃ g, ao = some ⟨g, 0, none⟩ := fun h => hst.own.addr (by simpa using h)
  have HAO := Lib.hid hao
  clear hst hao
  go_enter Try.func82, Try.ntmps82
  go_wp2
  go_loopw [2, 3] (fun i j wr => ∃ k : Nat, k + k ≤ l.length + 1 ∧ i = .int .i64 k ∧ j = .int .i64 ((l.length : Int) - 1 - k) ∧ St w0 wr (aOwn 140 2 (.slice ao l.length cap) ((Gr.rv l k).map pairV) :: μ)) (fun i _ _ => l.length - (intOf i).toNat)
  case atStart => exact ⟨0, by omega, rfl, by go_num, HST.out⟩
  case round =>
    clear HST
    obtain ⟨k, hk, rfl, rfl, hst⟩ := hrel
    by_cases hlt : k + 1 + k < l.length
    · obtain ⟨g, rfl⟩ := HAO.out (by omega)
      obtain ⟨m, hm⟩ : ∃ m, m + k + 1 = l.length := ⟨l.length - 1 - k, by omega⟩
      have hmk : k < m := by omega
      have hjm : (l.length : Int) - 1 - k = m := by omega
      rw [hjm]
      have hml : m < l.length := by omega
      have hkl : k < l.length := by omega
      obtain ⟨c1, c2, f1, f2⟩ := hst.cellPair k (by rw [Gr.rv_len]; omega)
      obtain ⟨c3, c4, f3, f4⟩ := hst.cellPair m (by rw [Gr.rv_len]; omega)
      have hst2 := (hst.drew.setPair k (by rw [Gr.rv_len]; omega) ((Gr.rv l k).getD m (0, 0))).setPair m (by rw [List.length_set, Gr.rv_len]; omega) ((Gr.rv l k).getD k (0, 0))
      rw [Gr.rv_step l k m hmk hm] at hst2
      generalize (Gr.rv l k).getD k (0, 0) = x at *
      generalize (Gr.rv l k).getD m (0, 0) = y at *
      obtain ⟨x1, x2⟩ := x
      obtain ⟨y1, y2⟩ := y
      simp only at c1 c2 c3 c4 hst2
      have HST2 := Lib.hid hst2
      have HM := Lib.hid hm
      clear hst hst2 hjm hm
      have hne : k ≠ m := by omega
      go_wp2
      go_region
      go_wp2
      go_roundw
      case rel => exact ⟨k + 1, by omega, by go_num, by have := HM.out; go_num, HST2.out⟩
      case measure => simp [intOf]; omega
    · have HE := Lib.hid (Gr.rv_end l k (by omega))
      go_wp2
      rw [HE.out] at hst
      refine bodyPost_end (v := .tuple #[]) (by simp [results, Try.results82, go_sem]) rfl ?_
      exact ⟨rfl, hst⟩
end Go.Proofs.Ytkgpipokfoadiaa
