/-
  The small calls of Apart, in the program and in the reference; pairs of states as keys.
-/
import Derived.Test.YtbpjmdemmmdnbaaAp
import Derived.Test.YtbpjmdemmmdnbaaMapMore
import Derived.Test.YtbpjmdemmmdnbaaDfaRun
namespace Go.Proofs.Ytbpjmdemmmdnbaa
set_option linter.unusedVariables false
set_option linter.unusedSimpArgs false
open Go.ChangeShapes Go.WideShapes Go.ChangeAt Go.RowKit

namespace Ap
def prV (x : Pr) : Value := .agg #[.int .i64 x.1, .int .i64 x.2]
theorem prV_inj (x y : Pr) (h : prV x = prV y) : x = y := by
  simp only [prV, Value.agg.injEq, Array.mk.injEq, List.cons.injEq, Value.int.injEq, true_and, and_true] at h
  exact Prod.ext h.1 h.2
theorem law : WideMaps.KeyLaw Try.prog 81 := deep_law (m := 2) (by omega) (by kernel_rfl) (by kernel_rfl) (by kernel_rfl)
theorem zeroE (w : World) : (zeroValue 3).run Try.prog w = .ok (.int .i64 0) w := by kernel_rfl
theorem prKey (x : Pr) (h1 : (Lit.int .i64 x.1).wf = true) (h2 : (Lit.int .i64 x.2).wf = true) : ∃ kl, keyOf Try.prog 81 (prV x) = some kl := by
  have hk : Try.prog.keyType 81 = true := by kernel_rfl
  have hc : Try.prog.cellsOf 81 = 2 := by kernel_rfl
  have hci : Try.prog.cellsOf 3 = 1 := by kernel_rfl
  obtain ⟨m, hm⟩ : ∃ m, Try.prog.types.size = m + 1 := ⟨Try.prog.types.size - 1, by kernel_rfl⟩
  have hu := Try.underlying81
  have hi := Try.underlying3
  unfold keyOf prV
  simp only [hu]
  rw [if_pos (by simp [hk, Value.formed, hu, hc]), hm]
  unfold Program.keyLits
  simp only [hu, Value.cells]
  rw [if_pos (by rw [hc]; exact ⟨rfl, by simp⟩)]
  simp [hci, Program.keyLits, hi, h1, h2]
end Ap

set_option maxRecDepth 100000 in
theorem smTag_any (v : Value) (rows : List (List Int)) (tags : List Int) (q : Int) (w : World) (hd : DfaAt w v rows tags) (hq : q < tags.length) :
    Calls Try.prog 34 #[v, .int .i64 q] w fun e w' => e = .returned (.int .i64 (Aut.tagOf tags q)) ∧ Below w.heap.size w w' := by
  obtain ⟨v0, v1, rfl, hr, ht⟩ := hd
  obtain ⟨ao, b, off, cap, rfl, c1, c2, c3, c4, c5⟩ := slInts ht
  have C4 := Lib.hid c4; clear c4 c5
  unfold maxLen at c2
  by_cases hneg : q < 0
  · have Hf : Hid (Aut.tagOf tags q = -1) := Lib.hid (by rw [Aut.tagOf, if_pos hneg])
    clear c3
    go_enter Try.func34, Try.ntmps34
    go_wp2
    go_ret
    exact ⟨by rw [Hf.out]; rfl, (Below.refl _ _).alloc (Nat.le_refl _) _⟩
  · obtain ⟨q, rfl⟩ := Int.eq_ofNat_of_zero_le (show 0 ≤ q by omega)
    obtain ⟨rfl, hb⟩ := c3 (by omega)
    clear c3
    have Hf : Hid (Aut.tagOf tags q = tags.getD q 0) := Lib.hid (by rw [Aut.tagOf, if_neg hneg, Int.toNat_natCast])
    have hqt : q < tags.length := by omega
    have hcell := C4.out q hqt
    generalize tags.getD q 0 = t at *
    go_enter Try.func34, Try.ntmps34
    go_wp2
    go_ret
    exact ⟨by rw [Hf.out]; rfl, (Below.refl _ _).alloc (Nat.le_refl _) _⟩

set_option maxRecDepth 100000 in
theorem smTo_any (v : Value) (rows : List (List Int)) (tags : List Int) (n : Int) (c : Nat) (w : World) (hd : DfaAt w v rows tags) (h0 : n < rows.length) (hc : c < 256) :
    Calls Try.prog 36 #[v, .int .i64 n, .int .i64 c] w fun e w' => e = .returned (.int .i64 (Ap.goTo rows n c)) ∧ Below w.heap.size w w' := by
  obtain ⟨v0, v1, rfl, hr, ht⟩ := hd
  obtain ⟨ao, b, off, cap, rfl, c1, c2, c3, c4, c5⟩ := slRows hr
  have C4 := Lib.hid c4; have C5 := Lib.hid c5; clear c4 c5
  unfold maxLen at c2
  by_cases hneg : n < 0
  · have Hf : Hid (Ap.goTo rows n c = -1) := Lib.hid (by rw [Ap.goTo, if_pos hneg])
    clear c3
    go_enter Try.func36, Try.ntmps36
    go_wp2
    go_ret
    exact ⟨by rw [Hf.out]; rfl, (Below.refl _ _).alloc (Nat.le_refl _) _⟩
  · obtain ⟨n, rfl⟩ := Int.eq_ofNat_of_zero_le (show 0 ≤ n by omega)
    obtain ⟨rfl, hb⟩ := c3 (by omega)
    clear c3
    have Hf : Hid (Ap.goTo rows n c = (rows.getD n []).getD c 0) := Lib.hid (by rw [Ap.goTo, if_neg hneg, Int.toNat_natCast])
    have hnt : n < rows.length := by omega
    have hcell : w.cell? ⟨b, off + n * 256 + c, none⟩ = some (.int .i16 ((rows.getD n []).getD c 0)) := C4.out n hnt c _ (Aut.row_get _ c (by rw [(C5.out n hnt).1]; exact hc))
    have hx := Aut.i16_bounds (rows.getD n []) c (by rw [(C5.out n hnt).1]; exact hc) (C5.out n hnt).2
    generalize (rows.getD n []).getD c 0 = t at *
    obtain ⟨hx0, hx1⟩ := hx
    have hci : (c : Int) < 256 := by omega
    go_enter Try.func36, Try.ntmps36
    go_wp2
    go_ret
    exact ⟨by rw [Hf.out]; rfl, (Below.refl _ _).alloc (Nat.le_refl _) _⟩

set_option maxRecDepth 100000 in
theorem rNext_any (v : Value) (rows : List (List Int)) (tags : List Int) (n : Int) (c : Nat) (w : World) (hd : DfaAt w v rows tags) (h0 : n < rows.length) (hc : c < 256) :
    Calls Try.prog 37 #[v, .int .i64 n, .int .i64 c] w fun e w' => e = .returned (.int .i64 (Ap.goTo rows n c)) ∧ Below w.heap.size w w' := by
  obtain ⟨v0, v1, rfl, hr, ht⟩ := hd
  obtain ⟨ao, b, off, cap, rfl, c1, c2, c3, c4, c5⟩ := slRows hr
  have C4 := Lib.hid c4; have C5 := Lib.hid c5; clear c4 c5
  unfold maxLen at c2
  by_cases hneg : n < 0
  · have Hf : Hid (Ap.goTo rows n c = -1) := Lib.hid (by rw [Ap.goTo, if_pos hneg])
    clear c3
    go_enter Try.func37, Try.ntmps37
    go_wp2
    go_ret
    exact ⟨by rw [Hf.out]; rfl, (Below.refl _ _).alloc (Nat.le_refl _) _⟩
  · obtain ⟨n, rfl⟩ := Int.eq_ofNat_of_zero_le (show 0 ≤ n by omega)
    obtain ⟨rfl, hb⟩ := c3 (by omega)
    clear c3
    have Hf : Hid (Ap.goTo rows n c = (rows.getD n []).getD c 0) := Lib.hid (by rw [Ap.goTo, if_neg hneg, Int.toNat_natCast])
    have hnt : n < rows.length := by omega
    have hcell : w.cell? ⟨b, off + n * 256 + c, none⟩ = some (.int .i16 ((rows.getD n []).getD c 0)) := C4.out n hnt c _ (Aut.row_get _ c (by rw [(C5.out n hnt).1]; exact hc))
    have hx := Aut.i16_bounds (rows.getD n []) c (by rw [(C5.out n hnt).1]; exact hc) (C5.out n hnt).2
    generalize (rows.getD n []).getD c 0 = t at *
    obtain ⟨hx0, hx1⟩ := hx
    have hci : (c : Int) < 256 := by omega
    go_enter Try.func37, Try.ntmps37
    go_wp2
    go_ret
    exact ⟨by rw [Hf.out]; rfl, (Below.refl _ _).alloc (Nat.le_refl _) _⟩

set_option maxRecDepth 100000 in
theorem rAt_any (x : Ap.Pr) (w : World) (h1 : -1 ≤ x.1) (h2 : x.1 < 200) (h3 : -1 ≤ x.2) (h4 : x.2 < 200) :
    Calls Try.prog 38 #[Ap.prV x] w fun e w' => e = .returned (.int .i64 ((x.1 + 1) * 201 + x.2 + 1)) ∧ Below w.heap.size w w' := by
  obtain ⟨a, b⟩ := x
  unfold Ap.prV
  simp only at h1 h2 h3 h4 ⊢
  go_enter Try.func38, Try.ntmps38
  go_wp2
  go_ret
  exact ⟨rfl, (Below.refl _ _).alloc (Nat.le_refl _) _⟩
end Go.Proofs.Ytbpjmdemmmdnbaa
