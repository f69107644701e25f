/-
  The closures of the law ClassSays.
-/
import Derived.Test.YtlgabpcddldelaaDoorClsCount
namespace Go.Proofs.YtlgabpcddldelaaDoor
set_option linter.unusedVariables false
set_option linter.unusedSimpArgs false
open Go.ChangeShapes Go.WideShapes Go.ChangeAt Go.RowKit

namespace Cs
theorem has_words (ws : List Nat) (h : Dm.Ok4 ws) (b : Nat) (hb : b < 256) (W : World) : Calls Tryd.prog 9 #[clV ws, .int .i64 b] W fun e w' => e = .returned (.bool (Dm.mem ws b)) ∧ Below W.heap.size W w' := by
  have := rHas_any (clA ws) (ws.map fun n : Nat => (n : Int)) b hb W (by simp [clA, wV]) (by rw [List.length_map]; exact h.len) (fun x hx => by
    obtain ⟨n, hn, rfl⟩ := List.mem_map.1 hx
    obtain ⟨j, hj, rfl⟩ := List.getElem_of_mem hn
    have h2 := h.lt j
    rw [show ws.getD j 0 = ws[j] by simp [List.getD, List.getElem?_eq_getElem hj]] at h2
    exact ⟨Int.natCast_nonneg _, Int.ofNat_lt.2 h2⟩)
  rw [has_mem] at this
  exact this
theorem phas_words (ws : List Nat) (h : Dm.Ok4 ws) (b : Nat) (hb : b < 256) (W : World) : Calls Tryd.prog 13 #[clV ws, .int .u8 b] W fun e w' => e = .returned (.bool (Dm.mem ws b)) ∧ Below W.heap.size W w' := by
  have := has_any (clA ws) (ws.map fun n : Nat => (n : Int)) b hb W (by simp [clA, wV]) (by rw [List.length_map]; exact h.len) (fun x hx => by
    obtain ⟨n, hn, rfl⟩ := List.mem_map.1 hx
    obtain ⟨j, hj, rfl⟩ := List.getElem_of_mem hn
    have h2 := h.lt j
    rw [show ws.getD j 0 = ws[j] by simp [List.getD, List.getElem?_eq_getElem hj]] at h2
    exact ⟨Int.natCast_nonneg _, Int.ofNat_lt.2 h2⟩)
  rw [has_mem] at this
  exact this
theorem at4 {w0 w : World} {μ : List Asrt} {g : Nat} {T : TypeId} {a b c d : Nat} (h : St w0 w μ) (i : Nat) (hA : μ[i]? = some (aCel g T (clA [a, b, c, d]))) :
    w.cell? ⟨g, 0, none⟩ = some (.int .u64 a) ∧ w.cell? ⟨g, 1, none⟩ = some (.int .u64 b) ∧ w.cell? ⟨g, 2, none⟩ = some (.int .u64 c) ∧ w.cell? ⟨g, 3, none⟩ = some (.int .u64 d) :=
  ⟨(h.nth i hA).celAt rfl, (h.nth i hA).celAt rfl, (h.nth i hA).celAt rfl, (h.nth i hA).celAt rfl⟩
end Cs

set_option maxRecDepth 100000 in
theorem says1_any (lo hi : Int) (x : Nat) (hx : x < 256) (w0 W : World) (g8 g9 : Nat) (μ : List Asrt) (h : St w0 W (aCel g9 3 #[.int .i64 hi] :: aCel g8 3 #[.int .i64 lo] :: μ)) :
    Calls Tryd.prog 12 #[.int .i64 x, .pointer (some ⟨g8, 0, none⟩), .pointer (some ⟨g9, 0, none⟩)] W fun e w' => e = .returned (.bool (decide (lo ≤ (x : Int)) && decide ((x : Int) ≤ hi))) ∧ Below W.heap.size W w' := by
  have c0 := (h.nth 1 rfl).celAt (i := 0) (v := .int .i64 lo) rfl
  have c1 := (h.nth 0 rfl).celAt (i := 0) (v := .int .i64 hi) rfl
  clear h
  obtain ⟨Z, hZ⟩ : ∃ Z, (decide (lo ≤ (x : Int)) && decide ((x : Int) ≤ hi)) = Z := ⟨_, rfl⟩
  rw [hZ]
  by_cases h1 : lo ≤ (x : Int)
  · have e1 : decide (lo ≤ (x : Int)) = true := decide_eq_true h1
    have HZ := Lib.hid (show decide ((x : Int) ≤ hi) = Z by rw [← hZ, e1, Bool.true_and])
    clear hZ
    go_enter Tryd.func12, Tryd.ntmps12
    go_wp2
    go_ret
    exact ⟨by rw [← HZ.out]; rfl, Below.refl _ _⟩
  · have e1 : decide (lo ≤ (x : Int)) = false := decide_eq_false h1
    have HZ := Lib.hid (show false = Z by rw [← hZ, e1, Bool.false_and])
    clear hZ
    go_enter Tryd.func12, Tryd.ntmps12
    go_wp2
    go_ret
    exact ⟨by rw [← HZ.out]; rfl, Below.refl _ _⟩

set_option maxRecDepth 100000 in
theorem says2_any (ws vs : List Nat) (hw : Dm.Ok4 ws) (hv : Dm.Ok4 vs) (x : Nat) (hx : x < 256) (w0 W : World) (g5 g6 : Nat) (μ : List Asrt) (h : St w0 W (aCel g6 24 (Cs.clA vs) :: aCel g5 24 (Cs.clA ws) :: μ)) :
    Calls Tryd.prog 15 #[.int .i64 x, .pointer (some ⟨g5, 0, none⟩), .pointer (some ⟨g6, 0, none⟩)] W fun e w' => e = .returned (.bool (Dm.mem ws x || Dm.mem vs x)) ∧ Below W.heap.size W w' := by
  have HC1 := Lib.hid (fun W' => Cs.has_words ws hw x hx W')
  have HC2 := Lib.hid (fun W' => Cs.has_words vs hv x hx W')
  obtain ⟨A, hA⟩ : ∃ A, Dm.mem ws x = A := ⟨_, rfl⟩
  obtain ⟨B, hB⟩ : ∃ B, Dm.mem vs x = B := ⟨_, rfl⟩
  rw [hA] at HC1 ⊢
  rw [hB] at HC2 ⊢
  clear hA hB
  obtain ⟨a0, a1, a2, a3, rfl⟩ := Cs.okFour hw
  obtain ⟨b0, b1, b2, b3, rfl⟩ := Cs.okFour hv
  have HST := Lib.hid h
  obtain ⟨c0, c1, c2, c3⟩ := Cs.at4 h 1 rfl
  clear hw hv h
  go_enter Tryd.func15, Tryd.ntmps15
  go_wp2_with (fail)
  go_at_call 9
  refine (HC1.out _).mono ?_
  rintro e w5 ⟨rfl, hb5⟩
  have HST5 := Lib.hid (HST.out.call hb5)
  have HB5 := Lib.hid hb5
  clear hb5 HST c0 c1 c2 c3
  cases A
  · skip
    obtain ⟨d0, d1, d2, d3⟩ := Cs.at4 HST5.out 0 rfl
    go_wp2_with (fail)
    go_at_call 9
    refine (HC2.out _).mono ?_
    rintro e w6 ⟨rfl, hb6⟩
    have HB6 := Lib.hid (HB5.out.trans (hb6.mono HB5.out.size))
    clear hb6 d0 d1 d2 d3
    go_wp2
    go_ret
    exact ⟨by cases B <;> rfl, HB6.out⟩
  · skip
    go_wp2
    go_ret
    exact ⟨by cases B <;> rfl, HB5.out⟩

set_option maxRecDepth 100000 in
theorem says3_any (ws vs : List Nat) (hw : Dm.Ok4 ws) (hv : Dm.Ok4 vs) (x : Nat) (hx : x < 256) (w0 W : World) (g5 g6 : Nat) (μ : List Asrt) (h : St w0 W (aCel g6 24 (Cs.clA vs) :: aCel g5 24 (Cs.clA ws) :: μ)) :
    Calls Tryd.prog 17 #[.int .i64 x, .pointer (some ⟨g5, 0, none⟩), .pointer (some ⟨g6, 0, none⟩)] W fun e w' => e = .returned (.bool (Dm.mem ws x && Dm.mem vs x)) ∧ Below W.heap.size W w' := by
  have HC1 := Lib.hid (fun W' => Cs.has_words ws hw x hx W')
  have HC2 := Lib.hid (fun W' => Cs.has_words vs hv x hx W')
  obtain ⟨A, hA⟩ : ∃ A, Dm.mem ws x = A := ⟨_, rfl⟩
  obtain ⟨B, hB⟩ : ∃ B, Dm.mem vs x = B := ⟨_, rfl⟩
  rw [hA] at HC1 ⊢
  rw [hB] at HC2 ⊢
  clear hA hB
  obtain ⟨a0, a1, a2, a3, rfl⟩ := Cs.okFour hw
  obtain ⟨b0, b1, b2, b3, rfl⟩ := Cs.okFour hv
  have HST := Lib.hid h
  obtain ⟨c0, c1, c2, c3⟩ := Cs.at4 h 1 rfl
  clear hw hv h
  go_enter Tryd.func17, Tryd.ntmps17
  go_wp2_with (fail)
  go_at_call 9
  refine (HC1.out _).mono ?_
  rintro e w5 ⟨rfl, hb5⟩
  have HST5 := Lib.hid (HST.out.call hb5)
  have HB5 := Lib.hid hb5
  clear hb5 HST c0 c1 c2 c3
  cases A
  · skip
    go_wp2
    go_ret
    exact ⟨by cases B <;> rfl, HB5.out⟩
  · skip
    obtain ⟨d0, d1, d2, d3⟩ := Cs.at4 HST5.out 0 rfl
    go_wp2_with (fail)
    go_at_call 9
    refine (HC2.out _).mono ?_
    rintro e w6 ⟨rfl, hb6⟩
    have HB6 := Lib.hid (HB5.out.trans (hb6.mono HB5.out.size))
    clear hb6 d0 d1 d2 d3
    go_wp2
    go_ret
    exact ⟨by cases B <;> rfl, HB6.out⟩

set_option maxRecDepth 100000 in
theorem says4_any (ws : List Nat) (hw : Dm.Ok4 ws) (x : Nat) (hx : x < 256) (w0 W : World) (g5 : Nat) (μ : List Asrt) (h : St w0 W (aCel g5 24 (Cs.clA ws) :: μ)) :
    Calls Tryd.prog 19 #[.int .i64 x, .pointer (some ⟨g5, 0, none⟩)] W fun e w' => e = .returned (.bool (!Dm.mem ws x)) ∧ Below W.heap.size W w' := by
  have HC1 := Lib.hid (fun W' => Cs.has_words ws hw x hx W')
  obtain ⟨A, hA⟩ : ∃ A, Dm.mem ws x = A := ⟨_, rfl⟩
  rw [hA] at HC1 ⊢
  clear hA
  obtain ⟨a0, a1, a2, a3, rfl⟩ := Cs.okFour hw
  obtain ⟨c0, c1, c2, c3⟩ := Cs.at4 h 0 rfl
  clear hw h
  go_enter Tryd.func19, Tryd.ntmps19
  go_wp2_with (fail)
  go_at_call 9
  refine (HC1.out _).mono ?_
  rintro e w5 ⟨rfl, hb5⟩
  have HB5 := Lib.hid hb5
  clear hb5 c0 c1 c2 c3
  go_wp2
  go_ret
  exact ⟨rfl, HB5.out⟩
end Go.Proofs.YtlgabpcddldelaaDoor
