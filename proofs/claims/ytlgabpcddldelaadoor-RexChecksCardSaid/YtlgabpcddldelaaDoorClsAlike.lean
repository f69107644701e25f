/-
  The classes that come in, as words; the closure of the reference's Parts.
-/
import Derived.Test.YtlgabpcddldelaaDoorClsClo
import Derived.Test.YtlgabpcddldelaaDoorClsLeast
import Derived.Test.YtlgabpcddldelaaDoorSlCls
namespace Go.Proofs.YtlgabpcddldelaaDoor
set_option linter.unusedVariables false
set_option linter.unusedSimpArgs false
open Go.ChangeShapes Go.WideShapes Go.ChangeAt Go.RowKit

namespace Cs
structure At (w : World) (ao : Option Addr) (b off : Nat) (L : List (List Nat)) : Prop where
  at0 : 0 < L.length → ao = some ⟨b, off, none⟩
  ok : ∀ i, i < L.length → Dm.Ok4 (L.getD i [])
  cell : ∀ i, i < L.length → ∀ j, j < 4 → w.cell? ⟨b, off + i * 4 + j, none⟩ = some (.int .u64 ((L.getD i []).getD j 0 : Nat))
theorem At.keep {w w' : World} {ao : Option Addr} {b off : Nat} {L : List (List Nat)} (h : At w ao b off L) (hb : Below w.heap.size w w') : At w' ao b off L :=
  ⟨h.at0, h.ok, fun i hi j hj => bkeep hb (h.cell i hi j hj)⟩
theorem At.four {w : World} {ao : Option Addr} {b off : Nat} {L : List (List Nat)} (h : At w ao b off L) {i : Nat} (hi : i < L.length) : ∃ q0 q1 q2 q3, L.getD i [] = [q0, q1, q2, q3] ∧ w.cell? ⟨b, off + i * 4, none⟩ = some (.int .u64 q0) ∧ w.cell? ⟨b, off + i * 4 + 1, none⟩ = some (.int .u64 q1) ∧ w.cell? ⟨b, off + i * 4 + 2, none⟩ = some (.int .u64 q2) ∧ w.cell? ⟨b, off + i * 4 + 3, none⟩ = some (.int .u64 q3) := by
  obtain ⟨q0, q1, q2, q3, hq⟩ := okFour (h.ok i hi)
  have e0 := h.cell i hi 0 (by omega)
  have e1 := h.cell i hi 1 (by omega)
  have e2 := h.cell i hi 2 (by omega)
  have e3 := h.cell i hi 3 (by omega)
  rw [hq] at e0 e1 e2 e3
  exact ⟨q0, q1, q2, q3, hq, e0, e1, e2, e3⟩
theorem at_of {bytes : Nat} {F : Nat → Prop} {w : World} {v : Value} {l : List (List Int)} (h : ((Enc.row .u64 4).sl bytes).R F w [v] l) :
    ∃ (ao : Option Addr) (b off cap : Nat) (L : List (List Nat)), v = .slice ao L.length cap ∧ L.length = l.length ∧ (0 < L.length → b < w.heap.size ∧ F b) ∧ At w ao b off L := by
  obtain ⟨ao, b, off, cap, h0, h1, h2, h3⟩ := slCls h
  refine ⟨ao, b, off, cap, l.map fun c => c.map Int.toNat, by rw [List.length_map]; exact h0, List.length_map .., fun g => (h2 (by rw [List.length_map] at g; exact g)).2, ⟨fun g => (h2 (by rw [List.length_map] at g; exact g)).1, fun i hi => ?_, fun i hi j hj => ?_⟩⟩
  all_goals
    rw [List.length_map] at hi
    obtain ⟨g1, g2, g3⟩ := h3 i hi
    have e : (l.map fun c => c.map Int.toNat).getD i [] = (l.getD i []).map Int.toNat := by simp [List.getD, List.getElem?_eq_getElem hi]
    rw [e]
    generalize l.getD i [] = q at *
  · refine ⟨by rw [List.length_map, g2], fun j => ?_⟩
    by_cases hj : j < q.length
    · have := g3 _ (List.getElem_mem hj)
      simp only [List.getD_eq_getElem?_getD, List.getElem?_map, List.getElem?_eq_getElem hj, Option.map_some, Option.getD_some]
      omega
    · rw [List.getD_eq_getElem?_getD, List.getElem?_eq_none (by simpa using hj)]
      exact Nat.two_pow_pos 64
  · rw [g1 j hj]
    have hjl : j < q.length := by omega
    have := g3 _ (List.getElem_mem hjl)
    simp only [List.getD_eq_getElem?_getD, List.getElem?_map, List.getElem?_eq_getElem hjl, Option.map_some, Option.getD_some]
    rw [Int.toNat_of_nonneg this.1]
end Cs

set_option maxRecDepth 100000 in
set_option maxHeartbeats 1600000 in
theorem alike_any (L : List (List Nat)) (ao : Option Addr) (b off cap : Nat) (y x : Nat) (hy : y < 256) (hx : x < 256) (hl : L.length ≤ 40) (w0 W : World) (gA gB : Nat) (μ : List Asrt) (hA : Cs.At w0 ao b off L)
    (h : St w0 W (aCel gB 3 #[.int .i64 y] :: aCel gA 36 #[.slice ao L.length cap] :: μ)) :
    Calls Tryd.prog 44 #[.int .i64 x, .pointer (some ⟨gA, 0, none⟩), .pointer (some ⟨gB, 0, none⟩)] W fun e w' => e = .returned (.bool (Cp.alike L y x)) ∧ Below W.heap.size W w' := by
  have HA := Lib.hid hA
  have HST := Lib.hid h
  have HB := Lib.hid (Below.refl W.heap.size W)
  have HZI := Lib.hid (@Cp.alike_iff L y x)
  obtain ⟨Z, hZ⟩ : ∃ Z, Cp.alike L y x = Z := ⟨_, rfl⟩
  rw [hZ] at HZI ⊢
  clear hA h hZ
  go_enter Tryd.func44, Tryd.ntmps44
  go_wp2
  go_loopg [5] L.length (fun gz v5 wr => ∃ (i : Nat), i ≤ L.length ∧ gz = L.length - i ∧ v5 = .int .i64 i ∧ Hid (∀ j, j < i → Dm.mem (L.getD j []) y = Dm.mem (L.getD j []) x) ∧ Below W.heap.size W wr ∧ St w0 wr (aCel gB 3 #[.int .i64 y] :: aCel gA 36 #[.slice ao L.length cap] :: μ))
  case atStart => exact ⟨0, by omega, by omega, rfl, Lib.hid fun j hj => by omega, HB.out, HST.out⟩
  case round =>
    clear HST HB
    obtain ⟨i, hi, hgz, rfl, HM, hbe, hst⟩ := hrel
    have HGZ := Lib.hid hgz
    have e0 := (hst.nth 1 rfl).celAt (i := 0) (v := .slice ao L.length cap) rfl
    have f0 := (hst.nth 0 rfl).celAt (i := 0) (v := .int .i64 y) rfl
    clear hgz
    by_cases hlt : i < L.length
    · have hltI : (i : Int) < L.length := by omega
      obtain rfl := HA.out.at0 (by omega)
      obtain ⟨q0, q1, q2, q3, hq, c0, c1, c2, c3⟩ := (HA.out.keep hst.bel).four hlt
      have HH1 := Lib.hid (fun W' => Cs.has_words (L.getD i []) (HA.out.ok i hlt) y hy W')
      have HH2 := Lib.hid (fun W' => Cs.has_words (L.getD i []) (HA.out.ok i hlt) x hx W')
      have HMS := Lib.hid (fun (g : Dm.mem (L.getD i []) y = Dm.mem (L.getD i []) x) (j : Nat) (hj : j < i + 1) => (show Dm.mem (L.getD j []) y = Dm.mem (L.getD j []) x by by_cases k : j < i; exact HM.out j k; rw [show j = i by omega]; exact g))
      have HNO := Lib.hid (fun (g : Dm.mem (L.getD i []) y ≠ Dm.mem (L.getD i []) x) => (show Z = false by
        cases e : Z
        · rfl
        · exact absurd (HZI.out.1 e _ (by rw [show L.getD i [] = L[i] by simp [List.getD, List.getElem?_eq_getElem hlt]]; exact List.getElem_mem hlt)) g))
      obtain ⟨A, hA⟩ : ∃ A, Dm.mem (L.getD i []) y = A := ⟨_, rfl⟩
      obtain ⟨B, hB⟩ : ∃ B, Dm.mem (L.getD i []) x = B := ⟨_, rfl⟩
      rw [hA] at HH1 HMS HNO
      rw [hB] at HH2 HMS HNO
      rw [hq] at HH1 HH2
      have HH3 := Lib.hid (show ∀ W', Calls Tryd.prog 9 #[.agg #[.int .u64 q0, .int .u64 q1, .int .u64 q2, .int .u64 q3], .int .i64 y] W' fun e w' => e = .returned (.bool A) ∧ Below W'.heap.size W' w' from HH1.out)
      have HH4 := Lib.hid (show ∀ W', Calls Tryd.prog 9 #[.agg #[.int .u64 q0, .int .u64 q1, .int .u64 q2, .int .u64 q3], .int .i64 x] W' fun e w' => e = .returned (.bool B) ∧ Below W'.heap.size W' w' from HH2.out)
      clear HH1 HH2
      obtain ⟨D, hD⟩ : ∃ D, (!(A == B)) = D := ⟨_, rfl⟩
      have HST := Lib.hid hst.drew
      have HB := Lib.hid hbe.drew
      clear hst hbe hA hB hq
      go_wp2_with (fail)
      refine wp_region_held_drew (S := (fun w' => (w'.cell? ⟨b, off + i * 4, none⟩ = some (.int .u64 q0) ∧ w'.cell? ⟨b, off + i * 4 + 1, none⟩ = some (.int .u64 q1) ∧ w'.cell? ⟨b, off + i * 4 + 2, none⟩ = some (.int .u64 q2) ∧ w'.cell? ⟨b, off + i * 4 + 3, none⟩ = some (.int .u64 q3)) ∧ w'.cell? ⟨gA, 0, none⟩ = some (.slice (some ⟨b, off, none⟩) L.length cap) ∧ w'.cell? ⟨gB, 0, none⟩ = some (.int .i64 y))) (by kernel_rfl) ?_ (fun hHeld => ?_)
      · (try dsimp only); (exact ⟨⟨c0, c1, c2, c3⟩, e0, f0⟩)

      refine wpAnyH_take (i := 0) (v := ?_) rfl (by kernel_rfl) (by kernel_rfl) (by kernel_rfl) (fun _ _ _ h => h) (Or.inl ⟨by rfl, ?_⟩) (by assumption) ?_
      rotate_left; focus (intro w hSw; (try dsimp only at hSw); go_simp; try (with_reducible rfl); done)
      try simp only [List.getElem_toArray, List.getElem_cons_zero, List.getElem_cons_succ, Act.put, List.setIfInBounds_toArray, List.set_cons_zero, List.set_cons_succ]
      refine wpAnyH_take (i := 1) (v := ?_) rfl (by kernel_rfl) (by kernel_rfl) (by kernel_rfl) (fun _ _ _ h => h) (Or.inl ⟨by rfl, ?_⟩) (by assumption) ?_
      rotate_left; focus (intro w hSw; (try dsimp only at hSw); go_simp; try (with_reducible rfl); done)
      try simp only [List.getElem_toArray, List.getElem_cons_zero, List.getElem_cons_succ, Act.put, List.setIfInBounds_toArray, List.set_cons_zero, List.set_cons_succ]
      refine wpAnyH_take (i := 2) (v := ?_) rfl (by kernel_rfl) (by kernel_rfl) (by kernel_rfl) (fun _ _ _ h => h) (Or.inl ⟨by rfl, ?_⟩) (by assumption) ?_
      rotate_left; focus (intro w hSw; (try dsimp only at hSw); go_simp; try (with_reducible rfl); done)
      try simp only [List.getElem_toArray, List.getElem_cons_zero, List.getElem_cons_succ, Act.put, List.setIfInBounds_toArray, List.set_cons_zero, List.set_cons_succ]
      refine wpAnyH_take (i := 3) (v := ?_) rfl (by kernel_rfl) (by kernel_rfl) (by kernel_rfl) (fun _ _ _ h => h) (Or.inl ⟨by rfl, ?_⟩) (by assumption) ?_
      rotate_left; focus (intro w hSw; (try dsimp only at hSw); go_simp; try (with_reducible rfl); done)
      try simp only [List.getElem_toArray, List.getElem_cons_zero, List.getElem_cons_succ, Act.put, List.setIfInBounds_toArray, List.set_cons_zero, List.set_cons_succ]
      refine wpAnyH_take (i := 4) (v := ?_) rfl (by kernel_rfl) (by kernel_rfl) (by kernel_rfl) (fun _ _ _ h => h) (Or.inl ⟨by rfl, ?_⟩) (by assumption) ?_
      rotate_left; focus (intro w hSw; (try dsimp only at hSw); go_simp; try (with_reducible rfl); done)
      try simp only [List.getElem_toArray, List.getElem_cons_zero, List.getElem_cons_succ, Act.put, List.setIfInBounds_toArray, List.set_cons_zero, List.set_cons_succ]
      refine wpAnyH_take (i := 6) (v := ?_) rfl (by kernel_rfl) (by kernel_rfl) (by kernel_rfl) (fun _ _ _ h => h) (Or.inl ⟨by rfl, ?_⟩) (by assumption) ?_
      rotate_left; focus (intro w hSw; (try dsimp only at hSw); go_simp; try (with_reducible rfl); done)
      try simp only [List.getElem_toArray, List.getElem_cons_zero, List.getElem_cons_succ, Act.put, List.setIfInBounds_toArray, List.set_cons_zero, List.set_cons_succ]
      refine wpAnyH_take (i := 7) (v := ?_) rfl (by kernel_rfl) (by kernel_rfl) (by kernel_rfl) (fun _ _ _ h => h) (Or.inl ⟨by rfl, ?_⟩) (by assumption) ?_
      rotate_left; focus (intro w hSw; (try dsimp only at hSw); go_simp; try (with_reducible rfl); done)
      try simp only [List.getElem_toArray, List.getElem_cons_zero, List.getElem_cons_succ, Act.put, List.setIfInBounds_toArray, List.set_cons_zero, List.set_cons_succ]
      refine wpAnyH_take (i := 8) (v := ?_) rfl (by kernel_rfl) (by kernel_rfl) (by kernel_rfl) (fun _ _ _ h => h) (Or.inl ⟨by rfl, ?_⟩) (by assumption) ?_
      rotate_left; focus (intro w hSw; (try dsimp only at hSw); go_simp; try (with_reducible rfl); done)
      try simp only [List.getElem_toArray, List.getElem_cons_zero, List.getElem_cons_succ, Act.put, List.setIfInBounds_toArray, List.set_cons_zero, List.set_cons_succ]
      refine wpAnyH_take (i := 9) (v := ?_) rfl (by kernel_rfl) (by kernel_rfl) (by kernel_rfl) (fun _ _ _ h => h) (Or.inl ⟨by rfl, ?_⟩) (by assumption) ?_
      rotate_left; focus (intro w hSw; (try dsimp only at hSw); go_simp; try (with_reducible rfl); done)
      try simp only [List.getElem_toArray, List.getElem_cons_zero, List.getElem_cons_succ, Act.put, List.setIfInBounds_toArray, List.set_cons_zero, List.set_cons_succ]
      refine wpAnyH_take (i := 10) (v := ?_) rfl (by kernel_rfl) (by kernel_rfl) (by kernel_rfl) (fun _ _ _ h => h) (Or.inl ⟨by rfl, ?_⟩) (by assumption) ?_
      rotate_left; focus (intro w hSw; (try dsimp only at hSw); go_simp; try (with_reducible rfl); done)
      try simp only [List.getElem_toArray, List.getElem_cons_zero, List.getElem_cons_succ, Act.put, List.setIfInBounds_toArray, List.set_cons_zero, List.set_cons_succ]
      refine wpAnyH_ready (rs := [5]) (by kernel_rfl) (by simp) ?_
      refine AllReadyH.cons rfl (fun K hK => ?_) AllReadyH.nil
      go_simp
      (go_at_call 9; (first | (with_reducible refine (HH3.out _).mono ?_) | (with_reducible refine (HH4.out _).mono ?_)); rintro e w9 ⟨rfl, hb9⟩; have HST := Lib.hid (HST.out.call hb9); have HB := Lib.hid (HB.out.trans (hb9.mono HB.out.size)); have c0 := bkeep hb9 c0; have c1 := bkeep hb9 c1; have c2 := bkeep hb9 c2; have c3 := bkeep hb9 c3; clear hb9; have e0 := (HST.out.nth 1 rfl).celAt (i := 0) (v := .slice (some ⟨b, off, none⟩) L.length cap) rfl; have f0 := (HST.out.nth 0 rfl).celAt (i := 0) (v := .int .i64 y) rfl)
      refine hK.out _ _ ?_ (fun hHeld => ?_)
      · (try dsimp only); (exact ⟨⟨c0, c1, c2, c3⟩, e0, f0⟩)
      clear hK K
      try simp only [List.getElem_toArray, List.getElem_cons_zero, List.getElem_cons_succ, Act.put, List.setIfInBounds_toArray, List.set_cons_zero, List.set_cons_succ]
      refine wpAnyH_ready (rs := [11]) (by kernel_rfl) (by simp) ?_
      refine AllReadyH.cons rfl (fun K hK => ?_) AllReadyH.nil
      go_simp
      (go_at_call 9; (first | (with_reducible refine (HH3.out _).mono ?_) | (with_reducible refine (HH4.out _).mono ?_)); rintro e w9 ⟨rfl, hb9⟩; have HST := Lib.hid (HST.out.call hb9); have HB := Lib.hid (HB.out.trans (hb9.mono HB.out.size)); have c0 := bkeep hb9 c0; have c1 := bkeep hb9 c1; have c2 := bkeep hb9 c2; have c3 := bkeep hb9 c3; clear hb9; have e0 := (HST.out.nth 1 rfl).celAt (i := 0) (v := .slice (some ⟨b, off, none⟩) L.length cap) rfl; have f0 := (HST.out.nth 0 rfl).celAt (i := 0) (v := .int .i64 y) rfl)
      refine hK.out _ _ ?_ (fun hHeld => ?_)
      · (try dsimp only); (exact ⟨⟨c0, c1, c2, c3⟩, e0, f0⟩)
      clear hK K
      try simp only [List.getElem_toArray, List.getElem_cons_zero, List.getElem_cons_succ, Act.put, List.setIfInBounds_toArray, List.set_cons_zero, List.set_cons_succ]
      refine wpAnyH_take (i := 12) (v := ?_) rfl (by kernel_rfl) (by kernel_rfl) (by kernel_rfl) (fun _ _ _ h => h) (Or.inl ⟨by rfl, ?_⟩) (by assumption) ?_
      rotate_left; focus (intro w hSw; (try dsimp only at hSw); go_simp; try (with_reducible rfl); done)
      try simp only [List.getElem_toArray, List.getElem_cons_zero, List.getElem_cons_succ, Act.put, List.setIfInBounds_toArray, List.set_cons_zero, List.set_cons_succ]
      refine wpAnyH_done (by kernel_rfl) ?_ _
      cases D
      · have HM2 := Lib.hid (HMS.out (by simpa using hD))
        go_wp2
        go_roundg (L.length - (i + 1))
        case measure => have := HGZ.out; omega
        case rel => exact ⟨i + 1, by omega, rfl, by go_num, HM2, HB.out, HST.out⟩
      · have HF := Lib.hid (HNO.out (by simpa using hD))
        go_wp2
        go_ret
        exact ⟨by rw [HF.out]; rfl, HB.out⟩
    · have hge : ¬ ((i : Int) < L.length) := by omega
      have hie : i = L.length := by omega
      have HZT := Lib.hid (show Z = true from HZI.out.2 fun l hl => by
        obtain ⟨j, hj, rfl⟩ := List.getElem_of_mem hl
        have := HM.out j (by omega)
        rw [show L.getD j [] = L[j] by simp [List.getD, List.getElem?_eq_getElem hj]] at this
        exact this)
      have HB := Lib.hid hbe
      clear hst hbe hie
      go_wp2
      go_ret
      exact ⟨by rw [HZT.out]; rfl, HB.out⟩
end Go.Proofs.YtlgabpcddldelaaDoor
