/-
  slices.Reverse over bytes that the caller owns.
-/
import Derived.Test.YtbpjmdemmmdnbaaSepPick
import Derived.Deep.RegionHeld
namespace Go.Proofs.Ytbpjmdemmmdnbaa
set_option linter.unusedVariables false
set_option linter.unusedSimpArgs false
open Go.ChangeShapes Go.WideShapes Go.ChangeAt Go.RowKit

namespace Rev
/-- i elements from each end have changed places. -/
def revK (l : List Int) (i : Nat) : List Int := (List.range l.length).map fun p => if p < i ∨ l.length ≤ p + i then l.getD (l.length - 1 - p) 0 else l.getD p 0
theorem revK_len (l : List Int) (i : Nat) : (revK l i).length = l.length := by simp [revK]
theorem revK_at {l : List Int} {i p : Nat} (hp : p < l.length) : (revK l i).getD p 0 = if p < i ∨ l.length ≤ p + i then l.getD (l.length - 1 - p) 0 else l.getD p 0 := by
  unfold revK
  rw [List.getD_eq_getElem?_getD, List.getElem?_map, List.getElem?_range hp]
  rfl
theorem ext_getD {l m : List Int} (hl : l.length = m.length) (h : ∀ p, p < l.length → l.getD p 0 = m.getD p 0) : l = m := by
  apply List.ext_getElem hl
  intro p h1 h2
  have := h p h1
  simpa [List.getD, List.getElem?_eq_getElem h1, List.getElem?_eq_getElem h2] using this
theorem revK_zero (l : List Int) : revK l 0 = l := by
  refine ext_getD (revK_len l 0) (fun p hp => ?_)
  rw [revK_len] at hp
  rw [revK_at hp, if_neg (by omega)]
theorem revK_end {l : List Int} {i : Nat} (h : l.length ≤ 2 * i + 1) : revK l i = l.reverse := by
  refine ext_getD (by rw [revK_len, List.length_reverse]) (fun p hp => ?_)
  rw [revK_len] at hp
  have hr : l.reverse.getD p 0 = l.getD (l.length - 1 - p) 0 := by
    rw [List.getD_eq_getElem?_getD, List.getElem?_reverse hp, ← List.getD_eq_getElem?_getD]
  rw [revK_at hp, hr]
  by_cases c : p < i ∨ l.length ≤ p + i
  · rw [if_pos c]
  · rw [if_neg c, show l.length - 1 - p = p by omega]
theorem revK_step {l : List Int} {i : Nat} (h : i + 1 < l.length - i) : ((revK l i).set i ((revK l i).getD (l.length - 1 - i) 0)).set (l.length - 1 - i) ((revK l i).getD i 0) = revK l (i + 1) := by
  have e1 : (revK l i).getD i 0 = l.getD i 0 := by rw [revK_at (by omega), if_neg (by omega)]
  have e2 : (revK l i).getD (l.length - 1 - i) 0 = l.getD (l.length - 1 - i) 0 := by rw [revK_at (by omega), if_neg (by omega)]
  rw [e1, e2]
  refine ext_getD (by simp [revK_len]) (fun p hp => ?_)
  have hp2 : p < l.length := by simpa [revK_len] using hp
  rw [revK_at hp2]
  by_cases c1 : l.length - 1 - i = p
  · subst c1
    rw [List.getD_eq_getElem?_getD, List.getElem?_set_self (by simp [revK_len]; omega), if_pos (by omega), show l.length - 1 - (l.length - 1 - i) = i by omega]
    rfl
  · rw [List.getD_eq_getElem?_getD, List.getElem?_set_ne c1]
    by_cases c2 : i = p
    · subst c2
      rw [List.getElem?_set_self (by rw [revK_len]; exact hp2), if_pos (by omega)]
      rfl
    · rw [List.getElem?_set_ne c2, ← List.getD_eq_getElem?_getD, revK_at hp2]
      by_cases c3 : p < i ∨ l.length ≤ p + i
      · rw [if_pos c3, if_pos (by omega)]
      · rw [if_neg c3, if_neg (by omega)]
end Rev
def Rev.bV (x : Int) : Value := .int .u8 x

set_option maxRecDepth 100000 in
set_option maxHeartbeats 1600000 in
theorem reverse_any (l : List Int) (v : Value) (w0 w : World) (μ : List Asrt) (h : St w0 w (aOwn 5 1 v (l.map Rev.bV) :: μ)) (hl : (l.length : Int) ≤ 140737488355328) :
    Calls Try.prog 35 #[v] w fun e w' => e = .returned (.tuple #[]) ∧ St w0 w' (aOwn 5 1 v (l.reverse.map Rev.bV) :: μ) := by
  obtain ⟨ao, c, hv⟩ := (h.nth 0 rfl).own.isLen
  rw [List.length_map] at hv
  subst hv
  have HST := Lib.hid h
  clear h
  go_enter Try.func35, Try.ntmps35
  go_wp2
  go_loopg [2, 3] l.length (fun gk v2 v3 wr => ∃ (i : Nat), i ≤ l.length ∧ gk = l.length - i ∧ v2 = .int .i64 i ∧ v3 = .int .i64 ((l.length : Int) - 1 - i) ∧ St w0 wr (aOwn 5 1 (.slice ao l.length c) ((Rev.revK l i).map Rev.bV) :: μ))
  case atStart => exact ⟨0, by omega, by omega, rfl, int_eq (by omega), by rw [Rev.revK_zero]; exact HST.out⟩
  case round =>
    clear HST
    obtain ⟨i, hi, hgk, rfl, rfl, hst⟩ := hrel
    have HGK := Lib.hid hgk
    clear hgk
    by_cases hlt : (i : Int) < (l.length : Int) - 1 - i
    · obtain ⟨j, hj⟩ : ∃ j : Nat, (l.length : Int) - 1 - i = j := ⟨l.length - 1 - i, by omega⟩
      rw [hj] at hlt ⊢
      have hjl : (j : Int) < l.length := by omega
      have hil : (i : Int) < l.length := by omega
      have hjn : j = l.length - 1 - i := by omega
      obtain ⟨g, rfl⟩ : ∃ g, ao = some ⟨g, 0, none⟩ := (hst.nth 0 rfl).own.addr (by rw [List.length_map, Rev.revK_len]; omega)
      have HSP := Lib.hid (Rev.revK_step (l := l) (i := i) (by omega))
      rw [← hjn] at HSP
      obtain ⟨L, hL⟩ : ∃ L, Rev.revK l i = L := ⟨_, rfl⟩
      rw [hL] at HSP hst
      have hLl : L.length = l.length := by rw [← hL, Rev.revK_len]
      have hstD := hst.drew
      have i0 := (hstD.cellOwn (f := Rev.bV) (fun _ => rfl) i (by omega) 0)
      have j0 := (hstD.cellOwn (f := Rev.bV) (fun _ => rfl) j (by omega) 0)
      have hst1 := hstD.setOwn (f := Rev.bV) (fun _ => rfl) i (L.getD j 0)
      have j1 := (hst1.cellOwn (f := Rev.bV) (fun _ => rfl) j (by rw [List.length_set]; omega) 0)
      have hst2 := hst1.setOwn (f := Rev.bV) (fun _ => rfl) j (L.getD i 0)
      have HST2 := Lib.hid hst2
      have HJ := Lib.hid hj
      generalize L.getD j 0 = y at *
      generalize L.getD i 0 = x at *
      generalize (L.set i y).getD j 0 = z at *
      obtain ⟨i0, i1⟩ := i0
      obtain ⟨j0, j0'⟩ := j0
      obtain ⟨j1, j1'⟩ := j1
      replace i0 : wr.drew.cell? ⟨g, i, none⟩ = some (.int .u8 x) := i0
      replace j0 : wr.drew.cell? ⟨g, j, none⟩ = some (.int .u8 y) := j0
      have k0 : wr.cell? ⟨g, j, none⟩ = some (.int .u8 y) := j0
      have k1 : wr.frozen? ⟨g, j, none⟩ = false := j0'
      clear j1 j1'
      clear hst hstD hst1 hst2 hj hjn hL hLl
      go_wp2_with (fail)
      refine wp_region_held_drew (S := (fun w' => True)) (by kernel_rfl) ?_ (fun hHeld => ?_)
      · (try dsimp only); (first | done | exact trivial)

      refine wpAnyH_take (i := 0) (v := ?_) rfl (by kernel_rfl) (by kernel_rfl) (by kernel_rfl) (fun _ _ _ h => h) (Or.inl ⟨by rfl, ?_⟩) (by assumption) ?_
      rotate_left; focus (intro w hSw; (try dsimp only at hSw); go_simp; try (with_reducible rfl); done)
      try simp only [List.getElem_toArray, List.getElem_cons_zero, List.getElem_cons_succ, Act.put, List.setIfInBounds_toArray, List.set_cons_zero, List.set_cons_succ]
      refine wpAnyH_take (i := 1) (v := ?_) rfl (by kernel_rfl) (by kernel_rfl) (by kernel_rfl) (fun _ _ _ h => h) (Or.inl ⟨by rfl, ?_⟩) (by assumption) ?_
      rotate_left; focus (intro w hSw; (try dsimp only at hSw); go_simp; try (with_reducible rfl); done)
      try simp only [List.getElem_toArray, List.getElem_cons_zero, List.getElem_cons_succ, Act.put, List.setIfInBounds_toArray, List.set_cons_zero, List.set_cons_succ]
      refine wpAnyH_take (i := 2) (v := ?_) rfl (by kernel_rfl) (by kernel_rfl) (by kernel_rfl) (fun _ _ _ h => h) (Or.inl ⟨by rfl, ?_⟩) (by assumption) ?_
      rotate_left; focus (intro w hSw; (try dsimp only at hSw); go_simp; try (with_reducible rfl); done)
      try simp only [List.getElem_toArray, List.getElem_cons_zero, List.getElem_cons_succ, Act.put, List.setIfInBounds_toArray, List.set_cons_zero, List.set_cons_succ]
      refine wpAnyH_take (i := 3) (v := ?_) rfl (by kernel_rfl) (by kernel_rfl) (by kernel_rfl) (fun _ _ _ h => h) (Or.inl ⟨by rfl, ?_⟩) (by assumption) ?_
      rotate_left; focus (intro w hSw; (try dsimp only at hSw); go_simp; try (with_reducible rfl); done)
      try simp only [List.getElem_toArray, List.getElem_cons_zero, List.getElem_cons_succ, Act.put, List.setIfInBounds_toArray, List.set_cons_zero, List.set_cons_succ]
      refine wpAnyH_take (i := 4) (v := ?_) rfl (by kernel_rfl) (by kernel_rfl) (by kernel_rfl) (fun _ _ _ h => h) (Or.inl ⟨by rfl, ?_⟩) (by assumption) ?_
      rotate_left; focus (intro w hSw; (try dsimp only at hSw); go_simp; try (with_reducible rfl); done)
      try simp only [List.getElem_toArray, List.getElem_cons_zero, List.getElem_cons_succ, Act.put, List.setIfInBounds_toArray, List.set_cons_zero, List.set_cons_succ]
      refine wpAnyH_take (i := 5) (v := ?_) rfl (by kernel_rfl) (by kernel_rfl) (by kernel_rfl) (fun _ _ _ h => h) (Or.inl ⟨by rfl, ?_⟩) (by assumption) ?_
      rotate_left; focus (intro w hSw; (try dsimp only at hSw); go_simp; try (with_reducible rfl); done)
      try simp only [List.getElem_toArray, List.getElem_cons_zero, List.getElem_cons_succ, Act.put, List.setIfInBounds_toArray, List.set_cons_zero, List.set_cons_succ]
      refine wpAnyH_take (i := 6) (v := ?_) rfl (by kernel_rfl) (by kernel_rfl) (by kernel_rfl) (fun _ _ _ h => h) (Or.inl ⟨by rfl, ?_⟩) (by assumption) ?_
      rotate_left; focus (intro w hSw; (try dsimp only at hSw); go_simp; try (with_reducible rfl); done)
      try simp only [List.getElem_toArray, List.getElem_cons_zero, List.getElem_cons_succ, Act.put, List.setIfInBounds_toArray, List.set_cons_zero, List.set_cons_succ]
      refine wpAnyH_take (i := 8) (v := ?_) rfl (by kernel_rfl) (by kernel_rfl) (by kernel_rfl) (fun _ _ _ h => h) (Or.inl ⟨by rfl, ?_⟩) (by assumption) ?_
      rotate_left; focus (intro w hSw; (try dsimp only at hSw); go_simp; try (with_reducible rfl); done)
      try simp only [List.getElem_toArray, List.getElem_cons_zero, List.getElem_cons_succ, Act.put, List.setIfInBounds_toArray, List.set_cons_zero, List.set_cons_succ]
      refine wpAnyH_take (i := 9) (v := ?_) rfl (by kernel_rfl) (by kernel_rfl) (by kernel_rfl) (fun _ _ _ h => h) (Or.inl ⟨by rfl, ?_⟩) (by assumption) ?_
      rotate_left; focus (intro w hSw; (try dsimp only at hSw); go_simp; try (with_reducible rfl); done)
      try simp only [List.getElem_toArray, List.getElem_cons_zero, List.getElem_cons_succ, Act.put, List.setIfInBounds_toArray, List.set_cons_zero, List.set_cons_succ]
      refine wpAnyH_take (i := 10) (v := ?_) rfl (by kernel_rfl) (by kernel_rfl) (by kernel_rfl) (fun _ _ _ h => h) (Or.inl ⟨by rfl, ?_⟩) (by assumption) ?_
      rotate_left; focus (intro w hSw; (try dsimp only at hSw); go_simp; try (with_reducible rfl); done)
      try simp only [List.getElem_toArray, List.getElem_cons_zero, List.getElem_cons_succ, Act.put, List.setIfInBounds_toArray, List.set_cons_zero, List.set_cons_succ]
      refine wpAnyH_ready (rs := [7, 11]) (by kernel_rfl) (by simp) ?_
      refine AllReadyH.cons rfl (fun K hK => ?_) (AllReadyH.cons rfl (fun K hK => ?_) (AllReadyH.nil))
      · skip
        go_simp
        refine hK.out _ _ ?_ (fun hHeld => ?_)
        · (try dsimp only); (first | done | exact trivial)
        clear hK K
        try simp only [List.getElem_toArray, List.getElem_cons_zero, List.getElem_cons_succ, Act.put, List.setIfInBounds_toArray, List.set_cons_zero, List.set_cons_succ]
        refine wpAnyH_ready (rs := [11]) (by kernel_rfl) (by simp) ?_
        refine AllReadyH.cons rfl (fun K hK => ?_) (AllReadyH.nil)
        go_simp
        refine hK.out _ _ ?_ (fun hHeld => ?_)
        · (try dsimp only); (first | done | exact trivial)
        clear hK K
        try simp only [List.getElem_toArray, List.getElem_cons_zero, List.getElem_cons_succ, Act.put, List.setIfInBounds_toArray, List.set_cons_zero, List.set_cons_succ]
        refine wpAnyH_take (i := 12) (v := ?_) rfl (by kernel_rfl) (by kernel_rfl) (by kernel_rfl) (fun _ _ _ h => h) (Or.inl ⟨by rfl, ?_⟩) (by assumption) ?_
        rotate_left; focus (intro w hSw; (try dsimp only at hSw); go_simp; try (with_reducible rfl); done)
        try simp only [List.getElem_toArray, List.getElem_cons_zero, List.getElem_cons_succ, Act.put, List.setIfInBounds_toArray, List.set_cons_zero, List.set_cons_succ]
        refine wpAnyH_ready (rs := [13]) (by kernel_rfl) (by simp) ?_
        refine AllReadyH.cons rfl (fun K hK => ?_) AllReadyH.nil
        go_simp
        refine hK.out _ _ ?_ (fun hHeld => ?_)
        · (try dsimp only); (first | done | exact trivial)
        clear hK K
        try simp only [List.getElem_toArray, List.getElem_cons_zero, List.getElem_cons_succ, Act.put, List.setIfInBounds_toArray, List.set_cons_zero, List.set_cons_succ]
        refine wpAnyH_take (i := 14) (v := ?_) rfl (by kernel_rfl) (by kernel_rfl) (by kernel_rfl) (fun _ _ _ h => h) (Or.inl ⟨by rfl, ?_⟩) (by assumption) ?_
        rotate_left; focus (intro w hSw; (try dsimp only at hSw); go_simp; try (with_reducible rfl); done)
        try simp only [List.getElem_toArray, List.getElem_cons_zero, List.getElem_cons_succ, Act.put, List.setIfInBounds_toArray, List.set_cons_zero, List.set_cons_succ]
        refine wpAnyH_ready (rs := [15]) (by kernel_rfl) (by simp) ?_
        refine AllReadyH.cons rfl (fun K hK => ?_) AllReadyH.nil
        go_simp
        refine hK.out _ _ ?_ (fun hHeld => ?_)
        · (try dsimp only); (first | done | exact trivial)
        clear hK K
        try simp only [List.getElem_toArray, List.getElem_cons_zero, List.getElem_cons_succ, Act.put, List.setIfInBounds_toArray, List.set_cons_zero, List.set_cons_succ]
        refine wpAnyH_done (by kernel_rfl) ?_ _
        (go_wp2; go_roundg (l.length - (i + 1)); (case measure => have := HGK.out; omega); (case rel => exact ⟨i + 1, by omega, rfl, by go_num, int_eq (by have := HJ.out; omega), by rw [← HSP.out]; exact HST2.out⟩))
      · skip
        go_simp
        refine hK.out _ _ ?_ (fun hHeld => ?_)
        · (try dsimp only); (first | done | exact trivial)
        clear hK K
        try simp only [List.getElem_toArray, List.getElem_cons_zero, List.getElem_cons_succ, Act.put, List.setIfInBounds_toArray, List.set_cons_zero, List.set_cons_succ]
        refine wpAnyH_ready (rs := [7]) (by kernel_rfl) (by simp) ?_
        refine AllReadyH.cons rfl (fun K hK => ?_) (AllReadyH.nil)
        go_simp
        refine hK.out _ _ ?_ (fun hHeld => ?_)
        · (try dsimp only); (first | done | exact trivial)
        clear hK K
        try simp only [List.getElem_toArray, List.getElem_cons_zero, List.getElem_cons_succ, Act.put, List.setIfInBounds_toArray, List.set_cons_zero, List.set_cons_succ]
        refine wpAnyH_take (i := 12) (v := ?_) rfl (by kernel_rfl) (by kernel_rfl) (by kernel_rfl) (fun _ _ _ h => h) (Or.inl ⟨by rfl, ?_⟩) (by assumption) ?_
        rotate_left; focus (intro w hSw; (try dsimp only at hSw); go_simp; try (with_reducible rfl); done)
        try simp only [List.getElem_toArray, List.getElem_cons_zero, List.getElem_cons_succ, Act.put, List.setIfInBounds_toArray, List.set_cons_zero, List.set_cons_succ]
        refine wpAnyH_ready (rs := [13]) (by kernel_rfl) (by simp) ?_
        refine AllReadyH.cons rfl (fun K hK => ?_) AllReadyH.nil
        go_simp
        refine hK.out _ _ ?_ (fun hHeld => ?_)
        · (try dsimp only); (first | done | exact trivial)
        clear hK K
        try simp only [List.getElem_toArray, List.getElem_cons_zero, List.getElem_cons_succ, Act.put, List.setIfInBounds_toArray, List.set_cons_zero, List.set_cons_succ]
        refine wpAnyH_take (i := 14) (v := ?_) rfl (by kernel_rfl) (by kernel_rfl) (by kernel_rfl) (fun _ _ _ h => h) (Or.inl ⟨by rfl, ?_⟩) (by assumption) ?_
        rotate_left; focus (intro w hSw; (try dsimp only at hSw); go_simp; try (with_reducible rfl); done)
        try simp only [List.getElem_toArray, List.getElem_cons_zero, List.getElem_cons_succ, Act.put, List.setIfInBounds_toArray, List.set_cons_zero, List.set_cons_succ]
        refine wpAnyH_ready (rs := [15]) (by kernel_rfl) (by simp) ?_
        refine AllReadyH.cons rfl (fun K hK => ?_) AllReadyH.nil
        go_simp
        refine hK.out _ _ ?_ (fun hHeld => ?_)
        · (try dsimp only); (first | done | exact trivial)
        clear hK K
        try simp only [List.getElem_toArray, List.getElem_cons_zero, List.getElem_cons_succ, Act.put, List.setIfInBounds_toArray, List.set_cons_zero, List.set_cons_succ]
        refine wpAnyH_done (by kernel_rfl) ?_ _
        (go_wp2; go_roundg (l.length - (i + 1)); (case measure => have := HGK.out; omega); (case rel => exact ⟨i + 1, by omega, rfl, by go_num, int_eq (by have := HJ.out; omega), by rw [← HSP.out]; exact HST2.out⟩))
    · have HE := Lib.hid (Rev.revK_end (l := l) (i := i) (by omega))
      rw [HE.out] at hst
      have HST := Lib.hid hst
      clear hst
      go_wp2
      go_end0
      exact ⟨rfl, by rw [← List.map_reverse]; exact HST.out⟩
end Go.Proofs.Ytbpjmdemmmdnbaa
