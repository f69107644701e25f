/-
  Range, Join, Meet, Not of package class; Where of the reference.
-/
import Derived.Test.YtlgabpcddldelaaDoorCs
import Derived.WalkLawsBesides
namespace Go.Proofs.YtlgabpcddldelaaDoor
set_option linter.unusedVariables false
set_option linter.unusedSimpArgs false
open Go.ChangeShapes Go.WideShapes Go.ChangeAt Go.RowKit

set_option maxRecDepth 100000 in
set_option maxHeartbeats 1600000 in
theorem clRange_any (lo hi : Int) (h1 : -9223372036854775808 ≤ lo) (h2 : lo ≤ 9223372036854775807) (h3 : -9223372036854775808 ≤ hi) (h4 : hi ≤ 9223372036854775807) (w : World) :
    Calls Tryd.prog 10 #[.int .i64 lo, .int .i64 hi] w fun e w' => e = .returned (Cs.clV (Cs.of fun x => decide (lo ≤ (x : Int) ∧ (x : Int) ≤ hi))) ∧ Below w.heap.size w w' := by
  have hst := ((St.init w).alloc (Cs.clA Dm.zero) 24).alloc (Cs.clA Dm.zero) 24
  simp only [World.size_alloc] at hst
  have HST := Lib.hid hst
  clear hst
  have hmx := fun (W : World) ts t => run_max_int2 (P := Tryd.prog) (w := W) ts t .i64 .i64 lo 0
  have hmn := fun (W : World) ts t => run_min_int2 (P := Tryd.prog) (w := W) ts t .i64 .i64 hi 255
  obtain ⟨m, hm, hm0, hm1, hm2⟩ : ∃ m, (if 0 > lo then 0 else lo) = m ∧ 0 ≤ m ∧ lo ≤ m ∧ m ≤ 9223372036854775807 ∧ (m = 0 ∨ m = lo) := by
    by_cases h : 0 > lo
    · exact ⟨0, by rw [if_pos h], by omega, by omega, by omega, .inl rfl⟩
    · exact ⟨lo, by rw [if_neg h], by omega, by omega, by omega, .inr rfl⟩
  obtain ⟨hm2, hm3⟩ := hm2
  obtain ⟨M, hM, hM0, hM1, hM2⟩ : ∃ M, (if 255 < hi then 255 else hi) = M ∧ M ≤ 255 ∧ M ≤ hi ∧ (M = 255 ∨ M = hi) := by
    by_cases h : 255 < hi
    · exact ⟨255, by rw [if_pos h], by omega, by omega, .inl rfl⟩
    · exact ⟨hi, by rw [if_neg h], by omega, by omega, .inr rfl⟩
  rw [hm] at hmx
  rw [hM] at hmn
  have HM3 := Lib.hid hm3; have HM2 := Lib.hid hM2
  clear hm hM hm3 hM2
  obtain ⟨Z, hZ⟩ : ∃ Z, (Cs.of fun x => decide (lo ≤ (x : Int) ∧ (x : Int) ≤ hi)) = Z := ⟨_, rfl⟩
  rw [hZ]
  have HZ := Lib.hid hZ
  clear hZ
  go_enter Tryd.func10, Tryd.ntmps10
  go_wp2_with (fail)
  go_loopg [6] (256 - m.toNat) (fun gz v6 wr => ∃ b : Nat, (b : Int) ≤ 9223372036854775807 ∧ gz = 256 - b ∧ m ≤ b ∧ v6 = .int .i64 b ∧ St w wr [aCel (w.heap.size + 1) 24 (Cs.clA (Cs.of fun x => decide (lo ≤ (x : Int) ∧ (x : Int) ≤ hi ∧ x < b))), aCel w.heap.size 24 (Cs.clA Dm.zero)])
  case atStart =>
    refine ⟨m.toNat, by omega, rfl, by omega, by rw [Int.toNat_of_nonneg hm0], ?_⟩
    rw [show (Cs.of fun x => decide (lo ≤ (x : Int) ∧ (x : Int) ≤ hi ∧ x < m.toNat)) = Dm.zero from by
      rw [← Cs.of_false]
      refine Cs.of_congr fun x hx => decide_eq_false ?_
      have := HM3.out
      omega]
    exact HST.out
  case round =>
    clear HST
    obtain ⟨b, hbb, hgz, hmb, rfl, hst⟩ := hrel
    have HGZ := Lib.hid hgz
    clear hgz
    by_cases hle : (b : Int) ≤ M
    · have hb : b < 256 := by omega
      have HP := Lib.hid (Cs.of_put (p := fun x => decide (lo ≤ (x : Int) ∧ (x : Int) ≤ hi ∧ x < b)) (q := fun x => decide (lo ≤ (x : Int) ∧ (x : Int) ≤ hi ∧ x < b + 1)) hb (fun x hx => by
        rw [Bool.eq_iff_iff, Bool.or_eq_true, decide_eq_true_iff, decide_eq_true_iff, decide_eq_true_iff]
        omega))
      have h4 := Cs.ok_of (fun x => decide (lo ≤ (x : Int) ∧ (x : Int) ≤ hi ∧ x < b))
      unfold Dm.put at HP
      generalize (Cs.of fun x => decide (lo ≤ (x : Int) ∧ (x : Int) ≤ hi ∧ x < b)) = ws at *
      have hlt := h4.lt (b / 64)
      have hget := Cs.clA_get (ws := ws) (j := b / 64) (by rw [h4.len]; omega)
      have hst2 := hst.drew.setCel (b / 64) (Cs.wV (ws.getD (b / 64) 0 ||| 2 ^ (b % 64)))
      rw [Cs.clA_set, HP.out] at hst2
      unfold Cs.wV at hget hst2
      have c0 := hst.drew.celAt hget
      have f0 := hst.drew.celFree (b / 64)
      have HST2 := Lib.hid hst2
      have hpow : 2 ^ (b % 64) < 18446744073709551616 := Nat.pow_lt_pow_right (a := 2) (m := b % 64) (n := 64) (by decide) (by omega)
      have hor : bits .or .u64 ((ws.getD (b / 64) 0 : Nat) : Int) ((2 ^ (b % 64) : Nat) : Int) = ((ws.getD (b / 64) 0 ||| 2 ^ (b % 64) : Nat) : Int) := bits_or_u64_nat _ _ hlt hpow
      have hsh : IntKind.u64.wrap ((2 : Int) ^ (b % 64)) = ((2 ^ (b % 64) : Nat) : Int) := by
        have e : ((2 : Int) ^ (b % 64)) = ((2 ^ (b % 64) : Nat) : Int) := by simp
        rw [e, IntKind.wrap_u64]
        exact Int.emod_eq_of_lt (Int.natCast_nonneg _) (Int.ofNat_lt.2 hpow)
      have h63 := Cs.and63 b
      have hq : ((b % 64 : Nat) : Int) < 64 := by omega
      have hii : (b : Int) < 256 := by omega
      generalize ((2 ^ (b % 64) : Nat) : Int) = z at *
      generalize (ws.getD (b / 64) 0 ||| 2 ^ (b % 64)) = u at *
      generalize ws.getD (b / 64) 0 = y at *
      generalize b % 64 = q at *
      have hd0 : (0 : Int) ≤ (b : Int) / 64 := by omega
      have hd1 : (b : Int) / 64 < 4 := by omega
      have hdn : ((b : Int) / 64).toNat = b / 64 := by omega
      clear hlt h4 hst hget hst2 hpow HP
      go_wp2_with (fail)
      refine wp_region_held_drew (S := (fun w' => True)) (by kernel_rfl) ?_ (fun hHeld => ?_)
      · (try dsimp only); (first | done | exact trivial)

      refine wpAnyH_take (i := 0) (v := ?_) rfl (by kernel_rfl) (by kernel_rfl) (by kernel_rfl) (fun _ _ _ h => h) (Or.inl ⟨by rfl, ?_⟩) (by assumption) ?_
      rotate_left; focus (intro w hSw; (try dsimp only at hSw); go_simp; try (with_reducible rfl); done)
      try simp only [List.getElem_toArray, List.getElem_cons_zero, List.getElem_cons_succ, Act.put, List.setIfInBounds_toArray, List.set_cons_zero, List.set_cons_succ]
      refine wpAnyH_take (i := 1) (v := ?_) rfl (by kernel_rfl) (by kernel_rfl) (by kernel_rfl) (fun _ _ _ h => h) (Or.inl ⟨by rfl, ?_⟩) (by assumption) ?_
      rotate_left; focus (intro w hSw; (try dsimp only at hSw); go_simp; try (with_reducible rfl); done)
      try simp only [List.getElem_toArray, List.getElem_cons_zero, List.getElem_cons_succ, Act.put, List.setIfInBounds_toArray, List.set_cons_zero, List.set_cons_succ]
      refine wpAnyH_take (i := 2) (v := ?_) rfl (by kernel_rfl) (by kernel_rfl) (by kernel_rfl) (fun _ _ _ h => h) (Or.inl ⟨by rfl, ?_⟩) (by assumption) ?_
      rotate_left; focus (intro w hSw; (try dsimp only at hSw); go_simp; try (with_reducible rfl); done)
      try simp only [List.getElem_toArray, List.getElem_cons_zero, List.getElem_cons_succ, Act.put, List.setIfInBounds_toArray, List.set_cons_zero, List.set_cons_succ]
      refine wpAnyH_take (i := 4) (v := ?_) rfl (by kernel_rfl) (by kernel_rfl) (by kernel_rfl) (fun _ _ _ h => h) (Or.inl ⟨by rfl, ?_⟩) (by assumption) ?_
      rotate_left; focus (intro w hSw; (try dsimp only at hSw); go_simp; try (with_reducible rfl); done)
      try simp only [List.getElem_toArray, List.getElem_cons_zero, List.getElem_cons_succ, Act.put, List.setIfInBounds_toArray, List.set_cons_zero, List.set_cons_succ]
      refine wpAnyH_take (i := 5) (v := ?_) rfl (by kernel_rfl) (by kernel_rfl) (by kernel_rfl) (fun _ _ _ h => h) (Or.inl ⟨by rfl, ?_⟩) (by assumption) ?_
      rotate_left; focus (intro w hSw; (try dsimp only at hSw); go_simp; try (with_reducible rfl); done)
      try simp only [List.getElem_toArray, List.getElem_cons_zero, List.getElem_cons_succ, Act.put, List.setIfInBounds_toArray, List.set_cons_zero, List.set_cons_succ]
      refine wpAnyH_take (i := 6) (v := ?_) rfl (by kernel_rfl) (by kernel_rfl) (by kernel_rfl) (fun _ _ _ h => h) (Or.inl ⟨by rfl, ?_⟩) (by assumption) ?_
      rotate_left; focus (intro w hSw; (try dsimp only at hSw); go_simp; try (with_reducible rfl); done)
      try simp only [List.getElem_toArray, List.getElem_cons_zero, List.getElem_cons_succ, Act.put, List.setIfInBounds_toArray, List.set_cons_zero, List.set_cons_succ]
      refine wpAnyH_ready (rs := [3]) (by kernel_rfl) (by simp) ?_
      refine AllReadyH.cons rfl (fun K hK => ?_) AllReadyH.nil
      go_simp
      refine hK.out _ _ ?_ (fun hHeld => ?_)
      · (try dsimp only); (first | done | exact trivial)
      clear hK K
      try simp only [List.getElem_toArray, List.getElem_cons_zero, List.getElem_cons_succ, Act.put, List.setIfInBounds_toArray, List.set_cons_zero, List.set_cons_succ]
      refine wpAnyH_take (i := 7) (v := ?_) rfl (by kernel_rfl) (by kernel_rfl) (by kernel_rfl) (fun _ _ _ h => h) (Or.inl ⟨by rfl, ?_⟩) (by assumption) ?_
      rotate_left; focus (intro w hSw; (try dsimp only at hSw); go_simp; try (with_reducible rfl); done)
      try simp only [List.getElem_toArray, List.getElem_cons_zero, List.getElem_cons_succ, Act.put, List.setIfInBounds_toArray, List.set_cons_zero, List.set_cons_succ]
      refine wpAnyH_take (i := 8) (v := ?_) rfl (by kernel_rfl) (by kernel_rfl) (by kernel_rfl) (fun _ _ _ h => h) (Or.inl ⟨by rfl, ?_⟩) (by assumption) ?_
      rotate_left; focus (intro w hSw; (try dsimp only at hSw); go_simp; try (with_reducible rfl); done)
      try simp only [List.getElem_toArray, List.getElem_cons_zero, List.getElem_cons_succ, Act.put, List.setIfInBounds_toArray, List.set_cons_zero, List.set_cons_succ]
      refine wpAnyH_ready (rs := [9]) (by kernel_rfl) (by simp) ?_
      refine AllReadyH.cons rfl (fun K hK => ?_) AllReadyH.nil
      go_simp
      refine hK.out _ _ ?_ (fun hHeld => ?_)
      · (try dsimp only); (first | done | exact trivial)
      clear hK K
      try simp only [List.getElem_toArray, List.getElem_cons_zero, List.getElem_cons_succ, Act.put, List.setIfInBounds_toArray, List.set_cons_zero, List.set_cons_succ]
      refine wpAnyH_done (by kernel_rfl) ?_ _
      go_wp2
      go_roundg (256 - (b + 1))
      case measure => have := HGZ.out; omega
      case rel => exact ⟨b + 1, by omega, rfl, by omega, by go_num, HST2.out⟩
    · have he : (Cs.of fun x => decide (lo ≤ (x : Int) ∧ (x : Int) ≤ hi ∧ x < b)) = Cs.of fun x => decide (lo ≤ (x : Int) ∧ (x : Int) ≤ hi) := by
        refine Cs.of_congr fun x hx => ?_
        rw [Bool.eq_iff_iff, decide_eq_true_iff, decide_eq_true_iff]
        have := HM2.out
        omega
      rw [he, HZ.out] at hst
      have hok := Cs.ok_of (fun x => decide (lo ≤ (x : Int) ∧ (x : Int) ≤ hi))
      rw [HZ.out] at hok
      have HST := Lib.hid (hst.pick (ρ := [aCel w.heap.size 24 (Cs.clA Dm.zero), aCel (w.heap.size + 1) 24 (Cs.clA Z)]) [1, 0] 2 rfl rfl)
      have HS4 := Lib.hid (Cs.clA_size hok)
      clear hst hok he
      go_wp2_with (first | (refine St.rowIn rfl 24 (.tmp 5) rfl (w.heap.size + 1) rfl _ HST.out 1 rfl Tryd.underlying24 rfl (by rw [HS4.out]; exact Cs.clInfo) ?_) | (refine St.rowOp rfl 24 (.tmp 4) (.tmp 24) rfl w.heap.size (Cs.clA Z) rfl rfl HST.out (by rw [HS4.out]; exact Cs.clInfo) (by rw [HS4.out]; rfl) (Cs.clA_one Z) ?_; intro w9 hst9; have HST9 := Lib.hid hst9; clear hst9 HST))
      refine bodyPost_ret (results_row rfl _ _ w.heap.size 24 _ _ rfl (HST9.out.heapAt 0 rfl) Tryd.underlying24 rfl (by rw [HS4.out]; exact Cs.clInfo)) rfl ?_
      exact ⟨rfl, HST9.out.bel⟩
set_option maxRecDepth 100000 in
set_option maxHeartbeats 1600000 in
theorem clJoin_any (a b : List Nat) (ha : Dm.Ok4 a) (hb : Dm.Ok4 b) (w : World) :
    Calls Tryd.prog 14 #[Cs.clV a, Cs.clV b] w fun e w' => e = .returned (Cs.clV (Cs.zip (· ||| ·) a b)) ∧ Below w.heap.size w w' := by
  have hst := (((St.init w).alloc (Cs.clA a) 24).alloc (Cs.clA b) 24).alloc (Cs.clA Dm.zero) 24
  simp only [World.size_alloc] at hst
  have HST := Lib.hid hst
  clear hst
  have HA := Lib.hid ha; have HB := Lib.hid hb
  obtain ⟨Z, hZ⟩ : ∃ Z, Cs.zip (· ||| ·) a b = Z := ⟨_, rfl⟩
  rw [hZ]
  have HZL := Lib.hid (show Z.length = 4 by rw [← hZ]; exact Cs.zip_len ha.len hb.len)
  have HZG := Lib.hid (fun (j : Nat) (hj : j < 4) => show Z.getD j 0 = (a.getD j 0 ||| b.getD j 0) by rw [← hZ]; exact Cs.zip_get ha.len hb.len hj)
  clear ha hb hZ
  unfold Cs.clV
  go_enter Tryd.func14, Tryd.ntmps14
  go_wp2_with (fail)
  go_loopg [6] 4 (fun gz v6 wr => ∃ i : Nat, i ≤ 4 ∧ gz = 4 - i ∧ v6 = .int .i64 i ∧ St w wr [aCel (w.heap.size + 1 + 1) 24 (Cs.clA Dm.zero), aCel (w.heap.size + 1) 24 (Cs.clA b), aCel w.heap.size 24 (Cs.clA (Cs.upto a Z i))])
  case atStart => exact ⟨0, by omega, by omega, rfl, by rw [Cs.upto_zero]; exact HST.out⟩
  case round =>
    clear HST
    obtain ⟨i, hi, hgz, rfl, hst⟩ := hrel
    have HGZ := Lib.hid hgz
    clear hgz
    by_cases hlt : i < 4
    · have hltI : (i : Int) < 4 := by omega
      have hga := Cs.clA_get (ws := Cs.upto a Z i) (j := i) (by rw [Cs.upto_len HA.out.len HZL.out (by omega)]; omega)
      rw [Cs.upto_get HA.out.len HZL.out hlt] at hga
      have hgb := Cs.clA_get (ws := b) (j := i) (by rw [HB.out.len]; omega)
      have hst2 := (hst.drew.pick (ρ := [aCel w.heap.size 24 (Cs.clA (Cs.upto a Z i)), aCel (w.heap.size + 1 + 1) 24 (Cs.clA Dm.zero), aCel (w.heap.size + 1) 24 (Cs.clA b)]) [2, 0, 1] 3 rfl rfl).setCel i (Cs.wV (Z.getD i 0))
      rw [Cs.clA_set, Cs.upto_set HA.out.len HZL.out hlt] at hst2
      have c0 := (hst.drew.nth 2 rfl).celAt hga
      have f0 := (hst.drew.nth 2 rfl).celFree i
      have d0 := (hst.drew.nth 1 rfl).celAt hgb
      have hzg := HZG.out i hlt
      have hla := HA.out.lt i
      have hlb := HB.out.lt i
      have hor : bits .or .u64 ((a.getD i 0 : Nat) : Int) ((b.getD i 0 : Nat) : Int) = ((a.getD i 0 ||| b.getD i 0 : Nat) : Int) := bits_or_u64_nat _ _ hla hlb
      rw [← hzg] at hor
      unfold Cs.wV at c0 d0 hst2
      have HST2 := Lib.hid hst2
      generalize a.getD i 0 = x at *
      generalize b.getD i 0 = y at *
      generalize Z.getD i 0 = z at *
      clear hst hga hgb hst2 hzg hla hlb
      go_wp2_with (fail)
      refine wp_region_held_drew (S := (fun w' => w'.cell? ⟨w.heap.size + 1, i, none⟩ = some (.int .u64 y))) (by kernel_rfl) ?_ (fun hHeld => ?_)
      · (try dsimp only); (first | exact d0 | exact d0b)

      refine wpAnyH_take (i := 0) (v := ?_) rfl (by kernel_rfl) (by kernel_rfl) (by kernel_rfl) (fun _ _ _ h => h) (Or.inl ⟨by rfl, ?_⟩) (by assumption) ?_
      rotate_left; focus (intro w hSw; (try dsimp only at hSw); go_simp; try (with_reducible rfl); done)
      try simp only [List.getElem_toArray, List.getElem_cons_zero, List.getElem_cons_succ, Act.put, List.setIfInBounds_toArray, List.set_cons_zero, List.set_cons_succ]
      refine wpAnyH_take (i := 1) (v := ?_) rfl (by kernel_rfl) (by kernel_rfl) (by kernel_rfl) (fun _ _ _ h => h) (Or.inl ⟨by rfl, ?_⟩) (by assumption) ?_
      rotate_left; focus (intro w hSw; (try dsimp only at hSw); go_simp; try (with_reducible rfl); done)
      try simp only [List.getElem_toArray, List.getElem_cons_zero, List.getElem_cons_succ, Act.put, List.setIfInBounds_toArray, List.set_cons_zero, List.set_cons_succ]
      refine wpAnyH_take (i := 3) (v := ?_) rfl (by kernel_rfl) (by kernel_rfl) (by kernel_rfl) (fun _ _ _ h => h) (Or.inl ⟨by rfl, ?_⟩) (by assumption) ?_
      rotate_left; focus (intro w hSw; (try dsimp only at hSw); go_simp; try (with_reducible rfl); done)
      try simp only [List.getElem_toArray, List.getElem_cons_zero, List.getElem_cons_succ, Act.put, List.setIfInBounds_toArray, List.set_cons_zero, List.set_cons_succ]
      refine wpAnyH_take (i := 4) (v := ?_) rfl (by kernel_rfl) (by kernel_rfl) (by kernel_rfl) (fun _ _ _ h => h) (Or.inl ⟨by rfl, ?_⟩) (by assumption) ?_
      rotate_left; focus (intro w hSw; (try dsimp only at hSw); go_simp; try (with_reducible rfl); done)
      try simp only [List.getElem_toArray, List.getElem_cons_zero, List.getElem_cons_succ, Act.put, List.setIfInBounds_toArray, List.set_cons_zero, List.set_cons_succ]
      refine wpAnyH_take (i := 5) (v := ?_) rfl (by kernel_rfl) (by kernel_rfl) (by kernel_rfl) (fun _ _ _ h => h) (Or.inl ⟨by rfl, ?_⟩) (by assumption) ?_
      rotate_left; focus (intro w hSw; (try dsimp only at hSw); go_simp; try (with_reducible rfl); done)
      try simp only [List.getElem_toArray, List.getElem_cons_zero, List.getElem_cons_succ, Act.put, List.setIfInBounds_toArray, List.set_cons_zero, List.set_cons_succ]
      refine wpAnyH_ready (rs := [2]) (by kernel_rfl) (by simp) ?_
      refine AllReadyH.cons rfl (fun K hK => ?_) AllReadyH.nil
      go_simp
      refine hK.out _ _ ?_ (fun hHeld => ?_)
      · (try dsimp only); (first | exact d0 | exact d0b)
      clear hK K
      try simp only [List.getElem_toArray, List.getElem_cons_zero, List.getElem_cons_succ, Act.put, List.setIfInBounds_toArray, List.set_cons_zero, List.set_cons_succ]
      refine wpAnyH_take (i := 6) (v := ?_) rfl (by kernel_rfl) (by kernel_rfl) (by kernel_rfl) (fun _ _ _ h => h) (Or.inl ⟨by rfl, ?_⟩) (by assumption) ?_
      rotate_left; focus (intro w hSw; (try dsimp only at hSw); go_simp; try (with_reducible rfl); done)
      try simp only [List.getElem_toArray, List.getElem_cons_zero, List.getElem_cons_succ, Act.put, List.setIfInBounds_toArray, List.set_cons_zero, List.set_cons_succ]
      refine wpAnyH_take (i := 7) (v := ?_) rfl (by kernel_rfl) (by kernel_rfl) (by kernel_rfl) (fun _ _ _ h => h) (Or.inl ⟨by rfl, ?_⟩) (by assumption) ?_
      rotate_left; focus (intro w hSw; (try dsimp only at hSw); go_simp; try (with_reducible rfl); done)
      try simp only [List.getElem_toArray, List.getElem_cons_zero, List.getElem_cons_succ, Act.put, List.setIfInBounds_toArray, List.set_cons_zero, List.set_cons_succ]
      refine wpAnyH_ready (rs := [8]) (by kernel_rfl) (by simp) ?_
      refine AllReadyH.cons rfl (fun K hK => ?_) AllReadyH.nil
      (go_simp; have d0b : (wr.drew.setCell ⟨w.heap.size, i, none⟩ (.int .u64 z)).cell? ⟨w.heap.size + 1, i, none⟩ = some (.int .u64 y) := (by rw [World.cell?_setCell_other _ _ _ _ (by simp)]; exact d0))
      refine hK.out _ _ ?_ (fun hHeld => ?_)
      · (try dsimp only); (first | exact d0 | exact d0b)
      clear hK K
      try simp only [List.getElem_toArray, List.getElem_cons_zero, List.getElem_cons_succ, Act.put, List.setIfInBounds_toArray, List.set_cons_zero, List.set_cons_succ]
      refine wpAnyH_done (by kernel_rfl) ?_ _
      go_wp2
      go_roundg (4 - (i + 1))
      case measure => have := HGZ.out; omega
      case rel => exact ⟨i + 1, by omega, rfl, by go_num, HST2.out.pick [1, 2, 0] 3 rfl rfl⟩
    · have hie : i = 4 := by omega
      rw [hie, Cs.upto_all HA.out.len HZL.out] at hst
      have hge : ¬ ((i : Int) < 4) := by omega
      have HST := Lib.hid (hst.pick (ρ := [aCel (w.heap.size + 1 + 1) 24 (Cs.clA Dm.zero), aCel w.heap.size 24 (Cs.clA Z)]) [0, 2] 3 rfl rfl)
      have HS4 := Lib.hid (show (Cs.clA Z).size = 4 by simp [Cs.clA, HZL.out])
      clear hst hie
      go_wp2_with (first | (refine St.rowIn rfl 24 (.tmp 2) rfl w.heap.size rfl _ HST.out 1 rfl Tryd.underlying24 rfl (by rw [HS4.out]; exact Cs.clInfo) ?_) | (refine St.rowOp rfl 24 (.tmp 4) (.tmp 18) rfl (w.heap.size + 1 + 1) (Cs.clA Z) rfl rfl HST.out (by rw [HS4.out]; exact Cs.clInfo) (by rw [HS4.out]; rfl) (Cs.clA_one Z) ?_; intro w9 hst9; have HST9 := Lib.hid hst9; clear hst9 HST))
      refine bodyPost_ret (results_row rfl _ _ (w.heap.size + 1 + 1) 24 _ _ rfl (HST9.out.heapAt 0 rfl) Tryd.underlying24 rfl (by rw [HS4.out]; exact Cs.clInfo)) rfl ?_
      exact ⟨rfl, HST9.out.bel⟩

set_option maxRecDepth 100000 in
set_option maxHeartbeats 1600000 in
theorem clMeet_any (a b : List Nat) (ha : Dm.Ok4 a) (hb : Dm.Ok4 b) (w : World) :
    Calls Tryd.prog 16 #[Cs.clV a, Cs.clV b] w fun e w' => e = .returned (Cs.clV (Cs.zip (· &&& ·) a b)) ∧ Below w.heap.size w w' := by
  have hst := (((St.init w).alloc (Cs.clA a) 24).alloc (Cs.clA b) 24).alloc (Cs.clA Dm.zero) 24
  simp only [World.size_alloc] at hst
  have HST := Lib.hid hst
  clear hst
  have HA := Lib.hid ha; have HB := Lib.hid hb
  obtain ⟨Z, hZ⟩ : ∃ Z, Cs.zip (· &&& ·) a b = Z := ⟨_, rfl⟩
  rw [hZ]
  have HZL := Lib.hid (show Z.length = 4 by rw [← hZ]; exact Cs.zip_len ha.len hb.len)
  have HZG := Lib.hid (fun (j : Nat) (hj : j < 4) => show Z.getD j 0 = (a.getD j 0 &&& b.getD j 0) by rw [← hZ]; exact Cs.zip_get ha.len hb.len hj)
  clear ha hb hZ
  unfold Cs.clV
  go_enter Tryd.func16, Tryd.ntmps16
  go_wp2_with (fail)
  go_loopg [6] 4 (fun gz v6 wr => ∃ i : Nat, i ≤ 4 ∧ gz = 4 - i ∧ v6 = .int .i64 i ∧ St w wr [aCel (w.heap.size + 1 + 1) 24 (Cs.clA Dm.zero), aCel (w.heap.size + 1) 24 (Cs.clA b), aCel w.heap.size 24 (Cs.clA (Cs.upto a Z i))])
  case atStart => exact ⟨0, by omega, by omega, rfl, by rw [Cs.upto_zero]; exact HST.out⟩
  case round =>
    clear HST
    obtain ⟨i, hi, hgz, rfl, hst⟩ := hrel
    have HGZ := Lib.hid hgz
    clear hgz
    by_cases hlt : i < 4
    · have hltI : (i : Int) < 4 := by omega
      have hga := Cs.clA_get (ws := Cs.upto a Z i) (j := i) (by rw [Cs.upto_len HA.out.len HZL.out (by omega)]; omega)
      rw [Cs.upto_get HA.out.len HZL.out hlt] at hga
      have hgb := Cs.clA_get (ws := b) (j := i) (by rw [HB.out.len]; omega)
      have hst2 := (hst.drew.pick (ρ := [aCel w.heap.size 24 (Cs.clA (Cs.upto a Z i)), aCel (w.heap.size + 1 + 1) 24 (Cs.clA Dm.zero), aCel (w.heap.size + 1) 24 (Cs.clA b)]) [2, 0, 1] 3 rfl rfl).setCel i (Cs.wV (Z.getD i 0))
      rw [Cs.clA_set, Cs.upto_set HA.out.len HZL.out hlt] at hst2
      have c0 := (hst.drew.nth 2 rfl).celAt hga
      have f0 := (hst.drew.nth 2 rfl).celFree i
      have d0 := (hst.drew.nth 1 rfl).celAt hgb
      have hzg := HZG.out i hlt
      have hla := HA.out.lt i
      have hlb := HB.out.lt i
      have hor : bits .and .u64 ((a.getD i 0 : Nat) : Int) ((b.getD i 0 : Nat) : Int) = ((a.getD i 0 &&& b.getD i 0 : Nat) : Int) := bits_and_u64_nat _ _ hla hlb
      rw [← hzg] at hor
      unfold Cs.wV at c0 d0 hst2
      have HST2 := Lib.hid hst2
      generalize a.getD i 0 = x at *
      generalize b.getD i 0 = y at *
      generalize Z.getD i 0 = z at *
      clear hst hga hgb hst2 hzg hla hlb
      go_wp2_with (fail)
      refine wp_region_held_drew (S := (fun w' => w'.cell? ⟨w.heap.size + 1, i, none⟩ = some (.int .u64 y))) (by kernel_rfl) ?_ (fun hHeld => ?_)
      · (try dsimp only); (first | exact d0 | exact d0b)

      refine wpAnyH_take (i := 0) (v := ?_) rfl (by kernel_rfl) (by kernel_rfl) (by kernel_rfl) (fun _ _ _ h => h) (Or.inl ⟨by rfl, ?_⟩) (by assumption) ?_
      rotate_left; focus (intro w hSw; (try dsimp only at hSw); go_simp; try (with_reducible rfl); done)
      try simp only [List.getElem_toArray, List.getElem_cons_zero, List.getElem_cons_succ, Act.put, List.setIfInBounds_toArray, List.set_cons_zero, List.set_cons_succ]
      refine wpAnyH_take (i := 1) (v := ?_) rfl (by kernel_rfl) (by kernel_rfl) (by kernel_rfl) (fun _ _ _ h => h) (Or.inl ⟨by rfl, ?_⟩) (by assumption) ?_
      rotate_left; focus (intro w hSw; (try dsimp only at hSw); go_simp; try (with_reducible rfl); done)
      try simp only [List.getElem_toArray, List.getElem_cons_zero, List.getElem_cons_succ, Act.put, List.setIfInBounds_toArray, List.set_cons_zero, List.set_cons_succ]
      refine wpAnyH_take (i := 3) (v := ?_) rfl (by kernel_rfl) (by kernel_rfl) (by kernel_rfl) (fun _ _ _ h => h) (Or.inl ⟨by rfl, ?_⟩) (by assumption) ?_
      rotate_left; focus (intro w hSw; (try dsimp only at hSw); go_simp; try (with_reducible rfl); done)
      try simp only [List.getElem_toArray, List.getElem_cons_zero, List.getElem_cons_succ, Act.put, List.setIfInBounds_toArray, List.set_cons_zero, List.set_cons_succ]
      refine wpAnyH_take (i := 4) (v := ?_) rfl (by kernel_rfl) (by kernel_rfl) (by kernel_rfl) (fun _ _ _ h => h) (Or.inl ⟨by rfl, ?_⟩) (by assumption) ?_
      rotate_left; focus (intro w hSw; (try dsimp only at hSw); go_simp; try (with_reducible rfl); done)
      try simp only [List.getElem_toArray, List.getElem_cons_zero, List.getElem_cons_succ, Act.put, List.setIfInBounds_toArray, List.set_cons_zero, List.set_cons_succ]
      refine wpAnyH_take (i := 5) (v := ?_) rfl (by kernel_rfl) (by kernel_rfl) (by kernel_rfl) (fun _ _ _ h => h) (Or.inl ⟨by rfl, ?_⟩) (by assumption) ?_
      rotate_left; focus (intro w hSw; (try dsimp only at hSw); go_simp; try (with_reducible rfl); done)
      try simp only [List.getElem_toArray, List.getElem_cons_zero, List.getElem_cons_succ, Act.put, List.setIfInBounds_toArray, List.set_cons_zero, List.set_cons_succ]
      refine wpAnyH_ready (rs := [2]) (by kernel_rfl) (by simp) ?_
      refine AllReadyH.cons rfl (fun K hK => ?_) AllReadyH.nil
      go_simp
      refine hK.out _ _ ?_ (fun hHeld => ?_)
      · (try dsimp only); (first | exact d0 | exact d0b)
      clear hK K
      try simp only [List.getElem_toArray, List.getElem_cons_zero, List.getElem_cons_succ, Act.put, List.setIfInBounds_toArray, List.set_cons_zero, List.set_cons_succ]
      refine wpAnyH_take (i := 6) (v := ?_) rfl (by kernel_rfl) (by kernel_rfl) (by kernel_rfl) (fun _ _ _ h => h) (Or.inl ⟨by rfl, ?_⟩) (by assumption) ?_
      rotate_left; focus (intro w hSw; (try dsimp only at hSw); go_simp; try (with_reducible rfl); done)
      try simp only [List.getElem_toArray, List.getElem_cons_zero, List.getElem_cons_succ, Act.put, List.setIfInBounds_toArray, List.set_cons_zero, List.set_cons_succ]
      refine wpAnyH_take (i := 7) (v := ?_) rfl (by kernel_rfl) (by kernel_rfl) (by kernel_rfl) (fun _ _ _ h => h) (Or.inl ⟨by rfl, ?_⟩) (by assumption) ?_
      rotate_left; focus (intro w hSw; (try dsimp only at hSw); go_simp; try (with_reducible rfl); done)
      try simp only [List.getElem_toArray, List.getElem_cons_zero, List.getElem_cons_succ, Act.put, List.setIfInBounds_toArray, List.set_cons_zero, List.set_cons_succ]
      refine wpAnyH_ready (rs := [8]) (by kernel_rfl) (by simp) ?_
      refine AllReadyH.cons rfl (fun K hK => ?_) AllReadyH.nil
      (go_simp; have d0b : (wr.drew.setCell ⟨w.heap.size, i, none⟩ (.int .u64 z)).cell? ⟨w.heap.size + 1, i, none⟩ = some (.int .u64 y) := (by rw [World.cell?_setCell_other _ _ _ _ (by simp)]; exact d0))
      refine hK.out _ _ ?_ (fun hHeld => ?_)
      · (try dsimp only); (first | exact d0 | exact d0b)
      clear hK K
      try simp only [List.getElem_toArray, List.getElem_cons_zero, List.getElem_cons_succ, Act.put, List.setIfInBounds_toArray, List.set_cons_zero, List.set_cons_succ]
      refine wpAnyH_done (by kernel_rfl) ?_ _
      go_wp2
      go_roundg (4 - (i + 1))
      case measure => have := HGZ.out; omega
      case rel => exact ⟨i + 1, by omega, rfl, by go_num, HST2.out.pick [1, 2, 0] 3 rfl rfl⟩
    · have hie : i = 4 := by omega
      rw [hie, Cs.upto_all HA.out.len HZL.out] at hst
      have hge : ¬ ((i : Int) < 4) := by omega
      have HST := Lib.hid (hst.pick (ρ := [aCel (w.heap.size + 1 + 1) 24 (Cs.clA Dm.zero), aCel w.heap.size 24 (Cs.clA Z)]) [0, 2] 3 rfl rfl)
      have HS4 := Lib.hid (show (Cs.clA Z).size = 4 by simp [Cs.clA, HZL.out])
      clear hst hie
      go_wp2_with (first | (refine St.rowIn rfl 24 (.tmp 2) rfl w.heap.size rfl _ HST.out 1 rfl Tryd.underlying24 rfl (by rw [HS4.out]; exact Cs.clInfo) ?_) | (refine St.rowOp rfl 24 (.tmp 4) (.tmp 18) rfl (w.heap.size + 1 + 1) (Cs.clA Z) rfl rfl HST.out (by rw [HS4.out]; exact Cs.clInfo) (by rw [HS4.out]; rfl) (Cs.clA_one Z) ?_; intro w9 hst9; have HST9 := Lib.hid hst9; clear hst9 HST))
      refine bodyPost_ret (results_row rfl _ _ (w.heap.size + 1 + 1) 24 _ _ rfl (HST9.out.heapAt 0 rfl) Tryd.underlying24 rfl (by rw [HS4.out]; exact Cs.clInfo)) rfl ?_
      exact ⟨rfl, HST9.out.bel⟩
end Go.Proofs.YtlgabpcddldelaaDoor
