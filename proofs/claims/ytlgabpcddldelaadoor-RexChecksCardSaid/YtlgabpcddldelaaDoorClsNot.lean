/-
  Not of package class; Where of the reference.
-/
import Derived.Test.YtlgabpcddldelaaDoorClsOp
import Derived.Laws.CopyOwn
namespace Go.Proofs.YtlgabpcddldelaaDoor
set_option linter.unusedVariables false
set_option linter.unusedSimpArgs false
open Go.ChangeShapes Go.WideShapes Go.ChangeAt Go.RowKit

theorem Cs.not_u64 (x : Nat) (hx : x < 18446744073709551616) : bits .xor .u64 IntKind.u64.max (x : Int) = ((18446744073709551615 - x : Nat) : Int) := by
  have h1 : BitVec.ofInt 64 IntKind.u64.max = BitVec.allOnes 64 := by decide
  have h2 : (BitVec.ofInt 64 (x : Int)).toNat = x := by
    rw [BitVec.ofInt_natCast, BitVec.toNat_ofNat]; exact Nat.mod_eq_of_lt hx
  show IntKind.u64.wrap ((BitVec.ofInt 64 IntKind.u64.max ^^^ BitVec.ofInt 64 (x : Int)).toNat : Nat) = _
  rw [h1, BitVec.allOnes_xor, BitVec.toNat_not, h2, IntKind.wrap_u64]
  omega

set_option maxRecDepth 100000 in
set_option maxHeartbeats 1600000 in
theorem clNot_any (a : List Nat) (ha : Dm.Ok4 a) (w : World) :
    Calls Tryd.prog 18 #[Cs.clV a] w fun e w' => e = .returned (Cs.clV (Cs.inv a)) ∧ Below w.heap.size w w' := by
  have hst := ((St.init w).alloc (Cs.clA a) 24).alloc (Cs.clA Dm.zero) 24
  simp only [World.size_alloc] at hst
  have HST := Lib.hid hst
  clear hst
  have HA := Lib.hid ha
  obtain ⟨Z, hZ⟩ : ∃ Z, Cs.inv a = Z := ⟨_, rfl⟩
  rw [hZ]
  have HZL := Lib.hid (show Z.length = 4 by rw [← hZ]; simp [Cs.inv, ha.len])
  have HZG := Lib.hid (fun (j : Nat) (hj : j < 4) => show Z.getD j 0 = (18446744073709551615 - a.getD j 0) by rw [← hZ]; exact Cs.inv_get ha.len hj)
  clear ha hZ
  unfold Cs.clV
  go_enter Tryd.func18, Tryd.ntmps18
  go_wp2_with (fail)
  go_loopg [4] 4 (fun gz v6 wr => ∃ i : Nat, i ≤ 4 ∧ gz = 4 - i ∧ v6 = .int .i64 i ∧ St w wr [aCel (w.heap.size + 1) 24 (Cs.clA Dm.zero), aCel w.heap.size 24 (Cs.clA (Cs.upto a Z i))])
  case atStart => exact ⟨0, by omega, by omega, rfl, by rw [Cs.upto_zero]; exact HST.out⟩
  case round =>
    clear HST
    obtain ⟨i, hi, hgz, rfl, hst⟩ := hrel
    have HGZ := Lib.hid hgz
    clear hgz
    by_cases hlt : i < 4
    · have hltI : (i : Int) < 4 := by omega
      have hga := Cs.clA_get (ws := Cs.upto a Z i) (j := i) (by rw [Cs.upto_len HA.out.len HZL.out (by omega)]; omega)
      rw [Cs.upto_get HA.out.len HZL.out hlt] at hga
      have hst2 := (hst.pick (ρ := [aCel w.heap.size 24 (Cs.clA (Cs.upto a Z i)), aCel (w.heap.size + 1) 24 (Cs.clA Dm.zero)]) [1, 0] 2 rfl rfl).setCel i (Cs.wV (Z.getD i 0))
      rw [Cs.clA_set, Cs.upto_set HA.out.len HZL.out hlt] at hst2
      have c0 := (hst.nth 1 rfl).celAt hga
      have f0 := (hst.nth 1 rfl).celFree i
      have hzg := HZG.out i hlt
      have hla : a.getD i 0 < 18446744073709551616 := HA.out.lt i
      unfold Cs.wV at c0 hst2
      have HST2 := Lib.hid hst2
      generalize a.getD i 0 = x at *
      generalize Z.getD i 0 = z at *
      have hxor : bits .xor .u64 IntKind.u64.max (x : Int) = (z : Int) := by rw [Cs.not_u64 x hla, hzg]
      clear hst hga hst2 hzg hla
      go_wp2
      go_roundg (4 - (i + 1))
      case measure => have := HGZ.out; omega
      case rel => exact ⟨i + 1, by omega, rfl, by go_num, HST2.out.get2⟩
    · have hie : i = 4 := by omega
      rw [hie, Cs.upto_all HA.out.len HZL.out] at hst
      have hge : ¬ ((i : Int) < 4) := by omega
      have HST := Lib.hid hst
      have HS4 := Lib.hid (show (Cs.clA Z).size = 4 by simp [Cs.clA, HZL.out])
      clear hst hie
      go_wp2_with (first | (refine St.rowIn rfl 24 (.tmp 1) rfl w.heap.size rfl _ HST.out 1 rfl Tryd.underlying24 rfl (by rw [HS4.out]; exact Cs.clInfo) ?_) | (refine St.rowOp rfl 24 (.tmp 2) (.tmp 14) rfl (w.heap.size + 1) (Cs.clA Z) rfl rfl HST.out (by rw [HS4.out]; exact Cs.clInfo) (by rw [HS4.out]; rfl) (Cs.clA_one Z) ?_; intro w9 hst9; have HST9 := Lib.hid hst9; clear hst9 HST))
      refine bodyPost_ret (results_row rfl _ _ (w.heap.size + 1) 24 _ _ rfl (HST9.out.heapAt 0 rfl) Tryd.underlying24 rfl (by rw [HS4.out]; exact Cs.clInfo)) rfl ?_
      exact ⟨rfl, HST9.out.bel⟩

/-- A closure over a class's bytes, whose number stands open. -/
def Cs.Tells (cl : Nat) (caps : Array Value) (p : Nat → Bool) (w0 : World) (μ : List Asrt) : Prop := ∀ (x : Nat), x < 256 → ∀ W ν, St w0 W (ν ++ μ) → Calls Tryd.prog cl (#[.int .i64 x] ++ caps) W fun e w' => e = .returned (.bool (p x)) ∧ Below W.heap.size W w'

set_option maxRecDepth 100000 in
set_option maxHeartbeats 1600000 in
theorem rWhere_any (cl : Nat) (caps : Array Value) (p : Nat → Bool) (w0 w : World) (μ : List Asrt) (hp : Cs.Tells cl caps p w0 μ) (hcf : ∀ args W, (callFunc cl args).run Tryd.prog W = .ok (.enter cl args) W) (h : St w0 w μ) :
    Calls Tryd.prog 11 #[.func (.func cl) #[] caps] w fun e w' => e = .returned (Cs.clV (Cs.of p)) ∧ Below w.heap.size w w' := by
  have hst := ((h.alloc (Cs.clA Dm.zero) 24).alloc (Cs.clA Dm.zero) 24)
  simp only [World.size_alloc] at hst
  have HST := Lib.hid hst
  have HB := Lib.hid (((Below.refl w.heap.size w).alloc (Nat.le_refl _) (.cells (Cs.clA Dm.zero) 24)).alloc (by simp) (.cells (Cs.clA Dm.zero) 24))
  have HP := Lib.hid hp
  obtain ⟨Z, hZ⟩ : ∃ Z, Cs.of p = Z := ⟨_, rfl⟩
  rw [hZ]
  have HZ := Lib.hid hZ
  clear hst hp hZ h
  go_enter Tryd.func11, Tryd.ntmps11
  go_wp2_with (fail)
  go_loopg [4] 256 (fun gz v4 wr => ∃ b : Nat, b ≤ 256 ∧ gz = 256 - b ∧ v4 = .int .i64 b ∧ Below w.heap.size w wr ∧ St w0 wr (aCel (w.heap.size + 1) 24 (Cs.clA (Cs.of fun x => p x && decide (x < b))) :: aCel w.heap.size 24 (Cs.clA Dm.zero) :: μ))
  case atStart =>
    refine ⟨0, by omega, by omega, rfl, HB.out, ?_⟩
    rw [show (Cs.of fun x => p x && decide (x < 0)) = Dm.zero from by
      rw [← Cs.of_false]
      exact Cs.of_congr fun x hx => by simp]
    exact HST.out
  case round =>
    clear HST HB
    obtain ⟨b, hb, hgz, rfl, hB, hst⟩ := hrel
    have HGZ := Lib.hid hgz
    clear hgz
    by_cases hlt : b < 256
    · have hltI : (b : Int) < 256 := by omega
      have HC := Lib.hid (HP.out b hlt wr [aCel (w.heap.size + 1) 24 (Cs.clA (Cs.of fun x => p x && decide (x < b))), aCel w.heap.size 24 (Cs.clA Dm.zero)] hst)
      have HST := Lib.hid hst
      have HB := Lib.hid hB
      obtain ⟨B, hBB⟩ : ∃ B, p b = B := ⟨_, rfl⟩
      rw [hBB] at HC
      have HBB := Lib.hid hBB
      clear hst hB hBB
      go_wp2_with (fail)
      refine (HC.out).mono ?_
      rintro e w5 ⟨rfl, hb5⟩
      have hst5 := HST.out.call hb5
      have HB5 := Lib.hid (HB.out.trans (hb5.mono HB.out.size))
      clear hb5 HST HB HC
      cases B
      · have HE := Lib.hid (show (Cs.of fun x => p x && decide (x < b)) = (Cs.of fun x => p x && decide (x < b + 1)) from Cs.of_congr fun x hx => by
          by_cases hxb : x = b
          · subst hxb; rw [HBB.out]; simp
          · congr 1; rw [Bool.eq_iff_iff, decide_eq_true_iff, decide_eq_true_iff]; omega)
        rw [HE.out] at hst5
        have HST5 := Lib.hid hst5
        clear hst5
        go_wp2
        go_roundg (256 - (b + 1))
        case measure => have := HGZ.out; omega
        case rel => exact ⟨b + 1, by omega, rfl, by go_num, HB5.out, HST5.out⟩
      · have HPT := Lib.hid (Cs.of_put (p := fun x => p x && decide (x < b)) (q := fun x => p x && decide (x < b + 1)) hlt (fun x hx => by
          by_cases hxb : b = x
          · subst hxb; rw [HBB.out]; simp
          · have : decide (x < b + 1) = decide (x < b) := by rw [Bool.eq_iff_iff, decide_eq_true_iff, decide_eq_true_iff]; omega
            rw [this]; simp [hxb]))
        have h4 := Cs.ok_of (fun x => p x && decide (x < b))
        unfold Dm.put at HPT
        generalize (Cs.of fun x => p x && decide (x < b)) = ws at *
        have hltw := h4.lt (b / 64)
        have hget := Cs.clA_get (ws := ws) (j := b / 64) (by rw [h4.len]; omega)
        have hst2 := hst5.drew.setCel (b / 64) (Cs.wV (ws.getD (b / 64) 0 ||| 2 ^ (b % 64)))
        rw [Cs.clA_set, HPT.out] at hst2
        unfold Cs.wV at hget hst2
        have c0 := hst5.drew.celAt hget
        have f0 := hst5.drew.celFree (b / 64)
        have HST2 := Lib.hid hst2
        have HB6 := Lib.hid (HB5.out.drew.setCell (p := ⟨w.heap.size + 1, b / 64, none⟩) (by simp) (.int .u64 ((ws.getD (b / 64) 0 ||| 2 ^ (b % 64) : Nat) : Int)))
        have hpow : 2 ^ (b % 64) < 18446744073709551616 := Nat.pow_lt_pow_right (a := 2) (m := b % 64) (n := 64) (by decide) (by omega)
        have hor : bits .or .u64 ((ws.getD (b / 64) 0 : Nat) : Int) ((2 ^ (b % 64) : Nat) : Int) = ((ws.getD (b / 64) 0 ||| 2 ^ (b % 64) : Nat) : Int) := bits_or_u64_nat _ _ hltw hpow
        have hsh : IntKind.u64.wrap ((2 : Int) ^ (b % 64)) = ((2 ^ (b % 64) : Nat) : Int) := by
          have e : ((2 : Int) ^ (b % 64)) = ((2 ^ (b % 64) : Nat) : Int) := by simp
          rw [e, IntKind.wrap_u64]
          exact Int.emod_eq_of_lt (Int.natCast_nonneg _) (Int.ofNat_lt.2 hpow)
        have hrem : (b : Int) % 64 = ((b % 64 : Nat) : Int) := by omega
        have hqt : (b : Int).tdiv 64 = (b : Int) / 64 := Int.tdiv_eq_ediv_of_nonneg (by omega)
        have hrt : (b : Int).tmod 64 = ((b % 64 : Nat) : Int) := by rw [Int.tmod_eq_emod_of_nonneg (by omega)]; omega
        have hq : ((b % 64 : Nat) : Int) < 64 := by omega
        generalize ((2 ^ (b % 64) : Nat) : Int) = z at *
        generalize (ws.getD (b / 64) 0 ||| 2 ^ (b % 64)) = u at *
        generalize ws.getD (b / 64) 0 = y at *
        generalize b % 64 = q at *
        have hd0 : (0 : Int) ≤ (b : Int) / 64 := by omega
        have hd1 : (b : Int) / 64 < 4 := by omega
        have hdn : ((b : Int) / 64).toNat = b / 64 := by omega
        have hwq : IntKind.i64.wrap ((b : Int) / 64) = (b : Int) / 64 := by rw [IntKind.wrap_i64]; omega
        clear hltw h4 hst5 hget hst2 hpow HPT
        go_wp2_with (fail)
        refine wp_region_held_drew (S := (fun w' => True)) (by kernel_rfl) ?_ (fun hHeld => ?_)
        · (try dsimp only); (first | done | exact trivial)

        refine wpAnyH_take (i := 0) (v := ?_) rfl (by kernel_rfl) (by kernel_rfl) (by kernel_rfl) (fun _ _ _ h => h) (Or.inl ⟨by rfl, ?_⟩) (by assumption) ?_
        rotate_left; focus (intro w hSw; (try dsimp only at hSw); go_simp; try (with_reducible rfl); done)
        try simp only [List.getElem_toArray, List.getElem_cons_zero, List.getElem_cons_succ, Act.put, List.setIfInBounds_toArray, List.set_cons_zero, List.set_cons_succ]
        refine wpAnyH_take (i := 4) (v := ?_) rfl (by kernel_rfl) (by kernel_rfl) (by kernel_rfl) (fun _ _ _ h => h) (Or.inl ⟨by rfl, ?_⟩) (by assumption) ?_
        rotate_left; focus (intro w hSw; (try dsimp only at hSw); go_simp; try (with_reducible rfl); done)
        try simp only [List.getElem_toArray, List.getElem_cons_zero, List.getElem_cons_succ, Act.put, List.setIfInBounds_toArray, List.set_cons_zero, List.set_cons_succ]
        refine wpAnyH_take (i := 5) (v := ?_) rfl (by kernel_rfl) (by kernel_rfl) (by kernel_rfl) (fun _ _ _ h => h) (Or.inl ⟨by rfl, ?_⟩) (by assumption) ?_
        rotate_left; focus (intro w hSw; (try dsimp only at hSw); go_simp; try (with_reducible rfl); done)
        try simp only [List.getElem_toArray, List.getElem_cons_zero, List.getElem_cons_succ, Act.put, List.setIfInBounds_toArray, List.set_cons_zero, List.set_cons_succ]
        refine wpAnyH_take (i := 6) (v := ?_) rfl (by kernel_rfl) (by kernel_rfl) (by kernel_rfl) (fun _ _ _ h => h) (Or.inl ⟨by rfl, ?_⟩) (by assumption) ?_
        rotate_left; focus (intro w hSw; (try dsimp only at hSw); go_simp; try (with_reducible rfl); done)
        try simp only [List.getElem_toArray, List.getElem_cons_zero, List.getElem_cons_succ, Act.put, List.setIfInBounds_toArray, List.set_cons_zero, List.set_cons_succ]
        refine wpAnyH_take (i := 1) (v := ?_) rfl (by kernel_rfl) (by kernel_rfl) (by kernel_rfl) (fun _ _ _ h => h) (Or.inl ⟨by rfl, ?_⟩) (by assumption) ?_
        rotate_left; focus (intro w hSw; (try dsimp only at hSw); go_simp; try (with_reducible rfl); done)
        try simp only [List.getElem_toArray, List.getElem_cons_zero, List.getElem_cons_succ, Act.put, List.setIfInBounds_toArray, List.set_cons_zero, List.set_cons_succ]
        refine wpAnyH_take (i := 2) (v := ?_) rfl (by kernel_rfl) (by kernel_rfl) (by kernel_rfl) (fun _ _ _ h => h) (Or.inl ⟨by rfl, ?_⟩) (by assumption) ?_
        rotate_left; focus (intro w hSw; (try dsimp only at hSw); go_simp; try (with_reducible rfl); done)
        try simp only [List.getElem_toArray, List.getElem_cons_zero, List.getElem_cons_succ, Act.put, List.setIfInBounds_toArray, List.set_cons_zero, List.set_cons_succ]
        refine wpAnyH_ready (rs := [3]) (by kernel_rfl) (by simp) ?_
        refine AllReadyH.cons rfl (fun K hK => ?_) AllReadyH.nil
        go_simp
        refine hK.out _ _ ?_ (fun hHeld => ?_)
        · (try dsimp only); (first | done | exact trivial)
        clear hK K
        try simp only [List.getElem_toArray, List.getElem_cons_zero, List.getElem_cons_succ, Act.put, List.setIfInBounds_toArray, List.set_cons_zero, List.set_cons_succ]
        refine wpAnyH_take (i := 7) (v := ?_) rfl (by kernel_rfl) (by kernel_rfl) (by kernel_rfl) (fun _ _ _ h => h) (Or.inl ⟨by rfl, ?_⟩) (by assumption) ?_
        rotate_left; focus (intro w hSw; (try dsimp only at hSw); go_simp; try (with_reducible rfl); done)
        try simp only [List.getElem_toArray, List.getElem_cons_zero, List.getElem_cons_succ, Act.put, List.setIfInBounds_toArray, List.set_cons_zero, List.set_cons_succ]
        refine wpAnyH_take (i := 8) (v := ?_) rfl (by kernel_rfl) (by kernel_rfl) (by kernel_rfl) (fun _ _ _ h => h) (Or.inl ⟨by rfl, ?_⟩) (by assumption) ?_
        rotate_left; focus (intro w hSw; (try dsimp only at hSw); go_simp; try (with_reducible rfl); done)
        try simp only [List.getElem_toArray, List.getElem_cons_zero, List.getElem_cons_succ, Act.put, List.setIfInBounds_toArray, List.set_cons_zero, List.set_cons_succ]
        refine wpAnyH_ready (rs := [9]) (by kernel_rfl) (by simp) ?_
        refine AllReadyH.cons rfl (fun K hK => ?_) AllReadyH.nil
        go_simp
        refine hK.out _ _ ?_ (fun hHeld => ?_)
        · (try dsimp only); (first | done | exact trivial)
        clear hK K
        try simp only [List.getElem_toArray, List.getElem_cons_zero, List.getElem_cons_succ, Act.put, List.setIfInBounds_toArray, List.set_cons_zero, List.set_cons_succ]
        refine wpAnyH_done (by kernel_rfl) ?_ _
        go_wp2
        go_roundg (256 - (b + 1))
        case measure => have := HGZ.out; omega
        case rel => exact ⟨b + 1, by omega, rfl, by go_num, HB6.out, HST2.out⟩
    · have hbe : b = 256 := by omega
      have hge : ¬ ((b : Int) < 256) := by omega
      have he : (Cs.of fun x => p x && decide (x < b)) = Cs.of p := Cs.of_congr fun x hx => by rw [decide_eq_true (by omega), Bool.and_true]
      have hok := Cs.ok_of p
      rw [he, HZ.out] at hst
      rw [HZ.out] at hok
      have HST := Lib.hid (hst.get2)
      have HS4 := Lib.hid (Cs.clA_size hok)
      have HB := Lib.hid hB
      clear hst hok he hbe hB
      go_wp2_with (first | (refine St.rowIn rfl 24 (.tmp 3) rfl (w.heap.size + 1) rfl _ HST.out 1 rfl Tryd.underlying24 rfl (by rw [HS4.out]; exact Cs.clInfo) ?_) | (refine wpList_store_row rfl 24 (.tmp 2) (.tmp 21) rfl w.heap.size (Cs.clA Z) rfl rfl 24 (Cs.clA Dm.zero) (HST.out.heapAt 0 rfl) (by rw [HS4.out]; exact Cs.clInfo) (by rw [HS4.out]; rfl) (Cs.clA_one Z) ?_; have HH := Lib.hid ((HST.out.setRow (Cs.clA Z)).heapAt 0 rfl); have HB9 := Lib.hid (below_setRow HB.out (Nat.le_refl w.heap.size) (Cs.clA Z))))
      refine bodyPost_ret (results_row rfl _ _ w.heap.size 24 _ _ rfl HH.out Tryd.underlying24 rfl (by rw [HS4.out]; exact Cs.clInfo)) rfl ?_
      exact ⟨rfl, HB9.out⟩
end Go.Proofs.YtlgabpcddldelaaDoor
