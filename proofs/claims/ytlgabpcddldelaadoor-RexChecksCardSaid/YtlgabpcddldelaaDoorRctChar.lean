/-
  char of package rex, Char of the reference: how a byte is written.
-/
import Derived.Test.YtlgabpcddldelaaDoorRct
import Derived.Test.YtlgabpcddldelaaDoorConvOwn
import Derived.Deep.LoopGhost
import Derived.Deep.QuietTactic
import Derived.BigQuiet
import Derived.Deep.RegionHeld
namespace Go.Proofs.YtlgabpcddldelaaDoor
set_option linter.unusedVariables false
set_option linter.unusedSimpArgs false
open Go.ChangeShapes Go.WideShapes Go.ChangeAt Go.RowKit

set_option maxRecDepth 100000 in
set_option maxHeartbeats 1600000 in
theorem rxChar_any (b : Nat) (hb : b < 256) (w : World) : Calls Tryd.prog 90 #[.int .u8 b] w fun e w' => e = .returned (.string (Rct.ct b)) ∧ Below w.heap.size w w' := by
  have HB := Lib.hid (Below.refl w.heap.size w)
  have hbI : (b : Int) < 256 := by omega
  obtain ⟨T, hT⟩ : ∃ T, Rct.ct b = T := ⟨_, rfl⟩
  rw [hT]
  rw [Rct.ct] at hT
  by_cases h1 : b = 10
  · rw [if_pos h1] at hT
    subst hT h1
    go_enter Tryd.func90, Tryd.ntmps90
    go_wp2
    go_ret
    exact ⟨rfl, HB.out⟩
  by_cases h2 : b = 9
  · rw [if_neg h1, if_pos h2] at hT
    subst hT h2
    go_enter Tryd.func90, Tryd.ntmps90
    go_wp2
    go_ret
    exact ⟨rfl, HB.out⟩
  by_cases h3 : b = 32
  · rw [if_neg h1, if_neg h2, if_pos h3] at hT
    subst hT h3
    go_enter Tryd.func90, Tryd.ntmps90
    go_wp2
    go_ret
    exact ⟨rfl, HB.out⟩
  have e1 : ((b : Int) == 10) = false := by rw [beq_eq_false_iff_ne]; omega
  have e2 : ((b : Int) == 9) = false := by rw [beq_eq_false_iff_ne]; omega
  have e3 : ((b : Int) == 32) = false := by rw [beq_eq_false_iff_ne]; omega
  rw [if_neg h1, if_neg h2, if_neg h3] at hT
  by_cases h4 : b < 33 ∨ 126 < b
  · rw [if_pos h4] at hT
    have HT := Lib.hid hT
    clear hT
    by_cases h5 : b < 33
    · have h5I : (b : Int) < 33 := by omega
      go_enter Tryd.func90, Tryd.ntmps90
      go_wp2_with (fail)
      go_quiet (fail)
      have HQ := Lib.hid (below_drewN HB.out nq)
      go_wp2
      go_ret
      exact ⟨by rw [← HT.out]; rfl, HQ.out⟩
    · have h5I : ¬ (b : Int) < 33 := by omega
      have h6I : (126 : Int) < b := by omega
      go_enter Tryd.func90, Tryd.ntmps90
      go_wp2_with (fail)
      go_quiet (fail)
      have HQ := Lib.hid (below_drewN HB.out nq)
      go_wp2
      go_ret
      exact ⟨by rw [← HT.out]; rfl, HQ.out⟩
  · rw [if_neg h4] at hT
    have h5I : ¬ (b : Int) < 33 := by omega
    have h6I : ¬ (126 : Int) < b := by omega
    have HI := Lib.hid (fun W => strIndex_any Rct.signs (b : Int) W)
    have hs := Rct.isSign_of hb
    unfold Rct.signs at HI
    rw [show Rct.signs = ⟨#[40, 41, 91, 93, 124, 42, 43, 63, 46, 94, 45, 92]⟩ from rfl] at hs
    generalize Lib.indexByte _ _ = z at *
    obtain ⟨bs, hbs⟩ : ∃ s, Rct.isSign b = s := ⟨_, rfl⟩
    rw [hbs] at hT hs
    clear hbs
    have HT := Lib.hid hT
    clear hT h4
    go_enter Tryd.func90, Tryd.ntmps90
    go_wp2_with (fail)
    go_at_call 88
    refine (HI.out _).mono ?_
    rintro e w1 ⟨rfl, rfl⟩
    have hE : Utf8.encode (b : Int) = Rct.one b := Rct.enc_one (by omega)
    have hsz : (Rct.one b).size = 1 := rfl
    generalize Rct.one b = E at *
    have hadd : ∀ W, (Op.stringOp .add ⟨#[92]⟩ E).run Tryd.prog W = .ok (.string (⟨#[92]⟩ ++ E)) W := fun W => run_string_add_sum W _ _ (by rw [hsz]; decide)
    clear hsz
    cases bs
    · go_wp2
      go_ret
      exact ⟨by rw [← HT.out]; rfl, HB.out⟩
    · go_wp2
      go_ret
      exact ⟨by rw [← HT.out]; rfl, HB.out⟩

namespace Rct
theorem sg_at (k : Nat) (hk : k < 12) : signs[k]'hk = (sg k).toUInt8 := by
  revert hk
  match k with
  | 0 | 1 | 2 | 3 | 4 | 5 | 6 | 7 | 8 | 9 | 10 | 11 => intro _; rfl
  | k + 12 => intro h; omega
theorem isSign_any (b : Nat) : isSign b = (List.range 12).any fun k => sg k == b := rfl
theorem sign_hit {b k : Nat} (hk : k < 12) (h : sg k = b) : isSign b = true := by
  rw [isSign_any, List.any_eq_true]
  exact ⟨k, List.mem_range.2 hk, by simp [h]⟩
theorem sign_miss {b : Nat} (h : ∀ k, k < 12 → sg k ≠ b) : isSign b = false := by
  rw [isSign_any, List.any_eq_false]
  intro k hk
  simpa using h k (List.mem_range.1 hk)
theorem sign_piece (k : Nat) (hk : k < 12) : signs.extract k (k + 1) = one (sg k) := by
  revert hk
  match k with
  | 0 | 1 | 2 | 3 | 4 | 5 | 6 | 7 | 8 | 9 | 10 | 11 => intro _; rfl
  | k + 12 => intro h; omega
theorem sg_eq {b k : Nat} (hk : k < 12) (h : (wrap64 (((⟨#[40, 41, 91, 93, 124, 42, 43, 63, 46, 94, 45, 92]⟩ : ByteArray)[k]'hk).toNat : Int) == (b : Int)) = true) : sg k = b := by
  have h1 := sg_at k hk
  unfold signs at h1
  rw [h1] at h
  have h2 := sg_lt k
  have h3 : (((sg k).toUInt8.toNat : Nat) : Int) = (sg k : Int) := by simp; omega
  rw [h3, show wrap64 (sg k : Int) = (sg k : Int) by unfold wrap64; omega] at h
  have := beq_iff_eq.1 h
  omega
theorem sg_ne {b k : Nat} (hk : k < 12) (h : (wrap64 (((⟨#[40, 41, 91, 93, 124, 42, 43, 63, 46, 94, 45, 92]⟩ : ByteArray)[k]'hk).toNat : Int) == (b : Int)) = false) : sg k ≠ b := by
  intro e
  refine absurd ?_ (Bool.eq_false_iff.1 h)
  have h1 := sg_at k hk
  unfold signs at h1
  rw [h1]
  have h2 := sg_lt k
  have h3 : (((sg k).toUInt8.toNat : Nat) : Int) = (sg k : Int) := by simp; omega
  rw [h3, show wrap64 (sg k : Int) = (sg k : Int) by unfold wrap64; omega]
  exact beq_iff_eq.2 (by omega)
theorem own_one {w : World} {g : Nat} {e : TypeId} {size : Nat} {u : Value} (h : w.heap[g]? = some (.cells u.cells e (0, 0))) (hs : u.cells.size = size) : Own w 0 e size (.slice (some ⟨g, 0, none⟩) 1 1) [u] := by
  refine ⟨by simp [cellsOf, hs], .inr ⟨g, 1, u.cells, rfl, Nat.zero_le _, h, Nat.le_refl _, by decide, by simp [hs], ?_⟩⟩
  simp [cellsOf]
  exact List.take_of_length_le (by rw [Array.length_toList]; omega)
theorem str_one {b : Nat} (hb : b < 256) : strOfNums [(b : Int)] = one b := by
  simp [strOfNums, one]
end Rct

set_option maxRecDepth 100000 in
set_option maxHeartbeats 1600000 in
theorem rChar_any (b : Nat) (hb : b < 256) (w : World) : Calls Tryd.prog 75 #[.int .i64 b] w fun e w' => e = .returned (.string (Rct.ct b)) ∧ Below w.heap.size w w' := by
  have HB := Lib.hid (Below.refl w.heap.size w)
  have hbI : (b : Int) < 256 := by omega
  obtain ⟨T, hT⟩ : ∃ T, Rct.ct b = T := ⟨_, rfl⟩
  rw [hT]
  rw [Rct.ct] at hT
  by_cases h1 : b = 10
  · rw [if_pos h1] at hT
    subst hT h1
    go_enter Tryd.func75, Tryd.ntmps75
    go_wp2
    go_ret
    exact ⟨rfl, HB.out⟩
  by_cases h2 : b = 9
  · rw [if_neg h1, if_pos h2] at hT
    subst hT h2
    go_enter Tryd.func75, Tryd.ntmps75
    go_wp2
    go_ret
    exact ⟨rfl, HB.out⟩
  by_cases h3 : b = 32
  · rw [if_neg h1, if_neg h2, if_pos h3] at hT
    subst hT h3
    go_enter Tryd.func75, Tryd.ntmps75
    go_wp2
    go_ret
    exact ⟨rfl, HB.out⟩
  have e1 : ((b : Int) == 10) = false := by rw [beq_eq_false_iff_ne]; omega
  have e2 : ((b : Int) == 9) = false := by rw [beq_eq_false_iff_ne]; omega
  have e3 : ((b : Int) == 32) = false := by rw [beq_eq_false_iff_ne]; omega
  rw [if_neg h1, if_neg h2, if_neg h3] at hT
  by_cases h4 : b < 33 ∨ 126 < b
  · rw [if_pos h4] at hT
    have HT := Lib.hid hT
    clear hT
    by_cases h5 : b < 33
    · have h5I : (b : Int) < 33 := by omega
      go_enter Tryd.func75, Tryd.ntmps75
      go_wp2_with (fail)
      go_quiet (fail)
      have HQ := Lib.hid (below_drewN HB.out nq)
      go_wp2
      go_ret
      exact ⟨by rw [← HT.out]; rfl, HQ.out⟩
    · have h5I : ¬ (b : Int) < 33 := by omega
      have h6I : (126 : Int) < b := by omega
      go_enter Tryd.func75, Tryd.ntmps75
      go_wp2_with (fail)
      go_quiet (fail)
      have HQ := Lib.hid (below_drewN HB.out nq)
      go_wp2
      go_ret
      exact ⟨by rw [← HT.out]; rfl, HQ.out⟩
  · rw [if_neg h4] at hT
    have h5I : ¬ (b : Int) < 33 := by omega
    have h6I : ¬ (126 : Int) < b := by omega
    have HT := Lib.hid hT
    have HLT := Lib.hid hb
    clear hT h4 h1 h2 h3
    go_enter Tryd.func75, Tryd.ntmps75
    go_wp2_with (fail)
    go_loopg [3] 12 (fun gk v3 wr => ∃ k : Nat, k ≤ 12 ∧ gk = 12 - k ∧ v3 = .int .i64 k ∧ Hid (∀ j, j < k → Rct.sg j ≠ b) ∧ Below w.heap.size w wr)
    case atStart => exact ⟨0, by omega, rfl, rfl, Lib.hid fun j hj => by omega, HB.out⟩
    case round =>
      obtain ⟨k, hk, hgk, rfl, HN, hB⟩ := hrel
      have HGK := Lib.hid hgk
      clear hgk
      by_cases hlt : k < 12
      · have hltI : (k : Int) < 12 := by omega
        go_wp2_with (fail)
        · rename_i hc
          have hs := Rct.sg_eq hlt hc
          have hT := HT.out
          rw [if_pos (Rct.sign_hit hlt hs)] at hT
          have HT2 := Lib.hid (show (⟨#[92]⟩ : ByteArray) ++ (⟨#[40, 41, 91, 93, 124, 42, 43, 63, 46, 94, 45, 92]⟩ : ByteArray).extract k (k + 1) = T by rw [← hT, ← hs, ← Rct.sign_piece k hlt]; rfl)
          clear hc hs hT
          go_wp2
          go_ret
          exact ⟨by rw [← HT2.out]; rfl, hB⟩
        · rename_i hc
          have HNS := Lib.hid (Rct.sg_ne hlt hc)
          clear hc
          go_wp2
          go_roundg (12 - (k + 1))
          case measure => have := HGK.out; omega
          case rel => exact ⟨k + 1, by omega, rfl, by go_num, Lib.hid fun j hj => (by by_cases e : j = k; exact e ▸ HNS.out; exact HN.out j (by omega)), hB⟩
      · have h12 : ¬ (k : Int) < 12 := by omega
        have HN2 : Hid (∀ j, j < 12 → Rct.sg j ≠ b) := Lib.hid fun j hj => HN.out j (by omega)
        have HS := Lib.hid (Rct.sign_miss HN2.out)
        have hcv : ∀ W : World, (convert 26 9 (.slice (some ⟨W.heap.size, 0, none⟩) 1 1)).run Tryd.prog (W.alloc (.cells #[.int .u8 (b : Int)] 5)) = .ok (.string (Rct.one b)) (W.alloc (.cells #[.int .u8 (b : Int)] 5)) := fun W =>
          (convOwn Tryd.underlying26 Tryd.underlying5 Tryd.underlying9 [(b : Int)] (Rct.own_one (u := .int .u8 (b : Int)) (heap_alloc_new _ _) rfl)).trans (by rw [Rct.str_one HLT.out]; rfl)
        have hT := HT.out
        rw [HS.out, if_neg (by decide)] at hT
        have HT2 := Lib.hid hT
        have HBA := Lib.hid (hB.alloc hB.size (.cells #[.int .u8 (b : Int)] 5))
        clear hT
        go_wp2
        go_ret
        exact ⟨by rw [← HT2.out]; rfl, HBA.out⟩
end Go.Proofs.YtlgabpcddldelaaDoor
