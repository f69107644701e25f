/-
  Turn of package deal: what it computes.
-/
import Derived.Test.YtlejdbabbakhlaaTurn
namespace Go.Proofs.Ytlejdbabbakhlaa
open Go.ChangeShapes Go.WideShapes Go.ChangeAt Go.RowKit

/-- A slice of truth values that came in. -/
theorem slBools {w : World} {v : Value} {l : List Bool} (h : Sl w 1 RBool v l) :
    ∃ (ao : Option Addr) (b off cap : Nat), v = .slice ao l.length cap ∧ l.length ≤ cap ∧ cap ≤ maxLen ∧ (0 < l.length → ao = some ⟨b, off, none⟩ ∧ b < w.heap.size) ∧
      (∀ i, i < l.length → w.cell? ⟨b, off + i, none⟩ = some (.bool (l.getD i false))) := by
  obtain ⟨ao, b, off, cap, h0, h1, h2, h3, h4⟩ := h
  refine ⟨ao, b, off, cap, h0, h1, h2, h3, fun i hi => ?_⟩
  obtain ⟨cs, g1, g2, g3⟩ := h4 i hi
  have := g2 0 (by omega)
  rw [g3, Nat.mul_one, Nat.add_zero] at this
  rw [this]; simp [List.getD, List.getElem?_eq_getElem hi]

/-- The place that the program reckons. -/
theorem Trn.place (L : Int) (s n k : Nat) (hL : L + 1 = s ∨ (L + 1 = n ∧ s = 0)) : ((L + 1 + k) % n : Int) = (((s + k) % n : Nat) : Int) := by
  rcases hL with h | ⟨h, rfl⟩
  · rw [h]; simp only [Int.natCast_emod, Int.natCast_add]
  · rw [h, Nat.zero_add, Int.add_emod_left, Int.natCast_emod]

set_option maxRecDepth 100000 in
set_option maxHeartbeats 8000000 in
theorem turn_any (last : Int) (hl0 : -9223372036854775808 ≤ last) (hl1 : last ≤ 9223372036854775807) (bs : List Bool) (hn : (bs.length : Int) ≤ 140737488355328) (v : Value) (w : World) (h : Sl w 1 RBool v bs) :
    Calls Try.prog 42 #[.int .i64 last, v] w fun e w' => e = .returned (.int .i64 (Trn.turn (Trn.start last bs.length) bs)) ∧ w = w' := by
  obtain ⟨ao, b, off, cap, rfl, _, _, n3, n4⟩ := slBools h
  clear h
  have N3 := Lib.hid n3; have N4 := Lib.hid n4
  clear n3 n4
  rcases (by omega : last < 0 ∨ (¬ last < 0 ∧ (bs.length : Int) ≤ last) ∨ (¬ last < 0 ∧ ¬ (bs.length : Int) ≤ last)) with h3 | h3 | h3
  · have hc1 : decide (last < 0) = true := decide_eq_true h3
    have hst : Trn.start last bs.length = 0 := by rw [Trn.start, if_pos (Or.inl h3)]
    have HL : Hid ((((bs.length : Int) - 1) + 1 : Int) = ((Trn.start last bs.length : Nat) : Int) ∨ ((((bs.length : Int) - 1) + 1 : Int) = (bs.length : Nat) ∧ Trn.start last bs.length = 0)) := Lib.hid (Or.inr ⟨by omega, hst⟩)
    have HS0 := Lib.hid hst; clear hst
    go_enter Try.func42, Try.ntmps42
    go_wp2
    go_loopw [6, 7, 20] (fun _ _ i wr => ∃ k : Nat, k ≤ bs.length ∧ i = .int .i64 k ∧ w = wr ∧ Hid (∀ j, j < k → bs.getD ((Trn.start last bs.length + j) % bs.length) false = false)) (fun _ _ i _ => bs.length - (intOf i).toNat)
    case atStart => exact ⟨0, by omega, rfl, rfl, Lib.hid (fun j hj => absurd hj (by omega))⟩
    case round =>
      obtain ⟨k, hk, rfl, rfl, hq⟩ := hrel
      by_cases hlt : k < bs.length
      · obtain ⟨m, hm⟩ : ∃ m, m = (Trn.start last bs.length + k) % bs.length := ⟨_, rfl⟩
        have hmn : m < bs.length := by rw [hm]; exact Nat.mod_lt _ (by omega)
        obtain ⟨rfl, hb⟩ := N3.out (by omega)
        have hcell := N4.out m hmn
        have hpl := Trn.place ((bs.length : Int) - 1) (Trn.start last bs.length) bs.length k HL.out
        rw [← hm] at hpl
        have hk1 : ((k : Int) % (bs.length : Int)) = k := Int.emod_eq_of_lt (by omega) (by omega)
        have hk2 : k % bs.length = k := Nat.mod_eq_of_lt hlt
        rw [HS0.out, Nat.zero_add, hk2] at hm
        subst hm
        have Hm := Lib.hid hk2
        cases hbk : bs.getD m false
        · rw [hbk] at hcell
          have HBK := Lib.hid hbk; clear hbk
          go_wp2
          go_roundw
          case rel =>
            refine ⟨m + 1, by omega, by go_num, by trivial, Lib.hid (fun j hj => ?_)⟩
            rcases Nat.lt_succ_iff_lt_or_eq.1 hj with hj | rfl
            · exact hq.out j hj
            · rw [HS0.out, Nat.zero_add, Hm.out]; exact HBK.out
          case measure => simp [intOf]; omega
        · rw [hbk] at hcell
          have HBK := Lib.hid hbk; clear hbk
          go_wp2
          go_ret
          have ht : Trn.turn (Trn.start last bs.length) bs = ((m : Nat) : Int) := Trn.turn_eq (.inl ⟨m, hlt, by rw [HS0.out, Nat.zero_add, Hm.out], by rw [HS0.out, Nat.zero_add, Hm.out]; exact HBK.out, hq.out⟩)
          exact ⟨by rw [ht]; rfl, rfl⟩
      · obtain rfl : k = bs.length := by omega
        go_wp2
        go_ret
        have ht : Trn.turn (Trn.start last bs.length) bs = -1 := Trn.turn_eq (.inr ⟨rfl, hq.out⟩)
        exact ⟨by rw [ht]; rfl, rfl⟩
  · have hc1 : decide (last < 0) = false := decide_eq_false h3.1
    have hc2 : decide ((bs.length : Int) ≤ last) = true := decide_eq_true h3.2
    have hst : Trn.start last bs.length = 0 := by rw [Trn.start, if_pos (Or.inr h3.2)]
    have HL : Hid ((((bs.length : Int) - 1) + 1 : Int) = ((Trn.start last bs.length : Nat) : Int) ∨ ((((bs.length : Int) - 1) + 1 : Int) = (bs.length : Nat) ∧ Trn.start last bs.length = 0)) := Lib.hid (Or.inr ⟨by omega, hst⟩)
    have HS0 := Lib.hid hst; clear hst
    go_enter Try.func42, Try.ntmps42
    go_wp2
    go_loopw [6, 7, 20] (fun _ _ i wr => ∃ k : Nat, k ≤ bs.length ∧ i = .int .i64 k ∧ w = wr ∧ Hid (∀ j, j < k → bs.getD ((Trn.start last bs.length + j) % bs.length) false = false)) (fun _ _ i _ => bs.length - (intOf i).toNat)
    case atStart => exact ⟨0, by omega, rfl, rfl, Lib.hid (fun j hj => absurd hj (by omega))⟩
    case round =>
      obtain ⟨k, hk, rfl, rfl, hq⟩ := hrel
      by_cases hlt : k < bs.length
      · obtain ⟨m, hm⟩ : ∃ m, m = (Trn.start last bs.length + k) % bs.length := ⟨_, rfl⟩
        have hmn : m < bs.length := by rw [hm]; exact Nat.mod_lt _ (by omega)
        obtain ⟨rfl, hb⟩ := N3.out (by omega)
        have hcell := N4.out m hmn
        have hpl := Trn.place ((bs.length : Int) - 1) (Trn.start last bs.length) bs.length k HL.out
        rw [← hm] at hpl
        have hk1 : ((k : Int) % (bs.length : Int)) = k := Int.emod_eq_of_lt (by omega) (by omega)
        have hk2 : k % bs.length = k := Nat.mod_eq_of_lt hlt
        rw [HS0.out, Nat.zero_add, hk2] at hm
        subst hm
        have Hm := Lib.hid hk2
        cases hbk : bs.getD m false
        · rw [hbk] at hcell
          have HBK := Lib.hid hbk; clear hbk
          go_wp2
          go_roundw
          case rel =>
            refine ⟨m + 1, by omega, by go_num, by trivial, Lib.hid (fun j hj => ?_)⟩
            rcases Nat.lt_succ_iff_lt_or_eq.1 hj with hj | rfl
            · exact hq.out j hj
            · rw [HS0.out, Nat.zero_add, Hm.out]; exact HBK.out
          case measure => simp [intOf]; omega
        · rw [hbk] at hcell
          have HBK := Lib.hid hbk; clear hbk
          go_wp2
          go_ret
          have ht : Trn.turn (Trn.start last bs.length) bs = ((m : Nat) : Int) := Trn.turn_eq (.inl ⟨m, hlt, by rw [HS0.out, Nat.zero_add, Hm.out], by rw [HS0.out, Nat.zero_add, Hm.out]; exact HBK.out, hq.out⟩)
          exact ⟨by rw [ht]; rfl, rfl⟩
      · obtain rfl : k = bs.length := by omega
        go_wp2
        go_ret
        have ht : Trn.turn (Trn.start last bs.length) bs = -1 := Trn.turn_eq (.inr ⟨rfl, hq.out⟩)
        exact ⟨by rw [ht]; rfl, rfl⟩
  · have hc1 : decide (last < 0) = false := decide_eq_false h3.1
    have hc2 : decide ((bs.length : Int) ≤ last) = false := decide_eq_false h3.2
    have hst : Trn.start last bs.length = last.toNat + 1 := by rw [Trn.start, if_neg (by omega)]
    have HL : Hid (((last) + 1 : Int) = ((Trn.start last bs.length : Nat) : Int) ∨ (((last) + 1 : Int) = (bs.length : Nat) ∧ Trn.start last bs.length = 0)) := Lib.hid (Or.inl (by omega))
    clear hst
    go_enter Try.func42, Try.ntmps42
    go_wp2
    go_loopw [6, 7, 20] (fun _ _ i wr => ∃ k : Nat, k ≤ bs.length ∧ i = .int .i64 k ∧ w = wr ∧ Hid (∀ j, j < k → bs.getD ((Trn.start last bs.length + j) % bs.length) false = false)) (fun _ _ i _ => bs.length - (intOf i).toNat)
    case atStart => exact ⟨0, by omega, rfl, rfl, Lib.hid (fun j hj => absurd hj (by omega))⟩
    case round =>
      obtain ⟨k, hk, rfl, rfl, hq⟩ := hrel
      by_cases hlt : k < bs.length
      · obtain ⟨m, hm⟩ : ∃ m, m = (Trn.start last bs.length + k) % bs.length := ⟨_, rfl⟩
        have hmn : m < bs.length := by rw [hm]; exact Nat.mod_lt _ (by omega)
        obtain ⟨rfl, hb⟩ := N3.out (by omega)
        have hcell := N4.out m hmn
        have hpl := Trn.place (last) (Trn.start last bs.length) bs.length k HL.out
        rw [← hm] at hpl
        have hk1 : ((k : Int) % (bs.length : Int)) = k := Int.emod_eq_of_lt (by omega) (by omega)
        have hk2 : k % bs.length = k := Nat.mod_eq_of_lt hlt
        have Hm := Lib.hid hm; clear hm
        cases hbk : bs.getD m false
        · rw [hbk] at hcell
          have HBK := Lib.hid hbk; clear hbk
          go_wp2
          go_roundw
          case rel =>
            refine ⟨k + 1, by omega, by go_num, by trivial, Lib.hid (fun j hj => ?_)⟩
            rcases Nat.lt_succ_iff_lt_or_eq.1 hj with hj | rfl
            · exact hq.out j hj
            · rw [← Hm.out]; exact HBK.out
          case measure => simp [intOf]; omega
        · rw [hbk] at hcell
          have HBK := Lib.hid hbk; clear hbk
          go_wp2
          go_ret
          have ht : Trn.turn (Trn.start last bs.length) bs = ((m : Nat) : Int) := Trn.turn_eq (.inl ⟨k, hlt, by rw [← Hm.out], by rw [← Hm.out]; exact HBK.out, hq.out⟩)
          exact ⟨by rw [ht]; rfl, rfl⟩
      · obtain rfl : k = bs.length := by omega
        go_wp2
        go_ret
        have ht : Trn.turn (Trn.start last bs.length) bs = -1 := Trn.turn_eq (.inr ⟨rfl, hq.out⟩)
        exact ⟨by rw [ht]; rfl, rfl⟩
end Go.Proofs.Ytlejdbabbakhlaa
