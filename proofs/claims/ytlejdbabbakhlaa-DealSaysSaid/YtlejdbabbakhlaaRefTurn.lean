/-
  Turn of the reference: what it computes.
-/
import Derived.Test.YtlejdbabbakhlaaDealTurn
namespace Go.Proofs.Ytlejdbabbakhlaa
open Go.ChangeShapes Go.WideShapes Go.ChangeAt Go.RowKit

set_option maxRecDepth 100000 in
set_option maxHeartbeats 8000000 in
theorem rturn_any (last : Int) (hl0 : -9223372036854775808 ≤ last) (hl1 : last ≤ 9223372036854775807) (bs : List Bool) (hn : (bs.length : Int) ≤ 140737488355328) (v : Value) (w : World) (h : Sl w 1 RBool v bs) :
    Calls Try.prog 43 #[.int .i64 last, v] w fun e w' => e = .returned (.int .i64 (Trn.turn (Trn.start last bs.length) bs)) ∧ w = w' := by
  obtain ⟨ao, b, off, cap, rfl, _, _, n3, n4⟩ := slBools h
  clear h
  have N3 := Lib.hid n3; have N4 := Lib.hid n4
  clear n3 n4
  rcases (by omega : last < 0 ∨ (¬ last < 0 ∧ (bs.length : Int) ≤ last) ∨ (¬ last < 0 ∧ ¬ (bs.length : Int) ≤ last)) with h3 | h3 | h3
  · have hc1 : decide (last < 0) = true := decide_eq_true h3
    have hst : Trn.start last bs.length = 0 := by rw [Trn.start, if_pos (Or.inl h3)]
    obtain ⟨s, hs⟩ : ∃ s, s = Trn.start last bs.length := ⟨_, rfl⟩
    have HST := Lib.hid hs.symm
    have hsL : (s : Int) = (-1 : Int) + 1 := by omega
    have hsn : s ≤ bs.length := by omega
    clear hst hs
    go_enter Try.func43, Try.ntmps43
    go_wp2
    go_loopw [5] (fun i wr => ∃ k : Nat, s ≤ k ∧ k ≤ bs.length ∧ i = .int .i64 k ∧ w = wr ∧ Hid (∀ j, s ≤ j → j < k → bs.getD j false = false)) (fun i _ => bs.length - (intOf i).toNat)
    case atStart => exact ⟨s, Nat.le_refl _, by omega, int_eq (by omega), rfl, Lib.hid (fun j hj hk => absurd hk (by omega))⟩
    case round =>
      obtain ⟨k, hks, hk, rfl, rfl, hq⟩ := hrel
      by_cases hlt : k < bs.length
      · obtain ⟨rfl, hb⟩ := N3.out (by omega)
        have hcell := N4.out k hlt
        cases hbk : bs.getD k false
        · rw [hbk] at hcell
          have HBK := Lib.hid hbk; clear hbk
          go_wp2
          go_roundw
          case rel =>
            refine ⟨k + 1, by omega, by omega, by go_num, by trivial, Lib.hid (fun j hs hj => ?_)⟩
            rcases Nat.lt_succ_iff_lt_or_eq.1 hj with hj | rfl
            · exact hq.out j hs hj
            · exact HBK.out
          case measure => simp [intOf]; omega
        · rw [hbk] at hcell
          have HBK := Lib.hid hbk; clear hbk
          go_wp2
          go_ret
          have ht : Trn.turn s bs = ((k : Nat) : Int) := Trn.turn_eq (Trn.up hks hlt HBK.out hq.out)
          exact ⟨by rw [HST.out, ht]; rfl, rfl⟩
      · obtain rfl : k = bs.length := by omega
        go_wp2
        go_loopw [6] (fun i wr => ∃ k : Nat, k ≤ s ∧ i = .int .i64 k ∧ w = wr ∧ Hid (∀ j, j < k → bs.getD j false = false)) (fun i _ => s - (intOf i).toNat)
        case atStart => exact ⟨0, by omega, rfl, rfl, Lib.hid (fun j hj => absurd hj (by omega))⟩
        case round =>
          obtain ⟨k, hk2, rfl, rfl, hp⟩ := hrel
          by_cases hlt2 : k < s
          · have hd1 : decide ((k : Int) ≤ (-1 : Int)) = true := decide_eq_true (by omega)
            obtain ⟨rfl, hb⟩ := N3.out (by omega)
            have hcell := N4.out k (by omega)
            cases hbk : bs.getD k false
            · rw [hbk] at hcell
              have HBK := Lib.hid hbk; clear hbk
              go_wp2
              go_roundw
              case rel =>
                refine ⟨k + 1, by omega, by go_num, by trivial, Lib.hid (fun j hj => ?_)⟩
                rcases Nat.lt_succ_iff_lt_or_eq.1 hj with hj | rfl
                · exact hp.out j hj
                · exact HBK.out
              case measure => simp [intOf]; omega
            · rw [hbk] at hcell
              have HBK := Lib.hid hbk; clear hbk
              go_wp2
              go_ret
              have ht : Trn.turn s bs = ((k : Nat) : Int) := Trn.turn_eq (Trn.down hsn hlt2 HBK.out (fun j h1 h2 => hq.out j h1 h2) hp.out)
              exact ⟨by rw [HST.out, ht]; rfl, rfl⟩
          · obtain rfl : k = s := by omega
            have hd1 : decide ((k : Int) ≤ (-1 : Int)) = false := decide_eq_false (by omega)
            go_wp2
            go_ret
            have ht : Trn.turn k bs = -1 := Trn.turn_eq (Trn.none (fun j hj => by
              by_cases h : j < k
              · exact hp.out j h
              · exact hq.out j (by omega) hj))
            exact ⟨by rw [HST.out, ht]; rfl, rfl⟩
  · have hc1 : decide (last < 0) = false := decide_eq_false h3.1
    have hc2 : decide ((bs.length : Int) ≤ last) = true := decide_eq_true h3.2
    have hst : Trn.start last bs.length = 0 := by rw [Trn.start, if_pos (Or.inr h3.2)]
    obtain ⟨s, hs⟩ : ∃ s, s = Trn.start last bs.length := ⟨_, rfl⟩
    have HST := Lib.hid hs.symm
    have hsL : (s : Int) = (-1 : Int) + 1 := by omega
    have hsn : s ≤ bs.length := by omega
    clear hst hs
    go_enter Try.func43, Try.ntmps43
    go_wp2
    go_loopw [5] (fun i wr => ∃ k : Nat, s ≤ k ∧ k ≤ bs.length ∧ i = .int .i64 k ∧ w = wr ∧ Hid (∀ j, s ≤ j → j < k → bs.getD j false = false)) (fun i _ => bs.length - (intOf i).toNat)
    case atStart => exact ⟨s, Nat.le_refl _, by omega, int_eq (by omega), rfl, Lib.hid (fun j hj hk => absurd hk (by omega))⟩
    case round =>
      obtain ⟨k, hks, hk, rfl, rfl, hq⟩ := hrel
      by_cases hlt : k < bs.length
      · obtain ⟨rfl, hb⟩ := N3.out (by omega)
        have hcell := N4.out k hlt
        cases hbk : bs.getD k false
        · rw [hbk] at hcell
          have HBK := Lib.hid hbk; clear hbk
          go_wp2
          go_roundw
          case rel =>
            refine ⟨k + 1, by omega, by omega, by go_num, by trivial, Lib.hid (fun j hs hj => ?_)⟩
            rcases Nat.lt_succ_iff_lt_or_eq.1 hj with hj | rfl
            · exact hq.out j hs hj
            · exact HBK.out
          case measure => simp [intOf]; omega
        · rw [hbk] at hcell
          have HBK := Lib.hid hbk; clear hbk
          go_wp2
          go_ret
          have ht : Trn.turn s bs = ((k : Nat) : Int) := Trn.turn_eq (Trn.up hks hlt HBK.out hq.out)
          exact ⟨by rw [HST.out, ht]; rfl, rfl⟩
      · obtain rfl : k = bs.length := by omega
        go_wp2
        go_loopw [6] (fun i wr => ∃ k : Nat, k ≤ s ∧ i = .int .i64 k ∧ w = wr ∧ Hid (∀ j, j < k → bs.getD j false = false)) (fun i _ => s - (intOf i).toNat)
        case atStart => exact ⟨0, by omega, rfl, rfl, Lib.hid (fun j hj => absurd hj (by omega))⟩
        case round =>
          obtain ⟨k, hk2, rfl, rfl, hp⟩ := hrel
          by_cases hlt2 : k < s
          · have hd1 : decide ((k : Int) ≤ (-1 : Int)) = true := decide_eq_true (by omega)
            obtain ⟨rfl, hb⟩ := N3.out (by omega)
            have hcell := N4.out k (by omega)
            cases hbk : bs.getD k false
            · rw [hbk] at hcell
              have HBK := Lib.hid hbk; clear hbk
              go_wp2
              go_roundw
              case rel =>
                refine ⟨k + 1, by omega, by go_num, by trivial, Lib.hid (fun j hj => ?_)⟩
                rcases Nat.lt_succ_iff_lt_or_eq.1 hj with hj | rfl
                · exact hp.out j hj
                · exact HBK.out
              case measure => simp [intOf]; omega
            · rw [hbk] at hcell
              have HBK := Lib.hid hbk; clear hbk
              go_wp2
              go_ret
              have ht : Trn.turn s bs = ((k : Nat) : Int) := Trn.turn_eq (Trn.down hsn hlt2 HBK.out (fun j h1 h2 => hq.out j h1 h2) hp.out)
              exact ⟨by rw [HST.out, ht]; rfl, rfl⟩
          · obtain rfl : k = s := by omega
            have hd1 : decide ((k : Int) ≤ (-1 : Int)) = false := decide_eq_false (by omega)
            go_wp2
            go_ret
            have ht : Trn.turn k bs = -1 := Trn.turn_eq (Trn.none (fun j hj => by
              by_cases h : j < k
              · exact hp.out j h
              · exact hq.out j (by omega) hj))
            exact ⟨by rw [HST.out, ht]; rfl, rfl⟩
  · have hc1 : decide (last < 0) = false := decide_eq_false h3.1
    have hc2 : decide ((bs.length : Int) ≤ last) = false := decide_eq_false h3.2
    have hst : Trn.start last bs.length = last.toNat + 1 := by rw [Trn.start, if_neg (by omega)]
    obtain ⟨s, hs⟩ : ∃ s, s = Trn.start last bs.length := ⟨_, rfl⟩
    have HST := Lib.hid hs.symm
    have hsL : (s : Int) = last + 1 := by omega
    have hsn : s ≤ bs.length := by omega
    clear hst hs
    go_enter Try.func43, Try.ntmps43
    go_wp2
    go_loopw [5] (fun i wr => ∃ k : Nat, s ≤ k ∧ k ≤ bs.length ∧ i = .int .i64 k ∧ w = wr ∧ Hid (∀ j, s ≤ j → j < k → bs.getD j false = false)) (fun i _ => bs.length - (intOf i).toNat)
    case atStart => exact ⟨s, Nat.le_refl _, by omega, int_eq (by omega), rfl, Lib.hid (fun j hj hk => absurd hk (by omega))⟩
    case round =>
      obtain ⟨k, hks, hk, rfl, rfl, hq⟩ := hrel
      by_cases hlt : k < bs.length
      · obtain ⟨rfl, hb⟩ := N3.out (by omega)
        have hcell := N4.out k hlt
        cases hbk : bs.getD k false
        · rw [hbk] at hcell
          have HBK := Lib.hid hbk; clear hbk
          go_wp2
          go_roundw
          case rel =>
            refine ⟨k + 1, by omega, by omega, by go_num, by trivial, Lib.hid (fun j hs hj => ?_)⟩
            rcases Nat.lt_succ_iff_lt_or_eq.1 hj with hj | rfl
            · exact hq.out j hs hj
            · exact HBK.out
          case measure => simp [intOf]; omega
        · rw [hbk] at hcell
          have HBK := Lib.hid hbk; clear hbk
          go_wp2
          go_ret
          have ht : Trn.turn s bs = ((k : Nat) : Int) := Trn.turn_eq (Trn.up hks hlt HBK.out hq.out)
          exact ⟨by rw [HST.out, ht]; rfl, rfl⟩
      · obtain rfl : k = bs.length := by omega
        go_wp2
        go_loopw [6] (fun i wr => ∃ k : Nat, k ≤ s ∧ i = .int .i64 k ∧ w = wr ∧ Hid (∀ j, j < k → bs.getD j false = false)) (fun i _ => s - (intOf i).toNat)
        case atStart => exact ⟨0, by omega, rfl, rfl, Lib.hid (fun j hj => absurd hj (by omega))⟩
        case round =>
          obtain ⟨k, hk2, rfl, rfl, hp⟩ := hrel
          by_cases hlt2 : k < s
          · have hd1 : decide ((k : Int) ≤ last) = true := decide_eq_true (by omega)
            obtain ⟨rfl, hb⟩ := N3.out (by omega)
            have hcell := N4.out k (by omega)
            cases hbk : bs.getD k false
            · rw [hbk] at hcell
              have HBK := Lib.hid hbk; clear hbk
              go_wp2
              go_roundw
              case rel =>
                refine ⟨k + 1, by omega, by go_num, by trivial, Lib.hid (fun j hj => ?_)⟩
                rcases Nat.lt_succ_iff_lt_or_eq.1 hj with hj | rfl
                · exact hp.out j hj
                · exact HBK.out
              case measure => simp [intOf]; omega
            · rw [hbk] at hcell
              have HBK := Lib.hid hbk; clear hbk
              go_wp2
              go_ret
              have ht : Trn.turn s bs = ((k : Nat) : Int) := Trn.turn_eq (Trn.down hsn hlt2 HBK.out (fun j h1 h2 => hq.out j h1 h2) hp.out)
              exact ⟨by rw [HST.out, ht]; rfl, rfl⟩
          · obtain rfl : k = s := by omega
            have hd1 : decide ((k : Int) ≤ last) = false := decide_eq_false (by omega)
            go_wp2
            go_ret
            have ht : Trn.turn k bs = -1 := Trn.turn_eq (Trn.none (fun j hj => by
              by_cases h : j < k
              · exact hp.out j h
              · exact hq.out j (by omega) hj))
            exact ⟨by rw [HST.out, ht]; rfl, rfl⟩
end Go.Proofs.Ytlejdbabbakhlaa
