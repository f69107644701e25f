/-
  The walk of the law Names: it has no arguments, and returns true.
-/
import Derived.Test.YtlejdbabbakhlaaSum
namespace Go.Proofs.Ytlejdbabbakhlaa
open Go.ChangeShapes Go.WideShapes Go.ChangeAt Go.RowKit

theorem names_walk (w : World) : Calls Try.prog 3 #[] w fun e w' => e = .returned (.bool true) ∧ Grown w w' := by
  go_enter Try.func3, Try.ntmps3
  go_wp2
  have hc : ∀ k : Nat, k < 19 → (w.alloc
    (.cells #[.int .i64 0, .int .i64 1, .int .i64 2, .int .i64 3, .int .i64 4, .int .i64 5, .int .i64 6, .int .i64 7, .int .i64 8, .int .i64 9, .int .i64 10, .int .i64 11, .int .i64 12, .int .i64 13, .int .i64 14, .int .i64 15, .int .i64 16, .int .i64 17, .int .i64 18]
      22)).cell? ⟨w.heap.size, k, none⟩ = some (.int .i64 k) := by
    intro k hk
    rw [World.cell?_alloc_new]
    rcases k with _ | _ | _ | _ | _ | _ | _ | _ | _ | _ | _ | _ | _ | _ | _ | _ | _ | _ | _ | k <;> first | rfl | omega
  have Hc := Lib.hid hc; clear hc
  go_loop [2, 13] (fun u i => ∃ k : Nat, k ≤ 19 ∧ i = .int .i64 k) (fun u i => 19 - (intOf i).toNat)
  case atStart => exact ⟨0, by omega, rfl⟩
  case round =>
    obtain ⟨k, hk, rfl⟩ := hrel
    by_cases hlt : k < 19
    · have hck := Hc.out k hlt
      clear Hc
      go_wp2
      go_round
      case rel => exact ⟨k + 1, by omega, by go_num⟩
      case measure => simp [intOf]; omega
    · clear Hc
      go_wp2
      generalize hW : (World.alloc _ _) = W
      have hG : Grown w W := by rw [← hW]; repeat (first | exact Grown.refl _ | apply Grown.drew | apply Grown.alloc)
      have hr : ∀ k : Nat, k < 4 → ∃ n : Nat, W.cell? ⟨w.heap.size + 5, k, none⟩ = some (.slice (some ⟨w.heap.size + 1 + k, 0, none⟩) n n) ∧ n < 10 ∧ (∀ j : Nat, j < n → W.cell? ⟨w.heap.size + 1 + k, j, none⟩ = some (.int .i64 (j + 1))) := by
        intro k hk
        rw [← hW]
        have e : k = 0 ∨ k = 1 ∨ k = 2 ∨ k = 3 := by omega
        rcases e with rfl | rfl | rfl | rfl
        · refine ⟨6, by simp [World.cell?_alloc_at], by omega, fun j hj => ?_⟩
          simp [World.cell?_alloc_past, World.cell?_alloc_at]
          rcases j with _ | _ | _ | _ | _ | _ | _ | _ | _ | _ <;> first | rfl | omega
        · refine ⟨9, by simp [World.cell?_alloc_at], by omega, fun j hj => ?_⟩
          simp [World.cell?_alloc_past, World.cell?_alloc_at]
          rcases j with _ | _ | _ | _ | _ | _ | _ | _ | _ | _ <;> first | rfl | omega
        · refine ⟨4, by simp [World.cell?_alloc_at], by omega, fun j hj => ?_⟩
          simp [World.cell?_alloc_past, World.cell?_alloc_at]
          rcases j with _ | _ | _ | _ | _ | _ | _ | _ | _ | _ <;> first | rfl | omega
        · refine ⟨8, by simp [World.cell?_alloc_at], by omega, fun j hj => ?_⟩
          simp [World.cell?_alloc_past, World.cell?_alloc_at]
          rcases j with _ | _ | _ | _ | _ | _ | _ | _ | _ | _ <;> first | rfl | omega
      clear hW
      have Hr := Lib.hid hr; clear hr
      go_loop [8, 9, 33] (fun u v i => ∃ k : Nat, k ≤ 4 ∧ i = .int .i64 k) (fun u v i => 4 - (intOf i).toNat)
      case atStart => exact ⟨0, by omega, rfl⟩
      case round =>
        obtain ⟨k, hk, rfl⟩ := hrel
        by_cases hlt : k < 4
        · obtain ⟨n, hc1, hn, hc2⟩ := Hr.out k hlt
          have Hc2 := Lib.hid hc2; clear hc2
          clear Hr
          go_wp2
          clear hc1
          go_loop [9, 39] (fun v i => ∃ k : Nat, k ≤ n ∧ i = .int .i64 k) (fun v i => n - (intOf i).toNat)
          case atStart => exact ⟨0, by omega, rfl⟩
          case round =>
            obtain ⟨j, hj, rfl⟩ := hrel
            by_cases hjn : j < n
            · have hcj := Hc2.out j hjn
              clear Hc2
              go_wp2
              go_round
              case rel => exact ⟨j + 1, by omega, by go_num⟩
              case measure => simp [intOf]; omega
            · clear Hc2
              go_wp2
              go_round
              case rel => exact ⟨k + 1, by omega, by go_num⟩
              case measure => simp [intOf]; omega
        · clear Hr
          go_wp2
          go_ret
          exact ⟨rfl, hG⟩
end Go.Proofs.Ytlejdbabbakhlaa
