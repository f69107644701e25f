/-
  slices.Equal on alike lists of shares.
-/
import Derived.Test.YtlejdbabbakhlaaDfa
namespace Go.Proofs.Ytlejdbabbakhlaa
open Go.ChangeShapes Go.WideShapes Go.ChangeAt Go.RowKit

def RPair (cs : List Value) (p : Int × Int) : Prop := cs = [.int .i64 p.1, .int .i64 p.2]

theorem slPairs {w : World} {v : Value} {l : List (Int × Int)} (h : Sl w 2 RPair v l) :
    ∃ (ao : Option Addr) (b off cap : Nat), v = .slice ao l.length cap ∧ l.length ≤ cap ∧ (0 < l.length → ao = some ⟨b, off, none⟩ ∧ b < w.heap.size) ∧
      ∀ i, i < l.length → w.cell? ⟨b, off + i * 2, none⟩ = some (.int .i64 (l.getD i (0, 0)).1) ∧ w.cell? ⟨b, off + i * 2 + 1, none⟩ = some (.int .i64 (l.getD i (0, 0)).2) := by
  obtain ⟨ao, b, off, cap, h0, h1, h2, h3, h4⟩ := h
  refine ⟨ao, b, off, cap, h0, h1, h3, fun i hi => ?_⟩
  obtain ⟨cs, g1, g2, g3⟩ := h4 i hi
  have e0 := g2 0 (by omega)
  have e1 := g2 1 (by omega)
  rw [g3] at e0 e1
  rw [Nat.add_zero] at e0
  rw [e0, e1]
  simp [List.getD, List.getElem?_eq_getElem hi]

set_option maxRecDepth 100000 in
theorem eqShares {v1 v2 : Value} {l : List (Int × Int)} (w : World) (hl : (l.length : Int) ≤ 100000) (h1 : Sl w 2 RPair v1 l) (h2 : Sl w 2 RPair v2 l) :
    Calls Try.prog 48 #[v1, v2] w fun e w' => e = .returned (.bool true) ∧ Below w.heap.size w w' := by
  obtain ⟨a1, b1, o1, c1, rfl, k1, k3, k4⟩ := slPairs h1
  obtain ⟨a2, b2, o2, c2, rfl, g1, g3, g4⟩ := slPairs h2
  have K3 := Lib.hid k3; have K4 := Lib.hid k4; have G3 := Lib.hid g3; have G4 := Lib.hid g4
  clear k3 k4 g3 g4 h1 h2
  have hne : ((l.length : Int) != (l.length : Int)) = false := by rw [bne_eq_false_iff_eq]
  go_enter Try.func48, Try.ntmps48
  go_wp2
  go_loopw [5, 13] (fun _ i wr => ∃ k : Nat, k ≤ l.length ∧ i = .int .i64 k ∧ Below w.heap.size w wr) (fun _ i _ => l.length - (intOf i).toNat)
  case atStart => exact ⟨0, by omega, rfl, Below.refl _ _⟩
  case round =>
    obtain ⟨k, hk, rfl, hB⟩ := hrel
    by_cases hlt : k < l.length
    · obtain ⟨rfl, _⟩ := K3.out (by omega)
      obtain ⟨rfl, _⟩ := G3.out (by omega)
      have hc1 := bkeep hB (K4.out k hlt).1
      have hc2 := bkeep hB (K4.out k hlt).2
      have hc3 := bkeep hB (G4.out k hlt).1
      have hc4 := bkeep hB (G4.out k hlt).2
      generalize l.getD k (0, 0) = x at hc1 hc2 hc3 hc4
      obtain ⟨x1, x2⟩ := x
      simp only at hc1 hc2 hc3 hc4
      clear K3 K4 G3 G4
      go_wp2
      go_quiet (fail)
      go_wp2
      go_roundw
      case rel => exact ⟨k + 1, by omega, by go_num, below_drewN hB _⟩
      case measure => simp [intOf]; omega
    · clear K3 K4 G3 G4
      go_wp2
      go_ret
      exact ⟨rfl, hB⟩
end Go.Proofs.Ytlejdbabbakhlaa
