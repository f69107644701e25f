/-
  Equal of two lists of tokens.
-/
import Derived.Test.YtkgpipokfoadiaaLexTok
namespace Go.Proofs.Ytkgpipokfoadiaa
set_option linter.unusedVariables false
open Go.ChangeShapes Go.WideShapes Go.ChangeAt Go.RowKit

def Enc.tok : Enc (Int × Int × Int) where
  size := 3
  R := fun _ _ cs x => cs = [.int .i64 x.1, .int .i64 x.2.1, .int .i64 x.2.2]
  len := fun h => by rw [h]; rfl
  mono := fun h _ _ => h
theorem slTok {bytes : Nat} {F : Nat → Prop} {w : World} {v : Value} {l : List (Int × Int × Int)} (h : (Enc.tok.sl bytes).R F w [v] l) :
    ∃ (ao : Option Addr) (b off cap : Nat), v = .slice ao l.length cap ∧ (l.length : Int) * bytes ≤ 140737488355328 ∧ (0 < l.length → ao = some ⟨b, off, none⟩ ∧ b < w.heap.size ∧ F b) ∧
      ∀ i, i < l.length → w.cell? ⟨b, off + i * 3, none⟩ = some (.int .i64 (l.getD i (0, 0, 0)).1) ∧ w.cell? ⟨b, off + i * 3 + 1, none⟩ = some (.int .i64 (l.getD i (0, 0, 0)).2.1) ∧ w.cell? ⟨b, off + i * 3 + 2, none⟩ = some (.int .i64 (l.getD i (0, 0, 0)).2.2) := by
  obtain ⟨ao, b, off, cap, h0, h1, h2, h3⟩ := Enc.slN (0, 0, 0) h
  refine ⟨ao, b, off, cap, h0, h1, h2, fun i hi => ?_⟩
  obtain ⟨cs, _, g2, rfl⟩ := h3 i hi
  exact ⟨g2 0 (by decide), g2 1 (by decide), g2 2 (by decide)⟩
theorem Own.tok {w : World} {B : Nat} {e : TypeId} {v : Value} {l : List (Int × Int × Int)} {F : Nat → Prop} (h : Own w B e 3 v (l.map tokV)) (hF : ∀ b ∈ v.ownBlock.toList, F b) (hb : (l.length : Int) * 24 ≤ 140737488355328) : (Enc.tok.sl 24).R F w [v] l :=
  Own.enc (En := Enc.tok) (bytes := 24) h rfl (fun a ha => rfl) hF hb

set_option maxRecDepth 100000 in
theorem eqToks {v1 v2 : Value} {l : List (Int × Int × Int)} (w : World) {F1 F2 : Nat → Prop} (h1 : (Enc.tok.sl 24).R F1 w [v1] l) (h2 : (Enc.tok.sl 24).R F2 w [v2] l) :
    Calls Try.prog 32 #[v1, v2] w fun e w' => e = .returned (.bool true) ∧ Below w.heap.size w w' := by
  obtain ⟨a1, b1, o1, c1, rfl, k1, k3, k4⟩ := slTok h1
  obtain ⟨a2, b2, o2, c2, rfl, g1, g3, g4⟩ := slTok h2
  have hll : (l.length : Int) ≤ 140737488355328 := by omega
  have K3 := Lib.hid k3; have K4 := Lib.hid k4; have G3 := Lib.hid g3; have G4 := Lib.hid g4
  clear k3 k4 g3 g4 h1 h2 k1 g1
  have hne : ((l.length : Int) != (l.length : Int)) = false := by rw [bne_eq_false_iff_eq]
  go_enter Try.func32, Try.ntmps32
  go_wp2
  go_loopw [5, 13] (fun _ i wr => ∃ k : Nat, k ≤ l.length ∧ i = .int .i64 k ∧ Below w.heap.size w wr) (fun _ i _ => l.length - (intOf i).toNat)
  case atStart => exact ⟨0, by omega, rfl, Below.refl _ _⟩
  case round =>
    obtain ⟨k, hk, rfl, hB⟩ := hrel
    by_cases hlt : k < l.length
    · obtain ⟨rfl, _⟩ := K3.out (by omega)
      obtain ⟨rfl, _⟩ := G3.out (by omega)
      have hc1 := bkeep hB (K4.out k hlt).1
      have hc2 := bkeep hB (K4.out k hlt).2.1
      have hc3 := bkeep hB (K4.out k hlt).2.2
      have hc4 := bkeep hB (G4.out k hlt).1
      have hc5 := bkeep hB (G4.out k hlt).2.1
      have hc6 := bkeep hB (G4.out k hlt).2.2
      generalize l.getD k (0, 0, 0) = x at hc1 hc2 hc3 hc4 hc5 hc6
      obtain ⟨x1, x2, x3⟩ := x
      simp only at hc1 hc2 hc3 hc4 hc5 hc6
      clear K3 K4 G3 G4
      go_wp2
      go_quiet (fail)
      go_wp2
      go_roundw
      case rel => exact ⟨k + 1, by omega, by go_num, below_drewN hB _⟩
      case measure => simp [intOf]; omega
    · clear K3 K4 G3 G4
      go_wp2
      go_ret
      exact ⟨rfl, hB⟩
end Go.Proofs.Ytkgpipokfoadiaa
