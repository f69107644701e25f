/-
  slices.Equal of two slices that read alike: true.
-/
import Derived.Test.YtlgabpcddldelaaDfaDat
import Derived.Test.YtlgabpcddldelaaArrEq
namespace Go.Proofs.Ytlgabpcddldelaa
open Go.ChangeShapes Go.WideShapes Go.ChangeAt Go.RowKit

set_option maxRecDepth 100000 in
theorem eqInts {v1 v2 : Value} {l : List Int} (w : World) (h1 : Sl w 1 (RInt .i64) v1 l) (h2 : Sl w 1 (RInt .i64) v2 l) :
    Calls Try.prog 42 #[v1, v2] w fun e w' => e = .returned (.bool true) ∧ Below w.heap.size w w' := by
  obtain ⟨a1, b1, o1, c1, rfl, k1, k2, k3, k4, _⟩ := slInts h1
  obtain ⟨a2, b2, o2, c2, rfl, g1, g2, g3, g4, _⟩ := slInts h2
  unfold maxLen at k2 g2
  have K3 := Lib.hid k3; have K4 := Lib.hid k4; have G3 := Lib.hid g3; have G4 := Lib.hid g4
  clear k3 k4 g3 g4 h1 h2
  have hne : ((l.length : Int) != (l.length : Int)) = false := by rw [bne_eq_false_iff_eq]
  go_enter Try.func42, Try.ntmps42
  go_wp2
  go_loopw [5, 13] (fun _ i wr => ∃ k : Nat, k ≤ l.length ∧ i = .int .i64 k ∧ Below w.heap.size w wr) (fun _ i _ => l.length - (intOf i).toNat)
  case atStart => exact ⟨0, by omega, rfl, Below.refl _ _⟩
  case round =>
    obtain ⟨k, hk, rfl, hB⟩ := hrel
    by_cases hlt : k < l.length
    · obtain ⟨rfl, _⟩ := K3.out (by omega)
      obtain ⟨rfl, _⟩ := G3.out (by omega)
      have hc1 := bkeep hB (K4.out k hlt)
      have hc2 := bkeep hB (G4.out k hlt)
      generalize l.getD k 0 = x at hc1 hc2
      clear K3 K4 G3 G4
      go_wp2
      go_quiet (fail)
      go_wp2
      go_roundw
      case rel => exact ⟨k + 1, by omega, by go_num, below_drewN hB _⟩
      case measure => simp [intOf]; omega
    · clear K3 K4 G3 G4
      go_wp2
      go_ret
      exact ⟨rfl, hB⟩

set_option maxRecDepth 100000 in
theorem eqRows {v1 v2 : Value} {l : List (List Int)} (w : World) (h1 : Sl w 256 (RRow .i16 256) v1 l) (h2 : Sl w 256 (RRow .i16 256) v2 l) :
    Calls Try.prog 41 #[v1, v2] w fun e w' => e = .returned (.bool true) ∧ Below w.heap.size w w' := by
  obtain ⟨a1, b1, o1, c1, rfl, k1, k2, k3, k4, k5⟩ := slRows h1
  obtain ⟨a2, b2, o2, c2, rfl, g1, g2, g3, g4, _⟩ := slRows h2
  unfold maxLen at k2 g2
  have K3 := Lib.hid k3; have K4 := Lib.hid k4; have K5 := Lib.hid k5; have G3 := Lib.hid g3; have G4 := Lib.hid g4
  clear k3 k4 k5 g3 g4 h1 h2
  have hne : ((l.length : Int) != (l.length : Int)) = false := by rw [bne_eq_false_iff_eq]
  go_enter Try.func41, Try.ntmps41
  go_wp2
  go_loopw [5, 13] (fun _ i wr => ∃ k : Nat, k ≤ l.length ∧ i = .int .i64 k ∧ Below w.heap.size w wr) (fun _ i _ => l.length - (intOf i).toNat)
  case atStart => exact ⟨0, by omega, rfl, Below.refl _ _⟩
  case round =>
    obtain ⟨k, hk, rfl, hB⟩ := hrel
    by_cases hlt : k < l.length
    · obtain ⟨rfl, _⟩ := K3.out (by omega)
      obtain ⟨rfl, _⟩ := G3.out (by omega)
      have hc1 := rangeAt_below hB (K4.out k hlt)
      have hc2 := rangeAt_below hB (G4.out k hlt)
      have hlen := (K5.out k hlt).1
      have HB := Lib.hid hB; clear hB
      generalize l.getD k [] = x at hc1 hc2 hlen
      clear K3 K4 K5 G3 G4
      have hinf : (Try.prog.info? 96).map (·.size) = some (x.map (Value.int .i16)).length := by rw [List.length_map, hlen]; kernel_rfl
      have hnq := fun W => run_equalIn_arr (P := Try.prog) (k := .i16) Try.underlying96 Try.underlying94 (by kernel_rfl) x hlen 9998 W
      clear hlen
      have HI := Lib.hid hinf; clear hinf
      go_wp2
      refine wp_region_quiet_lit (by kernel_rfl) (by kernel_rfl) ?_
      repeat (first
        | ((with_reducible refine wpQuiet_load_mid (w := wr) 96 _ rfl rfl b1 (o1 + k * 256) rfl (x.map (Value.int .i16)) _ hc1 Try.underlying96 rfl HI.out ?_); simp only [Act.put, List.setIfInBounds_toArray, List.set_cons_zero, List.set_cons_succ])
        | ((with_reducible refine wpQuiet_load_mid (w := wr) 96 _ rfl rfl b2 (o2 + k * 256) rfl (x.map (Value.int .i16)) _ hc2 Try.underlying96 rfl HI.out ?_); simp only [Act.put, List.setIfInBounds_toArray, List.set_cons_zero, List.set_cons_succ])
        | go_big_quiet_step (fail))
      refine wpQuiet_nil ?_
      intro _ hw'
      obtain ⟨nq, hw''⟩ := hw'
      subst hw''
      go_wp2
      go_roundw
      case rel => exact ⟨k + 1, by omega, by go_num, below_drewN HB.out _⟩
      case measure => simp [intOf]; omega
    · clear K3 K4 K5 G3 G4
      go_wp2
      go_ret
      exact ⟨rfl, hB⟩
end Go.Proofs.Ytlgabpcddldelaa
