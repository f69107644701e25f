/-
  SameGrammar of the reference, of two that are the same.
-/
import Derived.Test.YtkgpipokfoadiaaCfgTurn
namespace Go.Proofs.Ytkgpipokfoadiaa
set_option linter.unusedVariables false
open Go.ChangeShapes Go.WideShapes Go.ChangeAt Go.RowKit

set_option maxRecDepth 100000 in
theorem eqSyms {v1 v2 : Value} {l : List (Int × Int)} (w : World) {F1 F2 : Nat → Prop} (h1 : (Enc.two.sl 16).R F1 w [v1] l) (h2 : (Enc.two.sl 16).R F2 w [v2] l) :
    Calls Try.prog 86 #[v1, v2] w fun e w' => e = .returned (.bool true) ∧ Below w.heap.size w w' := by
  obtain ⟨a1, b1, o1, c1, rfl, k1, k3, k4⟩ := slTwo h1
  obtain ⟨a2, b2, o2, c2, rfl, g1, g3, g4⟩ := slTwo h2
  have hll : (l.length : Int) ≤ 140737488355328 := by omega
  have K3 := Lib.hid k3; have K4 := Lib.hid k4; have G3 := Lib.hid g3; have G4 := Lib.hid g4
  clear k3 k4 g3 g4 h1 h2 k1 g1
  have hne : ((l.length : Int) != (l.length : Int)) = false := by rw [bne_eq_false_iff_eq]
  go_enter Try.func86, Try.ntmps86
  go_wp2
  go_loopw [5, 13] (fun _ i wr => ∃ k : Nat, k ≤ l.length ∧ i = .int .i64 k ∧ Below w.heap.size w wr) (fun _ i _ => l.length - (intOf i).toNat)
  case atStart => exact ⟨0, by omega, rfl, Below.refl _ _⟩
  case round =>
    obtain ⟨k, hk, rfl, hB⟩ := hrel
    by_cases hlt : k < l.length
    · obtain ⟨rfl, _⟩ := K3.out (by omega)
      obtain ⟨rfl, _⟩ := G3.out (by omega)
      have hc1 := bkeep hB (K4.out k hlt).1
      have hc2 := bkeep hB (K4.out k hlt).2.1
      have hc3 := bkeep hB (G4.out k hlt).1
      have hc4 := bkeep hB (G4.out k hlt).2.1
      generalize l.getD k (0, 0) = x at hc1 hc2 hc3 hc4
      obtain ⟨x1, x2⟩ := x
      simp only at hc1 hc2 hc3 hc4
      clear K3 K4 G3 G4
      go_wp2
      go_quiet (fail)
      go_wp2
      go_roundw
      case rel => exact ⟨k + 1, by omega, by go_num, below_drewN hB _⟩
      case measure => simp [intOf]; omega
    · clear K3 K4 G3 G4
      go_wp2
      go_ret
      exact ⟨rfl, hB⟩


set_option maxRecDepth 100000 in
set_option maxHeartbeats 8000000 in
theorem sameGram_any {va vb : Value} (t n : Int) (l : List (Int × List (Int × Int))) (w : World) {F1 F2 : Nat → Prop} (hF1 : ∀ b, F1 b → b < w.heap.size) (hF2 : ∀ b, F2 b → b < w.heap.size) (h1 : Enc.prods.R F1 w [va] l) (h2 : Enc.prods.R F2 w [vb] l) :
    Calls Try.prog 38 #[.agg #[.int .i64 t, .int .i64 n, va], .agg #[.int .i64 t, .int .i64 n, vb]] w fun e w' => e = .returned (.bool true) ∧ Below w.heap.size w w' := by
  have HF1 := Lib.hid hF1; have HF2 := Lib.hid hF2
  obtain ⟨ao1, b1, o1, c1, rfl, k1, k2, k3⟩ := slProds h1
  obtain ⟨ao2, b2, o2, c2, rfl, g1, g2, g3⟩ := slProds h2
  have hll : (l.length : Int) ≤ 140737488355328 := by omega
  have K2 := Lib.hid k2; have K3 := Lib.hid k3; have G2 := Lib.hid g2; have G3 := Lib.hid g3
  clear k2 k3 g2 g3 h1 h2 k1 g1 hF1 hF2
  have hne : ((l.length : Int) != (l.length : Int)) = false := by rw [bne_eq_false_iff_eq]
  have htt : (t != t) = false := by rw [bne_eq_false_iff_eq]
  have hnn : (n != n) = false := by rw [bne_eq_false_iff_eq]
  have hst := ((St.init w).alloc #[.int .i64 t, .int .i64 n, .slice ao1 l.length c1] 24).alloc #[.int .i64 t, .int .i64 n, .slice ao2 l.length c2] 24
  simp only [World.size_alloc] at hst
  go_enter Try.func38, Try.ntmps38
  go_wp2
  generalize (w.alloc (.cells #[.int .i64 t, .int .i64 n, .slice ao1 l.length c1] 24)).alloc (.cells #[.int .i64 t, .int .i64 n, .slice ao2 l.length c2] 24) = W at hst ⊢
  go_loopw [5] (fun i wr => ∃ k : Nat, k ≤ l.length ∧ i = .int .i64 k ∧ St w wr [aCel (w.heap.size + 1) 24 #[.int .i64 t, .int .i64 n, .slice ao2 l.length c2], aCel w.heap.size 24 #[.int .i64 t, .int .i64 n, .slice ao1 l.length c1]]) (fun i _ => l.length - (intOf i).toNat)
  case atStart => exact ⟨0, by omega, rfl, hst⟩
  case round =>
    clear hst
    obtain ⟨k, hk, rfl, hst⟩ := hrel
    obtain ⟨x0, x1, x2, _, _, _⟩ := hst.cel3
    obtain ⟨y0, y1, y2, _, _, _⟩ := hst.get2.cel3
    by_cases hlt : k < l.length
    · obtain ⟨rfl, hb1, _⟩ := K2.out (by omega)
      obtain ⟨rfl, hb2, _⟩ := G2.out (by omega)
      obtain ⟨vb1, p1, p2, p3, p4⟩ := K3.out k hlt
      obtain ⟨vb2, s1, s2, s3, s4⟩ := G3.out k hlt
      obtain ⟨p, hp⟩ : ∃ p, p = l.getD k (0, []) := ⟨_, rfl⟩
      rw [← hp] at p1 p3 p4 s1 s3 s4
      clear hp
      obtain ⟨h, body⟩ := p
      simp only at p1 p2 p3 p4 s1 s2 s3 s4
      have hhh : (h != h) = false := by rw [bne_eq_false_iff_eq]
      obtain ⟨ab1, _, _, cb1, rfl, _⟩ := slTwo p3
      obtain ⟨ab2, _, _, cb2, rfl, _⟩ := slTwo s3
      have HK : Hid (∀ w', St w w' [aCel (w.heap.size + 1) 24 #[.int .i64 t, .int .i64 n, .slice (some ⟨b2, o2, none⟩) l.length c2], aCel w.heap.size 24 #[.int .i64 t, .int .i64 n, .slice (some ⟨b1, o1, none⟩) l.length c1]] →
          w'.cell? ⟨w.heap.size, 2, none⟩ = some (.slice (some ⟨b1, o1, none⟩) l.length c1) ∧ w'.cell? ⟨w.heap.size + 1, 2, none⟩ = some (.slice (some ⟨b2, o2, none⟩) l.length c2) ∧
          w'.cell? ⟨b1, o1 + k * 2, none⟩ = some (.int .i64 h) ∧ w'.cell? ⟨b1, o1 + k * 2 + 1, none⟩ = some (.slice ab1 body.length cb1) ∧ w'.cell? ⟨b2, o2 + k * 2, none⟩ = some (.int .i64 h) ∧ w'.cell? ⟨b2, o2 + k * 2 + 1, none⟩ = some (.slice ab2 body.length cb2) ∧ 
          St w w' [aCel (w.heap.size + 1) 24 #[.int .i64 t, .int .i64 n, .slice (some ⟨b2, o2, none⟩) l.length c2], aCel w.heap.size 24 #[.int .i64 t, .int .i64 n, .slice (some ⟨b1, o1, none⟩) l.length c1]]) := Lib.hid (fun w' h =>
            ⟨h.get2.celAt rfl, h.celAt rfl, (h.bel.cell (p := ⟨b1, o1 + k * 2, none⟩) hb1).trans p1, (h.bel.cell (p := ⟨b1, o1 + k * 2 + 1, none⟩) hb1).trans p2, (h.bel.cell (p := ⟨b2, o2 + k * 2, none⟩) hb2).trans s1, (h.bel.cell (p := ⟨b2, o2 + k * 2 + 1, none⟩) hb2).trans s2, h⟩)
      have P3 := Lib.hid p3; have S3 := Lib.hid s3
      have HST := Lib.hid hst
      clear p1 p2 p3 s1 s2 s3 hst
      go_wp2
      go_region_held3 (fun w' => w'.cell? ⟨w.heap.size, 2, none⟩ = some (.slice (some ⟨b1, o1, none⟩) l.length c1) ∧ w'.cell? ⟨w.heap.size + 1, 2, none⟩ = some (.slice (some ⟨b2, o2, none⟩) l.length c2) ∧
          w'.cell? ⟨b1, o1 + k * 2, none⟩ = some (.int .i64 h) ∧ w'.cell? ⟨b1, o1 + k * 2 + 1, none⟩ = some (.slice ab1 body.length cb1) ∧ w'.cell? ⟨b2, o2 + k * 2, none⟩ = some (.int .i64 h) ∧ w'.cell? ⟨b2, o2 + k * 2 + 1, none⟩ = some (.slice ab2 body.length cb2) ∧ 
          St w w' [aCel (w.heap.size + 1) 24 #[.int .i64 t, .int .i64 n, .slice (some ⟨b2, o2, none⟩) l.length c2], aCel w.heap.size 24 #[.int .i64 t, .int .i64 n, .slice (some ⟨b1, o1, none⟩) l.length c1]]) (first | exact HK.out _ HST.out.drew | exact HK.out _ HST2)
        ((go_at_call 86; have hh := (‹_ ∧ _ ∧ _ ∧ _ ∧ _ ∧ _ ∧ St w _ _›).2.2.2.2.2.2; refine (eqSyms _ (Enc.mono _ P3.out (fun _ h => h) (fun b hb => hh.bel.block b (HF1.out b hb))) (Enc.mono _ S3.out (fun _ h => h) (fun b hb => hh.bel.block b (HF2.out b hb)))).mono ?_; rintro e w8 ⟨rfl, hb8⟩; have HST2 := hh.call hb8; clear hh hb8))
      have hst := (‹_ ∧ _ ∧ _ ∧ _ ∧ _ ∧ _ ∧ St w _ _›).2.2.2.2.2.2
      go_wp2
      go_roundw
      case rel => exact ⟨k + 1, by omega, by go_num, hst⟩
      case measure => simp [intOf]; omega
    · go_wp2
      go_ret
      exact ⟨rfl, hst.bel⟩
end Go.Proofs.Ytkgpipokfoadiaa
