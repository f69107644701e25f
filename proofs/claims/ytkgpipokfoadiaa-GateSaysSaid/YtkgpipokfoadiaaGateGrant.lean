/-
  Grant of package gate.
-/
import Derived.Test.YtkgpipokfoadiaaGatePut
namespace Go.Proofs.Ytkgpipokfoadiaa
set_option linter.unusedVariables false
open Go.ChangeShapes Go.WideShapes Go.ChangeAt Go.RowKit

namespace Gt
def grantE (l : List (Int × Int)) (c n k : Int) : Int := if err l c n ≠ 0 then err l c n else if k < 1 ∨ 1073741824 < k then 1 else 0
def sum (c k : Int) : Int := if 1073741824 < c + k then 1073741824 else c + k
theorem sum_eq (c k : Int) : min 1073741824 (c + k) = sum c k := by unfold sum; split <;> omega
end Gt
attribute [irreducible] Gt.sum

/-- Three cells, free to be written. -/
def Fr3 (w : World) (g : Nat) (z0 z1 z2 : Value) : Prop := w.cell? ⟨g, 0, none⟩ = some z0 ∧ w.cell? ⟨g, 1, none⟩ = some z1 ∧ w.cell? ⟨g, 2, none⟩ = some z2 ∧ w.frozen? ⟨g, 0, none⟩ = false ∧ w.frozen? ⟨g, 1, none⟩ = false ∧ w.frozen? ⟨g, 2, none⟩ = false
theorem Fr3.below {w w' : World} {g : Nat} {z0 z1 z2 : Value} (h : Fr3 w g z0 z1 z2) (hb : Below w.heap.size w w') : Fr3 w' g z0 z1 z2 := by
  have hl : g < w.heap.size := World.block_lt_of_cell? w _ h.1
  obtain ⟨h0, h1, h2, h3, h4, h5⟩ := h
  exact ⟨bkeep hb h0, bkeep hb h1, bkeep hb h2, (hb.frozen (p := ⟨g, 0, none⟩) hl).trans h3, (hb.frozen (p := ⟨g, 1, none⟩) hl).trans h4, (hb.frozen (p := ⟨g, 2, none⟩) hl).trans h5⟩
theorem Fr3.fresh (w : World) (z0 z1 z2 : Value) (T : TypeId) : Fr3 (w.alloc (.cells #[z0, z1, z2] T)) w.heap.size z0 z1 z2 := by
  have hg : (w.alloc (.cells #[z0, z1, z2] T)).heap[w.heap.size]? = some (.cells #[z0, z1, z2] T (0, 0)) := heap_alloc_new _ _
  exact ⟨by rw [World.cell?_alloc_new]; rfl, by rw [World.cell?_alloc_new]; rfl, by rw [World.cell?_alloc_new]; rfl, frozen_of_row _ _ _ _ _ hg, frozen_of_row _ _ _ _ _ hg, frozen_of_row _ _ _ _ _ hg⟩
theorem Fr3.new {w w' : World} {z0 z1 z2 : Value} {T : TypeId} (hb : Below (w.alloc (.cells #[z0, z1, z2] T)).heap.size (w.alloc (.cells #[z0, z1, z2] T)) w') : Fr3 w' w.heap.size z0 z1 z2 := (Fr3.fresh w z0 z1 z2 T).below hb
theorem Fr3.newd {w w' : World} {z0 z1 z2 : Value} {T : TypeId} (hb : Below (w.alloc (.cells #[z0, z1, z2] T)).drew.heap.size (w.alloc (.cells #[z0, z1, z2] T)).drew w') : Fr3 w' w.heap.size z0 z1 z2 := (show Fr3 (w.alloc (.cells #[z0, z1, z2] T)).drew w.heap.size z0 z1 z2 from Fr3.fresh w z0 z1 z2 T).below hb

set_option maxRecDepth 100000 in
set_option maxHeartbeats 8000000 in
theorem grant_bad {v : Value} {l : List (Int × Int)} (c n k : Int) (hk0 : -9223372036854775808 ≤ k) (hk1 : k ≤ 9223372036854775807) (w : World) {F : Nat → Prop} (hF : ∀ b, F b → b < w.heap.size) (h : (Enc.two.sl 16).R F w [v] l) (he : Gt.err l c n ≠ 0) :
    Calls Try.prog 22 #[.agg #[v, .int .i64 c, .int .i64 n], .int .i64 k] w (RetG (Gt.err l c n) l c n w) := by
  have H := Lib.hid h; have HF := Lib.hid hF
  obtain ⟨ao, b, off, cap, rfl, hl, hx, hy⟩ := slTwo h
  clear h hx hy hF
  generalize hq : Gt.err l c n = E at *
  have HQ := Lib.hid hq
  have hnz : (E == 0) = false := by rw [beq_eq_false_iff_ne]; exact he
  clear he hq
  have hst := ((St.init w).alloc #[.slice ao l.length cap, .int .i64 c, .int .i64 n] 42).alloc #[.slice none 0 0, .int .i64 0, .int .i64 0] 42
  simp only [World.size_alloc] at hst
  go_enter Try.func22, Try.ntmps22
  go_wp2
  generalize (w.alloc (.cells #[.slice ao l.length cap, .int .i64 c, .int .i64 n] 42)).alloc (.cells #[.slice none 0 0, .int .i64 0, .int .i64 0] 42) = W at hst ⊢
  have HK : Hid (∀ W', Below W.heap.size W W' → W'.cell? ⟨w.heap.size, 0, none⟩ = some (.slice ao l.length cap) ∧ W'.cell? ⟨w.heap.size, 1, none⟩ = some (.int .i64 c) ∧ W'.cell? ⟨w.heap.size, 2, none⟩ = some (.int .i64 n) ∧ Below W.heap.size W W') := Lib.hid (fun W' hW => by
    have h1 := (hst.call hW).get2
    exact ⟨h1.celAt rfl, h1.celAt rfl, h1.celAt rfl, hW⟩)
  have hRR := Below.refl W.heap.size W
  have hB := hst.bel
  go_region_held3 (fun w' => w'.cell? ⟨w.heap.size, 0, none⟩ = some (.slice ao l.length cap) ∧ w'.cell? ⟨w.heap.size, 1, none⟩ = some (.int .i64 c) ∧ w'.cell? ⟨w.heap.size, 2, none⟩ = some (.int .i64 n) ∧ Below W.heap.size W w') (first | exact HK.out _ hRR | exact HK.out _ hRR.drew | exact HK.out _ (hRR.alloc hRR.size _) | exact HK.out _ (hRR.drew.alloc hRR.size _) | exact HK.out _ (hRR.alloc hRR.size _).drew | exact HK.out _ (((hRR.setCell (p := ⟨_, 0, none⟩) (by first | exact Nat.le_refl _ | exact hRR3.size) _).setCell (p := ⟨_, 1, none⟩) (by first | exact Nat.le_refl _ | exact hRR3.size) _).setCell (p := ⟨_, 2, none⟩) (by first | exact Nat.le_refl _ | exact hRR3.size) _))
    ((first
      | (go_at_call 74; have hh := ‹_ ∧ _ ∧ _ ∧ Below W.heap.size W _›; have h5 := hB.trans (hh.2.2.2.mono hB.size); refine (same_any c n _ (fun b hb => Nat.lt_of_lt_of_le (HF.out b hb) h5.size) (Enc.mono _ H.out (fun _ h => h) (fun b hb => h5.block b (HF.out b hb)))).mono ?_; rintro e w3 ⟨v3, rfl, ho3, hb3⟩; obtain ⟨a3, c3, rfl⟩ := ho3.isLen; rw [List.length_map] at ho3 ⊢; (first | (have hFr := hFr.below hb3) | (have hFr := Fr3.new hb3) | (have hFr := Fr3.newd hb3) | skip); (first | (obtain ⟨t0, t1, t2, tf0, tf1, tf2⟩ := id hFr) | skip); have hRR := hh.2.2.2.trans (hb3.mono hh.2.2.2.size); have hRR3 := hRR; clear hh h5)
      | (go_at_call 24; have hh := ‹_ ∧ _ ∧ _ ∧ Below W.heap.size W _›; have h5 := hB.trans (hh.2.2.2.mono hB.size); refine (gateCheck_any c n _ (fun b hb => Nat.lt_of_lt_of_le (HF.out b hb) h5.size) (Enc.mono _ H.out (fun _ h => h) (fun b hb => h5.block b (HF.out b hb)))).mono ?_; rintro e w4 ⟨rfl, hb4⟩; rw [HQ.out]; (first | (have hFr := hFr.below hb4) | (have hFr := Fr3.new hb4) | (have hFr := Fr3.newd hb4) | skip); (first | (obtain ⟨t0, t1, t2, tf0, tf1, tf2⟩ := id hFr) | skip); have hRR := hh.2.2.2.trans (hb4.mono hh.2.2.2.size); clear hh h5)))
  all_goals
    first
      | (have hst5 := ((hst.drew.pushOwn hb3 ho3).call hb4).alloc #[.slice a3 l.length c3, .int .i64 c, .int .i64 n] 42; generalize w4.alloc (.cells #[.slice a3 l.length c3, .int .i64 c, .int .i64 n] 42) = W5 at hst5 ⊢)
      | (have hst5 : St w _ (aCel _ _ #[.slice a3 l.length c3, .int .i64 c, .int .i64 n] :: _) := ((((((hst.drew.pushOwn hb3 ho3).alloc #[.slice none 0 0, .int .i64 0, .int .i64 0] 42).call hb4).setCel 0 (.slice a3 l.length c3)).setCel 1 (.int .i64 c)).setCel 2 (.int .i64 n)))
      | (have hst5 : St w _ (aCel _ _ #[.slice a3 l.length c3, .int .i64 c, .int .i64 n] :: _) := ((((((hst.alloc #[.slice none 0 0, .int .i64 0, .int .i64 0] 42).drew.pushOwn hb3 ho3).call hb4).get2.setCel 0 (.slice a3 l.length c3)).setCel 1 (.int .i64 c)).setCel 2 (.int .i64 n)))
    obtain ⟨u0, u1, u2, uf0, uf1, uf2⟩ := hst5.cel3
    obtain ⟨z0, z1, z2, zf0, zf1, zf2⟩ := hst5.get3.cel3
    go_wp2
    have hst6 := ((hst5.get3.setCel 0 (.slice a3 l.length c3)).setCel 1 (.int .i64 c)).setCel 2 (.int .i64 n)
    have k0 := hst6.celAt (i := 0) (v := .slice a3 l.length c3) rfl
    have k1 := hst6.celAt (i := 1) (v := .int .i64 c) rfl
    have k2 := hst6.celAt (i := 2) (v := .int .i64 n) rfl
    exact bodyPost_ret (v := .tuple #[.agg #[.slice a3 l.length c3, .int .i64 c, .int .i64 n], .int .i64 E]) (by simp [results, Try.results22, go_sem, k0, k1, k2]) rfl ⟨_, _, _, rfl, hst6.get3.own, hst6.bel⟩

set_option maxRecDepth 100000 in
set_option maxHeartbeats 8000000 in
theorem grant_arg {v : Value} {l : List (Int × Int)} (c n k : Int) (hk0 : -9223372036854775808 ≤ k) (hk1 : k ≤ 9223372036854775807) (w : World) {F : Nat → Prop} (hF : ∀ b, F b → b < w.heap.size) (h : (Enc.two.sl 16).R F w [v] l) (he : Gt.err l c n = 0) (hk : k < 1 ∨ 1073741824 < k) :
    Calls Try.prog 22 #[.agg #[v, .int .i64 c, .int .i64 n], .int .i64 k] w (RetG 1 l c n w) := by
  have H := Lib.hid h; have HF := Lib.hid hF
  obtain ⟨ao, b, off, cap, rfl, hl, hx, hy⟩ := slTwo h
  clear h hx hy hF
  have HQ := Lib.hid he
  have HKK : Hid (k < 1 ∨ (¬ k < 1 ∧ 1073741824 < k)) := Lib.hid (by omega)
  clear he hk
  have hst := ((St.init w).alloc #[.slice ao l.length cap, .int .i64 c, .int .i64 n] 42).alloc #[.slice none 0 0, .int .i64 0, .int .i64 0] 42
  simp only [World.size_alloc] at hst
  go_enter Try.func22, Try.ntmps22
  go_wp2
  generalize (w.alloc (.cells #[.slice ao l.length cap, .int .i64 c, .int .i64 n] 42)).alloc (.cells #[.slice none 0 0, .int .i64 0, .int .i64 0] 42) = W at hst ⊢
  have HK : Hid (∀ W', Below W.heap.size W W' → W'.cell? ⟨w.heap.size, 0, none⟩ = some (.slice ao l.length cap) ∧ W'.cell? ⟨w.heap.size, 1, none⟩ = some (.int .i64 c) ∧ W'.cell? ⟨w.heap.size, 2, none⟩ = some (.int .i64 n) ∧ Below W.heap.size W W') := Lib.hid (fun W' hW => by
    have h1 := (hst.call hW).get2
    exact ⟨h1.celAt rfl, h1.celAt rfl, h1.celAt rfl, hW⟩)
  have hRR := Below.refl W.heap.size W
  have hB := hst.bel
  go_region_held3 (fun w' => w'.cell? ⟨w.heap.size, 0, none⟩ = some (.slice ao l.length cap) ∧ w'.cell? ⟨w.heap.size, 1, none⟩ = some (.int .i64 c) ∧ w'.cell? ⟨w.heap.size, 2, none⟩ = some (.int .i64 n) ∧ Below W.heap.size W w') (first | exact HK.out _ hRR | exact HK.out _ hRR.drew | exact HK.out _ (hRR.alloc hRR.size _) | exact HK.out _ (hRR.drew.alloc hRR.size _) | exact HK.out _ (hRR.alloc hRR.size _).drew | exact HK.out _ (((hRR.setCell (p := ⟨_, 0, none⟩) (by first | exact Nat.le_refl _ | exact hRR3.size) _).setCell (p := ⟨_, 1, none⟩) (by first | exact Nat.le_refl _ | exact hRR3.size) _).setCell (p := ⟨_, 2, none⟩) (by first | exact Nat.le_refl _ | exact hRR3.size) _))
    ((first
      | (go_at_call 74; have hh := ‹_ ∧ _ ∧ _ ∧ Below W.heap.size W _›; have h5 := hB.trans (hh.2.2.2.mono hB.size); refine (same_any c n _ (fun b hb => Nat.lt_of_lt_of_le (HF.out b hb) h5.size) (Enc.mono _ H.out (fun _ h => h) (fun b hb => h5.block b (HF.out b hb)))).mono ?_; rintro e w3 ⟨v3, rfl, ho3, hb3⟩; obtain ⟨a3, c3, rfl⟩ := ho3.isLen; rw [List.length_map] at ho3 ⊢; (first | (have hFr := hFr.below hb3) | (have hFr := Fr3.new hb3) | (have hFr := Fr3.newd hb3) | skip); (first | (obtain ⟨t0, t1, t2, tf0, tf1, tf2⟩ := id hFr) | skip); have hRR := hh.2.2.2.trans (hb3.mono hh.2.2.2.size); have hRR3 := hRR; clear hh h5)
      | (go_at_call 24; have hh := ‹_ ∧ _ ∧ _ ∧ Below W.heap.size W _›; have h5 := hB.trans (hh.2.2.2.mono hB.size); refine (gateCheck_any c n _ (fun b hb => Nat.lt_of_lt_of_le (HF.out b hb) h5.size) (Enc.mono _ H.out (fun _ h => h) (fun b hb => h5.block b (HF.out b hb)))).mono ?_; rintro e w4 ⟨rfl, hb4⟩; rw [HQ.out]; (first | (have hFr := hFr.below hb4) | (have hFr := Fr3.new hb4) | (have hFr := Fr3.newd hb4) | skip); (first | (obtain ⟨t0, t1, t2, tf0, tf1, tf2⟩ := id hFr) | skip); have hRR := hh.2.2.2.trans (hb4.mono hh.2.2.2.size); clear hh h5)))
  all_goals
    first
      | (have hst5 := ((hst.drew.pushOwn hb3 ho3).call hb4).alloc #[.slice a3 l.length c3, .int .i64 c, .int .i64 n] 42; generalize w4.alloc (.cells #[.slice a3 l.length c3, .int .i64 c, .int .i64 n] 42) = W5 at hst5 ⊢)
      | (have hst5 : St w _ (aCel _ _ #[.slice a3 l.length c3, .int .i64 c, .int .i64 n] :: _) := ((((((hst.drew.pushOwn hb3 ho3).alloc #[.slice none 0 0, .int .i64 0, .int .i64 0] 42).call hb4).setCel 0 (.slice a3 l.length c3)).setCel 1 (.int .i64 c)).setCel 2 (.int .i64 n)))
      | (have hst5 : St w _ (aCel _ _ #[.slice a3 l.length c3, .int .i64 c, .int .i64 n] :: _) := ((((((hst.alloc #[.slice none 0 0, .int .i64 0, .int .i64 0] 42).drew.pushOwn hb3 ho3).call hb4).get2.setCel 0 (.slice a3 l.length c3)).setCel 1 (.int .i64 c)).setCel 2 (.int .i64 n)))
    obtain ⟨u0, u1, u2, uf0, uf1, uf2⟩ := hst5.cel3
    obtain ⟨z0, z1, z2, zf0, zf1, zf2⟩ := hst5.get3.cel3
    rcases HKK.out with h1 | ⟨h1, h2⟩
    all_goals
      go_wp2
      have hst6 := ((hst5.get3.setCel 0 (.slice a3 l.length c3)).setCel 1 (.int .i64 c)).setCel 2 (.int .i64 n)
      have k0 := hst6.celAt (i := 0) (v := .slice a3 l.length c3) rfl
      have k1 := hst6.celAt (i := 1) (v := .int .i64 c) rfl
      have k2 := hst6.celAt (i := 2) (v := .int .i64 n) rfl
      exact bodyPost_ret (v := .tuple #[.agg #[.slice a3 l.length c3, .int .i64 c, .int .i64 n], .int .i64 1]) (by simp [results, Try.results22, go_sem, k0, k1, k2]) rfl ⟨_, _, _, rfl, hst6.get3.own, hst6.bel⟩

set_option maxRecDepth 100000 in
set_option maxHeartbeats 8000000 in
theorem grant_ok {v : Value} {l : List (Int × Int)} (c n k : Int) (hk0 : -9223372036854775808 ≤ k) (hk1 : k ≤ 9223372036854775807) (w : World) {F : Nat → Prop} (hF : ∀ b, F b → b < w.heap.size) (h : (Enc.two.sl 16).R F w [v] l) (he : Gt.err l c n = 0) (hk : ¬ (k < 1 ∨ 1073741824 < k)) :
    Calls Try.prog 22 #[.agg #[v, .int .i64 c, .int .i64 n], .int .i64 k] w (RetG 0 l (Gt.sum c k) n w) := by
  have H := Lib.hid h; have HF := Lib.hid hF
  obtain ⟨ao, b, off, cap, rfl, hl, hx, hy⟩ := slTwo h
  clear h hx hy hF
  have HQ := Lib.hid he
  obtain ⟨q1, q2, q3, q4, q5, _⟩ := Gt.err_zero he
  generalize hM : Gt.sum c k = M
  have HM := Lib.hid hM
  clear he hM
  have hst := ((St.init w).alloc #[.slice ao l.length cap, .int .i64 c, .int .i64 n] 42).alloc #[.slice none 0 0, .int .i64 0, .int .i64 0] 42
  simp only [World.size_alloc] at hst
  go_enter Try.func22, Try.ntmps22
  go_wp2
  generalize (w.alloc (.cells #[.slice ao l.length cap, .int .i64 c, .int .i64 n] 42)).alloc (.cells #[.slice none 0 0, .int .i64 0, .int .i64 0] 42) = W at hst ⊢
  have HK : Hid (∀ W', Below W.heap.size W W' → W'.cell? ⟨w.heap.size, 0, none⟩ = some (.slice ao l.length cap) ∧ W'.cell? ⟨w.heap.size, 1, none⟩ = some (.int .i64 c) ∧ W'.cell? ⟨w.heap.size, 2, none⟩ = some (.int .i64 n) ∧ Below W.heap.size W W') := Lib.hid (fun W' hW => by
    have h1 := (hst.call hW).get2
    exact ⟨h1.celAt rfl, h1.celAt rfl, h1.celAt rfl, hW⟩)
  have hRR := Below.refl W.heap.size W
  have hB := hst.bel
  go_region_held3 (fun w' => w'.cell? ⟨w.heap.size, 0, none⟩ = some (.slice ao l.length cap) ∧ w'.cell? ⟨w.heap.size, 1, none⟩ = some (.int .i64 c) ∧ w'.cell? ⟨w.heap.size, 2, none⟩ = some (.int .i64 n) ∧ Below W.heap.size W w') (first | exact HK.out _ hRR | exact HK.out _ hRR.drew | exact HK.out _ (hRR.alloc hRR.size _) | exact HK.out _ (hRR.drew.alloc hRR.size _) | exact HK.out _ (hRR.alloc hRR.size _).drew | exact HK.out _ (((hRR.setCell (p := ⟨_, 0, none⟩) (by first | exact Nat.le_refl _ | exact hRR3.size) _).setCell (p := ⟨_, 1, none⟩) (by first | exact Nat.le_refl _ | exact hRR3.size) _).setCell (p := ⟨_, 2, none⟩) (by first | exact Nat.le_refl _ | exact hRR3.size) _))
    ((first
      | (go_at_call 74; have hh := ‹_ ∧ _ ∧ _ ∧ Below W.heap.size W _›; have h5 := hB.trans (hh.2.2.2.mono hB.size); refine (same_any c n _ (fun b hb => Nat.lt_of_lt_of_le (HF.out b hb) h5.size) (Enc.mono _ H.out (fun _ h => h) (fun b hb => h5.block b (HF.out b hb)))).mono ?_; rintro e w3 ⟨v3, rfl, ho3, hb3⟩; obtain ⟨a3, c3, rfl⟩ := ho3.isLen; rw [List.length_map] at ho3 ⊢; (first | (have hFr := hFr.below hb3) | (have hFr := Fr3.new hb3) | (have hFr := Fr3.newd hb3) | skip); (first | (obtain ⟨t0, t1, t2, tf0, tf1, tf2⟩ := id hFr) | skip); have hRR := hh.2.2.2.trans (hb3.mono hh.2.2.2.size); have hRR3 := hRR; clear hh h5)
      | (go_at_call 24; have hh := ‹_ ∧ _ ∧ _ ∧ Below W.heap.size W _›; have h5 := hB.trans (hh.2.2.2.mono hB.size); refine (gateCheck_any c n _ (fun b hb => Nat.lt_of_lt_of_le (HF.out b hb) h5.size) (Enc.mono _ H.out (fun _ h => h) (fun b hb => h5.block b (HF.out b hb)))).mono ?_; rintro e w4 ⟨rfl, hb4⟩; rw [HQ.out]; (first | (have hFr := hFr.below hb4) | (have hFr := Fr3.new hb4) | (have hFr := Fr3.newd hb4) | skip); (first | (obtain ⟨t0, t1, t2, tf0, tf1, tf2⟩ := id hFr) | skip); have hRR := hh.2.2.2.trans (hb4.mono hh.2.2.2.size); clear hh h5)))
  all_goals
    first
      | (have hst5 := ((hst.drew.pushOwn hb3 ho3).call hb4).alloc #[.slice a3 l.length c3, .int .i64 c, .int .i64 n] 42; generalize w4.alloc (.cells #[.slice a3 l.length c3, .int .i64 c, .int .i64 n] 42) = W5 at hst5 ⊢)
      | (have hst5 : St w _ (aCel _ _ #[.slice a3 l.length c3, .int .i64 c, .int .i64 n] :: _) := ((((((hst.drew.pushOwn hb3 ho3).alloc #[.slice none 0 0, .int .i64 0, .int .i64 0] 42).call hb4).setCel 0 (.slice a3 l.length c3)).setCel 1 (.int .i64 c)).setCel 2 (.int .i64 n)))
      | (have hst5 : St w _ (aCel _ _ #[.slice a3 l.length c3, .int .i64 c, .int .i64 n] :: _) := ((((((hst.alloc #[.slice none 0 0, .int .i64 0, .int .i64 0] 42).drew.pushOwn hb3 ho3).call hb4).get2.setCel 0 (.slice a3 l.length c3)).setCel 1 (.int .i64 c)).setCel 2 (.int .i64 n)))
    obtain ⟨u0, u1, u2, uf0, uf1, uf2⟩ := hst5.cel3
    obtain ⟨z0, z1, z2, zf0, zf1, zf2⟩ := hst5.get3.cel3
    have h1 : ¬ k < 1 := by omega
    have h2 : ¬ 1073741824 < k := by omega
    have hmin : ∀ (W : World) ts t, (Builtin.min_ ts t #[.int .i64 (c + k), .int .i64 1073741824]).run Try.prog W = .ok (.int .i64 M) W := fun W ts t => by rw [run_min_int2, ← HM.out, Gt.sum]
    have hst7 := hst5.setCel 1 (.int .i64 M)
    obtain ⟨z0, z1, z2, zf0, zf1, zf2⟩ := hst7.get3.cel3
    clear hk
    go_wp2
    have hst6 := ((hst7.get3.setCel 0 (.slice a3 l.length c3)).setCel 1 (.int .i64 M)).setCel 2 (.int .i64 n)
    have k0 := hst6.celAt (i := 0) (v := .slice a3 l.length c3) rfl
    have k1 := hst6.celAt (i := 1) (v := .int .i64 M) rfl
    have k2 := hst6.celAt (i := 2) (v := .int .i64 n) rfl
    exact bodyPost_ret (v := .tuple #[.agg #[.slice a3 l.length c3, .int .i64 M, .int .i64 n], .int .i64 0]) (by simp [results, Try.results22, go_sem, k0, k1, k2]) rfl ⟨_, _, _, rfl, hst6.get3.own, hst6.bel⟩
end Go.Proofs.Ytkgpipokfoadiaa
