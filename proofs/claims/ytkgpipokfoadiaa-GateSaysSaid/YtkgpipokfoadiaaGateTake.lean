/-
  Take of package gate.
-/
import Derived.Test.YtkgpipokfoadiaaGateGrant
import Derived.Test.YtkgpipokfoadiaaSliced
namespace Go.Proofs.Ytkgpipokfoadiaa
set_option linter.unusedVariables false
open Go.ChangeShapes Go.WideShapes Go.ChangeAt Go.RowKit

namespace Gt
def cut (m c : Int) (n : Nat) : Int := if (n : Int) < (if c < m then c else m) then (n : Int) else (if c < m then c else m)
theorem cut_in {m c : Int} {n : Nat} (hm : 0 ≤ m) (hc : 0 ≤ c) : 0 ≤ cut m c n ∧ cut m c n ≤ m ∧ cut m c n ≤ c ∧ cut m c n ≤ n := by
  unfold cut; split <;> split at * <;> omega
end Gt
attribute [irreducible] Gt.cut

theorem Own.capLen {w : World} {B : Nat} {e : TypeId} {size : Nat} {ao : Option Addr} {n cap : Nat} {xs : List Value} (h : Own w B e size (.slice ao n cap) xs) : xs.length ≤ cap := by
  rcases h.2 with ⟨h1, h2⟩ | ⟨g, cap', cur, h1, _, _, hn, _⟩
  · simp only [Value.slice.injEq] at h1; omega
  · simp only [Value.slice.injEq] at h1; omega

def RetT (E : Int) (l g : List (Int × Int)) (c n : Int) (w : World) (e : Ending) (w' : World) : Prop := ∃ ao m cp v2, e = .returned (.tuple #[.agg #[.slice ao m cp, .int .i64 c, .int .i64 n], v2, .int .i64 E]) ∧ St w w' [aOwn 39 2 (.slice ao m cp) (l.map pairV), aOwn 39 2 v2 (g.map pairV)]

set_option maxRecDepth 100000 in
set_option maxHeartbeats 16000000 in
theorem take_bad {v : Value} {l : List (Int × Int)} (c n k : Int) (hk0 : -9223372036854775808 ≤ k) (hk1 : k ≤ 9223372036854775807) (w : World) {F : Nat → Prop} (hF : ∀ b, F b → b < w.heap.size) (h : (Enc.two.sl 16).R F w [v] l) (he : Gt.err l c n ≠ 0) :
    Calls Try.prog 23 #[.agg #[v, .int .i64 c, .int .i64 n], .int .i64 k] w (RetT (Gt.err l c n) l [] c n w) := by
  have H := Lib.hid h; have HF := Lib.hid hF
  obtain ⟨ao, b, off, cap, rfl, hl, hx, hy⟩ := slTwo h
  have HWF : Hid (∀ p ∈ l, (-9223372036854775808 ≤ p.1 ∧ p.1 ≤ 9223372036854775807) ∧ (-9223372036854775808 ≤ p.2 ∧ p.2 ≤ 9223372036854775807)) := Lib.hid (fun p hp => by
    obtain ⟨i, hi, rfl⟩ := List.getElem_of_mem hp
    have := hy i hi
    have e : l.getD i (0, 0) = l[i] := by simp [List.getD, List.getElem?_eq_getElem hi]
    rw [e] at this
    exact this.2.2)
  clear h hx hy hF
  generalize hq : Gt.err l c n = E at *
  have HQ := Lib.hid hq
  have hnz : (E == 0) = false := by rw [beq_eq_false_iff_ne]; exact he
  have hnz2 : (E != 0) = true := by rw [bne_iff_ne]; exact he
  clear he hq
  have hst := ((St.init w).alloc #[.slice ao l.length cap, .int .i64 c, .int .i64 n] 42).alloc #[.slice none 0 0, .int .i64 0, .int .i64 0] 42
  simp only [World.size_alloc] at hst
  go_enter Try.func23, Try.ntmps23
  go_wp2
  generalize (w.alloc (.cells #[.slice ao l.length cap, .int .i64 c, .int .i64 n] 42)).alloc (.cells #[.slice none 0 0, .int .i64 0, .int .i64 0] 42) = W at hst ⊢
  have HK : Hid (∀ W', Below W.heap.size W W' → W'.cell? ⟨w.heap.size, 0, none⟩ = some (.slice ao l.length cap) ∧ W'.cell? ⟨w.heap.size, 1, none⟩ = some (.int .i64 c) ∧ W'.cell? ⟨w.heap.size, 2, none⟩ = some (.int .i64 n) ∧ Below W.heap.size W W') := Lib.hid (fun W' hW => by
    have h1 := (hst.call hW).get2
    exact ⟨h1.celAt rfl, h1.celAt rfl, h1.celAt rfl, hW⟩)
  have hRR := Below.refl W.heap.size W
  have hB := hst.bel
  go_region_held3 (fun w' => w'.cell? ⟨w.heap.size, 0, none⟩ = some (.slice ao l.length cap) ∧ w'.cell? ⟨w.heap.size, 1, none⟩ = some (.int .i64 c) ∧ w'.cell? ⟨w.heap.size, 2, none⟩ = some (.int .i64 n) ∧ Below W.heap.size W w') (first | exact HK.out _ hRR | exact HK.out _ hRR.drew | exact HK.out _ (hRR.alloc hRR.size _) | exact HK.out _ (hRR.drew.alloc hRR.size _) | exact HK.out _ (hRR.alloc hRR.size _).drew | exact HK.out _ (((hRR.setCell (p := ⟨_, 0, none⟩) (by first | exact Nat.le_refl _ | exact hRR3.size) _).setCell (p := ⟨_, 1, none⟩) (by first | exact Nat.le_refl _ | exact hRR3.size) _).setCell (p := ⟨_, 2, none⟩) (by first | exact Nat.le_refl _ | exact hRR3.size) _))
    ((first
      | (go_at_call 74; have hh := ‹_ ∧ _ ∧ _ ∧ Below W.heap.size W _›; have h5 := hB.trans (hh.2.2.2.mono hB.size); refine (same_any c n _ (fun b hb => Nat.lt_of_lt_of_le (HF.out b hb) h5.size) (Enc.mono _ H.out (fun _ h => h) (fun b hb => h5.block b (HF.out b hb)))).mono ?_; rintro e w3 ⟨v3, rfl, ho3, hb3⟩; obtain ⟨a3, c3, rfl⟩ := ho3.isLen; rw [List.length_map] at ho3 ⊢; (first | (have hFr := hFr.below hb3) | (have hFr := Fr3.new hb3) | (have hFr := Fr3.newd hb3) | skip); (first | (obtain ⟨t0, t1, t2, tf0, tf1, tf2⟩ := id hFr) | skip); have hRR := hh.2.2.2.trans (hb3.mono hh.2.2.2.size); have hRR3 := hRR; clear hh h5)
      | (go_at_call 24; have hh := ‹_ ∧ _ ∧ _ ∧ Below W.heap.size W _›; have h5 := hB.trans (hh.2.2.2.mono hB.size); refine (gateCheck_any c n _ (fun b hb => Nat.lt_of_lt_of_le (HF.out b hb) h5.size) (Enc.mono _ H.out (fun _ h => h) (fun b hb => h5.block b (HF.out b hb)))).mono ?_; rintro e w4 ⟨rfl, hb4⟩; rw [HQ.out]; (first | (have hFr := hFr.below hb4) | (have hFr := Fr3.new hb4) | (have hFr := Fr3.newd hb4) | skip); (first | (obtain ⟨t0, t1, t2, tf0, tf1, tf2⟩ := id hFr) | skip); have hRR := hh.2.2.2.trans (hb4.mono hh.2.2.2.size); clear hh h5)))
  all_goals
    first
      | (have hst5 := ((hst.drew.pushOwn hb3 ho3).call hb4).alloc #[.slice a3 l.length c3, .int .i64 c, .int .i64 n] 42; generalize w4.alloc (.cells #[.slice a3 l.length c3, .int .i64 c, .int .i64 n] 42) = W5 at hst5 ⊢)
      | (have hst5 : St w _ (aCel _ _ #[.slice a3 l.length c3, .int .i64 c, .int .i64 n] :: _) := ((((((hst.drew.pushOwn hb3 ho3).alloc #[.slice none 0 0, .int .i64 0, .int .i64 0] 42).call hb4).setCel 0 (.slice a3 l.length c3)).setCel 1 (.int .i64 c)).setCel 2 (.int .i64 n)); generalize ((w4.setCell ⟨w3.heap.size, 0, none⟩ (.slice a3 l.length c3)).setCell ⟨w3.heap.size, 1, none⟩ (.int .i64 c)).setCell ⟨w3.heap.size, 2, none⟩ (.int .i64 n) = W5 at hst5 ⊢)
      | (have hst5 : St w _ (aCel _ _ #[.slice a3 l.length c3, .int .i64 c, .int .i64 n] :: _) := ((((((hst.alloc #[.slice none 0 0, .int .i64 0, .int .i64 0] 42).drew.pushOwn hb3 ho3).call hb4).get2.setCel 0 (.slice a3 l.length c3)).setCel 1 (.int .i64 c)).setCel 2 (.int .i64 n)); generalize ((w4.setCell ⟨W.heap.size, 0, none⟩ (.slice a3 l.length c3)).setCell ⟨W.heap.size, 1, none⟩ (.int .i64 c)).setCell ⟨W.heap.size, 2, none⟩ (.int .i64 n) = W5 at hst5 ⊢)
    obtain ⟨u0, u1, u2, uf0, uf1, uf2⟩ := hst5.cel3
    obtain ⟨z0, z1, z2, zf0, zf1, zf2⟩ := hst5.get3.cel3
    go_wp2
    have hst6 := ((hst5.get3.setCel 0 (.slice a3 l.length c3)).setCel 1 (.int .i64 c)).setCel 2 (.int .i64 n)
    have k0 := hst6.celAt (i := 0) (v := .slice a3 l.length c3) rfl
    have k1 := hst6.celAt (i := 1) (v := .int .i64 c) rfl
    have k2 := hst6.celAt (i := 2) (v := .int .i64 n) rfl
    exact bodyPost_ret (v := .tuple #[.agg #[.slice a3 l.length c3, .int .i64 c, .int .i64 n], .slice none 0 0, .int .i64 E]) (by simp [results, Try.results23, go_sem, k0, k1, k2]) rfl ⟨_, _, _, _, rfl, ((hst6.get3.nilOwn _ _).get2).two⟩

set_option maxRecDepth 100000 in
set_option maxHeartbeats 16000000 in
theorem take_arg {v : Value} {l : List (Int × Int)} (c n k : Int) (hk0 : -9223372036854775808 ≤ k) (hk1 : k ≤ 9223372036854775807) (w : World) {F : Nat → Prop} (hF : ∀ b, F b → b < w.heap.size) (h : (Enc.two.sl 16).R F w [v] l) (he : Gt.err l c n = 0) (hk : k < 0) :
    Calls Try.prog 23 #[.agg #[v, .int .i64 c, .int .i64 n], .int .i64 k] w (RetT 1 l [] c n w) := by
  have H := Lib.hid h; have HF := Lib.hid hF
  obtain ⟨ao, b, off, cap, rfl, hl, hx, hy⟩ := slTwo h
  have HWF : Hid (∀ p ∈ l, (-9223372036854775808 ≤ p.1 ∧ p.1 ≤ 9223372036854775807) ∧ (-9223372036854775808 ≤ p.2 ∧ p.2 ≤ 9223372036854775807)) := Lib.hid (fun p hp => by
    obtain ⟨i, hi, rfl⟩ := List.getElem_of_mem hp
    have := hy i hi
    have e : l.getD i (0, 0) = l[i] := by simp [List.getD, List.getElem?_eq_getElem hi]
    rw [e] at this
    exact this.2.2)
  clear h hx hy hF
  have HQ := Lib.hid he
  clear he
  have hst := ((St.init w).alloc #[.slice ao l.length cap, .int .i64 c, .int .i64 n] 42).alloc #[.slice none 0 0, .int .i64 0, .int .i64 0] 42
  simp only [World.size_alloc] at hst
  go_enter Try.func23, Try.ntmps23
  go_wp2
  generalize (w.alloc (.cells #[.slice ao l.length cap, .int .i64 c, .int .i64 n] 42)).alloc (.cells #[.slice none 0 0, .int .i64 0, .int .i64 0] 42) = W at hst ⊢
  have HK : Hid (∀ W', Below W.heap.size W W' → W'.cell? ⟨w.heap.size, 0, none⟩ = some (.slice ao l.length cap) ∧ W'.cell? ⟨w.heap.size, 1, none⟩ = some (.int .i64 c) ∧ W'.cell? ⟨w.heap.size, 2, none⟩ = some (.int .i64 n) ∧ Below W.heap.size W W') := Lib.hid (fun W' hW => by
    have h1 := (hst.call hW).get2
    exact ⟨h1.celAt rfl, h1.celAt rfl, h1.celAt rfl, hW⟩)
  have hRR := Below.refl W.heap.size W
  have hB := hst.bel
  go_region_held3 (fun w' => w'.cell? ⟨w.heap.size, 0, none⟩ = some (.slice ao l.length cap) ∧ w'.cell? ⟨w.heap.size, 1, none⟩ = some (.int .i64 c) ∧ w'.cell? ⟨w.heap.size, 2, none⟩ = some (.int .i64 n) ∧ Below W.heap.size W w') (first | exact HK.out _ hRR | exact HK.out _ hRR.drew | exact HK.out _ (hRR.alloc hRR.size _) | exact HK.out _ (hRR.drew.alloc hRR.size _) | exact HK.out _ (hRR.alloc hRR.size _).drew | exact HK.out _ (((hRR.setCell (p := ⟨_, 0, none⟩) (by first | exact Nat.le_refl _ | exact hRR3.size) _).setCell (p := ⟨_, 1, none⟩) (by first | exact Nat.le_refl _ | exact hRR3.size) _).setCell (p := ⟨_, 2, none⟩) (by first | exact Nat.le_refl _ | exact hRR3.size) _))
    ((first
      | (go_at_call 74; have hh := ‹_ ∧ _ ∧ _ ∧ Below W.heap.size W _›; have h5 := hB.trans (hh.2.2.2.mono hB.size); refine (same_any c n _ (fun b hb => Nat.lt_of_lt_of_le (HF.out b hb) h5.size) (Enc.mono _ H.out (fun _ h => h) (fun b hb => h5.block b (HF.out b hb)))).mono ?_; rintro e w3 ⟨v3, rfl, ho3, hb3⟩; obtain ⟨a3, c3, rfl⟩ := ho3.isLen; rw [List.length_map] at ho3 ⊢; (first | (have hFr := hFr.below hb3) | (have hFr := Fr3.new hb3) | (have hFr := Fr3.newd hb3) | skip); (first | (obtain ⟨t0, t1, t2, tf0, tf1, tf2⟩ := id hFr) | skip); have hRR := hh.2.2.2.trans (hb3.mono hh.2.2.2.size); have hRR3 := hRR; clear hh h5)
      | (go_at_call 24; have hh := ‹_ ∧ _ ∧ _ ∧ Below W.heap.size W _›; have h5 := hB.trans (hh.2.2.2.mono hB.size); refine (gateCheck_any c n _ (fun b hb => Nat.lt_of_lt_of_le (HF.out b hb) h5.size) (Enc.mono _ H.out (fun _ h => h) (fun b hb => h5.block b (HF.out b hb)))).mono ?_; rintro e w4 ⟨rfl, hb4⟩; rw [HQ.out]; (first | (have hFr := hFr.below hb4) | (have hFr := Fr3.new hb4) | (have hFr := Fr3.newd hb4) | skip); (first | (obtain ⟨t0, t1, t2, tf0, tf1, tf2⟩ := id hFr) | skip); have hRR := hh.2.2.2.trans (hb4.mono hh.2.2.2.size); clear hh h5)))
  all_goals
    first
      | (have hst5 := ((hst.drew.pushOwn hb3 ho3).call hb4).alloc #[.slice a3 l.length c3, .int .i64 c, .int .i64 n] 42; generalize w4.alloc (.cells #[.slice a3 l.length c3, .int .i64 c, .int .i64 n] 42) = W5 at hst5 ⊢)
      | (have hst5 : St w _ (aCel _ _ #[.slice a3 l.length c3, .int .i64 c, .int .i64 n] :: _) := ((((((hst.drew.pushOwn hb3 ho3).alloc #[.slice none 0 0, .int .i64 0, .int .i64 0] 42).call hb4).setCel 0 (.slice a3 l.length c3)).setCel 1 (.int .i64 c)).setCel 2 (.int .i64 n)); generalize ((w4.setCell ⟨w3.heap.size, 0, none⟩ (.slice a3 l.length c3)).setCell ⟨w3.heap.size, 1, none⟩ (.int .i64 c)).setCell ⟨w3.heap.size, 2, none⟩ (.int .i64 n) = W5 at hst5 ⊢)
      | (have hst5 : St w _ (aCel _ _ #[.slice a3 l.length c3, .int .i64 c, .int .i64 n] :: _) := ((((((hst.alloc #[.slice none 0 0, .int .i64 0, .int .i64 0] 42).drew.pushOwn hb3 ho3).call hb4).get2.setCel 0 (.slice a3 l.length c3)).setCel 1 (.int .i64 c)).setCel 2 (.int .i64 n)); generalize ((w4.setCell ⟨W.heap.size, 0, none⟩ (.slice a3 l.length c3)).setCell ⟨W.heap.size, 1, none⟩ (.int .i64 c)).setCell ⟨W.heap.size, 2, none⟩ (.int .i64 n) = W5 at hst5 ⊢)
    obtain ⟨u0, u1, u2, uf0, uf1, uf2⟩ := hst5.cel3
    obtain ⟨z0, z1, z2, zf0, zf1, zf2⟩ := hst5.get3.cel3
    go_wp2
    have hst6 := ((hst5.get3.setCel 0 (.slice a3 l.length c3)).setCel 1 (.int .i64 c)).setCel 2 (.int .i64 n)
    have k0 := hst6.celAt (i := 0) (v := .slice a3 l.length c3) rfl
    have k1 := hst6.celAt (i := 1) (v := .int .i64 c) rfl
    have k2 := hst6.celAt (i := 2) (v := .int .i64 n) rfl
    exact bodyPost_ret (v := .tuple #[.agg #[.slice a3 l.length c3, .int .i64 c, .int .i64 n], .slice none 0 0, .int .i64 1]) (by simp [results, Try.results23, go_sem, k0, k1, k2]) rfl ⟨_, _, _, _, rfl, ((hst6.get3.nilOwn _ _).get2).two⟩

set_option maxRecDepth 100000 in
set_option maxHeartbeats 16000000 in
theorem take_ok {v : Value} {l : List (Int × Int)} (c n k : Int) (hk0 : -9223372036854775808 ≤ k) (hk1 : k ≤ 9223372036854775807) (w : World) {F : Nat → Prop} (hF : ∀ b, F b → b < w.heap.size) (h : (Enc.two.sl 16).R F w [v] l) (he : Gt.err l c n = 0) (hk : 0 ≤ k) :
    Calls Try.prog 23 #[.agg #[v, .int .i64 c, .int .i64 n], .int .i64 k] w (RetT 0 (l.drop (Gt.cut k c l.length).toNat) (l.take (Gt.cut k c l.length).toNat) (c - Gt.cut k c l.length) (n + Gt.cut k c l.length) w) := by
  have H := Lib.hid h; have HF := Lib.hid hF
  obtain ⟨ao, b, off, cap, rfl, hl, hx, hy⟩ := slTwo h
  have HWF : Hid (∀ p ∈ l, (-9223372036854775808 ≤ p.1 ∧ p.1 ≤ 9223372036854775807) ∧ (-9223372036854775808 ≤ p.2 ∧ p.2 ≤ 9223372036854775807)) := Lib.hid (fun p hp => by
    obtain ⟨i, hi, rfl⟩ := List.getElem_of_mem hp
    have := hy i hi
    have e : l.getD i (0, 0) = l[i] := by simp [List.getD, List.getElem?_eq_getElem hi]
    rw [e] at this
    exact this.2.2)
  clear h hx hy hF
  have HQ := Lib.hid he
  obtain ⟨q1, q2, q3, q4, q5, _⟩ := Gt.err_zero he
  have hN := Gt.cut_in (m := k) (c := c) (n := l.length) hk q2
  have hmin := fun (W : World) ts t => run_min_int3 (P := Try.prog) (w := W) ts t .i64 .i64 .i64 k c (l.length : Int)
  have hcd : (if (l.length : Int) < (if c < k then c else k) then (l.length : Int) else (if c < k then c else k)) = Gt.cut k c l.length := by unfold Gt.cut; rfl
  rw [hcd] at hmin
  clear hcd
  generalize Gt.cut k c l.length = M at *
  obtain ⟨hN0, hN1, hN2, hN3⟩ := hN
  obtain ⟨N, rfl⟩ := Int.eq_ofNat_of_zero_le hN0
  simp only [Int.toNat_natCast]
  clear he
  have hst := ((St.init w).alloc #[.slice ao l.length cap, .int .i64 c, .int .i64 n] 42).alloc #[.slice none 0 0, .int .i64 0, .int .i64 0] 42
  simp only [World.size_alloc] at hst
  go_enter Try.func23, Try.ntmps23
  go_wp2
  generalize (w.alloc (.cells #[.slice ao l.length cap, .int .i64 c, .int .i64 n] 42)).alloc (.cells #[.slice none 0 0, .int .i64 0, .int .i64 0] 42) = W at hst ⊢
  have HK : Hid (∀ W', Below W.heap.size W W' → W'.cell? ⟨w.heap.size, 0, none⟩ = some (.slice ao l.length cap) ∧ W'.cell? ⟨w.heap.size, 1, none⟩ = some (.int .i64 c) ∧ W'.cell? ⟨w.heap.size, 2, none⟩ = some (.int .i64 n) ∧ Below W.heap.size W W') := Lib.hid (fun W' hW => by
    have h1 := (hst.call hW).get2
    exact ⟨h1.celAt rfl, h1.celAt rfl, h1.celAt rfl, hW⟩)
  have hRR := Below.refl W.heap.size W
  have hB := hst.bel
  go_region_held3 (fun w' => w'.cell? ⟨w.heap.size, 0, none⟩ = some (.slice ao l.length cap) ∧ w'.cell? ⟨w.heap.size, 1, none⟩ = some (.int .i64 c) ∧ w'.cell? ⟨w.heap.size, 2, none⟩ = some (.int .i64 n) ∧ Below W.heap.size W w') (first | exact HK.out _ hRR | exact HK.out _ hRR.drew | exact HK.out _ (hRR.alloc hRR.size _) | exact HK.out _ (hRR.drew.alloc hRR.size _) | exact HK.out _ (hRR.alloc hRR.size _).drew | exact HK.out _ (((hRR.setCell (p := ⟨_, 0, none⟩) (by first | exact Nat.le_refl _ | exact hRR3.size) _).setCell (p := ⟨_, 1, none⟩) (by first | exact Nat.le_refl _ | exact hRR3.size) _).setCell (p := ⟨_, 2, none⟩) (by first | exact Nat.le_refl _ | exact hRR3.size) _))
    ((first
      | (go_at_call 74; have hh := ‹_ ∧ _ ∧ _ ∧ Below W.heap.size W _›; have h5 := hB.trans (hh.2.2.2.mono hB.size); refine (same_any c n _ (fun b hb => Nat.lt_of_lt_of_le (HF.out b hb) h5.size) (Enc.mono _ H.out (fun _ h => h) (fun b hb => h5.block b (HF.out b hb)))).mono ?_; rintro e w3 ⟨v3, rfl, ho3, hb3⟩; obtain ⟨a3, c3, rfl⟩ := ho3.isLen; rw [List.length_map] at ho3 ⊢; (first | (have hFr := hFr.below hb3) | (have hFr := Fr3.new hb3) | (have hFr := Fr3.newd hb3) | skip); (first | (obtain ⟨t0, t1, t2, tf0, tf1, tf2⟩ := id hFr) | skip); have hRR := hh.2.2.2.trans (hb3.mono hh.2.2.2.size); have hRR3 := hRR; clear hh h5)
      | (go_at_call 24; have hh := ‹_ ∧ _ ∧ _ ∧ Below W.heap.size W _›; have h5 := hB.trans (hh.2.2.2.mono hB.size); refine (gateCheck_any c n _ (fun b hb => Nat.lt_of_lt_of_le (HF.out b hb) h5.size) (Enc.mono _ H.out (fun _ h => h) (fun b hb => h5.block b (HF.out b hb)))).mono ?_; rintro e w4 ⟨rfl, hb4⟩; rw [HQ.out]; (first | (have hFr := hFr.below hb4) | (have hFr := Fr3.new hb4) | (have hFr := Fr3.newd hb4) | skip); (first | (obtain ⟨t0, t1, t2, tf0, tf1, tf2⟩ := id hFr) | skip); have hRR := hh.2.2.2.trans (hb4.mono hh.2.2.2.size); clear hh h5)))
  all_goals
    first
      | (have hst5 := ((hst.drew.pushOwn hb3 ho3).call hb4).alloc #[.slice a3 l.length c3, .int .i64 c, .int .i64 n] 42; generalize w4.alloc (.cells #[.slice a3 l.length c3, .int .i64 c, .int .i64 n] 42) = W5 at hst5 ⊢)
      | (have hst5 : St w _ (aCel _ _ #[.slice a3 l.length c3, .int .i64 c, .int .i64 n] :: _) := ((((((hst.drew.pushOwn hb3 ho3).alloc #[.slice none 0 0, .int .i64 0, .int .i64 0] 42).call hb4).setCel 0 (.slice a3 l.length c3)).setCel 1 (.int .i64 c)).setCel 2 (.int .i64 n)); generalize ((w4.setCell ⟨w3.heap.size, 0, none⟩ (.slice a3 l.length c3)).setCell ⟨w3.heap.size, 1, none⟩ (.int .i64 c)).setCell ⟨w3.heap.size, 2, none⟩ (.int .i64 n) = W5 at hst5 ⊢)
      | (have hst5 : St w _ (aCel _ _ #[.slice a3 l.length c3, .int .i64 c, .int .i64 n] :: _) := ((((((hst.alloc #[.slice none 0 0, .int .i64 0, .int .i64 0] 42).drew.pushOwn hb3 ho3).call hb4).get2.setCel 0 (.slice a3 l.length c3)).setCel 1 (.int .i64 c)).setCel 2 (.int .i64 n)); generalize ((w4.setCell ⟨W.heap.size, 0, none⟩ (.slice a3 l.length c3)).setCell ⟨W.heap.size, 1, none⟩ (.int .i64 c)).setCell ⟨W.heap.size, 2, none⟩ (.int .i64 n) = W5 at hst5 ⊢)
    obtain ⟨u0, u1, u2, uf0, uf1, uf2⟩ := hst5.cel3
    obtain ⟨z0, z1, z2, zf0, zf1, zf2⟩ := hst5.get3.cel3
    have henc := (hst5.get2.own.two (F := fun b => b < W5.heap.size) (fun b hb => (hst5.get2.fpOwn b hb).2) (by omega) HWF.out)
    have he1 : (Enc.two.sl 16).R (fun b => b < W5.heap.size) W5 [Go.sliced a3 0 N c3 2] ((l.take N).drop 0) := Enc.sliced henc 0 N (by omega) (by omega)
    have he2 : (Enc.two.sl 16).R (fun b => b < W5.heap.size) W5 [Go.sliced a3 N l.length c3 2] ((l.take l.length).drop N) := Enc.sliced henc N l.length (by omega) (Nat.le_refl _)
    rw [List.drop_zero] at he1
    rw [List.take_of_length_le (Nat.le_refl l.length)] at he2
    have hs1 : ∀ W, (Instr.slice 32 (.slice a3 l.length c3) none (some (.int .i64 (N : Int))) none).run Try.prog W = .ok (Go.sliced a3 0 N c3 2) W := fun W => by
      have hsz : (sizeOf (Try.prog.elem 32)).run Try.prog W = .ok 2 W := by kernel_rfl
      rw [run_slice_h W 32 a3 l.length c3 (by kernel_rfl) .i64 N (by omega) (by have := hst5.get2.own.capLen; simp at this; omega), hsz]; rfl
    have hs2 : ∀ W, (Instr.slice 32 (.slice a3 l.length c3) (some (.int .i64 (N : Int))) none none).run Try.prog W = .ok (Go.sliced a3 N l.length c3 2) W := fun W => by
      have hsz : (sizeOf (Try.prog.elem 32)).run Try.prog W = .ok 2 W := by kernel_rfl
      rw [run_slice_l W 32 a3 l.length c3 (by kernel_rfl) .i64 N (by omega) (by omega), hsz]; rfl
    generalize hv1 : Go.sliced a3 0 N c3 2 = V1 at hs1 he1
    generalize hv2 : Go.sliced a3 N l.length c3 2 = V2 at hs2 he2
    clear henc hv1 hv2
    go_wp2_with (first
      | (go_at_call 75; refine (cloneEvt_any (v := V1) _ (fun b hb => hb) he1).mono ?_; rintro e w6 ⟨x1, rfl, ho6, hb6⟩; have he3 := Enc.mono _ he2 (fun _ h => h) (fun b hb => hb6.block b hb); have hst6 := hst5.pushOwn hb6 ho6; obtain ⟨u0, u1, u2, uf0, uf1, uf2⟩ := hst6.get2.cel3; have hle := hb6.size; clear hst5 ho6 hb6 he1 he2)
      | (go_at_call 75; refine (cloneEvt_any (v := V2) _ (fun b hb => Nat.lt_of_lt_of_le hb hle) he3).mono ?_; rintro e w7 ⟨x2, rfl, ho7, hb7⟩; obtain ⟨a7, c7, rfl⟩ := ho7.isLen; rw [List.length_map, List.length_drop] at ho7 ⊢; have hst7 := hst6.pushOwn hb7 ho7; obtain ⟨u0, u1, u2, uf0, uf1, uf2⟩ := hst7.get3.cel3; have hst8 := ((hst7.get3.setCel 0 (.slice a7 (l.length - N) c7)).setCel 1 (.int .i64 (c - N))).setCel 2 (.int .i64 (n + N)); obtain ⟨z0, z1, z2, zf0, zf1, zf2⟩ := hst8.get5.cel3; clear hst6 ho7 hb7 he3))
    have hst9 := ((hst8.get5.setCel 0 (.slice a7 (l.length - N) c7)).setCel 1 (.int .i64 (c - N))).setCel 2 (.int .i64 (n + N))
    have k0 := hst9.celAt (i := 0) (v := .slice a7 (l.length - N) c7) rfl
    have k1 := hst9.celAt (i := 1) (v := .int .i64 (c - N)) rfl
    have k2 := hst9.celAt (i := 2) (v := .int .i64 (n + N)) rfl
    exact bodyPost_ret (v := .tuple #[.agg #[.slice a7 (l.length - N) c7, .int .i64 (c - N), .int .i64 (n + N)], x1, .int .i64 0]) (by simp [results, Try.results23, go_sem, k0, k1, k2]) rfl ⟨_, _, _, _, rfl, (hst9.get3.get4.get2).two⟩
end Go.Proofs.Ytkgpipokfoadiaa
