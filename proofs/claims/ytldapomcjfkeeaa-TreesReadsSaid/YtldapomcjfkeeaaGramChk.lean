/-
  What is wrong with a grammar: cfg.Check and Cfg of the reference.
-/
import Derived.Test.YtldapomcjfkeeaaGram
namespace Go.Proofs.Ytldapomcjfkeeaa
set_option linter.unusedVariables false
open Go.ChangeShapes Go.WideShapes Go.ChangeAt Go.RowKit

namespace Gr
variable {t n : Int} {l : List (Int × List (Int × Int))}
def errP (t n : Int) : List (Int × List (Int × Int)) → Int
  | [] => 0
  | p :: r => if 8 < p.2.length then 2 else if p.1 < 0 ∨ n ≤ p.1 ∨ p.2.any (fun x => !right t n x) = true then 1 else errP t n r
def err (t n : Int) (l : List (Int × List (Int × Int))) : Int := if t < 0 ∨ 30 < t ∨ n < 1 ∨ 20 < n then 1 else if 40 < l.length then 2 else errP t n l
theorem err_arg (h : t < 0 ∨ 30 < t ∨ n < 1 ∨ 20 < n) : err t n l = 1 := by rw [err, if_pos h]
theorem err_large (h : ¬ (t < 0 ∨ 30 < t ∨ n < 1 ∨ 20 < n)) (h1 : 40 < l.length) : err t n l = 2 := by rw [err, if_neg h, if_pos h1]
theorem err_go (h : ¬ (t < 0 ∨ 30 < t ∨ n < 1 ∨ 20 < n)) (h1 : ¬ 40 < l.length) : err t n l = errP t n (l.drop 0) := by rw [err, if_neg h, if_neg h1, List.drop_zero]
theorem drop_at {α : Type} (l : List α) (d : α) (k : Nat) (h : k < l.length) : l.drop k = l.getD k d :: l.drop (k + 1) := by
  rw [List.drop_eq_getElem_cons h]; simp [List.getD, List.getElem?_eq_getElem h]
theorem errP_end : errP t n (l.drop l.length) = 0 := by rw [List.drop_length]; rfl
theorem errP_wide {k : Nat} (h : k < l.length) (h1 : 8 < (l.getD k (0, [])).2.length) : errP t n (l.drop k) = 2 := by rw [drop_at l (0, []) k h, errP, if_pos h1]
theorem errP_bad {k : Nat} (h : k < l.length) (h1 : ¬ 8 < (l.getD k (0, [])).2.length) (h2 : (l.getD k (0, [])).1 < 0 ∨ n ≤ (l.getD k (0, [])).1 ∨ (l.getD k (0, [])).2.any (fun x => !right t n x) = true) : errP t n (l.drop k) = 1 := by
  rw [drop_at l (0, []) k h, errP, if_neg h1, if_pos h2]
theorem errP_next {k : Nat} (h : k < l.length) (h1 : ¬ 8 < (l.getD k (0, [])).2.length) (h2 : ¬ ((l.getD k (0, [])).1 < 0 ∨ n ≤ (l.getD k (0, [])).1 ∨ (l.getD k (0, [])).2.any (fun x => !right t n x) = true)) : errP t n (l.drop k) = errP t n (l.drop (k + 1)) := by
  rw [drop_at l (0, []) k h, errP, if_neg h1, if_neg h2]
theorem errP_in (t n : Int) (l) : 0 ≤ errP t n l ∧ errP t n l ≤ 2 := by
  induction l with
  | nil => simp [errP]
  | cons p r ih => rw [errP]; split; · simp
                   split; · simp
                   exact ih
theorem err_in (t n : Int) (l) : 0 ≤ err t n l ∧ err t n l ≤ 2 := by
  rw [err]; split; · simp
  split; · simp
  exact errP_in t n l
theorem errP_zero {t n : Int} {l} (h : errP t n l = 0) : ∀ p ∈ l, p.2.length ≤ 8 ∧ 0 ≤ p.1 ∧ p.1 < n ∧ ∀ x ∈ p.2, right t n x = true := by
  induction l with
  | nil => intro p hp; cases hp
  | cons q r ih =>
    rw [errP] at h
    split at h
    · cases h
    split at h
    · cases h
    rename_i h1 h2
    intro p hp
    rcases List.mem_cons.1 hp with rfl | hp
    · refine ⟨by omega, by omega, by omega, fun x hx => ?_⟩
      have h3 : ¬ p.2.any (fun x => !right t n x) = true := fun e => h2 (.inr (.inr e))
      have h3' : p.2.any (fun x => !right t n x) = false := by
        cases hh : p.2.any (fun x => !right t n x)
        · rfl
        · exact absurd hh h3
      have h4 := List.any_eq_false.1 h3' x hx
      cases hr : right t n x
      · rw [hr] at h4; simp at h4
      · rfl
    · exact ih h p hp
/-- A right grammar. -/
theorem err_zero {t n : Int} {l} (h : err t n l = 0) : 0 ≤ t ∧ t ≤ 30 ∧ 1 ≤ n ∧ n ≤ 20 ∧ l.length ≤ 40 ∧ ∀ p ∈ l, p.2.length ≤ 8 ∧ 0 ≤ p.1 ∧ p.1 < n ∧ ∀ x ∈ p.2, right t n x = true := by
  rw [err] at h
  split at h
  · cases h
  split at h
  · cases h
  rename_i h1 h2
  exact ⟨by omega, by omega, by omega, by omega, by omega, errP_zero h⟩
end Gr
attribute [irreducible] Gr.err Gr.errP

set_option maxRecDepth 100000 in
set_option maxHeartbeats 4000000 in
theorem cfgCheck_any (t n : Int) (vp : Value) (l : List (Int × List (Int × Int))) (w : World) (F : Nat → Prop) (hF : ∀ b, F b → b < w.heap.size) (h : Enc.prods.R F w [vp] l) :
    Calls Try.prog 102 #[.agg #[.int .i64 t, .int .i64 n, vp]] w fun e w' => e = .returned (.int .i64 (Gr.err t n l)) ∧ Below w.heap.size w w' := by
  obtain ⟨ao, b, off, cap, rfl, hl, c2, c3⟩ := slProds h
  have C2 := Lib.hid c2; have C3 := Lib.hid c3
  clear c2 c3 h hl
  by_cases h1 : t < 0
  · have HE := Lib.hid (Gr.err_arg (t := t) (n := n) (l := l) (by omega))
    go_enter Try.func102, Try.ntmps102
    go_wp2
    go_ret
    exact ⟨by rw [HE.out]; rfl, (Below.refl _ _).alloc (Nat.le_refl _) _⟩
  by_cases h2 : 30 < t
  · have HE := Lib.hid (Gr.err_arg (t := t) (n := n) (l := l) (by omega))
    go_enter Try.func102, Try.ntmps102
    go_wp2
    go_ret
    exact ⟨by rw [HE.out]; rfl, (Below.refl _ _).alloc (Nat.le_refl _) _⟩
  by_cases h3 : n < 1
  · have HE := Lib.hid (Gr.err_arg (t := t) (n := n) (l := l) (by omega))
    go_enter Try.func102, Try.ntmps102
    go_wp2
    go_ret
    exact ⟨by rw [HE.out]; rfl, (Below.refl _ _).alloc (Nat.le_refl _) _⟩
  by_cases h4 : 20 < n
  · have HE := Lib.hid (Gr.err_arg (t := t) (n := n) (l := l) (by omega))
    go_enter Try.func102, Try.ntmps102
    go_wp2
    go_ret
    exact ⟨by rw [HE.out]; rfl, (Below.refl _ _).alloc (Nat.le_refl _) _⟩
  by_cases h5 : 40 < l.length
  · have HE := Lib.hid (Gr.err_large (t := t) (n := n) (l := l) (by omega) h5)
    go_enter Try.func102, Try.ntmps102
    go_wp2
    go_ret
    exact ⟨by rw [HE.out]; rfl, (Below.refl _ _).alloc (Nat.le_refl _) _⟩
  have HE := Lib.hid (Gr.err_go (t := t) (n := n) (l := l) (by omega) h5)
  go_enter Try.func102, Try.ntmps102
  go_wp2
  go_loopw [4, 32] (fun _ i wr => ∃ k : Nat, k ≤ l.length ∧ i = .int .i64 k ∧ Below w.heap.size w wr ∧ Hid (GrBox wr w.heap.size t n (.slice ao l.length cap)) ∧ Hid (Gr.err t n l = Gr.errP t n (l.drop k))) (fun _ i _ => l.length - (intOf i).toNat)
  case atStart => exact ⟨0, by omega, rfl, (Below.refl _ _).alloc (Nat.le_refl _) _, Lib.hid ⟨by rw [World.cell?_alloc_new]; rfl, by rw [World.cell?_alloc_new]; rfl, by rw [World.cell?_alloc_new]; rfl⟩, HE⟩
  case round =>
    clear HE
    obtain ⟨k, hk, rfl, hB, hG, hE⟩ := hrel
    by_cases hlt : k < l.length
    · obtain ⟨rfl, hbw, hFb⟩ := C2.out (by omega)
      obtain ⟨vb, hn1, hn2, hbd, hw1, hw2⟩ := C3.out k hlt
      have hc1 := bkeep hB hn1
      have hc2 := bkeep hB hn2
      have HWD := Lib.hid (fun h1 => Gr.errP_wide (t := t) (n := n) (l := l) hlt h1)
      have HBAD := Lib.hid (fun h1 h2 => Gr.errP_bad (t := t) (n := n) (l := l) hlt h1 h2)
      have HNX := Lib.hid (fun h1 h2 => Gr.errP_next (t := t) (n := n) (l := l) hlt h1 h2)
      generalize l.getD k (0, []) = p at *
      obtain ⟨hd, bd⟩ := p
      simp only at hc1 hc2 hbd hw1 hw2
      obtain ⟨ao2, b2, off2, cap2, hvb, hx⟩ := id hbd
      clear hx
      simp only [List.cons.injEq, and_true] at hvb
      subst hvb
      have HBD := Lib.hid hbd
      clear hn1 hn2 hbd
      have hB2 : ∀ o, Below w.heap.size w (wr.alloc o) := fun o => hB.alloc hB.size o
      have hGl := hG.out.lt
      obtain ⟨hg0, hg1, hg2⟩ := id hG.out
      by_cases hwd : 8 < bd.length
      · have HE : Hid (Gr.err t n l = 2) := Lib.hid (by rw [hE.out]; exact HWD.out hwd)
        go_wp2
        go_ret
        exact ⟨by rw [HE.out]; rfl, hB2 _⟩
      by_cases hh1 : hd < 0
      · have HE : Hid (Gr.err t n l = 1) := Lib.hid (by rw [hE.out]; exact HBAD.out hwd (.inl hh1))
        go_wp2
        go_ret
        exact ⟨by rw [HE.out]; rfl, hB2 _⟩
      by_cases hh2 : n ≤ hd
      · have HE : Hid (Gr.err t n l = 1) := Lib.hid (by rw [hE.out]; exact HBAD.out hwd (.inr (.inl hh2)))
        go_wp2
        go_ret
        exact ⟨by rw [HE.out]; rfl, hB2 _⟩
      cases ha : bd.any (fun x => !Gr.right t n x)
      · have HA := Lib.hid ha
        have HX : Hid (Gr.err t n l = Gr.errP t n (l.drop (k + 1))) := Lib.hid (by rw [hE.out]; exact HNX.out hwd (by simp only []; rw [ha]; simp; omega))
        clear ha
        go_wp2_with (go_at_call 46; refine (badSymIn_any t n _ w.heap.size bd _ _ F (Enc.mono _ HBD.out (fun _ h => h) (fun b hb => (hB2 _).block b (hF b hb))) (hG.out.below ((Below.refl _ _).alloc (Nat.le_refl _) _) hGl)).mono ?_; rintro e w9 ⟨rfl, hb9⟩; rw [HA.out])
        go_roundw
        case rel => exact ⟨k + 1, by omega, by go_num, (hB2 _).trans (hb9.mono (hB2 _).size), Lib.hid ((hG.out.below ((Below.refl _ _).alloc (Nat.le_refl _) _) hGl).below hb9 (by simp; omega)), HX⟩
        case measure => simp [intOf]; omega
      · have HA := Lib.hid ha
        have HE : Hid (Gr.err t n l = 1) := Lib.hid (by rw [hE.out]; exact HBAD.out hwd (.inr (.inr ha)))
        clear ha
        go_wp2_with (go_at_call 46; refine (badSymIn_any t n _ w.heap.size bd _ _ F (Enc.mono _ HBD.out (fun _ h => h) (fun b hb => (hB2 _).block b (hF b hb))) (hG.out.below ((Below.refl _ _).alloc (Nat.le_refl _) _) hGl)).mono ?_; rintro e w9 ⟨rfl, hb9⟩; rw [HA.out])
        go_ret
        exact ⟨by rw [HE.out]; rfl, (hB2 _).trans (hb9.mono (hB2 _).size)⟩
    · obtain rfl : k = l.length := by omega
      have HE : Hid (Gr.err t n l = 0) := Lib.hid (by rw [hE.out]; exact Gr.errP_end)
      go_wp2
      go_ret
      exact ⟨by rw [HE.out]; rfl, hB⟩

set_option maxRecDepth 100000 in
set_option maxHeartbeats 8000000 in
theorem rcfg_any (t n : Int) (vp : Value) (l : List (Int × List (Int × Int))) (w : World) (F : Nat → Prop) (hF : ∀ b, F b → b < w.heap.size) (h : Enc.prods.R F w [vp] l) :
    Calls Try.prog 33 #[.agg #[.int .i64 t, .int .i64 n, vp]] w fun e w' => e = .returned (.int .i64 (Gr.err t n l)) ∧ Below w.heap.size w w' := by
  obtain ⟨ao, b, off, cap, rfl, hl, c2, c3⟩ := slProds h
  have C2 := Lib.hid c2; have C3 := Lib.hid c3
  clear c2 c3 h hl
  by_cases h1 : t < 0
  · have HE := Lib.hid (Gr.err_arg (t := t) (n := n) (l := l) (by omega))
    go_enter Try.func33, Try.ntmps33
    go_wp2
    go_ret
    exact ⟨by rw [HE.out]; rfl, (Below.refl _ _).alloc (Nat.le_refl _) _⟩
  by_cases h2 : 30 < t
  · have HE := Lib.hid (Gr.err_arg (t := t) (n := n) (l := l) (by omega))
    go_enter Try.func33, Try.ntmps33
    go_wp2
    go_ret
    exact ⟨by rw [HE.out]; rfl, (Below.refl _ _).alloc (Nat.le_refl _) _⟩
  by_cases h3 : n < 1
  · have HE := Lib.hid (Gr.err_arg (t := t) (n := n) (l := l) (by omega))
    go_enter Try.func33, Try.ntmps33
    go_wp2
    go_ret
    exact ⟨by rw [HE.out]; rfl, (Below.refl _ _).alloc (Nat.le_refl _) _⟩
  by_cases h4 : 20 < n
  · have HE := Lib.hid (Gr.err_arg (t := t) (n := n) (l := l) (by omega))
    go_enter Try.func33, Try.ntmps33
    go_wp2
    go_ret
    exact ⟨by rw [HE.out]; rfl, (Below.refl _ _).alloc (Nat.le_refl _) _⟩
  by_cases h5 : 40 < l.length
  · have HE := Lib.hid (Gr.err_large (t := t) (n := n) (l := l) (by omega) h5)
    go_enter Try.func33, Try.ntmps33
    go_wp2
    go_ret
    exact ⟨by rw [HE.out]; rfl, (Below.refl _ _).alloc (Nat.le_refl _) _⟩
  have HE := Lib.hid (Gr.err_go (t := t) (n := n) (l := l) (by omega) h5)
  go_enter Try.func33, Try.ntmps33
  go_wp2
  go_loopw [3, 4, 5] (fun i _ _ wr => ∃ k : Nat, k ≤ l.length ∧ i = .int .i64 k ∧ Below w.heap.size w wr ∧ Hid (GrBox wr w.heap.size t n (.slice ao l.length cap)) ∧ Hid (Gr.err t n l = Gr.errP t n (l.drop k))) (fun i _ _ _ => l.length - (intOf i).toNat)
  case atStart => exact ⟨0, by omega, rfl, (Below.refl _ _).alloc (Nat.le_refl _) _, Lib.hid ⟨by rw [World.cell?_alloc_new]; rfl, by rw [World.cell?_alloc_new]; rfl, by rw [World.cell?_alloc_new]; rfl⟩, HE⟩
  case round =>
    clear HE
    obtain ⟨k, hk, rfl, hB, hG, hE⟩ := hrel
    obtain ⟨hg0, hg1, hg2⟩ := id hG.out
    by_cases hlt : k < l.length
    · obtain ⟨rfl, hbw, hFb⟩ := C2.out (by omega)
      obtain ⟨vb, hn1, hn2, hbd, hw1, hw2⟩ := C3.out k hlt
      have hc1 := bkeep hB hn1
      have hc2 := bkeep hB hn2
      have HWD := Lib.hid (fun h1 => Gr.errP_wide (t := t) (n := n) (l := l) hlt h1)
      have HBAD := Lib.hid (fun h1 h2 => Gr.errP_bad (t := t) (n := n) (l := l) hlt h1 h2)
      have HNX := Lib.hid (fun h1 h2 => Gr.errP_next (t := t) (n := n) (l := l) hlt h1 h2)
      generalize l.getD k (0, []) = p at *
      obtain ⟨hd, bd⟩ := p
      simp only at hc1 hc2 hbd hw1 hw2
      obtain ⟨ao2, b2, off2, cap2, hvb, _, k3, k4⟩ := slTwo hbd
      subst hvb
      have K3 := Lib.hid k3; have K4 := Lib.hid k4
      clear hn1 hn2 hbd k3 k4
      have hB2 : Hid (∀ o, Below w.heap.size w (wr.alloc o)) := Lib.hid (fun o => hB.alloc hB.size o)
      have hGl := hG.out.lt
      by_cases hwd : 8 < bd.length
      · have HE : Hid (Gr.err t n l = 2) := Lib.hid (by rw [hE.out]; exact HWD.out hwd)
        go_wp2
        go_ret
        exact ⟨by rw [HE.out]; rfl, hB2.out _⟩
      by_cases hh : hd < 0 ∨ n ≤ hd
      · have HE : Hid (Gr.err t n l = 1) := Lib.hid (by rw [hE.out]; exact HBAD.out hwd (by simp only []; omega))
        have HR := Lib.hid (Gr.right_no (t := t) (n := n) (x := (2, hd)) (by simp only []; omega))
        clear hh
        go_wp2_with (go_at_call 48; refine (rightSym_any t n _ 2 hd _).mono ?_; rintro e w9 ⟨rfl, hb9⟩; rw [HR.out])
        go_ret
        exact ⟨by rw [HE.out]; rfl, (hB2.out _).trans (hb9.mono (hB2.out _).size)⟩
      have HR := Lib.hid (Gr.right_yes (t := t) (n := n) (x := (2, hd)) (.inr ⟨rfl, (by omega : 0 ≤ hd), (by omega : hd < n)⟩))
      go_wp2_with (go_at_call 48; refine (rightSym_any t n _ 2 hd _).mono ?_; rintro e w9 ⟨rfl, hb9⟩; rw [HR.out])
      have hB9 := (hB2.out _).trans (hb9.mono (hB2.out _).size)
      have hG9 : GrBox w9 w.heap.size t n (.slice (some ⟨b, off, none⟩) l.length cap) := (hG.out.below ((Below.refl _ _).alloc (Nat.le_refl _) _) hGl).below hb9 (Nat.lt_of_lt_of_le hGl (by simp))
      have hp9 : w9.cell? ⟨wr.heap.size, 1, none⟩ = some (.slice ao2 bd.length cap2) := bkeep hb9 (by rw [World.cell?_alloc_new]; rfl)
      have hpl : wr.heap.size < w9.heap.size := World.block_lt_of_cell? w9 _ hp9
      clear hb9 hc1 hc2 hg0 hg1 hg2
      generalize wr.heap.size = X at *
      have HG9 := Lib.hid hG9; clear hG9
      go_loopw [5] (fun j w2 => ∃ q : Nat, q ≤ bd.length ∧ j = .int .i64 q ∧ Below w9.heap.size w9 w2 ∧ Hid (∀ i, i < q → (!Gr.right t n (bd.getD i (0, 0))) = false)) (fun j _ => bd.length - (intOf j).toNat)
      case atStart => exact ⟨0, by omega, rfl, Below.refl _ _, Lib.hid (fun i hi => absurd hi (by omega))⟩
      case round =>
        obtain ⟨q, hq, rfl, hB3, hok⟩ := hrel
        have hp3 := bkeep hB3 hp9
        by_cases hql : q < bd.length
        · obtain ⟨rfl, hb2w, _⟩ := K3.out (by omega)
          have hs1 := (K4.out q hql).1
          have hs2 := (K4.out q hql).2.1
          have HBK : Hid ((!Gr.right t n (bd.getD q (0, 0))) = true → Gr.err t n l = 1) := Lib.hid (fun h => by rw [hE.out]; exact HBAD.out hwd (.inr (.inr (any_some' hql h))))
          have HOK : Hid ((!Gr.right t n (bd.getD q (0, 0))) = false → ∀ i, i < q + 1 → (!Gr.right t n (bd.getD i (0, 0))) = false) := Lib.hid (fun h i hi => by
            rcases Nat.lt_succ_iff_lt_or_eq.1 hi with hi | rfl
            · exact hok.out i hi
            · exact h)
          generalize bd.getD q (0, 0) = y at *
          obtain ⟨y1, y2⟩ := y
          simp only at hs1 hs2
          have hB4 := hB9.trans (hB3.mono hB9.size)
          have HK : Hid (∀ W', Below w9.heap.size w9 W' → W'.cell? ⟨w.heap.size, 0, none⟩ = some (.int .i64 t) ∧ W'.cell? ⟨w.heap.size, 1, none⟩ = some (.int .i64 n) ∧ W'.cell? ⟨w.heap.size, 2, none⟩ = some (.slice (some ⟨b, off, none⟩) l.length cap) ∧ W'.cell? ⟨X, 1, none⟩ = some (.slice (some ⟨b2, off2, none⟩) bd.length cap2) ∧
            W'.cell? ⟨b2, off2 + q * 2, none⟩ = some (.int .i64 y1) ∧ W'.cell? ⟨b2, off2 + q * 2 + 1, none⟩ = some (.int .i64 y2) ∧ Below w9.heap.size w9 W') := Lib.hid (fun W' hW => by
              have h1 := HG9.out.below hW HG9.out.lt
              have h2 := hB9.trans (hW.mono hB9.size)
              exact ⟨h1.1, h1.2.1, h1.2.2, bkeep hW hp9, bkeep h2 hs1, bkeep h2 hs2, hW⟩)
          clear hs1 hs2
          cases hry : Gr.right t n (y1, y2)
          · have HRY := Lib.hid hry
            have HE : Hid (Gr.err t n l = 1) := Lib.hid (HBK.out (by rw [hry]; rfl))
            clear hry
            go_wp2
            go_region_held3 (fun w' => w'.cell? ⟨w.heap.size, 0, none⟩ = some (.int .i64 t) ∧ w'.cell? ⟨w.heap.size, 1, none⟩ = some (.int .i64 n) ∧ w'.cell? ⟨w.heap.size, 2, none⟩ = some (.slice (some ⟨b, off, none⟩) l.length cap) ∧ w'.cell? ⟨X, 1, none⟩ = some (.slice (some ⟨b2, off2, none⟩) bd.length cap2) ∧
              w'.cell? ⟨b2, off2 + q * 2, none⟩ = some (.int .i64 y1) ∧ w'.cell? ⟨b2, off2 + q * 2 + 1, none⟩ = some (.int .i64 y2) ∧ Below w9.heap.size w9 w') (first | exact HK.out _ hB3 | exact HK.out _ hB3.drew)
              ((go_at_call 48; have hh := ‹_ ∧ _ ∧ _ ∧ _ ∧ _ ∧ _ ∧ Below w9.heap.size w9 _›; refine (rightSym_any t n _ y1 y2 _).mono ?_; rintro e w5 ⟨rfl, hb5⟩; rw [HRY.out]; have hB3 := hh.2.2.2.2.2.2.trans (hb5.mono hh.2.2.2.2.2.2.size); clear hh hb5))
            go_wp2
            have hh := ‹_ ∧ _ ∧ _ ∧ _ ∧ _ ∧ _ ∧ Below w9.heap.size w9 _›
            go_ret
            exact ⟨by rw [HE.out]; rfl, hB9.trans (hh.2.2.2.2.2.2.mono hB9.size)⟩
          · have HRY := Lib.hid hry
            have HX := Lib.hid (HOK.out (by rw [hry]; rfl))
            clear hry
            go_wp2
            go_region_held3 (fun w' => w'.cell? ⟨w.heap.size, 0, none⟩ = some (.int .i64 t) ∧ w'.cell? ⟨w.heap.size, 1, none⟩ = some (.int .i64 n) ∧ w'.cell? ⟨w.heap.size, 2, none⟩ = some (.slice (some ⟨b, off, none⟩) l.length cap) ∧ w'.cell? ⟨X, 1, none⟩ = some (.slice (some ⟨b2, off2, none⟩) bd.length cap2) ∧
              w'.cell? ⟨b2, off2 + q * 2, none⟩ = some (.int .i64 y1) ∧ w'.cell? ⟨b2, off2 + q * 2 + 1, none⟩ = some (.int .i64 y2) ∧ Below w9.heap.size w9 w') (first | exact HK.out _ hB3 | exact HK.out _ hB3.drew)
              ((go_at_call 48; have hh := ‹_ ∧ _ ∧ _ ∧ _ ∧ _ ∧ _ ∧ Below w9.heap.size w9 _›; refine (rightSym_any t n _ y1 y2 _).mono ?_; rintro e w5 ⟨rfl, hb5⟩; rw [HRY.out]; have hB3 := hh.2.2.2.2.2.2.trans (hb5.mono hh.2.2.2.2.2.2.size); clear hh hb5))
            go_wp2
            have hh := ‹_ ∧ _ ∧ _ ∧ _ ∧ _ ∧ _ ∧ Below w9.heap.size w9 _›
            go_roundw
            case rel => exact ⟨q + 1, by omega, by go_num, hh.2.2.2.2.2.2, HX⟩
            case measure => simp [intOf]; omega
        · obtain rfl : q = bd.length := by omega
          have HX : Hid (Gr.err t n l = Gr.errP t n (l.drop (k + 1))) := Lib.hid (by rw [hE.out]; exact HNX.out hwd (by rw [any_none' hok.out]; simp; omega))
          go_wp2
          go_roundw
          case rel => exact ⟨k + 1, by omega, by go_num, hB9.trans (hB3.mono hB9.size), Lib.hid (HG9.out.below hB3 HG9.out.lt), HX⟩
          case measure => simp [intOf]; omega
    · obtain rfl : k = l.length := by omega
      have HE : Hid (Gr.err t n l = 0) := Lib.hid (by rw [hE.out]; exact Gr.errP_end)
      go_wp2
      go_ret
      exact ⟨by rw [HE.out]; rfl, hB⟩
end Go.Proofs.Ytldapomcjfkeeaa
