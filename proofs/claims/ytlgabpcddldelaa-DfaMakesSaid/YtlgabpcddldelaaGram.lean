/-
  A grammar as data; which symbols are its own.
-/
import Derived.Test.YtlgabpcddldelaaPairs
namespace Go.Proofs.Ytlgabpcddldelaa
set_option linter.unusedVariables false
open Go.ChangeShapes Go.WideShapes Go.ChangeAt Go.RowKit

def Enc.prods : Enc (List (Int × List (Int × Int))) := (Enc.prod (Enc.int .i64) (Enc.two.sl 16)).sl 32
theorem slProds {F : Nat → Prop} {w : World} {v : Value} {l : List (Int × List (Int × Int))} (h : Enc.prods.R F w [v] l) :
    ∃ (ao : Option Addr) (b off cap : Nat), v = .slice ao l.length cap ∧ (l.length : Int) * 32 ≤ 140737488355328 ∧ (0 < l.length → ao = some ⟨b, off, none⟩ ∧ b < w.heap.size ∧ F b) ∧
      ∀ i, i < l.length → ∃ vb, w.cell? ⟨b, off + i * 2, none⟩ = some (.int .i64 (l.getD i (0, [])).1) ∧ w.cell? ⟨b, off + i * 2 + 1, none⟩ = some vb ∧ (Enc.two.sl 16).R F w [vb] (l.getD i (0, [])).2 ∧
        (-9223372036854775808 ≤ (l.getD i (0, [])).1 ∧ (l.getD i (0, [])).1 ≤ 9223372036854775807) := by
  obtain ⟨ao, b, off, cap, h0, h1, h2, h3⟩ := Enc.slN (0, []) h
  refine ⟨ao, b, off, cap, h0, h1, h2, fun i hi => ?_⟩
  obtain ⟨cs, _, g2, g3⟩ := h3 i hi
  obtain ⟨c1, c2, rfl, ⟨rfl, hw⟩, hb⟩ := g3
  have hb2 := hb
  obtain ⟨ao2, b2, off2, cap2, rfl, _⟩ := hb2
  exact ⟨_, g2 0 (by decide), g2 1 (by decide), hb, wf64 hw⟩
theorem opens_prods {P : Program} {ts t sb sy : TypeId} {f0 f1 g0 g1 : Field} (hts : P.underlying ts = some (.slice t)) (ht : P.underlying t = some (.struct #[f0, f1])) (hsb : P.underlying f1.type = some (.slice sy)) (hsy : P.underlying sy = some (.struct #[g0, g1]))
    (hc : P.cellsOf t = 2) (hby : P.bytesOf t = 32) (o0 : f0.offset = 0) (o1 : f1.offset = 1) (c0 : P.cellsOf f0.type = 1) (c1 : P.cellsOf f1.type = 1) (k0 : P.underlying f0.type = some (.int .i64))
    (hcs : P.cellsOf sy = 2) (hbs : P.bytesOf sy = 16) (p0 : g0.offset = 0) (p1 : g1.offset = 1) (d0 : P.cellsOf g0.type = 1) (d1 : P.cellsOf g1.type = 1) (q0 : P.underlying g0.type = some (.int .i64)) (q1 : P.underlying g1.type = some (.int .i64)) : Opens P ts Enc.prods := by
  have hS : Opens P f1.type (Enc.two.sl 16) := Opens.sl hsb hcs (by decide) hbs (opens_two hsy hcs p0 p1 d0 d1 q0 q1)
  have h1 : OpensFrom P #[f0, f1] 1 1 (Enc.two.sl 16) := OpensFrom.last (f := f1) rfl o1 c1 hS
  have h0 : OpensFrom P #[f0, f1] 0 0 (Enc.prod (Enc.int .i64) (Enc.two.sl 16)) := OpensFrom.cons (f := f0) rfl o0 c0 (Opens.int k0) h1
  exact Opens.sl hts hc (by decide) hby (Opens.struct ht hc h0)

namespace Gr
def right (t n : Int) (x : Int × Int) : Bool := decide (x.1 = 1 ∧ 0 ≤ x.2 ∧ x.2 < t) || decide (x.1 = 2 ∧ 0 ≤ x.2 ∧ x.2 < n)
theorem right_yes {t n : Int} {x : Int × Int} (h : (x.1 = 1 ∧ 0 ≤ x.2 ∧ x.2 < t) ∨ (x.1 = 2 ∧ 0 ≤ x.2 ∧ x.2 < n)) : right t n x = true := by
  rcases h with h | h <;> simp [right, h]
theorem right_no {t n : Int} {x : Int × Int} (h : ¬ ((x.1 = 1 ∧ 0 ≤ x.2 ∧ x.2 < t) ∨ (x.1 = 2 ∧ 0 ≤ x.2 ∧ x.2 < n))) : right t n x = false := by
  cases hr : right t n x
  · rfl
  · exfalso; apply h
    simp only [right, Bool.or_eq_true, decide_eq_true_eq] at hr
    exact hr
theorem right_iff {t n : Int} {x : Int × Int} : right t n x = true ↔ (x.1 = 1 ∧ 0 ≤ x.2 ∧ x.2 < t) ∨ (x.1 = 2 ∧ 0 ≤ x.2 ∧ x.2 < n) := by
  simp only [right, Bool.or_eq_true, decide_eq_true_eq]
end Gr
attribute [irreducible] Gr.right

set_option maxRecDepth 100000 in
theorem right_any (t n : Int) (vp : Value) (x1 x2 : Int) (w : World) :
    Calls Try.prog 134 #[.agg #[.int .i64 t, .int .i64 n, vp], .agg #[.int .i64 x1, .int .i64 x2]] w fun e w' => e = .returned (.bool (Gr.right t n (x1, x2))) ∧ Below w.heap.size w w' := by
  by_cases k1 : x1 = 1
  · have e1 : ((x1 : Int) == 1) = true := by rw [beq_iff_eq]; omega
    have e2 : ((x1 : Int) == 2) = false := by rw [beq_eq_false_iff_ne]; omega
    have HK := Lib.hid k1; clear k1
    by_cases h0 : 0 ≤ x2
    · by_cases h1 : x2 < t
      · have HE := Lib.hid (Gr.right_yes (t := t) (n := n) (x := (x1, x2)) (by simp only []; have := HK.out; omega))
        go_enter Try.func134, Try.ntmps134
        go_wp2
        go_ret
        exact ⟨by rw [HE.out]; rfl, ((Below.refl _ _).alloc (Nat.le_refl _) _).alloc (by simp) _⟩
      · have HE := Lib.hid (Gr.right_no (t := t) (n := n) (x := (x1, x2)) (by simp only []; have := HK.out; omega))
        go_enter Try.func134, Try.ntmps134
        go_wp2
        go_ret
        exact ⟨by rw [HE.out]; rfl, ((Below.refl _ _).alloc (Nat.le_refl _) _).alloc (by simp) _⟩
    · have HE := Lib.hid (Gr.right_no (t := t) (n := n) (x := (x1, x2)) (by simp only []; have := HK.out; omega))
      go_enter Try.func134, Try.ntmps134
      go_wp2
      go_ret
      exact ⟨by rw [HE.out]; rfl, ((Below.refl _ _).alloc (Nat.le_refl _) _).alloc (by simp) _⟩
  by_cases k2 : x1 = 2
  · have e1 : ((x1 : Int) == 1) = false := by rw [beq_eq_false_iff_ne]; omega
    have e2 : ((x1 : Int) == 2) = true := by rw [beq_iff_eq]; omega
    have HK := Lib.hid k2; clear k2
    by_cases h0 : 0 ≤ x2
    · by_cases h1 : x2 < n
      · have HE := Lib.hid (Gr.right_yes (t := t) (n := n) (x := (x1, x2)) (by simp only []; have := HK.out; omega))
        go_enter Try.func134, Try.ntmps134
        go_wp2
        go_ret
        exact ⟨by rw [HE.out]; rfl, ((Below.refl _ _).alloc (Nat.le_refl _) _).alloc (by simp) _⟩
      · have HE := Lib.hid (Gr.right_no (t := t) (n := n) (x := (x1, x2)) (by simp only []; have := HK.out; omega))
        go_enter Try.func134, Try.ntmps134
        go_wp2
        go_ret
        exact ⟨by rw [HE.out]; rfl, ((Below.refl _ _).alloc (Nat.le_refl _) _).alloc (by simp) _⟩
    · have HE := Lib.hid (Gr.right_no (t := t) (n := n) (x := (x1, x2)) (by simp only []; have := HK.out; omega))
      go_enter Try.func134, Try.ntmps134
      go_wp2
      go_ret
      exact ⟨by rw [HE.out]; rfl, ((Below.refl _ _).alloc (Nat.le_refl _) _).alloc (by simp) _⟩
  · have e1 : ((x1 : Int) == 1) = false := by rw [beq_eq_false_iff_ne]; omega
    have e2 : ((x1 : Int) == 2) = false := by rw [beq_eq_false_iff_ne]; omega
    by_cases h0 : 0 ≤ x2
    · have HE := Lib.hid (Gr.right_no (t := t) (n := n) (x := (x1, x2)) (by simp only [];  omega))
      go_enter Try.func134, Try.ntmps134
      go_wp2
      go_ret
      exact ⟨by rw [HE.out]; rfl, ((Below.refl _ _).alloc (Nat.le_refl _) _).alloc (by simp) _⟩
    · have HE := Lib.hid (Gr.right_no (t := t) (n := n) (x := (x1, x2)) (by simp only [];  omega))
      go_enter Try.func134, Try.ntmps134
      go_wp2
      go_ret
      exact ⟨by rw [HE.out]; rfl, ((Below.refl _ _).alloc (Nat.le_refl _) _).alloc (by simp) _⟩

set_option maxRecDepth 100000 in
theorem rightSym_any (t n : Int) (vp : Value) (x1 x2 : Int) (w : World) :
    Calls Try.prog 36 #[.agg #[.int .i64 t, .int .i64 n, vp], .agg #[.int .i64 x1, .int .i64 x2]] w fun e w' => e = .returned (.bool (Gr.right t n (x1, x2))) ∧ Below w.heap.size w w' := by
  by_cases k1 : x1 = 1
  · have e1 : ((x1 : Int) == 1) = true := by rw [beq_iff_eq]; omega
    have e2 : ((x1 : Int) == 2) = false := by rw [beq_eq_false_iff_ne]; omega
    have HK := Lib.hid k1; clear k1
    by_cases h0 : 0 ≤ x2
    · by_cases h1 : x2 < t
      · have HE := Lib.hid (Gr.right_yes (t := t) (n := n) (x := (x1, x2)) (by simp only []; have := HK.out; omega))
        go_enter Try.func36, Try.ntmps36
        go_wp2
        go_ret
        exact ⟨by rw [HE.out]; rfl, ((Below.refl _ _).alloc (Nat.le_refl _) _).alloc (by simp) _⟩
      · have HE := Lib.hid (Gr.right_no (t := t) (n := n) (x := (x1, x2)) (by simp only []; have := HK.out; omega))
        go_enter Try.func36, Try.ntmps36
        go_wp2
        go_ret
        exact ⟨by rw [HE.out]; rfl, ((Below.refl _ _).alloc (Nat.le_refl _) _).alloc (by simp) _⟩
    · have HE := Lib.hid (Gr.right_no (t := t) (n := n) (x := (x1, x2)) (by simp only []; have := HK.out; omega))
      go_enter Try.func36, Try.ntmps36
      go_wp2
      go_ret
      exact ⟨by rw [HE.out]; rfl, ((Below.refl _ _).alloc (Nat.le_refl _) _).alloc (by simp) _⟩
  by_cases k2 : x1 = 2
  · have e1 : ((x1 : Int) == 1) = false := by rw [beq_eq_false_iff_ne]; omega
    have e2 : ((x1 : Int) == 2) = true := by rw [beq_iff_eq]; omega
    have HK := Lib.hid k2; clear k2
    by_cases h0 : 0 ≤ x2
    · by_cases h1 : x2 < n
      · have HE := Lib.hid (Gr.right_yes (t := t) (n := n) (x := (x1, x2)) (by simp only []; have := HK.out; omega))
        go_enter Try.func36, Try.ntmps36
        go_wp2
        go_ret
        exact ⟨by rw [HE.out]; rfl, ((Below.refl _ _).alloc (Nat.le_refl _) _).alloc (by simp) _⟩
      · have HE := Lib.hid (Gr.right_no (t := t) (n := n) (x := (x1, x2)) (by simp only []; have := HK.out; omega))
        go_enter Try.func36, Try.ntmps36
        go_wp2
        go_ret
        exact ⟨by rw [HE.out]; rfl, ((Below.refl _ _).alloc (Nat.le_refl _) _).alloc (by simp) _⟩
    · have HE := Lib.hid (Gr.right_no (t := t) (n := n) (x := (x1, x2)) (by simp only []; have := HK.out; omega))
      go_enter Try.func36, Try.ntmps36
      go_wp2
      go_ret
      exact ⟨by rw [HE.out]; rfl, ((Below.refl _ _).alloc (Nat.le_refl _) _).alloc (by simp) _⟩
  · have e1 : ((x1 : Int) == 1) = false := by rw [beq_eq_false_iff_ne]; omega
    have e2 : ((x1 : Int) == 2) = false := by rw [beq_eq_false_iff_ne]; omega
    by_cases h0 : 0 ≤ x2
    · have HE := Lib.hid (Gr.right_no (t := t) (n := n) (x := (x1, x2)) (by simp only [];  omega))
      go_enter Try.func36, Try.ntmps36
      go_wp2
      go_ret
      exact ⟨by rw [HE.out]; rfl, ((Below.refl _ _).alloc (Nat.le_refl _) _).alloc (by simp) _⟩
    · have HE := Lib.hid (Gr.right_no (t := t) (n := n) (x := (x1, x2)) (by simp only [];  omega))
      go_enter Try.func36, Try.ntmps36
      go_wp2
      go_ret
      exact ⟨by rw [HE.out]; rfl, ((Below.refl _ _).alloc (Nat.le_refl _) _).alloc (by simp) _⟩

/-- The grammar's box. -/
def GrBox (w : World) (G : Nat) (t n : Int) (vp : Value) : Prop := w.cell? ⟨G, 0, none⟩ = some (.int .i64 t) ∧ w.cell? ⟨G, 1, none⟩ = some (.int .i64 n) ∧ w.cell? ⟨G, 2, none⟩ = some vp
theorem GrBox.below {w w' : World} {G : Nat} {t n : Int} {vp : Value} {B : Nat} (h : GrBox w G t n vp) (hb : Below B w w') (hG : G < B) : GrBox w' G t n vp :=
  ⟨(hb.cell (p := ⟨G, 0, none⟩) hG).trans h.1, (hb.cell (p := ⟨G, 1, none⟩) hG).trans h.2.1, (hb.cell (p := ⟨G, 2, none⟩) hG).trans h.2.2⟩
theorem GrBox.lt {w : World} {G : Nat} {t n : Int} {vp : Value} (h : GrBox w G t n vp) : G < w.heap.size := World.block_lt_of_cell? w _ h.1

set_option maxRecDepth 100000 in
theorem badSym_any (t n : Int) (vp : Value) (G : Nat) (x : Int × Int) (w : World) (hG : GrBox w G t n vp) :
    Calls Try.prog 133 #[.agg #[.int .i64 x.1, .int .i64 x.2], .pointer (some ⟨G, 0, none⟩)] w fun e w' => e = .returned (.bool (!Gr.right t n x)) ∧ Below w.heap.size w w' := by
  obtain ⟨x1, x2⟩ := x
  have hlt := hG.lt
  obtain ⟨g0, g1, g2⟩ := hG
  go_enter Try.func133, Try.ntmps133
  go_wp2_with (go_at_call 134; refine (right_any t n vp x1 x2 _).mono ?_; rintro e w1 ⟨rfl, hb1⟩)
  go_ret
  exact ⟨rfl, ((Below.refl _ _).alloc (Nat.le_refl _) _).trans (hb1.mono (by simp))⟩

theorem any_none' {α : Type} {p : α → Bool} {l : List α} {d : α} (h : ∀ j, j < l.length → p (l.getD j d) = false) : l.any p = false := by
  rw [List.any_eq_false]
  intro x hx
  obtain ⟨j, hj, rfl⟩ := List.getElem_of_mem hx
  have := h j hj
  rw [List.getD, List.getElem?_eq_getElem hj] at this
  simpa using this
theorem any_some' {α : Type} {p : α → Bool} {l : List α} {d : α} {k : Nat} (hk : k < l.length) (h : p (l.getD k d) = true) : l.any p = true :=
  List.any_eq_true.2 ⟨l.getD k d, by simp [List.getD, List.getElem?_eq_getElem hk], h⟩

set_option maxRecDepth 100000 in
theorem badSymIndex_any (t n : Int) (vp : Value) (G : Nat) (l : List (Int × Int)) (v : Value) (w : World) (F : Nat → Prop) (h : (Enc.two.sl 16).R F w [v] l) (hG : GrBox w G t n vp) :
    Calls Try.prog 162 #[v, .func (.func 133) #[] #[.pointer (some ⟨G, 0, none⟩)]] w fun e w' => (∃ r : Int, e = .returned (.int .i64 r) ∧ decide (0 ≤ r) = l.any (fun x => !Gr.right t n x)) ∧ Below w.heap.size w w' := by
  obtain ⟨ao, b, off, cap, rfl, hl, n3, n4⟩ := slTwo h
  clear h
  have hl2 : (l.length : Int) ≤ 140737488355328 := by omega
  have N3 := Lib.hid n3; have N4 := Lib.hid n4; have HG := Lib.hid hG
  have hGl := hG.lt
  clear n3 n4 hl hG
  go_enter Try.func162, Try.ntmps162
  go_wp2
  go_loopw [5, 8] (fun _ i wr => ∃ k : Nat, k ≤ l.length ∧ i = .int .i64 k ∧ Below w.heap.size w wr ∧ Hid (∀ j, j < k → (!Gr.right t n (l.getD j (0, 0))) = false)) (fun _ i _ => l.length - (intOf i).toNat)
  case atStart => exact ⟨0, by omega, rfl, Below.refl _ _, Lib.hid (fun j hj => absurd hj (by omega))⟩
  case round =>
    obtain ⟨k, hk, rfl, hB, hq⟩ := hrel
    by_cases hlt : k < l.length
    · obtain ⟨rfl, _, _⟩ := N3.out (by omega)
      have hc1 := bkeep hB (N4.out k hlt).1
      have hc2 := bkeep hB (N4.out k hlt).2.1
      obtain ⟨x, hx⟩ : ∃ x, x = l.getD k (0, 0) := ⟨_, rfl⟩
      rw [← hx] at hc1 hc2
      have HXE := Lib.hid hx; clear hx
      have HGB := HG.out.below hB hGl
      have HGH := Lib.hid HGB; clear HGB
      cases hbk : Gr.right t n x
      · have HBK := Lib.hid hbk; clear hbk
        go_wp2_with (go_at_call 133; refine (badSym_any t n vp G x _ HGH.out).mono ?_; rintro e w9 ⟨rfl, hb9⟩; rw [HBK.out])
        go_ret
        exact ⟨⟨k, rfl, by rw [any_some' (d := (0, 0)) hlt (by rw [← HXE.out, HBK.out]; rfl)]; simp⟩, hB.trans (hb9.mono hB.size)⟩
      · have HBK := Lib.hid hbk; clear hbk
        go_wp2_with (go_at_call 133; refine (badSym_any t n vp G x _ HGH.out).mono ?_; rintro e w9 ⟨rfl, hb9⟩; rw [HBK.out])
        go_roundw
        case rel =>
          refine ⟨k + 1, by omega, by go_num, hB.trans (hb9.mono hB.size), Lib.hid (fun j hj => ?_)⟩
          rcases Nat.lt_succ_iff_lt_or_eq.1 hj with hj | rfl
          · exact hq.out j hj
          · rw [← HXE.out, HBK.out]; rfl
        case measure => simp [intOf]; omega
    · obtain rfl : k = l.length := by omega
      go_wp2
      go_ret
      exact ⟨⟨-1, rfl, by rw [any_none' (d := (0, 0)) hq.out]; rfl⟩, hB⟩

set_option maxRecDepth 100000 in
theorem badSymIn_any (t n : Int) (vp : Value) (G : Nat) (l : List (Int × Int)) (v : Value) (w : World) (F : Nat → Prop) (h : (Enc.two.sl 16).R F w [v] l) (hG : GrBox w G t n vp) :
    Calls Try.prog 132 #[v, .func (.func 133) #[] #[.pointer (some ⟨G, 0, none⟩)]] w fun e w' => e = .returned (.bool (l.any (fun x => !Gr.right t n x))) ∧ Below w.heap.size w w' := by
  go_enter Try.func132, Try.ntmps132
  go_wp2_with (go_at_call 162; refine (badSymIndex_any t n vp G l v _ F h hG).mono ?_; rintro e w9 ⟨⟨r, rfl, hr⟩, hb9⟩)
  go_ret
  exact ⟨by rw [← hr]; simp, hb9⟩
end Go.Proofs.Ytlgabpcddldelaa
