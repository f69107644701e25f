/-
  mark, add, all of package facts: what they do to what their caller owns.
-/
import Derived.Test.YtlgabpcddldelaaFcNum
import Derived.Test.YtlgabpcddldelaaSepAll
import Derived.Laws.Bits64b
import Derived.Deep.LoopGhost
namespace Go.Proofs.Ytlgabpcddldelaa
set_option linter.unusedVariables false
open Go.ChangeShapes Go.WideShapes Go.ChangeAt Go.RowKit

namespace Fc
/-- An own slice of truths, of numbers. -/
def aB (v : Value) (E : List Bool) : Asrt := aOwn 4 1 v (E.map Value.bool)
def uV (x : Nat) : Value := .int .u64 (x : Int)
def aU (v : Value) (W : List Nat) : Asrt := aOwn 37 1 v (W.map uV)
end Fc

set_option maxRecDepth 100000 in
theorem fcMark_any (w0 w : World) (g n cap : Nat) (E : List Bool) (i : Nat) (b : Bool) (μ : List Asrt) (hi : i < E.length) (hn : n = E.length) (hst : St w0 w (Fc.aB (.slice (some ⟨g, 0, none⟩) n cap) E :: μ)) :
    Calls Try.prog 137 #[.slice (some ⟨g, 0, none⟩) n cap, .int .i64 i, .bool b] w fun e w' => e = .returned (.bool (b && !E.getD i false)) ∧ St w0 w' (Fc.aB (.slice (some ⟨g, 0, none⟩) n cap) (Fc.set1 E i b) :: μ) := by
  unfold Fc.aB at hst ⊢
  have hc := hst.cellOwn (f := Value.bool) (fun _ => rfl) i hi false
  have hi2 : (i : Int) < n := by omega
  have h0 : (0 : Int) ≤ (i : Int) := by omega
  cases b
  · have HST := Lib.hid (show St w0 w (aOwn 4 1 (.slice (some ⟨g, 0, none⟩) n cap) ((Fc.set1 E i false).map Value.bool) :: μ) from by rw [show Fc.set1 E i false = E by simp [Fc.set1]]; exact hst)
    clear hst hn hi
    obtain ⟨c1, c2⟩ := hc
    go_enter Try.func137, Try.ntmps137
    go_wp2
    go_ret
    exact ⟨rfl, HST.out⟩
  · cases hv : E.getD i false
    · rw [hv] at hc
      have h2 := hst.setOwn (f := Value.bool) (fun _ => rfl) i true
      have HST := Lib.hid (show St w0 (w.setCell ⟨g, i, none⟩ (.bool true)) (aOwn 4 1 (.slice (some ⟨g, 0, none⟩) n cap) ((Fc.set1 E i true).map Value.bool) :: μ) from by rw [show Fc.set1 E i true = E.set i true by simp [Fc.set1]]; exact h2)
      clear hst hn hi h2 hv
      obtain ⟨c1, c2⟩ := hc
      go_enter Try.func137, Try.ntmps137
      go_wp2
      go_ret
      exact ⟨rfl, HST.out⟩
    · rw [hv] at hc
      have HST := Lib.hid (show St w0 w (aOwn 4 1 (.slice (some ⟨g, 0, none⟩) n cap) ((Fc.set1 E i true).map Value.bool) :: μ) from by rw [Fc.set1_same hi (fun _ => hv)]; exact hst)
      clear hst hn hi hv
      obtain ⟨c1, c2⟩ := hc
      go_enter Try.func137, Try.ntmps137
      go_wp2
      go_ret
      exact ⟨rfl, HST.out⟩

set_option maxRecDepth 100000 in
theorem fcAdd_any (w0 w : World) (g n cap : Nat) (W : List Nat) (i : Nat) (b : Nat) (μ : List Asrt) (hi : i < W.length) (hn : n = W.length) (hW : W.getD i 0 < 18446744073709551616) (hb : b < 18446744073709551616) (hst : St w0 w (Fc.aU (.slice (some ⟨g, 0, none⟩) n cap) W :: μ)) :
    Calls Try.prog 139 #[.slice (some ⟨g, 0, none⟩) n cap, .int .i64 i, .int .u64 (b : Int)] w fun e w' => e = .returned (.bool (decide (W.getD i 0 ||| b ≠ W.getD i 0))) ∧ St w0 w' (Fc.aU (.slice (some ⟨g, 0, none⟩) n cap) (Fc.up W i b) :: μ) := by
  unfold Fc.aU at hst ⊢
  obtain ⟨c1, c2⟩ := hst.cellOwn (f := Fc.uV) (fun _ => rfl) i hi 0
  have hi2 : (i : Int) < n := by omega
  have h0 : (0 : Int) ≤ (i : Int) := by omega
  have h2 := hst.setOwn (f := Fc.uV) (fun _ => rfl) i (W.getD i 0 ||| b)
  have HST := Lib.hid (show St w0 (w.setCell ⟨g, i, none⟩ (.int .u64 ((W.getD i 0 ||| b : Nat) : Int))) (aOwn 37 1 (.slice (some ⟨g, 0, none⟩) n cap) ((Fc.up W i b).map Fc.uV) :: μ) from h2)
  have hor := bits_or_u64_nat (W.getD i 0) b hW hb
  generalize W.getD i 0 = x at *
  replace c1 : w.cell? ⟨g, i, none⟩ = some (.int .u64 (x : Int)) := c1
  have HOR := Lib.hid hor
  have hne : (((x ||| b : Nat) : Int) != (x : Int)) = decide (x ||| b ≠ x) := by
    by_cases h : x ||| b = x
    · rw [h]; simp
    · rw [decide_eq_true h, bne_iff_ne]; omega
  have HNE := Lib.hid hne
  clear hst hn hi h2 hW hb hne
  go_enter Try.func139, Try.ntmps139
  go_wp2
  go_ret
  exact ⟨congrArg (fun b => Ending.returned (.bool b)) HNE.out, HST.out⟩

namespace Fc
theorem drop_at {α : Type} {l : List α} {k : Nat} (h : k < l.length) (d : α) : l.drop k = l.getD k d :: l.drop (k + 1) := by
  rw [List.drop_eq_getElem_cons h]; simp [List.getD, List.getElem?_eq_getElem h]
theorem all_no {E : List Bool} {terms : Bool} {x : Int × Int} {r : List (Int × Int)} (h : (x.1 = 1 ∧ terms = false) ∨ (x.1 = 2 ∧ E.getD x.2.toNat false = false)) : all E terms (x :: r) = false := by rw [all, if_pos h]
theorem all_go {E : List Bool} {terms : Bool} {x : Int × Int} {r : List (Int × Int)} (h : ¬ ((x.1 = 1 ∧ terms = false) ∨ (x.1 = 2 ∧ E.getD x.2.toNat false = false))) : all E terms (x :: r) = all E terms r := by rw [all, if_neg h]
end Fc

set_option maxRecDepth 100000 in
set_option maxHeartbeats 1600000 in
theorem fcAll_any (w0 w : World) (g n cap : Nat) (E : List Bool) (terms : Bool) (vb : Value) (body : List (Int × Int)) (μ : List Asrt) (F : Nat → Prop) (hn : n = E.length) (hb : (Enc.two.sl 16).R F w0 [vb] body) (hx : ∀ x ∈ body, (x.1 = 1 ∧ 0 ≤ x.2) ∨ (x.1 = 2 ∧ 0 ≤ x.2 ∧ x.2 < E.length)) (hst : St w0 w (Fc.aB (.slice (some ⟨g, 0, none⟩) n cap) E :: μ)) :
    Calls Try.prog 138 #[.slice (some ⟨g, 0, none⟩) n cap, vb, .bool terms] w fun e w' => e = .returned (.bool (Fc.all E terms body)) ∧ St w0 w' (Fc.aB (.slice (some ⟨g, 0, none⟩) n cap) E :: μ) := by
  unfold Fc.aB at hst ⊢
  obtain ⟨ab, bb, ob, cb, rfl, hl, b3, b4⟩ := slTwo hb
  have B3 := Lib.hid b3; have B4 := Lib.hid b4; have HX := Lib.hid hx; have HN := Lib.hid hn
  have hll : (body.length : Int) ≤ 140737488355328 := by omega
  obtain ⟨R, hR⟩ : ∃ R, Fc.all E terms body = R := ⟨_, rfl⟩
  rw [hR]
  have HR : Hid (Fc.all E terms (body.drop 0) = R) := Lib.hid hR
  have HST := Lib.hid hst
  clear hb b3 b4 hx hR hst hl hn
  go_enter Try.func138, Try.ntmps138
  go_wp2
  go_loopg [11] body.length (fun gk i wr => ∃ k : Nat, k ≤ body.length ∧ gk = body.length - k ∧ i = .int .i64 k ∧ St w0 wr (aOwn 4 1 (.slice (some ⟨g, 0, none⟩) n cap) (E.map Value.bool) :: μ) ∧ Hid (Fc.all E terms (body.drop k) = R))
  case atStart => exact ⟨0, by omega, by omega, rfl, HST.out, HR⟩
  case round =>
    clear HST HR
    obtain ⟨k, hk, hgk, rfl, hst, HR⟩ := hrel
    have HGK := Lib.hid hgk
    clear hgk
    by_cases hlt : k < body.length
    · obtain ⟨rfl, _, _⟩ := B3.out (by omega)
      obtain ⟨s1, s2, -, -⟩ := B4.out k hlt
      have hd := Fc.drop_at hlt (0, 0)
      have hxx := HX.out (body.getD k (0, 0)) (by rw [show body.getD k (0, 0) = body[k] by simp [List.getD, List.getElem?_eq_getElem hlt]]; exact List.getElem_mem hlt)
      have hr := HR.out
      rw [hd] at hr
      generalize body.getD k (0, 0) = x at *
      obtain ⟨x1, x2⟩ := x
      simp only at s1 s2 hxx
      have c1 := bkeep hst.bel s1
      have c2 := bkeep hst.bel s2
      have hlt2 : (k : Int) < body.length := by omega
      have HST := Lib.hid (hst.skip (.cells #[.int .i64 x1, .int .i64 x2] 73))
      rcases hxx with ⟨rfl, h0⟩ | ⟨rfl, h0, h1⟩
      · cases terms
        · rw [Fc.all_no (.inl ⟨rfl, rfl⟩)] at hr
          subst hr
          clear s1 s2 hd hst HR
          go_wp2
          go_ret
          exact ⟨rfl, HST.out⟩
        · rw [Fc.all_go (by simp)] at hr
          have HR2 := Lib.hid hr
          clear s1 s2 hd hst HR hr
          go_wp2
          go_roundg (body.length - (k + 1))
          case measure => have := HGK.out; omega
          case rel => exact ⟨k + 1, by omega, rfl, by go_num, HST.out, HR2⟩
      · obtain ⟨q, rfl⟩ := Int.eq_ofNat_of_zero_le h0
        have hq : q < E.length := by omega
        have e1 := (hst.cellOwn (f := Value.bool) (fun _ => rfl) q hq false).1
        have hqn : (q : Int) < n := by have := HN.out; omega
        have lb := World.block_lt_of_cell? _ _ c1
        have le := World.block_lt_of_cell? _ _ e1
        cases hv : E.getD q false
        · rw [hv] at e1
          rw [Fc.all_no (.inr ⟨rfl, by rw [Int.toNat_natCast]; exact hv⟩)] at hr
          subst hr
          clear s1 s2 hd hst HR hv hq
          go_wp2
          go_ret
          exact ⟨rfl, HST.out⟩
        · rw [hv] at e1
          rw [Fc.all_go (by rw [Int.toNat_natCast, hv]; simp)] at hr
          have HR2 := Lib.hid hr
          clear s1 s2 hd hst HR hr hv hq
          go_wp2
          go_roundg (body.length - (k + 1))
          case measure => have := HGK.out; omega
          case rel => exact ⟨k + 1, by omega, rfl, by go_num, HST.out, HR2⟩
    · obtain rfl : k = body.length := by omega
      have hr := HR.out
      rw [List.drop_length] at hr
      have hr2 : true = R := hr
      subst hr2
      have HST := Lib.hid hst
      clear hst HR hr
      go_wp2
      go_ret
      exact ⟨rfl, HST.out⟩
end Go.Proofs.Ytlgabpcddldelaa
