/-
  reduce of package build: what it computes.
-/
import Derived.Test.YtldapomcjfkeeaaBd
import Derived.Test.YtldapomcjfkeeaaShrink
import Derived.Test.YtldapomcjfkeeaaTabAny
namespace Go.Proofs.Ytldapomcjfkeeaa
set_option linter.unusedVariables false
open Go.ChangeShapes Go.WideShapes Go.ChangeAt Go.RowKit

theorem Enc.cap {α : Type} {E : Enc α} {bytes : Nat} {F : Nat → Prop} {w : World} {ao : Option Addr} {n cap : Nat} {l : List α} (h : (E.sl bytes).R F w [.slice ao n cap] l) : l.length ≤ cap := by
  obtain ⟨ao', b, off, cap', e, c1, _⟩ := h
  simp only [List.cons.injEq, Value.slice.injEq, and_true] at e
  omega
theorem read_ints {w w' : World} {b off : Nat} {l : List Int} {F : Nat → Prop} (h : ∀ i, i < l.length → w.cell? ⟨b, off + i, none⟩ = some (.int .i64 (l.getD i 0)) ∧ (Enc.int .i64).R F w [.int .i64 (l.getD i 0)] (l.getD i 0)) (hb : Below w.heap.size w w') (m : Nat) :
    ∀ j q, (cellsOf ((l.take m).map (Value.int .i64)))[j]? = some q → w'.cell? ((⟨b, off, none⟩ : Addr).add j) = some q := by
  intro j q hq
  rw [cellsOf_ints, List.getElem?_map] at hq
  obtain ⟨x, hx, rfl⟩ := Option.map_eq_some_iff.1 hq
  rw [List.getElem?_take] at hx
  split at hx
  · have hj : j < l.length := (List.getElem?_eq_some_iff.1 hx).1
    have h1 := bkeep hb (h j hj).1
    rw [Addr.add_mid, h1]
    simp [List.getD, hx]
  · cases hx
theorem int_size (xs : List Int) : ∀ u ∈ xs.map (Value.int .i64), u.cells.size = 1 := by
  intro u hu; obtain ⟨x, _, rfl⟩ := List.mem_map.1 hu; rfl
namespace Bd
theorem tb_zero {t n : Int} {l : List (Int × List (Int × Int))} {acts : List (List (Int × Int))} {gts : List (List Int)} (h : Tb.all t n l acts gts = 0) :
    Gr.err t n l = 0 ∧ acts.length ≤ 200 ∧ 0 < acts.length ∧ gts.length = acts.length ∧ Tb.Good t n l.length acts gts := by
  by_cases h1 : Gr.err t n l = 0
  · rw [Tb.all, if_neg (by omega)] at h
    by_cases h2 : 200 < acts.length
    · rw [Tb.err_large h2] at h; omega
    by_cases h3 : acts.length = 0 ∨ gts.length ≠ acts.length
    · rw [Tb.err_arg h2 h3] at h; omega
    by_cases h4 : Tb.Good t n l.length acts gts
    · exact ⟨h1, by omega, by omega, by omega, h4⟩
    · rw [Tb.err_bad h2 h4] at h; omega
  · rw [Tb.all, if_pos h1] at h; exact absurd h h1
/-- What a reduce finds. -/
theorem dest_in {t n : Int} {l : List (Int × List (Int × Int))} {acts : List (List (Int × Int))} {gts : List (List Int)} (h : Tb.all t n l acts gts = 0) {p : Nat} (hp : p < l.length) {x : Int} (hx : 0 ≤ x ∧ x < acts.length) :
    0 ≤ (l.getD p (0, [])).1 ∧ (l.getD p (0, [])).1 < (gts.getD x.toNat []).length ∧ -1 ≤ (gts.getD x.toNat []).getD (l.getD p (0, [])).1.toNat 0 ∧ (gts.getD x.toNat []).getD (l.getD p (0, [])).1.toNat 0 < acts.length := by
  obtain ⟨h1, h2, h3, h4, h5⟩ := tb_zero h
  have g := (Gr.err_zero h1).2.2.2.2.2 (l.getD p (0, [])) (by simp [List.getD, hp])
  obtain ⟨_, a2, _, a4⟩ := h5 x.toNat (by omega)
  have := a4 (l.getD p (0, [])).1.toNat (by omega)
  exact ⟨g.2.1, by omega, this.1, this.2⟩
def RetRed (o : Option (List Int)) (w : World) (e : Ending) (w' : World) : Prop := match o with
  | none => (∃ v, e = .returned (.tuple #[v, .bool false])) ∧ Below w.heap.size w w'
  | some s2 => (∃ v, e = .returned (.tuple #[v, .bool true]) ∧ Own w' w.heap.size 3 1 v (s2.map (Value.int .i64))) ∧ Below w.heap.size w w'
end Bd

set_option maxRecDepth 100000 in
set_option maxHeartbeats 8000000 in
theorem bdRed_any (t n : Int) (vp va vg vs : Value) (l : List (Int × List (Int × Int))) (acts : List (List (Int × Int))) (gts : List (List Int)) (st : List Int) (p : Nat) (w : World) (F : Nat → Prop) (h : Enc.prods.R F w [vp] l)
    (hg : (((Enc.int .i64).sl 8).sl 24).R F w [vg] gts) (hs : ((Enc.int .i64).sl 8).R F w [vs] st) (he : Tb.all t n l acts gts = 0) (hp : p < l.length) (ha : st.any (Bd.out acts.length) = false) (h60 : st.length ≤ 60) :
    Calls Try.prog 154 #[.agg #[.int .i64 t, .int .i64 n, vp], .agg #[va, vg], vs, .int .i64 p] w (Bd.RetRed (Bd.red gts st (l.getD p (0, []))) w) := by
  have hst := (((St.init w).alloc #[.int .i64 t, .int .i64 n, vp] 68).alloc #[va, vg] 108)
  simp only [World.size_alloc] at hst
  obtain ⟨t1, t2, t3, t4, -⟩ := Bd.tb_zero he
  have HD := Lib.hid (fun x hx => Bd.dest_in he hp (x := x) hx)
  obtain ⟨aop, bp, op, cp, rfl, -, p3, p4⟩ := slProds h
  obtain ⟨aog, bg, og, cg, rfl, -, g3, g4⟩ := slSl hg
  obtain ⟨aos, bs, os, cs, rfl, -, s3, s4⟩ := Enc.sl1 (En := Enc.int .i64) (Value.int .i64) (fun _ _ _ h => h.1) rfl 0 hs
  have hcap := Enc.cap hs
  have hl40 := (Gr.err_zero t1).2.2.2.2.1
  have h8 := ((Gr.err_zero t1).2.2.2.2.2 (l.getD p (0, [])) (by simp [List.getD, hp])).1
  obtain ⟨rfl, hbp, -⟩ := p3 (by omega)
  obtain ⟨vb, q1, q2, q3, q4⟩ := p4 p hp
  have q1 := bkeep hst.bel q1
  have q2 := bkeep hst.bel q2
  obtain ⟨ab, -, -, cb, rfl, -⟩ := slTwo q3
  have G4 := Lib.hid g4; have G3 := Lib.hid g3; have S3 := Lib.hid s3; have S4 := Lib.hid s4; have HA := Lib.hid ha
  obtain ⟨x0, x1, x2⟩ := hst.at3 1 rfl
  obtain ⟨y0, y1⟩ := hst.at2 0 rfl
  clear h hg hs he p3 p4 g3 g4 s3 s4 ha t1 q3 q4
  have HT4 := Lib.hid t4
  clear t4
  generalize hq : l.getD p (0, []) = P at *
  obtain ⟨hd, body⟩ := P
  simp only at q1 q2 h8 HD
  have hpl : (p : Int) < l.length := by omega
  by_cases hb : st.length ≤ body.length
  · rw [Bd.red_short hb]
    clear hq
    go_enter Try.func154, Try.ntmps154
    go_wp2
    go_ret2
    exact ⟨⟨_, rfl⟩, hst.bel⟩
  obtain ⟨k, hk⟩ : ∃ k : Nat, st.length - body.length = k + 1 := ⟨st.length - body.length - 1, by omega⟩
  have hsub : (st.length : Int) - body.length = (k : Int) + 1 := by omega
  have hks : k < st.length := by omega
  obtain ⟨rfl, hbs, -⟩ := S3.out (by omega)
  have z1 := bkeep hst.bel (S4.out k hks).1
  have hx := Bd.any_out HA.out k hks
  generalize hxx : st.getD k 0 = x at *
  obtain ⟨d0, d1, d2, d3⟩ := HD.out x hx
  obtain ⟨x, rfl⟩ := Int.eq_ofNat_of_zero_le hx.1
  have hxg : x < gts.length := by have := HT4.out; omega
  obtain ⟨rfl, hbg, -⟩ := G3.out (by omega)
  obtain ⟨ai, ci, z2, z3⟩ := G4.out x hxg
  have z2 := bkeep hst.bel z2
  simp only [Int.toNat_natCast] at d0 d1 d2 d3
  obtain ⟨_, bi, oi, _, hv, -, i3, i4⟩ := Enc.sl1 (En := Enc.int .i64) (Value.int .i64) (fun _ _ _ h => h.1) rfl 0 z3
  simp only [Value.slice.injEq, true_and] at hv
  obtain ⟨rfl, rfl⟩ := hv
  obtain ⟨hd, rfl⟩ := Int.eq_ofNat_of_zero_le d0
  simp only [Int.toNat_natCast] at d2 d3
  obtain ⟨rfl, hbi, -⟩ := i3 (by omega)
  have z4 := bkeep hst.bel (i4 hd (by omega)).1
  have hDE : Bd.dest gts st (st.length - body.length) (hd : Int) = (gts.getD x []).getD hd 0 := by
    unfold Bd.dest; rw [hk, Nat.add_sub_cancel, hxx, Int.toNat_natCast, Int.toNat_natCast]
  generalize (gts.getD x []).getD hd 0 = y at *
  generalize (gts.getD x []).length = ln at *
  have hdl : (hd : Int) < ln := d1
  have hxg2 : (x : Int) < gts.length := by omega
  have hw1 : IntKind.i64.wrap ((k : Int) + 1 - 1) = k := by rw [Int.add_sub_cancel]; exact IntWalk.i64_in _ (by omega)
  have hw2 : (0 : Int) ≤ k := by omega
  have hks2 : (k : Int) < st.length := by omega
  have hcap1 : (k : Int) + 1 ≤ cs := by omega
  have hcap2 : k + 1 ≤ cs := by omega
  have HRV : Hid ((if y < 0 then none else some (st.take (k + 1) ++ [y])) = Bd.red gts st ((hd : Int), body)) := Lib.hid (by
    by_cases hy : y < 0
    · rw [Bd.red_neg (p := ((hd : Int), body)) hb (by simp only [hDE]; exact hy), if_pos hy]
    · rw [Bd.red_ok (p := ((hd : Int), body)) hb (by simp only [hDE]; exact hy), if_neg hy, ← hDE]
      simp only [hk])
  clear hcap hx d0 d1 d2 d3 hl40 t2 t3 hb hq hDE hk
  go_enter Try.func154, Try.ntmps154
  go_wp2
  go_quiet (fail)
  rename_i nq
  have hstq := hst.drewN nq
  go_wp2_with (at_builtin; refine St.appFull1n intE rfl (.tmp 44) (.tmp 46) rfl hstq ⟨bs, os, none⟩ ((st.take (k + 1)).map (Value.int .i64)) (k + 1) (by simp; omega) rfl (int_size _) (read_ints S4.out (hstq.skip _).bel (k + 1)) (.int .i64 y) rfl _ 1 rfl (by simp) rfl (by rw [List.length_map, List.length_take]; unfold maxLen; omega) (by rw [List.length_map, List.length_take]; omega) ?_; intro g' cap' w' hst')
  go_ret2
  rw [← HRV.out]
  by_cases hy : y < 0
  · rw [if_pos hy]
    exact ⟨⟨_, by show Ending.returned (.tuple #[_, .bool (decide (0 ≤ y))]) = _; rw [decide_eq_false (by omega)]⟩, hst'.bel⟩
  · rw [if_neg hy]
    exact ⟨⟨_, by show Ending.returned (.tuple #[_, .bool (decide (0 ≤ y))]) = _; rw [decide_eq_true (by omega)], by rw [List.map_append]; exact hst'.own⟩, hst'.bel⟩
end Go.Proofs.Ytldapomcjfkeeaa
