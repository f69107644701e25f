/-
  The work of one who climbs: open of package climb.
-/
import Derived.Test.YtldapomcjfkeeaaClW
namespace Go.Proofs.Ytldapomcjfkeeaa
set_option linter.unusedVariables false
open Go.ChangeShapes Go.WideShapes Go.ChangeAt Go.RowKit

namespace Cl
/-- What open lays: the end of the production, then its body from behind. -/
def laid (p : Nat) (body : List (Int × Int)) (k : Nat) (ys : List T) : List T := ys ++ (true, (p : Int), 0, 0) :: ((body.drop k).reverse.map fun s => (false, 0, s.1, s.2))
theorem laid_all {p : Nat} {body : List (Int × Int)} {ys : List T} : laid p body body.length ys = ys ++ [(true, (p : Int), 0, 0)] := by simp [laid]
theorem laid_step {p : Nat} {body : List (Int × Int)} {ys : List T} {k : Nat} (h : k < body.length) : laid p body k ys = laid p body (k + 1) ys ++ [(false, 0, (body.getD k (0, 0)).1, (body.getD k (0, 0)).2)] := by
  unfold laid
  rw [List.drop_eq_getElem_cons h, List.reverse_cons, List.map_append, show body.getD k (0, 0) = body[k] by simp [List.getD, List.getElem?_eq_getElem h]]
  simp
theorem laid_put {ps : List (Int × List (Int × Int))} {p : Nat} {ys : List T} : laid p (ps.getD p (0, [])).2 0 ys = (put ps p ys.reverse).reverse := by
  simp [laid, put]
theorem laid_len {p : Nat} {body : List (Int × Int)} {ys : List T} {k : Nat} : (laid p body k ys).length = ys.length + 1 + (body.length - k) := by simp [laid]; omega
def OpRel (p : Nat) (body : List (Int × Int)) (ys : List T) (out : List (Int × Int)) (w0 : World) (W : Nat) (t n : Int) (vp : Value) (μ : List Asrt) (i : Value) (wr : World) : Prop :=
  ∃ k : Nat, k ≤ body.length ∧ i = .int .i64 ((k : Int) - 1) ∧ Wk w0 wr W t n vp (laid p body k ys) out μ
attribute [irreducible] laid
end Cl

set_option maxRecDepth 100000 in
set_option maxHeartbeats 4000000 in
theorem clOpen_any (w0 : World) (W : Nat) (t n : Int) (vp : Value) (l : List (Int × List (Int × Int))) (ys : List Cl.T) (x : Cl.T) (out : List (Int × Int)) (μ : List Asrt) (p : Nat) (w : World) (F : Nat → Prop) (hp : Enc.prods.R F w0 [vp] l) (hl : l.length ≤ 40) (hpl : p < l.length)
    (h8 : (l.getD p (0, [])).2.length ≤ 8) (h : Cl.Wk w0 w W t n vp (ys ++ [x]) out μ) (hy : ys.length ≤ 60) (ho : out.length ≤ 2000) :
    Calls Try.prog 160 #[.pointer (some ⟨W, 0, none⟩), .int .i64 p] w fun e w' => e = .returned (.bool (decide (out.length < 2000 ∧ (Cl.put l p ys.reverse).length ≤ 60))) ∧ Cl.Wk w0 w' W t n vp (Cl.put l p ys.reverse).reverse (out ++ [(1, (p : Int))]) μ := by
  obtain ⟨ao, bp, op, cp, rfl, -, p3, p4⟩ := slProds hp
  obtain ⟨rfl, -, -⟩ := p3 (by omega)
  obtain ⟨vb, -, q1, q2, -⟩ := p4 p hpl
  have hput := (Cl.laid_put (ps := l) (p := p) (ys := ys)).symm
  have hplen : (Cl.put l p ys.reverse).length = ys.length + 1 + (l.getD p (0, [])).2.length := by
    have := congrArg List.length hput
    rw [List.length_reverse, Cl.laid_len] at this
    omega
  rw [hput, hplen]
  generalize (l.getD p (0, [])).2 = body at *
  obtain ⟨aob, bb, ob, cb, rfl, -, b3, b4⟩ := slTwo q2
  have B3 := Lib.hid b3; have B4 := Lib.hid b4
  clear hput hplen p3 p4 q2 b3 b4 hp
  have hpl2 : (p : Int) < l.length := by omega
  have h0p : (0 : Int) ≤ (p : Int) := by omega
  go_enter Try.func160, Try.ntmps160
  go_wp2_with (fail)
  go_at_call 131
  refine (clPop_any w0 W t n _ ys x out μ _ h (by omega)).mono ?_
  rintro e w1 ⟨rfl, H1⟩
  clear h
  obtain ⟨vt, vo, hst⟩ := H1
  have x2 := hst.celAt (i := 2) rfl
  have x3 := hst.celAt (i := 3) rfl
  have f3 := hst.celFree 3
  have q1' := bkeep hst.bel q1
  have hst2 := hst.get2
  have hWl := (hst.lo _ (.head _) W (by simp [aCel])).1
  have lb : bp < w0.heap.size := World.block_lt_of_cell? _ _ q1
  have hb0 := hst.bel.size
  have hne : bp ≠ W := by omega
  clear hst
  go_wp2_with (at_builtin; refine St.app1n todoE rfl (.tmp 13) (.tmp 16) rfl rfl hst2 (todoV (true, (p : Int), 0, 0)) rfl _ 1 rfl (by simp) rfl (todo_one _) (by rw [List.length_map]; unfold maxLen; omega) (by rw [List.length_map]; omega) ?_; intro g6 n6 c6 w6 hst6; have y3 := (hst6.nth 1 rfl).celAt (i := 3) rfl; have yf3 := (hst6.nth 1 rfl).celFree 3; have y2 := (hst6.nth 1 rfl).celAt (i := 2) rfl; have q1'' := bkeep hst6.bel q1; have hb6 := hst6.bel.size; have hW6 := World.block_lt_of_cell? _ _ y3)
  have hst7 := (hst6.get2.setCel 3 (.slice (some ⟨g6, 0, none⟩) n6 c6)).get2
  have hrel : Cl.OpRel p body ys out w0 W t n (.slice (some ⟨bp, op, none⟩) l.length cp) μ (.int .i64 ((body.length : Int) - 1)) (w6.setCell ⟨W, 3, none⟩ (.slice (some ⟨g6, 0, none⟩) n6 c6)) := ⟨body.length, Nat.le_refl _, rfl, .slice (some ⟨g6, 0, none⟩) n6 c6, vo, by rw [Cl.laid_all, List.map_append]; exact hst7.get2⟩
  have HREL := Lib.hid hrel
  have HNE := Lib.hid (show ∀ m : Nat, m < body.length → bb ≠ W by intro m hm; have := (B3.out (by omega)).2.1; omega)
  clear hst2 hst6 hst7 x2 x3 f3 y2 y3 yf3 q1'' hrel q1 q1' hb6 hW6 lb hb0
  generalize w6.setCell ⟨W, 3, none⟩ (.slice (some ⟨g6, 0, none⟩) n6 c6) = W7 at HREL ⊢
  go_loopw [6] (fun i wr => Cl.OpRel p body ys out w0 W t n (.slice (some ⟨bp, op, none⟩) l.length cp) μ i wr) (fun i _ => (intOf i + 1).toNat)
  case atStart => exact HREL.out
  case round =>
    clear HREL W7
    obtain ⟨k, hk, rfl, vt, vo, hst⟩ := hrel
    by_cases hk0 : 0 < k
    · obtain ⟨j, rfl⟩ : ∃ j, k = j + 1 := ⟨k - 1, by omega⟩
      rw [show ((j + 1 : Nat) : Int) - 1 = (j : Int) by omega]
      have hjl : j < body.length := by omega
      obtain ⟨rfl, hbb, -⟩ := B3.out (by omega)
      obtain ⟨s1, s2, -, -⟩ := B4.out j hjl
      have q3 := bkeep hst.bel s1
      have q4 := bkeep hst.bel s2
      have hstep := Cl.laid_step (p := p) (ys := ys) hjl
      generalize body.getD j (0, 0) = y at *
      have hll := Cl.laid_len (p := p) (body := body) (ys := ys) (k := j + 1)
      have HST := Lib.hid hstep
      have x3 := hst.celAt (i := 3) rfl
      have f3 := hst.celFree 3
      have hstD := hst.get2.drew
      obtain ⟨y1, y2⟩ := y
      simp only at q3 q4
      have l1 := World.block_lt_of_cell? _ _ q3
      have l2 := World.block_lt_of_cell? _ _ x3
      have hne := HNE.out _ hjl
      have h40 := (Cl.laid p body (j + 1) ys).length
      clear s1 s2 hstep hst hk0
      go_wp2
      go_region_law ((refine St.step1n todoE (by rfl) (.tmp 40) (.tmp 46) (by rfl) (by rfl) hstD (todoV (false, 0, y1, y2)) rfl _ 1 rfl (by simp) rfl (todo_one _) (by rw [List.length_map]; unfold maxLen; omega) (by rw [List.length_map]; omega) ?_; intro g5 n5 c5 w5 hst5; have y3 := (hst5.nth 1 rfl).celAt (i := 3) rfl; have yf3 := (hst5.nth 1 rfl).celFree 3))
      all_goals
        go_wp2
        have hst6 := (hst5.get2.setCel 3 (.slice (some ⟨g5, 0, none⟩) n5 c5)).get2
        have hrel : Cl.OpRel p body ys out w0 W t n (.slice (some ⟨bp, op, none⟩) l.length cp) μ (.int .i64 ((j : Int) - 1)) (w5.setCell ⟨W, 3, none⟩ (.slice (some ⟨g5, 0, none⟩) n5 c5)) := ⟨j, by omega, rfl, .slice (some ⟨g5, 0, none⟩) n5 c5, vo, by rw [HST.out, List.map_append]; exact hst6.get2⟩
        go_roundw
        case rel => first | exact hrel | exact ⟨_, hrel, rfl⟩ | exact ⟨_, _, hrel, rfl, rfl⟩
        case measure => first | (simp [intOf]; done) | (simp [intOf]; omega)
    · obtain rfl : k = 0 := by omega
      have hll := Cl.laid_len (p := p) (body := body) (ys := ys) (k := 0)
      have H9 := Lib.hid (show Cl.Wk w0 wr W t n (.slice (some ⟨bp, op, none⟩) l.length cp) (Cl.laid p body 0 ys) out μ from ⟨vt, vo, hst⟩)
      clear hst hk0 hk
      obtain ⟨td, htd⟩ : ∃ td, Cl.laid p body 0 ys = td := ⟨_, rfl⟩
      have HTD := Lib.hid htd
      rw [htd] at hll H9
      clear htd
      by_cases h20 : out.length < 2000
      · have hd : decide (out.length < 2000) = true := decide_eq_true h20
        go_wp2_with (fail)
        go_at_call 132
        refine (clAct_any w0 W t n _ td out μ 1 p _ H9.out (by omega)).mono ?_
        rw [hd]
        rintro e w2 ⟨rfl, H4⟩
        have H5 := Lib.hid H4
        obtain ⟨vt2, vo2, hst⟩ := H4
        obtain ⟨a2, c2, rfl⟩ := hst.get2.own.isLen
        rw [List.length_map] at hst
        have x3 := hst.celAt (i := 3) rfl
        clear hst hd
        go_wp2
        go_ret
        exact ⟨congrArg (fun b => Ending.returned (.bool b)) (decide_eq_decide.2 (by omega)), by rw [HTD.out]; exact H5.out⟩
      · have hd : decide (out.length < 2000) = false := decide_eq_false h20
        go_wp2_with (fail)
        go_at_call 132
        refine (clAct_any w0 W t n _ td out μ 1 p _ H9.out (by omega)).mono ?_
        rw [hd]
        rintro e w2 ⟨rfl, H4⟩
        have H5 := Lib.hid H4
        clear H4 hd
        go_wp2
        go_ret
        exact ⟨congrArg (fun b => Ending.returned (.bool b)) (decide_eq_false (by omega)).symm, by rw [HTD.out]; exact H5.out⟩
end Go.Proofs.Ytldapomcjfkeeaa
