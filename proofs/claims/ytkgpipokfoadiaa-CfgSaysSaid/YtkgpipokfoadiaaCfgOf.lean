/-
  Of of package cfg: what it computes.
-/
import Derived.Test.YtkgpipokfoadiaaCfgSym
namespace Go.Proofs.Ytkgpipokfoadiaa
set_option linter.unusedVariables false
open Go.ChangeShapes Go.WideShapes Go.ChangeAt Go.RowKit

theorem int_one (x : Int) : ∀ q ∈ (Value.int .i64 x).cells.toList, q.oneCell' = true := by
  intro q hq; simp [Value.cells] at hq; subst hq; rfl
namespace Gr
/-- The numbers of a nonterminal's productions. -/
def ofGo (non : Int) : List (Int × List (Int × Int)) → Nat → List Int
  | [], _ => []
  | p :: r, k => if p.1 = non then (k : Int) :: ofGo non r (k + 1) else ofGo non r (k + 1)
theorem ofGo_end {non k} : ofGo non [] k = [] := rfl
theorem ofGo_yes {non : Int} {l : List (Int × List (Int × Int))} {k : Nat} (h : k < l.length) (h1 : (l.getD k (0, [])).1 = non) : ofGo non (l.drop k) k = (k : Int) :: ofGo non (l.drop (k + 1)) (k + 1) := by rw [drop_at l (0, []) k h, ofGo, if_pos h1]
theorem ofGo_no {non : Int} {l : List (Int × List (Int × Int))} {k : Nat} (h : k < l.length) (h1 : (l.getD k (0, [])).1 ≠ non) : ofGo non (l.drop k) k = ofGo non (l.drop (k + 1)) (k + 1) := by rw [drop_at l (0, []) k h, ofGo, if_neg h1]
theorem ofGo_len (non : Int) (l : List (Int × List (Int × Int))) (k : Nat) : (ofGo non l k).length ≤ l.length := by
  induction l generalizing k with
  | nil => simp [ofGo]
  | cons p r ih =>
    rw [ofGo]
    split
    · simpa using ih (k + 1)
    · exact Nat.le_succ_of_le (ih (k + 1))
end Gr
attribute [irreducible] Gr.ofGo

set_option maxRecDepth 100000 in
theorem cfgOf_bad (t n : Int) (vp : Value) (l : List (Int × List (Int × Int))) (w : World) (F : Nat → Prop) (hF : ∀ b, F b → b < w.heap.size) (h : Enc.prods.R F w [vp] l) (non : Int) (he : Gr.err t n l ≠ 0) :
    Calls Try.prog 35 #[.agg #[.int .i64 t, .int .i64 n, vp], .int .i64 non] w fun e w' => e = .returned (.tuple #[.slice none 0 0, .int .i64 (Gr.err t n l)]) ∧ Below w.heap.size w w' := by
  have H := Lib.hid h; have HF := Lib.hid hF
  have HCK := fun w' (hw : Below w.heap.size w w') => cfgCheck_any t n vp l w' F (fun b hb => Nat.lt_of_lt_of_le (HF.out b hb) hw.size) (Enc.mono _ H.out (fun _ h => h) (fun b hb => hw.block b (HF.out b hb)))
  have hst := (St.init w).alloc #[.int .i64 t, .int .i64 n, vp] 24
  generalize Gr.err t n l = E at *
  replace HCK := Lib.hid HCK
  have hne : (E != 0) = true := by rw [bne_iff_ne]; exact he
  clear he h hF
  go_enter Try.func35, Try.ntmps35
  go_wp2_with (fail)
  go_at_call 37
  refine (HCK.out _ hst.bel).mono ?_
  rintro e w1 ⟨rfl, hb1⟩
  replace hst := hst.call hb1
  go_wp2
  go_ret2
  exact ⟨rfl, hst.bel⟩

set_option maxRecDepth 100000 in
theorem cfgOf_arg (t n : Int) (vp : Value) (l : List (Int × List (Int × Int))) (w : World) (F : Nat → Prop) (hF : ∀ b, F b → b < w.heap.size) (h : Enc.prods.R F w [vp] l) (non : Int) (he : Gr.err t n l = 0) (hn : non < 0 ∨ (¬ non < 0 ∧ n ≤ non)) :
    Calls Try.prog 35 #[.agg #[.int .i64 t, .int .i64 n, vp], .int .i64 non] w fun e w' => e = .returned (.tuple #[.slice none 0 0, .int .i64 1]) ∧ Below w.heap.size w w' := by
  have H := Lib.hid h; have HF := Lib.hid hF
  have HCK := fun w' (hw : Below w.heap.size w w') => cfgCheck_any t n vp l w' F (fun b hb => Nat.lt_of_lt_of_le (HF.out b hb) hw.size) (Enc.mono _ H.out (fun _ h => h) (fun b hb => hw.block b (HF.out b hb)))
  have hst := (St.init w).alloc #[.int .i64 t, .int .i64 n, vp] 24
  rw [he] at HCK
  replace HCK := Lib.hid HCK
  clear he h hF
  rcases hn with hn | ⟨hn0, hn⟩
  all_goals
    go_enter Try.func35, Try.ntmps35
    go_wp2_with (fail)
    go_at_call 37
    refine (HCK.out _ hst.bel).mono ?_
    rintro e w1 ⟨rfl, hb1⟩
    replace hst := hst.call hb1
    obtain ⟨g0, g1, g2, _, _, _⟩ := hst.cel3
    go_wp2
    go_ret2
    exact ⟨rfl, hst.bel⟩

set_option maxRecDepth 100000 in
set_option maxHeartbeats 4000000 in
theorem cfgOf_ok (t n : Int) (vp : Value) (l : List (Int × List (Int × Int))) (w : World) (F : Nat → Prop) (hF : ∀ b, F b → b < w.heap.size) (h : Enc.prods.R F w [vp] l) (non : Int) (he : Gr.err t n l = 0) (hn : 0 ≤ non) (hn2 : non < n) :
    Calls Try.prog 35 #[.agg #[.int .i64 t, .int .i64 n, vp], .int .i64 non] w fun e w' => ∃ v, e = .returned (.tuple #[v, .int .i64 0]) ∧ Own w' w.heap.size 3 1 v ((Gr.ofGo non l 0).map (Value.int .i64)) ∧ Below w.heap.size w w' := by
  have H := Lib.hid h; have HF := Lib.hid hF
  have HCK := fun w' (hw : Below w.heap.size w w') => cfgCheck_any t n vp l w' F (fun b hb => Nat.lt_of_lt_of_le (HF.out b hb) hw.size) (Enc.mono _ H.out (fun _ h => h) (fun b hb => hw.block b (HF.out b hb)))
  have hst := (St.init w).alloc #[.int .i64 t, .int .i64 n, vp] 24
  rw [he] at HCK
  replace HCK := Lib.hid HCK
  have hl40 := (Gr.err_zero he).2.2.2.2.1
  obtain ⟨ao, b, off, cap, rfl, m1, m2, m3⟩ := slProds h
  have M2 := Lib.hid m2; have M3 := Lib.hid m3
  generalize hR : Gr.ofGo non l 0 = R
  have HR : Hid ([] ++ Gr.ofGo non (l.drop 0) 0 = R) := Lib.hid (by rw [← hR]; rfl)
  clear he h hF m2 m3 hR m1
  go_enter Try.func35, Try.ntmps35
  go_wp2_with (fail)
  go_at_call 37
  refine (HCK.out _ hst.bel).mono ?_
  rintro e w1 ⟨rfl, hb1⟩
  replace hst := hst.call hb1
  obtain ⟨g0, g1, g2, _, _, _⟩ := hst.cel3
  clear hb1
  go_wp2
  have hst2 := hst.nilOwn 3 1
  clear hst g0 g1 g2
  go_loopw [7, 8, 26] (fun o _ i wr => ∃ (k : Nat) (out : List Int), k ≤ l.length ∧ i = .int .i64 k ∧ out.length ≤ k ∧ St w wr [aOwn 3 1 o (out.map (Value.int .i64)), aCel w.heap.size 24 #[.int .i64 t, .int .i64 n, .slice ao l.length cap]] ∧ Hid (out ++ Gr.ofGo non (l.drop k) k = R)) (fun _ _ i _ => l.length - (intOf i).toNat)
  case atStart => exact ⟨0, [], by omega, rfl, by simp, hst2, HR⟩
  case round =>
    clear hst2 HR
    obtain ⟨k, out, hk, rfl, hol, hst, hout⟩ := hrel
    by_cases hlt : k < l.length
    · obtain ⟨rfl, hb, _⟩ := M2.out (by omega)
      obtain ⟨vb, p1, p2, p3, p4⟩ := M3.out k hlt
      have q1 := (hst.bel.cell (p := ⟨b, off + k * 2, none⟩) hb).trans p1
      have q2 := (hst.bel.cell (p := ⟨b, off + k * 2 + 1, none⟩) hb).trans p2
      obtain ⟨ab, bb, ob, cb, rfl, _⟩ := Enc.slN (0, 0) p3
      have HO := Lib.hid hout.out
      clear p1 p2 p3 hout
      generalize hp1 : (l.getD k (0, [])).1 = p1 at *
      generalize (l.getD k (0, [])).2.length = m at *
      by_cases hpn : p1 = non
      · have HN : Hid (out ++ [(k : Int)] ++ Gr.ofGo non (l.drop (k + 1)) (k + 1) = R) := Lib.hid (by rw [← HO.out, Gr.ofGo_yes hlt (by rw [hp1]; exact hpn), List.append_assoc]; rfl)
        have hq : (p1 == non) = true := by rw [beq_iff_eq]; exact hpn
        clear hp1 hpn
        have hst3 := hst.skip (.cells #[.int .i64 p1, .slice ab m cb] 83)
        go_wp2_with (at_builtin; refine St.app1n intE rfl (.tmp 35) (.tmp 37) rfl rfl hst3 (.int .i64 (k : Int)) rfl _ 1 rfl (by simp) rfl (int_one _) (by rw [List.length_map]; unfold maxLen; omega) (by rw [List.length_map]; omega) ?_; intro g3 n3 cap3 w3 hst4; clear hst3 hst)
        go_roundw
        case rel => exact ⟨k + 1, out ++ [(k : Int)], by omega, by go_num, by simp; omega, by rw [List.map_append]; exact hst4, HN⟩
        case measure => simp [intOf]; omega
      · have HN : Hid (out ++ Gr.ofGo non (l.drop (k + 1)) (k + 1) = R) := Lib.hid (by rw [← HO.out, Gr.ofGo_no hlt (by rw [hp1]; exact hpn)])
        have hq : (p1 == non) = false := by rw [beq_eq_false_iff_ne]; exact hpn
        clear hp1 hpn
        go_wp2
        go_roundw
        case rel => exact ⟨k + 1, out, by omega, by go_num, by omega, hst.skip _, HN⟩
        case measure => simp [intOf]; omega
    · obtain rfl : k = l.length := by omega
      have ho := hout.out
      rw [List.drop_length, Gr.ofGo_end, List.append_nil] at ho
      subst ho
      clear hout
      go_wp2
      go_ret2
      exact ⟨_, rfl, hst.own, hst.bel⟩
end Go.Proofs.Ytkgpipokfoadiaa
