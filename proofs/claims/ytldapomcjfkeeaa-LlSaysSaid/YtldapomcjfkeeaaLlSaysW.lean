/-
  The walk of the law LlSays.
-/
import Derived.Test.YtldapomcjfkeeaaLlRef
import Derived.Test.YtldapomcjfkeeaaRRows
import Derived.Test.YtldapomcjfkeeaaGramIn
namespace Go.Proofs.Ytldapomcjfkeeaa
set_option linter.unusedVariables false
set_option linter.unusedSimpArgs false
open Go.ChangeShapes Go.WideShapes Go.ChangeAt Go.RowKit

def LlWorlds (l : List Fc.Pr) (rows : List (List Int)) (vp vr : Value) (F : Nat → Prop) (w : World) : Prop := ∀ w', Below w.heap.size w w' → (∀ b, F b → b < w'.heap.size) ∧ Enc.prods.R F w' [vp] l ∧ (((Enc.int .i64).sl 8).sl 24).R F w' [vr] rows
theorem LlWorlds.of {l : List Fc.Pr} {rows : List (List Int)} {vp vr : Value} {F : Nat → Prop} {w : World} (hF : ∀ b, F b → b < w.heap.size) (h : Enc.prods.R F w [vp] l) (hb : (((Enc.int .i64).sl 8).sl 24).R F w [vr] rows) : LlWorlds l rows vp vr F w :=
  fun w' hw => ⟨fun b hb => Nat.lt_of_lt_of_le (hF b hb) hw.size, Enc.mono _ h (fun _ h => h) (fun b hb => hw.block b (hF b hb)), Enc.mono _ hb (fun _ h => h) (fun b hb => hw.block b (hF b hb))⟩

set_option maxRecDepth 100000 in
set_option maxHeartbeats 1600000 in
theorem llSays_bad (t n : Int) (vp vr : Value) (l : List Fc.Pr) (rows : List (List Int)) (w : World) (F : Nat → Prop) (hF : ∀ b, F b → b < w.heap.size) (h : Enc.prods.R F w [vp] l) (hb : (((Enc.int .i64).sl 8).sl 24).R F w [vr] rows) (he : Gr.err t n l ≠ 0) :
    Calls Try.prog 13 #[.agg #[.int .i64 t, .int .i64 n, vp], vr] w fun e w' => e = .returned (.bool true) ∧ Below w.heap.size w w' := by
  have HG := Lib.hid (LlWorlds.of hF h hb)
  have HR := Lib.hid fun w' hw => rcfg_any t n vp l w' F (HG.out w' hw).1 (HG.out w' hw).2.1
  have HM := Lib.hid fun w' hw => llMake_bad t n vp l w' F (HG.out w' hw).1 (HG.out w' hw).2.1 he
  have HC := Lib.hid fun w' hw => llCheck_any t n vp vr l rows w' F (HG.out w' hw).1 (HG.out w' hw).2.1 (HG.out w' hw).2.2
  have HD := Lib.hid fun w' hw => rrows_any t n vp vr l rows w' F (HG.out w' hw).1 (HG.out w' hw).2.1 (HG.out w' hw).2.2
  generalize Gr.err t n l = E at *
  generalize Rw.all t n l rows = V at *
  have hE1 : (E != 0) = true := by rw [bne_iff_ne]; exact he
  have hE2 : (E == E) = true := by rw [beq_iff_eq]
  have hV : (V != V) = false := by rw [bne_eq_false_iff_eq]
  clear he h hF hb
  have HST := Lib.hid ((St.init w).alloc #[.int .i64 t, .int .i64 n, vp] 68)
  go_enter Try.func13, Try.ntmps13
  go_wp2_with (fail)
  go_at_call 66
  refine (HM.out _ HST.out.bel).mono ?_
  rintro e w1 ⟨rfl, hb1⟩
  have HST := Lib.hid (HST.out.call hb1)
  clear hb1
  have HSTD := Lib.hid HST.out.drew
  obtain ⟨x0, x1, x2⟩ := HSTD.out.at3 0 rfl
  go_wp2
  refine wp_region_held_drew (S := (fun w' => w'.cell? ⟨w.heap.size, 0, none⟩ = some (.int .i64 t) ∧ w'.cell? ⟨w.heap.size, 1, none⟩ = some (.int .i64 n) ∧ w'.cell? ⟨w.heap.size, 2, none⟩ = some vp)) (by kernel_rfl) ?_ (fun hHeld => ?_)
  · (try dsimp only); (first | exact ⟨x0, x1, x2⟩ | go_keep)

  refine wpAnyH_take (i := 0) (v := ?_) rfl (by kernel_rfl) (by kernel_rfl) (by kernel_rfl) (fun _ _ _ h => h) (Or.inl ⟨by rfl, ?_⟩) (by assumption) ?_
  rotate_left; focus (intro w hSw; (try dsimp only at hSw); go_simp; try (with_reducible rfl); done)
  try simp only [List.getElem_toArray, List.getElem_cons_zero, List.getElem_cons_succ, Act.put, List.setIfInBounds_toArray, List.set_cons_zero, List.set_cons_succ]
  refine wpAnyH_take (i := 1) (v := ?_) rfl (by kernel_rfl) (by kernel_rfl) (by kernel_rfl) (fun _ _ _ h => h) (Or.inl ⟨by rfl, ?_⟩) (by assumption) ?_
  rotate_left; focus (intro w hSw; (try dsimp only at hSw); go_simp; try (with_reducible rfl); done)
  try simp only [List.getElem_toArray, List.getElem_cons_zero, List.getElem_cons_succ, Act.put, List.setIfInBounds_toArray, List.set_cons_zero, List.set_cons_succ]
  refine wpAnyH_take (i := 3) (v := ?_) rfl (by kernel_rfl) (by kernel_rfl) (by kernel_rfl) (fun _ _ _ h => h) (Or.inl ⟨by rfl, ?_⟩) (by assumption) ?_
  rotate_left; focus (intro w hSw; (try dsimp only at hSw); go_simp; try (with_reducible rfl); done)
  try simp only [List.getElem_toArray, List.getElem_cons_zero, List.getElem_cons_succ, Act.put, List.setIfInBounds_toArray, List.set_cons_zero, List.set_cons_succ]
  refine wpAnyH_take (i := 4) (v := ?_) rfl (by kernel_rfl) (by kernel_rfl) (by kernel_rfl) (fun _ _ _ h => h) (Or.inl ⟨by rfl, ?_⟩) (by assumption) ?_
  rotate_left; focus (intro w hSw; (try dsimp only at hSw); go_simp; try (with_reducible rfl); done)
  try simp only [List.getElem_toArray, List.getElem_cons_zero, List.getElem_cons_succ, Act.put, List.setIfInBounds_toArray, List.set_cons_zero, List.set_cons_succ]
  refine wpAnyH_ready (rs := [2]) (by kernel_rfl) (by simp) ?_
  refine AllReadyH.cons rfl (fun K hK => ?_) AllReadyH.nil
  go_simp
  (first | (go_at_call 67; refine (HC.out _ HSTD.out.bel).mono ?_; rintro e w8 ⟨rfl, hb8⟩; have HSTD := Lib.hid (HSTD.out.call hb8); obtain ⟨x0, x1, x2⟩ := HSTD.out.at3 0 rfl; clear hb8) | (go_at_call 68; refine (HD.out _ HSTD.out.bel).mono ?_; rintro e w8 ⟨rfl, hb8⟩; have HSTD := Lib.hid (HSTD.out.call hb8); obtain ⟨x0, x1, x2⟩ := HSTD.out.at3 0 rfl; clear hb8))
  refine hK.out _ _ ?_ (fun hHeld => ?_)
  · (try dsimp only); (first | exact ⟨x0, x1, x2⟩ | go_keep)
  clear hK K
  try simp only [List.getElem_toArray, List.getElem_cons_zero, List.getElem_cons_succ, Act.put, List.setIfInBounds_toArray, List.set_cons_zero, List.set_cons_succ]
  refine wpAnyH_ready (rs := [5]) (by kernel_rfl) (by simp) ?_
  refine AllReadyH.cons rfl (fun K hK => ?_) AllReadyH.nil
  go_simp
  (first | (go_at_call 67; refine (HC.out _ HSTD.out.bel).mono ?_; rintro e w8 ⟨rfl, hb8⟩; have HSTD := Lib.hid (HSTD.out.call hb8); obtain ⟨x0, x1, x2⟩ := HSTD.out.at3 0 rfl; clear hb8) | (go_at_call 68; refine (HD.out _ HSTD.out.bel).mono ?_; rintro e w8 ⟨rfl, hb8⟩; have HSTD := Lib.hid (HSTD.out.call hb8); obtain ⟨x0, x1, x2⟩ := HSTD.out.at3 0 rfl; clear hb8))
  refine hK.out _ _ ?_ (fun hHeld => ?_)
  · (try dsimp only); (first | exact ⟨x0, x1, x2⟩ | go_keep)
  clear hK K
  try simp only [List.getElem_toArray, List.getElem_cons_zero, List.getElem_cons_succ, Act.put, List.setIfInBounds_toArray, List.set_cons_zero, List.set_cons_succ]
  refine wpAnyH_take (i := 6) (v := ?_) rfl (by kernel_rfl) (by kernel_rfl) (by kernel_rfl) (fun _ _ _ h => h) (Or.inl ⟨by rfl, ?_⟩) (by assumption) ?_
  rotate_left; focus (intro w hSw; (try dsimp only at hSw); go_simp; try (with_reducible rfl); done)
  try simp only [List.getElem_toArray, List.getElem_cons_zero, List.getElem_cons_succ, Act.put, List.setIfInBounds_toArray, List.set_cons_zero, List.set_cons_succ]
  refine wpAnyH_done (by kernel_rfl) ?_ _
  go_wp2_with (fail)
  go_at_call 33
  refine (HR.out _ HSTD.out.bel).mono ?_
  rintro e w9 ⟨rfl, hb9⟩
  have HSTD := Lib.hid (HSTD.out.call hb9)
  clear hb9 x0 x1 x2
  go_wp2
  go_ret
  exact ⟨by simp, HSTD.out.bel⟩

theorem Ll.rows_row {w : World} {q1 q2 : List (Ll.SV × List Int)} {R : List (List Int)} (h1 : q1.map Prod.snd = R) (h2 : q2.map Prod.snd = R) (hR : ∀ r ∈ R, (r.length : Int) ≤ 140737488355328) (ha : ∀ x ∈ q1, (Ll.aRow x).ok w) (hb : ∀ x ∈ q2, (Ll.aRow x).ok w) :
    ∀ k, k < R.length → Row1 Ll.iV 0 w (Ll.slV ((q1.map Prod.fst).getD k (none, 0, 0))) (R.getD k []) ∧ Row1 Ll.iV 0 w (Ll.slV ((q2.map Prod.fst).getD k (none, 0, 0))) (R.getD k []) := by
  have one : ∀ (q : List (Ll.SV × List Int)), q.map Prod.snd = R → (∀ x ∈ q, (Ll.aRow x).ok w) → ∀ k, k < R.length → Row1 Ll.iV 0 w (Ll.slV ((q.map Prod.fst).getD k (none, 0, 0))) (R.getD k []) := by
    intro q hq hok k hk
    have hl : k < q.length := by have := congrArg List.length hq; rw [List.length_map] at this; omega
    have e1 : (q.map Prod.fst).getD k (none, 0, 0) = q[k].1 := by simp [List.getD, List.getElem?_eq_getElem hl]
    have e2 : R.getD k [] = q[k].2 := by rw [← hq]; simp [List.getD, List.getElem?_eq_getElem hl]
    rw [e1, e2]
    exact Own.row1 (f := Ll.iV) (fun _ => rfl) 0 (hok _ (List.getElem_mem hl)) (hR _ (by rw [← hq]; exact List.mem_map.2 ⟨_, List.getElem_mem hl, rfl⟩))
  exact fun k hk => ⟨one q1 h1 ha k hk, one q2 h2 hb k hk⟩
theorem Ll.rowsK_all {l : List Fc.Pr} {m : List Nat} {t k : Nat} : ∀ r ∈ Ll.rowsK l m t k, r.length = t + 1 := by
  induction k with
  | zero => intro r hr; rw [Ll.rowsK_zero] at hr; cases hr
  | succ k ih =>
    intro r hr
    rw [Ll.rowsK_succ, List.mem_append, List.mem_singleton] at hr
    rcases hr with h | rfl
    · exact ih r h
    · exact Ll.rowK_len

set_option maxRecDepth 100000 in
set_option maxHeartbeats 1600000 in
theorem llSays_ok (t n : Int) (vp vr : Value) (l : List Fc.Pr) (rows : List (List Int)) (w : World) (F : Nat → Prop) (hF : ∀ b, F b → b < w.heap.size) (h : Enc.prods.R F w [vp] l) (hb : (((Enc.int .i64).sl 8).sl 24).R F w [vr] rows) (he : Gr.err t n l = 0) :
    Calls Try.prog 13 #[.agg #[.int .i64 t, .int .i64 n, vp], vr] w fun e w' => e = .returned (.bool true) ∧ Below w.heap.size w w' := by
  have HG := Lib.hid (LlWorlds.of hF h hb)
  have HR := Lib.hid fun w' hw => rcfg_any t n vp l w' F (HG.out w' hw).1 (HG.out w' hw).2.1
  have HM := Lib.hid fun w' hw => llMake_ok t n vp l w' F (HG.out w' hw).1 (HG.out w' hw).2.1 he
  have HL := Lib.hid fun w' hw => llRef_any t n vp l w' F (HG.out w' hw).1 (HG.out w' hw).2.1 he
  have HC := Lib.hid fun w' hw => llCheck_any t n vp vr l rows w' F (HG.out w' hw).1 (HG.out w' hw).2.1 (HG.out w' hw).2.2
  have HD := Lib.hid fun w' hw => rrows_any t n vp vr l rows w' F (HG.out w' hw).1 (HG.out w' hw).2.1 (HG.out w' hw).2.2
  obtain ⟨z1, z2, z3, z4, hl40, -⟩ := Gr.err_zero he
  rw [he] at HR
  generalize Rw.all t n l rows = V at *
  have hV : (V != V) = false := by rw [bne_eq_false_iff_eq]
  have HT := Lib.hid z2; have HN := Lib.hid z4; have HL40 := Lib.hid hl40; have HT0 := Lib.hid z1; have HN0 := Lib.hid z3
  clear he h hF hb z1 z2 z3 z4 hl40
  have HST := Lib.hid ((St.init w).alloc #[.int .i64 t, .int .i64 n, vp] 68)
  go_enter Try.func13, Try.ntmps13
  go_wp2_with (fail)
  go_at_call 66
  refine (HM.out _ HST.out.bel).mono ?_
  rintro e w1 ⟨E, Fs, W, Rc, M, v1, c1, q1, rfl, HGD, HQ1, hst1⟩
  have HST := Lib.hid (HST.out.join hst1)
  clear hst1
  have HSTD := Lib.hid HST.out.drew
  obtain ⟨x0, x1, x2⟩ := HSTD.out.at3 3 rfl
  go_wp2
  refine wp_region_held_drew (S := (fun w' => w'.cell? ⟨w.heap.size, 0, none⟩ = some (.int .i64 t) ∧ w'.cell? ⟨w.heap.size, 1, none⟩ = some (.int .i64 n) ∧ w'.cell? ⟨w.heap.size, 2, none⟩ = some vp)) (by kernel_rfl) ?_ (fun hHeld => ?_)
  · (try dsimp only); (first | exact ⟨x0, x1, x2⟩ | go_keep)

  refine wpAnyH_take (i := 0) (v := ?_) rfl (by kernel_rfl) (by kernel_rfl) (by kernel_rfl) (fun _ _ _ h => h) (Or.inl ⟨by rfl, ?_⟩) (by assumption) ?_
  rotate_left; focus (intro w hSw; (try dsimp only at hSw); go_simp; try (with_reducible rfl); done)
  try simp only [List.getElem_toArray, List.getElem_cons_zero, List.getElem_cons_succ, Act.put, List.setIfInBounds_toArray, List.set_cons_zero, List.set_cons_succ]
  refine wpAnyH_take (i := 1) (v := ?_) rfl (by kernel_rfl) (by kernel_rfl) (by kernel_rfl) (fun _ _ _ h => h) (Or.inl ⟨by rfl, ?_⟩) (by assumption) ?_
  rotate_left; focus (intro w hSw; (try dsimp only at hSw); go_simp; try (with_reducible rfl); done)
  try simp only [List.getElem_toArray, List.getElem_cons_zero, List.getElem_cons_succ, Act.put, List.setIfInBounds_toArray, List.set_cons_zero, List.set_cons_succ]
  refine wpAnyH_take (i := 3) (v := ?_) rfl (by kernel_rfl) (by kernel_rfl) (by kernel_rfl) (fun _ _ _ h => h) (Or.inl ⟨by rfl, ?_⟩) (by assumption) ?_
  rotate_left; focus (intro w hSw; (try dsimp only at hSw); go_simp; try (with_reducible rfl); done)
  try simp only [List.getElem_toArray, List.getElem_cons_zero, List.getElem_cons_succ, Act.put, List.setIfInBounds_toArray, List.set_cons_zero, List.set_cons_succ]
  refine wpAnyH_take (i := 4) (v := ?_) rfl (by kernel_rfl) (by kernel_rfl) (by kernel_rfl) (fun _ _ _ h => h) (Or.inl ⟨by rfl, ?_⟩) (by assumption) ?_
  rotate_left; focus (intro w hSw; (try dsimp only at hSw); go_simp; try (with_reducible rfl); done)
  try simp only [List.getElem_toArray, List.getElem_cons_zero, List.getElem_cons_succ, Act.put, List.setIfInBounds_toArray, List.set_cons_zero, List.set_cons_succ]
  refine wpAnyH_ready (rs := [2]) (by kernel_rfl) (by simp) ?_
  refine AllReadyH.cons rfl (fun K hK => ?_) AllReadyH.nil
  go_simp
  (first | (go_at_call 67; refine (HC.out _ HSTD.out.bel).mono ?_; rintro e w8 ⟨rfl, hb8⟩; have HSTD := Lib.hid (HSTD.out.call hb8); obtain ⟨x0, x1, x2⟩ := HSTD.out.at3 3 rfl; clear hb8) | (go_at_call 68; refine (HD.out _ HSTD.out.bel).mono ?_; rintro e w8 ⟨rfl, hb8⟩; have HSTD := Lib.hid (HSTD.out.call hb8); obtain ⟨x0, x1, x2⟩ := HSTD.out.at3 3 rfl; clear hb8))
  refine hK.out _ _ ?_ (fun hHeld => ?_)
  · (try dsimp only); (first | exact ⟨x0, x1, x2⟩ | go_keep)
  clear hK K
  try simp only [List.getElem_toArray, List.getElem_cons_zero, List.getElem_cons_succ, Act.put, List.setIfInBounds_toArray, List.set_cons_zero, List.set_cons_succ]
  refine wpAnyH_ready (rs := [5]) (by kernel_rfl) (by simp) ?_
  refine AllReadyH.cons rfl (fun K hK => ?_) AllReadyH.nil
  go_simp
  (first | (go_at_call 67; refine (HC.out _ HSTD.out.bel).mono ?_; rintro e w8 ⟨rfl, hb8⟩; have HSTD := Lib.hid (HSTD.out.call hb8); obtain ⟨x0, x1, x2⟩ := HSTD.out.at3 3 rfl; clear hb8) | (go_at_call 68; refine (HD.out _ HSTD.out.bel).mono ?_; rintro e w8 ⟨rfl, hb8⟩; have HSTD := Lib.hid (HSTD.out.call hb8); obtain ⟨x0, x1, x2⟩ := HSTD.out.at3 3 rfl; clear hb8))
  refine hK.out _ _ ?_ (fun hHeld => ?_)
  · (try dsimp only); (first | exact ⟨x0, x1, x2⟩ | go_keep)
  clear hK K
  try simp only [List.getElem_toArray, List.getElem_cons_zero, List.getElem_cons_succ, Act.put, List.setIfInBounds_toArray, List.set_cons_zero, List.set_cons_succ]
  refine wpAnyH_take (i := 6) (v := ?_) rfl (by kernel_rfl) (by kernel_rfl) (by kernel_rfl) (fun _ _ _ h => h) (Or.inl ⟨by rfl, ?_⟩) (by assumption) ?_
  rotate_left; focus (intro w hSw; (try dsimp only at hSw); go_simp; try (with_reducible rfl); done)
  try simp only [List.getElem_toArray, List.getElem_cons_zero, List.getElem_cons_succ, Act.put, List.setIfInBounds_toArray, List.set_cons_zero, List.set_cons_succ]
  refine wpAnyH_done (by kernel_rfl) ?_ _
  go_wp2_with (fail)
  go_at_call 33
  refine (HR.out _ HSTD.out.bel).mono ?_
  rintro e w9 ⟨rfl, hb9⟩
  have HSTD := Lib.hid (HSTD.out.call hb9)
  clear hb9 x0 x1 x2
  obtain ⟨x0, x1, x2⟩ := HSTD.out.at3 3 rfl
  go_wp2_with (fail)
  go_at_call 69
  refine (HL.out _ HSTD.out.bel).mono ?_
  rintro e wA ⟨E', Fs', W', Rc', M', v2, c2, q2, rfl, HGD2, HQ2, hstA⟩
  obtain ⟨e1, e2, e3, e4, e5⟩ := HGD2.out.s.one HGD.out.s
  subst e1 e2 e3 e4 e5
  have HST := Lib.hid (HSTD.out.join hstA)
  clear hstA x0 x1 x2 HSTD
  have hRl := Ll.rowsK_len (l := l) (m := Ll.mays E' Fs' W' l) (t := t.toNat) (k := n.toNat)
  have hal := Ll.allK_len (l := l) (m := Ll.mays E' Fs' W' l) (t := t.toNat) (k := n.toNat)
  have hRa := Ll.rowsK_all (l := l) (m := Ll.mays E' Fs' W' l) (t := t.toNat) (k := n.toNat)
  have hcb : ((Ll.allK l (Ll.mays E' Fs' W' l) t.toNat n.toNat).length : Int) ≤ 140737488355328 := by
    have e1 : (t.toNat + 1) * l.length ≤ 31 * 40 := Nat.mul_le_mul (by have := HT.out; omega) HL40.out
    have e2 : n.toNat * ((t.toNat + 1) * l.length) ≤ 20 * (31 * 40) := Nat.mul_le_mul (by have := HN.out; omega) e1
    omega
  have hq1l : (q1.map Prod.fst).length = (Ll.rowsK l (Ll.mays E' Fs' W' l) t.toNat n.toNat).length := by rw [← HQ1.out]; simp
  have hq2l : (q2.map Prod.fst).length = (Ll.rowsK l (Ll.mays E' Fs' W' l) t.toNat n.toNat).length := by rw [← HQ2.out]; simp
  have HEQ := Lib.hid (eqRowsF wA (Own.row1 (f := Ll.slV) (fun _ => rfl) (none, 0, 0) (HST.out.ok _ (List.mem_of_getElem? (i := 3) rfl)) (by rw [hq1l, hRl]; have := HN.out; omega)) (Own.row1 (f := Ll.slV) (fun _ => rfl) (none, 0, 0) (HST.out.ok _ (List.mem_of_getElem? (i := 0) rfl)) (by rw [hq2l, hRl]; have := HN.out; omega)) hq1l hq2l
    (Ll.rows_row HQ1.out HQ2.out (fun r hr => by rw [hRa r hr]; have := HT.out; omega) (fun x hx => HST.out.ok _ (List.mem_of_getElem? (i := 4) rfl) _ (List.mem_map.2 ⟨x, hx, rfl⟩)) (fun x hx => HST.out.ok _ (List.mem_of_getElem? (i := 1) rfl) _ (List.mem_map.2 ⟨x, hx, rfl⟩))))
  have HCL1 := Lib.hid (Own.rowN (f := Ll.clV) (size := 4) (fun _ => rfl) (0, 0, 0, 0) (HST.out.ok _ (List.mem_of_getElem? (i := 5) rfl)) hcb)
  have HCL2 := Lib.hid (Own.rowN (f := Ll.clV) (size := 4) (fun _ => rfl) (0, 0, 0, 0) (HST.out.ok _ (List.mem_of_getElem? (i := 2) rfl)) hcb)
  clear hRl hal hRa hcb hq1l hq2l
  go_wp2_with (fail)
  go_at_call 70
  refine HEQ.out.mono ?_
  rintro e wB ⟨rfl, hbB⟩
  have HQC := Lib.hid (eqClashes wB (HCL1.out.below (fun _ => rfl) hbB) (HCL2.out.below (fun _ => rfl) hbB))
  have HST := Lib.hid (HST.out.call hbB)
  clear hbB HEQ HCL1 HCL2
  go_wp2_with (fail)
  go_at_call 71
  refine HQC.out.mono ?_
  rintro e wC ⟨rfl, hbC⟩
  have HST := Lib.hid (HST.out.call hbC)
  clear hbC HQC
  go_wp2
  go_ret
  exact ⟨by simp, HST.out.bel⟩

theorem opens_rows : Opens Try.prog 45 (((Enc.int .i64).sl 8).sl 24) :=
  Opens.sl Try.underlying45 (by kernel_rfl) (by decide) (by kernel_rfl) (Opens.sl Try.underlying35 (by kernel_rfl) (by decide) (by kernel_rfl) (Opens.int Try.underlying3))
theorem llSays_walk (cs : Array Value) (vr : Value) (g : Int × Int × List (Int × List (Int × Int))) (rows : List (List Int)) (w : World) (h : Rd Enc.gram (fun b => b < w.heap.size) w (.agg cs) g) (hcs : (Value.agg cs).cells.toList = cs.toList) (hb : (((Enc.int .i64).sl 8).sl 24).R (fun b => b < w.heap.size) w [vr] rows) :
    Calls Try.prog 13 #[.agg cs, vr] w fun e w' => e = .returned (.bool true) ∧ Below w.heap.size w w' := by
  unfold Rd at h
  rw [hcs] at h
  obtain ⟨vp, rfl, hp, _, _⟩ := gram_cells h
  by_cases he : Gr.err g.1 g.2.1 g.2.2 = 0
  · exact llSays_ok _ _ _ _ _ rows w _ (fun _ h => h) hp hb he
  · exact llSays_bad _ _ _ _ _ rows w _ (fun _ h => h) hp hb he
end Go.Proofs.Ytldapomcjfkeeaa
