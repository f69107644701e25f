/-
  Push and End of package build: what they compute.
-/
import Derived.Test.YtldapomcjfkeeaaBdRun
import Derived.Test.YtldapomcjfkeeaaBdSame
namespace Go.Proofs.Ytldapomcjfkeeaa
set_option linter.unusedVariables false
open Go.ChangeShapes Go.WideShapes Go.ChangeAt Go.RowKit

namespace Bd
/-- What Push and End tell. -/
def tell (E : Int) (last : Bool) (x : Int × List Int × List (Int × Int)) (st : List Int) (seen ov : Int) (dn : Bool) : R := if E ≠ 0 then ⟨E, st, seen, ov, dn, []⟩ else fin last x seen
theorem tell_bad {E last x st seen ov dn} (h : E ≠ 0) : tell E last x st seen ov dn = ⟨E, st, seen, ov, dn, []⟩ := by rw [tell, if_pos h]
theorem tell_ok {last x st seen ov dn} : tell 0 last x st seen ov dn = fin last x seen := by rw [tell, if_neg (by simp)]
end Bd

theorem bdCheck_any (t n seen ov col : Int) (dn : Bool) (vp va vg vs : Value) (l : List (Int × List (Int × Int))) (acts : List (List (Int × Int))) (gts : List (List Int)) (st : List Int) (w : World) (F : Nat → Prop) (hF : ∀ b, F b → b < w.heap.size) (h : Enc.prods.R F w [vp] l)
    (ha : ((Enc.two.sl 16).sl 24).R F w [va] acts) (hg : (((Enc.int .i64).sl 8).sl 24).R F w [vg] gts) (hs : ((Enc.int .i64).sl 8).R F w [vs] st) :
    Calls Try.prog 121 #[.agg #[.int .i64 t, .int .i64 n, vp], .agg #[va, vg], .agg #[vs, .int .i64 seen, .int .i64 ov, .bool dn], .int .i64 col] w fun e w' => e = .returned (.int .i64 (Bd.chk (Tb.all t n l acts gts) t acts.length st seen (decide (ov ≠ 0) || dn) col)) ∧ Below w.heap.size w w' := by
  by_cases he : Tb.all t n l acts gts = 0
  · rw [he]; exact bdCheck_ok t n seen ov col dn vp va vg vs l acts gts st w F hF h ha hg hs he
  · rw [Bd.chk_te he]; exact bdCheck_te t n seen ov col dn vp va vg vs l acts gts st w F hF h ha hg he

set_option maxRecDepth 100000 in
set_option maxHeartbeats 8000000 in
theorem bdPush_bad (t n seen ov term col : Int) (dn : Bool) (vp va vg vs : Value) (l : List (Int × List (Int × Int))) (acts : List (List (Int × Int))) (gts : List (List Int)) (st : List Int) (w : World) (F : Nat → Prop) (hF : ∀ b, F b → b < w.heap.size) (h : Enc.prods.R F w [vp] l)
    (ha : ((Enc.two.sl 16).sl 24).R F w [va] acts) (hg : (((Enc.int .i64).sl 8).sl 24).R F w [vg] gts) (hs : ((Enc.int .i64).sl 8).R F w [vs] st) (E : Int) (hc : (term = t ∧ col = -1) ∨ (term ≠ t ∧ term = col)) (hE : Bd.chk (Tb.all t n l acts gts) t acts.length st seen (decide (ov ≠ 0) || dn) col = E) (hne : E ≠ 0) :
    Calls Try.prog 57 #[.agg #[.int .i64 t, .int .i64 n, vp], .agg #[va, vg], .agg #[vs, .int .i64 seen, .int .i64 ov, .bool dn], .int .i64 term] w (Bd.Ret ⟨E, st, seen, ov, dn, []⟩ w) := by
  have hst := (((((St.init w).alloc #[.int .i64 t, .int .i64 n, vp] 68).alloc #[va, vg] 108).alloc #[vs, .int .i64 seen, .int .i64 ov, .bool dn] 110).alloc #[.slice none 0 0, .int .i64 0, .int .i64 0, .bool false] 110)
  simp only [World.size_alloc] at hst
  have HC := fun (W : World) (hW : Below w.heap.size w W) => bdCheck_any t n seen ov col dn vp va vg vs l acts gts st W F (fun b hb => Nat.lt_of_lt_of_le (hF b hb) hW.size) (Enc.mono _ h (fun _ h => h) (fun b hb => hW.block b (hF b hb))) (Enc.mono _ ha (fun _ h => h) (fun b hb => hW.block b (hF b hb))) (Enc.mono _ hg (fun _ h => h) (fun b hb => hW.block b (hF b hb))) (Enc.mono _ hs (fun _ h => h) (fun b hb => hW.block b (hF b hb)))
  rw [hE] at HC
  replace HC := Lib.hid HC
  have HS := Lib.hid (fun (W : World) (hW : Below w.heap.size w W) => bdSame_any seen ov dn W (F := F) (fun b hb => Nat.lt_of_lt_of_le (hF b hb) hW.size) (Enc.mono _ hs (fun _ h => h) (fun b hb => hW.block b (hF b hb))))
  have hneb : (E != 0) = true := by rw [bne_iff_ne]; exact hne
  clear h ha hg hs hF hE hne
  rcases hc with ⟨rfl, rfl⟩ | ⟨hq, rfl⟩
  · go_enter Try.func57, Try.ntmps57
    go_wp2_with (fail)
    go_at_call 121
    refine (HC.out _ hst.bel).mono ?_
    rintro e w1 ⟨rfl, hb1⟩
    replace hst := hst.call hb1
    clear hb1
    obtain ⟨x0, x1, x2, x3⟩ := hst.at4 1 rfl
    go_wp2_with (fail)
    go_at_call 122
    refine (HS.out _ hst.bel).mono ?_
    rintro e w2 ⟨v', rfl, ho, hb2⟩
    obtain ⟨a2, c2, rfl⟩ := ho.isLen
    rw [List.length_map] at ho ⊢
    replace hst := hst.pushOwn hb2 ho
    clear hb2 ho x0 x1 x2 x3
    obtain ⟨x0, x1, x2, x3, xf0, xf1, xf2, xf3⟩ := hst.get2.cel4
    have hstA := ((((hst.get2.setCel 0 (.slice a2 st.length c2)).setCel 1 (.int .i64 seen)).setCel 2 (.int .i64 ov)).setCel 3 (.bool dn))
    clear hst
    go_wp2
    obtain ⟨z0, z1, z2, z3⟩ := hstA.at4 0 rfl
    have hfin := ((hstA.nth 1 rfl).nilOwn 81 2).get2
    refine bodyPost_ret (v := .tuple #[.agg #[.slice a2 st.length c2, .int .i64 seen, .int .i64 ov, .bool dn], .slice none 0 0, .int .i64 E]) ?_ rfl ?_
    · simp [results, Try.results57, go_sem, z0, z1, z2, z3]
    · exact ⟨_, _, rfl, hfin⟩
  · have hqb : (term == t) = false := by rw [beq_eq_false_iff_ne]; exact hq
    clear hq
    go_enter Try.func57, Try.ntmps57
    go_wp2_with (fail)
    go_at_call 121
    refine (HC.out _ hst.bel).mono ?_
    rintro e w1 ⟨rfl, hb1⟩
    replace hst := hst.call hb1
    clear hb1
    obtain ⟨x0, x1, x2, x3⟩ := hst.at4 1 rfl
    go_wp2_with (fail)
    go_at_call 122
    refine (HS.out _ hst.bel).mono ?_
    rintro e w2 ⟨v', rfl, ho, hb2⟩
    obtain ⟨a2, c2, rfl⟩ := ho.isLen
    rw [List.length_map] at ho ⊢
    replace hst := hst.pushOwn hb2 ho
    clear hb2 ho x0 x1 x2 x3
    obtain ⟨x0, x1, x2, x3, xf0, xf1, xf2, xf3⟩ := hst.get2.cel4
    have hstA := ((((hst.get2.setCel 0 (.slice a2 st.length c2)).setCel 1 (.int .i64 seen)).setCel 2 (.int .i64 ov)).setCel 3 (.bool dn))
    clear hst
    go_wp2
    obtain ⟨z0, z1, z2, z3⟩ := hstA.at4 0 rfl
    have hfin := ((hstA.nth 1 rfl).nilOwn 81 2).get2
    refine bodyPost_ret (v := .tuple #[.agg #[.slice a2 st.length c2, .int .i64 seen, .int .i64 ov, .bool dn], .slice none 0 0, .int .i64 E]) ?_ rfl ?_
    · simp [results, Try.results57, go_sem, z0, z1, z2, z3]
    · exact ⟨_, _, rfl, hfin⟩

set_option maxRecDepth 100000 in
set_option maxHeartbeats 8000000 in
theorem bdPush_ok (t n seen ov : Int) (c : Nat) (dn : Bool) (vp va vg vs : Value) (l : List (Int × List (Int × Int))) (acts : List (List (Int × Int))) (gts : List (List Int)) (st : List Int) (w : World) (F : Nat → Prop) (hF : ∀ b, F b → b < w.heap.size) (h : Enc.prods.R F w [vp] l)
    (ha : ((Enc.two.sl 16).sl 24).R F w [va] acts) (hg : (((Enc.int .i64).sl 8).sl 24).R F w [vg] gts) (hs : ((Enc.int .i64).sl 8).R F w [vs] st) (hc : (c : Int) < t) (hE : Bd.chk (Tb.all t n l acts gts) t acts.length st seen (decide (ov ≠ 0) || dn) c = 0) :
    Calls Try.prog 57 #[.agg #[.int .i64 t, .int .i64 n, vp], .agg #[va, vg], .agg #[vs, .int .i64 seen, .int .i64 ov, .bool dn], .int .i64 c] w (Bd.Ret (Bd.fin false (Bd.go l acts gts seen c 2000 st []) seen) w) := by
  have hst := (((((St.init w).alloc #[.int .i64 t, .int .i64 n, vp] 68).alloc #[va, vg] 108).alloc #[vs, .int .i64 seen, .int .i64 ov, .bool dn] 110).alloc #[.slice none 0 0, .int .i64 0, .int .i64 0, .bool false] 110)
  simp only [World.size_alloc] at hst
  have HC := fun (W : World) (hW : Below w.heap.size w W) => bdCheck_any t n seen ov c dn vp va vg vs l acts gts st W F (fun b hb => Nat.lt_of_lt_of_le (hF b hb) hW.size) (Enc.mono _ h (fun _ h => h) (fun b hb => hW.block b (hF b hb))) (Enc.mono _ ha (fun _ h => h) (fun b hb => hW.block b (hF b hb))) (Enc.mono _ hg (fun _ h => h) (fun b hb => hW.block b (hF b hb))) (Enc.mono _ hs (fun _ h => h) (fun b hb => hW.block b (hF b hb)))
  rw [hE] at HC
  replace HC := Lib.hid HC
  obtain ⟨he, -, -, -, h60, hs0, hs1, hpos, hany⟩ := Bd.chk_zero hE
  have HR := Lib.hid (fun (W : World) (hW : Below w.heap.size w W) => bdRun_any t n seen ov dn vp va vg vs l acts gts st c W F (fun b hb => Nat.lt_of_lt_of_le (hF b hb) hW.size) (Enc.mono _ h (fun _ h => h) (fun b hb => hW.block b (hF b hb))) (Enc.mono _ ha (fun _ h => h) (fun b hb => hW.block b (hF b hb))) (Enc.mono _ hg (fun _ h => h) (fun b hb => hW.block b (hF b hb))) (Enc.mono _ hs (fun _ h => h) (fun b hb => hW.block b (hF b hb))) he (by omega) ⟨hs0, hs1⟩ hpos h60 hany)
  have hqb : ((c : Int) == t) = false := by rw [beq_eq_false_iff_ne]; omega
  clear h ha hg hs hF hE he hany
  generalize Bd.go l acts gts seen c 2000 st [] = X at *
  obtain ⟨e, s2, o2⟩ := X
  by_cases hz : e = 0
  · subst hz
    rw [Bd.fin_go rfl]
    go_enter Try.func57, Try.ntmps57
    go_wp2_with (fail)
    go_at_call 121
    refine (HC.out _ hst.bel).mono ?_
    rintro e w1 ⟨rfl, hb1⟩
    replace hst := hst.call hb1
    clear hb1
    obtain ⟨g0, g1, g2⟩ := hst.at3 3 rfl
    obtain ⟨t0, t1⟩ := hst.at2 2 rfl
    obtain ⟨x0, x1, x2, x3⟩ := hst.at4 1 rfl
    go_wp2_with (fail)
    go_at_call 123
    refine (HR.out _ hst.bel).mono ?_
    rintro e w2 ⟨vs2, ve2, rfl, hst2⟩
    obtain ⟨a2, c2, rfl⟩ := (hst2.ownAt 0 rfl).isLen
    obtain ⟨a3, c3, rfl⟩ := (hst2.ownAt 1 rfl).isLen
    simp only [List.length_map] at hst2 ⊢
    replace hst := hst.joined hst2
    clear hst2 g0 g1 g2 t0 t1 x0 x1 x2 x3
    obtain ⟨x0, x1, x2, x3⟩ := hst.at4 3 rfl
    obtain ⟨y0, y1, y2, y3, yf0, yf1, yf2, yf3⟩ := hst.get3.cel4
    have hstA := ((((hst.get3.setCel 0 (.slice a2 s2.length c2)).setCel 1 (.int .i64 (seen + 1))).setCel 2 (.int .i64 0)).setCel 3 (.bool false))
    clear hst
    go_wp2
    obtain ⟨z0, z1, z2, z3⟩ := hstA.at4 0 rfl
    refine bodyPost_ret (v := .tuple #[.agg #[.slice a2 s2.length c2, .int .i64 (seen + 1), .int .i64 0, .bool false], .slice a3 o2.length c3, .int .i64 0]) ?_ rfl ?_
    · simp [results, Try.results57, go_sem, z0, z1, z2, z3]
    · exact ⟨_, _, rfl, hstA.drop.two⟩
  · rw [Bd.fin_bad hz]
    have hzb : (e != 0) = true := by rw [bne_iff_ne]; exact hz
    clear hz
    generalize e = E at *
    go_enter Try.func57, Try.ntmps57
    go_wp2_with (fail)
    go_at_call 121
    refine (HC.out _ hst.bel).mono ?_
    rintro e w1 ⟨rfl, hb1⟩
    replace hst := hst.call hb1
    clear hb1
    obtain ⟨g0, g1, g2⟩ := hst.at3 3 rfl
    obtain ⟨t0, t1⟩ := hst.at2 2 rfl
    obtain ⟨x0, x1, x2, x3⟩ := hst.at4 1 rfl
    go_wp2_with (fail)
    go_at_call 123
    refine (HR.out _ hst.bel).mono ?_
    rintro e w2 ⟨vs2, ve2, rfl, hst2⟩
    replace hst := hst.joined hst2
    clear hst2 g0 g1 g2 t0 t1 x0 x1 x2 x3
    obtain ⟨x0, x1, x2, x3⟩ := hst.at4 3 rfl
    obtain ⟨y0, y1, y2, y3, yf0, yf1, yf2, yf3⟩ := hst.get3.cel4
    have hstA := ((((hst.get3.setCel 0 (.slice none 0 0)).setCel 1 (.int .i64 seen)).setCel 2 (.int .i64 E)).setCel 3 (.bool false))
    clear hst
    go_wp2
    obtain ⟨z0, z1, z2, z3⟩ := hstA.at4 0 rfl
    refine bodyPost_ret (v := .tuple #[.agg #[.slice none 0 0, .int .i64 seen, .int .i64 E, .bool false], .slice none 0 0, .int .i64 E]) ?_ rfl ?_
    · simp [results, Try.results57, go_sem, z0, z1, z2, z3]
    · exact ⟨_, _, rfl, ((St.ofBel hstA.bel).nilOwn _ _).nilOwn _ _⟩
set_option maxRecDepth 100000 in
set_option maxHeartbeats 8000000 in
theorem bdEnd_bad (t n seen ov : Int) (dn : Bool) (vp va vg vs : Value) (l : List (Int × List (Int × Int))) (acts : List (List (Int × Int))) (gts : List (List Int)) (st : List Int) (w : World) (F : Nat → Prop) (hF : ∀ b, F b → b < w.heap.size) (h : Enc.prods.R F w [vp] l)
    (ha : ((Enc.two.sl 16).sl 24).R F w [va] acts) (hg : (((Enc.int .i64).sl 8).sl 24).R F w [vg] gts) (hs : ((Enc.int .i64).sl 8).R F w [vs] st) (E : Int) (hE : Bd.chk (Tb.all t n l acts gts) t acts.length st seen (decide (ov ≠ 0) || dn) t = E) (hne : E ≠ 0) :
    Calls Try.prog 58 #[.agg #[.int .i64 t, .int .i64 n, vp], .agg #[va, vg], .agg #[vs, .int .i64 seen, .int .i64 ov, .bool dn]] w (Bd.Ret ⟨E, st, seen, ov, dn, []⟩ w) := by
  have hst := (((((St.init w).alloc #[.int .i64 t, .int .i64 n, vp] 68).alloc #[va, vg] 108).alloc #[vs, .int .i64 seen, .int .i64 ov, .bool dn] 110).alloc #[.slice none 0 0, .int .i64 0, .int .i64 0, .bool false] 110)
  simp only [World.size_alloc] at hst
  have HC := fun (W : World) (hW : Below w.heap.size w W) => bdCheck_any t n seen ov t dn vp va vg vs l acts gts st W F (fun b hb => Nat.lt_of_lt_of_le (hF b hb) hW.size) (Enc.mono _ h (fun _ h => h) (fun b hb => hW.block b (hF b hb))) (Enc.mono _ ha (fun _ h => h) (fun b hb => hW.block b (hF b hb))) (Enc.mono _ hg (fun _ h => h) (fun b hb => hW.block b (hF b hb))) (Enc.mono _ hs (fun _ h => h) (fun b hb => hW.block b (hF b hb)))
  rw [hE] at HC
  replace HC := Lib.hid HC
  have HS := Lib.hid (fun (W : World) (hW : Below w.heap.size w W) => bdSame_any seen ov dn W (F := F) (fun b hb => Nat.lt_of_lt_of_le (hF b hb) hW.size) (Enc.mono _ hs (fun _ h => h) (fun b hb => hW.block b (hF b hb))))
  have hneb : (E != 0) = true := by rw [bne_iff_ne]; exact hne
  clear h ha hg hs hF hE hne
  go_enter Try.func58, Try.ntmps58
  go_wp2_with (fail)
  go_at_call 121
  refine (HC.out _ hst.bel).mono ?_
  rintro e w1 ⟨rfl, hb1⟩
  replace hst := hst.call hb1
  clear hb1
  obtain ⟨x0, x1, x2, x3⟩ := hst.at4 1 rfl
  go_wp2_with (fail)
  go_at_call 122
  refine (HS.out _ hst.bel).mono ?_
  rintro e w2 ⟨v', rfl, ho, hb2⟩
  obtain ⟨a2, c2, rfl⟩ := ho.isLen
  rw [List.length_map] at ho ⊢
  replace hst := hst.pushOwn hb2 ho
  clear hb2 ho x0 x1 x2 x3
  obtain ⟨x0, x1, x2, x3, xf0, xf1, xf2, xf3⟩ := hst.get2.cel4
  have hstA := ((((hst.get2.setCel 0 (.slice a2 st.length c2)).setCel 1 (.int .i64 seen)).setCel 2 (.int .i64 ov)).setCel 3 (.bool dn))
  clear hst
  go_wp2
  obtain ⟨z0, z1, z2, z3⟩ := hstA.at4 0 rfl
  have hfin := ((hstA.nth 1 rfl).nilOwn 81 2).get2
  refine bodyPost_ret (v := .tuple #[.agg #[.slice a2 st.length c2, .int .i64 seen, .int .i64 ov, .bool dn], .slice none 0 0, .int .i64 E]) ?_ rfl ?_
  · simp [results, Try.results58, go_sem, z0, z1, z2, z3]
  · exact ⟨_, _, rfl, hfin⟩

set_option maxRecDepth 100000 in
set_option maxHeartbeats 8000000 in
theorem bdEnd_ok (t n seen ov : Int) (c : Nat) (dn : Bool) (vp va vg vs : Value) (l : List (Int × List (Int × Int))) (acts : List (List (Int × Int))) (gts : List (List Int)) (st : List Int) (w : World) (F : Nat → Prop) (hF : ∀ b, F b → b < w.heap.size) (h : Enc.prods.R F w [vp] l)
    (ha : ((Enc.two.sl 16).sl 24).R F w [va] acts) (hg : (((Enc.int .i64).sl 8).sl 24).R F w [vg] gts) (hs : ((Enc.int .i64).sl 8).R F w [vs] st) (hc : t = (c : Int)) (hE : Bd.chk (Tb.all t n l acts gts) t acts.length st seen (decide (ov ≠ 0) || dn) c = 0) :
    Calls Try.prog 58 #[.agg #[.int .i64 t, .int .i64 n, vp], .agg #[va, vg], .agg #[vs, .int .i64 seen, .int .i64 ov, .bool dn]] w (Bd.Ret (Bd.fin true (Bd.go l acts gts seen c 2000 st []) seen) w) := by
  subst hc
  have hst := (((((St.init w).alloc #[(.int .i64 (c : Int)), .int .i64 n, vp] 68).alloc #[va, vg] 108).alloc #[vs, .int .i64 seen, .int .i64 ov, .bool dn] 110).alloc #[.slice none 0 0, .int .i64 0, .int .i64 0, .bool false] 110)
  simp only [World.size_alloc] at hst
  have HC := fun (W : World) (hW : Below w.heap.size w W) => bdCheck_any c n seen ov c dn vp va vg vs l acts gts st W F (fun b hb => Nat.lt_of_lt_of_le (hF b hb) hW.size) (Enc.mono _ h (fun _ h => h) (fun b hb => hW.block b (hF b hb))) (Enc.mono _ ha (fun _ h => h) (fun b hb => hW.block b (hF b hb))) (Enc.mono _ hg (fun _ h => h) (fun b hb => hW.block b (hF b hb))) (Enc.mono _ hs (fun _ h => h) (fun b hb => hW.block b (hF b hb)))
  rw [hE] at HC
  replace HC := Lib.hid HC
  obtain ⟨he, -, -, -, h60, hs0, hs1, hpos, hany⟩ := Bd.chk_zero hE
  have HR := Lib.hid (fun (W : World) (hW : Below w.heap.size w W) => bdRun_any c n seen ov dn vp va vg vs l acts gts st c W F (fun b hb => Nat.lt_of_lt_of_le (hF b hb) hW.size) (Enc.mono _ h (fun _ h => h) (fun b hb => hW.block b (hF b hb))) (Enc.mono _ ha (fun _ h => h) (fun b hb => hW.block b (hF b hb))) (Enc.mono _ hg (fun _ h => h) (fun b hb => hW.block b (hF b hb))) (Enc.mono _ hs (fun _ h => h) (fun b hb => hW.block b (hF b hb))) he (by omega) ⟨hs0, hs1⟩ hpos h60 hany)
  clear h ha hg hs hF hE he hany
  generalize Bd.go l acts gts seen c 2000 st [] = X at *
  obtain ⟨e, s2, o2⟩ := X
  by_cases hz : e = 0
  · subst hz
    rw [Bd.fin_end rfl]
    go_enter Try.func58, Try.ntmps58
    go_wp2_with (fail)
    go_at_call 121
    refine (HC.out _ hst.bel).mono ?_
    rintro e w1 ⟨rfl, hb1⟩
    replace hst := hst.call hb1
    clear hb1
    obtain ⟨g0, g1, g2⟩ := hst.at3 3 rfl
    obtain ⟨t0, t1⟩ := hst.at2 2 rfl
    obtain ⟨x0, x1, x2, x3⟩ := hst.at4 1 rfl
    go_wp2_with (fail)
    go_at_call 123
    refine (HR.out _ hst.bel).mono ?_
    rintro e w2 ⟨vs2, ve2, rfl, hst2⟩
    obtain ⟨a2, c2, rfl⟩ := (hst2.ownAt 0 rfl).isLen
    obtain ⟨a3, c3, rfl⟩ := (hst2.ownAt 1 rfl).isLen
    simp only [List.length_map] at hst2 ⊢
    replace hst := hst.joined hst2
    clear hst2 g0 g1 g2 t0 t1 x0 x1 x2 x3
    obtain ⟨x0, x1, x2, x3⟩ := hst.at4 3 rfl
    obtain ⟨y0, y1, y2, y3, yf0, yf1, yf2, yf3⟩ := hst.get3.cel4
    have hstA := ((((hst.get3.setCel 0 (.slice none 0 0)).setCel 1 (.int .i64 seen)).setCel 2 (.int .i64 0)).setCel 3 (.bool true))
    clear hst
    go_wp2
    obtain ⟨z0, z1, z2, z3⟩ := hstA.at4 0 rfl
    refine bodyPost_ret (v := .tuple #[.agg #[.slice none 0 0, .int .i64 seen, .int .i64 0, .bool true], .slice a3 o2.length c3, .int .i64 0]) ?_ rfl ?_
    · simp [results, Try.results58, go_sem, z0, z1, z2, z3]
    · exact ⟨_, _, rfl, (hstA.nth 2 rfl).nilOwn _ _⟩
  · rw [Bd.fin_bad hz]
    have hzb : (e != 0) = true := by rw [bne_iff_ne]; exact hz
    clear hz
    generalize e = E at *
    go_enter Try.func58, Try.ntmps58
    go_wp2_with (fail)
    go_at_call 121
    refine (HC.out _ hst.bel).mono ?_
    rintro e w1 ⟨rfl, hb1⟩
    replace hst := hst.call hb1
    clear hb1
    obtain ⟨g0, g1, g2⟩ := hst.at3 3 rfl
    obtain ⟨t0, t1⟩ := hst.at2 2 rfl
    obtain ⟨x0, x1, x2, x3⟩ := hst.at4 1 rfl
    go_wp2_with (fail)
    go_at_call 123
    refine (HR.out _ hst.bel).mono ?_
    rintro e w2 ⟨vs2, ve2, rfl, hst2⟩
    replace hst := hst.joined hst2
    clear hst2 g0 g1 g2 t0 t1 x0 x1 x2 x3
    obtain ⟨x0, x1, x2, x3⟩ := hst.at4 3 rfl
    obtain ⟨y0, y1, y2, y3, yf0, yf1, yf2, yf3⟩ := hst.get3.cel4
    have hstA := ((((hst.get3.setCel 0 (.slice none 0 0)).setCel 1 (.int .i64 seen)).setCel 2 (.int .i64 E)).setCel 3 (.bool false))
    clear hst
    go_wp2
    obtain ⟨z0, z1, z2, z3⟩ := hstA.at4 0 rfl
    refine bodyPost_ret (v := .tuple #[.agg #[.slice none 0 0, .int .i64 seen, .int .i64 E, .bool false], .slice none 0 0, .int .i64 E]) ?_ rfl ?_
    · simp [results, Try.results58, go_sem, z0, z1, z2, z3]
    · exact ⟨_, _, rfl, ((St.ofBel hstA.bel).nilOwn _ _).nilOwn _ _⟩
end Go.Proofs.Ytldapomcjfkeeaa
