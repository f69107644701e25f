/-
  Push and End of package climb: what they compute.
-/
import Derived.Test.YtldapomcjfkeeaaClSame
namespace Go.Proofs.Ytldapomcjfkeeaa
set_option linter.unusedVariables false
open Go.ChangeShapes Go.WideShapes Go.ChangeAt Go.RowKit

namespace Cl
/-- What a step tells: error, what is ahead (the next one last), how much was seen, what is over, the events. -/
structure R where
  err : Int
  st : List T
  seen : Int
  over : Int
  done : Bool
  out : List (Int × Int)
def fin (last : Bool) (x : Int × List T × List (Int × Int)) (seen : Int) : R :=
  if x.1 ≠ 0 then ⟨x.1, [], seen, x.1, false, []⟩ else if last = true then ⟨0, [], seen, 0, true, x.2.2⟩ else ⟨0, x.2.1.reverse, seen + 1, 0, false, x.2.2⟩
theorem fin_bad {last x seen} (h : x.1 ≠ 0) : fin last x seen = ⟨x.1, [], seen, x.1, false, []⟩ := by rw [fin, if_pos h]
theorem fin_end {x seen} (h : x.1 = 0) : fin true x seen = ⟨0, [], seen, 0, true, x.2.2⟩ := by rw [fin, if_neg (by omega), if_pos rfl]
theorem fin_go {x seen} (h : x.1 = 0) : fin false x seen = ⟨0, x.2.1.reverse, seen + 1, 0, false, x.2.2⟩ := by rw [fin, if_neg (by omega), if_neg (by simp)]
def tell (E : Int) (last : Bool) (x : Int × List T × List (Int × Int)) (st : List T) (seen ov : Int) (dn : Bool) : R := if E ≠ 0 then ⟨E, st, seen, ov, dn, []⟩ else fin last x seen
theorem tell_bad {E last x st seen ov dn} (h : E ≠ 0) : tell E last x st seen ov dn = ⟨E, st, seen, ov, dn, []⟩ := by rw [tell, if_pos h]
theorem tell_ok {last x st seen ov dn} : tell 0 last x st seen ov dn = fin last x seen := by rw [tell, if_neg (by simp)]
def Ret (r : R) (w : World) (e : Ending) (w' : World) : Prop := ∃ vs ve, e = .returned (.tuple #[.agg #[vs, .int .i64 r.seen, .int .i64 r.over, .bool r.done], ve, .int .i64 r.err]) ∧ St w w' [aOwn 125 4 vs (r.st.map todoV), aOwn 81 2 ve (r.out.map pairV)]
section
variable {ps : List (Int × List (Int × Int))} {rows : List (List Int)} {c : Nat} {seen : Int} {a : List T} {e : Int} {ah : List T} {o : List (Int × Int)} {x : T} {r : List T}
theorem push_err (h : dn ps rows c 2001 a [] = (e, ah, o)) (he : e ≠ 0) : push ps rows c seen a = (e, [], []) := by rw [push, h, if_pos he]
theorem push_none (h : dn ps rows c 2001 a [] = (0, [], o)) : push ps rows c seen a = (13, [], []) := by rw [push, h, if_neg (by simp)]; rfl
theorem push_other (h : dn ps rows c 2001 a [] = (0, x :: r, o)) (hx : x.2.2.2 ≠ c) : push ps rows c seen a = (13, [], []) := by rw [push, h, if_neg (by simp)]; simp only [tok]; rw [if_pos hx]
theorem push_many (h : dn ps rows c 2001 a [] = (0, x :: r, o)) (hx : x.2.2.2 = c) (hl : 2000 ≤ o.length) : push ps rows c seen a = (14, [], []) := by rw [push, h, if_neg (by simp)]; simp only [tok]; rw [if_neg (by omega), if_pos hl]
theorem push_clono (h : dn ps rows c 2001 a [] = (0, x :: r, o)) (hx : x.2.2.2 = c) (hl : o.length < 2000) (hq : clo r (o ++ [(2, seen)]) = none) : push ps rows c seen a = (14, [], []) := by rw [push, h, if_neg (by simp)]; simp only [tok]; rw [if_neg (by omega), if_neg (by omega), hq]
theorem push_clo {y1 : List T} {y2 : List (Int × Int)} (h : dn ps rows c 2001 a [] = (0, x :: r, o)) (hx : x.2.2.2 = c) (hl : o.length < 2000) (hq : clo r (o ++ [(2, seen)]) = some (y1, y2)) : push ps rows c seen a = (0, y1, y2) := by rw [push, h, if_neg (by simp)]; simp only [tok]; rw [if_neg (by omega), if_neg (by omega), hq]
theorem end_err (h : dn ps rows c 2001 a [] = (e, ah, o)) (he : e ≠ 0) : ending ps rows c a = (e, [], []) := by rw [ending, h, if_pos he]
theorem end_more (h : dn ps rows c 2001 a [] = (0, x :: r, o)) : ending ps rows c a = (13, [], []) := by rw [ending, h, if_neg (by simp), if_pos (by simp)]
theorem end_done (h : dn ps rows c 2001 a [] = (0, [], o)) : ending ps rows c a = (0, [], o) := by rw [ending, h, if_neg (by simp), if_neg (by simp)]
end
end Cl

set_option maxRecDepth 100000 in
set_option maxHeartbeats 8000000 in
theorem clPush_bad (t n seen ov term col : Int) (dn : Bool) (vp vr vs : Value) (l : List (Int × List (Int × Int))) (rows : List (List Int)) (td : List Cl.T) (w : World) (F : Nat → Prop) (hF : ∀ b, F b → b < w.heap.size) (h : Enc.prods.R F w [vp] l)
    (hr : (((Enc.int .i64).sl 8).sl 24).R F w [vr] rows) (hs : (Enc.todo.sl 32).R F w [vs] td) (E : Int) (hc : (term = t ∧ col = -1) ∨ (term ≠ t ∧ term = col)) (hE : Cl.chk (Rw.all t n l rows) t (Cl.fits t n l.length td seen) (decide (ov ≠ 0) || dn) col = E) (hne : E ≠ 0) :
    Calls Try.prog 63 #[.agg #[.int .i64 t, .int .i64 n, vp], vr, .agg #[vs, .int .i64 seen, .int .i64 ov, .bool dn], .int .i64 term] w (Cl.Ret ⟨E, td, seen, ov, dn, []⟩ w) := by
  have hst := ((((St.init w).alloc #[.int .i64 t, .int .i64 n, vp] 68).alloc #[vs, .int .i64 seen, .int .i64 ov, .bool dn] 121).alloc #[.slice none 0 0, .int .i64 0, .int .i64 0, .bool false] 121)
  simp only [World.size_alloc] at hst
  have HC := fun (W : World) (hW : Below w.heap.size w W) => clCheck_any t n seen ov col dn vp vr vs l rows td W F (fun b hb => Nat.lt_of_lt_of_le (hF b hb) hW.size) (Enc.mono _ h (fun _ h => h) (fun b hb => hW.block b (hF b hb))) (Enc.mono _ hr (fun _ h => h) (fun b hb => hW.block b (hF b hb))) (Enc.mono _ hs (fun _ h => h) (fun b hb => hW.block b (hF b hb)))
  rw [hE] at HC
  replace HC := Lib.hid HC
  have HS := Lib.hid (fun (W : World) (hW : Below w.heap.size w W) => clSame_any seen ov dn W (F := F) (fun b hb => Nat.lt_of_lt_of_le (hF b hb) hW.size) (Enc.mono _ hs (fun _ h => h) (fun b hb => hW.block b (hF b hb))))
  have hneb : (E != 0) = true := by rw [bne_iff_ne]; exact hne
  clear h hr hs hF hE hne
  rcases hc with ⟨rfl, rfl⟩ | ⟨hq, rfl⟩
  · go_enter Try.func63, Try.ntmps63
    go_wp2_with (fail)
    go_at_call 127
    refine (HC.out _ hst.bel).mono ?_
    rintro e w1 ⟨rfl, hb1⟩
    replace hst := hst.call hb1
    clear hb1
    obtain ⟨x0, x1, x2, x3⟩ := hst.at4 1 rfl
    go_wp2_with (fail)
    go_at_call 128
    refine (HS.out _ hst.bel).mono ?_
    rintro e w2 ⟨v', rfl, ho, hb2⟩
    obtain ⟨a2, c2, rfl⟩ := ho.isLen
    rw [List.length_map] at ho ⊢
    replace hst := hst.pushOwn hb2 ho
    clear hb2 ho x0 x1 x2 x3
    obtain ⟨x0, x1, x2, x3, xf0, xf1, xf2, xf3⟩ := hst.get2.cel4
    have hstA := ((((hst.get2.setCel 0 (.slice a2 td.length c2)).setCel 1 (.int .i64 seen)).setCel 2 (.int .i64 ov)).setCel 3 (.bool dn))
    clear hst
    go_wp2
    obtain ⟨z0, z1, z2, z3⟩ := hstA.at4 0 rfl
    have hfin := ((hstA.nth 1 rfl).nilOwn 81 2).get2
    refine bodyPost_ret (v := .tuple #[.agg #[.slice a2 td.length c2, .int .i64 seen, .int .i64 ov, .bool dn], .slice none 0 0, .int .i64 E]) ?_ rfl ?_
    · simp [results, Try.results63, go_sem, z0, z1, z2, z3]
    · exact ⟨_, _, rfl, hfin⟩
  · have hqb : (term == t) = false := by rw [beq_eq_false_iff_ne]; exact hq
    clear hq
    go_enter Try.func63, Try.ntmps63
    go_wp2_with (fail)
    go_at_call 127
    refine (HC.out _ hst.bel).mono ?_
    rintro e w1 ⟨rfl, hb1⟩
    replace hst := hst.call hb1
    clear hb1
    obtain ⟨x0, x1, x2, x3⟩ := hst.at4 1 rfl
    go_wp2_with (fail)
    go_at_call 128
    refine (HS.out _ hst.bel).mono ?_
    rintro e w2 ⟨v', rfl, ho, hb2⟩
    obtain ⟨a2, c2, rfl⟩ := ho.isLen
    rw [List.length_map] at ho ⊢
    replace hst := hst.pushOwn hb2 ho
    clear hb2 ho x0 x1 x2 x3
    obtain ⟨x0, x1, x2, x3, xf0, xf1, xf2, xf3⟩ := hst.get2.cel4
    have hstA := ((((hst.get2.setCel 0 (.slice a2 td.length c2)).setCel 1 (.int .i64 seen)).setCel 2 (.int .i64 ov)).setCel 3 (.bool dn))
    clear hst
    go_wp2
    obtain ⟨z0, z1, z2, z3⟩ := hstA.at4 0 rfl
    have hfin := ((hstA.nth 1 rfl).nilOwn 81 2).get2
    refine bodyPost_ret (v := .tuple #[.agg #[.slice a2 td.length c2, .int .i64 seen, .int .i64 ov, .bool dn], .slice none 0 0, .int .i64 E]) ?_ rfl ?_
    · simp [results, Try.results63, go_sem, z0, z1, z2, z3]
    · exact ⟨_, _, rfl, hfin⟩

set_option maxRecDepth 100000 in
set_option maxHeartbeats 8000000 in
theorem clEnd_bad (t n seen ov : Int) (dn : Bool) (vp vr vs : Value) (l : List (Int × List (Int × Int))) (rows : List (List Int)) (td : List Cl.T) (w : World) (F : Nat → Prop) (hF : ∀ b, F b → b < w.heap.size) (h : Enc.prods.R F w [vp] l)
    (hr : (((Enc.int .i64).sl 8).sl 24).R F w [vr] rows) (hs : (Enc.todo.sl 32).R F w [vs] td) (E : Int) (hE : Cl.chk (Rw.all t n l rows) t (Cl.fits t n l.length td seen) (decide (ov ≠ 0) || dn) t = E) (hne : E ≠ 0) :
    Calls Try.prog 64 #[.agg #[.int .i64 t, .int .i64 n, vp], vr, .agg #[vs, .int .i64 seen, .int .i64 ov, .bool dn]] w (Cl.Ret ⟨E, td, seen, ov, dn, []⟩ w) := by
  have hst := ((((St.init w).alloc #[.int .i64 t, .int .i64 n, vp] 68).alloc #[vs, .int .i64 seen, .int .i64 ov, .bool dn] 121).alloc #[.slice none 0 0, .int .i64 0, .int .i64 0, .bool false] 121)
  simp only [World.size_alloc] at hst
  have HC := fun (W : World) (hW : Below w.heap.size w W) => clCheck_any t n seen ov t dn vp vr vs l rows td W F (fun b hb => Nat.lt_of_lt_of_le (hF b hb) hW.size) (Enc.mono _ h (fun _ h => h) (fun b hb => hW.block b (hF b hb))) (Enc.mono _ hr (fun _ h => h) (fun b hb => hW.block b (hF b hb))) (Enc.mono _ hs (fun _ h => h) (fun b hb => hW.block b (hF b hb)))
  rw [hE] at HC
  replace HC := Lib.hid HC
  have HS := Lib.hid (fun (W : World) (hW : Below w.heap.size w W) => clSame_any seen ov dn W (F := F) (fun b hb => Nat.lt_of_lt_of_le (hF b hb) hW.size) (Enc.mono _ hs (fun _ h => h) (fun b hb => hW.block b (hF b hb))))
  have hneb : (E != 0) = true := by rw [bne_iff_ne]; exact hne
  clear h hr hs hF hE hne
  go_enter Try.func64, Try.ntmps64
  go_wp2_with (fail)
  go_at_call 127
  refine (HC.out _ hst.bel).mono ?_
  rintro e w1 ⟨rfl, hb1⟩
  replace hst := hst.call hb1
  clear hb1
  obtain ⟨x0, x1, x2, x3⟩ := hst.at4 1 rfl
  go_wp2_with (fail)
  go_at_call 128
  refine (HS.out _ hst.bel).mono ?_
  rintro e w2 ⟨v', rfl, ho, hb2⟩
  obtain ⟨a2, c2, rfl⟩ := ho.isLen
  rw [List.length_map] at ho ⊢
  replace hst := hst.pushOwn hb2 ho
  clear hb2 ho x0 x1 x2 x3
  obtain ⟨x0, x1, x2, x3, xf0, xf1, xf2, xf3⟩ := hst.get2.cel4
  have hstA := ((((hst.get2.setCel 0 (.slice a2 td.length c2)).setCel 1 (.int .i64 seen)).setCel 2 (.int .i64 ov)).setCel 3 (.bool dn))
  clear hst
  go_wp2
  obtain ⟨z0, z1, z2, z3⟩ := hstA.at4 0 rfl
  have hfin := ((hstA.nth 1 rfl).nilOwn 81 2).get2
  refine bodyPost_ret (v := .tuple #[.agg #[.slice a2 td.length c2, .int .i64 seen, .int .i64 ov, .bool dn], .slice none 0 0, .int .i64 E]) ?_ rfl ?_
  · simp [results, Try.results64, go_sem, z0, z1, z2, z3]
  · exact ⟨_, _, rfl, hfin⟩

set_option maxRecDepth 100000 in
set_option maxHeartbeats 8000000 in
theorem clPush_ok (t n seen ov : Int) (c : Nat) (dn : Bool) (vp vr vs : Value) (l : List (Int × List (Int × Int))) (rows : List (List Int)) (td : List Cl.T) (w : World) (F : Nat → Prop) (hF : ∀ b, F b → b < w.heap.size) (h : Enc.prods.R F w [vp] l)
    (hr : (((Enc.int .i64).sl 8).sl 24).R F w [vr] rows) (hs : (Enc.todo.sl 32).R F w [vs] td) (hc : (c : Int) < t) (hE : Cl.chk (Rw.all t n l rows) t (Cl.fits t n l.length td seen) (decide (ov ≠ 0) || dn) c = 0) :
    Calls Try.prog 63 #[.agg #[.int .i64 t, .int .i64 n, vp], vr, .agg #[vs, .int .i64 seen, .int .i64 ov, .bool dn], .int .i64 c] w (Cl.Ret (Cl.fin false (Cl.push l rows c seen td.reverse) seen) w) := by
  have hst := ((((St.init w).alloc #[.int .i64 t, .int .i64 n, vp] 68).alloc #[vs, .int .i64 seen, .int .i64 ov, .bool dn] 121).alloc #[.slice none 0 0, .int .i64 0, .int .i64 0, .bool false] 121)
  simp only [World.size_alloc] at hst
  have HC := fun (W : World) (hW : Below w.heap.size w W) => clCheck_any t n seen ov c dn vp vr vs l rows td W F (fun b hb => Nat.lt_of_lt_of_le (hF b hb) hW.size) (Enc.mono _ h (fun _ h => h) (fun b hb => hW.block b (hF b hb))) (Enc.mono _ hr (fun _ h => h) (fun b hb => hW.block b (hF b hb))) (Enc.mono _ hs (fun _ h => h) (fun b hb => hW.block b (hF b hb)))
  rw [hE] at HC
  replace HC := Lib.hid HC
  obtain ⟨he, -, hfit, -, -⟩ := Cl.chk_zero hE
  obtain ⟨h60, hs0, hs1, hany⟩ := Cl.fits_iff.1 hfit
  have hgood : ∀ x ∈ td, Cl.good t n l.length x = true := fun x hx => by
    have := List.any_eq_false.1 hany x hx
    simpa using this
  obtain ⟨ap, -, -, cp, hvp, -⟩ := slProds h
  have HB := Lib.hid (fun (W : World) (hW : Below w.heap.size w W) => clBegun_any (vs := vs) (td := td) t n seen ov ap l.length cp dn W (F := F) (fun b hb => Nat.lt_of_lt_of_le (hF b hb) hW.size) (Enc.mono _ hs (fun _ h => h) (fun b hb => hW.block b (hF b hb))))
  have HD := Lib.hid (fun (W1 w' : World) (W : Nat) (hW : Below w.heap.size w W1) (hk : Cl.Wk W1 w' W t n vp td [] []) => clDown_any W1 W t n vp vr l rows c td [] [] w' F (Enc.mono _ h (fun _ h => h) (fun b hb => hW.block b (hF b hb))) (Enc.mono _ hr (fun _ h => h) (fun b hb => hW.block b (hF b hb))) he (by omega) hk h60 rfl hgood)
  have HFIT := Lib.hid h60
  clear h hr hs hF hE hany hfit hgood he
  subst hvp
  obtain ⟨⟨eD, aD, oD⟩, hD⟩ : ∃ D, Cl.dn l rows c 2001 td.reverse [] = D := ⟨_, rfl⟩
  rw [hD] at HD
  have HDN := Lib.hid hD
  clear hD
  have hqb : ((c : Int) == t) = false := by rw [beq_eq_false_iff_ne]; omega
  by_cases he : eD ≠ 0
  · rw [Cl.push_err HDN.out he, Cl.fin_bad he]
    have hz1 : (eD != 0) = true := by rw [bne_iff_ne]; exact he
    have hz2 : (eD == 0) = false := by rw [beq_eq_false_iff_ne]; exact he
    clear he
    go_enter Try.func63, Try.ntmps63
    go_wp2_with (fail)
    go_at_call 127
    refine (HC.out _ hst.bel).mono ?_
    rintro e w1 ⟨rfl, hb1⟩
    replace hst := hst.call hb1
    clear hb1
    obtain ⟨g0, g1, g2⟩ := hst.at3 2 rfl
    obtain ⟨x0, x1, x2, x3⟩ := hst.at4 1 rfl
    go_wp2_with (fail)
    go_at_call 129
    refine (HB.out _ hst.bel).mono ?_
    rintro e w2 ⟨W, rfl, H1⟩
    have g0 := bkeep H1.bel g0
    go_wp2_with (fail)
    go_at_call 130
    refine (HD.out _ _ _ hst.bel H1).mono ?_
    rintro e w3 ⟨rfl, td3, out3, H2, hx⟩
    simp only at hx
    have HST := Lib.hid hst
    clear H1 hst g0 g1 g2 x0 x1 x2 x3
    obtain ⟨vt, vo, hstW⟩ := H2
    replace hst := HST.out.joined hstW
    clear hstW
    go_wp2
    go_region
    have hst := hst.drew
    generalize w3.drew = w4 at *
    obtain ⟨x0, x1, x2, x3⟩ := hst.at4 4 rfl
    obtain ⟨y0, y1, y2, y3, yf0, yf1, yf2, yf3⟩ := hst.get4.cel4
    have hstA := ((((hst.get4.setCel 0 (.slice none 0 0)).setCel 1 (.int .i64 seen)).setCel 2 (.int .i64 eD)).setCel 3 (.bool false))
    clear hst
    go_wp2
    obtain ⟨z0, z1, z2, z3⟩ := hstA.at4 0 rfl
    refine bodyPost_ret (v := .tuple #[.agg #[.slice none 0 0, .int .i64 seen, .int .i64 eD, .bool false], .slice none 0 0, .int .i64 eD]) ?_ rfl ?_
    · simp [results, Try.results63, go_sem, z0, z1, z2, z3]
    · exact ⟨_, _, rfl, ((St.ofBel hstA.bel).nilOwn _ _).nilOwn _ _⟩
  obtain rfl : eD = 0 := by omega
  clear he
  rcases aD with _ | ⟨x, r⟩
  · rw [Cl.push_none HDN.out, Cl.fin_bad (by simp)]
    go_enter Try.func63, Try.ntmps63
    go_wp2_with (fail)
    go_at_call 127
    refine (HC.out _ hst.bel).mono ?_
    rintro e w1 ⟨rfl, hb1⟩
    replace hst := hst.call hb1
    clear hb1
    obtain ⟨g0, g1, g2⟩ := hst.at3 2 rfl
    obtain ⟨x0, x1, x2, x3⟩ := hst.at4 1 rfl
    go_wp2_with (fail)
    go_at_call 129
    refine (HB.out _ hst.bel).mono ?_
    rintro e w2 ⟨W, rfl, H1⟩
    have g0 := bkeep H1.bel g0
    go_wp2_with (fail)
    go_at_call 130
    refine (HD.out _ _ _ hst.bel H1).mono ?_
    rintro e w3 ⟨rfl, td3, out3, H2, hx⟩
    simp only at hx
    have HST := Lib.hid hst
    clear H1 hst g0 g1 g2 x0 x1 x2 x3
    obtain ⟨rfl, rfl, h5, h6, h7⟩ := hx trivial
    clear hx
    obtain ⟨vt, vo, hstW⟩ := H2
    rcases hstW.get2.own.shape with ⟨rfl, _⟩ | ⟨ga, ca, rfl, _, _⟩
    all_goals
      replace hst := HST.out.joined hstW
      have w3c := (hst.nth 0 rfl).celAt (i := 3) rfl
      clear hstW
      go_wp2
      go_region
      have hst := hst.drew
      generalize w3.drew = w4 at *
      obtain ⟨x0, x1, x2, x3⟩ := hst.at4 4 rfl
      obtain ⟨y0, y1, y2, y3, yf0, yf1, yf2, yf3⟩ := hst.get4.cel4
      have hstA := ((((hst.get4.setCel 0 (.slice none 0 0)).setCel 1 (.int .i64 seen)).setCel 2 (.int .i64 13)).setCel 3 (.bool false))
      clear hst
      go_wp2
      obtain ⟨z0, z1, z2, z3⟩ := hstA.at4 0 rfl
      refine bodyPost_ret (v := .tuple #[.agg #[.slice none 0 0, .int .i64 seen, .int .i64 13, .bool false], .slice none 0 0, .int .i64 13]) ?_ rfl ?_
      · simp [results, Try.results63, go_sem, z0, z1, z2, z3]
      · exact ⟨_, _, rfl, ((St.ofBel hstA.bel).nilOwn _ _).nilOwn _ _⟩
  obtain ⟨ys, rfl⟩ : ∃ ys : List Cl.T, r = ys.reverse := ⟨r.reverse, by simp⟩
  by_cases hN : x.2.2.2 ≠ c
  · rw [Cl.push_other HDN.out hN, Cl.fin_bad (by simp)]
    have hNb : (x.2.2.2 != (c : Int)) = true := by rw [bne_iff_ne]; exact hN
    clear hN
    go_enter Try.func63, Try.ntmps63
    go_wp2_with (fail)
    go_at_call 127
    refine (HC.out _ hst.bel).mono ?_
    rintro e w1 ⟨rfl, hb1⟩
    replace hst := hst.call hb1
    clear hb1
    obtain ⟨g0, g1, g2⟩ := hst.at3 2 rfl
    obtain ⟨x0, x1, x2, x3⟩ := hst.at4 1 rfl
    go_wp2_with (fail)
    go_at_call 129
    refine (HB.out _ hst.bel).mono ?_
    rintro e w2 ⟨W, rfl, H1⟩
    have g0 := bkeep H1.bel g0
    go_wp2_with (fail)
    go_at_call 130
    refine (HD.out _ _ _ hst.bel H1).mono ?_
    rintro e w3 ⟨rfl, td3, out3, H2, hx⟩
    simp only at hx
    have HST := Lib.hid hst
    clear H1 hst g0 g1 g2 x0 x1 x2 x3
    obtain ⟨rfl, rfl, h5, h6, h7⟩ := hx trivial
    clear hx
    rw [List.reverse_cons, List.reverse_reverse] at H2
    rw [List.reverse_cons, List.reverse_reverse, List.length_append, List.length_singleton] at h5
    have HW := Lib.hid H2
    obtain ⟨vt, vo, hstW⟩ := H2
    rcases hstW.get2.own.shape with ⟨_, he⟩ | ⟨ga, ca, rfl, hga, hgb⟩
    · simp at he
    rw [List.length_map, List.length_append, List.length_singleton] at hstW
    have c3 := (hstW.nth 0 rfl).celAt (i := 3) rfl
    obtain ⟨-, -, -, d3⟩ := hstW.get2.cellTodo ys.length (by simp)
    rw [Cl.snoc_get] at d3
    have hl1 : (((ys.length : Int) + 1) == 0) = false := by rw [beq_eq_false_iff_ne]; omega
    have hl2 : IntKind.i64.wrap (ys.length : Int) = (ys.length : Int) := IntWalk.i64_in _ (by omega)
    have hl3 : (0 : Int) ≤ (ys.length : Int) := by omega
    clear hga hgb
    replace hst := HST.out.joined hstW
    clear hstW HW
    go_wp2
    go_region
    have hst := hst.drew
    generalize w3.drew = w4 at *
    clear hl1 hl2 hl3 c3 d3
    obtain ⟨x0, x1, x2, x3⟩ := hst.at4 4 rfl
    obtain ⟨y0, y1, y2, y3, yf0, yf1, yf2, yf3⟩ := hst.get4.cel4
    have hstA := ((((hst.get4.setCel 0 (.slice none 0 0)).setCel 1 (.int .i64 seen)).setCel 2 (.int .i64 13)).setCel 3 (.bool false))
    clear hst
    go_wp2
    obtain ⟨z0, z1, z2, z3⟩ := hstA.at4 0 rfl
    refine bodyPost_ret (v := .tuple #[.agg #[.slice none 0 0, .int .i64 seen, .int .i64 13, .bool false], .slice none 0 0, .int .i64 13]) ?_ rfl ?_
    · simp [results, Try.results63, go_sem, z0, z1, z2, z3]
    · exact ⟨_, _, rfl, ((St.ofBel hstA.bel).nilOwn _ _).nilOwn _ _⟩
  have hN' : x.2.2.2 = c := by omega
  have hNb : (x.2.2.2 != (c : Int)) = false := by rw [bne_eq_false_iff_eq]; exact hN'
  clear hN
  have HN := Lib.hid hN'
  clear hN'
  obtain ⟨X, hX⟩ : ∃ X, Cl.push l rows c seen td.reverse = X := ⟨_, rfl⟩
  rw [hX]
  have HX := Lib.hid hX
  clear hX
  go_enter Try.func63, Try.ntmps63
  go_wp2_with (fail)
  go_at_call 127
  refine (HC.out _ hst.bel).mono ?_
  rintro e w1 ⟨rfl, hb1⟩
  replace hst := hst.call hb1
  clear hb1
  obtain ⟨g0, g1, g2⟩ := hst.at3 2 rfl
  obtain ⟨x0, x1, x2, x3⟩ := hst.at4 1 rfl
  go_wp2_with (fail)
  go_at_call 129
  refine (HB.out _ hst.bel).mono ?_
  rintro e w2 ⟨W, rfl, H1⟩
  have g0 := bkeep H1.bel g0
  go_wp2_with (fail)
  go_at_call 130
  refine (HD.out _ _ _ hst.bel H1).mono ?_
  rintro e w3 ⟨rfl, td3, out3, H2, hx⟩
  simp only at hx
  have HST := Lib.hid hst
  clear H1 hst g0 g1 g2 x0 x1 x2 x3
  obtain ⟨rfl, rfl, h5, h6, h7⟩ := hx trivial
  clear hx
  rw [List.reverse_cons, List.reverse_reverse] at H2
  rw [List.reverse_cons, List.reverse_reverse, List.length_append, List.length_singleton] at h5
  have HW := Lib.hid H2
  obtain ⟨vt, vo, hstW⟩ := H2
  rcases hstW.get2.own.shape with ⟨_, he⟩ | ⟨ga, ca, rfl, hga, hgb⟩
  · simp at he
  rw [List.length_map, List.length_append, List.length_singleton] at hstW
  have c3 := (hstW.nth 0 rfl).celAt (i := 3) rfl
  obtain ⟨-, -, -, d3⟩ := hstW.get2.cellTodo ys.length (by simp)
  rw [Cl.snoc_get] at d3
  have hl1 : (((ys.length : Int) + 1) == 0) = false := by rw [beq_eq_false_iff_ne]; omega
  have hl2 : IntKind.i64.wrap (ys.length : Int) = (ys.length : Int) := IntWalk.i64_in _ (by omega)
  have hl3 : (0 : Int) ≤ (ys.length : Int) := by omega
  clear hga hgb
  clear hstW
  go_wp2
  go_region
  clear hl1 hl2 hl3 c3 d3
  have H4 := Lib.hid HW.out.drew
  clear HW
  generalize w3.drew = w4 at *
  go_wp2_with (fail)
  go_at_call 131
  refine (clPop_any w1 W t n _ ys x out3 [] _ H4.out (by omega)).mono ?_
  rintro e w5 ⟨rfl, H5⟩
  replace H5 := Lib.hid H5
  have x1 := bkeep H5.out.bel (HST.out.at4 1 rfl).2.1
  by_cases h20 : 2000 ≤ out3.length
  · rw [Cl.push_many HDN.out HN.out h20] at HX
    obtain rfl := HX.out
    rw [Cl.fin_bad (by simp)]
    have hd : decide (out3.length < 2000) = false := decide_eq_false (by omega)
    go_wp2_with (fail)
    go_at_call 132
    refine (clAct_any w1 W t n _ ys out3 [] 2 seen _ H5.out (by omega)).mono ?_
    rw [hd]
    rintro e w6 ⟨rfl, H6⟩
    clear hd x1
    obtain ⟨vt2, vo2, hstW⟩ := H6
    replace hst := HST.out.joined hstW
    clear hstW
    obtain ⟨x0, x1, x2, x3⟩ := hst.at4 4 rfl
    obtain ⟨y0, y1, y2, y3, yf0, yf1, yf2, yf3⟩ := hst.get4.cel4
    have hstA := ((((hst.get4.setCel 0 (.slice none 0 0)).setCel 1 (.int .i64 seen)).setCel 2 (.int .i64 14)).setCel 3 (.bool false))
    clear hst
    go_wp2
    obtain ⟨z0, z1, z2, z3⟩ := hstA.at4 0 rfl
    refine bodyPost_ret (v := .tuple #[.agg #[.slice none 0 0, .int .i64 seen, .int .i64 14, .bool false], .slice none 0 0, .int .i64 14]) ?_ rfl ?_
    · simp [results, Try.results63, go_sem, z0, z1, z2, z3]
    · exact ⟨_, _, rfl, ((St.ofBel hstA.bel).nilOwn _ _).nilOwn _ _⟩
  have HX2 := HX
  clear HX
  have hd : decide (out3.length < 2000) = true := decide_eq_true (by omega)
  go_wp2_with (fail)
  go_at_call 132
  refine (clAct_any w1 W t n _ ys out3 [] 2 seen _ H5.out (by omega)).mono ?_
  rw [hd]
  rintro e w6 ⟨rfl, H6⟩
  clear hd x1
  obtain ⟨Y, hY⟩ : ∃ Y, Cl.clo ys.reverse (out3 ++ [(2, seen)]) = Y := ⟨_, rfl⟩
  have hcon := clCloses_any w1 W t n _ ys (out3 ++ [(2, seen)]) [] w6 H6 (by omega) (by rw [List.length_append, List.length_singleton]; omega)
  rw [hY] at hcon
  have HC := Lib.hid hcon
  clear hcon H6
  rcases Y with _ | ⟨y1, y2⟩
  · have hX := HX2.out
    rw [Cl.push_clono HDN.out HN.out (by omega) hY] at hX
    subst hX
    rw [Cl.fin_bad (by simp)]
    clear hY HX2
    go_wp2_with (fail)
    go_at_call 133
    refine HC.out.mono ?_
    rintro e w7 ⟨he, td7, out7, H7, -⟩
    replace he : e = .returned (.bool false) := he
    subst he
    obtain ⟨vt2, vo2, hstW⟩ := H7
    replace hst := HST.out.joined hstW
    clear hstW
    obtain ⟨x0, x1, x2, x3⟩ := hst.at4 4 rfl
    obtain ⟨y0, y1, y2, y3, yf0, yf1, yf2, yf3⟩ := hst.get4.cel4
    have hstA := ((((hst.get4.setCel 0 (.slice none 0 0)).setCel 1 (.int .i64 seen)).setCel 2 (.int .i64 14)).setCel 3 (.bool false))
    clear hst
    go_wp2
    obtain ⟨z0, z1, z2, z3⟩ := hstA.at4 0 rfl
    refine bodyPost_ret (v := .tuple #[.agg #[.slice none 0 0, .int .i64 seen, .int .i64 14, .bool false], .slice none 0 0, .int .i64 14]) ?_ rfl ?_
    · simp [results, Try.results63, go_sem, z0, z1, z2, z3]
    · exact ⟨_, _, rfl, ((St.ofBel hstA.bel).nilOwn _ _).nilOwn _ _⟩
  · have hX := HX2.out
    rw [Cl.push_clo HDN.out HN.out (by omega) hY] at hX
    subst hX
    rw [Cl.fin_go rfl]
    clear hY HX2
    go_wp2_with (fail)
    go_at_call 133
    refine HC.out.mono ?_
    rintro e w7 ⟨he, td7, out7, H7, hq⟩
    replace he : e = .returned (.bool true) := he
    subst he
    obtain ⟨rfl, rfl⟩ := hq _ rfl
    clear hq
    obtain ⟨vt2, vo2, hstW⟩ := H7
    obtain ⟨at2, ct2, rfl⟩ := hstW.get2.own.isLen
    obtain ⟨ao2, co2, rfl⟩ := hstW.get3.own.isLen
    simp only [List.length_map, List.length_reverse] at hstW
    replace hst := HST.out.joined hstW
    clear hstW
    have q3 := (hst.nth 0 rfl).celAt (i := 3) rfl
    have q4 := (hst.nth 0 rfl).celAt (i := 4) rfl
    obtain ⟨x0, x1, x2, x3⟩ := hst.at4 4 rfl
    obtain ⟨y0, y1', y2', y3, yf0, yf1, yf2, yf3⟩ := hst.get4.cel4
    have lW := World.block_lt_of_cell? _ _ q3
    have lX := World.block_lt_of_cell? _ _ x1
    go_wp2
    go_region
    have hstA := (((((hst.get4.setCel 0 (.slice at2 y1.length ct2)).setCel 1 (.int .i64 (seen + 1))).setCel 2 (.int .i64 0)).setCel 3 (.bool false))).drew
    clear hst
    obtain ⟨z0, z1, z2, z3⟩ := hstA.at4 0 rfl
    clear x0 x1 x2 x3 y0 y1' y2' y3 yf0 yf1 yf2 yf3 q3 q4 lW lX
    generalize ((((w7.setCell ⟨w.heap.size + 1 + 1, 0, none⟩ (.slice at2 y1.length ct2)).setCell ⟨w.heap.size + 1 + 1, 1, none⟩ (.int .i64 (seen + 1))).setCell ⟨w.heap.size + 1 + 1, 2, none⟩ (.int .i64 0)).setCell ⟨w.heap.size + 1 + 1, 3, none⟩ (.bool false)).drew = w8 at *
    go_wp2
    refine bodyPost_ret (v := .tuple #[.agg #[.slice at2 y1.length ct2, .int .i64 (seen + 1), .int .i64 0, .bool false], .slice ao2 out7.length co2, .int .i64 0]) ?_ rfl ?_
    · simp [results, Try.results63, go_sem, z0, z1, z2, z3]
    · exact ⟨.slice at2 y1.length ct2, _, rfl, hstA.drop.drop.two⟩

set_option maxRecDepth 100000 in
set_option maxHeartbeats 8000000 in
theorem clEnd_ok (t n seen ov : Int) (c : Nat) (dn : Bool) (vp vr vs : Value) (l : List (Int × List (Int × Int))) (rows : List (List Int)) (td : List Cl.T) (w : World) (F : Nat → Prop) (hF : ∀ b, F b → b < w.heap.size) (h : Enc.prods.R F w [vp] l)
    (hr : (((Enc.int .i64).sl 8).sl 24).R F w [vr] rows) (hs : (Enc.todo.sl 32).R F w [vs] td) (hc : t = (c : Int)) (hE : Cl.chk (Rw.all t n l rows) t (Cl.fits t n l.length td seen) (decide (ov ≠ 0) || dn) c = 0) :
    Calls Try.prog 64 #[.agg #[.int .i64 t, .int .i64 n, vp], vr, .agg #[vs, .int .i64 seen, .int .i64 ov, .bool dn]] w (Cl.Ret (Cl.fin true (Cl.ending l rows c td.reverse) seen) w) := by
  subst hc
  have hst := ((((St.init w).alloc #[.int .i64 (c : Int), .int .i64 n, vp] 68).alloc #[vs, .int .i64 seen, .int .i64 ov, .bool dn] 121).alloc #[.slice none 0 0, .int .i64 0, .int .i64 0, .bool false] 121)
  simp only [World.size_alloc] at hst
  have HC := fun (W : World) (hW : Below w.heap.size w W) => clCheck_any c n seen ov c dn vp vr vs l rows td W F (fun b hb => Nat.lt_of_lt_of_le (hF b hb) hW.size) (Enc.mono _ h (fun _ h => h) (fun b hb => hW.block b (hF b hb))) (Enc.mono _ hr (fun _ h => h) (fun b hb => hW.block b (hF b hb))) (Enc.mono _ hs (fun _ h => h) (fun b hb => hW.block b (hF b hb)))
  rw [hE] at HC
  replace HC := Lib.hid HC
  obtain ⟨he, -, hfit, -, -⟩ := Cl.chk_zero hE
  obtain ⟨h60, hs0, hs1, hany⟩ := Cl.fits_iff.1 hfit
  have hgood : ∀ x ∈ td, Cl.good c n l.length x = true := fun x hx => by
    have := List.any_eq_false.1 hany x hx
    simpa using this
  obtain ⟨ap, -, -, cp, hvp, -⟩ := slProds h
  have HB := Lib.hid (fun (W : World) (hW : Below w.heap.size w W) => clBegun_any (vs := vs) (td := td) c n seen ov ap l.length cp dn W (F := F) (fun b hb => Nat.lt_of_lt_of_le (hF b hb) hW.size) (Enc.mono _ hs (fun _ h => h) (fun b hb => hW.block b (hF b hb))))
  have HD := Lib.hid (fun (W1 w' : World) (W : Nat) (hW : Below w.heap.size w W1) (hk : Cl.Wk W1 w' W c n vp td [] []) => clDown_any W1 W c n vp vr l rows c td [] [] w' F (Enc.mono _ h (fun _ h => h) (fun b hb => hW.block b (hF b hb))) (Enc.mono _ hr (fun _ h => h) (fun b hb => hW.block b (hF b hb))) he (by omega) hk h60 rfl hgood)
  have HFIT := Lib.hid h60
  clear h hr hs hF hE hany hfit hgood he
  subst hvp
  obtain ⟨⟨eD, aD, oD⟩, hD⟩ : ∃ D, Cl.dn l rows c 2001 td.reverse [] = D := ⟨_, rfl⟩
  rw [hD] at HD
  have HDN := Lib.hid hD
  clear hD
  by_cases he : eD ≠ 0
  · rw [Cl.end_err HDN.out he, Cl.fin_bad he]
    have hz1 : (eD != 0) = true := by rw [bne_iff_ne]; exact he
    have hz2 : (eD == 0) = false := by rw [beq_eq_false_iff_ne]; exact he
    clear he
    go_enter Try.func64, Try.ntmps64
    go_wp2_with (fail)
    go_at_call 127
    refine (HC.out _ hst.bel).mono ?_
    rintro e w1 ⟨rfl, hb1⟩
    replace hst := hst.call hb1
    clear hb1
    obtain ⟨g0, g1, g2⟩ := hst.at3 2 rfl
    obtain ⟨x0, x1, x2, x3⟩ := hst.at4 1 rfl
    go_wp2_with (fail)
    go_at_call 129
    refine (HB.out _ hst.bel).mono ?_
    rintro e w2 ⟨W, rfl, H1⟩
    have g0 := bkeep H1.bel g0
    go_wp2_with (fail)
    go_at_call 130
    refine (HD.out _ _ _ hst.bel H1).mono ?_
    rintro e w3 ⟨rfl, td3, out3, H2, hx⟩
    simp only at hx
    have HST := Lib.hid hst
    clear H1 hst g0 g1 g2 x0 x1 x2 x3
    obtain ⟨vt, vo, hstW⟩ := H2
    replace hst := HST.out.joined hstW
    clear hstW
    obtain ⟨x0, x1, x2, x3⟩ := hst.at4 4 rfl
    obtain ⟨y0, y1, y2, y3, yf0, yf1, yf2, yf3⟩ := hst.get4.cel4
    have hstA := ((((hst.get4.setCel 0 (.slice none 0 0)).setCel 1 (.int .i64 seen)).setCel 2 (.int .i64 eD)).setCel 3 (.bool false))
    clear hst
    go_wp2
    obtain ⟨z0, z1, z2, z3⟩ := hstA.at4 0 rfl
    refine bodyPost_ret (v := .tuple #[.agg #[.slice none 0 0, .int .i64 seen, .int .i64 eD, .bool false], .slice none 0 0, .int .i64 eD]) ?_ rfl ?_
    · simp [results, Try.results64, go_sem, z0, z1, z2, z3]
    · exact ⟨_, _, rfl, ((St.ofBel hstA.bel).nilOwn _ _).nilOwn _ _⟩
  obtain rfl : eD = 0 := by omega
  clear he
  rcases aD with _ | ⟨x, r⟩
  · rw [Cl.end_done HDN.out, Cl.fin_end rfl]
    go_enter Try.func64, Try.ntmps64
    go_wp2_with (fail)
    go_at_call 127
    refine (HC.out _ hst.bel).mono ?_
    rintro e w1 ⟨rfl, hb1⟩
    replace hst := hst.call hb1
    clear hb1
    obtain ⟨g0, g1, g2⟩ := hst.at3 2 rfl
    obtain ⟨x0, x1, x2, x3⟩ := hst.at4 1 rfl
    go_wp2_with (fail)
    go_at_call 129
    refine (HB.out _ hst.bel).mono ?_
    rintro e w2 ⟨W, rfl, H1⟩
    have g0 := bkeep H1.bel g0
    go_wp2_with (fail)
    go_at_call 130
    refine (HD.out _ _ _ hst.bel H1).mono ?_
    rintro e w3 ⟨rfl, td3, out3, H2, hx⟩
    simp only at hx
    have HST := Lib.hid hst
    clear H1 hst g0 g1 g2 x0 x1 x2 x3
    obtain ⟨rfl, rfl, h5, h6, h7⟩ := hx trivial
    clear hx
    obtain ⟨vt, vo, hstW⟩ := H2
    obtain ⟨ao2, co2, rfl⟩ := hstW.get3.own.isLen
    simp only [List.length_map] at hstW
    rcases hstW.get2.own.shape with ⟨rfl, _⟩ | ⟨ga, ca, rfl, _, _⟩
    all_goals
      replace hst := HST.out.joined hstW
      clear hstW
      have q3 := (hst.nth 0 rfl).celAt (i := 3) rfl
      have q4 := (hst.nth 0 rfl).celAt (i := 4) rfl
      obtain ⟨x0, x1, x2, x3⟩ := hst.at4 4 rfl
      obtain ⟨y0, y1', y2', y3, yf0, yf1, yf2, yf3⟩ := hst.get4.cel4
      have lW := World.block_lt_of_cell? _ _ q3
      have lX := World.block_lt_of_cell? _ _ x1
      go_wp2
      go_region
      have hstA := (((((hst.get4.setCel 0 (.slice none 0 0)).setCel 1 (.int .i64 seen)).setCel 2 (.int .i64 0)).setCel 3 (.bool true))).drew
      clear hst
      obtain ⟨z0, z1, z2, z3⟩ := hstA.at4 0 rfl
      clear x0 x1 x2 x3 y0 y1' y2' y3 yf0 yf1 yf2 yf3 q3 q4 lW lX
      generalize ((((w3.setCell ⟨w.heap.size + 1 + 1, 0, none⟩ (.slice none 0 0)).setCell ⟨w.heap.size + 1 + 1, 1, none⟩ (.int .i64 seen)).setCell ⟨w.heap.size + 1 + 1, 2, none⟩ (.int .i64 0)).setCell ⟨w.heap.size + 1 + 1, 3, none⟩ (.bool true)).drew = w8 at *
      go_wp2
      refine bodyPost_ret (v := .tuple #[.agg #[.slice none 0 0, .int .i64 seen, .int .i64 0, .bool true], .slice ao2 out3.length co2, .int .i64 0]) ?_ rfl ?_
      · simp [results, Try.results64, go_sem, z0, z1, z2, z3]
      · exact ⟨_, _, rfl, (hstA.nth 3 rfl).nilOwn _ _⟩
  · rw [Cl.end_more HDN.out, Cl.fin_bad (by simp)]
    go_enter Try.func64, Try.ntmps64
    go_wp2_with (fail)
    go_at_call 127
    refine (HC.out _ hst.bel).mono ?_
    rintro e w1 ⟨rfl, hb1⟩
    replace hst := hst.call hb1
    clear hb1
    obtain ⟨g0, g1, g2⟩ := hst.at3 2 rfl
    obtain ⟨x0, x1, x2, x3⟩ := hst.at4 1 rfl
    go_wp2_with (fail)
    go_at_call 129
    refine (HB.out _ hst.bel).mono ?_
    rintro e w2 ⟨W, rfl, H1⟩
    have g0 := bkeep H1.bel g0
    go_wp2_with (fail)
    go_at_call 130
    refine (HD.out _ _ _ hst.bel H1).mono ?_
    rintro e w3 ⟨rfl, td3, out3, H2, hx⟩
    simp only at hx
    have HST := Lib.hid hst
    clear H1 hst g0 g1 g2 x0 x1 x2 x3
    obtain ⟨rfl, rfl, h5, h6, h7⟩ := hx trivial
    clear hx
    obtain ⟨vt, vo, hstW⟩ := H2
    rcases hstW.get2.own.shape with ⟨_, he⟩ | ⟨ga, ca, rfl, _, _⟩
    · simp at he
    have hpos : (0 : Int) < ((List.map todoV (x :: r).reverse).length : Int) := by simp
    generalize (List.map todoV (x :: r).reverse).length = ln at hpos hstW
    replace hst := HST.out.joined hstW
    have w3c := (hst.nth 0 rfl).celAt (i := 3) rfl
    clear hstW
    obtain ⟨x0, x1, x2, x3⟩ := hst.at4 4 rfl
    obtain ⟨y0, y1, y2, y3, yf0, yf1, yf2, yf3⟩ := hst.get4.cel4
    have hstA := ((((hst.get4.setCel 0 (.slice none 0 0)).setCel 1 (.int .i64 seen)).setCel 2 (.int .i64 13)).setCel 3 (.bool false))
    clear hst
    go_wp2
    obtain ⟨z0, z1, z2, z3⟩ := hstA.at4 0 rfl
    refine bodyPost_ret (v := .tuple #[.agg #[.slice none 0 0, .int .i64 seen, .int .i64 13, .bool false], .slice none 0 0, .int .i64 13]) ?_ rfl ?_
    · simp [results, Try.results64, go_sem, z0, z1, z2, z3]
    · exact ⟨_, _, rfl, ((St.ofBel hstA.bel).nilOwn _ _).nilOwn _ _⟩
end Go.Proofs.Ytldapomcjfkeeaa
