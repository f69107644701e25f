/-
  The law TreesReads.
-/
import Derived.Test.YtldapomcjfkeeaaTrOfE
import Derived.Test.YtldapomcjfkeeaaTrOfU
import Derived.Test.YtldapomcjfkeeaaGramIn
import Derived.Test.YtldapomcjfkeeaaEvtEq
namespace Go.Proofs.Ytldapomcjfkeeaa
set_option linter.unusedVariables false
set_option linter.unusedSimpArgs false
open Go.ChangeShapes Go.WideShapes Go.ChangeAt Go.RowKit

namespace Tr
theorem anyAt {w0 w : World} {μ : List Asrt} {fp : List Nat} {t : Tr} {v : Value} (h : St w0 w μ) (i : Nat) (hA : μ[i]? = some (aEnc (any.sl 40) fp [v] t.kids)) (h1 : In64 t.prod) (h2 : In64 t.tok) : any.R (fun b => b < w.heap.size) w [.int .i64 t.prod, .int .i64 t.tok, v] t :=
  any_of h1 h2 (h.encAt i hA)
theorem anyNil {F : Nat → Prop} {w : World} : any.R F w [.int .i64 0, .int .i64 0, .slice Option.none 0 0] nil :=
  any_mk ⟨by decide, by decide⟩ ⟨by decide, by decide⟩ sl_nil
end Tr

set_option maxRecDepth 100000 in
set_option maxHeartbeats 8000000 in
theorem treesReads_walk (tg ng : Int) (vp : Value) (l : List (Int × List (Int × Int))) (F : Nat → Prop) (al : Option Addr) (cl : Nat) (E : List Tr.Ev) (w : World) (hF : ∀ b, F b → b < w.heap.size) (hp : Enc.prods.R F w [vp] l) (hev : (Enc.two.sl 16).R F w [.slice al E.length cl] E) :
    Calls Try.prog 10 #[.agg #[.int .i64 tg, .int .i64 ng, vp], .slice al E.length cl] w fun e w' => e = .returned (.bool true) ∧ Below w.heap.size w w' := by
  obtain ⟨eT, he⟩ := Tr.isErr tg ng l
  have hp2 := hp
  obtain ⟨ap, bp, op, cp, rfl, -, -, -⟩ := slProds hp2
  have hst := (St.init w).alloc #[.int .i64 tg, .int .i64 ng, .slice ap l.length cp] 68
  have hPW := fun W (hW : Below w.heap.size w W) => (Enc.mono _ hp (fun _ h => h) (fun b hb => hW.block b (hF b hb)) : Enc.prods.R F W [.slice ap l.length cp] l)
  have hEW := fun W (hW : Below w.heap.size w W) => (Enc.mono _ hev (fun _ h => h) (fun b hb => hW.block b (hF b hb)) : (Enc.two.sl 16).R F W [.slice al E.length cl] E)
  have hFW := fun W (hW : Below w.heap.size w W) => (fun b hb => Nat.lt_of_lt_of_le (hF b hb) hW.size : ∀ b, F b → b < W.heap.size)
  have HD := Lib.hid (fun W (hW : Below w.heap.size w W) => trOfDown_any tg ng _ l F al cl E eT W (hFW W hW) (hPW W hW) (hEW W hW) he)
  have HU := Lib.hid (fun W (hW : Below w.heap.size w W) => trOfUp_any tg ng _ l F al cl E eT W (hFW W hW) (hPW W hW) (hEW W hW) he)
  have HC := Lib.hid (fun W (hW : Below w.heap.size w W) => rcfg_any tg ng _ l W F (hFW W hW) (hPW W hW))
  have HST := Lib.hid hst
  obtain ⟨g0, g1, g2⟩ := hst.at3 0 rfl
  by_cases hg : Gr.err tg ng l = 0
  · have HE := Lib.hid (fun d W (hW : Below w.heap.size w W) => rOfEvents_any d tg ng _ l F al cl E eT W (hFW W hW) (hPW W hW) (hEW W hW) he hg)
    have hdn := Tr.down_same (G := l) (E := E)
    have hup := Tr.up_same (G := l) (fun p hp => ((Gr.err_zero hg).2.2.2.2.2 p hp).2.1) (E := E)
    have HGR := Lib.hid hg
    have HET := Lib.hid (fun W hW => HE.out true W hW)
    have HEF := Lib.hid (fun W hW => HE.out false W hW)
    simp only [if_true, Bool.false_eq_true, if_false] at HET HEF
    rw [← hdn] at HET
    rw [← hup] at HEF
    rw [hg] at HD HU
    generalize Tr.outc 0 eT E.length (Tr.ofDn true l E) = r1 at *
    generalize Tr.outc 0 eT E.length (Tr.ofUp l E) = r2 at *
    clear hst hp hp2 hev hF hPW hEW hFW he hg hdn hup HE
    go_enter Try.func10, Try.ntmps10
    go_wp2_with (fail)
    go_at_call 50
    refine (HD.out _ HST.out.bel).mono ?_
    rintro e w1 ⟨ao1, n1, c1, fp1, rfl, i1, j1, hst1⟩
    have hst2 := (HST.out.joined hst1).alloc #[.int .i64 r1.2.prod, .int .i64 r1.2.tok, .slice ao1 n1 c1] 71
    have HST2 := Lib.hid hst2
    have I1 := Lib.hid i1; have J1 := Lib.hid j1
    clear hst1 HST i1 j1 g0 g1 g2
    obtain ⟨g0, g1, g2⟩ := hst2.at3 2 rfl
    clear hst2
    go_wp2_with (fail)
    go_at_call 51
    refine (HU.out _ HST2.out.bel).mono ?_
    rintro e w2 ⟨ao2, n2, c2, fp2, rfl, i2, j2, hst3⟩
    have hst4 := (HST2.out.joined hst3).alloc #[.int .i64 r2.2.prod, .int .i64 r2.2.tok, .slice ao2 n2 c2] 71
    have HST4 := Lib.hid hst4
    have I2 := Lib.hid i2; have J2 := Lib.hid j2
    clear hst3 HST2 i2 j2 g0 g1 g2
    obtain ⟨g0, g1, g2⟩ := hst4.at3 4 rfl
    clear hst4
    go_wp2_with (fail)
    go_at_call 33
    refine (HC.out _ HST4.out.bel).mono ?_
    rintro e w3 ⟨rfl, hb3⟩
    rw [HGR.out]
    have hst5 := HST4.out.call hb3
    have HST5 := Lib.hid hst5
    clear HST4 hb3 g0 g1 g2
    obtain ⟨g0, g1, g2⟩ := hst5.at3 4 rfl
    clear hst5
    go_wp2_with (fail)
    go_at_call 53
    refine (HET.out _ HST5.out.bel).mono ?_
    rintro e w4 ⟨ao3, n3, c3, fp3, rfl, i3, j3, hst6⟩
    have hst7 := (HST5.out.joined hst6).alloc #[.int .i64 r1.2.prod, .int .i64 r1.2.tok, .slice ao3 n3 c3] 71
    have HST7 := Lib.hid hst7
    clear hst6 HST5 i3 j3 g0 g1 g2
    obtain ⟨g0, g1, g2⟩ := hst7.at3 6 rfl
    clear hst7
    go_wp2_with (fail)
    go_at_call 53
    refine (HEF.out _ HST7.out.bel).mono ?_
    rintro e w5 ⟨ao4, n4, c4, fp4, rfl, i4, j4, hst8⟩
    have hst9 := (HST7.out.joined hst8).alloc #[.int .i64 r2.2.prod, .int .i64 r2.2.tok, .slice ao4 n4 c4] 71
    have HST9 := Lib.hid hst9
    clear hst8 HST7 i4 j4 g0 g1 g2
    obtain ⟨a0, a1, a2⟩ := hst9.at3 6 rfl
    obtain ⟨c0', c1', c2'⟩ := hst9.at3 2 rfl
    have S1 := Lib.hid (sameTree_ok (c1 := #[_, _, _]) (c2 := #[_, _, _]) (fun b hb => hb) (fun b hb => hb) (Tr.anyAt hst9 7 rfl I1.out J1.out) (Tr.anyAt hst9 3 rfl I1.out J1.out))
    clear hst9
    go_wp2_with (fail)
    go_at_call 52
    refine S1.out.mono ?_
    rintro e w6 ⟨rfl, hb6⟩
    have hst10 := HST9.out.call hb6
    clear a0 a1 a2 c0' c1' c2' hb6 S1
    obtain ⟨a0, a1, a2⟩ := hst10.at3 4 rfl
    obtain ⟨c0', c1', c2'⟩ := hst10.at3 0 rfl
    have S2 := Lib.hid (sameTree_ok (c1 := #[_, _, _]) (c2 := #[_, _, _]) (fun b hb => hb) (fun b hb => hb) (Tr.anyAt (t := r2.2) (fp := fp2) (v := .slice ao2 n2 c2) hst10 5 rfl I2.out J2.out) (Tr.anyAt (t := r2.2) (fp := fp4) (v := .slice ao4 n4 c4) hst10 1 rfl I2.out J2.out))
    have HST10 := Lib.hid hst10
    clear hst10 HST9
    go_wp2_with (fail)
    go_at_call 52
    refine S2.out.mono ?_
    rintro e w7 ⟨rfl, hb7⟩
    have HST11 := Lib.hid (HST10.out.call hb7)
    go_wp2
    go_ret
    exact ⟨by simp, HST11.out.bel⟩
  · rw [Tr.outc_gr hg] at HD HU
    have hne : (Gr.err tg ng l != 0) = true := by simpa using hg
    obtain ⟨N, hN⟩ : ∃ N, Tr.nil = N := ⟨_, rfl⟩
    rw [hN] at HD HU
    have HNN := Lib.hid hN
    generalize Gr.err tg ng l = G at *
    clear hst hp hp2 hev hF hPW hEW hFW he hg hN
    go_enter Try.func10, Try.ntmps10
    go_wp2_with (fail)
    go_at_call 50
    refine (HD.out _ HST.out.bel).mono ?_
    rintro e w1 ⟨ao1, n1, c1, fp1, rfl, i1, j1, hst1⟩
    have hst2 := (HST.out.joined hst1).alloc #[.int .i64 N.prod, .int .i64 N.tok, .slice ao1 n1 c1] 71
    have HST2 := Lib.hid hst2
    have I1 := Lib.hid i1; have J1 := Lib.hid j1
    clear hst1 HST i1 j1 g0 g1 g2
    obtain ⟨g0, g1, g2⟩ := hst2.at3 2 rfl
    clear hst2
    go_wp2_with (fail)
    go_at_call 51
    refine (HU.out _ HST2.out.bel).mono ?_
    rintro e w2 ⟨ao2, n2, c2, fp2, rfl, i2, j2, hst3⟩
    have hst4 := (HST2.out.joined hst3).alloc #[.int .i64 N.prod, .int .i64 N.tok, .slice ao2 n2 c2] 71
    have HST4 := Lib.hid hst4
    have I2 := Lib.hid i2; have J2 := Lib.hid j2
    clear hst3 HST2 i2 j2 g0 g1 g2
    obtain ⟨g0, g1, g2⟩ := hst4.at3 4 rfl
    clear hst4
    go_wp2_with (fail)
    go_at_call 33
    refine (HC.out _ HST4.out.bel).mono ?_
    rintro e w3 ⟨rfl, hb3⟩
    have hst5 := HST4.out.call hb3
    have HST5 := Lib.hid hst5
    clear HST4 hb3 g0 g1 g2
    obtain ⟨a0, a1, a2⟩ := hst5.at3 2 rfl
    have S1 := Lib.hid (sameTree_ok (t := N) (c1 := #[_, _, _]) (c2 := #[_, _, _]) (fun b hb => hb) (fun b (hb : b < w3.heap.size) => hb) (Tr.anyAt (t := N) (fp := fp1) (v := .slice ao1 n1 c1) hst5 3 rfl I1.out J1.out) (by rw [← HNN.out]; exact Tr.anyNil))
    clear hst5
    go_wp2_with (fail)
    go_at_call 52
    refine S1.out.mono ?_
    rintro e w6 ⟨rfl, hb6⟩
    have hst10 := HST5.out.call hb6
    clear a0 a1 a2 hb6 S1
    obtain ⟨a0, a1, a2⟩ := hst10.at3 0 rfl
    have S2 := Lib.hid (sameTree_ok (t := N) (c1 := #[_, _, _]) (c2 := #[_, _, _]) (fun b hb => hb) (fun b (hb : b < w6.heap.size) => hb) (Tr.anyAt (t := N) (fp := fp2) (v := .slice ao2 n2 c2) hst10 1 rfl I2.out J2.out) (by rw [← HNN.out]; exact Tr.anyNil))
    have HST10 := Lib.hid hst10
    clear hst10 HST5
    go_wp2_with (fail)
    go_at_call 52
    refine S2.out.mono ?_
    rintro e w7 ⟨rfl, hb7⟩
    have HST11 := Lib.hid (HST10.out.call hb7)
    go_wp2
    go_ret
    exact ⟨by simp, HST11.out.bel⟩

theorem treesReads_law (c0 : Array Value) (v : Value) (g : Int × Int × List (Int × List (Int × Int))) (E : List (Int × Int)) (w : World) (h0 : Enc.gram.R (fun b => b < w.heap.size) w c0.toList g) (h1 : (Enc.two.sl 16).R (fun b => b < w.heap.size) w [v] E) :
    Calls Try.prog 10 #[.agg c0, v] w fun e w' => e = .returned (.bool true) ∧ Below w.heap.size w w' := by
  obtain ⟨vp, rfl, hp, _, _⟩ := gram_cells h0
  have h2 := h1
  obtain ⟨ao, b, off, cap, hv, _⟩ := slTwo h2
  subst hv
  exact treesReads_walk _ _ vp _ _ ao cap E w (fun _ h => h) hp h1
end Go.Proofs.Ytldapomcjfkeeaa
