/-
  The walk of the law FactsSays.
-/
import Derived.Test.YtldapomcjfkeeaaFcSame
import Derived.Test.YtldapomcjfkeeaaFcBegin
import Derived.Test.YtldapomcjfkeeaaFcAll
import Derived.Test.YtldapomcjfkeeaaGramIn
import Derived.Test.YtldapomcjfkeeaaEvtEq
namespace Go.Proofs.Ytldapomcjfkeeaa
set_option linter.unusedVariables false
set_option linter.unusedSimpArgs false
open Go.ChangeShapes Go.WideShapes Go.ChangeAt Go.RowKit

def GoodWorlds (l : List Fc.Pr) (body : List (Int × Int)) (vp vb : Value) (F : Nat → Prop) (w : World) : Prop := ∀ w', Below w.heap.size w w' → (∀ b, F b → b < w'.heap.size) ∧ Enc.prods.R F w' [vp] l ∧ (Enc.two.sl 16).R F w' [vb] body
theorem GoodWorlds.of {l : List Fc.Pr} {body : List (Int × Int)} {vp vb : Value} {F : Nat → Prop} {w : World} (hF : ∀ b, F b → b < w.heap.size) (h : Enc.prods.R F w [vp] l) (hb : (Enc.two.sl 16).R F w [vb] body) : GoodWorlds l body vp vb F w :=
  fun w' hw => ⟨fun b hb => Nat.lt_of_lt_of_le (hF b hb) hw.size, Enc.mono _ h (fun _ h => h) (fun b hb => hw.block b (hF b hb)), Enc.mono _ hb (fun _ h => h) (fun b hb => hw.block b (hF b hb))⟩

set_option maxRecDepth 100000 in
set_option maxHeartbeats 1600000 in
theorem factsSays_bad (t n : Int) (vp vb : Value) (l : List Fc.Pr) (behind : Nat) (body : List (Int × Int)) (w : World) (F : Nat → Prop) (hF : ∀ b, F b → b < w.heap.size) (h : Enc.prods.R F w [vp] l) (hb : (Enc.two.sl 16).R F w [vb] body) (he : Gr.err t n l ≠ 0) :
    Calls Try.prog 9 #[.agg #[.int .i64 t, .int .i64 n, vp], vb, .int .u64 (behind : Int)] w fun e w' => e = .returned (.bool true) ∧ Below w.heap.size w w' := by
  have HG := Lib.hid (GoodWorlds.of hF h hb)
  have HR := Lib.hid fun w' hw => rcfg_any t n vp l w' F (HG.out w' hw).1 (HG.out w' hw).2.1
  have HO := Lib.hid fun w' hw => fcOf_bad t n vp l w' F (HG.out w' hw).1 (HG.out w' hw).2.1 he
  have HB := Lib.hid fun w' hw => fcBeg_bad t n vp vb l behind w' F (HG.out w' hw).1 (HG.out w' hw).2.1 he
  generalize Gr.err t n l = E at *
  have hE1 : (E != 0) = true := by rw [bne_iff_ne]; exact he
  have hE2 : (E == E) = true := by rw [beq_iff_eq]
  clear he h hF hb
  have HST := Lib.hid ((St.init w).alloc #[.int .i64 t, .int .i64 n, vp] 68)
  go_enter Try.func9, Try.ntmps9
  go_wp2_with (fail)
  go_at_call 33
  refine (HR.out _ HST.out.bel).mono ?_
  rintro e w1 ⟨rfl, hb1⟩
  have HST := Lib.hid (HST.out.call hb1)
  clear hb1
  obtain ⟨x0, x1, x2⟩ := HST.out.at3 0 rfl
  go_wp2_with (fail)
  go_at_call 42
  refine (HO.out _ HST.out.bel).mono ?_
  rintro e w2 ⟨rfl, hb2⟩
  have HST := Lib.hid ((HST.out.call hb2).alloc #[.slice none 0 0, .slice none 0 0, .slice none 0 0, .slice none 0 0, .slice none 0 0] 88)
  clear hb2 x0 x1 x2
  obtain ⟨x0, x1, x2⟩ := HST.out.at3 1 rfl
  go_wp2_with (fail)
  go_at_call 43
  refine (HB.out _ HST.out.bel).mono ?_
  rintro e w3 ⟨rfl, hb3⟩
  have HST := Lib.hid (HST.out.call hb3)
  clear hb3 x0 x1 x2
  obtain ⟨x0, x1, x2, x3, x4⟩ := HST.out.at5 0 rfl
  go_wp2_with (fail)
  go_at_call 44
  refine (sameFacts_any w3 Row1.nil Row1.nil Row1.nil Row1.nil Row1.nil Row1.nil Row1.nil Row1.nil Row1.nil Row1.nil).mono ?_
  rintro e w4 ⟨rfl, hb4⟩
  have HST := Lib.hid (HST.out.call hb4)
  clear hb4 x0 x1 x2 x3 x4
  go_wp2
  go_ret
  exact ⟨by simp, HST.out.bel⟩

set_option maxRecDepth 100000 in
set_option maxHeartbeats 1600000 in
theorem factsSays_ok (t n : Int) (vp vb : Value) (l : List Fc.Pr) (behind : Nat) (body : List (Int × Int)) (w : World) (F : Nat → Prop) (hF : ∀ b, F b → b < w.heap.size) (h : Enc.prods.R F w [vp] l) (hb : (Enc.two.sl 16).R F w [vb] body) (hbh : behind < 2 ^ 64) (he : Gr.err t n l = 0) :
    Calls Try.prog 9 #[.agg #[.int .i64 t, .int .i64 n, vp], vb, .int .u64 (behind : Int)] w fun e w' => e = .returned (.bool true) ∧ Below w.heap.size w w' := by
  have HG := Lib.hid (GoodWorlds.of hF h hb)
  have HR := Lib.hid fun w' hw => rcfg_any t n vp l w' F (HG.out w' hw).1 (HG.out w' hw).2.1
  have HO := Lib.hid fun w' hw => fcOf_ok t n vp l w' F (HG.out w' hw).1 (HG.out w' hw).2.1 he
  obtain ⟨R, hR⟩ : ∃ R, (decide (body.length ≤ 60) && body.all (Gr.right t n)) = R := ⟨_, rfl⟩
  have HB := Lib.hid fun w' hw => fcBeg_ok t n vp vb l behind body w' F (HG.out w' hw).1 (HG.out w' hw).2.1 (HG.out w' hw).2.2 he hbh R hR
  have HA := Lib.hid fun w' hw => fcRef_any t n vp l w' F (HG.out w' hw).2.1 he
  have HER := Lib.hid he; have HRR := Lib.hid hR; have HBH := Lib.hid hbh
  obtain ⟨z1, z2, z3, z4, hl40, hz6⟩ := Gr.err_zero he
  obtain ⟨N, rfl⟩ := Int.eq_ofNat_of_zero_le (show 0 ≤ n by omega)
  rw [Int.toNat_natCast] at HO HB HA
  rw [he] at HR
  have HN20 := Lib.hid z4; have HT30 := Lib.hid z2
  obtain ⟨ab, bb, ob, cb, rfl, hl, -, -⟩ := slTwo hb
  have hll : (body.length : Int) ≤ 140737488355328 := by omega
  clear h hF hb hbh he hR hl40 hz6 hl
  have HST := Lib.hid ((St.init w).alloc #[.int .i64 t, .int .i64 N, vp] 68)
  go_enter Try.func9, Try.ntmps9
  go_wp2_with (fail)
  go_at_call 33
  refine (HR.out _ HST.out.bel).mono ?_
  rintro e w1 ⟨rfl, hb1⟩
  have HST := Lib.hid (HST.out.call hb1)
  clear hb1
  obtain ⟨x0, x1, x2⟩ := HST.out.at3 0 rfl
  go_wp2_with (fail)
  go_at_call 42
  refine (HO.out _ HST.out.bel).mono ?_
  rintro e w2 ⟨gE, gF, gW, gR, gM, E, Fs, W, Rc, M, rfl, HGD, hst2⟩
  have HST := Lib.hid ((HST.out.join hst2).alloc #[.slice (some ⟨gE, 0, none⟩) N N, .slice (some ⟨gF, 0, none⟩) N N, .slice (some ⟨gW, 0, none⟩) N N, .slice (some ⟨gR, 0, none⟩) N N, .slice (some ⟨gM, 0, none⟩) N N] 88)
  clear hst2 x0 x1 x2
  obtain ⟨x0, x1, x2⟩ := HST.out.at3 6 rfl
  have l0 := World.block_lt_of_cell? _ _ x0
  go_wp2_with (fail)
  go_at_call 43
  refine (HB.out _ HST.out.bel).mono ?_
  rintro e w3 ⟨hyes, hno, hb3⟩
  have HST := Lib.hid (HST.out.call hb3)
  have HYES := Lib.hid hyes; have HNO := Lib.hid hno
  clear hb3 x0 x1 x2 l0 hyes hno
  obtain ⟨nv, kv, hnk, hnk2⟩ : ∃ nv kv : Int, e = .returned (.tuple #[.int .u64 nv, .int .i64 kv]) ∧ ((R = true → kv = 0 ∧ nv = ((Fc.beg E Fs behind body : Nat) : Int)) ∧ (R = false → kv = 1 ∧ nv = 0)) := by
    cases R
    · exact ⟨0, 1, HNO.out rfl, (fun h => by cases h), fun _ => ⟨rfl, rfl⟩⟩
    · obtain ⟨E', F', W', R', M', hq, hg⟩ := HYES.out rfl
      obtain ⟨rfl, rfl, -, -, -⟩ := hg.s.one HGD.out.s
      exact ⟨_, 0, hq, fun _ => ⟨rfl, rfl⟩, fun h => by cases h⟩
  subst hnk
  have HNK := Lib.hid hnk2
  clear hnk2 HYES HNO
  obtain ⟨x0, x1, x2⟩ := HST.out.at3 6 rfl
  have l0 := World.block_lt_of_cell? _ _ x0
  go_wp2_with (fail)
  go_at_call 45
  refine (HA.out _ HST.out.bel).mono ?_
  rintro e w5 ⟨hE, hF, hW, hR, hM, E', Fs', W', Rc', M', rfl, HGD2, hst5⟩
  obtain ⟨e1, e2, e3, e4, e5⟩ := HGD2.out.s.one HGD.out.s
  subst e1 e2 e3 e4 e5
  have HST := Lib.hid ((HST.out.join hst5).alloc #[.slice (some ⟨hE, 0, none⟩) N N, .slice (some ⟨hF, 0, none⟩) N N, .slice (some ⟨hW, 0, none⟩) N N, .slice (some ⟨hR, 0, none⟩) N N, .slice (some ⟨hM, 0, none⟩) N N] 88)
  clear hst5 x0 x1 x2 l0
  obtain ⟨y0, y1, y2, y3, y4⟩ := HST.out.at5 0 rfl
  obtain ⟨x0, x1, x2, x3, x4⟩ := HST.out.at5 6 rfl
  have l0 := World.block_lt_of_cell? _ _ x0
  have l1 := World.block_lt_of_cell? _ _ y0
  have HSAME := Lib.hid (sameFacts_any (w5.alloc (.cells #[.slice (some ⟨hE, 0, none⟩) N N, .slice (some ⟨hF, 0, none⟩) N N, .slice (some ⟨hW, 0, none⟩) N N, .slice (some ⟨hR, 0, none⟩) N N, .slice (some ⟨hM, 0, none⟩) N N] 88))
    (Own.row1 (f := Value.bool) (fun _ => rfl) false (HST.out.ok _ (List.mem_of_getElem? (i := 7) rfl)) (by have := HGD.out.e; have := HN20.out; omega)) (Own.row1 (f := Value.bool) (fun _ => rfl) false (HST.out.ok _ (List.mem_of_getElem? (i := 1) rfl)) (by have := HGD.out.e; have := HN20.out; omega))
    (Own.row1 (f := Fc.uV) (fun _ => rfl) 0 (HST.out.ok _ (List.mem_of_getElem? (i := 8) rfl)) (by have := HGD.out.f; have := HN20.out; omega)) (Own.row1 (f := Fc.uV) (fun _ => rfl) 0 (HST.out.ok _ (List.mem_of_getElem? (i := 2) rfl)) (by have := HGD.out.f; have := HN20.out; omega))
    (Own.row1 (f := Fc.uV) (fun _ => rfl) 0 (HST.out.ok _ (List.mem_of_getElem? (i := 9) rfl)) (by have := HGD.out.w; have := HN20.out; omega)) (Own.row1 (f := Fc.uV) (fun _ => rfl) 0 (HST.out.ok _ (List.mem_of_getElem? (i := 3) rfl)) (by have := HGD.out.w; have := HN20.out; omega))
    (Own.row1 (f := Value.bool) (fun _ => rfl) false (HST.out.ok _ (List.mem_of_getElem? (i := 10) rfl)) (by have := HGD.out.r; have := HN20.out; omega)) (Own.row1 (f := Value.bool) (fun _ => rfl) false (HST.out.ok _ (List.mem_of_getElem? (i := 4) rfl)) (by have := HGD.out.r; have := HN20.out; omega))
    (Own.row1 (f := Value.bool) (fun _ => rfl) false (HST.out.ok _ (List.mem_of_getElem? (i := 11) rfl)) (by have := HGD.out.m; have := HN20.out; omega)) (Own.row1 (f := Value.bool) (fun _ => rfl) false (HST.out.ok _ (List.mem_of_getElem? (i := 5) rfl)) (by have := HGD.out.m; have := HN20.out; omega)))
  go_wp2_with (fail)
  go_at_call 44
  refine HSAME.out.mono ?_
  rintro e w6 ⟨rfl, hb6⟩
  have HST := Lib.hid (HST.out.call hb6)
  clear hb6 HSAME x0 x1 x2 x3 x4 y0 y1 y2 y3 y4 l0 l1
  by_cases h60 : body.length ≤ 60
  · have h60i : (body.length : Int) ≤ 60 := by omega
    have hrr := HRR.out
    rw [decide_eq_true h60, Bool.true_and] at hrr
    have hany : body.any (fun x => !Gr.right t N x) = !R := by
      rw [← hrr, List.all_eq_not_any_not]; simp
    obtain ⟨x0, x1, x2⟩ := HST.out.at3 12 rfl
    have HIN := Lib.hid (fsIn_any t N vp w.heap.size body _ w6 F (HG.out _ HST.out.bel).2.2 ⟨x0, x1, x2⟩)
    rw [hany] at HIN
    clear hrr hany h60
    go_wp2_with (fail)
    go_at_call 46
    refine HIN.out.mono ?_
    rintro e w7 ⟨rfl, hb7⟩
    have HST := Lib.hid (HST.out.call hb7)
    clear hb7 x0 x1 x2 HIN
    cases R
    · obtain ⟨rfl, rfl⟩ := HNK.out.2 rfl
      go_wp2
      go_ret
      exact ⟨by simp, HST.out.bel⟩
    · obtain ⟨rfl, rfl⟩ := HNK.out.1 rfl
      obtain ⟨y0, y1, y2, y3, y4⟩ := HST.out.at5 0 rfl
      have hall := HRR.out
      rw [Bool.and_eq_true, List.all_eq_true] at hall
      have HALL := Lib.hid hall.2
      have HST := Lib.hid (HST.out.pick [1, 2, 0, 3, 4, 5, 6, 7, 8, 9, 10, 11, 12] 13 rfl rfl)
      clear hall
      have HB2 := Lib.hid (fcRBeg_any w hE N N hF N N (.slice (some ⟨hW, 0, none⟩) N N) (.slice (some ⟨hR, 0, none⟩) N N) (.slice (some ⟨hM, 0, none⟩) N N) E' Fs' behind F (by rw [HGD.out.e]) (by rw [HGD.out.f]) (by rw [HGD.out.e, HGD.out.f]) HGD.out.fb HBH.out body (.slice ab body.length cb) w7 _ (HG.out _ (Below.refl _ _)).2.2 (fun x hx => by
          have := HALL.out x hx
          rw [HGD.out.e]
          rcases Gr.right_iff.1 this with ⟨a, b, c⟩ | ⟨a, b, c⟩
          · exact .inl ⟨a, b, by have := HT30.out; omega⟩
          · exact .inr ⟨a, b, c⟩) HST.out)
      generalize ((Fc.beg E' Fs' behind body : Nat) : Int) = bg at *
      have hbb : (bg == bg) = true := by rw [beq_iff_eq]
      go_wp2_with (fail)
      go_at_call 49
      refine HB2.out.mono ?_
      rintro e w8 ⟨rfl, hst8⟩
      have HST := Lib.hid hst8
      clear hst8 y0 y1 y2 y3 y4
      go_wp2
      go_ret
      exact ⟨by simp, HST.out.bel⟩
  · have h60i : (60 : Int) < body.length := by omega
    have hrr := HRR.out
    rw [decide_eq_false h60, Bool.false_and] at hrr
    subst hrr
    obtain ⟨rfl, rfl⟩ := HNK.out.2 rfl
    clear h60
    go_wp2
    go_ret
    exact ⟨by simp, HST.out.bel⟩

theorem opens_syms : Opens Try.prog 84 (Enc.two.sl 16) :=
  Opens.sl Try.underlying84 (by kernel_rfl) (by decide) (by kernel_rfl) (opens_two Try.underlying96 (by kernel_rfl) rfl rfl (by kernel_rfl) (by kernel_rfl) Try.underlying3 Try.underlying3)
theorem factsSays_walk (cs : Array Value) (g : Int × Int × List (Int × List (Int × Int))) (ao : Option Addr) (m c : Nat) (body : List (Int × Int)) (behind : Int) (w : World) (h : Rd Enc.gram (fun b => b < w.heap.size) w (.agg cs) g) (hcs : (Value.agg cs).cells.toList = cs.toList) (hb : Rd (Enc.two.sl 16) (fun b => b < w.heap.size) w (.slice ao m c) body) (h64 : (Lit.int .u64 behind).wf = true) :
    Calls Try.prog 9 #[.agg cs, .slice ao m c, .int .u64 behind] w fun e w' => e = .returned (.bool true) ∧ Below w.heap.size w w' := by
  unfold Rd at h
  rw [hcs] at h
  obtain ⟨vp, rfl, hp, _, _⟩ := gram_cells h
  have hb2 : (Enc.two.sl 16).R (fun b => b < w.heap.size) w [.slice ao m c] body := hb
  have hbh : 0 ≤ behind ∧ behind < 18446744073709551616 := by
    simp [Lit.wf, IntKind.min, IntKind.max, IntKind.signed, IntKind.bits] at h64
    omega
  obtain ⟨b, rfl⟩ := Int.eq_ofNat_of_zero_le hbh.1
  by_cases he : Gr.err g.1 g.2.1 g.2.2 = 0
  · exact factsSays_ok _ _ _ _ _ b body w _ (fun _ h => h) hp hb2 (by omega) he
  · exact factsSays_bad _ _ _ _ _ b body w _ (fun _ h => h) hp hb2 he
end Go.Proofs.Ytldapomcjfkeeaa
