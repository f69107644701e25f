/-
  Climb of the reference: what it computes.
-/
import Derived.Test.YtldapomcjfkeeaaClRef0
namespace Go.Proofs.Ytldapomcjfkeeaa
set_option linter.unusedVariables false
open Go.ChangeShapes Go.WideShapes Go.ChangeAt Go.RowKit

namespace Cl
def slLen (v : Value) : Nat := match v with | .slice _ n _ => n | _ => 0
def RefRel (ps : List (Int × List (Int × Int))) (rows : List (List Int)) (c : Nat) (last : Bool) (seen t n : Int) (X : Int × List T × List (Int × Int)) (w : World) (μ : List Asrt) (va vo vh : Value) (wr : World) : Prop :=
  ∃ f had a out fp, vh = .bool had ∧ St w wr (aEnc (Enc.tdo.sl 32) fp [va] a :: aOwn 81 2 vo (out.map pairV) :: μ) ∧ a.length ≤ 100 ∧ out.length ≤ 2001 ∧ 2002 ≤ f + out.length ∧ (had = true → last = false) ∧ Hid (∀ x ∈ a, good t n ps.length x = true) ∧ Hid (go ps rows c last seen f had a out = X)
theorem rev_step {td : List T} {k : Nat} (h : k < td.length) : (td.drop k).reverse = (td.drop (k + 1)).reverse ++ [td.getD k z] := by
  rw [List.drop_eq_getElem_cons h, List.reverse_cons]; simp [List.getD, List.getElem?_eq_getElem h]
end Cl

set_option maxRecDepth 100000 in
set_option maxHeartbeats 16000000 in
theorem clRef_any (t n seen ov : Int) (dn : Bool) (vp vr vs : Value) (l : List (Int × List (Int × Int))) (rows : List (List Int)) (td : List Cl.T) (c : Nat) (w : World) (F : Nat → Prop) (hF : ∀ b, F b → b < w.heap.size) (h : Enc.prods.R F w [vp] l)
    (hr : (((Enc.int .i64).sl 8).sl 24).R F w [vr] rows) (hs : (Enc.todo.sl 32).R F w [vs] td) (he : Rw.all t n l rows = 0) (hc : (c : Int) ≤ t) (hsn : 0 ≤ seen ∧ seen ≤ 1099511627776) (h60 : td.length ≤ 60) (hgood : ∀ x ∈ td, Cl.good t n l.length x = true) :
    Calls Try.prog 134 #[.agg #[.int .i64 t, .int .i64 n, vp], vr, .agg #[vs, .int .i64 seen, .int .i64 ov, .bool dn], .int .i64 c] w (Cl.Ret (Cl.fin (decide ((c : Int) = t)) (Cl.go l rows c (decide ((c : Int) = t)) seen 2002 false td.reverse []) seen) w) := by
  obtain ⟨hz1, hz2, hz3⟩ := Cl.rw_zero he
  obtain ⟨hz4, hz5, hz6, hz7, hl40, hz8⟩ := Gr.err_zero hz1
  have HPR := Lib.hid (fun (p : Nat) (hp : p < l.length) => hz8 (l.getD p (0, [])) (by simp [List.getD, List.getElem?_eq_getElem hp]))
  have HRW := Lib.hid hz3
  have HGD := Lib.hid hgood
  obtain ⟨aop, bp, op, cp, rfl, -, p3, p4⟩ := slProds h
  obtain ⟨aos, bs, os, cs, rfl, -, s3, s4⟩ := slTodo hs
  obtain ⟨aor, br, or_, cr, rfl, -, r3, r4⟩ := slSl hr
  have P3 := Lib.hid p3; have P4 := Lib.hid p4; have S3 := Lib.hid s3; have S4 := Lib.hid s4; have R3 := Lib.hid r3; have R4 := Lib.hid r4
  have hst := (((St.init w).alloc #[.int .i64 t, .int .i64 n, .slice aop l.length cp] 68).alloc #[.slice aos td.length cs, .int .i64 seen, .int .i64 ov, .bool dn] 121).alloc #[.slice none 0 0, .int .i64 0, .int .i64 0, .bool false] 121
  simp only [World.size_alloc] at hst
  obtain ⟨last, hlast⟩ : ∃ last, decide ((c : Int) = t) = last := ⟨_, rfl⟩
  rw [hlast]
  obtain ⟨X, hX⟩ : ∃ X, Cl.go l rows c last seen 2002 false td.reverse [] = X := ⟨_, rfl⟩
  rw [hX]
  have HX := Lib.hid hX
  have HLAST := Lib.hid hlast
  clear h hr hs hF he hz1 hz3 hz8 p3 p4 s3 s4 r3 r4 hgood hX hlast
  go_enter Try.func134, Try.ntmps134
  go_wp2
  have hst0 := hst.nilOwn 125 4
  obtain ⟨x0, x1, x2, x3⟩ := hst.at4 1 rfl
  clear hst
  go_loopw [11, 12] (fun v i wr => ∃ k : Nat, k ≤ td.length ∧ i = .int .i64 ((k : Int) - 1) ∧ St w wr (aOwn 125 4 v (((td.drop k).reverse).map todoV) :: [aCel (w.heap.size + 1 + 1) 121 #[.slice none 0 0, .int .i64 0, .int .i64 0, .bool false], aCel (w.heap.size + 1) 121 #[.slice aos td.length cs, .int .i64 seen, .int .i64 ov, .bool dn], aCel w.heap.size 68 #[.int .i64 t, .int .i64 n, .slice aop l.length cp]])) (fun _ i _ => (intOf i + 1).toNat)
  case atStart => exact ⟨td.length, Nat.le_refl _, rfl, by rw [List.drop_length]; exact hst0⟩
  case round =>
    clear hst0 x0 x1 x2 x3
    obtain ⟨k, hk, rfl, hst⟩ := hrel
    obtain ⟨x0, x1, x2, x3⟩ := hst.at4 2 rfl
    by_cases hk0 : 0 < k
    · obtain ⟨j, rfl⟩ : ∃ j, k = j + 1 := ⟨k - 1, by omega⟩
      rw [show ((j + 1 : Nat) : Int) - 1 = (j : Int) by omega]
      have hjl : j < td.length := by omega
      obtain ⟨rfl, _, _⟩ := S3.out (by omega)
      obtain ⟨q1, q2, q3, q4, -⟩ := S4.out j hjl
      have c1 := bkeep hst.bel q1
      have c2 := bkeep hst.bel q2
      have c3 := bkeep hst.bel q3
      have c4 := bkeep hst.bel q4
      have HSTEP := Lib.hid (Cl.rev_step hjl)
      obtain ⟨x, hx⟩ : ∃ x, x = td.getD j Cl.z := ⟨_, rfl⟩
      rw [← hx] at c1 c2 c3 c4 HSTEP
      have hll : ((td.drop (j + 1)).reverse.map todoV).length ≤ 60 := by rw [List.length_map, List.length_reverse, List.length_drop]; omega
      have hj2 : (j : Int) < td.length := by omega
      clear q1 q2 q3 q4 hx hk0
      have HST := Lib.hid hst
      clear hst
      go_wp2_with (at_builtin; refine St.app1n todoE rfl (.tmp 30) (.tmp 36) rfl rfl HST.out (todoV x) rfl _ 1 rfl (by simp) rfl (todo_one _) (by unfold maxLen; omega) (by omega) ?_; intro g5 n5 c5 w5 hst5)
      go_roundw
      case rel => exact ⟨j, by omega, rfl, by rw [HSTEP.out, List.map_append]; exact hst5⟩
      case measure => first | (simp [intOf]; done) | (simp [intOf]; omega)
    · obtain rfl : k = 0 := by omega
      rw [show (((0 : Nat) : Int) - 1) = -1 by rfl]
      rw [List.drop_zero] at hst
      have hstE := ((hst.ownEnc (En := Enc.tdo) (bytes := 32) rfl (fun _ _ _ _ => rfl) (by rw [List.length_reverse]; omega)).nilOwn 81 2).get2
      obtain ⟨fp, hfp⟩ : ∃ fp, fp = u11.ownBlock.toList := ⟨_, rfl⟩
      rw [← hfp] at hstE
      have HREL := Lib.hid (show Cl.RefRel l rows c last seen t n X w [aCel (w.heap.size + 1 + 1) 121 #[.slice none 0 0, .int .i64 0, .int .i64 0, .bool false], aCel (w.heap.size + 1) 121 #[.slice aos td.length cs, .int .i64 seen, .int .i64 ov, .bool dn], aCel w.heap.size 68 #[.int .i64 t, .int .i64 n, .slice aop l.length cp]] u11 (.slice none 0 0) (.bool false) wr from
        ⟨2002, false, td.reverse, [], fp, rfl, hstE, by rw [List.length_reverse]; omega, by simp, by simp, (fun h => by cases h), Lib.hid (fun x hx => HGD.out x (by simpa using hx)), HX⟩)
      clear hst hstE hfp hk0 hk
      go_wp2
      obtain ⟨vz, hvz⟩ : ∃ vz : Value, vz = .slice none 0 0 := ⟨_, rfl⟩
      go_loopw [9, 10, 11, 13, 15] (fun _ _ va vo vh wr => Cl.RefRel l rows c last seen t n X w [aCel (w.heap.size + 1 + 1) 121 #[.slice none 0 0, .int .i64 0, .int .i64 0, .bool false], aCel (w.heap.size + 1) 121 #[.slice aos td.length cs, .int .i64 seen, .int .i64 ov, .bool dn], aCel w.heap.size 68 #[.int .i64 t, .int .i64 n, .slice aop l.length cp]] va vo vh wr) (fun _ _ _ vo _ _ => 2003 - Cl.slLen vo)
      case atStart => exact HREL.out
      case round =>
        clear HREL HX hvz vz
        obtain ⟨f, had, a, out, fp, rfl, hst, ha100, ho, hf, hhl, HG, HX⟩ := hrel
        obtain ⟨aoa, ba, oa, ca, rfl, -, a3, a4⟩ := slTdo hst.encR
        obtain ⟨aoo, co, rfl⟩ := (hst.nth 1 rfl).own.isLen
        rw [List.length_map] at hst ⊢
        obtain ⟨x0, x1, x2, x3⟩ := hst.at4 3 rfl
        obtain ⟨g0, g1, g2⟩ := hst.at3 4 rfl
        have A3 := Lib.hid a3; have A4 := Lib.hid a4; have HHL := Lib.hid hhl
        clear a3 a4 hhl
        by_cases h20 : 2000 < out.length
        · have hx := HX.out
          rw [Cl.go_over (.inl h20)] at hx
          subst hx
          rw [Cl.fin_bad (by simp)]
          clear HX
          go_wp2_with (fail)
          go_at_call 161
          refine (clOver_any (.slice none 0 0) seen ov 14 dn (w.heap.size + 1) _ (hst.at4 3 rfl).2.1).mono ?_
          rintro e w5 ⟨rfl, hb5⟩
          replace hst := hst.call hb5
          clear hb5
          obtain ⟨y0, y1, y2, y3, yf0, yf1, yf2, yf3⟩ := hst.get3.cel4
          have hstA := ((((hst.get3.setCel 0 (.slice none 0 0)).setCel 1 (.int .i64 seen)).setCel 2 (.int .i64 14)).setCel 3 (.bool false))
          clear hst
          go_wp2
          obtain ⟨z0, z1, z2, z3⟩ := hstA.at4 0 rfl
          refine bodyPost_ret (v := .tuple #[.agg #[.slice none 0 0, .int .i64 seen, .int .i64 14, .bool false], .slice none 0 0, .int .i64 14]) ?_ rfl ?_
          · simp [results, Try.results134, go_sem, z0, z1, z2, z3]
          · exact ⟨_, _, rfl, ((St.ofBel hstA.bel).nilOwn _ _).nilOwn _ _⟩
        by_cases h61 : 60 < a.length
        · have hx := HX.out
          rw [Cl.go_over (.inr h61)] at hx
          subst hx
          rw [Cl.fin_bad (by simp)]
          clear HX
          go_wp2_with (fail)
          go_at_call 161
          refine (clOver_any (.slice none 0 0) seen ov 14 dn (w.heap.size + 1) _ (hst.at4 3 rfl).2.1).mono ?_
          rintro e w5 ⟨rfl, hb5⟩
          replace hst := hst.call hb5
          clear hb5
          obtain ⟨y0, y1, y2, y3, yf0, yf1, yf2, yf3⟩ := hst.get3.cel4
          have hstA := ((((hst.get3.setCel 0 (.slice none 0 0)).setCel 1 (.int .i64 seen)).setCel 2 (.int .i64 14)).setCel 3 (.bool false))
          clear hst
          go_wp2
          obtain ⟨z0, z1, z2, z3⟩ := hstA.at4 0 rfl
          refine bodyPost_ret (v := .tuple #[.agg #[.slice none 0 0, .int .i64 seen, .int .i64 14, .bool false], .slice none 0 0, .int .i64 14]) ?_ rfl ?_
          · simp [results, Try.results134, go_sem, z0, z1, z2, z3]
          · exact ⟨_, _, rfl, ((St.ofBel hstA.bel).nilOwn _ _).nilOwn _ _⟩
        have h20' : (out.length : Int) ≤ 2000 := by omega
        have h61' : (a.length : Int) ≤ 60 := by omega
        obtain ⟨f, rfl⟩ : ∃ g, f = g + 1 := ⟨f - 1, by omega⟩
        rcases a with _ | ⟨x, r⟩
        · cases had
          · cases last
            · have hx := HX.out
              rw [Cl.go_nil h20] at hx
              subst hx
              rw [Cl.fin_bad (by simp)]
              have hct : ((c : Int) == t) = false := by rw [beq_eq_false_iff_ne]; exact of_decide_eq_false HLAST.out
              clear HX
              go_wp2_with (fail)
              go_at_call 161
              refine (clOver_any (.slice none 0 0) seen ov 13 dn (w.heap.size + 1) _ (hst.at4 3 rfl).2.1).mono ?_
              rintro e w5 ⟨rfl, hb5⟩
              replace hst := hst.call hb5
              clear hb5
              obtain ⟨y0, y1, y2, y3, yf0, yf1, yf2, yf3⟩ := hst.get3.cel4
              have hstA := ((((hst.get3.setCel 0 (.slice none 0 0)).setCel 1 (.int .i64 seen)).setCel 2 (.int .i64 13)).setCel 3 (.bool false))
              clear hst
              go_wp2
              obtain ⟨z0, z1, z2, z3⟩ := hstA.at4 0 rfl
              refine bodyPost_ret (v := .tuple #[.agg #[.slice none 0 0, .int .i64 seen, .int .i64 13, .bool false], .slice none 0 0, .int .i64 13]) ?_ rfl ?_
              · simp [results, Try.results134, go_sem, z0, z1, z2, z3]
              · exact ⟨_, _, rfl, ((St.ofBel hstA.bel).nilOwn _ _).nilOwn _ _⟩
            · have hx := HX.out
              rw [Cl.go_lastNil h20] at hx
              subst hx
              rw [Cl.fin_end rfl]
              have hct : ((c : Int) == t) = true := by rw [beq_iff_eq]; exact of_decide_eq_true HLAST.out
              clear HX
              obtain ⟨y0, y1, y2, y3, yf0, yf1, yf2, yf3⟩ := hst.get3.cel4
              have hstA := ((((hst.get3.setCel 0 (.slice none 0 0)).setCel 1 (.int .i64 seen)).setCel 2 (.int .i64 0)).setCel 3 (.bool true))
              clear hst
              go_wp2
              obtain ⟨z0, z1, z2, z3⟩ := hstA.at4 0 rfl
              refine bodyPost_ret (v := .tuple #[.agg #[.slice none 0 0, .int .i64 seen, .int .i64 0, .bool true], .slice aoo out.length co, .int .i64 0]) ?_ rfl ?_
              · simp [results, Try.results134, go_sem, z0, z1, z2, z3]
              · exact ⟨_, _, rfl, (hstA.nth 2 rfl).nilOwn _ _⟩
          · have hx := HX.out
            rw [Cl.go_hadNil h20] at hx
            subst hx
            obtain rfl : last = false := HHL.out rfl
            rw [Cl.fin_go rfl]
            clear HX
            have hstE := (hst.alloc #[.slice none 0 0, .int .i64 (seen + 1), .int .i64 0, .bool false] 121).nilOwn 125 4
            clear hst
            have lx := World.block_lt_of_cell? _ _ x0
            go_wp2
            clear x0 x1 x2 x3 g0 g1 g2 lx
            generalize hE : wr.heap.size = E at *
            generalize wr.alloc (.cells #[.slice none 0 0, .int .i64 (seen + 1), .int .i64 0, .bool false] 121) = W1 at hstE ⊢
            clear hE A3 A4 HG HHL
            clear wr
            go_loopw [21] (fun i wr => ∃ k : Nat, k ≤ ([] : List Cl.T).length ∧ i = .int .i64 ((k : Int) - 1) ∧ ∃ vE, St w wr (aCel E 121 #[vE, .int .i64 (seen + 1), .int .i64 0, .bool false] :: aOwn 125 4 vE (((([] : List Cl.T).drop k).reverse).map todoV) :: aEnc (Enc.tdo.sl 32) fp [.slice aoa ([] : List Cl.T).length ca] ([] : List Cl.T) :: aOwn 81 2 (.slice aoo out.length co) (out.map pairV) :: [aCel (w.heap.size + 1 + 1) 121 #[.slice none 0 0, .int .i64 0, .int .i64 0, .bool false], aCel (w.heap.size + 1) 121 #[.slice aos td.length cs, .int .i64 seen, .int .i64 ov, .bool dn], aCel w.heap.size 68 #[.int .i64 t, .int .i64 n, .slice aop l.length cp]])) (fun i _ => (intOf i + 1).toNat)
            case atStart => exact ⟨([] : List Cl.T).length, Nat.le_refl _, by go_num, _, by rw [List.drop_length]; exact hstE.get2⟩
            case round =>
              clear hstE W1
              obtain ⟨k, hk, rfl, vE, hst⟩ := hrel
              obtain ⟨_, bb, ob, _, hv, -, b3, b4⟩ := slTdo (hst.encAt 2 rfl)
              simp only [Value.slice.injEq, true_and] at hv
              obtain ⟨rfl, rfl⟩ := hv
              obtain ⟨aE, cE, rfl⟩ := hst.get2.own.isLen
              rw [List.length_map, List.length_reverse, List.length_drop] at hst
              have hk0 : k = 0 := by simpa using hk
              obtain rfl : k = 0 := hk0
              rw [List.drop_zero, Nat.sub_zero] at hst
              simp only [List.length_nil] at hst
              clear b3 b4 hk
              obtain ⟨e0, e1, e2, e3⟩ := hst.at4 0 rfl
              obtain ⟨y0, y1, y2, y3, yf0, yf1, yf2, yf3⟩ := hst.get5.cel4
              have hstA := ((((hst.get5.setCel 0 (.slice aE (0) cE)).setCel 1 (.int .i64 (seen + 1))).setCel 2 (.int .i64 0)).setCel 3 (.bool false))
              clear hst
              go_wp2
              obtain ⟨z0, z1, z2, z3⟩ := hstA.at4 0 rfl
              refine bodyPost_ret (v := .tuple #[.agg #[.slice aE (0) cE, .int .i64 (seen + 1), .int .i64 0, .bool false], .slice aoo out.length co, .int .i64 0]) ?_ rfl ?_
              · simp [results, Try.results134, go_sem, z0, z1, z2, z3]
              · exact ⟨.slice aE (0) cE, _, rfl, (hstA.drop.drop.get2.drop).two⟩
        · obtain ⟨c0, c1, c2, c3⟩ := A4.out 0 (by simp)
          obtain ⟨rfl, hba, -⟩ := A3.out (by simp)
          have hget : (x :: r).getD 0 Cl.z = x := rfl
          rw [hget] at c0 c1 c2 c3
          rw [Nat.zero_mul, Nat.add_zero] at c0 c1 c2 c3
          obtain ⟨at_, nt, ct, hv2, hsl⟩ := Cl.tail_slice hst.encR
          have HSL := Lib.hid hsl
          have HV2 := Lib.hid hv2
          obtain ⟨A, hA⟩ : ∃ A : List Cl.T, A = x :: r := ⟨_, rfl⟩
          have hlA : A.length = r.length + 1 := by rw [hA, List.length_cons]
          have hpos : (0 : Int) < (A.length : Int) := by omega
          have hneg : ¬ (2000 < out.length ∨ 60 < (x :: r).length) := by omega
          have HNEG := Lib.hid hneg
          rw [← hA] at hst h61' ha100 HSL HV2 ⊢
          have HA := Lib.hid hA
          have HLA := Lib.hid hlA
          clear hget hsl hv2 hneg hlA h61 hA
          cases hx1 : x.1
          · rw [hx1] at c0
            cases had
            · rcases Cl.good_open (HG.out x (.head _)) hx1 with ⟨hk, hk0, hk1⟩ | ⟨hk, hk0, hk1⟩
              · rw [hk] at c2
                have lba := World.block_lt_of_cell? _ _ c0
                have lX := World.block_lt_of_cell? _ _ x0
                have lG := World.block_lt_of_cell? _ _ g0
                by_cases hN : x.2.2.2 = c
                · have hx := HX.out
                  rw [Cl.go_tok HNEG.out hx1 hk hN] at hx
                  have HX2 := Lib.hid hx
                  have hNb : (x.2.2.2 != (c : Int)) = false := by rw [bne_eq_false_iff_eq]; exact hN
                  have hlf : last = false := by rw [← HLAST.out]; exact decide_eq_false (by omega)
                  have HLF := Lib.hid hlf
                  have HST := Lib.hid (hst.skip (.cells #[.int .i64 1, .int .i64 x.2.2.2] 96)).get2
                  have hsl := HSL.out
                  clear HX hx hx1 hst hN hk0 hk1 hk hlf HHL
                  go_wp2_with (at_builtin; refine St.app1n evtE3 rfl (.tmp 104) (.tmp 108) rfl rfl HST.out (pairV (2, seen)) rfl _ 1 rfl (by simp) rfl (pair_one3 _) (by rw [List.length_map]; unfold maxLen; omega) (by rw [List.length_map]; omega) ?_; intro g6 n6 c6 w6 hst6)
                  obtain rfl : n6 = out.length + 1 := by have := hst6.own.len; simpa using this
                  have hst7 := (((HA.out ▸ hst6.get2 : St w w6 (aEnc (Enc.tdo.sl 32) fp [_] (x :: r) :: _))).tailEnc (fun F W q => HV2.out F W (HA.out ▸ q)))
                  have hrel : Cl.RefRel l rows c last seen t n X w [aCel (w.heap.size + 1 + 1) 121 #[.slice none 0 0, .int .i64 0, .int .i64 0, .bool false], aCel (w.heap.size + 1) 121 #[.slice aos td.length cs, .int .i64 seen, .int .i64 ov, .bool dn], aCel w.heap.size 68 #[.int .i64 t, .int .i64 n, .slice aop l.length cp]] (.slice at_ nt ct) (.slice (some ⟨g6, 0, none⟩) (out.length + 1) c6) (.bool true) w6 :=
                    ⟨f, true, r, out ++ [(2, seen)], fp, rfl, by rw [List.map_append]; exact hst7, by have := HLA.out; omega, by rw [List.length_append, List.length_singleton]; omega, by rw [List.length_append, List.length_singleton]; omega, (fun _ => HLF.out), Lib.hid (fun y hy => HG.out y (.tail _ hy)), HX2⟩
                  go_roundw
                  case rel => exact hrel
                  case measure => simp [Cl.slLen]; omega
                · have hx := HX.out
                  rw [Cl.go_other HNEG.out hx1 hk hN] at hx
                  subst hx
                  rw [Cl.fin_bad (by simp)]
                  have hNb : (x.2.2.2 != (c : Int)) = true := by rw [bne_iff_ne]; exact hN
                  replace hst := hst.skip (.cells #[.int .i64 1, .int .i64 x.2.2.2] 96)
                  clear HX hx1 hN hk0 hk1 hk
                  go_wp2_with (fail)
                  go_at_call 161
                  refine (clOver_any (.slice none 0 0) seen ov 13 dn (w.heap.size + 1) _ (hst.at4 3 rfl).2.1).mono ?_
                  rintro e w5 ⟨rfl, hb5⟩
                  replace hst := hst.call hb5
                  clear hb5
                  obtain ⟨y0, y1, y2, y3, yf0, yf1, yf2, yf3⟩ := hst.get3.cel4
                  have hstA := ((((hst.get3.setCel 0 (.slice none 0 0)).setCel 1 (.int .i64 seen)).setCel 2 (.int .i64 13)).setCel 3 (.bool false))
                  clear hst
                  go_wp2
                  obtain ⟨z0, z1, z2, z3⟩ := hstA.at4 0 rfl
                  refine bodyPost_ret (v := .tuple #[.agg #[.slice none 0 0, .int .i64 seen, .int .i64 13, .bool false], .slice none 0 0, .int .i64 13]) ?_ rfl ?_
                  · simp [results, Try.results134, go_sem, z0, z1, z2, z3]
                  · exact ⟨_, _, rfl, ((St.ofBel hstA.bel).nilOwn _ _).nilOwn _ _⟩
              · have hkn : x.2.2.1 ≠ 1 := by omega
                have hkb : (x.2.2.1 == 1) = false := by rw [beq_eq_false_iff_ne]; exact hkn
                obtain ⟨s, hs⟩ : ∃ s : Nat, x.2.2.2 = s := Int.eq_ofNat_of_zero_le hk0
                have hsl2 : s < rows.length := by omega
                obtain ⟨rfl, hbr, -⟩ := R3.out (by omega)
                obtain ⟨ai, ci, q2, q3⟩ := R4.out s hsl2
                obtain ⟨hrow, hgd2⟩ := HRW.out s hsl2
                obtain ⟨_, bs2, os2, _, hv, -, q4, q5⟩ := Enc.sl1 (En := Enc.int .i64) (Value.int .i64) (fun _ _ _ h => h.1) rfl 0 q3
                simp only [Value.slice.injEq, true_and] at hv
                obtain ⟨rfl, rfl⟩ := hv
                have hcl : c < (rows.getD s []).length := by omega
                obtain ⟨rfl, hbs, -⟩ := q4 (by omega)
                have q6 := (q5 c hcl).1
                obtain ⟨e1, e2, -⟩ := hgd2 c hcl
                obtain ⟨q, hq⟩ : ∃ q, (rows.getD s []).getD c 0 = q := ⟨_, rfl⟩
                rw [hq] at q6 e1 e2
                have HQ : Hid ((rows.getD x.2.2.2.toNat []).getD c 0 = q) := Lib.hid (by rw [hs, Int.toNat_natCast]; exact hq)
                generalize (rows.getD s []).length = rl at *
                have q2 := bkeep hst.bel q2
                have q6 := bkeep hst.bel q6
                rw [hs] at c3
                have hsl3 : (s : Int) < rows.length := by omega
                have hcl3 : (c : Int) < rl := by omega
                have h0s : (0 : Int) ≤ (s : Int) := by omega
                have h0c : (0 : Int) ≤ (c : Int) := by omega
                have lba := World.block_lt_of_cell? _ _ c0
                have lX := World.block_lt_of_cell? _ _ x0
                have lG := World.block_lt_of_cell? _ _ g0
                have lR := World.block_lt_of_cell? _ _ q2
                have lS := World.block_lt_of_cell? _ _ q6
                by_cases hq0 : q < 0
                · have hx := HX.out
                  rw [Cl.go_bad HNEG.out hx1 hkn HQ.out hq0] at hx
                  subst hx
                  rw [Cl.fin_bad (by simp)]
                  replace hst := hst.skip (.cells #[.int .i64 x.2.2.1, .int .i64 s] 96)
                  clear HX hx1 hk0 hk1 hk hkn hs q3 q4 q5 hrow hgd2 hcl hq hbr hbs hsl2
                  go_wp2_with (fail)
                  go_at_call 161
                  refine (clOver_any (.slice none 0 0) seen ov 13 dn (w.heap.size + 1) _ (hst.at4 3 rfl).2.1).mono ?_
                  rintro e w5 ⟨rfl, hb5⟩
                  replace hst := hst.call hb5
                  clear hb5
                  obtain ⟨y0, y1, y2, y3, yf0, yf1, yf2, yf3⟩ := hst.get3.cel4
                  have hstA := ((((hst.get3.setCel 0 (.slice none 0 0)).setCel 1 (.int .i64 seen)).setCel 2 (.int .i64 13)).setCel 3 (.bool false))
                  clear hst
                  go_wp2
                  obtain ⟨z0, z1, z2, z3⟩ := hstA.at4 0 rfl
                  refine bodyPost_ret (v := .tuple #[.agg #[.slice none 0 0, .int .i64 seen, .int .i64 13, .bool false], .slice none 0 0, .int .i64 13]) ?_ rfl ?_
                  · simp [results, Try.results134, go_sem, z0, z1, z2, z3]
                  · exact ⟨_, _, rfl, ((St.ofBel hstA.bel).nilOwn _ _).nilOwn _ _⟩
                · obtain ⟨p, rfl⟩ := Int.eq_ofNat_of_zero_le (by omega : 0 ≤ q)
                  have hpl : p < l.length := by omega
                  obtain ⟨hb8, -, -, hbg⟩ := HPR.out p hpl
                  have hx := HX.out
                  rw [Cl.go_put HNEG.out hx1 hkn HQ.out hq0, Int.toNat_natCast] at hx
                  have HX2 := Lib.hid hx
                  have HNP : Hid (∀ y ∈ Cl.put l p r, Cl.good t n l.length y = true) := Lib.hid (Cl.put_good hbg hpl (fun y hy => HG.out y (.tail _ hy)))
                  have hpq := Cl.asT_put (l := l) (p := p) (r := r)
                  obtain ⟨rfl, hbp, -⟩ := P3.out (by omega)
                  obtain ⟨vb, -, p5, p6, -⟩ := P4.out p hpl
                  generalize (l.getD p (0, [])).2 = body at *
                  have HPQ := Lib.hid hpq
                  obtain ⟨aob, bb, ob, cb, rfl, -, b3, b4⟩ := slTwo p6
                  have B3 := Lib.hid b3; have B4 := Lib.hid b4; have P5 := Lib.hid p5
                  have hpl2 : (p : Int) < l.length := by omega
                  have h0p : (0 : Int) ≤ (p : Int) := by omega
                  have hstS := (hst.skip (.cells #[.int .i64 x.2.2.1, .int .i64 s] 96))
                  clear HX hx hx1 hk0 hk1 hk hkn hs q3 q4 q5 hrow hgd2 hcl hq hbr hbs hsl2 hbg hpq p5 p6 b3 b4 hst hq0 hbp
                  go_wp2
                  have hstN := hstS.nilOwn 125 4
                  clear c0 c1 c2 c3 q2 q6 lba lX lG lR lS x0 x1 x2 x3 g0 g1 g2 hstS
                  generalize wr.alloc (.cells #[.int .i64 x.2.2.1, .int .i64 s] 96) = W1 at hstN ⊢
                  generalize wr.heap.size = xb
                  clear A3 A4 hba
                  clear wr
                  go_loopw [18, 19] (fun v i wr => ∃ k : Nat, k ≤ body.length ∧ i = .int .i64 k ∧ St w wr (aOwn 125 4 v ((Cl.asT (body.take k)).map todoV) :: aEnc (Enc.tdo.sl 32) fp [.slice (some ⟨ba, oa, none⟩) A.length ca] A :: aOwn 81 2 (.slice aoo out.length co) (out.map pairV) :: [aCel (w.heap.size + 1 + 1) 121 #[.slice none 0 0, .int .i64 0, .int .i64 0, .bool false], aCel (w.heap.size + 1) 121 #[.slice aos td.length cs, .int .i64 seen, .int .i64 ov, .bool dn], aCel w.heap.size 68 #[.int .i64 t, .int .i64 n, .slice (some ⟨bp, op, none⟩) l.length cp]])) (fun _ i _ => body.length - (intOf i).toNat)
                  case atStart => exact ⟨0, by omega, rfl, by rw [List.take_zero, Cl.asT_nil]; exact hstN⟩
                  case round =>
                    clear hstN W1
                    obtain ⟨k, hk, rfl, hst⟩ := hrel
                    obtain ⟨g0, g1, g2⟩ := hst.at3 5 rfl
                    have p5 := bkeep hst.bel P5.out
                    by_cases hkl : k < body.length
                    · obtain ⟨rfl, _, _⟩ := B3.out (by omega)
                      obtain ⟨s1, s2, -, -⟩ := B4.out k hkl
                      have c1 := bkeep hst.bel s1
                      have c2 := bkeep hst.bel s2
                      have HSTEP := Lib.hid (Cl.asT_step hkl)
                      obtain ⟨y, hy⟩ : ∃ y, y = body.getD k (0, 0) := ⟨_, rfl⟩
                      rw [← hy] at c1 c2 HSTEP
                      have hkl2 : (k : Int) < body.length := by omega
                      have hll : ((Cl.asT (body.take k)).map todoV).length ≤ 8 := by rw [List.length_map, Cl.asT_len, List.length_take]; omega
                      have HST := Lib.hid hst
                      clear s1 s2 hy hst
                      go_wp2_with (at_builtin; refine St.app1n todoE rfl (.tmp 138) (.tmp 149) rfl rfl HST.out (todoV (false, 0, y.1, y.2)) rfl _ 1 rfl (by simp) rfl (todo_one _) (by unfold maxLen; omega) (by omega) ?_; intro g5 n5 c5 w5 hst5)
                      go_roundw
                      case rel => exact ⟨k + 1, by omega, by go_num, by rw [HSTEP.out, List.map_append]; exact hst5⟩
                      case measure => first | (simp [intOf]; done) | (simp [intOf]; omega)
                    · obtain rfl : k = body.length := by omega
                      rw [List.take_length] at hst
                      have hsl := HSL.out
                      have hll : ((Cl.asT body).map todoV).length ≤ 8 := by rw [List.length_map, Cl.asT_len]; omega
                      have HST := Lib.hid hst
                      have hA60 : r.length ≤ 60 := by have := HLA.out; omega
                      clear hst hkl
                      go_wp2_with (first
                        | (at_builtin; refine St.app1n todoE rfl (.tmp 151) (.tmp 154) rfl rfl HST.out (todoV (true, (p : Int), 0, 0)) rfl _ 1 rfl (by simp) rfl (todo_one _) (by unfold maxLen; omega) (by omega) ?_; intro g5 n5 c5 w5 hst5; have HST5 := Lib.hid hst5; clear hst5)
                        | (at_builtin; refine St.appSl todoE rfl (.tmp 156) (.tmp 158) rfl rfl HST5.out (En := Enc.tdo) (b2 := 32) rfl (HV2.out _ _ (HST5.out.encAt 1 rfl)) rfl todoV (fun _ _ _ h => h) (fun a q hq => todo_one a q hq) (by rw [List.length_append, List.length_singleton]; omega) (by rw [List.length_append, List.length_singleton]; omega) ?_; intro v6 w6 hst6; rw [Cl.asT_map] at hst6; have HST6 := Lib.hid (((hst6.ownEnc (En := Enc.tdo) (bytes := 32) (l := Cl.asT body ++ [(true, (p : Int), 0, 0)] ++ r) (f := todoV) rfl (fun _ _ _ _ => rfl) (by rw [List.length_append, List.length_append, List.length_singleton, Cl.asT_len]; omega)).get2).drop.get2); clear hst6)
                        | (at_builtin; refine St.app1n evtE3 rfl (.tmp 160) (.tmp 163) rfl rfl HST6.out (pairV (1, (p : Int))) rfl _ 1 rfl (by simp) rfl (pair_one3 _) (by rw [List.length_map]; unfold maxLen; omega) (by rw [List.length_map]; omega) ?_; intro g7 n7 c7 w7 hst7; have HST7 := Lib.hid hst7; clear hst7))
                      obtain rfl : n7 = out.length + 1 := by have := HST7.out.own.len; simpa using this
                      have hlp : (Cl.put l p r).length ≤ 100 := by rw [← HPQ.out, List.length_append, List.length_append, List.length_singleton, Cl.asT_len]; omega
                      have hrel : Cl.RefRel l rows c last seen t n X w [aCel (w.heap.size + 1 + 1) 121 #[.slice none 0 0, .int .i64 0, .int .i64 0, .bool false], aCel (w.heap.size + 1) 121 #[.slice aos td.length cs, .int .i64 seen, .int .i64 ov, .bool dn], aCel w.heap.size 68 #[.int .i64 t, .int .i64 n, .slice (some ⟨bp, op, none⟩) l.length cp]] v6 (.slice (some ⟨g7, 0, none⟩) (out.length + 1) c7) (.bool false) w7 :=
                        ⟨f, false, Cl.put l p r, out ++ [(1, (p : Int))], _, rfl, by rw [List.map_append, ← HPQ.out]; exact HST7.out.get2, hlp, by rw [List.length_append, List.length_singleton]; omega, by rw [List.length_append, List.length_singleton]; omega, (fun h => by cases h), HNP, HX2⟩
                      go_roundw
                      case rel => exact hrel
                      case measure => simp [Cl.slLen]; omega
            · have hx := HX.out
              rw [Cl.go_had HNEG.out hx1] at hx
              subst hx
              obtain rfl : last = false := HHL.out rfl
              rw [Cl.fin_go rfl, ← HA.out]
              clear HX hx1
              have hstE := (hst.alloc #[.slice none 0 0, .int .i64 (seen + 1), .int .i64 0, .bool false] 121).nilOwn 125 4
              clear hst
              have lx := World.block_lt_of_cell? _ _ x0
              go_wp2
              clear x0 x1 x2 x3 g0 g1 g2 lx
              generalize hE : wr.heap.size = E at *
              generalize wr.alloc (.cells #[.slice none 0 0, .int .i64 (seen + 1), .int .i64 0, .bool false] 121) = W1 at hstE ⊢
              clear hE A3 A4 HG HHL c0 c1 c2 c3 hba
              clear wr
              go_loopw [21] (fun i wr => ∃ k : Nat, k ≤ (A).length ∧ i = .int .i64 ((k : Int) - 1) ∧ ∃ vE, St w wr (aCel E 121 #[vE, .int .i64 (seen + 1), .int .i64 0, .bool false] :: aOwn 125 4 vE ((((A).drop k).reverse).map todoV) :: aEnc (Enc.tdo.sl 32) fp [.slice (some ⟨ba, oa, none⟩) (A).length ca] (A) :: aOwn 81 2 (.slice aoo out.length co) (out.map pairV) :: [aCel (w.heap.size + 1 + 1) 121 #[.slice none 0 0, .int .i64 0, .int .i64 0, .bool false], aCel (w.heap.size + 1) 121 #[.slice aos td.length cs, .int .i64 seen, .int .i64 ov, .bool dn], aCel w.heap.size 68 #[.int .i64 t, .int .i64 n, .slice aop l.length cp]])) (fun i _ => (intOf i + 1).toNat)
              case atStart => exact ⟨(A).length, Nat.le_refl _, by go_num, _, by rw [List.drop_length]; exact hstE.get2⟩
              case round =>
                clear hstE W1
                obtain ⟨k, hk, rfl, vE, hst⟩ := hrel
                obtain ⟨_, bb, ob, _, hv, -, b3, b4⟩ := slTdo (hst.encAt 2 rfl)
                simp only [Value.slice.injEq, true_and] at hv
                obtain ⟨rfl, rfl⟩ := hv
                obtain ⟨aE, cE, rfl⟩ := hst.get2.own.isLen
                rw [List.length_map, List.length_reverse, List.length_drop] at hst
                by_cases hk0 : 0 < k
                · obtain ⟨j, rfl⟩ : ∃ j, k = j + 1 := ⟨k - 1, by omega⟩
                  rw [show ((j + 1 : Nat) : Int) - 1 = (j : Int) by omega]
                  have hjl : j < (A).length := by omega
                  obtain ⟨hbe, hbb, -⟩ := b3 (by omega)
                  cases hbe
                  obtain ⟨c1, c2, c3, c4⟩ := b4 j hjl
                  have HSTEP := Lib.hid (Cl.rev_step hjl)
                  obtain ⟨x9, hx9⟩ : ∃ x9, x9 = (A).getD j Cl.z := ⟨_, rfl⟩
                  rw [← hx9] at c1 c2 c3 c4 HSTEP
                  have y0 := hst.celAt (i := 0) rfl
                  have ly := World.block_lt_of_cell? _ _ y0
                  have hj2 : (j : Int) < (A).length := by omega
                  have hj3 : (0 : Int) ≤ (j : Int) := by omega
                  have hll : (((A).drop (j + 1)).reverse.map todoV).length ≤ 60 := by rw [List.length_map, List.length_reverse, List.length_drop]; omega
                  have HSTD := Lib.hid hst.get2.drew
                  clear hx9 hk0 b3 b4 hst
                  go_wp2
                  go_region_law ((refine St.step1n todoE (by rfl) (.tmp 177) (.tmp 182) (by rfl) (by rfl) HSTD.out (todoV x9) rfl _ 1 rfl (by simp) rfl (todo_one _) (by unfold maxLen; omega) (by omega) ?_; intro g5 n5 c5 w5 hst5; have z0 := (hst5.nth 1 rfl).celAt (i := 0) rfl; have zf0 := (hst5.nth 1 rfl).celFree 0))
                  all_goals
                    go_wp2
                    have hst6 := (hst5.get2.setCel 0 (.slice (some ⟨g5, 0, none⟩) n5 c5))
                    go_roundw
                    case rel => exact ⟨j, by omega, rfl, .slice (some ⟨g5, 0, none⟩) n5 c5, by rw [HSTEP.out, List.map_append]; exact hst6⟩
                    case measure => first | (simp [intOf]; done) | (simp [intOf]; omega)
                · obtain rfl : k = 0 := by omega
                  rw [List.drop_zero, Nat.sub_zero] at hst
                  clear b3 b4 hk0 hk
                  obtain ⟨e0, e1, e2, e3⟩ := hst.at4 0 rfl
                  obtain ⟨y0, y1, y2, y3, yf0, yf1, yf2, yf3⟩ := hst.get5.cel4
                  have hstA := ((((hst.get5.setCel 0 (.slice aE ((A).length) cE)).setCel 1 (.int .i64 (seen + 1))).setCel 2 (.int .i64 0)).setCel 3 (.bool false))
                  clear hst
                  go_wp2
                  obtain ⟨z0, z1, z2, z3⟩ := hstA.at4 0 rfl
                  refine bodyPost_ret (v := .tuple #[.agg #[.slice aE ((A).length) cE, .int .i64 (seen + 1), .int .i64 0, .bool false], .slice aoo out.length co, .int .i64 0]) ?_ rfl ?_
                  · simp [results, Try.results134, go_sem, z0, z1, z2, z3]
                  · exact ⟨.slice aE ((A).length) cE, _, rfl, by have hfin := (hstA.drop.drop.get2.drop).two; rw [show A.reverse = (x :: r).reverse by rw [HA.out]] at hfin; exact hfin⟩
          · rw [hx1] at c0
            have hx := HX.out
            rw [Cl.go_close HNEG.out hx1] at hx
            have HX2 := Lib.hid hx
            have HST := Lib.hid hst.get2
            have hsl := HSL.out
            clear HX hx hx1 hst
            go_wp2_with (at_builtin; refine St.app1n evtE3 rfl (.tmp 61) (.tmp 67) rfl rfl HST.out (pairV (3, x.2.1)) rfl _ 1 rfl (by simp) rfl (pair_one3 _) (by rw [List.length_map]; unfold maxLen; omega) (by rw [List.length_map]; omega) ?_; intro g6 n6 c6 w6 hst6)
            obtain rfl : n6 = out.length + 1 := by have := hst6.own.len; simpa using this
            have hst7 := (((HA.out ▸ hst6.get2 : St w w6 (aEnc (Enc.tdo.sl 32) fp [_] (x :: r) :: _))).tailEnc (fun F W q => HV2.out F W (HA.out ▸ q)))
            have hrel : Cl.RefRel l rows c last seen t n X w [aCel (w.heap.size + 1 + 1) 121 #[.slice none 0 0, .int .i64 0, .int .i64 0, .bool false], aCel (w.heap.size + 1) 121 #[.slice aos td.length cs, .int .i64 seen, .int .i64 ov, .bool dn], aCel w.heap.size 68 #[.int .i64 t, .int .i64 n, .slice aop l.length cp]] (.slice at_ nt ct) (.slice (some ⟨g6, 0, none⟩) (out.length + 1) c6) (.bool had) w6 :=
              ⟨f, had, r, out ++ [(3, x.2.1)], fp, rfl, by rw [List.map_append]; exact hst7, by have := HLA.out; omega, by rw [List.length_append, List.length_singleton]; omega, by rw [List.length_append, List.length_singleton]; omega, HHL.out, Lib.hid (fun y hy => HG.out y (.tail _ hy)), HX2⟩
            go_roundw
            case rel => exact hrel
            case measure => simp [Cl.slLen]; omega
end Go.Proofs.Ytldapomcjfkeeaa
