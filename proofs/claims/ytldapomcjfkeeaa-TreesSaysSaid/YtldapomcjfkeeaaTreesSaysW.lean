/-
  The law TreesSays.
-/
import Derived.Test.YtldapomcjfkeeaaTrRef
import Derived.Test.YtldapomcjfkeeaaGramIn
namespace Go.Proofs.Ytldapomcjfkeeaa
set_option linter.unusedVariables false
set_option linter.unusedSimpArgs false
open Go.ChangeShapes Go.WideShapes Go.ChangeAt Go.RowKit

namespace Tr
theorem ev_len {l : List (Int × List (Int × Int))} (d : Bool) {n : Nat} {t : Tr} (h : Ok l n t) : (ev d n t).length ≤ 2 * size n t := by
  rw [← ev_each d h]
  exact eachL_len (fun _ => by cases d <;> simp) (fun _ => by simp) (fun _ _ => by simp) h
theorem err_gr {tg ng : Int} {l : List (Int × List (Int × Int))} {n : Nat} {t : Tr} (h : Gr.err tg ng l ≠ 0) : err tg ng l n t = Gr.err tg ng l := by rw [err, if_neg h]
theorem err_look {tg ng : Int} {l : List (Int × List (Int × Int))} {n : Nat} {t : Tr} (h : Gr.err tg ng l = 0) : err tg ng l n t = (look l n t (2, 0) 1 (0, 0)).1 := by rw [err, if_pos h]
end Tr

set_option maxRecDepth 100000 in
set_option maxHeartbeats 8000000 in
theorem treesSays_walk (tg ng : Int) (vp : Value) (l : List (Int × List (Int × Int))) (F : Nat → Prop) (n : Nat) (t : Tr) (cs : Array Value) (w : World) (hF : ∀ b, F b → b < w.heap.size) (hp : Enc.prods.R F w [vp] l) (ht : (Tr.enc n).R F w cs.toList t) :
    Calls Try.prog 8 #[.agg #[.int .i64 tg, .int .i64 ng, vp], .agg cs] w fun e w' => e = .returned (.bool true) ∧ Below w.heap.size w w' := by
  obtain ⟨m, hm, vk, hcs, ⟨hp0, hp1⟩, ⟨hk0, hk1⟩, hk⟩ := Tr.opened ht
  obtain rfl : cs = #[.int .i64 t.prod, .int .i64 t.tok, vk] := Array.toList_inj.1 hcs
  obtain ⟨ak, bk, ok, ck, rfl, -, -, -⟩ := Tr.kidsAt hk
  have hp2 := hp
  obtain ⟨ap, bp, op, cp, rfl, -, -, -⟩ := slProds hp2
  have hst := ((St.init w).alloc #[.int .i64 tg, .int .i64 ng, .slice ap l.length cp] 68).alloc #[.int .i64 t.prod, .int .i64 t.tok, .slice ak t.kids.length ck] 71
  simp only [World.size_alloc] at hst
  have hFF : ∀ W, Below w.heap.size w W → ∀ b, F b → b < W.heap.size := fun W hW b hb => Nat.lt_of_lt_of_le (hF b hb) hW.size
  have hPP : ∀ W, Below w.heap.size w W → Enc.prods.R F W [.slice ap l.length cp] l := fun W hW => Enc.mono _ hp (fun _ h => h) (fun b hb => hW.block b (hF b hb))
  have hTT : ∀ W, Below w.heap.size w W → (Tr.enc n).R F W [.int .i64 t.prod, .int .i64 t.tok, .slice ak t.kids.length ck] t := fun W hW => Enc.mono _ ht (fun _ h => h) (fun b hb => hW.block b (hF b hb))
  have HG := Lib.hid (fun W (hW : Below w.heap.size w W) => rcfg_any tg ng _ l W F (hFF W hW) (hPP W hW))
  have HY := Lib.hid (fun W (hW : Below w.heap.size w W) => trYield_any tg ng _ l F n t #[.int .i64 t.prod, .int .i64 t.tok, .slice ak t.kids.length ck] W (hFF W hW) (hPP W hW) (hTT W hW))
  have HD := Lib.hid (fun W (hW : Below w.heap.size w W) => trDown_any tg ng _ l F n t #[.int .i64 t.prod, .int .i64 t.tok, .slice ak t.kids.length ck] W (hFF W hW) (hPP W hW) (hTT W hW))
  have HU := Lib.hid (fun W (hW : Below w.heap.size w W) => trUp_any tg ng _ l F n t #[.int .i64 t.prod, .int .i64 t.tok, .slice ak t.kids.length ck] W (hFF W hW) (hPP W hW) (hTT W hW))
  have HC := Lib.hid (fun W (hW : Below w.heap.size w W) => trCheck_any tg ng _ l F n t #[.int .i64 t.prod, .int .i64 t.tok, .slice ak t.kids.length ck] W (hFF W hW) (hPP W hW) (hTT W hW))
  have HST := Lib.hid hst
  obtain ⟨g0, g1, g2⟩ := hst.at3 1 rfl
  obtain ⟨z0, z1, z2⟩ := hst.at3 0 rfl
  by_cases hg : Gr.err tg ng l = 0
  · have HT := Lib.hid (fun W (hW : Below w.heap.size w W) => rTree_any tg ng _ l F n t #[.int .i64 t.prod, .int .i64 t.tok, .slice ak t.kids.length ck] W (hPP W hW) (hTT W hW) hg)
    have HEL := Lib.hid (Tr.err_look (n := n) (t := t) hg)
    have HGR := Lib.hid hg
    by_cases he : (Tr.look l n t (2, 0) 1 (0, 0)).1 = 0
    · obtain ⟨hok, hsz⟩ := Tr.ok_look he
      have HL40 := Lib.hid (Gr.err_zero hg).2.2.2.2.1
      have hb1 := Tr.eachL_len (β := Int) (fA := fun _ => []) (fB := fun _ => []) (fL := fun t _ => [t]) (fun _ => by simp) (fun _ => by simp) (fun _ _ => by simp) hok
      have hb2 := Tr.ev_len true hok
      have hb3 := Tr.ev_len false hok
      have HB1 := Lib.hid (show (Tr.eachL (β := Int) (fun _ => []) (fun _ => []) (fun t _ => [t]) l n t).length ≤ 5000 by omega)
      have HB2 := Lib.hid (show (Tr.ev true n t).length ≤ 5000 by omega)
      have HB3 := Lib.hid (show (Tr.ev false n t).length ≤ 5000 by omega)
      have HRY := Lib.hid (fun W (hW : Below w.heap.size w W) => rYield_any tg ng _ l HL40.out n t #[.int .i64 t.prod, .int .i64 t.tok, .slice ak t.kids.length ck] W F (hFF W hW) (hPP W hW) (hTT W hW) hok HB1.out)
      have HRD := Lib.hid (fun W (hW : Below w.heap.size w W) => rEvents_any true n t #[.int .i64 t.prod, .int .i64 t.tok, .slice ak t.kids.length ck] W F (hFF W hW) (hTT W hW) HB2.out)
      have HRU := Lib.hid (fun W (hW : Below w.heap.size w W) => rEvents_any false n t #[.int .i64 t.prod, .int .i64 t.tok, .slice ak t.kids.length ck] W F (hFF W hW) (hTT W hW) HB3.out)
      have HE0 := Lib.hid (HEL.out.trans he)
      have HLK := Lib.hid he
      generalize Tr.eachL (β := Int) (fun _ => []) (fun _ => []) (fun t _ => [t]) l n t = XY at *
      generalize Tr.ev true n t = XD at *
      generalize Tr.ev false n t = XU at *
      generalize Tr.err tg ng l n t = E at *
      generalize (Tr.look l n t (2, 0) 1 (0, 0)).1 = LK at *
      generalize t.prod = pr at *
      generalize t.tok = tk at *
      generalize t.kids.length = kl at *
      clear hst hp hp2 ht hk hcs hm hFF hPP hTT hg he hok hsz hb1 hb2 hb3 HEL
      go_enter Try.func8, Try.ntmps8
      go_wp2_with (fail)
      go_at_call 33
      refine (HG.out _ HST.out.bel).mono ?_
      rintro e w1 ⟨rfl, hb1⟩
      rw [HGR.out]
      have hst1 := HST.out.call hb1
      have HST1 := Lib.hid hst1
      clear g0 g1 g2 z0 z1 z2 hb1 HST
      obtain ⟨g0, g1, g2⟩ := hst1.at3 1 rfl
      obtain ⟨z0, z1, z2⟩ := hst1.at3 0 rfl
      clear hst1
      go_wp2_with (fail)
      go_at_call 34
      refine (HT.out _ HST1.out.bel).mono ?_
      rintro e w2 ⟨rfl, hb2⟩
      have hlk := HLK.out
      subst hlk
      have hst2 := HST1.out.call hb2
      have HST2 := Lib.hid hst2
      clear g0 g1 g2 z0 z1 z2 hb2 HST1
      obtain ⟨g0, g1, g2⟩ := hst2.at3 1 rfl
      obtain ⟨z0, z1, z2⟩ := hst2.at3 0 rfl
      clear hst2
      go_wp2_with (fail)
      go_at_call 35
      refine (HY.out _ HST2.out.bel).mono ?_
      rintro e w3 ⟨-, -, hx⟩
      obtain ⟨va, rfl, hst3⟩ := hx HE0.out
      have hst4 := HST2.out.joined hst3
      have HST4 := Lib.hid hst4
      clear g0 g1 g2 z0 z1 z2 hst3 HST2 hx
      obtain ⟨g0, g1, g2⟩ := hst4.at3 2 rfl
      obtain ⟨z0, z1, z2⟩ := hst4.at3 1 rfl
      clear hst4
      go_wp2_with (fail)
      go_at_call 36
      refine (HD.out _ HST4.out.bel).mono ?_
      rintro e w4 ⟨-, -, hx⟩
      obtain ⟨vb, rfl, hst5⟩ := hx HE0.out
      have hst6 := HST4.out.joined hst5
      have HST6 := Lib.hid hst6
      clear g0 g1 g2 z0 z1 z2 hst5 HST4 hx
      obtain ⟨g0, g1, g2⟩ := hst6.at3 3 rfl
      obtain ⟨z0, z1, z2⟩ := hst6.at3 2 rfl
      clear hst6
      go_wp2_with (fail)
      go_at_call 37
      refine (HU.out _ HST6.out.bel).mono ?_
      rintro e w5 ⟨-, -, hx⟩
      obtain ⟨vc, rfl, hst7⟩ := hx HE0.out
      have hst8 := HST6.out.joined hst7
      have HST8 := Lib.hid hst8
      clear g0 g1 g2 z0 z1 z2 hst7 HST6 hx
      obtain ⟨g0, g1, g2⟩ := hst8.at3 4 rfl
      obtain ⟨z0, z1, z2⟩ := hst8.at3 3 rfl
      clear hst8
      go_wp2_with (fail)
      go_at_call 38
      refine (HC.out _ HST8.out.bel).mono ?_
      rintro e w6 ⟨rfl, hb6⟩
      have he0 := HE0.out
      subst he0
      have hst9 := HST8.out.call hb6
      have HST9 := Lib.hid hst9
      clear g0 g1 g2 z0 z1 z2 hb6 HST8
      obtain ⟨g0, g1, g2⟩ := hst9.at3 4 rfl
      obtain ⟨z0, z1, z2⟩ := hst9.at3 3 rfl
      clear hst9
      go_wp2_with (fail)
      go_at_call 39
      refine (HRY.out _ HST9.out.bel).mono ?_
      rintro e w7 ⟨vy, rfl, hst10⟩
      have hst11 := HST9.out.joined hst10
      have HST11 := Lib.hid hst11
      have L1 := Lib.hid (Tr.numEnc hst11 0 rfl HB1.out)
      have L2 := Lib.hid (Tr.numEnc hst11 3 rfl HB1.out)
      clear g0 g1 g2 z0 z1 z2 hst10 HST9 hst11
      go_wp2_with (fail)
      go_at_call 27
      refine (Tr.eqInts _ L2.out L1.out).mono ?_
      rintro e w8 ⟨rfl, hb8⟩
      have hst12 := HST11.out.call hb8
      have HST12 := Lib.hid hst12
      obtain ⟨z0, z1, z2⟩ := hst12.at3 4 rfl
      clear hst12 HST11 hb8 L1 L2
      go_wp2_with (fail)
      go_at_call 41
      refine (HRD.out _ HST12.out.bel).mono ?_
      rintro e w9 ⟨vd, rfl, hst13⟩
      have hst14 := HST12.out.joined hst13
      have HST14 := Lib.hid hst14
      have L1 := Lib.hid (Tr.evtEnc hst14 0 rfl HB2.out)
      have L2 := Lib.hid (Tr.evtEnc hst14 3 rfl HB2.out)
      clear z0 z1 z2 hst13 HST12 hst14
      go_wp2_with (fail)
      go_at_call 40
      refine (Tr.eqEvts _ L2.out L1.out).mono ?_
      rintro e w10 ⟨rfl, hb10⟩
      have hst15 := HST14.out.call hb10
      have HST15 := Lib.hid hst15
      obtain ⟨z0, z1, z2⟩ := hst15.at3 5 rfl
      clear hst15 HST14 hb10 L1 L2
      go_wp2_with (fail)
      go_at_call 41
      refine (HRU.out _ HST15.out.bel).mono ?_
      rintro e w11 ⟨vu, rfl, hst16⟩
      have hst17 := HST15.out.joined hst16
      have HST17 := Lib.hid hst17
      have L1 := Lib.hid (Tr.evtEnc hst17 0 rfl HB3.out)
      have L2 := Lib.hid (Tr.evtEnc hst17 3 rfl HB3.out)
      clear z0 z1 z2 hst16 HST15 hst17
      go_wp2_with (fail)
      go_at_call 40
      refine (Tr.eqEvts _ L2.out L1.out).mono ?_
      rintro e w12 ⟨rfl, hb12⟩
      have HST18 := Lib.hid (HST17.out.call hb12)
      clear HST17 hb12 L1 L2
      go_wp2
      go_ret
      exact ⟨rfl, HST18.out.bel⟩
    · obtain ⟨E, hE⟩ : ∃ E, Tr.err tg ng l n t = E := ⟨_, rfl⟩
      have hEL := HEL.out
      rw [hE] at hEL
      rw [← hEL] at he HT
      rw [hE] at HY HD HU HC
      have HNE := Lib.hid he
      have hne : (E == 0) = false := by rw [beq_eq_false_iff_ne]; exact he
      have hne2 : (E != 0) = true := by simpa using he
      generalize Tr.eachL (β := Int) (fun _ => []) (fun _ => []) (fun t _ => [t]) l n t = XY at *
      generalize Tr.ev true n t = XD at *
      generalize Tr.ev false n t = XU at *
      clear hst hp hp2 ht hk hcs hm hFF hPP hTT hg he HEL hE hEL
      go_enter Try.func8, Try.ntmps8
      go_wp2_with (fail)
      go_at_call 33
      refine (HG.out _ HST.out.bel).mono ?_
      rintro e w1 ⟨rfl, hb1⟩
      rw [HGR.out]
      have hst1 := HST.out.call hb1
      have HST1 := Lib.hid hst1
      clear g0 g1 g2 z0 z1 z2 hb1 HST
      obtain ⟨g0, g1, g2⟩ := hst1.at3 1 rfl
      obtain ⟨z0, z1, z2⟩ := hst1.at3 0 rfl
      clear hst1
      go_wp2_with (fail)
      go_at_call 34
      refine (HT.out _ HST1.out.bel).mono ?_
      rintro e w2 ⟨rfl, hb2⟩
      have hst2 := HST1.out.call hb2
      have HST2 := Lib.hid hst2
      clear g0 g1 g2 z0 z1 z2 hb2 HST1
      obtain ⟨g0, g1, g2⟩ := hst2.at3 1 rfl
      obtain ⟨z0, z1, z2⟩ := hst2.at3 0 rfl
      clear hst2
      go_wp2_with (fail)
      go_at_call 35
      refine (HY.out _ HST2.out.bel).mono ?_
      rintro e w3 ⟨hb, hx, -⟩
      obtain rfl := hx HNE.out
      have hst3 := HST2.out.call hb
      have HST3 := Lib.hid hst3
      clear g0 g1 g2 z0 z1 z2 hb HST2 hx
      obtain ⟨g0, g1, g2⟩ := hst3.at3 1 rfl
      obtain ⟨z0, z1, z2⟩ := hst3.at3 0 rfl
      clear hst3
      go_wp2_with (fail)
      go_at_call 36
      refine (HD.out _ HST3.out.bel).mono ?_
      rintro e w4 ⟨hb, hx, -⟩
      obtain rfl := hx HNE.out
      have hst4 := HST3.out.call hb
      have HST4 := Lib.hid hst4
      clear g0 g1 g2 z0 z1 z2 hb HST3 hx
      obtain ⟨g0, g1, g2⟩ := hst4.at3 1 rfl
      obtain ⟨z0, z1, z2⟩ := hst4.at3 0 rfl
      clear hst4
      go_wp2_with (fail)
      go_at_call 37
      refine (HU.out _ HST4.out.bel).mono ?_
      rintro e w5 ⟨hb, hx, -⟩
      obtain rfl := hx HNE.out
      have hst5 := HST4.out.call hb
      have HST5 := Lib.hid hst5
      clear g0 g1 g2 z0 z1 z2 hb HST4 hx
      obtain ⟨g0, g1, g2⟩ := hst5.at3 1 rfl
      obtain ⟨z0, z1, z2⟩ := hst5.at3 0 rfl
      clear hst5
      go_wp2_with (fail)
      go_at_call 38
      refine (HC.out _ HST5.out.bel).mono ?_
      rintro e w6 ⟨rfl, hb⟩
      have HST6 := Lib.hid (HST5.out.call hb)
      clear g0 g1 g2 z0 z1 z2 hb HST5
      go_wp2
      go_ret
      exact ⟨rfl, HST6.out.bel⟩
  · have hEL := Tr.err_gr (n := n) (t := t) hg
    rw [hEL] at HY HD HU HC
    have HNE := Lib.hid hg
    have hne : (Gr.err tg ng l == 0) = false := by rw [beq_eq_false_iff_ne]; exact hg
    have hne2 : (Gr.err tg ng l != 0) = true := by simpa using hg
    generalize Gr.err tg ng l = E at *
    generalize Tr.eachL (β := Int) (fun _ => []) (fun _ => []) (fun t _ => [t]) l n t = XY at *
    generalize Tr.ev true n t = XD at *
    generalize Tr.ev false n t = XU at *
    clear hst hp hp2 ht hk hcs hm hFF hPP hTT hg hEL
    go_enter Try.func8, Try.ntmps8
    go_wp2_with (fail)
    go_at_call 33
    refine (HG.out _ HST.out.bel).mono ?_
    rintro e w1 ⟨rfl, hb1⟩
    have hst1 := HST.out.call hb1
    have HST1 := Lib.hid hst1
    clear g0 g1 g2 z0 z1 z2 hb1 HST
    obtain ⟨g0, g1, g2⟩ := hst1.at3 1 rfl
    obtain ⟨z0, z1, z2⟩ := hst1.at3 0 rfl
    clear hst1
    go_wp2_with (fail)
    go_at_call 35
    refine (HY.out _ HST1.out.bel).mono ?_
    rintro e w2 ⟨hb, hx, -⟩
    obtain rfl := hx HNE.out
    have hst2 := HST1.out.call hb
    have HST2 := Lib.hid hst2
    clear g0 g1 g2 z0 z1 z2 hb HST1 hx
    obtain ⟨g0, g1, g2⟩ := hst2.at3 1 rfl
    obtain ⟨z0, z1, z2⟩ := hst2.at3 0 rfl
    clear hst2
    go_wp2_with (fail)
    go_at_call 36
    refine (HD.out _ HST2.out.bel).mono ?_
    rintro e w3 ⟨hb, hx, -⟩
    obtain rfl := hx HNE.out
    have hst3 := HST2.out.call hb
    have HST3 := Lib.hid hst3
    clear g0 g1 g2 z0 z1 z2 hb HST2 hx
    obtain ⟨g0, g1, g2⟩ := hst3.at3 1 rfl
    obtain ⟨z0, z1, z2⟩ := hst3.at3 0 rfl
    clear hst3
    go_wp2_with (fail)
    go_at_call 37
    refine (HU.out _ HST3.out.bel).mono ?_
    rintro e w4 ⟨hb, hx, -⟩
    obtain rfl := hx HNE.out
    have hst4 := HST3.out.call hb
    have HST4 := Lib.hid hst4
    clear g0 g1 g2 z0 z1 z2 hb HST3 hx
    obtain ⟨g0, g1, g2⟩ := hst4.at3 1 rfl
    obtain ⟨z0, z1, z2⟩ := hst4.at3 0 rfl
    clear hst4
    go_wp2_with (fail)
    go_at_call 38
    refine (HC.out _ HST4.out.bel).mono ?_
    rintro e w5 ⟨rfl, hb⟩
    have HST5 := Lib.hid (HST4.out.call hb)
    clear g0 g1 g2 z0 z1 z2 hb HST4
    go_wp2
    go_ret
    exact ⟨rfl, HST5.out.bel⟩

/-- A tree, however tall. -/
def Enc.tree : Enc Tr where
  size := 3
  R := fun F w cs t => ∃ n, (Tr.enc n).R F w cs t
  len := fun ⟨n, h⟩ => by rw [(Tr.enc n).len h, Tr.enc_size]
  mono := fun ⟨n, h⟩ hF hb => ⟨n, Enc.mono _ h hF hb⟩
theorem opens_anyTree : Opens Try.prog 71 Enc.tree := by
  constructor
  intro H enc w base spare held fuel cs x h hl
  obtain ⟨a, ha⟩ := (opens_tree (ts := 69) Try.underlying71 Try.underlying69 (by kernel_rfl) (by kernel_rfl) rfl rfl rfl (by kernel_rfl) (by kernel_rfl) (by kernel_rfl) Try.underlying3 Try.underlying3 fuel).h (Nat.le_refl _) h hl
  exact ⟨a, fuel, ha⟩
theorem treesSays_law (c0 c1 : Array Value) (g : Int × Int × List (Int × List (Int × Int))) (t : Tr) (w : World) (h0 : Enc.gram.R (fun b => b < w.heap.size) w c0.toList g) (h1 : Enc.tree.R (fun b => b < w.heap.size) w c1.toList t) :
    Calls Try.prog 8 #[.agg c0, .agg c1] w fun e w' => e = .returned (.bool true) ∧ Below w.heap.size w w' := by
  obtain ⟨vp, rfl, hp, _, _⟩ := gram_cells h0
  obtain ⟨n, hn⟩ := h1
  exact treesSays_walk _ _ vp _ _ n t c1 w (fun _ h => h) hp hn
end Go.Proofs.Ytldapomcjfkeeaa
