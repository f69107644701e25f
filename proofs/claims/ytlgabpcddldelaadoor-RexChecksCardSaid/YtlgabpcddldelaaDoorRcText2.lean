/-
  RexText of the reference, whole.
-/
import Derived.Test.YtlgabpcddldelaaDoorRcText
import Derived.Test.YtlgabpcddldelaaDoorRcShown
namespace Go.Proofs.YtlgabpcddldelaaDoor
set_option linter.unusedVariables false
set_option linter.unusedSimpArgs false
open Go.ChangeShapes Go.WideShapes Go.ChangeAt Go.RowKit

set_option maxRecDepth 100000 in
set_option maxHeartbeats 8000000 in
theorem rText_step (w0 : World) (F : Nat → Prop) (n : Nat) (ih : Rcs.RShows w0 F n) : Rcs.RShows w0 F (n + 1) := by
  intro t cs W ht hg hc hB
  obtain ⟨n', hn, vk, hcs, -, hok, hk⟩ := Rx.opened ht
  obtain rfl : n = n' := by omega
  obtain ⟨a0, a1, a2, a3, hws⟩ := Cs.okFour hok
  have hcs2 : cs = #[.int .i64 t.kind, .int .u64 a0, .int .u64 a1, .int .u64 a2, .int .u64 a3, vk] := by
    apply Array.toList_inj.1
    rw [hcs, Rx.cel, hws]; rfl
  subst hcs2
  obtain ⟨ak, bk, ok, ck, rfl, -, k3, k4⟩ := Rx.kidsAt hk
  have HST := Lib.hid ((St.init W).alloc #[.int .i64 t.kind, .int .u64 a0, .int .u64 a1, .int .u64 a2, .int .u64 a3, .slice ak t.kids.length ck] 42)
  obtain ⟨T, hT2⟩ : ∃ T, Rcs.sh (n + 1) t = T := ⟨_, rfl⟩
  have hsz := Rcs.sh_size hg
  rw [hT2] at hsz ⊢
  rw [Rcs.sh, hws] at hT2
  have hkn := Rx.good_kind hg
  have hgk := fun i (hi : i < t.kids.length) => Rcs.good_kid (i := i) hg hi
  have hc1 := fun h => Rcs.kids1 (f := n) (t := t) h
  have hc2 := fun h => Rcs.kids2 (f := n) (t := t) h
  rw [hws] at hok
  have HOK := Lib.hid hok
  generalize Rx.cnt (n + 1) t = cn at *
  have HKN := Lib.hid (show (((t.kind = 1 ∨ t.kind = 2) ∧ t.kids.length = 0) ∨ (t.kind = 3 ∧ t.kids.length = 0) ∨ (t.kind = 6 ∧ t.kids.length = 1) ∨ ((t.kind = 4 ∨ t.kind = 5) ∧ t.kids.length = 2)) by
    rcases hkn with ⟨h1, h2, _⟩ | ⟨h1, h2, _⟩ | ⟨h1, h2, _⟩ | ⟨h1, h2, _⟩
    · exact .inl ⟨h1, by rw [h2]; rfl⟩
    · exact .inr (.inl ⟨h1, by rw [h2]; rfl⟩)
    · exact .inr (.inr (.inl ⟨h1, h2⟩))
    · exact .inr (.inr (.inr ⟨h1, h2⟩)))
  have HK := Lib.hid hk; have HG := Lib.hid hgk; have IH := Lib.hid ih; have HBW := Lib.hid hB; have HN1 := Lib.hid hc1; have HN2 := Lib.hid hc2; have HT2 := Lib.hid hT2
  clear ih ht hg hB hok hk hws hkn hgk hc1 hc2 hT2 hcs hn k3 k4 hsz
  generalize t.kind = kd at *
  generalize t.kids = kl at *
  have hcf := fun args W => Fc.callC2 (c := 49) Tryd.func49 (by kernel_rfl) (by kernel_rfl) args W
  have hT2 := HT2.out
  obtain ⟨y0, y1, y2, y3, y4, y5⟩ := Rx.cel6 HST.out 0 rfl
  clear HT2
  rcases HKN.out with ⟨hkd, hkl⟩ | ⟨hkd, hkl⟩ | ⟨hkd, hkl⟩ | ⟨hkd, hkl⟩
  · clear HKN hcf hkl
    rcases hkd with hkd | hkd
    · subst hkd
      rw [if_neg (by decide), if_pos rfl] at hT2
      subst hT2
      go_enter Tryd.func28, Tryd.ntmps28
      go_wp2
      go_ret
      exact ⟨rfl, HST.out.bel⟩
    · subst hkd
      rw [if_pos rfl] at hT2
      subst hT2
      go_enter Tryd.func28, Tryd.ntmps28
      go_wp2
      go_ret
      exact ⟨rfl, HST.out.bel⟩
  · clear HKN hcf hkl
    subst hkd
    rw [if_neg (by decide), if_neg (by decide), if_pos rfl] at hT2
    have hinv : Cs.inv [a0, a1, a2, a3] = Cs.of (fun b => !Dm.mem [a0, a1, a2, a3] b) := Cs.inv_eq HOK.out
    have HSI := Lib.hid (fun W => rSize_any [a0, a1, a2, a3] HOK.out W)
    have HRU := Lib.hid (fun W => rRuns_any [a0, a1, a2, a3] HOK.out W)
    have HHA := Lib.hid (fun W => Cs.has_words [a0, a1, a2, a3] HOK.out 10 (by decide) W)
    have HWH := Lib.hid (fun W' h => rWhere_any 52 #[.pointer (some ⟨W.heap.size, 0, none⟩)] (fun b => !Dm.mem [a0, a1, a2, a3] b) W W' [aCel W.heap.size 42 #[.int .i64 3, .int .u64 a0, .int .u64 a1, .int .u64 a2, .int .u64 a3, .slice ak kl.length ck]] (fun x hx W2 ν h' => rTextNot_any a0 a1 a2 a3 HOK.out 3 _ W W2 W.heap.size x hx ν h') (fun args W => Fc.callC2 Tryd.func52 (by kernel_rfl) (by kernel_rfl) args W) h)
    have HRN := Lib.hid (fun W => rRuns_any (Cs.of (fun b => !Dm.mem [a0, a1, a2, a3] b)) (Cs.ok_of _) W)
    rw [show Rct.runs (Dm.mem (Cs.of (fun b => !Dm.mem [a0, a1, a2, a3] b))) = Rct.runs (fun b => !Dm.mem [a0, a1, a2, a3] b) from Rct.runs_congr fun x hx => by rw [Cs.mem_of hx]] at HRN
    obtain ⟨i0, i1, i2, i3, hi⟩ := Cs.okFour (Cs.ok_of (fun b => !Dm.mem [a0, a1, a2, a3] b))
    rw [hi, show Cs.clV [i0, i1, i2, i3] = .agg #[.int .u64 i0, .int .u64 i1, .int .u64 i2, .int .u64 i3] from rfl] at HWH HRN
    rw [show Cs.clV [a0, a1, a2, a3] = .agg #[.int .u64 a0, .int .u64 a1, .int .u64 a2, .int .u64 a3] from rfl] at HSI HRU HHA
    rw [show ((10 : Nat) : Int) = 10 from rfl] at HHA
    unfold Rct.cls at hT2
    clear hi hinv
    generalize Dm.mem [a0, a1, a2, a3] = p at *
    have hr1 := Rct.runs_size (p := p)
    have hr2 := Rct.runs_size (p := fun b => !p b)
    have hlen := Rct.lst_len (p := p)
    generalize (Rct.runs fun b => !p b) = rN at *
    generalize Rct.runs p = rP at *
    generalize (Rct.lst p).length = nn at *
    generalize p 10 = b10 at *
    have hadd1 : ∀ W, (Op.stringOp .add ⟨#[91, 94]⟩ rN).run Tryd.prog W = .ok (.string (⟨#[91, 94]⟩ ++ rN)) W := fun W => run_string_add_sum W _ _ (by show 2 + _ ≤ _; omega)
    have hadd2 : ∀ W, (Op.stringOp .add (⟨#[91, 94]⟩ ++ rN) ⟨#[93]⟩).run Tryd.prog W = .ok (.string (⟨#[91, 94]⟩ ++ rN ++ ⟨#[93]⟩)) W := fun W => run_string_add_sum W _ _ (by rw [ByteArray.size_append]; show 2 + _ + 1 ≤ _; omega)
    have hadd3 : ∀ W, (Op.stringOp .add ⟨#[91]⟩ rP).run Tryd.prog W = .ok (.string (⟨#[91]⟩ ++ rP)) W := fun W => run_string_add_sum W _ _ (by show 1 + _ ≤ _; omega)
    have hadd4 : ∀ W, (Op.stringOp .add (⟨#[91]⟩ ++ rP) ⟨#[93]⟩).run Tryd.prog W = .ok (.string (⟨#[91]⟩ ++ rP ++ ⟨#[93]⟩)) W := fun W => run_string_add_sum W _ _ (by rw [ByteArray.size_append]; show 1 + _ + 1 ≤ _; omega)
    go_enter Tryd.func28, Tryd.ntmps28
    go_wp2_with (fail)
    go_at_call 50
    refine (HSI.out _).mono ?_
    rintro e w1 ⟨rfl, hb1⟩
    have HST := Lib.hid (HST.out.call hb1)
    clear hb1 HSI y0 y1 y2 y3 y4 y5
    obtain ⟨y0, y1, y2, y3, y4, y5⟩ := Rx.cel6 HST.out 0 rfl
    by_cases h1 : nn = 1
    · have h1b : ((nn : Int) == 1) = true := by rw [beq_iff_eq]; omega
      rw [if_pos h1] at hT2
      subst hT2
      clear h1
      go_wp2_with (fail)
      go_at_call 51
      refine (HRU.out _).mono ?_
      rintro e w2 ⟨rfl, hb2⟩
      have HST := Lib.hid (HST.out.call hb2)
      clear hb2
      go_wp2
      go_ret
      exact ⟨rfl, HST.out.bel⟩
    · have e1 : ((nn : Int) == 1) = false := by rw [beq_eq_false_iff_ne]; omega
      rw [if_neg h1] at hT2
      clear h1
      by_cases h2 : nn = 255
      · have e2 : ((nn : Int) == 255) = true := by rw [beq_iff_eq]; omega
        have h3I : (128 : Int) < nn := by omega
        have HT := Lib.hid hT2
        have HN2 := Lib.hid h2
        clear hT2 h2
        go_wp2_with (fail)
        go_at_call 9
        refine (HHA.out _).mono ?_
        rintro e w2 ⟨rfl, hb2⟩
        have HST := Lib.hid (HST.out.call hb2)
        clear hb2 y0 y1 y2 y3 y4 y5
        obtain ⟨y0, y1, y2, y3, y4, y5⟩ := Rx.cel6 HST.out 0 rfl
        cases b10
        · have HX := Lib.hid (show T = ⟨#[46]⟩ by rw [← HT.out, if_pos ⟨HN2.out, rfl⟩])
          go_wp2
          go_ret
          exact ⟨by rw [HX.out]; rfl, HST.out.bel⟩
        · have HX := Lib.hid (show T = ⟨#[91, 94]⟩ ++ rN ++ ⟨#[93]⟩ by rw [← HT.out, if_neg (by simp), if_pos (by omega)])
          go_wp2_with (fail)
          go_at_call 11
          refine (HWH.out _ HST.out).mono ?_
          rintro e w3 ⟨rfl, hb3⟩
          have HST := Lib.hid (HST.out.call hb3)
          clear hb3 y0 y1 y2 y3 y4 y5
          go_wp2_with (fail)
          go_at_call 51
          refine (HRN.out _).mono ?_
          rintro e w4 ⟨rfl, hb4⟩
          have HST := Lib.hid (HST.out.call hb4)
          clear hb4
          go_wp2
          go_ret
          exact ⟨by rw [HX.out]; rfl, HST.out.bel⟩
      · have e2 : ((nn : Int) == 255) = false := by rw [beq_eq_false_iff_ne]; omega
        rw [if_neg (by omega)] at hT2
        by_cases h3 : 128 < nn
        · have h3I : (128 : Int) < nn := by omega
          rw [if_pos h3] at hT2
          have HX := Lib.hid hT2.symm
          clear hT2 h2
          go_wp2_with (fail)
          go_at_call 11
          refine (HWH.out _ HST.out).mono ?_
          rintro e w3 ⟨rfl, hb3⟩
          have HST := Lib.hid (HST.out.call hb3)
          clear hb3 y0 y1 y2 y3 y4 y5
          go_wp2_with (fail)
          go_at_call 51
          refine (HRN.out _).mono ?_
          rintro e w4 ⟨rfl, hb4⟩
          have HST := Lib.hid (HST.out.call hb4)
          clear hb4
          go_wp2
          go_ret
          exact ⟨by rw [HX.out]; rfl, HST.out.bel⟩
        · have h3I : ¬ (128 : Int) < nn := by omega
          rw [if_neg h3] at hT2
          have HX := Lib.hid hT2.symm
          clear hT2 h2
          go_wp2_with (fail)
          go_at_call 51
          refine (HRU.out _).mono ?_
          rintro e w2 ⟨rfl, hb2⟩
          have HST := Lib.hid (HST.out.call hb2)
          clear hb2
          go_wp2
          go_ret
          exact ⟨by rw [HX.out]; rfl, HST.out.bel⟩
  · clear HKN
    subst hkd
    rw [if_neg (by decide), if_neg (by decide), if_neg (by decide), if_pos rfl] at hT2
    have HI0 := Lib.hid (fun (ks : List Int) (hl : ks.length ≤ 3) (ao : Option Addr) (b off cap : Nat) (W' : World) (hB : Below w0.heap.size w0 W') (hr : W'.cell? ⟨W.heap.size, 5, none⟩ = some (.slice ak kl.length ck)) hao hcell => rIn_any w0 F n IH.out kl ak bk ok ck HK.out 0 (by omega) (HG.out 0 (by omega)) (by have := HN1.out hkl; omega) ks hl ao b off cap W.heap.size W' hB hr hao hcell)
    have hs0 := Rcs.sh_size (HG.out 0 (by omega))
    have hcn0 : Rx.cnt n (kl.getD 0 Rx.nil) ≤ 100 := by have := HN1.out hkl; omega
    rw [show ((0 : Nat) : Int) = 0 from rfl] at HI0
    generalize Rcs.sh n (kl.getD 0 Rx.nil) = X0 at *
    generalize (kl.getD 0 Rx.nil).kind = kd0 at *
    have HC0 := Lib.hid (fun g W' hB hr hc => HI0.out [4, 5, 6] (by decide) (some ⟨g, 0, none⟩) g 0 3 W' hB hr (fun _ => rfl) hc)
    have hv0 := Rcs.brk_size [4, 5, 6] kd0 X0
    obtain ⟨V0, hV0⟩ : ∃ V, Rcs.brk [4, 5, 6] kd0 X0 = V := ⟨_, rfl⟩
    rw [hV0] at hv0 hT2 HC0
    clear hV0
    have hadd1 : ∀ W, (Op.stringOp .add V0 ⟨#[42]⟩).run Tryd.prog W = .ok (.string (V0 ++ ⟨#[42]⟩)) W := fun W => run_string_add_sum W _ _ (by show _ + 1 ≤ _; omega)
    have HX := Lib.hid hT2.symm
    clear hT2 HI0 hkl
    have hst2 := HST.out.alloc #[.int .i64 4, .int .i64 5, .int .i64 6] 3
    simp only [World.size_alloc] at hst2
    have HST2 := Lib.hid hst2
    clear hst2
    have z5 := (Rx.cel6 HST2.out 1 rfl).2.2.2.2.2
    have HC := Lib.hid (HC0.out _ _ (HBW.out.trans (HST2.out.bel.mono HBW.out.size)) z5 (Rcs.cels (ks := [4, 5, 6]) HST2.out 0 rfl))
    go_enter Tryd.func28, Tryd.ntmps28
    go_wp2_with (fail)
    go_at_call 49
    refine (HC.out).mono ?_
    rintro e w1 ⟨rfl, hb1⟩
    have HST := Lib.hid (HST2.out.call hb1)
    clear hb1
    go_wp2
    go_ret
    exact ⟨by rw [HX.out]; rfl, HST.out.bel⟩
  · clear HKN
    have HI0 := Lib.hid (fun (ks : List Int) (hl : ks.length ≤ 3) (ao : Option Addr) (b off cap : Nat) (W' : World) (hB : Below w0.heap.size w0 W') (hr : W'.cell? ⟨W.heap.size, 5, none⟩ = some (.slice ak kl.length ck)) hao hcell => rIn_any w0 F n IH.out kl ak bk ok ck HK.out 0 (by omega) (HG.out 0 (by omega)) (by have := HN2.out hkl; omega) ks hl ao b off cap W.heap.size W' hB hr hao hcell)
    have hs0 := Rcs.sh_size (HG.out 0 (by omega))
    have hcn0 : Rx.cnt n (kl.getD 0 Rx.nil) ≤ 100 := by have := HN2.out hkl; omega
    rw [show ((0 : Nat) : Int) = 0 from rfl] at HI0
    generalize Rcs.sh n (kl.getD 0 Rx.nil) = X0 at *
    generalize (kl.getD 0 Rx.nil).kind = kd0 at *
    have HI1 := Lib.hid (fun (ks : List Int) (hl : ks.length ≤ 3) (ao : Option Addr) (b off cap : Nat) (W' : World) (hB : Below w0.heap.size w0 W') (hr : W'.cell? ⟨W.heap.size, 5, none⟩ = some (.slice ak kl.length ck)) hao hcell => rIn_any w0 F n IH.out kl ak bk ok ck HK.out 1 (by omega) (HG.out 1 (by omega)) (by have := HN2.out hkl; omega) ks hl ao b off cap W.heap.size W' hB hr hao hcell)
    have hs1 := Rcs.sh_size (HG.out 1 (by omega))
    have hcn1 : Rx.cnt n (kl.getD 1 Rx.nil) ≤ 100 := by have := HN2.out hkl; omega
    rw [show ((1 : Nat) : Int) = 1 from rfl] at HI1
    generalize Rcs.sh n (kl.getD 1 Rx.nil) = X1 at *
    generalize (kl.getD 1 Rx.nil).kind = kd1 at *
    rcases hkd with hkd | hkd
    · subst hkd
      rw [if_neg (by decide), if_neg (by decide), if_neg (by decide), if_neg (by decide), if_pos rfl] at hT2
      have HC0 := Lib.hid (fun g W' hB hr hc => HI0.out [5] (by decide) (some ⟨g, 0, none⟩) g 0 1 W' hB hr (fun _ => rfl) hc)
      have HC1 := Lib.hid (fun g W' hB hr hc => HI1.out [5, 4] (by decide) (some ⟨g, 0, none⟩) g 0 2 W' hB hr (fun _ => rfl) hc)
      have hv0 := Rcs.brk_size [5] kd0 X0
      obtain ⟨V0, hV0⟩ : ∃ V, Rcs.brk [5] kd0 X0 = V := ⟨_, rfl⟩
      rw [hV0] at hv0 hT2 HC0
      clear hV0
      have hv1 := Rcs.brk_size [5, 4] kd1 X1
      obtain ⟨V1, hV1⟩ : ∃ V, Rcs.brk [5, 4] kd1 X1 = V := ⟨_, rfl⟩
      rw [hV1] at hv1 hT2 HC1
      clear hV1
      have hadd1 : ∀ W, (Op.stringOp .add V0 V1).run Tryd.prog W = .ok (.string (V0 ++ V1)) W := fun W => run_string_add_sum W _ _ (by omega)
      have HX := Lib.hid hT2.symm
      clear hT2 HI0 HI1 hkl
      have hst2 := HST.out.alloc #[.int .i64 5] 3
      simp only [World.size_alloc] at hst2
      have HST2 := Lib.hid hst2
      clear hst2
      have z5 := (Rx.cel6 HST2.out 1 rfl).2.2.2.2.2
      have HC := Lib.hid (HC0.out _ _ (HBW.out.trans (HST2.out.bel.mono HBW.out.size)) z5 (Rcs.cels (ks := [5]) HST2.out 0 rfl))
      go_enter Tryd.func28, Tryd.ntmps28
      go_wp2_with (fail)
      go_at_call 49
      refine (HC.out).mono ?_
      rintro e w1 ⟨rfl, hb1⟩
      have HST3 := Lib.hid ((HST2.out.call hb1).pick [1] 2 rfl rfl)
      clear hb1 HC z5 HST2
      have HST4 := Lib.hid (HST3.out.alloc #[.int .i64 5, .int .i64 4] 3)
      have z5 := (Rx.cel6 HST4.out 1 rfl).2.2.2.2.2
      have HC := Lib.hid (HC1.out _ _ (HBW.out.trans (HST4.out.bel.mono HBW.out.size)) z5 (Rcs.cels (ks := [5, 4]) HST4.out 0 rfl))
      go_wp2_with (fail)
      go_at_call 49
      refine (HC.out).mono ?_
      rintro e w2 ⟨rfl, hb2⟩
      have HST := Lib.hid (HST4.out.call hb2)
      clear hb2
      go_wp2
      go_ret
      exact ⟨by rw [HX.out]; rfl, HST.out.bel⟩
    · subst hkd
      rw [if_neg (by decide), if_neg (by decide), if_neg (by decide), if_neg (by decide), if_neg (by decide)] at hT2
      have HC0 := Lib.hid (fun W' hB hr => HI0.out [] (by decide) none 0 0 0 W' hB hr (fun h => absurd h (by decide)) (fun i hi => absurd hi (by simp)))
      have HC1 := Lib.hid (fun g W' hB hr hc => HI1.out [5] (by decide) (some ⟨g, 0, none⟩) g 0 1 W' hB hr (fun _ => rfl) hc)
      have hv0 := Rcs.brk_size [] kd0 X0
      obtain ⟨V0, hV0⟩ : ∃ V, Rcs.brk [] kd0 X0 = V := ⟨_, rfl⟩
      rw [hV0] at hv0 hT2 HC0
      clear hV0
      have hv1 := Rcs.brk_size [5] kd1 X1
      obtain ⟨V1, hV1⟩ : ∃ V, Rcs.brk [5] kd1 X1 = V := ⟨_, rfl⟩
      rw [hV1] at hv1 hT2 HC1
      clear hV1
      have hadd1 : ∀ W, (Op.stringOp .add V0 ⟨#[124]⟩).run Tryd.prog W = .ok (.string (V0 ++ ⟨#[124]⟩)) W := fun W => run_string_add_sum W _ _ (by show _ + 1 ≤ _; omega)
      have hadd2 : ∀ W, (Op.stringOp .add (V0 ++ ⟨#[124]⟩) V1).run Tryd.prog W = .ok (.string (V0 ++ ⟨#[124]⟩ ++ V1)) W := fun W => run_string_add_sum W _ _ (by rw [ByteArray.size_append]; show _ + 1 + _ ≤ _; omega)
      have HX := Lib.hid hT2.symm
      clear hT2 HI0 HI1 hkl
      have HST2 := Lib.hid HST.out
      have z5 := y5
      have HC := Lib.hid (HC0.out _ (HBW.out.trans (HST2.out.bel.mono HBW.out.size)) z5)
      go_enter Tryd.func28, Tryd.ntmps28
      go_wp2_with (fail)
      go_at_call 49
      refine (HC.out).mono ?_
      rintro e w1 ⟨rfl, hb1⟩
      have HST3 := Lib.hid ((HST2.out.call hb1).pick [0] 1 rfl rfl)
      clear hb1 HC z5 HST2
      have HST4 := Lib.hid (HST3.out.alloc #[.int .i64 5] 3)
      have z5 := (Rx.cel6 HST4.out 1 rfl).2.2.2.2.2
      have HC := Lib.hid (HC1.out _ _ (HBW.out.trans (HST4.out.bel.mono HBW.out.size)) z5 (Rcs.cels (ks := [5]) HST4.out 0 rfl))
      go_wp2_with (fail)
      go_at_call 49
      refine (HC.out).mono ?_
      rintro e w2 ⟨rfl, hb2⟩
      have HST := Lib.hid (HST4.out.call hb2)
      clear hb2
      go_wp2
      go_ret
      exact ⟨by rw [HX.out]; rfl, HST.out.bel⟩

theorem rText_all (w0 : World) (F : Nat → Prop) : ∀ n, Rcs.RShows w0 F n := by
  intro n
  induction n with
  | zero => intro t cs W ht; exact ht.elim
  | succ n ih => exact rText_step w0 F n ih
end Go.Proofs.YtlgabpcddldelaaDoor
