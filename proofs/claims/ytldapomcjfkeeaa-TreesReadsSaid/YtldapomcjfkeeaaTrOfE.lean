/-
  OfEvents of the reference.
-/
import Derived.Test.YtldapomcjfkeeaaTrRu
namespace Go.Proofs.Ytldapomcjfkeeaa
set_option linter.unusedVariables false
set_option linter.unusedSimpArgs false
open Go.ChangeShapes Go.WideShapes Go.ChangeAt Go.RowKit

set_option maxRecDepth 100000 in
set_option maxHeartbeats 16000000 in
theorem rOfEvents_any (d : Bool) (tg ng : Int) (vp : Value) (l : List (Int × List (Int × Int))) (F : Nat → Prop) (al : Option Addr) (cl : Nat) (E : List Tr.Ev) (eT : Tr → Int) (w : World) (hF : ∀ b, F b → b < w.heap.size) (hp : Enc.prods.R F w [vp] l) (hev : (Enc.two.sl 16).R F w [.slice al E.length cl] E) (he : Tr.IsErr tg ng l eT) (hg : Gr.err tg ng l = 0) :
    Calls Try.prog 53 #[.agg #[.int .i64 tg, .int .i64 ng, vp], .slice al E.length cl, .bool d] w (Tr.Gives (Tr.outc 0 eT E.length (if Tr.ord E 0 = true then (if d = true then Tr.ofDn false l E else Tr.ofRu l E) else none)) w) := by
  have hp2 := hp
  obtain ⟨ap, bp, op, cp, rfl, -, -, -⟩ := slProds hp2
  obtain ⟨hz0, hz1, hz2, hz3, hz40, hz8⟩ := Gr.err_zero hg
  have HZ8 := Lib.hid hz8
  have hst := ((St.init w).alloc #[.int .i64 tg, .int .i64 ng, .slice ap l.length cp] 68).alloc #[.int .i64 0, .int .i64 0, .slice none 0 0] 71
  simp only [World.size_alloc] at hst
  have HP := Lib.hid hp; have HEV := Lib.hid hev; have HIE := Lib.hid he; have HF := Lib.hid hF
  have HPW := Lib.hid (fun W (hW : Below w.heap.size w W) => (Enc.mono _ hp (fun _ h => h) (fun b hb => hW.block b (hF b hb)) : Enc.prods.R F W [.slice ap l.length cp] l))
  have HEW := Lib.hid (fun W (hW : Below w.heap.size w W) => (Enc.mono _ hev (fun _ h => h) (fun b hb => hW.block b (hF b hb)) : (Enc.two.sl 16).R F W [.slice al E.length cl] E))
  have HFW := Lib.hid (fun W (hW : Below w.heap.size w W) => (fun b hb => Nat.lt_of_lt_of_le (hF b hb) hW.size : ∀ b, F b → b < W.heap.size))
  have HST := Lib.hid hst
  obtain ⟨T, hTT⟩ : ∃ T, (if Tr.ord E 0 = true then (if d = true then Tr.ofDn false l E else Tr.ofRu l E) else none) = T := ⟨_, rfl⟩
  rw [hTT]
  have HTT := Lib.hid hTT
  clear hTT
  clear hp hp2 hev he hF hz0 hz1 hz2 hz3 hz8
  by_cases hN : 2000 < E.length
  · have hN2 : (2000 : Int) < E.length := by omega
    clear hst
    go_enter Try.func53, Try.ntmps53
    go_wp2
    obtain ⟨r0, r1, r2⟩ := HST.out.at3 0 rfl
    refine bodyPost_ret (Tr.resT rfl _ _ _ rfl r0 r1 r2) rfl ?_
    rw [Tr.outc_big hN]
    exact Tr.gives_nil HST.out
  · have HN := Lib.hid hN
    have hN2 : ¬ (2000 : Int) < E.length := by omega
    have hN3 : E.length ≤ 2000 := by omega
    have hst2 := hst.alloc #[.int .i64 0, .int .i64 0, .slice none 0 0] 71
    simp only [World.size_alloc] at hst2
    have HIO := Lib.hid (inOrder_any _ E _ F (HEW.out _ hst2.bel) hN3)
    have HST2 := Lib.hid hst2
    clear hst hst2 hN
    cases ho : Tr.ord E 0
    · have HT : Hid (T = none) := Lib.hid (by rw [← HTT.out, if_neg (by rw [ho]; simp)])
      rw [ho] at HIO
      go_enter Try.func53, Try.ntmps53
      go_wp2_with (fail)
      go_at_call 117
      refine HIO.out.mono ?_
      rintro e w1 ⟨rfl, hb1⟩
      have hst3 := HST2.out.call hb1
      obtain ⟨r0, r1, r2⟩ := hst3.at3 1 rfl
      have f0 := (hst3.nth 1 rfl).celFree 0; have f1 := (hst3.nth 1 rfl).celFree 1; have f2 := (hst3.nth 1 rfl).celFree 2
      have HSTE := Lib.hid (((hst3.pick [1] 3 rfl rfl).setCel 0 (.int .i64 0)).setCel 1 (.int .i64 0) |>.setCel 2 (.slice none 0 0))
      clear hst3 HIO HST2 hb1
      go_wp2
      obtain ⟨r0, r1, r2⟩ := HSTE.out.at3 0 rfl
      refine bodyPost_ret (Tr.resT rfl _ _ _ rfl r0 r1 r2) rfl ?_
      rw [HT.out, Tr.outc_none HN.out]
      exact Tr.gives_nil HSTE.out
    · rw [ho] at HIO
      cases d
      · obtain ⟨D, hD⟩ : ∃ D, Tr.ru l (E.length + 1) (2, 0) E.reverse = D := ⟨_, rfl⟩
        have HDD := Lib.hid hD
        have hcall := fun W (hW : Below w.heap.size w W) => rUp_any tg ng (.slice ap l.length cp) l hz40 (fun p hp => (HZ8.out p hp).1) (fun p hp => (HZ8.out p hp).2.1) al cl E hN3 (E.length + 1) (2, 0) E.length W F (HFW.out W hW) (HPW.out W hW) (HEW.out W hW) (Nat.le_refl _) (by omega)
        rw [List.take_length, hD] at hcall
        have HCA := Lib.hid hcall
        clear hcall hD
        go_enter Try.func53, Try.ntmps53
        go_wp2_with (fail)
        go_at_call 117
        refine HIO.out.mono ?_
        rintro e w1 ⟨rfl, hb1⟩
        have hst3 := HST2.out.call hb1
        obtain ⟨g0, g1, g2⟩ := hst3.at3 2 rfl
        have HST3 := Lib.hid hst3
        clear hst3 hb1
        go_wp2_with (fail)
        go_at_call 119
        refine (HCA.out _ HST3.out.bel).mono ?_
        cases D with
        | none =>
          rintro e w2 ⟨hz, -⟩
          obtain ⟨a, b, ao, n', c', rfl, hst4⟩ := hz rfl
          have hst5 := HST3.out.joined hst4
          simp only [List.nil_append] at hst5
          have HT : Hid (T = none) := Lib.hid (by rw [← HTT.out, if_pos ho, if_neg (by simp)]; unfold Tr.ofRu; rw [HDD.out])
          obtain ⟨t0, t1, t2⟩ := hst5.at3 0 rfl
          have tf0 := (hst5.nth 0 rfl).celFree 0; have tf1 := (hst5.nth 0 rfl).celFree 1; have tf2 := (hst5.nth 0 rfl).celFree 2
          have hst8 := ((hst5.pick [0, 1, 2] 3 rfl rfl).setCel 0 (.int .i64 a)).setCel 1 (.int .i64 b) |>.setCel 2 (.slice ao n' c')
          obtain ⟨r0, r1, r2⟩ := hst8.at3 1 rfl
          have f0 := (hst8.nth 1 rfl).celFree 0; have f1 := (hst8.nth 1 rfl).celFree 1; have f2 := (hst8.nth 1 rfl).celFree 2
          have HSTE := Lib.hid (((hst8.pick [1] 3 rfl rfl).setCel 0 (.int .i64 0)).setCel 1 (.int .i64 0) |>.setCel 2 (.slice none 0 0))
          clear hst4 hst5 hst8 hz HCA HST3 HIO HST2 g0 g1 g2
          go_wp2
          obtain ⟨r0, r1, r2⟩ := HSTE.out.at3 0 rfl
          refine bodyPost_ret (Tr.resT rfl _ _ _ rfl r0 r1 r2) rfl ?_
          rw [HT.out, Tr.outc_none HN.out]
          exact Tr.gives_nil HSTE.out
        | some q =>
          rintro e w2 ⟨-, hz⟩
          obtain ⟨ao, n', c', tw', fp, rfl, h1, h2, h4, h5, hst4⟩ := hz q rfl
          have hst5 := (HST3.out.joined hst4).pick [1, 0, 2, 3] 4 rfl rfl
          obtain ⟨t0, t1, t2⟩ := hst5.at3 0 rfl
          have tf0 := (hst5.nth 0 rfl).celFree 0; have tf1 := (hst5.nth 0 rfl).celFree 1; have tf2 := (hst5.nth 0 rfl).celFree 2
          have hst8 := ((hst5.pick [0, 1, 2, 3] 4 rfl rfl).setCel 0 (.int .i64 q.1.prod)).setCel 1 (.int .i64 q.1.tok) |>.setCel 2 (.slice ao n' c')
          by_cases hr : q.2 = []
          · have HT : Hid (T = some q.1) := Lib.hid (by rw [← HTT.out, if_pos ho, if_neg (by simp)]; unfold Tr.ofRu; rw [HDD.out]; obtain ⟨t, r⟩ := q; simp only at hr; subst hr; rfl)
            obtain rfl : tw' = 0 := by
              rw [hr] at h1
              have := congrArg List.length h1
              rw [List.length_reverse, List.length_take, List.length_nil] at this
              omega
            obtain ⟨n, hn⟩ := Tr.any_of h4 h5 (hst8.encAt 1 rfl)
            have HRT := Lib.hid (rTree_any tg ng _ l (fun b => b < _) n q.1 #[.int .i64 q.1.prod, .int .i64 q.1.tok, .slice ao n' c'] _ (Enc.mono _ HP.out (fun b hb => Nat.lt_of_lt_of_le (HF.out b hb) hst8.bel.size) (fun b hb => hst8.bel.block b (HF.out b hb))) hn hg)
            have hEn := Tr.look_T HIE.out hg hn
            rw [hEn] at HRT
            have H4 := Lib.hid h4; have H5 := Lib.hid h5
            obtain ⟨t0, t1, t2⟩ := hst8.at3 0 rfl
            obtain ⟨g0, g1, g2⟩ := hst8.at3 3 rfl
            have HST8 := Lib.hid hst8
            clear hst8 hn hEn h4 h5 hst4 hst5 hz HCA HST3 HIO HST2 h1 h2
            by_cases hE0 : eT q.1 = 0
            · have HE0 := Lib.hid hE0
              go_wp2_with (fail)
              go_at_call 34
              refine HRT.out.mono ?_
              rintro e w8 ⟨rfl, hb8⟩
              rw [hE0]
              clear hE0
              have hst9 := HST8.out.call hb8
              clear t0 t1 t2 g0 g1 g2 hb8
              obtain ⟨t0, t1, t2⟩ := hst9.at3 0 rfl
              obtain ⟨r0, r1, r2⟩ := hst9.at3 2 rfl
              have f0 := (hst9.nth 2 rfl).celFree 0; have f1 := (hst9.nth 2 rfl).celFree 1; have f2 := (hst9.nth 2 rfl).celFree 2
              have HSTE := Lib.hid (((hst9.pick [2, 1] 4 rfl rfl).setCel 0 (.int .i64 q.1.prod)).setCel 1 (.int .i64 q.1.tok) |>.setCel 2 (.slice ao n' c'))
              clear hst9
              go_wp2
              obtain ⟨r0, r1, r2⟩ := HSTE.out.at3 0 rfl
              refine bodyPost_ret (Tr.resT rfl _ _ _ rfl r0 r1 r2) rfl ?_
              rw [HT.out, Tr.outc_ok HN.out HE0.out]
              exact ⟨ao, n', c', fp, rfl, H4.out, H5.out, HSTE.out.nth 1 rfl⟩
            · have HE0 := Lib.hid hE0
              have hne : (eT q.1 != 0) = true := by simpa using hE0
              go_wp2_with (fail)
              go_at_call 34
              refine HRT.out.mono ?_
              rintro e w8 ⟨rfl, hb8⟩
              clear hE0
              have hst9 := HST8.out.call hb8
              clear t0 t1 t2 g0 g1 g2 hb8
              obtain ⟨r0, r1, r2⟩ := hst9.at3 2 rfl
              have f0 := (hst9.nth 2 rfl).celFree 0; have f1 := (hst9.nth 2 rfl).celFree 1; have f2 := (hst9.nth 2 rfl).celFree 2
              have HSTE := Lib.hid (((hst9.pick [2] 4 rfl rfl).setCel 0 (.int .i64 0)).setCel 1 (.int .i64 0) |>.setCel 2 (.slice none 0 0))
              clear hst9
              go_wp2
              obtain ⟨r0, r1, r2⟩ := HSTE.out.at3 0 rfl
              refine bodyPost_ret (Tr.resT rfl _ _ _ rfl r0 r1 r2) rfl ?_
              rw [HT.out, Tr.outc_bad HN.out HE0.out]
              exact Tr.gives_nil HSTE.out
          · have HT : Hid (T = none) := Lib.hid (by
              rw [← HTT.out, if_pos ho, if_neg (by simp)]; unfold Tr.ofRu; rw [HDD.out]
              obtain ⟨t, r⟩ := q
              cases r with
              | nil => exact absurd rfl hr
              | cons _ _ => rfl)
            have hne : ((tw' : Int) == 0) = false := by
              rw [beq_eq_false_iff_ne]
              intro h
              obtain rfl : tw' = 0 := by omega
              exact hr (by rw [← h1]; rfl)
            have hne2 : ¬ tw' = 0 := by
              rintro rfl
              exact hr (by rw [← h1]; rfl)
            obtain ⟨r0, r1, r2⟩ := hst8.at3 2 rfl
            have f0 := (hst8.nth 2 rfl).celFree 0; have f1 := (hst8.nth 2 rfl).celFree 1; have f2 := (hst8.nth 2 rfl).celFree 2
            have HSTE := Lib.hid (((hst8.pick [2] 4 rfl rfl).setCel 0 (.int .i64 0)).setCel 1 (.int .i64 0) |>.setCel 2 (.slice none 0 0))
            clear hst4 hst5 hst8 hz HCA HST3 HIO HST2 g0 g1 g2 h1 h4 h5
            go_wp2
            obtain ⟨r0, r1, r2⟩ := HSTE.out.at3 0 rfl
            refine bodyPost_ret (Tr.resT rfl _ _ _ rfl r0 r1 r2) rfl ?_
            rw [HT.out, Tr.outc_none HN.out]
            exact Tr.gives_nil HSTE.out
      · obtain ⟨D, hD⟩ : ∃ D, Tr.dn false l (E.length + 1) (2, 0) E 0 = D := ⟨_, rfl⟩
        have HDD := Lib.hid hD
        have hcall := fun W (hW : Below w.heap.size w W) => rDn_any tg ng (.slice ap l.length cp) l hz40 (fun p hp => (HZ8.out p hp).1) al cl E hN3 (E.length + 1) (2, 0) E 0 0 W F (HFW.out W hW) (HPW.out W hW) (HEW.out W hW) rfl (by omega) (by omega)
        rw [hD] at hcall
        have HCA := Lib.hid hcall
        clear hcall hD
        go_enter Try.func53, Try.ntmps53
        go_wp2_with (fail)
        go_at_call 117
        refine HIO.out.mono ?_
        rintro e w1 ⟨rfl, hb1⟩
        have hst3 := HST2.out.call hb1
        obtain ⟨g0, g1, g2⟩ := hst3.at3 2 rfl
        have HST3 := Lib.hid hst3
        clear hst3 hb1
        go_wp2_with (fail)
        go_at_call 118
        refine (HCA.out _ HST3.out.bel).mono ?_
        cases D with
        | none =>
          rintro e w2 ⟨hz, -⟩
          obtain ⟨a, b, ao, n', c', rfl, hst4⟩ := hz rfl
          have hst5 := HST3.out.joined hst4
          simp only [List.nil_append] at hst5
          have HT : Hid (T = none) := Lib.hid (by rw [← HTT.out, if_pos ho, if_pos (by simp)]; unfold Tr.ofDn; rw [HDD.out])
          obtain ⟨t0, t1, t2⟩ := hst5.at3 0 rfl
          have tf0 := (hst5.nth 0 rfl).celFree 0; have tf1 := (hst5.nth 0 rfl).celFree 1; have tf2 := (hst5.nth 0 rfl).celFree 2
          have hst8 := ((hst5.pick [0, 1, 2] 3 rfl rfl).setCel 0 (.int .i64 a)).setCel 1 (.int .i64 b) |>.setCel 2 (.slice ao n' c')
          have hm1 : ((-1 : Int) == (E.length : Int)) = false := by rw [beq_eq_false_iff_ne]; omega
          obtain ⟨r0, r1, r2⟩ := hst8.at3 1 rfl
          have f0 := (hst8.nth 1 rfl).celFree 0; have f1 := (hst8.nth 1 rfl).celFree 1; have f2 := (hst8.nth 1 rfl).celFree 2
          have HSTE := Lib.hid (((hst8.pick [1] 3 rfl rfl).setCel 0 (.int .i64 0)).setCel 1 (.int .i64 0) |>.setCel 2 (.slice none 0 0))
          clear hst4 hst5 hst8 hz HCA HST3 HIO HST2 g0 g1 g2
          go_wp2
          obtain ⟨r0, r1, r2⟩ := HSTE.out.at3 0 rfl
          refine bodyPost_ret (Tr.resT rfl _ _ _ rfl r0 r1 r2) rfl ?_
          rw [HT.out, Tr.outc_none HN.out]
          exact Tr.gives_nil HSTE.out
        | some q =>
          rintro e w2 ⟨-, hz⟩
          obtain ⟨ao, n', c', at', fp, rfl, h1, h2, h4, h5, hst4⟩ := hz q rfl
          have hst5 := (HST3.out.joined hst4).pick [1, 0, 2, 3] 4 rfl rfl
          obtain ⟨t0, t1, t2⟩ := hst5.at3 0 rfl
          have tf0 := (hst5.nth 0 rfl).celFree 0; have tf1 := (hst5.nth 0 rfl).celFree 1; have tf2 := (hst5.nth 0 rfl).celFree 2
          have hst8 := ((hst5.pick [0, 1, 2, 3] 4 rfl rfl).setCel 0 (.int .i64 q.1.prod)).setCel 1 (.int .i64 q.1.tok) |>.setCel 2 (.slice ao n' c')
          by_cases hr : q.2.1 = []
          · have HT : Hid (T = some q.1) := Lib.hid (by rw [← HTT.out, if_pos ho, if_pos (by simp)]; unfold Tr.ofDn; rw [HDD.out]; obtain ⟨t, r, c⟩ := q; simp only at hr; subst hr; rfl)
            obtain rfl : at' = E.length := by
              rw [hr] at h1
              have := congrArg List.length h1
              rw [List.length_drop, List.length_nil] at this
              omega
            have hat : ((E.length : Int) == (E.length : Int)) = true := by rw [beq_iff_eq]
            obtain ⟨n, hn⟩ := Tr.any_of h4 h5 (hst8.encAt 1 rfl)
            have HRT := Lib.hid (rTree_any tg ng _ l (fun b => b < _) n q.1 #[.int .i64 q.1.prod, .int .i64 q.1.tok, .slice ao n' c'] _ (Enc.mono _ HP.out (fun b hb => Nat.lt_of_lt_of_le (HF.out b hb) hst8.bel.size) (fun b hb => hst8.bel.block b (HF.out b hb))) hn hg)
            have hEn := Tr.look_T HIE.out hg hn
            rw [hEn] at HRT
            have H4 := Lib.hid h4; have H5 := Lib.hid h5
            obtain ⟨t0, t1, t2⟩ := hst8.at3 0 rfl
            obtain ⟨g0, g1, g2⟩ := hst8.at3 3 rfl
            have HST8 := Lib.hid hst8
            clear hst8 hn hEn h4 h5 hst4 hst5 hz HCA HST3 HIO HST2 h1 h2
            by_cases hE0 : eT q.1 = 0
            · have HE0 := Lib.hid hE0
              go_wp2_with (fail)
              go_at_call 34
              refine HRT.out.mono ?_
              rintro e w8 ⟨rfl, hb8⟩
              rw [hE0]
              clear hE0
              have hst9 := HST8.out.call hb8
              clear t0 t1 t2 g0 g1 g2 hb8
              obtain ⟨t0, t1, t2⟩ := hst9.at3 0 rfl
              obtain ⟨r0, r1, r2⟩ := hst9.at3 2 rfl
              have f0 := (hst9.nth 2 rfl).celFree 0; have f1 := (hst9.nth 2 rfl).celFree 1; have f2 := (hst9.nth 2 rfl).celFree 2
              have HSTE := Lib.hid (((hst9.pick [2, 1] 4 rfl rfl).setCel 0 (.int .i64 q.1.prod)).setCel 1 (.int .i64 q.1.tok) |>.setCel 2 (.slice ao n' c'))
              clear hst9
              go_wp2
              obtain ⟨r0, r1, r2⟩ := HSTE.out.at3 0 rfl
              refine bodyPost_ret (Tr.resT rfl _ _ _ rfl r0 r1 r2) rfl ?_
              rw [HT.out, Tr.outc_ok HN.out HE0.out]
              exact ⟨ao, n', c', fp, rfl, H4.out, H5.out, HSTE.out.nth 1 rfl⟩
            · have HE0 := Lib.hid hE0
              have hne : (eT q.1 != 0) = true := by simpa using hE0
              go_wp2_with (fail)
              go_at_call 34
              refine HRT.out.mono ?_
              rintro e w8 ⟨rfl, hb8⟩
              clear hE0
              have hst9 := HST8.out.call hb8
              clear t0 t1 t2 g0 g1 g2 hb8
              obtain ⟨r0, r1, r2⟩ := hst9.at3 2 rfl
              have f0 := (hst9.nth 2 rfl).celFree 0; have f1 := (hst9.nth 2 rfl).celFree 1; have f2 := (hst9.nth 2 rfl).celFree 2
              have HSTE := Lib.hid (((hst9.pick [2] 4 rfl rfl).setCel 0 (.int .i64 0)).setCel 1 (.int .i64 0) |>.setCel 2 (.slice none 0 0))
              clear hst9
              go_wp2
              obtain ⟨r0, r1, r2⟩ := HSTE.out.at3 0 rfl
              refine bodyPost_ret (Tr.resT rfl _ _ _ rfl r0 r1 r2) rfl ?_
              rw [HT.out, Tr.outc_bad HN.out HE0.out]
              exact Tr.gives_nil HSTE.out
          · have HT : Hid (T = none) := Lib.hid (by
              rw [← HTT.out, if_pos ho, if_pos (by simp)]; unfold Tr.ofDn; rw [HDD.out]
              obtain ⟨t, r, c⟩ := q
              cases r with
              | nil => exact absurd rfl hr
              | cons _ _ => rfl)
            have hne : ((at' : Int) == (E.length : Int)) = false := by
              rw [beq_eq_false_iff_ne]
              intro h
              exact hr (by rw [← h1]; exact List.drop_eq_nil_of_le (by omega))
            obtain ⟨r0, r1, r2⟩ := hst8.at3 2 rfl
            have f0 := (hst8.nth 2 rfl).celFree 0; have f1 := (hst8.nth 2 rfl).celFree 1; have f2 := (hst8.nth 2 rfl).celFree 2
            have HSTE := Lib.hid (((hst8.pick [2] 4 rfl rfl).setCel 0 (.int .i64 0)).setCel 1 (.int .i64 0) |>.setCel 2 (.slice none 0 0))
            clear hst4 hst5 hst8 hz HCA HST3 HIO HST2 g0 g1 g2 h1 h4 h5
            go_wp2
            obtain ⟨r0, r1, r2⟩ := HSTE.out.at3 0 rfl
            refine bodyPost_ret (Tr.resT rfl _ _ _ rfl r0 r1 r2) rfl ?_
            rw [HT.out, Tr.outc_none HN.out]
            exact Tr.gives_nil HSTE.out
end Go.Proofs.Ytldapomcjfkeeaa
